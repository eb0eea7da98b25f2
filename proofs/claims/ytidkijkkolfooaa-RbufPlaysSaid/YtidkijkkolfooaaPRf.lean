/- Buffers: what they hold, byte by byte. -/
import Derived.Test.YtidkijkkolfooaaPRe
namespace Go.V
open Go

theorem emod_two {x R : Int} (h0 : 0 ≤ x) (h1 : x < 2 * R) : x % R = if x < R then x else x - R := by
  split
  · rename_i h; exact Int.emod_eq_of_lt h0 h
  · rename_i h
    rw [show x = (x - R) + R by omega, Int.add_emod_right, Int.emod_eq_of_lt (by omega) (by omega)]; omega
/-- The byte so far behind the first one that was not read. -/
def bAt (bs : List Int) (beg o : Int) : Int := bs.getD (if beg + o < bs.length then beg + o else beg + o - bs.length).toNat 0
def pres (l : List T_sack_run) (w : Int) : Bool := l.any (inRun w)
theorem bAt_set {bs : List Int} {beg o oj v : Int} {i : Nat} (h0 : 0 ≤ beg) (h1 : beg < bs.length) (ho : 0 ≤ o) (ho' : o < bs.length) (hj : 0 ≤ oj) (hj' : oj < bs.length) (hi : (i : Int) = (beg + oj) % bs.length) :
    bAt (bs.set i v) beg o = if o = oj then v else bAt bs beg o := by
  rw [emod_two (by omega) (by omega)] at hi
  unfold bAt
  simp only [List.getD_eq_getElem?_getD, List.length_set, List.getElem?_set]
  by_cases e : o = oj
  · subst e
    rw [if_pos rfl]
    have : (if beg + o < bs.length then beg + o else beg + o - bs.length).toNat = i := by omega
    rw [this, if_pos rfl]
    have hl : i < bs.length := by
      split at hi <;> omega
    rw [if_pos hl]; rfl
  · rw [if_neg e, if_neg]
    intro h
    split at hi <;> split at h <;> omega
theorem insert_l1s (t : Int × List Int) (R n : Nat) (F s nn : Int) (hF : 0 ≤ F ∧ F < 4294967296) (hs : 0 ≤ s) (ht1 : t.1 = (F + s) % 4294967296) (hlen : s + t.2.length ≤ R - nn) : ∀ (d j : Nat), j + d = t.2.length → ∀ (b : T_rbuf_Buffer_o), Inv R n b → b.xBoard.xfirst = F → b.xn = nn → n ≤ 1000000 → ∀ k, d + n < k →
    ∃ bs, bs.length = R ∧ rbuf_Buffer_Insert.l1 k t j b = some ⟨b.xBoard, bs, b.xbegin, b.xn, b.xlast, b.xkept⟩ ∧ ∀ o : Int, 0 ≤ o → o < R → bAt bs b.xbegin o = if nn + s + j ≤ o ∧ o < nn + s + t.2.length ∧ pres b.xBoard.xruns (o - nn) = false then t.2.getD (o - nn - s).toNat 0 else bAt b.xbytes b.xbegin o := by
  intro d
  induction d with
  | zero =>
    intro j hj b h e1 e2 hn k hk
    obtain ⟨k, rfl⟩ : ∃ m, k = m + 1 := ⟨k - 1, by omega⟩
    rw [rbuf_Buffer_Insert.l1, if_f (by simpa using by omega)]
    refine ⟨b.xbytes, h.len, rfl, fun o h0 h1 => ?_⟩
    rw [if_neg (by omega)]
  | succ d ih =>
    intro j hj b h e1 e2 hn k hk
    obtain ⟨k, rfl⟩ : ∃ m, k = m + 1 := ⟨k - 1, by omega⟩
    have hlt : j < t.2.length := by omega
    have hc := h.cnt
    have hlen' := h.len
    have hR1 := h.R1
    have hR2 := h.R2
    have hb0 := h.b0
    have hb1 := h.b1
    have hn0 := h.n0
    have hn1 := h.n1
    have ea : U32 (t.1 + U32 (j : Int)) = (F + s + j) % 4294967296 := by rw [U32_id (x := (j : Int)) (by omega) (by omega), U32_def, ht1]; omega
    have eh : I64 (U32 (U32 (t.1 + U32 (j : Int)) - b.xBoard.xfirst)) = s + j := by
      rw [ea, U32_def, I64_id (by omega) (by omega)]; omega
    rw [rbuf_Buffer_Insert.l1, if_t (by simpa using by omega), bind_of (idx_at rfl hlt), bind_of (has_ok h.made (by omega) _ (by omega)), eh, I64_succ (by omega)]
    have hp : ∀ o : Int, o = nn + s + j → pres b.xBoard.xruns (o - nn) = b.xBoard.xruns.any (inRun (s + j)) := fun o ho => by
      unfold pres; rw [show o - nn = s + j by omega]
    cases hb : b.xBoard.xruns.any (inRun (s + j)) with
    | false =>
      rw [if_t (by rfl)]
      obtain ⟨i, x, h1, h2, h3⟩ := place_ok (b := b) h.made (by omega) (by omega) hb0 (by omega) hn0 (by omega) (U32 (t.1 + U32 (j : Int)))
      have hoff : (U32 (t.1 + U32 (j : Int)) - (b.xBoard.xfirst - b.xn)) % 4294967296 = nn + s + j := by rw [ea]; omega
      rw [hoff] at h3
      rw [h1, Option.bind_some]
      dsimp only
      obtain ⟨bs, k1, k2, k3⟩ := ih (j + 1) (by omega) (⟨b.xBoard, b.xbytes.set (Int.toNat (i : Int)) t.2[j], b.xbegin, b.xn, b.xlast, b.xkept⟩ : T_rbuf_Buffer_o)
        ⟨h.made, by simp [h.len], h.R1, h.R2, h.b0, h.b1, h.n0, h.n1, h.f0, h.f1, h.runs, h.cnt⟩ e1 e2 hn k (by omega)
      refine ⟨bs, k1, k2, fun o h0 h1' => ?_⟩
      rw [k3 o h0 h1']
      dsimp only
      rw [Int.toNat_natCast, bAt_set (oj := nn + s + j) hb0 (by omega) h0 (by omega) (by omega) (by omega) h3]
      by_cases ho : o = nn + s + j
      · rw [if_neg (by omega), if_pos ho, if_pos ⟨by omega, by omega, by rw [hp o ho]; exact hb⟩, show (o - nn - s).toNat = j by omega]
        rw [List.getD_eq_getElem?_getD, List.getElem?_eq_getElem hlt]; rfl
      · rw [if_neg ho]
        by_cases hc2 : nn + s + ((j + 1 : Nat) : Int) ≤ o ∧ o < nn + s + t.2.length ∧ pres b.xBoard.xruns (o - nn) = false
        · rw [if_pos hc2, if_pos ⟨by omega, hc2.2⟩]
        · rw [if_neg hc2, if_neg (fun hx => hc2 ⟨by omega, hx.2⟩)]
    | true =>
      rw [if_f (by rfl)]
      obtain ⟨bs, k1, k2, k3⟩ := ih (j + 1) (by omega) b h e1 e2 hn k (by omega)
      refine ⟨bs, k1, k2, fun o h0 h1' => ?_⟩
      rw [k3 o h0 h1']
      by_cases hc2 : nn + s + ((j + 1 : Nat) : Int) ≤ o ∧ o < nn + s + t.2.length ∧ pres b.xBoard.xruns (o - nn) = false
      · rw [if_pos hc2, if_pos ⟨by omega, hc2.2⟩]
      · rw [if_neg hc2, if_neg]
        rintro ⟨g1, g2, g3⟩
        by_cases ho : o = nn + s + j
        · rw [hp o ho, hb] at g3; cases g3
        · exact hc2 ⟨by omega, g2, g3⟩

/-- What of a piece is in the window: from which number of it on, and its bytes. -/
def winS (b : T_rbuf_Buffer_o) (a : Int) : Int := max (I32 (U32 (a - b.xBoard.xfirst))) 0
def winQ (b : T_rbuf_Buffer_o) (a : Int) (p : List Int) : List Int := (p.drop (max (-(I32 (U32 (a - b.xBoard.xfirst)))) 0).toNat).take (max (b.xbytes.length - b.xn - winS b a) 0).toNat

structure Ins (b b' : T_rbuf_Buffer_o) (s : Int) (q : List Int) (n : Int) : Prop where
  n0 : 0 ≤ n
  xn : b'.xn = b.xn + n
  first : b'.xBoard.xfirst = (b.xBoard.xfirst + n) % 4294967296
  beg : b'.xbegin = b.xbegin
  srt : Srt 1 b'.xBoard.xruns
  bytes : ∀ o : Int, 0 ≤ o → o < b.xbytes.length → bAt b'.xbytes b'.xbegin o = if b.xn + s ≤ o ∧ o < b.xn + s + q.length ∧ pres b.xBoard.xruns (o - b.xn) = false then q.getD (o - b.xn - s).toNat 0 else bAt b.xbytes b.xbegin o
  there : ∀ w : Int, 0 ≤ w → pres b'.xBoard.xruns w = (pres b.xBoard.xruns (w + n) || inRun (w + n) ⟨s, s + q.length⟩)
  gone : ∀ w : Int, 0 ≤ w → w < n → (pres b.xBoard.xruns w || inRun w ⟨s, s + q.length⟩) = true
  last : b'.xlast = if q.length = 0 then b.xlast else (b.xBoard.xfirst + s + q.length - 1) % 4294967296
  kept : b'.xkept = if q.length = 0 then b.xkept else true

theorem insert_spec {b : T_rbuf_Buffer_o} {R : Nat} {j : Nat} (h : Inv R j b) (hs : Srt 1 b.xBoard.xruns) (hj : j ≤ 1000000) {a : Int} (h0 : 0 ≤ a) (h1 : a < 4294967296) (p : List Int) (hp : p.length ≤ 140737488355328) {k : Nat} (hk : 8192 + j + 10 < k) :
    ∃ n b', rbuf_Buffer_Insert.f k b a p = some (n, b') ∧ Inv R (j + 1) b' ∧ Ins b b' (winS b a) (winQ b a p) n ∧ (winQ b a p = [] ∨ winS b a + (winQ b a p).length ≤ R - b.xn) := by
  have hI := h
  obtain ⟨hm, hl, hR1, hR2, hb0, hb1, hn0, hn1, hf0, hf1, hr, hc⟩ := h
  unfold rbuf_Buffer_Insert.f rbuf_Buffer_ok.f
  rw [Option.bind_some, if_f (by rfl), bind_of (within_ok hI h0 h1 p hp rfl)]
  have eq1 : ((p.drop (max (-(I32 (U32 (a - b.xBoard.xfirst)))) 0).toNat).take (max (R - b.xn - max (I32 (U32 (a - b.xBoard.xfirst))) 0) 0).toNat) = winQ b a p := by unfold winQ winS; rw [hl]
  rw [eq1]
  have es : max (I32 (U32 (a - b.xBoard.xfirst))) 0 = winS b a := rfl
  rw [es]
  dsimp only
  have hlen : (winQ b a p).length ≤ (max (R - b.xn - winS b a) 0).toNat := by unfold winQ; rw [hl]; exact List.length_take_le _ _
  have hs0 : 0 ≤ winS b a := by unfold winS; omega
  generalize winQ b a p = q at hlen ⊢
  generalize winS b a = s at hlen hs0 ⊢
  by_cases hq : q.length = 0
  · rw [if_t (by simp [hq])]
    have hq0 : q = [] := List.length_eq_zero_iff.1 hq
    refine ⟨0, b, rfl, ⟨hm, hl, hR1, hR2, hb0, hb1, hn0, hn1, hf0, hf1, hr, by omega⟩, ⟨by omega, by omega, by rw [Int.add_zero]; omega, rfl, hs, fun o g0 g1 => ?_, fun w g0 => ?_, fun w g0 g1 => by omega, by rw [if_pos hq], by rw [if_pos hq]⟩, .inl hq0⟩
    · rw [if_neg (by omega)]
    · have : inRun (w + 0) ⟨s, s + q.length⟩ = false := by rw [Bool.eq_false_iff]; intro hx; rw [inRun_iff] at hx; dsimp only at hx; omega
      rw [this, Bool.or_false, Int.add_zero]
  · rw [if_f (by simpa using hq)]
    obtain ⟨bs, k1, k2, k3⟩ := insert_l1s ((b.xBoard.xfirst + s) % 4294967296, q) R j b.xBoard.xfirst s b.xn ⟨hf0, hf1⟩ hs0 rfl (by dsimp only; omega) q.length 0 (by simp) b hI rfl rfl hj k (by omega)
    have k2' : rbuf_Buffer_Insert.l1 k ((b.xBoard.xfirst + s) % 4294967296, q) 0 b = some ⟨b.xBoard, bs, b.xbegin, b.xn, b.xlast, b.xkept⟩ := k2
    rw [k2', Option.bind_some]
    dsimp only
    have hsx : I64 (U32 ((b.xBoard.xfirst + s) % 4294967296 - b.xBoard.xfirst)) = s := by
      rw [U32_def, I64_id (by omega) (by omega)]; omega
    have he : I64 (U32 (U32 ((b.xBoard.xfirst + s) % 4294967296 + U32 (q.length : Int)) - b.xBoard.xfirst)) = s + q.length := by
      rw [U32_id (x := (q.length : Int)) (by omega) (by omega), U32_def, U32_def, I64_id (by omega) (by omega)]; omega
    have hlast : U32 (U32 ((b.xBoard.xfirst + s) % 4294967296 + U32 (q.length : Int)) - 1) = (b.xBoard.xfirst + s + q.length - 1) % 4294967296 := by
      rw [U32_id (x := (q.length : Int)) (by omega) (by omega), U32_def, U32_def]; omega
    obtain ⟨v, l, a1, a2, a3, a4, a5, a6⟩ := add_spec (M := R - b.xn) (by omega) hm hr (hs.mono (lo' := 0) (by omega)) (Int.le_refl _) (by omega) (s := s) (e := s + q.length) (by omega) (by omega) (by omega) hsx he (k := k) (by omega)
    rw [a1, Option.bind_some]
    dsimp only
    rw [blocks_ok (by exact hm) (by dsimp only; omega) (by dsimp only; omega), Option.bind_some]
    dsimp only
    have hbytes : ∀ o : Int, 0 ≤ o → o < b.xbytes.length → bAt bs b.xbegin o = if b.xn + s ≤ o ∧ o < b.xn + s + q.length ∧ pres b.xBoard.xruns (o - b.xn) = false then q.getD (o - b.xn - s).toNat 0 else bAt b.xbytes b.xbegin o := fun o g0 g1 => by
      have := k3 o g0 (by omega)
      simpa using this
    match l, a2, a3, a4, a5, a6 with
    | x :: l, a2, a3, a4, a5, a6 =>
      obtain ⟨x0, x1, x2⟩ := a2 x (by simp)
      have el : U32 (b.xBoard.xfirst + U32 x.xfrom) = (b.xBoard.xfirst + x.xfrom) % 4294967296 := by
        rw [U32_id (x := x.xfrom) (by omega) (by omega), U32_def]
      have er : U32 (b.xBoard.xfirst + U32 x.xto) = (b.xBoard.xfirst + x.xto) % 4294967296 := by
        rw [U32_id (x := x.xto) (by omega) (by omega), U32_def]
      have hbk : blkOf b.xBoard.xfirst x = ⟨(b.xBoard.xfirst + x.xfrom) % 4294967296, (b.xBoard.xfirst + x.xto) % 4294967296⟩ := by unfold blkOf; rw [el, er]
      rw [List.map_cons, idx_zero, Option.bind_some, bnext (by exact hm), Option.bind_some, hbk, hlast]
      by_cases hz : x.xfrom = 0
      · have e0 : (b.xBoard.xfirst + x.xfrom) % 4294967296 = b.xBoard.xfirst := by rw [hz]; omega
        rw [if_f (by simp [e0])]
        simp only [Option.bind_some]
        have ha : I64 (U32 ((b.xBoard.xfirst + x.xto) % 4294967296 - b.xBoard.xfirst)) = x.xto := by
          rw [U32_def, I64_id (by omega) (by omega)]; omega
        have hn : I64 (U32 ((b.xBoard.xfirst + x.xto) % 4294967296 - (b.xBoard.xfirst + x.xfrom) % 4294967296)) = x.xto := by
          rw [e0]; exact ha
        rw [advance_ok (M := R - b.xn) (by omega) (by exact hm) a2 (by dsimp only; omega) (t := x.xto) (by omega) (by omega) (by exact ha) (by dsimp only; omega), Option.bind_some, hn]
        dsimp only
        have hx : x = ⟨0, x.xto⟩ := by rw [← hz]
        have hadv : ((x :: l).filter (fun y => decide (y.xto > x.xto))).map (advRun x.xto) = l.map (fun y => ⟨y.xfrom - x.xto, y.xto - x.xto⟩) := by
          have := adv_spec (t := x.xto) (l := l) a5.2.2 (by omega)
          rw [← hx] at this
          exact this
        have hrun := adv_run (M := R - b.xn) (t := x.xto) a2 (by omega)
        rw [hadv] at hrun ⊢
        refine ⟨_, _, rfl, ⟨hm, k1, hR1, hR2, hb0, hb1, ?_, ?_, by dsimp only; omega, by dsimp only; omega, ?_, ?_⟩, ⟨by omega, ?_, rfl, rfl, ?_, hbytes, fun w g0 => ?_, fun w g0 g1 => ?_, by rw [if_neg hq], by rw [if_neg hq]⟩, .inr (by omega)⟩
        · dsimp only; rw [I64_id (by omega) (by omega)]; omega
        · dsimp only; rw [I64_id (by omega) (by omega)]; omega
        · dsimp only
          rw [I64_id (by omega) (by omega)]
          intro y hy
          have h2 := hrun y hy
          rwa [show (R : Int) - b.xn - x.xto = R - (b.xn + x.xto) by omega] at h2
        · dsimp only
          rw [List.length_map]
          simp only [List.length_cons] at a3; omega
        · dsimp only; rw [I64_id (by omega) (by omega)]
        · dsimp only
          have := Srt.shift x.xto a5.2.2
          exact this.mono (by omega)
        · dsimp only
          unfold pres
          rw [any_shift, ← a6, List.any_cons]
          have : inRun (w + x.xto) x = false := by rw [Bool.eq_false_iff]; intro hx; rw [inRun_iff] at hx; omega
          rw [this, Bool.false_or]
        · unfold pres
          rw [← a6, List.any_cons]
          have : inRun w x = true := by rw [inRun_iff]; omega
          rw [this, Bool.true_or]
      · rw [if_t (by simp; omega)]
        refine ⟨_, _, rfl, ⟨hm, k1, hR1, hR2, hb0, hb1, hn0, hn1, hf0, hf1, a2, by dsimp only; omega⟩, ⟨by omega, by dsimp only; omega, by dsimp only; omega, rfl, ⟨by omega, x1, a5.2.2⟩, hbytes, fun w g0 => ?_, fun w g0 g1 => by omega, by rw [if_neg hq], by rw [if_neg hq]⟩, .inr (by omega)⟩
        dsimp only
        unfold pres
        rw [Int.add_zero, a6]

theorem read_l1s {R n : Nat} {b : T_rbuf_Buffer_o} (h : Inv R n b) (l : List Int) (hl : (l.length : Int) ≤ b.xn) : ∀ (d j : Nat), j + d = l.length → ∀ (acc : List Int), acc.length = l.length → (∀ i, i < j → acc[i]? = some (bAt b.xbytes b.xbegin i)) → ∀ k, d < k →
    ∃ r, r.length = l.length ∧ rbuf_Buffer_Read.l1 k b l b.xBoard.xfirst j acc = some r ∧ ∀ i, i < l.length → r[i]? = some (bAt b.xbytes b.xbegin i) := by
  intro d
  induction d with
  | zero =>
    intro j hj acc ha hv k hk
    obtain ⟨k, rfl⟩ : ∃ m, k = m + 1 := ⟨k - 1, by omega⟩
    rw [rbuf_Buffer_Read.l1, if_f (by simpa using by omega)]
    exact ⟨acc, ha, rfl, fun i hi => hv i (by omega)⟩
  | succ d ih =>
    intro j hj acc ha hv k hk
    obtain ⟨k, rfl⟩ : ∃ m, k = m + 1 := ⟨k - 1, by omega⟩
    have hlen := h.len
    have hR1 := h.R1
    have hR2 := h.R2
    have hb0 := h.b0
    have hb1 := h.b1
    have hn0 := h.n0
    have hn1 := h.n1
    have hf0 := h.f0
    have hf1 := h.f1
    obtain ⟨i, x, h1, h2, h3⟩ := place_ok (b := b) h.made (by omega) (by omega) hb0 (by omega) hn0 (by omega) (U32 (U32 (b.xBoard.xfirst - U32 b.xn) + U32 (j : Int)))
    have hoff : (U32 (U32 (b.xBoard.xfirst - U32 b.xn) + U32 (j : Int)) - (b.xBoard.xfirst - b.xn)) % 4294967296 = j := by
      rw [U32_id (x := b.xn) (by omega) (by omega), U32_id (x := (j : Int)) (by omega) (by omega), U32_def, U32_def]; omega
    rw [hoff, emod_two (by omega) (by omega)] at h3
    rw [rbuf_Buffer_Read.l1, if_t (by simpa using by omega), h1, Option.bind_some, bind_of (idx_at rfl (by omega)), I64_succ (by omega)]
    refine ih (j + 1) (by omega) _ (by simp [ha]) (fun q hq => ?_) k (by omega)
    rw [List.getElem?_set, Int.toNat_natCast]
    by_cases e : j = q
    · subst e
      rw [if_pos rfl, if_pos (by omega)]
      unfold bAt
      rw [List.getD_eq_getElem?_getD]
      have : (if b.xbegin + (j : Int) < b.xbytes.length then b.xbegin + (j : Int) else b.xbegin + j - b.xbytes.length).toNat = i := by omega
      rw [this, h2]; rfl
    · rw [if_neg e]
      exact hv q (by omega)
theorem read_spec {b : T_rbuf_Buffer_o} {R : Nat} {j : Nat} (h : Inv R j b) (N : Int) {k : Nat} (hk : 8192 < k) :
    ∃ l b', rbuf_Buffer_Read.f k b N = some (l, b') ∧ (l.length : Int) = min (max N 0) b.xn ∧ Inv R j b' ∧ b'.xn = b.xn - l.length ∧ b'.xBoard = b.xBoard ∧ b'.xlast = b.xlast ∧ b'.xkept = b.xkept ∧ (∀ i : Nat, i < l.length → l[i]? = some (bAt b.xbytes b.xbegin i)) ∧
      ∀ o : Int, 0 ≤ o → o + l.length < R → bAt b'.xbytes b'.xbegin o = bAt b.xbytes b.xbegin (o + l.length) := by
  have hI := h
  obtain ⟨hm, hl, hR1, hR2, hb0, hb1, hn0, hn1, hf0, hf1, hr, hc⟩ := h
  unfold rbuf_Buffer_Read.f
  rw [bind_of blen, imin_eq, imax_eq]
  by_cases hz : min (max N 0) b.xn = 0
  · rw [if_t (by simpa using hz)]
    exact ⟨[], b, rfl, by simp; omega, hI, by simp, rfl, rfl, rfl, fun i hi => by simp at hi, fun o _ _ => by simp⟩
  · rw [if_f (by simpa using hz)]
    have e1 : min (max N 0) b.xn = ((min (max N 0) b.xn).toNat : Int) := by omega
    generalize hq : (min (max N 0) b.xn).toNat = q at e1
    rw [e1, bind_of (mk_at rfl (by omega)), bind_of (bnext hm)]
    obtain ⟨r, r1, r2, r3⟩ := read_l1s hI (List.replicate q 0) (by simp; omega) q 0 (by simp) (List.replicate q 0) rfl (fun i hi => by omega) k (by omega)
    have r2' : rbuf_Buffer_Read.l1 k b (List.replicate q 0) b.xBoard.xfirst 0 (List.replicate q 0) = some r := r2
    have hrl : r.length = q := by simpa using r1
    rw [r2', Option.bind_some, I64_id (x := b.xbegin + _) (by omega) (by omega), bind_of (divr_at (by omega) (by omega)), I64_id (by omega) (by omega)]
    have g2 := emod_two (x := b.xbegin + q) (R := b.xbytes.length) (by omega) (by omega)
    generalize (b.xbegin + (q : Int)) % (b.xbytes.length : Int) = z at g2 ⊢
    refine ⟨r, _, rfl, by omega, ⟨hm, hl, hR1, hR2, ?_, ?_, by dsimp only; omega, by dsimp only; omega, hf0, hf1, fun x hx => ?_, hc⟩, by dsimp only; omega, rfl, rfl, rfl, fun i hi => r3 i (by simpa [hrl] using hi), fun o g0 g1 => ?_⟩
    · dsimp only; split at g2 <;> omega
    · dsimp only; split at g2 <;> omega
    · obtain ⟨x0, x1, x2⟩ := hr x hx
      exact ⟨x0, x1, by dsimp only; omega⟩
    · dsimp only
      unfold bAt
      congr 1
      split at g2 <;> split <;> split <;> omega
end Go.V
