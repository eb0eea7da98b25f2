/- However pieces of one text come, what is read is its beginning: the plain law. -/
import Derived.Test.YtidkijkkolfooaaTRg
namespace Go.V
open Go

theorem alive_ok (m : Nat) : downhaullaw26_alive.f (m + 40) = some true := by kernel_rfl
theorem alive_ok' {k : Nat} (h : 40 ≤ k) : downhaullaw26_alive.f k = some true := by
  obtain ⟨m, rfl⟩ : ∃ m, k = m + 40 := ⟨k - 40, by omega⟩
  exact alive_ok m

/-- c bytes of the text T were read: what the buffer has is T's. -/
structure Hld (T : List Int) (c : Nat) (F0 : Int) (b : T_rbuf_Buffer_o) : Prop where
  srt : Srt 1 b.xBoard.xruns
  len : (c : Int) + b.xn ≤ T.length
  first : b.xBoard.xfirst = (F0 + c + b.xn) % 4294967296
  came : ∀ o : Int, 0 ≤ o → o < b.xn → bAt b.xbytes b.xbegin o = T.getD (c + o).toNat 0
  out : ∀ w : Int, 0 ≤ w → pres b.xBoard.xruns w = true → c + b.xn + w < T.length ∧ bAt b.xbytes b.xbegin (b.xn + w) = T.getD (c + b.xn + w).toNat 0

theorem hld_insert {T : List Int} {c : Nat} {F0 : Int} {b : T_rbuf_Buffer_o} {R j : Nat} (hI : Inv R j b) (h : Hld T c F0 b) (hj : j ≤ 1000) (hT : T.length ≤ 400) (hF : 0 ≤ F0 ∧ F0 < 4294967296) {at_ e3 : Nat} (hat : at_ + e3 ≤ T.length) {k : Nat} (hk : 8192 + j + 10 < k) :
    ∃ n b', rbuf_Buffer_Insert.f k b (U32 (F0 + U32 (at_ : Int))) ((T.take (at_ + e3)).drop at_) = some (n, b') ∧ Inv R (j + 1) b' ∧ Hld T c F0 b' := by
  obtain ⟨hs, hl, hf, hc, ho⟩ := h
  have ea : U32 (F0 + U32 (at_ : Int)) = (F0 + at_) % 4294967296 := by rw [U32_id (x := (at_ : Int)) (by omega) (by omega), U32_def]
  have hn0 := hI.n0
  have hn1 := hI.n1
  have hR2 := hI.R2
  have hblen := hI.len
  obtain ⟨n, b', h1, h2, h3, h4⟩ := insert_spec hI hs (by omega) (a := U32 (F0 + U32 (at_ : Int))) (by rw [ea]; omega) (by rw [ea]; omega) ((T.take (at_ + e3)).drop at_) (by simp; omega) (k := k) hk
  have hD : I32 (U32 (U32 (F0 + U32 (at_ : Int)) - b.xBoard.xfirst)) = at_ - (c + b.xn) := by rw [ea, hf, U32_def, I32_def]; omega
  have hS : winS b (U32 (F0 + U32 (at_ : Int))) = max ((at_ : Int) - (c + b.xn)) 0 := by unfold winS; rw [hD]
  have hQ : winQ b (U32 (F0 + U32 (at_ : Int))) ((T.take (at_ + e3)).drop at_) = (((T.take (at_ + e3)).drop at_).drop (max (-((at_ : Int) - (c + b.xn))) 0).toNat).take (max (b.xbytes.length - b.xn - max ((at_ : Int) - (c + b.xn)) 0) 0).toNat := by unfold winQ; rw [hD, hS]
  rw [hS] at h3 h4
  -- the piece's bytes are the text's
  have hq : ∀ i : Nat, i < (winQ b (U32 (F0 + U32 (at_ : Int))) ((T.take (at_ + e3)).drop at_)).length → c + b.xn + max ((at_ : Int) - (c + b.xn)) 0 + i < T.length ∧ (winQ b (U32 (F0 + U32 (at_ : Int))) ((T.take (at_ + e3)).drop at_)).getD i 0 = T.getD (c + b.xn + max ((at_ : Int) - (c + b.xn)) 0 + i).toNat 0 := by
    intro i hi
    rw [hQ] at hi ⊢
    have hi2 : i < (max (b.xbytes.length - b.xn - max ((at_ : Int) - (c + b.xn)) 0) 0).toNat ∧ at_ + (max (-((at_ : Int) - (c + b.xn))) 0).toNat + i < at_ + e3 := by
      simp only [List.length_take, List.length_drop] at hi
      omega
    refine ⟨by omega, ?_⟩
    rw [List.getD_eq_getElem?_getD, List.getElem?_take, if_pos hi2.1, List.getElem?_drop, List.getElem?_drop, List.getElem?_take, if_pos (by omega), List.getD_eq_getElem?_getD]
    congr 2; omega
  generalize winQ b (U32 (F0 + U32 (at_ : Int))) ((T.take (at_ + e3)).drop at_) = q at h3 h4 hq
  generalize hs0 : max ((at_ : Int) - (c + b.xn)) 0 = s at h3 h4 hq
  have hs1 : 0 ≤ s := by omega
  refine ⟨n, b', h1, h2, ?_⟩
  obtain ⟨i1, i2, i3, i4, i5, i6, i7, i8, i9, i10⟩ := h3
  have hn1' := h2.n1
  have hin : ∀ w : Int, inRun w ⟨s, s + q.length⟩ = true → s ≤ w ∧ w < s + q.length := fun w hw => by rw [inRun_iff] at hw; exact hw
  -- any byte that came, or comes now
  have key : ∀ w : Int, 0 ≤ w → (pres b.xBoard.xruns w || inRun w ⟨s, s + q.length⟩) = true → c + b.xn + w < T.length ∧ (b.xn + w < R → bAt b'.xbytes b'.xbegin (b.xn + w) = T.getD (c + b.xn + w).toNat 0) := by
    intro w hw hp
    cases hpw : pres b.xBoard.xruns w with
    | true =>
      obtain ⟨g1, g2⟩ := ho w hw hpw
      refine ⟨g1, fun hR => ?_⟩
      rw [i6 _ (by omega) (by omega), if_neg (fun hx => by rw [show b.xn + w - b.xn = w by omega, hpw] at hx; cases hx.2.2)]
      exact g2
    | false =>
      rw [hpw, Bool.false_or] at hp
      obtain ⟨g1, g2⟩ := hin w hp
      obtain ⟨g3, g4⟩ := hq (w - s).toNat (by omega)
      refine ⟨by omega, fun hR => ?_⟩
      rw [i6 _ (by omega) (by omega), if_pos ⟨by omega, by omega, by rw [show b.xn + w - b.xn = w by omega, hpw]⟩, show b.xn + w - b.xn - s = w - s by omega, g4]
      congr 1; omega
  refine ⟨i5, ?_, by rw [i3, i2, hf]; omega, fun o g0 g1 => ?_, fun w g0 g1 => ?_⟩
  · rw [i2]
    by_cases hz : n = 0
    · omega
    · have := (key (n - 1) (by omega) (i8 (n - 1) (by omega) (by omega))).1
      omega
  · by_cases hlt : o < b.xn
    · rw [i6 o g0 (by omega), if_neg (by omega)]
      exact hc o g0 hlt
    · have := (key (o - b.xn) (by omega) (i8 (o - b.xn) (by omega) (by omega))).2 (by omega)
      rw [show b.xn + (o - b.xn) = o by omega, show (c : Int) + b.xn + (o - b.xn) = c + o by omega] at this
      exact this
  · have hwR : w < R - b'.xn := by
      unfold pres at g1
      rw [List.any_eq_true] at g1
      obtain ⟨x, hx, hw⟩ := g1
      rw [inRun_iff] at hw
      have := h2.runs x hx
      obtain ⟨_, _, _⟩ := this
      omega
    rw [i7 w g0] at g1
    obtain ⟨k1, k2⟩ := key (w + n) (by omega) g1
    have k2 := k2 (by omega)
    rw [i2]
    refine ⟨by omega, ?_⟩
    rw [show b.xn + n + w = b.xn + (w + n) by omega, k2]
    congr 1; omega
theorem hld_read {T : List Int} {c : Nat} {F0 : Int} {b : T_rbuf_Buffer_o} {R j : Nat} (hI : Inv R j b) (h : Hld T c F0 b) (N : Int) {k : Nat} (hk : 8192 < k) :
    ∃ l b', rbuf_Buffer_Read.f k b N = some (l, b') ∧ Inv R j b' ∧ Hld T (c + l.length) F0 b' ∧ (l.length : Int) = min (max N 0) b.xn ∧ b'.xn = b.xn - l.length ∧ T.take (c + l.length) = T.take c ++ l := by
  obtain ⟨hs, hl, hf, hc, ho⟩ := h
  obtain ⟨l, b', h1, h2, h3, h4, h5, h6, h7, h8, h9⟩ := read_spec hI N hk
  have hn0 := hI.n0
  have hn1 := hI.n1
  refine ⟨l, b', h1, h3, ⟨by rw [h5]; exact hs, by omega, by rw [h5, hf, h4]; omega, fun o g0 g1 => ?_, fun w g0 g1 => ?_⟩, h2, h4, ?_⟩
  · rw [h9 o g0 (by omega), hc _ (by omega) (by omega)]
    congr 1; omega
  · rw [h5] at g1
    obtain ⟨k1, k2⟩ := ho w g0 g1
    refine ⟨by omega, ?_⟩
    have hwR : w < R - b.xn := by
      unfold pres at g1
      rw [List.any_eq_true] at g1
      obtain ⟨x, hx, hw⟩ := g1
      rw [inRun_iff] at hw
      have := hI.runs x hx
      obtain ⟨_, _, _⟩ := this
      omega
    rw [h9 _ (by omega) (by omega), show b'.xn + w + l.length = b.xn + w by omega, k2]
    congr 1; omega
  · rw [List.take_add]
    congr 1
    apply List.ext_getElem?
    intro i
    rw [List.getElem?_take]
    by_cases hi : i < l.length
    · rw [if_pos hi, h8 i hi, hc i (by omega) (by omega), List.getElem?_drop, List.getD_eq_getElem?_getD, show ((c : Int) + i).toNat = c + i by omega, List.getElem?_eq_getElem (by omega)]
      rfl
    · rw [if_neg hi, List.getElem?_eq_none (by omega)]

/-- A block within the window, and not at its beginning. -/
def BlkOk (F W : Int) (x : T_api_Block) : Prop := U32 (x.xLeft - F) < W ∧ U32 (x.xRight - F) ≤ W ∧ x.xLeft ≠ F
theorem blks_ok {T : List Int} {c : Nat} {F0 : Int} {b : T_rbuf_Buffer_o} {R j : Nat} (hI : Inv R j b) (h : Hld T c F0 b) : ∀ x ∈ (front (here b) (blkList b)).take 100, BlkOk b.xBoard.xfirst (R - b.xn) x := by
  intro x hx
  have h1 := front_mem (List.mem_of_mem_take hx)
  unfold blkList at h1
  rw [List.mem_reverse, List.mem_map] at h1
  obtain ⟨r, hr, rfl⟩ := h1
  obtain ⟨a1, a2, a3⟩ := hI.runs r hr
  have a4 := h.srt.mem r hr
  have hf0 := hI.f0
  have hf1 := hI.f1
  have hR2 := hI.R2
  have hn0 := hI.n0
  unfold BlkOk blkOf
  dsimp only
  rw [U32_id (x := r.xfrom) (by omega) (by omega), U32_id (x := r.xto) (by omega) (by omega)]
  simp only [U32_def]
  omega
theorem together_l2 (t8 : List Int × T_rbuf_Buffer_o) {R j : Nat} (hI : Inv R j t8.2) (l : List T_api_Block) (hl : l.length ≤ 100) (hb : ∀ x ∈ l, BlkOk t8.2.xBoard.xfirst (R - t8.2.xn) x) : ∀ (d i : Nat), i + d = l.length → ∀ k, d < k → downhaullaw26_RbufTogether.l2 k t8 l i = some (.inr ()) := by
  have hW : I64 ((t8.2.xbytes.length : Int) - t8.2.xn) = R - t8.2.xn := by
    have := hI.len; have := hI.n0; have := hI.n1; have := hI.R2
    rw [I64_id (by omega) (by omega)]; omega
  have hU : U32 ((R : Int) - t8.2.xn) = R - t8.2.xn := by
    have := hI.n0; have := hI.n1; have := hI.R2
    exact U32_id (by omega) (by omega)
  intro d
  induction d with
  | zero =>
    intro i hi k hk
    obtain ⟨k, rfl⟩ : ∃ m, k = m + 1 := ⟨k - 1, by omega⟩
    rw [downhaullaw26_RbufTogether.l2, if_f (decide_eq_false (by omega))]
  | succ d ih =>
    intro i hi k hk
    obtain ⟨k, rfl⟩ : ∃ m, k = m + 1 := ⟨k - 1, by omega⟩
    have hlt : i < l.length := by omega
    obtain ⟨b1, b2, b3⟩ := hb _ (List.getElem_mem hlt)
    rw [downhaullaw26_RbufTogether.l2, if_t (decide_eq_true (by omega)), bind_of (idx_at rfl hlt), bind_of (bnext hI.made), bind_of bwindow, hW, hU, if_f (decide_eq_false (by omega)), bind_of (bnext hI.made), bind_of bwindow, hW, hU, if_f (decide_eq_false (by omega)), bind_of (bnext hI.made), if_f (by simpa using b3), I64_succ (by omega)]
    exact ih (i + 1) (by omega) k (by omega)
theorem together_l3 (t7 : Int × T_rbuf_Buffer_o) {R j : Nat} (hI : Inv R j t7.2) (l : List T_api_Block) (hl : l.length ≤ 100) (hb : ∀ x ∈ l, BlkOk t7.2.xBoard.xfirst (R - t7.2.xn) x) : ∀ (d i : Nat), i + d = l.length → ∀ k, d < k → downhaullaw26_RbufTogether.l3 k t7 l i = some (.inr ()) := by
  have hW : I64 ((t7.2.xbytes.length : Int) - t7.2.xn) = R - t7.2.xn := by
    have := hI.len; have := hI.n0; have := hI.n1; have := hI.R2
    rw [I64_id (by omega) (by omega)]; omega
  have hU : U32 ((R : Int) - t7.2.xn) = R - t7.2.xn := by
    have := hI.n0; have := hI.n1; have := hI.R2
    exact U32_id (by omega) (by omega)
  intro d
  induction d with
  | zero =>
    intro i hi k hk
    obtain ⟨k, rfl⟩ : ∃ m, k = m + 1 := ⟨k - 1, by omega⟩
    rw [downhaullaw26_RbufTogether.l3, if_f (decide_eq_false (by omega))]
  | succ d ih =>
    intro i hi k hk
    obtain ⟨k, rfl⟩ : ∃ m, k = m + 1 := ⟨k - 1, by omega⟩
    have hlt : i < l.length := by omega
    obtain ⟨b1, b2, b3⟩ := hb _ (List.getElem_mem hlt)
    rw [downhaullaw26_RbufTogether.l3, if_t (decide_eq_true (by omega)), bind_of (idx_at rfl hlt), bind_of (bnext hI.made), bind_of bwindow, hW, hU, if_f (decide_eq_false (by omega)), bind_of (bnext hI.made), bind_of bwindow, hW, hU, if_f (decide_eq_false (by omega)), bind_of (bnext hI.made), if_f (by simpa using b3), I64_succ (by omega)]
    exact ih (i + 1) (by omega) k (by omega)
theorem out_ok {T : List Int} {c : Nat} {F0 : Int} {b : T_rbuf_Buffer_o} {R j : Nat} (hI : Inv R j b) (h : Hld T c F0 b) (hj : j ≤ 1000) {k : Nat} (hk : j < k) : ∃ v : Int, rbuf_Buffer_Out.f k b = some v ∧ -9223372036854775808 ≤ b.xn + v ∧ b.xn + v ≤ R := by
  have hc := hI.cnt
  have hn0 := hI.n0
  have hn1 := hI.n1
  have hR2 := hI.R2
  have h1 := bytes_ok (M := R - b.xn) (by omega) hI.made hI.runs (by omega) (k := k) (by omega)
  refine ⟨runSum b.xBoard.xruns, by unfold rbuf_Buffer_Out.f rbuf_Buffer_ok.f; rw [Option.bind_some, if_f (by rfl), bind_of h1], ?_, ?_⟩
  · have : ∀ l : List T_sack_run, (∀ x ∈ l, RunOk (R - b.xn) x) → 0 ≤ runSum l := by
      intro l
      induction l with
      | nil => intro _; simp [runSum]
      | cons x l ih =>
        intro hl
        have e : runSum (x :: l) = (x.xto - x.xfrom) + runSum l := by simp [runSum]
        obtain ⟨_, _, _⟩ := hl x (by simp)
        have := ih (fun y hy => hl y (by simp [hy]))
        omega
    have := this _ hI.runs
    omega
  · have := runSum_le (M := R - b.xn) (h.srt.mono (lo' := 0) (by omega)) (fun x hx => (hI.runs x hx).2.2) (by omega)
    omega
theorem together_l1 (F0 : Int) (hF : 0 ≤ F0 ∧ F0 < 4294967296) (T : List Int) (hT : T.length ≤ 400) (l : List T_downhaullaw26_Piece) (hl : l.length ≤ 100) (hp : ∀ y ∈ l, phiT_downhaullaw26_Piece y) : ∀ (d j : Nat), j + d = l.length → ∀ (b : T_rbuf_Buffer_o) (r : List Int), Inv 50 j b → Hld T r.length F0 b → r = T.take r.length → ∀ k, d + 9000 < k →
    ∃ r' b', downhaullaw26_RbufTogether.l1 k F0 T l j b r = some (.inr (r', b')) ∧ Inv 50 l.length b' ∧ Hld T r'.length F0 b' ∧ r' = T.take r'.length := by
  intro d
  induction d with
  | zero =>
    intro j hj b r hI hH hr k hk
    obtain ⟨k, rfl⟩ : ∃ m, k = m + 1 := ⟨k - 1, by omega⟩
    rw [downhaullaw26_RbufTogether.l1, if_f (decide_eq_false (by omega))]
    exact ⟨r, b, rfl, by rw [show l.length = j by omega]; exact hI, hH, hr⟩
  | succ d ih =>
    intro j hj b r hI hH hr k hk
    obtain ⟨k, rfl⟩ : ∃ m, k = m + 1 := ⟨k - 1, by omega⟩
    have hlt : j < l.length := by omega
    obtain ⟨w1, w2⟩ := hp _ (List.getElem_mem hlt)
    replace w1 := wfI_u16 w1
    replace w2 := wfI_u16 w2
    rw [downhaullaw26_RbufTogether.l1, if_t (decide_eq_true (by omega)), bind_of (idx_at rfl hlt), I64_succ (n := j) (by omega)]
    generalize l[j] = e at w1 w2 ⊢
    rw [I64_id (x := e.xAt) (by omega) (by omega), I64_id (x := e.xN) (by omega) (by omega), I64_id (x := (T.length : Int) + 1) (by omega) (by omega), bind_of (divr_at (by omega) (by omega))]
    have g0 := Int.emod_nonneg e.xAt (b := (T.length : Int) + 1) (by omega)
    have g1 := Int.emod_lt_of_pos e.xAt (b := (T.length : Int) + 1) (by omega)
    generalize e.xAt % ((T.length : Int) + 1) = at_ at g0 g1 ⊢
    rw [I64_id (x := (T.length : Int) - at_) (by omega) (by omega), I64_id (x := (T.length : Int) - at_ + 1) (by omega) (by omega), bind_of (divr_at (by omega) (by omega))]
    have g2 := Int.emod_nonneg e.xN (b := (T.length : Int) - at_ + 1) (by omega)
    have g3 := Int.emod_lt_of_pos e.xN (b := (T.length : Int) - at_ + 1) (by omega)
    generalize e.xN % ((T.length : Int) - at_ + 1) = e3 at g2 g3 ⊢
    obtain ⟨at_, rfl⟩ : ∃ q : Nat, at_ = q := ⟨at_.toNat, by omega⟩
    obtain ⟨e3, rfl⟩ : ∃ q : Nat, e3 = q := ⟨e3.toNat, by omega⟩
    rw [I64_id (x := (at_ : Int) + e3) (by omega) (by omega), bind_of (cut_at (n := at_) (m := at_ + e3) rfl (by omega) (by omega) (by omega))]
    obtain ⟨n, b1, i1, i2, i3⟩ := hld_insert hI hH (by omega) hT hF (at_ := at_) (e3 := e3) (by omega) (k := k) (by omega)
    rw [i1, Option.bind_some]
    have hc2 : r.length ≤ T.length := by have := hH.len; have := hI.n0; omega
    split
    · obtain ⟨q, b2, r1, r2, r3, r4, r5, r6⟩ := hld_read i2 i3 (Int.tmod (I64 e.xN) 20) (k := k) (by omega)
      rw [I64_id (x := e.xN) (by omega) (by omega)] at r1
      rw [r1, Option.bind_some]
      dsimp only
      have hb0 := r2.n0
      have hb1 := r2.n1
      have hl3 := r3.len
      have hl4 := r3.first
      have hlen : (r ++ q).length = r.length + q.length := List.length_append
      have hcond : r ++ q = T.take (r ++ q).length := by rw [hlen, r6, ← hr]
      have r3' : Hld T (r ++ q).length F0 b2 := by rw [hlen]; exact r3
      obtain ⟨v, o1, o2, o3⟩ := out_ok r2 r3 (by omega) (k := k) (by omega)
      have hW : I64 ((b2.xbytes.length : Int) - b2.xn) = 50 - b2.xn := by
        have := r2.len
        rw [I64_id (by omega) (by omega)]; omega
      have hblk := blocksB_ok r2.made (by have := r2.cnt; omega) (most := 100) (by omega) (k := k) (by have := r2.cnt; omega)
      rw [if_neg (by omega)] at hblk
      have hblk' : rbuf_Buffer_Blocks.f k b2 100 = some ((front (here b2) (blkList b2)).take 100) := hblk
      have hl2 := together_l2 (q, b2) r2 ((front (here b2) (blkList b2)).take 100) (List.length_take_le _ _) (blks_ok r2 r3) _ 0 (by rw [Nat.zero_add]) k (by have := List.length_take_le 100 (front (here b2) (blkList b2)); omega)
      have hl2' : downhaullaw26_RbufTogether.l2 k (q, b2) ((front (here b2) (blkList b2)).take 100) 0 = some (.inr ()) := hl2
      rw [bind_of (app_at (by omega)), bind_of blen, hlen, I64_id (x := ((r.length + q.length : Nat) : Int) + b2.xn) (by omega) (by omega), if_f (decide_eq_false (by omega)), bind_of (bnext r2.made), bind_of blen, I64_id (x := ((r.length + q.length : Nat) : Int) + b2.xn) (by omega) (by omega), U32_id (x := ((r.length + q.length : Nat) : Int) + b2.xn) (by omega) (by omega), U32_def, if_f (by simp [hl4, Int.add_assoc]),
        bind_of blen, o1, Option.bind_some, I64_id (x := b2.xn + v) (by omega) (by omega), if_f (decide_eq_false (by omega)), bind_of bwindow, bind_of blen, hW, I64_id (x := 50 - b2.xn) (by omega) (by omega), if_f (by simp), hblk', Option.bind_some, hl2', Option.bind_some]
      dsimp only [brk]
      exact ih (j + 1) (by omega) b2 (r ++ q) r2 r3' hcond k (by omega)
    · have hb0 := i2.n0
      have hb1 := i2.n1
      have hl3 := i3.len
      have hl4 := i3.first
      obtain ⟨v, o1, o2, o3⟩ := out_ok i2 i3 (by omega) (k := k) (by omega)
      have hW : I64 ((b1.xbytes.length : Int) - b1.xn) = 50 - b1.xn := by
        have := i2.len
        rw [I64_id (by omega) (by omega)]; omega
      have hblk := blocksB_ok i2.made (by have := i2.cnt; omega) (most := 100) (by omega) (k := k) (by have := i2.cnt; omega)
      rw [if_neg (by omega)] at hblk
      have hblk' : rbuf_Buffer_Blocks.f k b1 100 = some ((front (here b1) (blkList b1)).take 100) := hblk
      have hl2 := together_l3 (n, b1) i2 ((front (here b1) (blkList b1)).take 100) (List.length_take_le _ _) (blks_ok i2 i3) _ 0 (by rw [Nat.zero_add]) k (by have := List.length_take_le 100 (front (here b1) (blkList b1)); omega)
      have hl2' : downhaullaw26_RbufTogether.l3 k (n, b1) ((front (here b1) (blkList b1)).take 100) 0 = some (.inr ()) := hl2
      dsimp only
      rw [bind_of blen, I64_id (x := (r.length : Int) + b1.xn) (by omega) (by omega), if_f (decide_eq_false (by omega)), bind_of (bnext i2.made), bind_of blen, I64_id (x := (r.length : Int) + b1.xn) (by omega) (by omega), U32_id (x := (r.length : Int) + b1.xn) (by omega) (by omega), U32_def, if_f (by simp [hl4, Int.add_assoc]),
        bind_of blen, o1, Option.bind_some, I64_id (x := b1.xn + v) (by omega) (by omega), if_f (decide_eq_false (by omega)), bind_of bwindow, bind_of blen, hW, I64_id (x := 50 - b1.xn) (by omega) (by omega), if_f (by simp), hblk', Option.bind_some, hl2', Option.bind_some]
      dsimp only [brk]
      exact ih (j + 1) (by omega) b1 r i2 i3 hr k (by omega)

theorem pureRbufTogether : PureRbufTogether := by
  intro a0 a1 a2 w0 m1 w1 m2 w2
  have h0 := wfI_u32 w0
  refine ⟨20000, ?_⟩
  unfold downhaullaw26_RbufTogether.f
  by_cases c1 : (a1.length : Int) > 400
  · rw [if_t (decide_eq_true c1), bind_of (alive_ok' (by omega))]
  · rw [if_f (decide_eq_false c1)]
    by_cases c2 : (a2.length : Int) > 100
    · rw [if_t (decide_eq_true c2), bind_of (alive_ok' (by omega))]
    · rw [if_f (decide_eq_false c2)]
      obtain ⟨b, n1, n2, n3, n4, n5, n6⟩ := new_ok (room := 50) (next := a0) (by omega) (by omega) h0.1 (by omega)
      rw [n1, Option.bind_some]
      dsimp only [optE]
      rw [if_f (by rfl)]
      have hH : Hld a1 ([] : List Int).length a0 b := ⟨by rw [n6]; trivial, by simp; omega, by rw [n4, n3]; simp; omega, fun o g0 g1 => by omega, fun w g0 g1 => by rw [n6] at g1; cases g1⟩
      obtain ⟨r, b', l1, l2, l3, l4⟩ := together_l1 a0 ⟨h0.1, by omega⟩ a1 (by omega) a2 (by omega) w2 a2.length 0 (by omega) b [] n2 hH (by simp) 20000 (by omega)
      have l1' : downhaullaw26_RbufTogether.l1 20000 a0 a1 a2 0 b [] = some (.inr (r, b')) := l1
      rw [l1', Option.bind_some]
      dsimp only [brk]
      obtain ⟨q, b2, r1, r2, r3, r4, r5, r6⟩ := hld_read l2 l3 100 (k := 20000) (by omega)
      have hl3 := r3.len
      have hb0 := r2.n0
      have hlen : (r ++ q).length = r.length + q.length := List.length_append
      have hcond : r ++ q = a1.take (r ++ q).length := by rw [hlen, r6, ← l4]
      rw [r1, Option.bind_some]
      dsimp only
      rw [bind_of (app_at (by omega)), if_t (decide_eq_true (by omega)), bind_of (cut_to (m := (r ++ q).length) rfl (by omega)), ← hcond, if_t (by simp), bind_of (alive_ok' (by omega))]
end Go.V
