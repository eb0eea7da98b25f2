/- Buffers: readings and insertings keep what holds of a buffer. -/
import Derived.Test.YtidkijkkolfooaaPRb
namespace Go.V
open Go

structure Inv (R : Nat) (j : Nat) (b : T_rbuf_Buffer_o) : Prop where
  made : b.xBoard.xmade = true
  len : b.xbytes.length = R
  R1 : 1 ≤ R
  R2 : R ≤ 8192
  b0 : 0 ≤ b.xbegin
  b1 : b.xbegin < R
  n0 : 0 ≤ b.xn
  n1 : b.xn ≤ R
  f0 : 0 ≤ b.xBoard.xfirst
  f1 : b.xBoard.xfirst < 4294967296
  runs : ∀ x ∈ b.xBoard.xruns, RunOk (R - b.xn) x
  cnt : b.xBoard.xruns.length ≤ j

theorem within_ok {b : T_rbuf_Buffer_o} {R : Nat} {j : Nat} (h : Inv R j b) {a : Int} (h0 : 0 ≤ a) (h1 : a < 4294967296) (p : List Int) (hp : p.length ≤ 140737488355328) {D : Int} (hD : I32 (U32 (a - b.xBoard.xfirst)) = D) :
    rbuf_Buffer_within.f b a p = some ((b.xBoard.xfirst + max D 0) % 4294967296, (p.drop (max (-D) 0).toNat).take (max (R - b.xn - max D 0) 0).toNat) := by
  obtain ⟨hm, hl, hR1, hR2, hb0, hb1, hn0, hn1, hf0, hf1, hr, hc⟩ := h
  have hDb : -2147483648 ≤ D ∧ D ≤ 2147483647 := by rw [← hD, I32_def]; omega
  have hDa : (a - b.xBoard.xfirst - D) % 4294967296 = 0 := by rw [← hD, I32_def, U32_def]; omega
  have hW : I64 ((b.xbytes.length : Int) - b.xn) = R - b.xn := by rw [hl, I64_id (by omega) (by omega)]
  unfold rbuf_Buffer_within.f ring_Diff.f
  have eD : I64 D = D := I64_id (by omega) (by omega)
  rw [bind_of (bnext hm), Option.bind_some, hD, eD]
  by_cases c : D < 0
  · rw [if_t (by simpa using c), I64_id (x := 0 - D) (by omega) (by omega)]
    have e1 : imin (0 - D) (p.length : Int) = ((min (-D).toNat p.length : Nat) : Int) := by rw [imin_eq]; omega
    rw [bind_of (cut_from e1 rfl (Nat.min_le_right _ _)), bind_of (bnext hm), bind_of bwindow, hW]
    have e2 : imin (imax (I64 ((R : Int) - b.xn - 0)) 0) ((p.drop (min (-D).toNat p.length)).length : Int) = ((min (R - b.xn).toNat (p.drop (min (-D).toNat p.length)).length : Nat) : Int) := by
      rw [imin_eq, imax_eq, I64_id (by omega) (by omega)]; omega
    rw [bind_of (cut_to e2 (Nat.min_le_right _ _))]
    congr 2
    · omega
    · rw [show (max (-D) 0).toNat = (-D).toNat by omega, show (max ((R : Int) - b.xn - max D 0) 0).toNat = (R - b.xn).toNat by omega]
      have e3 : p.drop (min (-D).toNat p.length) = p.drop (-D).toNat := by
        by_cases hc2 : (-D).toNat ≤ p.length
        · rw [Nat.min_eq_left hc2]
        · rw [Nat.min_eq_right (by omega), List.drop_of_length_le (by omega), List.drop_of_length_le (by omega)]
      rw [e3]
      by_cases hc3 : (R - b.xn).toNat ≤ (p.drop (-D).toNat).length
      · rw [Nat.min_eq_left hc3]
      · rw [Nat.min_eq_right (by omega), List.take_length, List.take_of_length_le (by omega)]
  · rw [if_f (by simpa using by omega), bind_of bwindow, hW]
    have e2 : imin (imax (I64 ((R : Int) - b.xn - D)) 0) (p.length : Int) = ((min (max (R - b.xn - D) 0).toNat p.length : Nat) : Int) := by
      rw [imin_eq, imax_eq, I64_id (by omega) (by omega)]; omega
    rw [bind_of (cut_to e2 (Nat.min_le_right _ _))]
    congr 2
    · omega
    · rw [show (max (-D) 0).toNat = 0 by omega, List.drop_zero, show (max ((R : Int) - b.xn - max D 0) 0).toNat = (max (R - b.xn - D) 0).toNat by omega]
      by_cases hc3 : (max (R - b.xn - D) 0).toNat ≤ p.length
      · rw [Nat.min_eq_left hc3]
      · rw [Nat.min_eq_right (by omega), List.take_length, List.take_of_length_le (by omega)]

theorem insert_l1 (t : Int × List Int) (ht : t.2.length ≤ 8192) : ∀ (d j : Nat), j + d = t.2.length → ∀ (R n : Nat) (b : T_rbuf_Buffer_o), Inv R n b → n ≤ 1000000 → ∀ k, d + n < k →
    ∃ bs, bs.length = R ∧ rbuf_Buffer_Insert.l1 k t j b = some ⟨b.xBoard, bs, b.xbegin, b.xn, b.xlast, b.xkept⟩ := by
  intro d
  induction d with
  | zero =>
    intro j hj R n b h hn k hk
    obtain ⟨k, rfl⟩ : ∃ m, k = m + 1 := ⟨k - 1, by omega⟩
    rw [rbuf_Buffer_Insert.l1, if_f (by simpa using by omega)]
    exact ⟨b.xbytes, h.len, rfl⟩
  | succ d ih =>
    intro j hj R n b h hn k hk
    obtain ⟨k, rfl⟩ : ∃ m, k = m + 1 := ⟨k - 1, by omega⟩
    have hlt : j < t.2.length := by omega
    have hc := h.cnt
    rw [rbuf_Buffer_Insert.l1, if_t (by simpa using by omega), bind_of (idx_at rfl hlt), bind_of (has_ok h.made (by omega) _ (by omega)), I64_succ (by omega)]
    have hlen := h.len
    have hR1 := h.R1
    have hR2 := h.R2
    have hb0 := h.b0
    have hb1 := h.b1
    have hn0 := h.n0
    have hn1 := h.n1
    split
    · obtain ⟨i, x, h1, h2, _⟩ := place_ok (b := b) h.made (by omega) (by omega) hb0 (by omega) hn0 (by omega) (U32 (t.1 + U32 (j : Int)))
      rw [h1, Option.bind_some]
      dsimp only
      obtain ⟨bs, k1, k2⟩ := ih (j + 1) (by omega) R n (⟨b.xBoard, b.xbytes.set (Int.toNat (i : Int)) t.2[j], b.xbegin, b.xn, b.xlast, b.xkept⟩ : T_rbuf_Buffer_o)
        ⟨h.made, by simp [h.len], h.R1, h.R2, h.b0, h.b1, h.n0, h.n1, h.f0, h.f1, h.runs, h.cnt⟩ hn k (by omega)
      exact ⟨bs, k1, k2⟩
    · exact ih (j + 1) (by omega) R n b h hn k (by omega)

theorem insert_ok {b : T_rbuf_Buffer_o} {R : Nat} {j : Nat} (h : Inv R j b) (hj : j ≤ 1000000) {a : Int} (h0 : 0 ≤ a) (h1 : a < 4294967296) (p : List Int) (hp : p.length ≤ 140737488355328) {k : Nat} (hk : 8192 + j + 10 < k) :
    ∃ n b', rbuf_Buffer_Insert.f k b a p = some (n, b') ∧ 0 ≤ n ∧ Inv R (j + 1) b' ∧ b'.xn = b.xn + n ∧ b'.xBoard.xfirst = (b.xBoard.xfirst + n) % 4294967296 := by
  have hI := h
  obtain ⟨hm, hl, hR1, hR2, hb0, hb1, hn0, hn1, hf0, hf1, hr, hc⟩ := h
  unfold rbuf_Buffer_Insert.f rbuf_Buffer_ok.f
  rw [Option.bind_some, if_f (by rfl), bind_of (within_ok hI h0 h1 p hp rfl)]
  generalize hD : I32 (U32 (a - b.xBoard.xfirst)) = D
  dsimp only
  have hlen : ((p.drop (max (-D) 0).toNat).take (max (R - b.xn - max D 0) 0).toNat).length ≤ (max (R - b.xn - max D 0) 0).toNat := List.length_take_le _ _
  generalize (p.drop (max (-D) 0).toNat).take (max (R - b.xn - max D 0) 0).toNat = q at hlen ⊢
  by_cases hq : q.length = 0
  · rw [if_t (by simp [hq])]
    exact ⟨0, b, rfl, by omega, ⟨hm, hl, hR1, hR2, hb0, hb1, hn0, hn1, hf0, hf1, hr, by omega⟩, by omega, by rw [Int.add_zero]; omega⟩
  · rw [if_f (by simpa using hq)]
    obtain ⟨bs, k1, k2⟩ := insert_l1 ((b.xBoard.xfirst + max D 0) % 4294967296, q) (by dsimp only; omega) q.length 0 (by simp) R j b hI hj k (by omega)
    have k2' : rbuf_Buffer_Insert.l1 k ((b.xBoard.xfirst + max D 0) % 4294967296, q) 0 b = some ⟨b.xBoard, bs, b.xbegin, b.xn, b.xlast, b.xkept⟩ := k2
    rw [k2', Option.bind_some]
    dsimp only
    have hs : I64 (U32 ((b.xBoard.xfirst + max D 0) % 4294967296 - b.xBoard.xfirst)) = max D 0 := by
      rw [U32_def, I64_id (by omega) (by omega)]; omega
    have he : I64 (U32 (U32 ((b.xBoard.xfirst + max D 0) % 4294967296 + U32 (q.length : Int)) - b.xBoard.xfirst)) = max D 0 + q.length := by
      rw [U32_id (x := (q.length : Int)) (by omega) (by omega), U32_def, U32_def, I64_id (by omega) (by omega)]; omega
    obtain ⟨v, l, a1, a2, a3, a4⟩ := add_ok (M := R - b.xn) (by omega) hm hr (by omega) (s := max D 0) (e := max D 0 + q.length) (by omega) (by omega) (by omega) hs he (k := k) (by omega)
    rw [a1, Option.bind_some]
    dsimp only
    rw [blocks_ok (by exact hm) (by dsimp only; omega) (by dsimp only; omega), Option.bind_some]
    dsimp only
    match l, a2, a3, a4 with
    | x :: l, a2, a3, a4 =>
      obtain ⟨x0, x1, x2⟩ := a2 x (by simp)
      have el : U32 (b.xBoard.xfirst + U32 x.xfrom) = (b.xBoard.xfirst + x.xfrom) % 4294967296 := by
        rw [U32_id (x := x.xfrom) (by omega) (by omega), U32_def]
      have er : U32 (b.xBoard.xfirst + U32 x.xto) = (b.xBoard.xfirst + x.xto) % 4294967296 := by
        rw [U32_id (x := x.xto) (by omega) (by omega), U32_def]
      have hbk : blkOf b.xBoard.xfirst x = ⟨(b.xBoard.xfirst + x.xfrom) % 4294967296, (b.xBoard.xfirst + x.xto) % 4294967296⟩ := by unfold blkOf; rw [el, er]
      rw [List.map_cons, idx_zero, Option.bind_some, bnext (by exact hm), Option.bind_some, hbk]
      by_cases hz : x.xfrom = 0
      · have e0 : (b.xBoard.xfirst + x.xfrom) % 4294967296 = b.xBoard.xfirst := by rw [hz]; omega
        rw [if_f (by simp [e0])]
        simp only [Option.bind_some]
        have ha : I64 (U32 ((b.xBoard.xfirst + x.xto) % 4294967296 - b.xBoard.xfirst)) = x.xto := by
          rw [U32_def, I64_id (by omega) (by omega)]; omega
        have hn : I64 (U32 ((b.xBoard.xfirst + x.xto) % 4294967296 - (b.xBoard.xfirst + x.xfrom) % 4294967296)) = x.xto := by
          rw [e0]; exact ha
        rw [advance_ok (M := R - b.xn) (by omega) (by exact hm) a2 (by dsimp only; omega) (t := x.xto) (by omega) (by omega) (by exact ha) (by dsimp only; omega), Option.bind_some, hn]
        dsimp only
        refine ⟨_, _, rfl, by omega, ⟨hm, k1, hR1, hR2, hb0, hb1, ?_, ?_, by dsimp only; omega, by dsimp only; omega, ?_, ?_⟩, ?_, rfl⟩
        · dsimp only; rw [I64_id (by omega) (by omega)]; omega
        · dsimp only; rw [I64_id (by omega) (by omega)]; omega
        · dsimp only
          rw [I64_id (by omega) (by omega)]
          have := adv_run (M := R - b.xn) (t := x.xto) a2 (by omega)
          intro y hy
          have h2 := this y hy
          rwa [show (R : Int) - b.xn - x.xto = R - (b.xn + x.xto) by omega] at h2
        · dsimp only
          rw [List.length_map]
          exact Nat.le_trans (List.length_filter_le _ _) (by omega)
        · dsimp only; rw [I64_id (by omega) (by omega)]
      · rw [if_t (by simp; omega)]
        exact ⟨_, _, rfl, by omega, ⟨hm, k1, hR1, hR2, hb0, hb1, hn0, hn1, hf0, hf1, a2, by dsimp only; omega⟩, by dsimp only; omega, by dsimp only; omega⟩

theorem read_l1 {R n : Nat} {b : T_rbuf_Buffer_o} (h : Inv R n b) (l : List Int) (hl : l.length ≤ 8192) (t : Int) : ∀ (d j : Nat), j + d = l.length → ∀ (acc : List Int), acc.length = l.length → ∀ k, d < k →
    ∃ r, r.length = l.length ∧ rbuf_Buffer_Read.l1 k b l t j acc = some r := by
  intro d
  induction d with
  | zero =>
    intro j hj acc ha k hk
    obtain ⟨k, rfl⟩ : ∃ m, k = m + 1 := ⟨k - 1, by omega⟩
    rw [rbuf_Buffer_Read.l1, if_f (by simpa using by omega)]
    exact ⟨acc, ha, rfl⟩
  | succ d ih =>
    intro j hj acc ha k hk
    obtain ⟨k, rfl⟩ : ∃ m, k = m + 1 := ⟨k - 1, by omega⟩
    have hlen := h.len
    have hR1 := h.R1
    have hR2 := h.R2
    have hb0 := h.b0
    have hb1 := h.b1
    have hn0 := h.n0
    have hn1 := h.n1
    obtain ⟨i, x, h1, h2, _⟩ := place_ok (b := b) h.made (by omega) (by omega) hb0 (by omega) hn0 (by omega) (U32 (U32 (t - U32 b.xn) + U32 (j : Int)))
    rw [rbuf_Buffer_Read.l1, if_t (by simpa using by omega), h1, Option.bind_some, bind_of (idx_at rfl (by omega)), I64_succ (by omega)]
    exact ih (j + 1) (by omega) _ (by simp [ha]) k (by omega)
theorem read_ok {b : T_rbuf_Buffer_o} {R : Nat} {j : Nat} (h : Inv R j b) (N : Int) {k : Nat} (hk : 8192 < k) :
    ∃ l b', rbuf_Buffer_Read.f k b N = some (l, b') ∧ (l.length : Int) = min (max N 0) b.xn ∧ Inv R j b' ∧ b'.xn = b.xn - l.length ∧ b'.xBoard.xfirst = b.xBoard.xfirst := by
  have hI := h
  obtain ⟨hm, hl, hR1, hR2, hb0, hb1, hn0, hn1, hf0, hf1, hr, hc⟩ := h
  unfold rbuf_Buffer_Read.f
  rw [bind_of blen, imin_eq, imax_eq]
  by_cases hz : min (max N 0) b.xn = 0
  · rw [if_t (by simpa using hz)]
    exact ⟨[], b, rfl, by simp; omega, hI, by simp, rfl⟩
  · rw [if_f (by simpa using hz)]
    have e1 : min (max N 0) b.xn = ((min (max N 0) b.xn).toNat : Int) := by omega
    generalize hq : (min (max N 0) b.xn).toNat = q at e1
    rw [e1, bind_of (mk_at rfl (by omega)), bind_of (bnext hm)]
    obtain ⟨r, r1, r2⟩ := read_l1 hI (List.replicate q 0) (by simp; omega) b.xBoard.xfirst q 0 (by simp) (List.replicate q 0) rfl k (by omega)
    have r2' : rbuf_Buffer_Read.l1 k b (List.replicate q 0) b.xBoard.xfirst 0 (List.replicate q 0) = some r := r2
    have hrl : r.length = q := by simpa using r1
    rw [r2', Option.bind_some, I64_id (x := b.xbegin + _) (by omega) (by omega), bind_of (divr_at (by omega) (by omega)), I64_id (by omega) (by omega)]
    have g0 := Int.emod_nonneg (b.xbegin + q) (b := b.xbytes.length) (by omega)
    have g1 := Int.emod_lt_of_pos (b.xbegin + q) (b := b.xbytes.length) (by omega)
    refine ⟨r, _, rfl, by omega, ⟨hm, hl, hR1, hR2, g0, by dsimp only; omega, by dsimp only; omega, by dsimp only; omega, hf0, hf1, fun x hx => ?_, hc⟩, by dsimp only; omega, rfl⟩
    obtain ⟨x0, x1, x2⟩ := hr x hx
    exact ⟨x0, x1, by dsimp only; omega⟩

theorem new_ok {room next : Int} (h0 : 1 ≤ room) (h1 : room ≤ 8192) (h2 : 0 ≤ next) (h3 : next < 4294967296) : ∃ b, rbuf_New.f room next = some (some b, 0) ∧ Inv room.toNat 0 b ∧ b.xn = 0 ∧ b.xBoard.xfirst = next ∧ b.xbytes.length = room.toNat ∧ b.xBoard.xruns = [] := by
  unfold rbuf_New.f sack_New.f
  rw [if_f (by simpa using by omega), if_f (by simpa using by omega), Option.bind_some, bind_of (mk_at (m := room.toNat) (by omega) (by omega))]
  refine ⟨_, rfl, ⟨rfl, by simp, by omega, by omega, by simp, by dsimp only; omega, by simp, by dsimp only; omega, h2, h3, fun x hx => (by cases hx), by simp⟩, rfl, rfl, by simp, rfl⟩
end Go.V
