/- What came in order is lost by nothing that comes: the plain law. -/
import Derived.Test.YtidkijkkolfooaaKRd
namespace Go.V
open Go

theorem kept_l1 (a1 : Int) (h0 : 0 ≤ a1) (h1 : a1 < 4294967296) (l : List T_downhaullaw26_Step) (hl : l.length ≤ 60) (hs : ∀ x ∈ l, x.xBytes.length ≤ 3000) (R : Nat) : ∀ (d j : Nat), j + d = l.length → ∀ (b : T_rbuf_Buffer_o) (p q : Int), Inv R j b → 0 ≤ p → b.xn = q - p → p ≤ (j : Int) * 8192 →
    b.xBoard.xfirst = (a1 + q) % 4294967296 → ∀ k, d + 9000 < k → ∃ b', downhaullaw26_RbufKept.l1 k a1 l p j b q = some (.inr b') := by
  intro d
  induction d with
  | zero =>
    intro j hj b p q h hp hx hq hf k hk
    obtain ⟨k, rfl⟩ : ∃ m, k = m + 1 := ⟨k - 1, by omega⟩
    rw [downhaullaw26_RbufKept.l1, if_f (by simpa using by omega)]
    exact ⟨b, rfl⟩
  | succ d ih =>
    intro j hj b p q h hp hx hq hf k hk
    obtain ⟨k, rfl⟩ : ∃ m, k = m + 1 := ⟨k - 1, by omega⟩
    have hlt : j < l.length := by omega
    have hR2 := h.R2
    have hn0 := h.n0
    have hn1 := h.n1
    rw [downhaullaw26_RbufKept.l1, if_t (by simpa using by omega), bind_of (idx_at rfl hlt), I64_succ (by omega)]
    have hlen := hs _ (List.getElem_mem hlt)
    generalize l[j] = e at hlen ⊢
    cases hr : e.xRead with
    | true =>
      rw [if_t rfl]
      obtain ⟨r, b', r1, r2, r3, r4, r5⟩ := read_ok h e.xN (k := k) (by omega)
      rw [r1, Option.bind_some]
      dsimp only
      have e1 : I64 (p + (r.length : Int)) = p + r.length := I64_id (by omega) (by omega)
      have e2 : I64 (q - (p + (r.length : Int))) = q - (p + r.length) := I64_id (by omega) (by omega)
      have e3 : I64 (q - (p + (r.length : Int)) + (r.length : Int)) = b.xn := by rw [I64_id (by omega) (by omega)]; omega
      rw [e1, e2, e3, imin_eq, imax_eq, if_f (by simp [r2]), bind_of blen, if_f (by simp [r4]; omega), bind_of (bnext r3.made), U32_id (x := q) (by omega) (by omega), U32_def, if_f (by simp [r5, hf])]
      have r3' : Inv R (j + 1) b' := ⟨r3.made, r3.len, r3.R1, r3.R2, r3.b0, r3.b1, r3.n0, r3.n1, r3.f0, r3.f1, r3.runs, Nat.le_succ_of_le r3.cnt⟩
      exact ih (j + 1) (by omega) b' _ q r3' (by omega) (by omega) (by omega) (by rw [r5, hf]) k (by omega)
    | false =>
      rw [if_f rfl, bind_of (bnext h.made)]
      have hu := U32_def (b.xBoard.xfirst + U32 e.xAhead)
      obtain ⟨n, b', r1, r2, r3, r4, r5⟩ := insert_ok h (by omega) (a := U32 (b.xBoard.xfirst + U32 e.xAhead)) (by omega) (by omega) e.xBytes (by omega) (k := k) (by omega)
      have hn1' := r3.n1
      rw [r1, Option.bind_some]
      dsimp only
      have e1 : I64 (q + n) = q + n := I64_id (by omega) (by omega)
      have e2 : I64 (q + n - p) = b'.xn := by rw [I64_id (by omega) (by omega)]; omega
      rw [if_f (by simpa using r2), bind_of blen, e1, e2, if_f (by simp), bind_of (bnext r3.made), U32_id (x := q + n) (by omega) (by omega), U32_def, if_f (by simp [r5, hf]; omega)]
      exact ih (j + 1) (by omega) b' p _ r3 hp (by omega) (by omega) (by rw [r5, hf]; omega) k (by omega)

theorem pureRbufKept : PureRbufKept := by
  intro a0 a1 a2 w0 w1 m2 w2
  have h0 := wfI_u16 w0
  have h1 := wfI_u32 w1
  refine ⟨20000, ?_⟩
  unfold downhaullaw26_RbufKept.f
  have e0 : I64 (Int.tmod (I64 a0) 300 + 1) = a0 % 300 + 1 := by
    rw [I64_id (x := a0) (by omega) (by omega), tmod_pos h0.1, I64_id (by omega) (by omega)]
  rw [e0]
  obtain ⟨b, n1, n2, n3, n4, _⟩ := new_ok (room := a0 % 300 + 1) (next := a1) (by omega) (by omega) h1.1 (by omega)
  rw [n1, Option.bind_some]
  dsimp only [optE]
  rw [if_f (by rfl), bind_of (far_ok a2 (by omega))]
  by_cases hf : farSum (a2.take 60) > 3000
  · rw [if_t (by simpa using hf), if_t (by rfl), bind_of (alive_ok' (by omega))]
  · rw [if_f (by simpa using by omega), bind_of (short_ok a2)]
    obtain ⟨b', r1⟩ := kept_l1 a1 h1.1 (by omega) (a2.take 60) (List.length_take_le _ _) (far_len hf) _ (a2.take 60).length 0 (by omega) b 0 0 n2 (by omega) (by omega) (by omega) (by rw [n4]; omega) 20000 (by have := List.length_take_le 60 a2; omega)
    have r1' : downhaullaw26_RbufKept.l1 20000 a1 (a2.take 60) 0 0 b 0 = some (.inr b') := r1
    rw [r1', Option.bind_some]
    dsimp only [brk]
    rw [bind_of (alive_ok' (by omega))]
end Go.V
