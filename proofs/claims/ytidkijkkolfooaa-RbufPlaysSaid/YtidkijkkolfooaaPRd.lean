/- What is drawn out of the steps: not too many, not too long. -/
import Derived.Test.YtidkijkkolfooaaPRc
namespace Go.V
open Go

theorem short_ok (l : List T_downhaullaw26_Step) : downhaullaw26_short.f l = some (l.take 60) := by
  unfold downhaullaw26_short.f
  have e : imin (l.length : Int) 60 = ((min 60 l.length : Nat) : Int) := by rw [imin_eq]; omega
  rw [bind_of (cut_to e (Nat.min_le_right _ _))]
  by_cases h : 60 ≤ l.length
  · rw [Nat.min_eq_left h]
  · rw [Nat.min_eq_right (by omega), List.take_length, List.take_of_length_le (by omega)]
def farSum (l : List T_downhaullaw26_Step) : Int := (l.map fun x => min (x.xBytes.length : Int) 10000).sum
theorem farSum_nonneg (l : List T_downhaullaw26_Step) : 0 ≤ farSum l := by
  induction l with
  | nil => simp [farSum]
  | cons x l ih => simp only [farSum, List.map_cons, List.sum_cons] at ih ⊢; omega
theorem farSum_mem {l : List T_downhaullaw26_Step} {x : T_downhaullaw26_Step} (h : x ∈ l) : min (x.xBytes.length : Int) 10000 ≤ farSum l := by
  induction l with
  | nil => cases h
  | cons y l ih =>
    have h0 := farSum_nonneg l
    have e : farSum (y :: l) = min (y.xBytes.length : Int) 10000 + farSum l := by simp [farSum]
    rw [e]
    rcases List.mem_cons.1 h with rfl | h
    · omega
    · have := ih h; omega
theorem far_l1 (l : List T_downhaullaw26_Step) (hl : l.length ≤ 60) : ∀ (d j : Nat), j + d = l.length → ∀ k, d < k → ∀ s : Int, 0 ≤ s → s ≤ (j : Int) * 10000 → downhaullaw26_far.l1 k l s j = some (s + farSum (l.drop j)) := by
  intro d
  induction d with
  | zero =>
    intro j hj k hk s h0 h1
    obtain ⟨k, rfl⟩ : ∃ m, k = m + 1 := ⟨k - 1, by omega⟩
    rw [downhaullaw26_far.l1, if_f (by simpa using by omega), List.drop_of_length_le (by omega)]
    simp [farSum]
  | succ d ih =>
    intro j hj k hk s h0 h1
    obtain ⟨k, rfl⟩ : ∃ m, k = m + 1 := ⟨k - 1, by omega⟩
    have hlt : j < l.length := by omega
    rw [downhaullaw26_far.l1, if_t (by simpa using by omega), bind_of (idx_at rfl hlt), I64_succ (by omega), imin_eq, I64_id (by omega) (by omega), ih (j + 1) (by omega) k (by omega) _ (by omega) (by omega), List.drop_eq_getElem_cons hlt]
    simp only [farSum, List.map_cons, List.sum_cons]
    congr 1; omega
theorem far_ok (l : List T_downhaullaw26_Step) {k : Nat} (hk : 60 < k) : downhaullaw26_far.f k l = some (decide (farSum (l.take 60) > 3000)) := by
  unfold downhaullaw26_far.f
  rw [bind_of (short_ok l)]
  have := far_l1 (l.take 60) (List.length_take_le _ _) (l.take 60).length 0 (by omega) k (by have := List.length_take_le 60 l; omega) 0 (by omega) (by omega)
  have h1 : downhaullaw26_far.l1 k (l.take 60) 0 0 = some (farSum (l.take 60)) := by
    have e : ((0 : Nat) : Int) = 0 := rfl
    rw [e] at this
    rw [this]; simp
  rw [h1]; rfl
theorem far_len {l : List T_downhaullaw26_Step} (h : ¬ farSum (l.take 60) > 3000) : ∀ x ∈ l.take 60, x.xBytes.length ≤ 3000 := fun x hx => by
  have := farSum_mem hx
  omega
theorem alive_ok (m : Nat) : downhaullaw26_alive.f (m + 40) = some true := by kernel_rfl
theorem alive_ok' {k : Nat} (h : 40 ≤ k) : downhaullaw26_alive.f k = some true := by
  obtain ⟨m, rfl⟩ : ∃ m, k = m + 40 := ⟨k - 40, by omega⟩
  exact alive_ok m
end Go.V
