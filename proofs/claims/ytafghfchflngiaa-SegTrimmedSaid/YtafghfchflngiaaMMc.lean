/- Trim, as a whole. -/
import Derived.Test.YtafghfchflngiaaMMb
namespace Go.V
open Go
theorem trim_ok (x : TS) (b sz A : Int) (h0 : 0 ≤ x.fl) (h1 : x.fl ≤ 255) (hl : x.da.length ≤ 100000) (hz : 0 ≤ sz) (hz2 : sz ≤ 4294967296) (hA : I32 (U32 (b - x.sq)) = A) :
    ∃ (X : Int) (i j : Nat), seg_Trim.f x b sz = some { x with sq := if 0 < A then b else x.sq, fl := X, da := (x.da.drop i).take j } ∧ i + j ≤ x.da.length ∧ SubF X x.fl ∧ (j : Int) + finW X + synW X ≤ max (sz + min A 0) 0 ∧
      (j : Int) + finW X + synW X ≤ (x.da.length : Int) + finW x.fl + synW x.fl ∧ (A ≤ 0 → (x.da.length : Int) + finW x.fl + synW x.fl ≤ max (sz + A) 0 → X = x.fl ∧ i = 0 ∧ j = x.da.length) := by
  have hF := flags_ok h0 h1
  have f01 := hF.fin01; have s01 := hF.syn01
  have hAr : -2147483648 ≤ A ∧ A ≤ 2147483647 := by rw [← hA, I32_def]; omega
  unfold seg_Trim.f ring_Diff.f
  rw [hA, Option.bind_some, I64_id (x := A) (by omega) (by omega)]
  by_cases c : 0 < A
  · rw [if_t (decide_eq_true c), drop_syn x A hF (by omega) (by omega), Option.bind_some, if_pos c]
    obtain ⟨X, hX, sX, fX, nX, yX⟩ := dropS h0 h1 (.inl rfl) A
    rw [hX, if_pos c]
    rw [if_pos c] at yX
    dsimp only
    rw [imin_eq]
    obtain ⟨k, hk⟩ : ∃ k : Nat, min (A - synW x.fl) (x.da.length : Int) = k := ⟨(min (A - synW x.fl) (x.da.length : Int)).toNat, by omega⟩
    rw [hk, bind_of (cut_from (n := k) rfl rfl (by omega)), I64_id (by omega) (by omega)]
    generalize hm : A - synW x.fl - (k : Int) = m
    rw [bind_of (drop_fin _ m fX (by omega) (by omega)), Option.bind_some]
    obtain ⟨Y, hY, sY, fY, yY, nY⟩ := dropF h0 h1 sX m
    dsimp only
    rw [hY]
    obtain ⟨Z, j, e, hj, sZ, q1, q2, _⟩ := over_ok ⟨x.sr, x.ds, b, x.ak, Y, x.wi, x.ur, x.o, x.da.drop k⟩ 0 sz x.fl h0 h1 sY (by rw [List.length_drop]; omega) (by omega) (by omega) hz hz2
    have hld : (x.da.drop k).length = x.da.length - k := List.length_drop
    dsimp only at q2 hj
    rw [hld] at hj q2
    refine ⟨Z, k, j, e, by omega, sZ, by rw [show min A 0 = 0 by omega]; exact q1, ?_, fun h => by omega⟩
    rw [yY, yX, nY, nX] at q2
    split at q2 <;> omega
  · rw [if_f (decide_eq_false c), Option.bind_some, if_neg c]
    obtain ⟨Z, j, e, hj, sZ, q1, q2, q3⟩ := over_ok x A sz x.fl h0 h1 (.inl rfl) hl (by omega) (by omega) hz hz2
    refine ⟨Z, 0, j, e, by omega, sZ, by rw [show min A 0 = A by omega]; exact q1, q2, fun _ h => ?_⟩
    obtain ⟨a, b⟩ := q3 h
    exact ⟨a, rfl, b⟩
end Go.V
