/- What is trimmed of a segment. -/
import Derived.Test.YtafghfchflngiaaMy
import Derived.Test.YtafghfchflngiaaMMa
namespace Go.V
open Go
theorem drop_fin (x : TS) (n : Int) (hF : FlagsOk x.fl) (h0 : -9223372036854775807 ≤ n) (h1 : n ≤ 9223372036854775807) :
    seg_drop.f x 1 n = some (n - (if 0 < n then finW x.fl else 0), { x with fl := if 0 < n ∧ finW x.fl = 1 then bandn .u8 x.fl 1 else x.fl }) := by
  unfold seg_drop.f seg_Has_2.f
  by_cases c : 0 < n
  · rw [if_t (decide_eq_true c), Option.bind_some, if_pos c]
    rcases hF.fin01 with e | e
    · rw [if_f (by rw [hF.hasF, e]; rfl), e, Int.sub_zero, if_neg (by omega)]
    · rw [if_t (by rw [hF.hasF, e]; rfl), e, if_pos ⟨c, rfl⟩, I64_id (by omega) (by omega)]
  · rw [if_f (decide_eq_false c), if_neg c, Int.sub_zero, if_neg (by omega)]
theorem drop_syn (x : TS) (n : Int) (hF : FlagsOk x.fl) (h0 : -9223372036854775807 ≤ n) (h1 : n ≤ 9223372036854775807) :
    seg_drop.f x 2 n = some (n - (if 0 < n then synW x.fl else 0), { x with fl := if 0 < n ∧ synW x.fl = 1 then bandn .u8 x.fl 2 else x.fl }) := by
  unfold seg_drop.f seg_Has_2.f
  by_cases c : 0 < n
  · rw [if_t (decide_eq_true c), Option.bind_some, if_pos c]
    rcases hF.syn01 with e | e
    · rw [if_f (by rw [hF.hasS, e]; rfl), e, Int.sub_zero, if_neg (by omega)]
    · rw [if_t (by rw [hF.hasS, e]; rfl), e, if_pos ⟨c, rfl⟩, I64_id (by omega) (by omega)]
  · rw [if_f (decide_eq_false c), if_neg c, Int.sub_zero, if_neg (by omega)]
theorem len_eq (x : TS) (hF : FlagsOk x.fl) (hl : x.da.length ≤ 100000) : seg_Len_3.f x = some ((x.da.length : Int) + finW x.fl + synW x.fl) := by
  have a := hF.fin01; have b := hF.syn01
  unfold seg_Len_3.f
  show some (U32 (U32 (U32 (x.da.length : Int) + U32 (finW x.fl)) + synW x.fl)) = _
  rw [hF.u, U32_id (x := (x.da.length : Int)) (by omega) (by omega), U32_id (x := (x.da.length : Int) + finW x.fl) (by omega) (by omega), U32_id (by omega) (by omega)]
/-- What a drop leaves of the flags. -/
theorem dropF {F F0 : Int} (h0 : 0 ≤ F0) (h1 : F0 ≤ 255) (hs : SubF F F0) (n : Int) : ∃ X, (if 0 < n ∧ finW F = 1 then bandn .u8 F 1 else F) = X ∧ SubF X F0 ∧ FlagsOk X ∧ synW X = synW F ∧ finW X = (if 0 < n then 0 else finW F) := by
  obtain ⟨a, b, _⟩ := sub_ok h0 h1 hs
  have hF := flags_ok a b
  refine ⟨_, rfl, ?_⟩
  by_cases c : 0 < n ∧ finW F = 1
  · rw [if_pos c, if_pos c.1]
    have h := sub_one h0 h1 hs
    obtain ⟨a', b', _⟩ := sub_ok h0 h1 h
    exact ⟨h, flags_ok a' b', hF.synG, hF.finG⟩
  · rw [if_neg c]
    refine ⟨hs, hF, rfl, ?_⟩
    split
    · rcases hF.fin01 with e | e
      · exact e
      · exact absurd ⟨by assumption, e⟩ c
    · rfl
theorem dropS {F F0 : Int} (h0 : 0 ≤ F0) (h1 : F0 ≤ 255) (hs : SubF F F0) (n : Int) : ∃ X, (if 0 < n ∧ synW F = 1 then bandn .u8 F 2 else F) = X ∧ SubF X F0 ∧ FlagsOk X ∧ finW X = finW F ∧ synW X = (if 0 < n then 0 else synW F) := by
  obtain ⟨a, b, _⟩ := sub_ok h0 h1 hs
  have hF := flags_ok a b
  refine ⟨_, rfl, ?_⟩
  by_cases c : 0 < n ∧ synW F = 1
  · rw [if_pos c, if_pos c.1]
    have h := sub_two h0 h1 hs
    obtain ⟨a', b', _⟩ := sub_ok h0 h1 h
    exact ⟨h, flags_ok a' b', hF.finH, hF.synH⟩
  · rw [if_neg c]
    refine ⟨hs, hF, rfl, ?_⟩
    split
    · rcases hF.syn01 with e | e
      · exact e
      · exact absurd ⟨by assumption, e⟩ c
    · rfl
/-- The second part: what lies behind the window goes. -/
def over (x : TS) (ahead sz : Int) : Option TS :=
  (seg_Len_3.f x).bind fun t3 => (seg_drop.f x 1 (I64 (I64 t3 - imax (I64 (I64 sz + ahead)) 0))).bind fun t4 =>
    if decide (imin (imax t4.1 0) (t4.2.da.length : Int) > 0) = true then (cut t4.2.da 0 (I64 ((t4.2.da.length : Int) - imin (imax t4.1 0) (t4.2.da.length : Int)))).bind fun l1 =>
      (seg_drop.f (⟨t4.2.sr, t4.2.ds, t4.2.sq, t4.2.ak, t4.2.fl, t4.2.wi, t4.2.ur, t4.2.o, l1⟩ : TS) 2 (I64 (t4.1 - imin (imax t4.1 0) (t4.2.da.length : Int)))).bind fun t5 => some t5.2
    else (seg_drop.f t4.2 2 t4.1).bind fun t6 => some t6.2
theorem over_ok (x : TS) (ahead sz F0 : Int) (h0 : 0 ≤ F0) (h1 : F0 ≤ 255) (hs : SubF x.fl F0) (hl : x.da.length ≤ 100000) (ha : -4294967296 ≤ ahead) (ha2 : ahead ≤ 0) (hz : 0 ≤ sz) (hz2 : sz ≤ 4294967296) :
    ∃ (X : Int) (j : Nat), over x ahead sz = some { x with fl := X, da := x.da.take j } ∧ j ≤ x.da.length ∧ SubF X F0 ∧ (j : Int) + finW X + synW X ≤ max (sz + ahead) 0 ∧
      (j : Int) + finW X + synW X ≤ (x.da.length : Int) + finW x.fl + synW x.fl ∧ ((x.da.length : Int) + finW x.fl + synW x.fl ≤ max (sz + ahead) 0 → X = x.fl ∧ j = x.da.length) := by
  obtain ⟨a, b, _⟩ := sub_ok h0 h1 hs
  have hF := flags_ok a b
  have f01 := hF.fin01; have s01 := hF.syn01
  unfold over
  rw [len_eq x hF hl, Option.bind_some, I64_id (x := sz) (by omega) (by omega), I64_id (x := sz + ahead) (by omega) (by omega), imax_eq, I64_id (x := (x.da.length : Int) + finW x.fl + synW x.fl) (by omega) (by omega), I64_id (by omega) (by omega)]
  generalize hov : (x.da.length : Int) + finW x.fl + synW x.fl - max (sz + ahead) 0 = ov
  rw [drop_fin x ov hF (by omega) (by omega), Option.bind_some]
  obtain ⟨X, hX, sX, fX, yX, nX⟩ := dropF h0 h1 hs ov
  rw [hX]
  dsimp only
  generalize ho2 : ov - (if 0 < ov then finW x.fl else 0) = o2
  have f01' := fX.fin01; have s01' := fX.syn01
  rw [imax_eq, imin_eq]
  by_cases c : min (max o2 0) (x.da.length : Int) > 0
  · rw [if_t (decide_eq_true c), I64_id (by omega) (by omega)]
    obtain ⟨j, hj⟩ : ∃ j : Nat, (x.da.length : Int) - min (max o2 0) (x.da.length : Int) = j := ⟨((x.da.length : Int) - min (max o2 0) (x.da.length : Int)).toNat, by omega⟩
    rw [bind_of (cut_to (m := j) hj (by omega)), I64_id (by split at ho2 <;> omega) (by split at ho2 <;> omega)]
    generalize ho3 : o2 - min (max o2 0) (x.da.length : Int) = o3
    rw [bind_of (drop_syn _ o3 fX (by split at ho2 <;> omega) (by split at ho2 <;> omega))]
    obtain ⟨Y, hY, sY, fY, nY, yY⟩ := dropS h0 h1 sX o3
    dsimp only
    rw [hY]
    refine ⟨Y, j, rfl, by omega, sY, ?_, ?_, fun h => ?_⟩
    · rw [nY, yY, nX]; split at ho2 <;> split <;> omega
    · rw [nY, yY, nX]; split at ho2 <;> split <;> omega
    · exfalso; split at ho2 <;> omega
  · rw [if_f (decide_eq_false c), bind_of (drop_syn _ o2 fX (by split at ho2 <;> omega) (by split at ho2 <;> omega))]
    obtain ⟨Y, hY, sY, fY, nY, yY⟩ := dropS h0 h1 sX o2
    dsimp only
    rw [hY]
    refine ⟨Y, x.da.length, by rw [List.take_length], Nat.le_refl _, sY, ?_, ?_, fun h => ⟨?_, rfl⟩⟩
    · rw [nY, yY, nX]; split at ho2 <;> split <;> omega
    · rw [nY, yY, nX]; split at ho2 <;> split <;> omega
    · rw [← hY, ← hX]
      have h2 : ¬ 0 < ov := by omega
      have h3 : ¬ 0 < o2 := by rw [← ho2, if_neg h2]; omega
      rw [if_neg (by omega), if_neg (by omega)]
end Go.V
