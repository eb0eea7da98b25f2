/- A segment's flags as words. -/
import Derived.Test.YtafghfchflngiaaVp
namespace Go.V
open Go
def finW (F : Int) : Int := band .u8 F 1
def synW (F : Int) : Int := bshr .u32 (U32 (band .u8 F 2)) 1
def chkF (F : Int) : Bool :=
  let G := bandn .u8 F 1
  let H := bandn .u8 F 2
  let K := bandn .u8 H 1
  let ok := fun X : Int => decide (0 ≤ X) && decide (X ≤ 255) && bandn .u8 X F == 0
  (finW F == 0 || finW F == 1) && (synW F == 0 || synW F == 1) && (U32 (finW F) == finW F) && ((band .u8 F 1 == 1) == (finW F == 1)) && ((band .u8 F 2 == 2) == (synW F == 1)) &&
  ok F && ok G && ok H && ok K && (bandn .u8 G 2 == K) && (bandn .u8 K 1 == K) && (bandn .u8 K 2 == K) && (bandn .u8 G 1 == G) && (bandn .u8 H 2 == H) &&
  (finW G == 0) && (synW G == synW F) && (finW H == finW F) && (synW H == 0)
theorem chk_all : (List.range 256).all (fun n => chkF (n : Int)) = true := by kernel_rfl
theorem chk_of {F : Int} (h0 : 0 ≤ F) (h1 : F ≤ 255) : chkF F = true := by
  have h := List.all_eq_true.1 chk_all F.toNat (List.mem_range.2 (by omega))
  have e : ((F.toNat : Nat) : Int) = F := by omega
  rw [e] at h; exact h
/-- One of the flags that are left of F. -/
def SubF (X F : Int) : Prop := X = F ∨ X = bandn .u8 F 1 ∨ X = bandn .u8 F 2 ∨ X = bandn .u8 (bandn .u8 F 2) 1
structure FlagsOk (F : Int) : Prop where
  fin01 : finW F = 0 ∨ finW F = 1
  syn01 : synW F = 0 ∨ synW F = 1
  u : U32 (finW F) = finW F
  hasF : (band .u8 F 1 == 1) = (finW F == 1)
  hasS : (band .u8 F 2 == 2) = (synW F == 1)
  finG : finW (bandn .u8 F 1) = 0
  synG : synW (bandn .u8 F 1) = synW F
  finH : finW (bandn .u8 F 2) = finW F
  synH : synW (bandn .u8 F 2) = 0
theorem flags_ok {F : Int} (h0 : 0 ≤ F) (h1 : F ≤ 255) : FlagsOk F := by
  have h := chk_of h0 h1
  simp only [chkF, Bool.and_eq_true, Bool.or_eq_true, beq_iff_eq, decide_eq_true_eq] at h
  constructor <;> simp_all
theorem sub_ok {X F : Int} (h0 : 0 ≤ F) (h1 : F ≤ 255) (h : SubF X F) : 0 ≤ X ∧ X ≤ 255 ∧ bandn .u8 X F = 0 := by
  have c := chk_of h0 h1
  simp only [chkF, Bool.and_eq_true, Bool.or_eq_true, beq_iff_eq, decide_eq_true_eq] at c
  rcases h with rfl | rfl | rfl | rfl <;> simp_all
theorem sub_one {X F : Int} (h0 : 0 ≤ F) (h1 : F ≤ 255) (h : SubF X F) : SubF (bandn .u8 X 1) F := by
  have c := chk_of h0 h1
  simp only [chkF, Bool.and_eq_true, Bool.or_eq_true, beq_iff_eq, decide_eq_true_eq] at c
  unfold SubF
  rcases h with rfl | rfl | rfl | rfl <;> simp_all
theorem sub_two {X F : Int} (h0 : 0 ≤ F) (h1 : F ≤ 255) (h : SubF X F) : SubF (bandn .u8 X 2) F := by
  have c := chk_of h0 h1
  simp only [chkF, Bool.and_eq_true, Bool.or_eq_true, beq_iff_eq, decide_eq_true_eq] at c
  unfold SubF
  rcases h with rfl | rfl | rfl | rfl <;> simp_all
end Go.V
