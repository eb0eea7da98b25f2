/- Words for the plain laws: numbers that wrap, elements, parts. -/
import Derived.Test.YtafghfchflngiaaVl
namespace Go.V
open Go
theorem I64_def (x : Int) : I64 x = (x + 9223372036854775808) % 18446744073709551616 - 9223372036854775808 := IntKind.wrap_i64 x
theorem I32_def (x : Int) : I32 x = (x + 2147483648) % 4294967296 - 2147483648 := IntKind.wrap_i32 x
theorem U32_def (x : Int) : U32 x = x % 4294967296 := IntKind.wrap_u32 x
theorem U16_def (x : Int) : U16 x = x % 65536 := by simp [U16, IntKind.wrap, IntKind.bits, IntKind.signed]
theorem U8_def (x : Int) : U8 x = x % 256 := by simp [U8, IntKind.wrap, IntKind.bits, IntKind.signed]
theorem U64_def (x : Int) : U64 x = x % 18446744073709551616 := by simp [U64, IntKind.wrap, IntKind.bits, IntKind.signed]
theorem I64_id {x : Int} (h1 : -9223372036854775808 ≤ x) (h2 : x ≤ 9223372036854775807) : I64 x = x := by rw [I64_def]; omega
theorem U32_id {x : Int} (h1 : 0 ≤ x) (h2 : x ≤ 4294967295) : U32 x = x := by rw [U32_def]; omega
theorem U64_id {x : Int} (h1 : 0 ≤ x) (h2 : x ≤ 18446744073709551615) : U64 x = x := by rw [U64_def]; omega
theorem U8_id {x : Int} (h1 : 0 ≤ x) (h2 : x ≤ 255) : U8 x = x := by rw [U8_def]; omega
theorem U16_id {x : Int} (h1 : 0 ≤ x) (h2 : x ≤ 65535) : U16 x = x := by rw [U16_def]; omega
theorem I64_nat {n : Nat} (h : n ≤ 9223372036854775807) : I64 (n : Int) = n := I64_id (by omega) (by omega)
theorem I64_succ {n : Nat} (h : n < 9223372036854775807) : I64 ((n : Int) + 1) = ((n + 1 : Nat) : Int) := by rw [I64_id (by omega) (by omega)]; rfl
theorem tmod_pos {a b : Int} (h : 0 ≤ a) : Int.tmod a b = a % b := Int.tmod_eq_emod_of_nonneg h
theorem bind_of {α β : Type} {x : Option α} {a : α} (h : x = some a) (f : α → Option β) : x.bind f = f a := by rw [h]; rfl
theorem if_t {α : Type} {b : Bool} (h : b = true) (x y : α) : (if b = true then x else y) = x := if_pos h
theorem if_f {α : Type} {b : Bool} (h : b = false) (x y : α) : (if b = true then x else y) = y := by rw [h]; rfl
section
variable {α : Type} {xs ys : List α}
theorem idx_at {i : Int} {n : Nat} (hi : i = n) (h : n < xs.length) : idx xs i = some (xs[n]) := by
  subst hi
  unfold idx
  rw [if_pos (by omega), Int.toNat_natCast, List.getElem?_eq_getElem h]
theorem idx_in {i : Int} (h0 : 0 ≤ i) (h1 : i < xs.length) : ∃ x, idx xs i = some x ∧ x ∈ xs := by
  refine ⟨xs[i.toNat]'(by omega), idx_at (by omega) _, List.getElem_mem _⟩
theorem idx_zero (x : α) (xs : List α) : idx (x :: xs) 0 = some x := by simp [idx]
theorem cut_at {l h : Int} {n m : Nat} (hl : l = n) (hh : h = m) (h1 : n ≤ m) (h2 : m ≤ xs.length) : cut xs l h = some ((xs.take m).drop n) := by
  subst hl hh
  unfold cut
  rw [if_pos ⟨by omega, by omega, by omega⟩]; simp
theorem cut_to {h : Int} {m : Nat} (hh : h = m) (h2 : m ≤ xs.length) : cut xs 0 h = some (xs.take m) := by
  have h3 := cut_at (xs := xs) (l := 0) (n := 0) (by rfl) hh (Nat.zero_le _) h2
  rw [h3]; simp
theorem cut_from {l h : Int} {n : Nat} (hl : l = n) (hh : h = xs.length) (h2 : n ≤ xs.length) : cut xs l h = some (xs.drop n) := by
  rw [cut_at hl hh h2 (Nat.le_refl _)]; simp
theorem app_at (h : xs.length + ys.length ≤ 4294967296) : app xs ys = some (xs ++ ys) := by unfold app lim; rw [if_pos h]
theorem mk_at {n : Int} {z : α} {m : Nat} (hn : n = m) (h : m ≤ 4294967296) : mk n z = some (List.replicate m z) := by
  subst hn; unfold mk; rw [if_pos ⟨by omega, by omega⟩, Int.toNat_natCast]
theorem insM_at {i : Int} {q : Nat} {vs : List α} (hi : i = q) (h : q ≤ xs.length) (hl : xs.length + vs.length ≤ 4294967296) : insM xs i vs = some (xs.take q ++ vs ++ xs.drop q) := by
  subst hi; unfold insM lim; rw [if_pos ⟨by omega, by omega, hl⟩, Int.toNat_natCast]
end
theorem divr_at {x y : Int} (hy : y ≠ 0) (hx : 0 ≤ x) : divr x y = some (x % y) := by unfold divr; rw [if_neg hy, tmod_pos hx]
theorem imin_le (x y : Int) : imin x y ≤ x ∧ imin x y ≤ y := by unfold imin; split <;> omega
theorem imin_eq (x y : Int) : imin x y = min x y := by unfold imin; split <;> omega
theorem imax_eq (x y : Int) : imax x y = max x y := by unfold imax; split <;> omega
theorem bshr_one (k : IntKind) (x : Int) (hk : 1 ≤ k.bits) : bshr k x 1 = x / 2 := by
  unfold bshr
  have : min (Int.toNat 1) k.bits = 1 := by have : Int.toNat 1 = 1 := rfl; omega
  rw [this]
  exact Int.fdiv_eq_ediv_of_nonneg x (by decide)
end Go.V
