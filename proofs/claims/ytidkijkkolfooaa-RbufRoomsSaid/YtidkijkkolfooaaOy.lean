/- What comes in: what is known of it, and how it stands in memory; the plain statement. -/
import Derived.Test.YtidkijkkolfooaaOx2
import Derived.Test.YtidkijkkolfooaaVz
set_option maxRecDepth 100000
set_option linter.unusedVariables false
namespace Go.V
open Go Go.Proofs
def phiT_downhaullaw26_Step (x : T_downhaullaw26_Step) : Prop := (wfI .i64 x.xN) ∧ (wfI .i32 x.xAhead) ∧ (x.xBytes.length ≤ maxLen ∧ ∀ y ∈ x.xBytes, (wfI .u8) y)
theorem opensT_downhaullaw26_Step {H : Type} {enc : TypeId × Value → H} {W : World} : Opens enc Try.prog W 34 kT_downhaullaw26_Step phiT_downhaullaw26_Step := fun fuel cs y h => by
  obtain ⟨hl0, hf0⟩ := open_flds [(0, 4, 1), (1, 3, 1), (2, 21, 1), (3, 32, 1)] (by kernel_rfl) h
  obtain ⟨n1, y1, h1⟩ := hf0 0 0 4 1 rfl
  obtain ⟨b1, e1, _⟩ := DataW.trod_bool (by kernel_rfl) h1
  obtain ⟨n2, y2, h2⟩ := hf0 1 1 3 1 rfl
  obtain ⟨b2, e2, _, w2⟩ := DataW.trod_int (k := .i64) (by kernel_rfl) h2
  obtain ⟨n3, y3, h3⟩ := hf0 2 2 21 1 rfl
  obtain ⟨b3, e3, _, w3⟩ := DataW.trod_int (k := .i32) (by kernel_rfl) h3
  obtain ⟨n4, y4, h4⟩ := hf0 3 3 32 1 rfl
  obtain ⟨b4, A4, c4, e4, s4, m4, w4, _⟩ := open_sl (opens_int (t := 5) (k := .u8) (by kernel_rfl)) (by kernel_rfl) (by kernel_rfl) h4
  have hc : cs = [.bool b1] ++ ([.int .i64 b2] ++ ([.int .i32 b3] ++ ([.slice A4 b4.length c4] ++ []))) := part 0 1 e1 (part 1 1 e2 (part 2 1 e3 (part 3 1 e4 (part_end hl0))))
  exact ⟨(⟨b1, b2, b3, b4⟩ : T_downhaullaw26_Step), ⟨w2, w3, ⟨Nat.le_trans s4.1 m4, w4⟩⟩, ⟨A4, c4, s4, hc⟩⟩
/-- The plain statement. -/
def PureRbufRooms : Prop := ∀ (a0 : Int) (a1 : Int) (a2 : T_downhaullaw26_Step), (wfI .i64 a0) → (wfI .u32 a1) → (phiT_downhaullaw26_Step a2) → ∃ k : Nat, downhaullaw26_RbufRooms.f k a0 a1 a2 = some true
end Go.V
