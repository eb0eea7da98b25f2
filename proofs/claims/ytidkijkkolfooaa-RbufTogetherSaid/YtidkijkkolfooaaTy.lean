/- What comes in: what is known of it, and how it stands in memory; the plain statement. -/
import Derived.Test.YtidkijkkolfooaaTx2
import Derived.Test.YtidkijkkolfooaaVz
set_option maxRecDepth 100000
set_option linter.unusedVariables false
namespace Go.V
open Go Go.Proofs
def phiT_downhaullaw26_Piece (x : T_downhaullaw26_Piece) : Prop := (wfI .u16 x.xAt) ∧ (wfI .u16 x.xN)
theorem opensT_downhaullaw26_Piece {H : Type} {enc : TypeId × Value → H} {W : World} : Opens enc Try.prog W 55 kT_downhaullaw26_Piece phiT_downhaullaw26_Piece := fun fuel cs y h => by
  obtain ⟨hl0, hf0⟩ := open_flds [(0, 22, 1), (1, 22, 1)] (by kernel_rfl) h
  obtain ⟨n1, y1, h1⟩ := hf0 0 0 22 1 rfl
  obtain ⟨b1, e1, _, w1⟩ := DataW.trod_int (k := .u16) (by kernel_rfl) h1
  obtain ⟨n2, y2, h2⟩ := hf0 1 1 22 1 rfl
  obtain ⟨b2, e2, _, w2⟩ := DataW.trod_int (k := .u16) (by kernel_rfl) h2
  have hc : cs = [.int .u16 b1] ++ ([.int .u16 b2] ++ []) := part 0 1 e1 (part 1 1 e2 (part_end hl0))
  exact ⟨(⟨b1, b2⟩ : T_downhaullaw26_Piece), ⟨w1, w2⟩, hc⟩
/-- The plain statement. -/
def PureRbufTogether : Prop := ∀ (a0 : Int) (a1 : List Int) (a2 : List T_downhaullaw26_Piece), (wfI .u32 a0) → (a1.length ≤ maxLen) → (∀ y ∈ a1, (wfI .u8) y) → (a2.length ≤ maxLen) → (∀ y ∈ a2, phiT_downhaullaw26_Piece y) → ∃ k : Nat, downhaullaw26_RbufTogether.f k a0 a1 a2 = some true
end Go.V
