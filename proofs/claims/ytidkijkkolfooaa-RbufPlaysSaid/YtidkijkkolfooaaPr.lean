/- RbufPlays: it holds of every input. -/
import Derived.Test.YtidkijkkolfooaaRows
import Derived.Test.YtidkijkkolfooaaPPp
set_option maxRecDepth 100000
set_option linter.unusedVariables false
namespace Go.Proofs.Ytidkijkkolfooaa.rbufPlays
open Go.ChangeShapes Go.WideShapes Go.ChangeAt Go.RowKit Go.V
open Go.ChangeMaps (open_string shut_string)
theorem own : ownKnob Try.prog.godebug = none := by kernel_rfl
theorem laidOut : laidOutB Try.prog = true := by kernel_rfl
theorem contract (H : Type) (enc : TypeId × Value → H) (W : World) (base : Nat) (args : Array Value) (ds gs : List (DataW H)) (before : List MemPlace)
    (hval : ∀ (j : Nat) t v, Try.f4.params[j]? = some t → args[j]? = some v → Value.okWide Try.prog W .any base t v)
    (hW : DataW.Whole enc Try.prog Try.f4.params.toList Rows.rbufPlaysSpec.vars false W args.toList ds gs before) :
    Calls Try.prog 4 args W fun e W' => ∃ v, e = .returned v ∧ Rows.rbufPlaysSpec.post enc Try.prog Try.f4 false true false false W args v W' := by
  have hW' := hW
  obtain ⟨p, q, hA0, hV, rfl, hfz, hnd⟩ := hW
  have hA : DataW.TrodAll enc Try.prog W 0 (fun _ => true) true Try.f4.params.toList args.toList ds p := hA0
  rw [Try.params4] at hA hval
  obtain ⟨v0, vs0, d0, ds0, p0, q0, hargs, rfl, rfl, h0, r0⟩ := trodAll_cons hA
  obtain ⟨v1, vs1, d1, ds1, p1, q1, rfl, rfl, rfl, h1, r1⟩ := trodAll_cons r0
  obtain ⟨v2, vs2, d2, ds2, p2, q2, rfl, rfl, rfl, h2, r2⟩ := trodAll_cons r1
  obtain ⟨rfl, rfl, rfl⟩ := trodAll_nil r2
  obtain rfl : args = #[v0, v1, v2] := by cases args; simp_all
  obtain ⟨rfl, rfl⟩ := trodVars_none hV
  obtain ⟨a0, rfl, rfl, rfl, w0⟩ := open_int (k := .u16) (by kernel_rfl) (hval 0 22 v0 rfl rfl) h0
  obtain ⟨a1, rfl, rfl, rfl, w1⟩ := open_int (k := .u32) (by kernel_rfl) (hval 1 23 v1 rfl rfl) h1
  obtain ⟨fu2, hf2⟩ := h2
  obtain ⟨a2, A2, c2, e2, s2, m2, w2, b2⟩ := open_sl (opensT_downhaullaw26_Step ) (by kernel_rfl) (by kernel_rfl) hf2
  obtain rfl := val_slice (et := 34) (by kernel_rfl) (hval 2 24 v2 rfl rfl) e2
  clear hA0
  obtain ⟨k, hk0⟩ := pureRbufPlays a0 a1 a2 w0 w1 (Nat.le_trans s2.1 m2) w2
  refine (downhaullaw26_RbufPlays_ok k a0 a1 a2 true hk0 (base0 W) emp A2 c2 s2 W (st0 W)).mono fun e W' ⟨x, hx, he, hs⟩ => ⟨_, he, law_done hW' (kept_of hx hs) rfl laidOut (by kernel_rfl) rfl (tb := 4) (by kernel_rfl) ⟨rfl, rfl, rfl⟩⟩
theorem lifted (os : Os) (started : os.Started) (H : Type) (enc : TypeId × Value → H) :
    ReturnsInHanded {} Try.checked os 4 .any (Rows.rbufPlaysSpec.pre6 enc Try.prog Try.f4 Rows.rbufPlaysRow.domain false) (Rows.rbufPlaysSpec.post enc Try.prog Try.f4 false true false false) := by
  refine returnsInHanded_of_change (C := Try.checked) own started (by kernel_rfl) Try.func4
    (ChangeSpec.witness6 (enc := enc) (C := Try.checked) false ⟨#[], #[.int .u16 0, .int .u32 0, .slice none 0 0], []⟩ 8 (by kernel_rfl) (by kernel_rfl) (by kernel_rfl) (by kernel_rfl)) ?_
  intro W base args ds gs before hval hW _ _
  exact contract H enc W base args ds gs before hval hW
theorem over : Rows.rbufPlaysRow.holds Try.pinned (OpenSpec.ofChange Rows.rbufPlaysSpec) :=
  OpenClaim.holds_of_wide 4 Try.f4 rfl rfl rfl rfl rfl rfl rfl ⟨rfl, rfl, rfl, rfl, rfl⟩ rfl rfl rfl rfl rfl (by kernel_rfl) Try.func4 (by kernel_rfl)
    (of_decide_eq_true (by kernel_rfl)) (by unfold Func.isWrapper; first | (rw [if_pos (by decide +kernel)]; kernel_rfl) | (rw [if_neg (by decide +kernel)]; exact ⟨rfl, rfl⟩))
    (fun os started H enc _ => lifted os started H enc)
end Go.Proofs.Ytidkijkkolfooaa.rbufPlays
namespace Go.Proofs.Ytidkijkkolfooaa
/-- The statement. -/
theorem rbufPlays_holds : Rows.RbufPlaysSaid := rbufPlays.over
#print axioms rbufPlays_holds
end Go.Proofs.Ytidkijkkolfooaa
