/- SegTrimmed: it holds of every input. -/
import Derived.Test.YtafghfchflngiaaRows
import Derived.Test.YtafghfchflngiaaMMp
set_option maxRecDepth 100000
set_option linter.unusedVariables false
namespace Go.Proofs.Ytafghfchflngiaa.segTrimmed
open Go.ChangeShapes Go.WideShapes Go.ChangeAt Go.RowKit Go.V
open Go.ChangeMaps (open_string shut_string)
theorem own : ownKnob Try.prog.godebug = none := by kernel_rfl
theorem laidOut : laidOutB Try.prog = true := by kernel_rfl
theorem contract (H : Type) (enc : TypeId × Value → H) (W : World) (base : Nat) (args : Array Value) (ds gs : List (DataW H)) (before : List MemPlace)
    (hval : ∀ (j : Nat) t v, Try.f8.params[j]? = some t → args[j]? = some v → Value.okWide Try.prog W .any base t v)
    (hW : DataW.Whole enc Try.prog Try.f8.params.toList Rows.segTrimmedSpec.vars false W args.toList ds gs before) :
    Calls Try.prog 8 args W fun e W' => ∃ v, e = .returned v ∧ Rows.segTrimmedSpec.post enc Try.prog Try.f8 false true false false W args v W' := by
  have hW' := hW
  obtain ⟨p, q, hA0, hV, rfl, hfz, hnd⟩ := hW
  have hA : DataW.TrodAll enc Try.prog W 0 (fun _ => true) true Try.f8.params.toList args.toList ds p := hA0
  rw [Try.params8] at hA hval
  obtain ⟨v0, vs0, d0, ds0, p0, q0, hargs, rfl, rfl, h0, r0⟩ := trodAll_cons hA
  obtain ⟨v1, vs1, d1, ds1, p1, q1, rfl, rfl, rfl, h1, r1⟩ := trodAll_cons r0
  obtain ⟨v2, vs2, d2, ds2, p2, q2, rfl, rfl, rfl, h2, r2⟩ := trodAll_cons r1
  obtain ⟨rfl, rfl, rfl⟩ := trodAll_nil r2
  obtain rfl : args = #[v0, v1, v2] := by cases args; simp_all
  obtain ⟨rfl, rfl⟩ := trodVars_none hV
  obtain ⟨cs0, rfl⟩ := val_struct (by kernel_rfl) (hval 0 34 v0 rfl rfl)
  obtain ⟨fu0, hf0⟩ := h0
  obtain ⟨a0, w0, hK0⟩ := opensTS _ _ _ hf0
  obtain ⟨A0_12, c0_12, A0_31, c0_31, s0_12, s0_31, e0⟩ := hK0
  obtain rfl := agg_list e0
  obtain ⟨a1, rfl, rfl, rfl, w1⟩ := open_int (k := .u32) (by kernel_rfl) (hval 1 27 v1 rfl rfl) h1
  obtain ⟨a2, rfl, rfl, rfl, w2⟩ := open_int (k := .u32) (by kernel_rfl) (hval 2 27 v2 rfl rfl) h2
  clear hA0
  obtain ⟨k, hk0⟩ := pureSegTrimmed a0 a1 a2 w0 w1 w2
  refine (w_SegTrimmed_ok k a0 a1 a2 true hk0 (base0 W) emp A0_12 c0_12 A0_31 c0_31 s0_12 s0_31 W (st0 W)).mono fun e W' ⟨x, hx, he, hs⟩ => ⟨_, he, law_done hW' (kept_of hx hs) rfl laidOut (by kernel_rfl) rfl (tb := 4) (by kernel_rfl) ⟨rfl, rfl, rfl⟩⟩
theorem lifted (os : Os) (started : os.Started) (H : Type) (enc : TypeId × Value → H) :
    ReturnsInHanded {} Try.checked os 8 .any (Rows.segTrimmedSpec.pre6 enc Try.prog Try.f8 Rows.segTrimmedRow.domain false) (Rows.segTrimmedSpec.post enc Try.prog Try.f8 false true false false) := by
  refine returnsInHanded_of_change (C := Try.checked) own started (by kernel_rfl) Try.func8
    (ChangeSpec.witness6 (enc := enc) (C := Try.checked) false ⟨#[], #[.agg #[v16 0, v16 0, v32 0, v32 0, v8 0, v16 0, v16 0, vb false, v16 0, vb false, v8 0, vb false, .slice none 0 0, vb false, v32 0, v32 0, vb false, v8 0, v8 0, v8 0, v8 0, v8 0, v8 0, v8 0, v8 0, v8 0, v8 0, v8 0, v8 0, v8 0, v8 0, .slice none 0 0], v32 0, v32 0], []⟩ 8 (by kernel_rfl) (by kernel_rfl) (by kernel_rfl) (by kernel_rfl)) ?_
  intro W base args ds gs before hval hW _ _
  exact contract H enc W base args ds gs before hval hW
theorem over : Rows.segTrimmedRow.holds Try.pinned (OpenSpec.ofChange Rows.segTrimmedSpec) :=
  OpenClaim.holds_of_wide 8 Try.f8 rfl rfl rfl rfl rfl rfl rfl ⟨rfl, rfl, rfl, rfl, rfl⟩ rfl rfl rfl rfl rfl (by kernel_rfl) Try.func8 (by kernel_rfl)
    (of_decide_eq_true (by kernel_rfl)) (by unfold Func.isWrapper; first | (rw [if_pos (by decide +kernel)]; kernel_rfl) | (rw [if_neg (by decide +kernel)]; exact ⟨rfl, rfl⟩))
    (fun os started H enc _ => lifted os started H enc)
end Go.Proofs.Ytafghfchflngiaa.segTrimmed
namespace Go.Proofs.Ytafghfchflngiaa
/-- The statement. -/
theorem segTrimmed_holds : Rows.SegTrimmedSaid := segTrimmed.over
#print axioms segTrimmed_holds
end Go.Proofs.Ytafghfchflngiaa
