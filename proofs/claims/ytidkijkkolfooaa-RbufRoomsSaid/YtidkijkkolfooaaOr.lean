/- RbufRooms: it holds of every input. -/
import Derived.Test.YtidkijkkolfooaaRows
import Derived.Test.YtidkijkkolfooaaOOp
set_option maxRecDepth 100000
set_option linter.unusedVariables false
namespace Go.Proofs.Ytidkijkkolfooaa.rbufRooms
open Go.ChangeShapes Go.WideShapes Go.ChangeAt Go.RowKit Go.V
open Go.ChangeMaps (open_string shut_string)
theorem own : ownKnob Try.prog.godebug = none := by kernel_rfl
theorem laidOut : laidOutB Try.prog = true := by kernel_rfl
theorem contract (H : Type) (enc : TypeId × Value → H) (W : World) (base : Nat) (args : Array Value) (ds gs : List (DataW H)) (before : List MemPlace)
    (hval : ∀ (j : Nat) t v, Try.f5.params[j]? = some t → args[j]? = some v → Value.okWide Try.prog W .any base t v)
    (hW : DataW.Whole enc Try.prog Try.f5.params.toList Rows.rbufRoomsSpec.vars false W args.toList ds gs before) :
    Calls Try.prog 5 args W fun e W' => ∃ v, e = .returned v ∧ Rows.rbufRoomsSpec.post enc Try.prog Try.f5 false true false false W args v W' := by
  have hW' := hW
  obtain ⟨p, q, hA0, hV, rfl, hfz, hnd⟩ := hW
  have hA : DataW.TrodAll enc Try.prog W 0 (fun _ => true) true Try.f5.params.toList args.toList ds p := hA0
  rw [Try.params5] at hA hval
  obtain ⟨v0, vs0, d0, ds0, p0, q0, hargs, rfl, rfl, h0, r0⟩ := trodAll_cons hA
  obtain ⟨v1, vs1, d1, ds1, p1, q1, rfl, rfl, rfl, h1, r1⟩ := trodAll_cons r0
  obtain ⟨v2, vs2, d2, ds2, p2, q2, rfl, rfl, rfl, h2, r2⟩ := trodAll_cons r1
  obtain ⟨rfl, rfl, rfl⟩ := trodAll_nil r2
  obtain rfl : args = #[v0, v1, v2] := by cases args; simp_all
  obtain ⟨rfl, rfl⟩ := trodVars_none hV
  obtain ⟨a0, rfl, rfl, rfl, w0⟩ := open_int (k := .i64) (by kernel_rfl) (hval 0 3 v0 rfl rfl) h0
  obtain ⟨a1, rfl, rfl, rfl, w1⟩ := open_int (k := .u32) (by kernel_rfl) (hval 1 23 v1 rfl rfl) h1
  obtain ⟨cs2, rfl⟩ := val_struct (by kernel_rfl) (hval 2 34 v2 rfl rfl)
  obtain ⟨fu2, hf2⟩ := h2
  obtain ⟨a2, w2, hK2⟩ := opensT_downhaullaw26_Step _ _ _ hf2
  obtain ⟨A2_3, c2_3, s2_3, e2⟩ := hK2
  obtain rfl := agg_list e2
  clear hA0
  obtain ⟨k, hk0⟩ := pureRbufRooms a0 a1 a2 w0 w1 w2
  refine (downhaullaw26_RbufRooms_ok k a0 a1 a2 true hk0 (base0 W) emp A2_3 c2_3 s2_3 W (st0 W)).mono fun e W' ⟨x, hx, he, hs⟩ => ⟨_, he, law_done hW' (kept_of hx hs) rfl laidOut (by kernel_rfl) rfl (tb := 4) (by kernel_rfl) ⟨rfl, rfl, rfl⟩⟩
theorem lifted (os : Os) (started : os.Started) (H : Type) (enc : TypeId × Value → H) :
    ReturnsInHanded {} Try.checked os 5 .any (Rows.rbufRoomsSpec.pre6 enc Try.prog Try.f5 Rows.rbufRoomsRow.domain false) (Rows.rbufRoomsSpec.post enc Try.prog Try.f5 false true false false) := by
  refine returnsInHanded_of_change (C := Try.checked) own started (by kernel_rfl) Try.func5
    (ChangeSpec.witness6 (enc := enc) (C := Try.checked) false ⟨#[], #[.int .i64 0, .int .u32 0, .agg #[.bool false, .int .i64 0, .int .i32 0, .slice none 0 0]], []⟩ 8 (by kernel_rfl) (by kernel_rfl) (by kernel_rfl) (by kernel_rfl)) ?_
  intro W base args ds gs before hval hW _ _
  exact contract H enc W base args ds gs before hval hW
theorem over : Rows.rbufRoomsRow.holds Try.pinned (OpenSpec.ofChange Rows.rbufRoomsSpec) :=
  OpenClaim.holds_of_wide 5 Try.f5 rfl rfl rfl rfl rfl rfl rfl ⟨rfl, rfl, rfl, rfl, rfl⟩ rfl rfl rfl rfl rfl (by kernel_rfl) Try.func5 (by kernel_rfl)
    (of_decide_eq_true (by kernel_rfl)) (by unfold Func.isWrapper; first | (rw [if_pos (by decide +kernel)]; kernel_rfl) | (rw [if_neg (by decide +kernel)]; exact ⟨rfl, rfl⟩))
    (fun os started H enc _ => lifted os started H enc)
end Go.Proofs.Ytidkijkkolfooaa.rbufRooms
namespace Go.Proofs.Ytidkijkkolfooaa
/-- The statement. -/
theorem rbufRooms_holds : Rows.RbufRoomsSaid := rbufRooms.over
#print axioms rbufRooms_holds
end Go.Proofs.Ytidkijkkolfooaa
