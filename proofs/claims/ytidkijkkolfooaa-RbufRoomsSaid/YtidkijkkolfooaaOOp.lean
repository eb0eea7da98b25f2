/- A buffer has just a room that may be; one that nobody made has nothing: the plain law. -/
import Derived.Test.YtidkijkkolfooaaOy
import Derived.Test.YtidkijkkolfooaaVp
namespace Go.V
open Go

theorem alive_ok (m : Nat) : downhaullaw26_alive.f (m + 40) = some true := by kernel_rfl
theorem read_nil (n : Int) : rbuf_Buffer_Read_2.f n = some [] := by
  have e : (imin (imax n 0) 0 == 0) = true := by rw [imin_eq, imax_eq, beq_iff_eq]; omega
  unfold rbuf_Buffer_Read_2.f rbuf_Buffer_Len_2.f rbuf_Buffer_ok_2.f
  rw [Option.bind_some, Option.bind_some, if_t e]
theorem read_zero (k : Nat) (b : T_rbuf_Buffer_o2) (n : Int) : rbuf_Buffer_Read_3.f k b n = some [] := by
  have e : (imin (imax n 0) 0 == 0) = true := by rw [imin_eq, imax_eq, beq_iff_eq]; omega
  unfold rbuf_Buffer_Read_3.f rbuf_Buffer_Len_3.f rbuf_Buffer_ok_3.f
  rw [Option.bind_some, Option.bind_some, if_t e]
theorem far_one (m : Nat) (s : T_downhaullaw26_Step) : ∃ v, downhaullaw26_far.f (m + 40) [s] = some v := by
  unfold downhaullaw26_far.f downhaullaw26_short.f
  rw [bind_of (cut_to (m := 1) (by rfl) (by simp)), Option.bind_some]
  have e : ([s].take 1) = [s] := rfl
  rw [e, downhaullaw26_far.l1, if_t (by rfl), idx_zero, Option.bind_some, downhaullaw26_far.l1, if_f (by rfl)]
  exact ⟨_, rfl⟩
theorem if_same {α : Type} (b : Bool) (x : α) : (if b = true then x else x) = x := by cases b <;> rfl
theorem new_no {a0 : Int} (a1 : Int) (h : a0 < 1 ∨ 8192 < a0) : rbuf_New.f a0 a1 = some (none, 1) := by
  unfold rbuf_New.f
  by_cases c : a0 < 1
  · rw [if_t (decide_eq_true c)]
  · rw [if_f (decide_eq_false c), if_t (decide_eq_true (by omega))]
theorem newR_no {a0 : Int} (a1 : Int) (h : a0 < 1 ∨ 8192 < a0) : ∃ r, downhaulref26_New.f (imin a0 9000) a1 = some (r, 1) := by
  unfold downhaulref26_New.f
  rw [imin_eq]
  by_cases c : min a0 9000 < 1
  · rw [if_t (decide_eq_true c)]; exact ⟨_, rfl⟩
  · rw [if_f (decide_eq_false c), if_t (decide_eq_true (by omega))]; exact ⟨_, rfl⟩
theorem newR_yes {a0 : Int} (a1 : Int) (h : 1 ≤ a0 ∧ a0 ≤ 8192) : ∃ r, downhaulref26_New.f (imin a0 9000) a1 = some (r, 0) := by
  unfold downhaulref26_New.f
  have e : imin a0 9000 = a0 := by rw [imin_eq]; omega
  rw [e, if_f (decide_eq_false (by omega)), if_f (decide_eq_false (by omega)), I64_id (by omega) (by omega), bind_of (mk_at (m := (a0 + 1).toNat) (by omega) (by omega)), bind_of (mk_at (m := (a0 + 1).toNat) (by omega) (by omega))]
  exact ⟨_, rfl⟩
theorem new_yes {a0 : Int} (a1 : Int) (h : 1 ≤ a0 ∧ a0 ≤ 8192) : rbuf_New.f a0 a1 = some (some ⟨⟨true, a1, []⟩, List.replicate a0.toNat 0, 0, 0, 0, false⟩, 0) := by
  unfold rbuf_New.f sack_New.f
  rw [if_f (decide_eq_false (by omega)), if_f (decide_eq_false (by omega)), Option.bind_some, bind_of (mk_at (m := a0.toNat) (by omega) (by omega))]

theorem pureRbufRooms : PureRbufRooms := by
  intro a0 a1 a2 w0 w1 w2
  have h0 := wfI_i64 w0
  refine ⟨60, ?_⟩
  have ha : downhaullaw26_alive.f 60 = some true := alive_ok 20
  obtain ⟨v, hv⟩ := far_one 20 a2
  have hv : downhaullaw26_far.f 60 [a2] = some v := hv
  unfold downhaullaw26_RbufRooms.f
  by_cases hr : a0 < 1 ∨ 8192 < a0
  · obtain ⟨r, hr2⟩ := newR_no a1 hr
    rw [new_no a1 hr, Option.bind_some]
    dsimp only [optE]
    rw [hr2, Option.bind_some]
    dsimp only
    rw [if_f (by rfl), if_f (by rfl), hv, Option.bind_some]
    cases v with
    | true => rw [if_t rfl, if_t (by rfl), ha]; rfl
    | false =>
      rw [if_f rfl, read_nil, read_zero]
      simp only [rbuf_Buffer_Insert_2.f, rbuf_Buffer_Window_2.f, rbuf_Buffer_Len_2.f, rbuf_Buffer_Out_2.f, rbuf_Buffer_Blocks.f, rbuf_Buffer_Next_2.f, rbuf_Buffer_ok_2.f, rbuf_Buffer_Insert_3.f, rbuf_Buffer_Window_3.f, rbuf_Buffer_Len_3.f, rbuf_Buffer_Out_3.f, rbuf_Buffer_Blocks_2.f, rbuf_Buffer_Next_3.f, rbuf_Buffer_ok_3.f, Option.bind_some, ha]
      rfl
  · obtain ⟨r, hr2⟩ := newR_yes a1 (by omega : 1 ≤ a0 ∧ a0 ≤ 8192)
    rw [new_yes a1 (by omega), Option.bind_some]
    dsimp only [optE]
    rw [hr2, Option.bind_some]
    dsimp only
    rw [if_f (by rfl), if_f (by rfl), hv, Option.bind_some]
    cases v with
    | true => rw [if_t rfl, if_t (by rfl), ha]; rfl
    | false =>
      have e1 : rbuf_Buffer_Window.f ⟨⟨true, a1, []⟩, List.replicate a0.toNat 0, 0, 0, 0, false⟩ = some a0 := by
        unfold rbuf_Buffer_Window.f rbuf_Buffer_ok.f
        rw [Option.bind_some]
        dsimp only
        rw [List.length_replicate, I64_id (by omega) (by omega)]
        congr 1; omega
      have e2 : rbuf_Buffer_Next.f ⟨⟨true, a1, []⟩, List.replicate a0.toNat 0, 0, 0, 0, false⟩ = some a1 := rfl
      have e3 : rbuf_Buffer_Len.f ⟨⟨true, a1, []⟩, List.replicate a0.toNat 0, 0, 0, 0, false⟩ = some 0 := rfl
      have e4 : rbuf_Buffer_Out.f 60 ⟨⟨true, a1, []⟩, List.replicate a0.toNat 0, 0, 0, 0, false⟩ = some 0 := rfl
      rw [if_f rfl, e1, Option.bind_some, if_f (by simp), e2, Option.bind_some, if_f (by simp), e3, Option.bind_some, e4, Option.bind_some, if_f (by rfl)]
      rw [read_nil, read_zero]
      simp only [rbuf_Buffer_Insert_2.f, rbuf_Buffer_Window_2.f, rbuf_Buffer_Len_2.f, rbuf_Buffer_Out_2.f, rbuf_Buffer_Blocks.f, rbuf_Buffer_Next_2.f, rbuf_Buffer_ok_2.f, rbuf_Buffer_Insert_3.f, rbuf_Buffer_Window_3.f, rbuf_Buffer_Len_3.f, rbuf_Buffer_Out_3.f, rbuf_Buffer_Blocks_2.f, rbuf_Buffer_Next_3.f, rbuf_Buffer_ok_3.f, Option.bind_some, ha]
      rfl
end Go.V
