/- Printed by a program of this work: Go functions as Lean functions, and that the machine comes to the same. -/
import Derived.Test.YtidkijkkolfooaaOx1
set_option maxRecDepth 100000
set_option linter.unusedVariables false
namespace Go.V
open Go Go.Proofs
def downhaullaw26_RbufRooms.f (k : Nat) (a0 : Int) (a1 : Int) (a2 : T_downhaullaw26_Step) : Option (Bool) :=
  ((rbuf_New.f a0 a1).bind fun t1 => optE t1.1 ((downhaulref26_New.f (imin a0 9000) a1).bind fun t2 => (if t1.2 != t2.2 then (if t1.2 == t2.2 then ((downhaullaw26_alive.f k).bind fun t3 => (some t3)) else (some false)) else (if !(false == (t2.2 == 0)) then (if t1.2 == t2.2 then ((downhaullaw26_alive.f k).bind fun t4 => (some t4)) else (some false)) else ((downhaullaw26_far.f k [a2]).bind fun t5 => (if t5 then (if t1.2 == t2.2 then ((downhaullaw26_alive.f k).bind fun t6 => (some t6)) else (some false)) else ((((rbuf_Buffer_Insert_2.f a1 a2.xBytes).bind fun t9 => ((rbuf_Buffer_Read_2.f a2.xN).bind fun t10 => (rbuf_Buffer_Window_2.f.bind fun t11 => (rbuf_Buffer_Len_2.f.bind fun t12 => (rbuf_Buffer_Out_2.f.bind fun t13 => ((rbuf_Buffer_Blocks.f a2.xN).bind fun t14 => (if (I64 ((I64 ((I64 ((I64 ((I64 (0 + (t10.length : Int))) + 0)) + 0)) + 0)) + (t14.length : Int))) != 0 then (some (.inl false)) else (rbuf_Buffer_Next_2.f.bind fun t15 => ((rbuf_Buffer_Insert_3.f (⟨0, 0, 0, false⟩ : T_rbuf_Buffer_o2) a1 a2.xBytes).bind fun t16 => ((rbuf_Buffer_Read_3.f k (⟨0, 0, 0, false⟩ : T_rbuf_Buffer_o2) a2.xN).bind fun t17 => ((rbuf_Buffer_Window_3.f (⟨0, 0, 0, false⟩ : T_rbuf_Buffer_o2)).bind fun t18 => ((rbuf_Buffer_Len_3.f (⟨0, 0, 0, false⟩ : T_rbuf_Buffer_o2)).bind fun t19 => ((rbuf_Buffer_Out_3.f (⟨0, 0, 0, false⟩ : T_rbuf_Buffer_o2)).bind fun t20 => ((rbuf_Buffer_Blocks_2.f (⟨0, 0, 0, false⟩ : T_rbuf_Buffer_o2) a2.xN).bind fun t21 => (if (I64 ((I64 ((I64 ((I64 ((I64 (0 + (t17.length : Int))) + 0)) + 0)) + 0)) + (t21.length : Int))) != 0 then (some (.inl false)) else ((rbuf_Buffer_Next_3.f (⟨0, 0, 0, false⟩ : T_rbuf_Buffer_o2)).bind fun t22 => (some (.inr ())))))))))))))))))) : Option ((Bool) ⊕ (Unit))).bind fun t7 => brk t7 (fun r => some r) (fun _ => ((downhaullaw26_alive.f k).bind fun t8 => (some t8))))))))) (fun y1 => ((downhaulref26_New.f (imin a0 9000) a1).bind fun t23 => (if t1.2 != t23.2 then (if t1.2 == t23.2 then ((downhaullaw26_alive.f k).bind fun t24 => (some t24)) else (some false)) else (if !(true == (t23.2 == 0)) then (if t1.2 == t23.2 then ((downhaullaw26_alive.f k).bind fun t25 => (some t25)) else (some false)) else ((downhaullaw26_far.f k [a2]).bind fun t26 => (if t26 then (if t1.2 == t23.2 then ((downhaullaw26_alive.f k).bind fun t27 => (some t27)) else (some false)) else ((rbuf_Buffer_Window.f y1).bind fun t28 => (if t28 != a0 then (some false) else ((rbuf_Buffer_Next.f y1).bind fun t29 => (if t29 != a1 then (some false) else ((rbuf_Buffer_Len.f y1).bind fun t30 => ((rbuf_Buffer_Out.f k y1).bind fun t31 => (if (I64 (t30 + t31)) != 0 then (some false) else ((((rbuf_Buffer_Insert_2.f a1 a2.xBytes).bind fun t34 => ((rbuf_Buffer_Read_2.f a2.xN).bind fun t35 => (rbuf_Buffer_Window_2.f.bind fun t36 => (rbuf_Buffer_Len_2.f.bind fun t37 => (rbuf_Buffer_Out_2.f.bind fun t38 => ((rbuf_Buffer_Blocks.f a2.xN).bind fun t39 => (if (I64 ((I64 ((I64 ((I64 ((I64 (0 + (t35.length : Int))) + 0)) + 0)) + 0)) + (t39.length : Int))) != 0 then (some (.inl false)) else (rbuf_Buffer_Next_2.f.bind fun t40 => ((rbuf_Buffer_Insert_3.f (⟨0, 0, 0, false⟩ : T_rbuf_Buffer_o2) a1 a2.xBytes).bind fun t41 => ((rbuf_Buffer_Read_3.f k (⟨0, 0, 0, false⟩ : T_rbuf_Buffer_o2) a2.xN).bind fun t42 => ((rbuf_Buffer_Window_3.f (⟨0, 0, 0, false⟩ : T_rbuf_Buffer_o2)).bind fun t43 => ((rbuf_Buffer_Len_3.f (⟨0, 0, 0, false⟩ : T_rbuf_Buffer_o2)).bind fun t44 => ((rbuf_Buffer_Out_3.f (⟨0, 0, 0, false⟩ : T_rbuf_Buffer_o2)).bind fun t45 => ((rbuf_Buffer_Blocks_2.f (⟨0, 0, 0, false⟩ : T_rbuf_Buffer_o2) a2.xN).bind fun t46 => (if (I64 ((I64 ((I64 ((I64 ((I64 (0 + (t42.length : Int))) + 0)) + 0)) + 0)) + (t46.length : Int))) != 0 then (some (.inl false)) else ((rbuf_Buffer_Next_3.f (⟨0, 0, 0, false⟩ : T_rbuf_Buffer_o2)).bind fun t47 => (some (.inr ())))))))))))))))))) : Option ((Bool) ⊕ (Unit))).bind fun t32 => brk t32 (fun r => some r) (fun _ => ((downhaullaw26_alive.f k).bind fun t33 => (some t33))))))))))))))))))
theorem downhaullaw26_RbufRooms_ok (k : Nat) (a0 : Int) (a1 : Int) (a2 : T_downhaullaw26_Step) (r : Bool) (hm : downhaullaw26_RbufRooms.f k a0 a1 a2 = some r) (B G : Asn) (A1 : Option Addr) (c1 : Nat) (hs1 : Sl (kI .u8) B A1 c1 a2.xBytes) (w : World) (hs : St B G [] w) :
    Calls Try.prog 5 #[.int .i64 a0, .int .u32 a1, .agg #[.bool a2.xRead, .int .i64 a2.xN, .int .i32 a2.xAhead, .slice A1 a2.xBytes.length c1]] w (Post (X := Asn) (fun x => .bool r) (fun x => x) G (fun x => []) (fun x => (Ext B x))) := by
  unfold downhaullaw26_RbufRooms.f at hm
  refine calls_W (F := Try.f5) Try.func5 rfl (by kernel_rfl) (L := []) ?_ hs
  refine w_seq 2 3 (by kernel_rfl) ?_
  refine w_region (by kernel_rfl) ?_
  refine o_stp ?_ (by kernel_rfl)
  refine s_new 5 (fun g1 => .pointer (some ⟨g1, 0, none⟩)) [.bool a2.xRead, .int .i64 a2.xN, .int .i32 a2.xAhead, .slice A1 a2.xBytes.length c1] 34 (fun _ => by kernel_rfl) (fun g1 => ?_)
  refine o_run 1 [0, 1, 5] (l := []) .nil (E' := [(0, .int .i64 a0), (1, .int .u32 a1), (5, .pointer (some ⟨g1, 0, none⟩))]) (by kernel_rfl) ?_
  refine o_end (by kernel_rfl) ?_
  refine e_seq ?_
  refine w_seq 6 7 (by kernel_rfl) ?_
  refine w_region (by kernel_rfl) ?_
  refine o_run 2 [0, 1, 5, 14, 15] (l := []) .nil (E' := [(0, .int .i64 a0), (1, .int .u32 a1), (5, .pointer (some ⟨g1, 0, none⟩)), (14, .int .i64 a0), (15, .int .u32 a1)]) (by kernel_rfl) ?_
  obtain ⟨t1, hx1, hm⟩ := bind_some hm
  refine t_env [0, 1, 5, 14, 15] (E' := [(0, .int .i64 a0), (1, .int .u32 a1), (5, .pointer (some ⟨g1, 0, none⟩)), (14, .int .i64 a0), (15, .int .u32 a1)]) (by kernel_rfl) ?_
  refine o_stp ?_ (by kernel_rfl)
  refine s_call 16 7 #[.int .i64 a0, .int .u32 a1] [] [0] (by kernel_rfl) (by kernel_rfl) (fun w hs => rbuf_New_ok a0 a1 t1 hx1 B _ w (St.cast (by kernel_rfl) hs)) (fun x hx => ?_)
  obtain ⟨g2, g3, A2, c2, A3, c3⟩ := x
  have hs2 := hx
  rcases optE_cases hm with ⟨ho1, hm⟩ | ⟨y1, ho1, hm⟩
  · refine t_EL (E' := (16, .tuple #[.pointer none, .int .i64 t1.2]) :: [(0, .int .i64 a0), (1, .int .u32 a1), (5, .pointer (some ⟨g1, 0, none⟩)), (14, .int .i64 a0), (15, .int .u32 a1)]) (L' := [.blk g1 [.bool a2.xRead, .int .i64 a2.xN, .int .i32 a2.xAhead, .slice A1 a2.xBytes.length c1] 34]) (by rw [ho1]; kernel_rfl) ?_
    refine o_run 5 [0, 1, 5, 7, 8] (l := []) .nil (E' := [(0, .int .i64 a0), (1, .int .u32 a1), (5, .pointer (some ⟨g1, 0, none⟩)), (7, .pointer none), (8, .int .i64 t1.2)]) (by kernel_rfl) ?_
    refine o_end (by kernel_rfl) ?_
    refine e_seq ?_
    refine w_seq 14 15 (by kernel_rfl) ?_
    refine w_region (by kernel_rfl) ?_
    refine o_run 3 [0, 1, 5, 7, 8, 21, 22] (l := []) .nil (E' := [(0, .int .i64 a0), (1, .int .u32 a1), (5, .pointer (some ⟨g1, 0, none⟩)), (7, .pointer none), (8, .int .i64 t1.2), (21, .int .i64 (imin a0 9000)), (22, .int .u32 a1)]) (by kernel_rfl) ?_
    obtain ⟨t2, hx2, hm⟩ := bind_some hm
    refine o_stp ?_ (by kernel_rfl)
    refine s_call 23 15 #[.int .i64 (imin a0 9000), .int .u32 a1] [] [0] (by kernel_rfl) (by kernel_rfl) (fun w hs => downhaulref26_New_ok (imin a0 9000) a1 t2 hx2 B _ w (St.cast (by kernel_rfl) hs)) (fun x hx => ?_)
    obtain ⟨A4, c4, A5, c5, A6, c6⟩ := x
    have hs3 := hx
    refine t_L (L' := [.own A5 t2.1.xCame.length c5 (rowOf encB t2.1.xCame) 1 4, .own A6 t2.1.xOut.length c6 (rowOf (encI .u8) t2.1.xOut) 1 5, .blk g1 [.bool a2.xRead, .int .i64 a2.xN, .int .i32 a2.xAhead, .slice A1 a2.xBytes.length c1] 34]) (by kernel_rfl) ?_
    refine o_run 3 [0, 1, 5, 7, 8, 24, 25] (l := []) .nil (E' := [(0, .int .i64 a0), (1, .int .u32 a1), (5, .pointer (some ⟨g1, 0, none⟩)), (7, .pointer none), (8, .int .i64 t1.2), (24, .agg #[.int .i64 t2.1.xRoom, .int .u32 t2.1.xNext, .slice A4 t2.1.xIn.length c4, .slice A5 t2.1.xCame.length c5, .slice A6 t2.1.xOut.length c6, .int .u32 t2.1.xLast, .bool t2.1.xHas]), (25, .int .i64 t2.2)]) (by kernel_rfl) ?_
    refine o_stp ?_ (by kernel_rfl)
    refine s_new 9 (fun g4 => .pointer (some ⟨g4, 0, none⟩)) [.int .i64 0, .int .u32 0, .slice none 0 0, .slice none 0 0, .slice none 0 0, .int .u32 0, .bool false] 42 (fun _ => by kernel_rfl) (fun g4 => ?_)
    refine o_stp ?_ (by kernel_rfl)
    refine s_store 0 g4 [.int .i64 0, .int .u32 0, .slice none 0 0, .slice none 0 0, .slice none 0 0, .int .u32 0, .bool false] 42 [(0, .int .i64 t2.1.xRoom), (1, .int .u32 t2.1.xNext), (2, .slice A4 t2.1.xIn.length c4), (3, .slice A5 t2.1.xCame.length c5), (4, .slice A6 t2.1.xOut.length c6), (5, .int .u32 t2.1.xLast), (6, .bool t2.1.xHas)] (by kernel_rfl) (by kernel_rfl) (by kernel_rfl) ?_
    refine t_L (L' := [.blk g4 [.int .i64 t2.1.xRoom, .int .u32 t2.1.xNext, .slice A4 t2.1.xIn.length c4, .slice A5 t2.1.xCame.length c5, .slice A6 t2.1.xOut.length c6, .int .u32 t2.1.xLast, .bool t2.1.xHas] 42, .own A5 t2.1.xCame.length c5 (rowOf encB t2.1.xCame) 1 4, .own A6 t2.1.xOut.length c6 (rowOf (encI .u8) t2.1.xOut) 1 5, .blk g1 [.bool a2.xRead, .int .i64 a2.xN, .int .i32 a2.xAhead, .slice A1 a2.xBytes.length c1] 34]) (by kernel_rfl) ?_
    refine o_run 1 [0, 1, 5, 7, 8, 10] (l := []) .nil (E' := [(0, .int .i64 a0), (1, .int .u32 a1), (5, .pointer (some ⟨g1, 0, none⟩)), (7, .pointer none), (8, .int .i64 t1.2), (10, .int .i64 t2.2)]) (by kernel_rfl) ?_
    refine o_end (by kernel_rfl) ?_
    refine e_seq ?_
    refine w_seq 30 31 (by kernel_rfl) ?_
    refine w_seq 60 61 (by kernel_rfl) ?_
    refine w_region (by kernel_rfl) ?_
    refine o_run 4 [0, 1, 5, 7, 8, 10, 29] (l := []) .nil (E' := [(0, .int .i64 a0), (1, .int .u32 a1), (5, .pointer (some ⟨g1, 0, none⟩)), (7, .pointer none), (8, .int .i64 t1.2), (10, .int .i64 t2.2), (29, .bool (t1.2 != t2.2))]) (by kernel_rfl) ?_
    refine o_split 29 (t1.2 != t2.2) (by kernel_rfl) (fun hb1 => ?_) (fun hb1 => ?_)
    · replace hm := ite_t hb1 hm
      refine o_run 11 [0, 1, 5, 7, 8, 10, 40] (l := []) .nil (E' := [(0, .int .i64 a0), (1, .int .u32 a1), (5, .pointer (some ⟨g1, 0, none⟩)), (7, .pointer none), (8, .int .i64 t1.2), (10, .int .i64 t2.2), (40, .bool true)]) (by kernel_rfl) ?_
      refine o_end (by kernel_rfl) ?_
      refine e_seq ?_
      refine w_cond_t (.tmp 40) 122 123 (by kernel_rfl) (by kernel_rfl) ?_
      refine w_seq 244 245 (by kernel_rfl) ?_
      refine w_region (by kernel_rfl) ?_
      refine o_run 4 [44] (l := []) .nil (E' := [(44, .bool (t1.2 == t2.2))]) (by kernel_rfl) ?_
      refine o_split 44 (t1.2 == t2.2) (by kernel_rfl) (fun hb2 => ?_) (fun hb2 => ?_)
      · replace hm := ite_t hb2 hm
        obtain ⟨t3, hx3, hm⟩ := bind_some hm
        refine o_stp ?_ (by kernel_rfl)
        refine s_call 45 9 #[] [] [0, 1, 2, 3] (by kernel_rfl) (by kernel_rfl) (fun w hs => downhaullaw26_alive_ok k t3 hx3 B _ w (St.cast (by kernel_rfl) hs)) (fun B1 hx => ?_)
        have hx4 := hx
        refine t_L (L' := [.blk g4 [.int .i64 t2.1.xRoom, .int .u32 t2.1.xNext, .slice A4 t2.1.xIn.length c4, .slice A5 t2.1.xCame.length c5, .slice A6 t2.1.xOut.length c6, .int .u32 t2.1.xLast, .bool t2.1.xHas] 42, .own A5 t2.1.xCame.length c5 (rowOf encB t2.1.xCame) 1 4, .own A6 t2.1.xOut.length c6 (rowOf (encI .u8) t2.1.xOut) 1 5, .blk g1 [.bool a2.xRead, .int .i64 a2.xN, .int .i32 a2.xAhead, .slice A1 a2.xBytes.length c1] 34]) (by kernel_rfl) ?_
        refine o_run 2 [6] (l := []) .nil (E' := [(6, .bool t3)]) (by kernel_rfl) ?_
        refine o_end (by kernel_rfl) ?_
        refine e_seq ?_
        refine w_ret (by kernel_rfl) ?_
        obtain rfl := Option.some.inj hm
        exact e_retP B1 (.bool t3) [] (by kernel_rfl) (by kernel_rfl) rfl (by kernel_rfl) (by kernel_rfl) hx4
      · replace hm := ite_f hb2 hm
        refine o_run 3 [6] (l := []) .nil (E' := [(6, .bool false)]) (by kernel_rfl) ?_
        refine o_end (by kernel_rfl) ?_
        refine e_seq ?_
        refine w_ret (by kernel_rfl) ?_
        obtain rfl := Option.some.inj hm
        exact e_retP B (.bool false) [] (by kernel_rfl) (by kernel_rfl) rfl (by kernel_rfl) (by kernel_rfl) (Ext.refl _)
    · replace hm := ite_f hb1 hm
      refine o_run 7 [0, 1, 5, 7, 8, 10, 36] (l := []) .nil (E' := [(0, .int .i64 a0), (1, .int .u32 a1), (5, .pointer (some ⟨g1, 0, none⟩)), (7, .pointer none), (8, .int .i64 t1.2), (10, .int .i64 t2.2), (36, .bool (!(false == (t2.2 == 0))))]) (by kernel_rfl) ?_
      refine o_split 36 (!(false == (t2.2 == 0))) (by kernel_rfl) (fun hb3 => ?_) (fun hb3 => ?_)
      · replace hm := ite_t hb3 hm
        refine o_run 4 [0, 1, 5, 7, 8, 10, 40] (l := []) .nil (E' := [(0, .int .i64 a0), (1, .int .u32 a1), (5, .pointer (some ⟨g1, 0, none⟩)), (7, .pointer none), (8, .int .i64 t1.2), (10, .int .i64 t2.2), (40, .bool true)]) (by kernel_rfl) ?_
        refine o_end (by kernel_rfl) ?_
        refine e_seq ?_
        refine w_cond_t (.tmp 40) 122 123 (by kernel_rfl) (by kernel_rfl) ?_
        refine w_seq 244 245 (by kernel_rfl) ?_
        refine w_region (by kernel_rfl) ?_
        refine o_run 4 [44] (l := []) .nil (E' := [(44, .bool (t1.2 == t2.2))]) (by kernel_rfl) ?_
        refine o_split 44 (t1.2 == t2.2) (by kernel_rfl) (fun hb4 => ?_) (fun hb4 => ?_)
        · replace hm := ite_t hb4 hm
          obtain ⟨t4, hx5, hm⟩ := bind_some hm
          refine o_stp ?_ (by kernel_rfl)
          refine s_call 45 9 #[] [] [0, 1, 2, 3] (by kernel_rfl) (by kernel_rfl) (fun w hs => downhaullaw26_alive_ok k t4 hx5 B _ w (St.cast (by kernel_rfl) hs)) (fun B2 hx => ?_)
          have hx6 := hx
          refine t_L (L' := [.blk g4 [.int .i64 t2.1.xRoom, .int .u32 t2.1.xNext, .slice A4 t2.1.xIn.length c4, .slice A5 t2.1.xCame.length c5, .slice A6 t2.1.xOut.length c6, .int .u32 t2.1.xLast, .bool t2.1.xHas] 42, .own A5 t2.1.xCame.length c5 (rowOf encB t2.1.xCame) 1 4, .own A6 t2.1.xOut.length c6 (rowOf (encI .u8) t2.1.xOut) 1 5, .blk g1 [.bool a2.xRead, .int .i64 a2.xN, .int .i32 a2.xAhead, .slice A1 a2.xBytes.length c1] 34]) (by kernel_rfl) ?_
          refine o_run 2 [6] (l := []) .nil (E' := [(6, .bool t4)]) (by kernel_rfl) ?_
          refine o_end (by kernel_rfl) ?_
          refine e_seq ?_
          refine w_ret (by kernel_rfl) ?_
          obtain rfl := Option.some.inj hm
          exact e_retP B2 (.bool t4) [] (by kernel_rfl) (by kernel_rfl) rfl (by kernel_rfl) (by kernel_rfl) hx6
        · replace hm := ite_f hb4 hm
          refine o_run 3 [6] (l := []) .nil (E' := [(6, .bool false)]) (by kernel_rfl) ?_
          refine o_end (by kernel_rfl) ?_
          refine e_seq ?_
          refine w_ret (by kernel_rfl) ?_
          obtain rfl := Option.some.inj hm
          exact e_retP B (.bool false) [] (by kernel_rfl) (by kernel_rfl) rfl (by kernel_rfl) (by kernel_rfl) (Ext.refl _)
      · replace hm := ite_f hb3 hm
        refine o_run 1 [0, 1, 5, 7, 8, 10, 36, 37] (l := [(⟨g1, 0, none⟩, .bool a2.xRead), (⟨g1, 1, none⟩, .int .i64 a2.xN), (⟨g1, 2, none⟩, .int .i32 a2.xAhead), (⟨g1, 3, none⟩, .slice A1 a2.xBytes.length c1)]) (.one (at_blk (j := 3) rfl rfl) (.one (at_blk (j := 3) rfl rfl) (.one (at_blk (j := 3) rfl rfl) (.one (at_blk (j := 3) rfl rfl) .nil)))) (E' := [(0, .int .i64 a0), (1, .int .u32 a1), (5, .pointer (some ⟨g1, 0, none⟩)), (7, .pointer none), (8, .int .i64 t1.2), (10, .int .i64 t2.2), (36, .bool false), (37, .agg #[.bool a2.xRead, .int .i64 a2.xN, .int .i32 a2.xAhead, .slice A1 a2.xBytes.length c1])]) (by kernel_rfl) ?_
        refine o_stp ?_ (by kernel_rfl)
        refine s_new 38 (fun g5 => .slice (some ⟨g5, 0, none⟩) 1 1) [.bool a2.xRead, .int .i64 a2.xN, .int .i32 a2.xAhead, .slice A1 a2.xBytes.length c1] 34 (fun _ => by kernel_rfl) (fun g5 => ?_)
        refine t_frozL kT_downhaullaw26_Step (xs := [a2]) (css := [[.bool a2.xRead, .int .i64 a2.xN, .int .i32 a2.xAhead, .slice A1 a2.xBytes.length c1]]) ⟨⟨A1, c1, hs1, rfl⟩, trivial⟩ rfl (fun B3 hx7 hs4 => ?_)
        obtain ⟨t5, hx8, hm⟩ := bind_some hm
        refine o_stp ?_ (by kernel_rfl)
        refine s_call 39 8 #[.slice (some ⟨g5, 0, none⟩) [a2].length ([a2].length)] [] [0, 1, 2, 3] (by kernel_rfl) (by kernel_rfl) (fun w hs => downhaullaw26_far_ok k [a2] t5 hx8 B3 _ (some ⟨g5, 0, none⟩) ([a2].length) hs4 w (St.cast (by kernel_rfl) hs)) (fun _ hx => ?_)
        refine t_L (L' := [.blk g4 [.int .i64 t2.1.xRoom, .int .u32 t2.1.xNext, .slice A4 t2.1.xIn.length c4, .slice A5 t2.1.xCame.length c5, .slice A6 t2.1.xOut.length c6, .int .u32 t2.1.xLast, .bool t2.1.xHas] 42, .own A5 t2.1.xCame.length c5 (rowOf encB t2.1.xCame) 1 4, .own A6 t2.1.xOut.length c6 (rowOf (encI .u8) t2.1.xOut) 1 5, .blk g1 [.bool a2.xRead, .int .i64 a2.xN, .int .i32 a2.xAhead, .slice A1 a2.xBytes.length c1] 34]) (by kernel_rfl) ?_
        refine o_run 1 [0, 1, 5, 7, 8, 10, 40] (l := []) .nil (E' := [(0, .int .i64 a0), (1, .int .u32 a1), (5, .pointer (some ⟨g1, 0, none⟩)), (7, .pointer none), (8, .int .i64 t1.2), (10, .int .i64 t2.2), (40, .bool t5)]) (by kernel_rfl) ?_
        refine o_end (by kernel_rfl) ?_
        refine e_seq ?_
        refine w_cond (.tmp 40) 122 123 t5 (by kernel_rfl) (by kernel_rfl) (fun hb5 => ?_) (fun hb5 => ?_)
        · replace hm := ite_t hb5 hm
          refine w_seq 244 245 (by kernel_rfl) ?_
          refine w_region (by kernel_rfl) ?_
          refine o_run 4 [44] (l := []) .nil (E' := [(44, .bool (t1.2 == t2.2))]) (by kernel_rfl) ?_
          refine o_split 44 (t1.2 == t2.2) (by kernel_rfl) (fun hb6 => ?_) (fun hb6 => ?_)
          · replace hm := ite_t hb6 hm
            obtain ⟨t6, hx9, hm⟩ := bind_some hm
            refine o_stp ?_ (by kernel_rfl)
            refine s_call 45 9 #[] [] [0, 1, 2, 3] (by kernel_rfl) (by kernel_rfl) (fun w hs => downhaullaw26_alive_ok k t6 hx9 B3 _ w (St.cast (by kernel_rfl) hs)) (fun B4 hx => ?_)
            have hx10 := hx
            refine t_L (L' := [.blk g4 [.int .i64 t2.1.xRoom, .int .u32 t2.1.xNext, .slice A4 t2.1.xIn.length c4, .slice A5 t2.1.xCame.length c5, .slice A6 t2.1.xOut.length c6, .int .u32 t2.1.xLast, .bool t2.1.xHas] 42, .own A5 t2.1.xCame.length c5 (rowOf encB t2.1.xCame) 1 4, .own A6 t2.1.xOut.length c6 (rowOf (encI .u8) t2.1.xOut) 1 5, .blk g1 [.bool a2.xRead, .int .i64 a2.xN, .int .i32 a2.xAhead, .slice A1 a2.xBytes.length c1] 34]) (by kernel_rfl) ?_
            refine o_run 2 [6] (l := []) .nil (E' := [(6, .bool t6)]) (by kernel_rfl) ?_
            refine o_end (by kernel_rfl) ?_
            refine e_seq ?_
            refine w_ret (by kernel_rfl) ?_
            obtain rfl := Option.some.inj hm
            exact e_retP B4 (.bool t6) [] (by kernel_rfl) (by kernel_rfl) rfl (by kernel_rfl) (by kernel_rfl) (Ext.trans hx7 hx10)
          · replace hm := ite_f hb6 hm
            refine o_run 3 [6] (l := []) .nil (E' := [(6, .bool false)]) (by kernel_rfl) ?_
            refine o_end (by kernel_rfl) ?_
            refine e_seq ?_
            refine w_ret (by kernel_rfl) ?_
            obtain rfl := Option.some.inj hm
            exact e_retP B3 (.bool false) [] (by kernel_rfl) (by kernel_rfl) rfl (by kernel_rfl) (by kernel_rfl) hx7
        · replace hm := ite_f hb5 hm
          refine w_skip (by kernel_rfl) ?_
          refine e_seq ?_
          refine w_seq 62 63 (by kernel_rfl) ?_
          refine w_seq 124 125 (by kernel_rfl) ?_
          refine w_region (by kernel_rfl) ?_
          refine o_run 22 [1, 5, 68] (l := []) .nil (E' := [(1, .int .u32 a1), (5, .pointer (some ⟨g1, 0, none⟩)), (68, .bool false)]) (by kernel_rfl) ?_
          refine o_end (by kernel_rfl) ?_
          refine e_seq ?_
          refine w_cond_f (.tmp 68) 250 251 (by kernel_rfl) (by kernel_rfl) ?_
          refine w_skip (by kernel_rfl) ?_
          refine e_seq ?_
          refine w_seq 126 127 (by kernel_rfl) ?_
          refine w_seq 252 253 (by kernel_rfl) ?_
          refine w_region (by kernel_rfl) ?_
          refine o_run 1 [1, 5, 69] (l := []) .nil (E' := [(1, .int .u32 a1), (5, .pointer (some ⟨g1, 0, none⟩)), (69, .agg #[.pointer none, .slice none 0 0, .int .i64 0, .int .i64 0, .int .u32 0, .bool false])]) (by kernel_rfl) ?_
          refine o_stp ?_ (by kernel_rfl)
          refine s_new 70 (fun g6 => .pointer (some ⟨g6, 0, none⟩)) [.pointer none, .slice none 0 0, .int .i64 0, .int .i64 0, .int .u32 0, .bool false] 50 (fun _ => by kernel_rfl) (fun g6 => ?_)
          refine o_stp ?_ (by kernel_rfl)
          refine s_new 71 (fun g7 => .slice (some ⟨g7, 0, none⟩) 2 2) [.pointer none, .pointer (some ⟨g6, 0, none⟩)] 25 (fun _ => by kernel_rfl) (fun g7 => ?_)
          refine o_run 2 [1, 5, 71, 72, 73] (l := []) .nil (E' := [(1, .int .u32 a1), (5, .pointer (some ⟨g1, 0, none⟩)), (71, .slice (some ⟨g7, 0, none⟩) 2 2), (72, .int .i64 2), (73, .int .i64 0)]) (by kernel_rfl) ?_
          refine o_end (by kernel_rfl) ?_
          refine e_seq ?_
          refine w_block 0 506 (by kernel_rfl) ?_
          obtain ⟨t7, ht1, ho2⟩ := bind_some hm
          refine t_env [1, 5, 71, 72, 73] (E' := [(1, .int .u32 a1), (5, .pointer (some ⟨g1, 0, none⟩)), (71, .slice (some ⟨g7, 0, none⟩) 2 2), (72, .int .i64 2), (73, .int .i64 0)]) (by kernel_rfl) ?_
          refine w_loopJ 1012 0 (fun kk a w => (kk = 2 ∧ ((rbuf_Buffer_Insert_2.f a1 a2.xBytes).bind fun t9 => ((rbuf_Buffer_Read_2.f a2.xN).bind fun t10 => (rbuf_Buffer_Window_2.f.bind fun t11 => (rbuf_Buffer_Len_2.f.bind fun t12 => (rbuf_Buffer_Out_2.f.bind fun t13 => ((rbuf_Buffer_Blocks.f a2.xN).bind fun t14 => (if (I64 ((I64 ((I64 ((I64 ((I64 (0 + (t10.length : Int))) + 0)) + 0)) + 0)) + (t14.length : Int))) != 0 then (some (.inl false)) else (rbuf_Buffer_Next_2.f.bind fun t15 => ((rbuf_Buffer_Insert_3.f (⟨0, 0, 0, false⟩ : T_rbuf_Buffer_o2) a1 a2.xBytes).bind fun t16 => ((rbuf_Buffer_Read_3.f k (⟨0, 0, 0, false⟩ : T_rbuf_Buffer_o2) a2.xN).bind fun t17 => ((rbuf_Buffer_Window_3.f (⟨0, 0, 0, false⟩ : T_rbuf_Buffer_o2)).bind fun t18 => ((rbuf_Buffer_Len_3.f (⟨0, 0, 0, false⟩ : T_rbuf_Buffer_o2)).bind fun t19 => ((rbuf_Buffer_Out_3.f (⟨0, 0, 0, false⟩ : T_rbuf_Buffer_o2)).bind fun t20 => ((rbuf_Buffer_Blocks_2.f (⟨0, 0, 0, false⟩ : T_rbuf_Buffer_o2) a2.xN).bind fun t21 => (if (I64 ((I64 ((I64 ((I64 ((I64 (0 + (t17.length : Int))) + 0)) + 0)) + 0)) + (t21.length : Int))) != 0 then (some (.inl false)) else ((rbuf_Buffer_Next_3.f (⟨0, 0, 0, false⟩ : T_rbuf_Buffer_o2)).bind fun t22 => (some (.inr ())))))))))))))))))) = some t7 ∧ EnvOk [(1, .int .u32 a1), (5, .pointer (some ⟨g1, 0, none⟩)), (71, .slice (some ⟨g7, 0, none⟩) 2 2), (72, .int .i64 2), (73, .int .i64 0)] Try.f5.ntmps a ∧ St B3 G [.blk g7 [.pointer none, .pointer (some ⟨g6, 0, none⟩)] 25, .blk g6 [.pointer none, .slice none 0 0, .int .i64 0, .int .i64 0, .int .u32 0, .bool false] 50, .blk g4 [.int .i64 t2.1.xRoom, .int .u32 t2.1.xNext, .slice A4 t2.1.xIn.length c4, .slice A5 t2.1.xCame.length c5, .slice A6 t2.1.xOut.length c6, .int .u32 t2.1.xLast, .bool t2.1.xHas] 42, .own A5 t2.1.xCame.length c5 (rowOf encB t2.1.xCame) 1 4, .own A6 t2.1.xOut.length c6 (rowOf (encI .u8) t2.1.xOut) 1 5, .blk g1 [.bool a2.xRead, .int .i64 a2.xN, .int .i32 a2.xAhead, .slice A1 a2.xBytes.length c1] 34] w) ∨ (kk = 1 ∧ ((rbuf_Buffer_Insert_3.f (⟨0, 0, 0, false⟩ : T_rbuf_Buffer_o2) a1 a2.xBytes).bind fun t16 => ((rbuf_Buffer_Read_3.f k (⟨0, 0, 0, false⟩ : T_rbuf_Buffer_o2) a2.xN).bind fun t17 => ((rbuf_Buffer_Window_3.f (⟨0, 0, 0, false⟩ : T_rbuf_Buffer_o2)).bind fun t18 => ((rbuf_Buffer_Len_3.f (⟨0, 0, 0, false⟩ : T_rbuf_Buffer_o2)).bind fun t19 => ((rbuf_Buffer_Out_3.f (⟨0, 0, 0, false⟩ : T_rbuf_Buffer_o2)).bind fun t20 => ((rbuf_Buffer_Blocks_2.f (⟨0, 0, 0, false⟩ : T_rbuf_Buffer_o2) a2.xN).bind fun t21 => (if (I64 ((I64 ((I64 ((I64 ((I64 (0 + (t17.length : Int))) + 0)) + 0)) + 0)) + (t21.length : Int))) != 0 then (some (.inl false)) else ((rbuf_Buffer_Next_3.f (⟨0, 0, 0, false⟩ : T_rbuf_Buffer_o2)).bind fun t22 => (some (.inr ())))))))))) = some t7 ∧ EnvOk [(1, .int .u32 a1), (5, .pointer (some ⟨g1, 0, none⟩)), (71, .slice (some ⟨g7, 0, none⟩) 2 2), (72, .int .i64 2), (73, .int .i64 1)] Try.f5.ntmps a ∧ St B3 G [.blk g7 [.pointer none, .pointer (some ⟨g6, 0, none⟩)] 25, .blk g6 [.pointer none, .slice none 0 0, .int .i64 0, .int .i64 0, .int .u32 0, .bool false] 50, .blk g4 [.int .i64 t2.1.xRoom, .int .u32 t2.1.xNext, .slice A4 t2.1.xIn.length c4, .slice A5 t2.1.xCame.length c5, .slice A6 t2.1.xOut.length c6, .int .u32 t2.1.xLast, .bool t2.1.xHas] 42, .own A5 t2.1.xCame.length c5 (rowOf encB t2.1.xCame) 1 4, .own A6 t2.1.xOut.length c6 (rowOf (encI .u8) t2.1.xOut) 1 5, .blk g1 [.bool a2.xRead, .int .i64 a2.xN, .int .i32 a2.xAhead, .slice A1 a2.xBytes.length c1] 34] w) ∨ (kk = 0 ∧ (some (.inr ())) = some t7 ∧ EnvOk [(1, .int .u32 a1), (5, .pointer (some ⟨g1, 0, none⟩)), (71, .slice (some ⟨g7, 0, none⟩) 2 2), (72, .int .i64 2), (73, .int .i64 2)] Try.f5.ntmps a ∧ St B3 G [.blk g7 [.pointer none, .pointer (some ⟨g6, 0, none⟩)] 25, .blk g6 [.pointer none, .slice none 0 0, .int .i64 0, .int .i64 0, .int .u32 0, .bool false] 50, .blk g4 [.int .i64 t2.1.xRoom, .int .u32 t2.1.xNext, .slice A4 t2.1.xIn.length c4, .slice A5 t2.1.xCame.length c5, .slice A6 t2.1.xOut.length c6, .int .u32 t2.1.xLast, .bool t2.1.xHas] 42, .own A5 t2.1.xCame.length c5 (rowOf encB t2.1.xCame) 1 4, .own A6 t2.1.xOut.length c6 (rowOf (encI .u8) t2.1.xOut) 1 5, .blk g1 [.bool a2.xRead, .int .i64 a2.xN, .int .i32 a2.xAhead, .slice A1 a2.xBytes.length c1] 34] w)) (fun a w => t7 = .inr () ∧ EnvOk [] Try.f5.ntmps a ∧ St B3 G [.blk g7 [.pointer none, .pointer (some ⟨g6, 0, none⟩)] 25, .blk g6 [.pointer none, .slice none 0 0, .int .i64 0, .int .i64 0, .int .u32 0, .bool false] 50, .blk g4 [.int .i64 t2.1.xRoom, .int .u32 t2.1.xNext, .slice A4 t2.1.xIn.length c4, .slice A5 t2.1.xCame.length c5, .slice A6 t2.1.xOut.length c6, .int .u32 t2.1.xLast, .bool t2.1.xHas] 42, .own A5 t2.1.xCame.length c5 (rowOf encB t2.1.xCame) 1 4, .own A6 t2.1.xOut.length c6 (rowOf (encI .u8) t2.1.xOut) 1 5, .blk g1 [.bool a2.xRead, .int .i64 a2.xN, .int .i32 a2.xAhead, .slice A1 a2.xBytes.length c1] 34] w) (by kernel_rfl) ?_ ?_ 2 ?_
          · rintro a w ⟨hu, ha, hw⟩
            refine we_of (E := []) (B := B3) (G := G) (L := [.blk g7 [.pointer none, .pointer (some ⟨g6, 0, none⟩)] 25, .blk g6 [.pointer none, .slice none 0 0, .int .i64 0, .int .i64 0, .int .u32 0, .bool false] 50, .blk g4 [.int .i64 t2.1.xRoom, .int .u32 t2.1.xNext, .slice A4 t2.1.xIn.length c4, .slice A5 t2.1.xCame.length c5, .slice A6 t2.1.xOut.length c6, .int .u32 t2.1.xLast, .bool t2.1.xHas] 42, .own A5 t2.1.xCame.length c5 (rowOf encB t2.1.xCame) 1 4, .own A6 t2.1.xOut.length c6 (rowOf (encI .u8) t2.1.xOut) 1 5, .blk g1 [.bool a2.xRead, .int .i64 a2.xN, .int .i32 a2.xAhead, .slice A1 a2.xBytes.length c1] 34]) ?_ ha hw
            subst hu
            replace hm := brk_inr ho2
            refine e_seq ?_
            refine w_seq 254 255 (by kernel_rfl) ?_
            refine w_region (by kernel_rfl) ?_
            obtain ⟨t8, hx11, hm⟩ := bind_some hm
            refine o_stp ?_ (by kernel_rfl)
            refine s_call 110 9 #[] [] [0, 1, 2, 3, 4, 5] (by kernel_rfl) (by kernel_rfl) (fun w hs => downhaullaw26_alive_ok k t8 hx11 B3 _ w (St.cast (by kernel_rfl) hs)) (fun B5 hx => ?_)
            have hx12 := hx
            refine t_L (L' := [.blk g7 [.pointer none, .pointer (some ⟨g6, 0, none⟩)] 25, .blk g6 [.pointer none, .slice none 0 0, .int .i64 0, .int .i64 0, .int .u32 0, .bool false] 50, .blk g4 [.int .i64 t2.1.xRoom, .int .u32 t2.1.xNext, .slice A4 t2.1.xIn.length c4, .slice A5 t2.1.xCame.length c5, .slice A6 t2.1.xOut.length c6, .int .u32 t2.1.xLast, .bool t2.1.xHas] 42, .own A5 t2.1.xCame.length c5 (rowOf encB t2.1.xCame) 1 4, .own A6 t2.1.xOut.length c6 (rowOf (encI .u8) t2.1.xOut) 1 5, .blk g1 [.bool a2.xRead, .int .i64 a2.xN, .int .i32 a2.xAhead, .slice A1 a2.xBytes.length c1] 34]) (by kernel_rfl) ?_
            refine o_run 1 [6] (l := []) .nil (E' := [(6, .bool t8)]) (by kernel_rfl) ?_
            refine o_end (by kernel_rfl) ?_
            refine e_seq ?_
            refine w_ret (by kernel_rfl) ?_
            obtain rfl := Option.some.inj hm
            exact e_retP B5 (.bool t8) [] (by kernel_rfl) (by kernel_rfl) rfl (by kernel_rfl) (by kernel_rfl) (Ext.trans hx7 hx12)
          · rintro kk a w (⟨rfl, hm, ha, hw⟩ | ⟨rfl, hm, ha, hw⟩ | ⟨rfl, hm, ha, hw⟩)
            · refine wc_of (E := [(1, .int .u32 a1), (5, .pointer (some ⟨g1, 0, none⟩)), (71, .slice (some ⟨g7, 0, none⟩) 2 2), (72, .int .i64 2), (73, .int .i64 0)]) (B := B3) (G := G) (L := [.blk g7 [.pointer none, .pointer (some ⟨g6, 0, none⟩)] 25, .blk g6 [.pointer none, .slice none 0 0, .int .i64 0, .int .i64 0, .int .u32 0, .bool false] 50, .blk g4 [.int .i64 t2.1.xRoom, .int .u32 t2.1.xNext, .slice A4 t2.1.xIn.length c4, .slice A5 t2.1.xCame.length c5, .slice A6 t2.1.xOut.length c6, .int .u32 t2.1.xLast, .bool t2.1.xHas] 42, .own A5 t2.1.xCame.length c5 (rowOf encB t2.1.xCame) 1 4, .own A6 t2.1.xOut.length c6 (rowOf (encI .u8) t2.1.xOut) 1 5, .blk g1 [.bool a2.xRead, .int .i64 a2.xN, .int .i32 a2.xAhead, .slice A1 a2.xBytes.length c1] 34]) ?_ ha hw
              refine w_seq 2024 2025 (by kernel_rfl) ?_
              refine w_region (by kernel_rfl) ?_
              refine o_run 1 [1, 5, 71, 72, 73, 74] (l := []) .nil (E' := [(1, .int .u32 a1), (5, .pointer (some ⟨g1, 0, none⟩)), (71, .slice (some ⟨g7, 0, none⟩) 2 2), (72, .int .i64 2), (73, .int .i64 0), (74, .bool true)]) (by kernel_rfl) ?_
              refine o_end (by kernel_rfl) ?_
              refine e_seq ?_
              refine w_seq 4050 4051 (by kernel_rfl) ?_
              refine w_cond_t (.tmp 74) 8100 8101 (by kernel_rfl) (by kernel_rfl) ?_
              refine w_skip (by kernel_rfl) ?_
              refine e_seq ?_
              refine w_seq 8102 8103 (by kernel_rfl) ?_
              refine w_block 1 16204 (by kernel_rfl) ?_
              refine w_seq 32408 32409 (by kernel_rfl) ?_
              refine w_region (by kernel_rfl) ?_
              refine o_val 75 (.indexAddr 51 (.tmp 71) (.tmp 73)) (.pointer (some ⟨g7, 0, none⟩)) (by kernel_rfl) (v_index (A := some ⟨g7, 0, none⟩) (sz := 1) (k := .i64) (j := 0) (m := 2) (c := 2) (by kernel_rfl) (by kernel_rfl) (by kernel_rfl) (by decide) (by decide) (fun _ _ => rfl)) ?_
              refine o_run 2 [1, 5, 12, 71, 72, 73] (l := [(⟨g7, 0, none⟩, .pointer none)]) (.one (at_blk (j := 0) rfl rfl) .nil) (E' := [(1, .int .u32 a1), (5, .pointer (some ⟨g1, 0, none⟩)), (12, .pointer none), (71, .slice (some ⟨g7, 0, none⟩) 2 2), (72, .int .i64 2), (73, .int .i64 0)]) (by kernel_rfl) ?_
              refine o_end (by kernel_rfl) ?_
              refine e_seq ?_
              refine w_seq 64818 64819 (by kernel_rfl) ?_
              refine w_tail 25 [.blk g7 [.pointer none, .pointer (some ⟨g6, 0, none⟩)] 25, .blk g6 [.pointer none, .slice none 0 0, .int .i64 0, .int .i64 0, .int .u32 0, .bool false] 50, .blk g4 [.int .i64 t2.1.xRoom, .int .u32 t2.1.xNext, .slice A4 t2.1.xIn.length c4, .slice A5 t2.1.xCame.length c5, .slice A6 t2.1.xOut.length c6, .int .u32 t2.1.xLast, .bool t2.1.xHas] 42, .own A5 t2.1.xCame.length c5 (rowOf encB t2.1.xCame) 1 4, .own A6 t2.1.xOut.length c6 (rowOf (encI .u8) t2.1.xOut) 1 5, .blk g1 [.bool a2.xRead, .int .i64 a2.xN, .int .i32 a2.xAhead, .slice A1 a2.xBytes.length c1] 34] (by kernel_rfl) mixed (by kernel_rfl) ?_
              refine tt_run [0, 1, 2, 3, 5, 6, 7, 11, 14, 17, 20, 21, 22] [1, 5, 12, 71, 72, 73, 77, 78, 80, 82, 84, 88, 91, 94, 97, 99] [0, 1, 2, 3, 4, 5] 12 (listed' := #[true, true, true, true, false, true, true, true, false, false, false, true, false, false, true, false, false, true, false, false, true, true, true, false, false, false, false, false, false, false, false, false]) (l := [(⟨g1, 3, none⟩, .slice A1 a2.xBytes.length c1), (⟨g1, 1, none⟩, .int .i64 a2.xN), (⟨g1, 1, none⟩, .int .i64 a2.xN)]) (.one (at_blk (j := 5) rfl rfl) (.one (at_blk (j := 5) rfl rfl) (.one (at_blk (j := 5) rfl rfl) .nil))) (E' := [(1, .int .u32 a1), (5, .pointer (some ⟨g1, 0, none⟩)), (12, .pointer none), (71, .slice (some ⟨g7, 0, none⟩) 2 2), (72, .int .i64 2), (73, .int .i64 0), (77, .pointer none), (78, .int .u32 a1), (80, .slice A1 a2.xBytes.length c1), (82, .pointer none), (84, .int .i64 a2.xN), (88, .pointer none), (91, .pointer none), (94, .pointer none), (97, .pointer none), (99, .int .i64 a2.xN)]) (by kernel_rfl) (by kernel_rfl) (by kernel_rfl) (Ext.refl _) (by kernel_rfl) (by kernel_rfl) ?_
              obtain ⟨t9, hx13, hm⟩ := bind_some hm
              obtain rfl : 0 = t9 := Option.some.inj (show some 0 = some t9 from hx13)
              refine tt_call 4 81 12 #[.pointer none, .int .u32 a1, .slice A1 a2.xBytes.length c1] (.int .i64 0) [] [0, 1, 2, 3, 4, 5] (by kernel_rfl) (by kernel_rfl) (by kernel_rfl) (fun B' hx' G' w hs => post_same (rbuf_Buffer_Insert_2_ok a1 a2.xBytes 0 hx13 _ _ A1 c1 ((hs1.up hx7).up hx') w (St.cast (by kernel_rfl) hs))) (by kernel_rfl) (Ext.refl _) (by kernel_rfl) (by kernel_rfl) ?_
              obtain ⟨t10, hx14, hm⟩ := bind_some hm
              refine tt_stp 8 [0, 1, 2, 3, 4, 5] (Ext.refl _) (by kernel_rfl) (by kernel_rfl) (by kernel_rfl) (by kernel_rfl) ?_
              refine s_call 85 11 #[.pointer none, .int .i64 a2.xN] [] [0, 1, 2, 3, 4, 5] (by kernel_rfl) (by kernel_rfl) (fun w hs => rbuf_Buffer_Read_2_ok a2.xN t10 hx14 B3 _ w (St.cast (by kernel_rfl) hs)) (fun x hx => ?_)
              obtain ⟨A7, c7⟩ := x
              have hs5 := hx
              refine t_L (L' := [.blk g7 [.pointer none, .pointer (some ⟨g6, 0, none⟩)] 25, .blk g6 [.pointer none, .slice none 0 0, .int .i64 0, .int .i64 0, .int .u32 0, .bool false] 50, .blk g4 [.int .i64 t2.1.xRoom, .int .u32 t2.1.xNext, .slice A4 t2.1.xIn.length c4, .slice A5 t2.1.xCame.length c5, .slice A6 t2.1.xOut.length c6, .int .u32 t2.1.xLast, .bool t2.1.xHas] 42, .own A5 t2.1.xCame.length c5 (rowOf encB t2.1.xCame) 1 4, .own A6 t2.1.xOut.length c6 (rowOf (encI .u8) t2.1.xOut) 1 5, .blk g1 [.bool a2.xRead, .int .i64 a2.xN, .int .i32 a2.xAhead, .slice A1 a2.xBytes.length c1] 34]) (by kernel_rfl) ?_
              refine tt_run [9, 10] [1, 5, 12, 71, 72, 73, 87, 88, 91, 94, 97, 99] [0, 1, 2, 3, 4, 5] 8 (listed' := #[true, true, true, true, true, true, true, true, true, true, true, true, false, false, true, false, false, true, false, false, true, true, true, false, false, false, false, false, false, false, false, false]) (l := []) .nil (E' := [(1, .int .u32 a1), (5, .pointer (some ⟨g1, 0, none⟩)), (12, .pointer none), (71, .slice (some ⟨g7, 0, none⟩) 2 2), (72, .int .i64 2), (73, .int .i64 0), (87, .int .i64 (I64 (0 + (t10.length : Int)))), (88, .pointer none), (91, .pointer none), (94, .pointer none), (97, .pointer none), (99, .int .i64 a2.xN)]) (by kernel_rfl) (by kernel_rfl) (by kernel_rfl) (Ext.refl _) (by kernel_rfl) (by kernel_rfl) ?_
              obtain ⟨t11, hx15, hm⟩ := bind_some hm
              obtain rfl : 0 = t11 := Option.some.inj (show some 0 = some t11 from hx15)
              refine tt_call 12 89 18 #[.pointer none] (.int .i64 0) [] [0, 1, 2, 3, 4, 5] (by kernel_rfl) (by kernel_rfl) (by kernel_rfl) (fun B' hx' G' w hs => post_same (rbuf_Buffer_Window_2_ok 0 hx15 _ _ w (St.cast (by kernel_rfl) hs))) (by kernel_rfl) (Ext.refl _) (by kernel_rfl) (by kernel_rfl) ?_
              refine tt_run [13] [1, 5, 12, 71, 72, 73, 90, 91, 94, 97, 99] [0, 1, 2, 3, 4, 5] 6 (listed' := #[true, true, true, true, true, true, true, true, true, true, true, true, true, true, true, false, false, true, false, false, true, true, true, false, false, false, false, false, false, false, false, false]) (l := []) .nil (E' := [(1, .int .u32 a1), (5, .pointer (some ⟨g1, 0, none⟩)), (12, .pointer none), (71, .slice (some ⟨g7, 0, none⟩) 2 2), (72, .int .i64 2), (73, .int .i64 0), (90, .int .i64 (I64 ((I64 (0 + (t10.length : Int))) + 0))), (91, .pointer none), (94, .pointer none), (97, .pointer none), (99, .int .i64 a2.xN)]) (by kernel_rfl) (by kernel_rfl) (by kernel_rfl) (Ext.refl _) (by kernel_rfl) (by kernel_rfl) ?_
              obtain ⟨t12, hx16, hm⟩ := bind_some hm
              obtain rfl : 0 = t12 := Option.some.inj (show some 0 = some t12 from hx16)
              refine tt_call 15 92 14 #[.pointer none] (.int .i64 0) [] [0, 1, 2, 3, 4, 5] (by kernel_rfl) (by kernel_rfl) (by kernel_rfl) (fun B' hx' G' w hs => post_same (rbuf_Buffer_Len_2_ok 0 hx16 _ _ w (St.cast (by kernel_rfl) hs))) (by kernel_rfl) (Ext.refl _) (by kernel_rfl) (by kernel_rfl) ?_
              refine tt_run [16] [1, 5, 12, 71, 72, 73, 93, 94, 97, 99] [0, 1, 2, 3, 4, 5] 4 (listed' := #[true, true, true, true, true, true, true, true, true, true, true, true, true, true, true, true, true, true, false, false, true, true, true, false, false, false, false, false, false, false, false, false]) (l := []) .nil (E' := [(1, .int .u32 a1), (5, .pointer (some ⟨g1, 0, none⟩)), (12, .pointer none), (71, .slice (some ⟨g7, 0, none⟩) 2 2), (72, .int .i64 2), (73, .int .i64 0), (93, .int .i64 (I64 ((I64 ((I64 (0 + (t10.length : Int))) + 0)) + 0))), (94, .pointer none), (97, .pointer none), (99, .int .i64 a2.xN)]) (by kernel_rfl) (by kernel_rfl) (by kernel_rfl) (Ext.refl _) (by kernel_rfl) (by kernel_rfl) ?_
              obtain ⟨t13, hx17, hm⟩ := bind_some hm
              obtain rfl : 0 = t13 := Option.some.inj (show some 0 = some t13 from hx17)
              refine tt_call 18 95 20 #[.pointer none] (.int .i64 0) [] [0, 1, 2, 3, 4, 5] (by kernel_rfl) (by kernel_rfl) (by kernel_rfl) (fun B' hx' G' w hs => post_same (rbuf_Buffer_Out_2_ok 0 hx17 _ _ w (St.cast (by kernel_rfl) hs))) (by kernel_rfl) (Ext.refl _) (by kernel_rfl) (by kernel_rfl) ?_
              refine tt_run [19] [1, 5, 12, 71, 72, 73, 96, 97, 99] [0, 1, 2, 3, 4, 5] 2 (listed' := #[true, true, true, true, true, true, true, true, true, true, true, true, true, true, true, true, true, true, true, true, true, true, true, false, false, false, false, false, false, false, false, false]) (l := []) .nil (E' := [(1, .int .u32 a1), (5, .pointer (some ⟨g1, 0, none⟩)), (12, .pointer none), (71, .slice (some ⟨g7, 0, none⟩) 2 2), (72, .int .i64 2), (73, .int .i64 0), (96, .int .i64 (I64 ((I64 ((I64 ((I64 (0 + (t10.length : Int))) + 0)) + 0)) + 0))), (97, .pointer none), (99, .int .i64 a2.xN)]) (by kernel_rfl) (by kernel_rfl) (by kernel_rfl) (Ext.refl _) (by kernel_rfl) (by kernel_rfl) ?_
              obtain ⟨t14, hx18, hm⟩ := bind_some hm
              refine tt_stp 23 [0, 1, 2, 3, 4, 5] (Ext.refl _) (by kernel_rfl) (by kernel_rfl) (by kernel_rfl) (by kernel_rfl) ?_
              refine s_call 100 23 #[.pointer none, .int .i64 a2.xN] [] [0, 1, 2, 3, 4, 5] (by kernel_rfl) (by kernel_rfl) (fun w hs => rbuf_Buffer_Blocks_ok a2.xN t14 hx18 B3 _ w (St.cast (by kernel_rfl) hs)) (fun x hx => ?_)
              obtain ⟨A8, c8⟩ := x
              have hs6 := hx
              refine t_L (L' := [.blk g7 [.pointer none, .pointer (some ⟨g6, 0, none⟩)] 25, .blk g6 [.pointer none, .slice none 0 0, .int .i64 0, .int .i64 0, .int .u32 0, .bool false] 50, .blk g4 [.int .i64 t2.1.xRoom, .int .u32 t2.1.xNext, .slice A4 t2.1.xIn.length c4, .slice A5 t2.1.xCame.length c5, .slice A6 t2.1.xOut.length c6, .int .u32 t2.1.xLast, .bool t2.1.xHas] 42, .own A5 t2.1.xCame.length c5 (rowOf encB t2.1.xCame) 1 4, .own A6 t2.1.xOut.length c6 (rowOf (encI .u8) t2.1.xOut) 1 5, .blk g1 [.bool a2.xRead, .int .i64 a2.xN, .int .i32 a2.xAhead, .slice A1 a2.xBytes.length c1] 34]) (by kernel_rfl) ?_
              refine tt_run [24] [1, 5, 12, 71, 72, 73, 96, 101] [0, 1, 2, 3, 4, 5] 0 (listed' := #[true, true, true, true, true, true, true, true, true, true, true, true, true, true, true, true, true, true, true, true, true, true, true, true, true, false, false, false, false, false, false, false]) (l := []) .nil (E' := [(1, .int .u32 a1), (5, .pointer (some ⟨g1, 0, none⟩)), (12, .pointer none), (71, .slice (some ⟨g7, 0, none⟩) 2 2), (72, .int .i64 2), (73, .int .i64 0), (96, .int .i64 (I64 ((I64 ((I64 ((I64 (0 + (t10.length : Int))) + 0)) + 0)) + 0))), (101, .int .i64 (t14.length : Int))]) (by kernel_rfl) (by kernel_rfl) (by kernel_rfl) (Ext.refl _) (by kernel_rfl) (by kernel_rfl) ?_
              refine tt_end [0, 1, 2, 3, 4, 5] (Ext.refl _) (by kernel_rfl) (by kernel_rfl) (by kernel_rfl) ?_
              refine o_run 3 [1, 5, 12, 71, 72, 73, 104] (l := []) .nil (E' := [(1, .int .u32 a1), (5, .pointer (some ⟨g1, 0, none⟩)), (12, .pointer none), (71, .slice (some ⟨g7, 0, none⟩) 2 2), (72, .int .i64 2), (73, .int .i64 0), (104, .bool ((I64 ((I64 ((I64 ((I64 ((I64 (0 + (t10.length : Int))) + 0)) + 0)) + 0)) + (t14.length : Int))) != 0))]) (by kernel_rfl) ?_
              refine o_split 104 ((I64 ((I64 ((I64 ((I64 ((I64 (0 + (t10.length : Int))) + 0)) + 0)) + 0)) + (t14.length : Int))) != 0) (by kernel_rfl) (fun hb7 => ?_) (fun hb7 => ?_)
              · replace hm := ite_t hb7 hm
                refine o_run 4 [1, 5, 71, 72, 73, 108] (l := []) .nil (E' := [(1, .int .u32 a1), (5, .pointer (some ⟨g1, 0, none⟩)), (71, .slice (some ⟨g7, 0, none⟩) 2 2), (72, .int .i64 2), (73, .int .i64 0), (108, .bool true)]) (by kernel_rfl) ?_
                refine o_end (by kernel_rfl) ?_
                refine e_seq ?_
                refine w_cond_t (.tmp 108) 129638 129639 (by kernel_rfl) (by kernel_rfl) ?_
                refine w_seq 259276 259277 (by kernel_rfl) ?_
                refine w_region (by kernel_rfl) ?_
                refine o_run 1 [6] (l := []) .nil (E' := [(6, .bool false)]) (by kernel_rfl) ?_
                refine o_end (by kernel_rfl) ?_
                refine e_seq ?_
                refine w_ret (by kernel_rfl) ?_
                obtain rfl := Option.some.inj hm
                replace hm := brk_inl ho2
                obtain rfl := Option.some.inj hm
                exact e_retP B3 (.bool false) [] (by kernel_rfl) (by kernel_rfl) rfl (by kernel_rfl) (by kernel_rfl) hx7
              · replace hm := ite_f hb7 hm
                refine o_run 1 [1, 5, 71, 72, 73, 104, 105] (l := []) .nil (E' := [(1, .int .u32 a1), (5, .pointer (some ⟨g1, 0, none⟩)), (71, .slice (some ⟨g7, 0, none⟩) 2 2), (72, .int .i64 2), (73, .int .i64 0), (104, .bool false), (105, .pointer none)]) (by kernel_rfl) ?_
                obtain ⟨t15, hx19, hm⟩ := bind_some hm
                obtain rfl : 0 = t15 := Option.some.inj (show some 0 = some t15 from hx19)
                refine o_stp ?_ (by kernel_rfl)
                refine s_call 106 13 #[.pointer none] [] [0, 1, 2, 3, 4, 5] (by kernel_rfl) (by kernel_rfl) (fun w hs => rbuf_Buffer_Next_2_ok 0 hx19 B3 _ w (St.cast (by kernel_rfl) hs)) (fun _ hx => ?_)
                refine t_L (L' := [.blk g7 [.pointer none, .pointer (some ⟨g6, 0, none⟩)] 25, .blk g6 [.pointer none, .slice none 0 0, .int .i64 0, .int .i64 0, .int .u32 0, .bool false] 50, .blk g4 [.int .i64 t2.1.xRoom, .int .u32 t2.1.xNext, .slice A4 t2.1.xIn.length c4, .slice A5 t2.1.xCame.length c5, .slice A6 t2.1.xOut.length c6, .int .u32 t2.1.xLast, .bool t2.1.xHas] 42, .own A5 t2.1.xCame.length c5 (rowOf encB t2.1.xCame) 1 4, .own A6 t2.1.xOut.length c6 (rowOf (encI .u8) t2.1.xOut) 1 5, .blk g1 [.bool a2.xRead, .int .i64 a2.xN, .int .i32 a2.xAhead, .slice A1 a2.xBytes.length c1] 34]) (by kernel_rfl) ?_
                refine o_run 2 [1, 5, 71, 72, 73, 108] (l := []) .nil (E' := [(1, .int .u32 a1), (5, .pointer (some ⟨g1, 0, none⟩)), (71, .slice (some ⟨g7, 0, none⟩) 2 2), (72, .int .i64 2), (73, .int .i64 0), (108, .bool false)]) (by kernel_rfl) ?_
                refine o_end (by kernel_rfl) ?_
                refine e_seq ?_
                refine w_cond_f (.tmp 108) 129638 129639 (by kernel_rfl) (by kernel_rfl) ?_
                refine w_skip (by kernel_rfl) ?_
                refine e_blk ?_
                refine e_seq ?_
                refine w_region (by kernel_rfl) ?_
                refine o_run 2 [1, 5, 71, 72, 73] (l := []) .nil (E' := [(1, .int .u32 a1), (5, .pointer (some ⟨g1, 0, none⟩)), (71, .slice (some ⟨g7, 0, none⟩) 2 2), (72, .int .i64 2), (73, .int .i64 1)]) (by kernel_rfl) ?_
                refine o_end (by kernel_rfl) ?_
                refine t_drop [0, 1, 2, 3, 4, 5] (by kernel_rfl) ?_
                refine t_L (L' := [.blk g7 [.pointer none, .pointer (some ⟨g6, 0, none⟩)] 25, .blk g6 [.pointer none, .slice none 0 0, .int .i64 0, .int .i64 0, .int .u32 0, .bool false] 50, .blk g4 [.int .i64 t2.1.xRoom, .int .u32 t2.1.xNext, .slice A4 t2.1.xIn.length c4, .slice A5 t2.1.xCame.length c5, .slice A6 t2.1.xOut.length c6, .int .u32 t2.1.xLast, .bool t2.1.xHas] 42, .own A5 t2.1.xCame.length c5 (rowOf encB t2.1.xCame) 1 4, .own A6 t2.1.xOut.length c6 (rowOf (encI .u8) t2.1.xOut) 1 5, .blk g1 [.bool a2.xRead, .int .i64 a2.xN, .int .i32 a2.xAhead, .slice A1 a2.xBytes.length c1] 34]) (by kernel_rfl) ?_
                refine t_env [1, 5, 71, 72, 73] (E' := [(1, .int .u32 a1), (5, .pointer (some ⟨g1, 0, none⟩)), (71, .slice (some ⟨g7, 0, none⟩) 2 2), (72, .int .i64 2), (73, .int .i64 1)]) (by kernel_rfl) ?_
                exact e_inv (fun a w ha hw => ⟨1, by decide, (.inr (.inl ⟨rfl, hm, ha, hw⟩))⟩)
            · refine wc_of (E := [(1, .int .u32 a1), (5, .pointer (some ⟨g1, 0, none⟩)), (71, .slice (some ⟨g7, 0, none⟩) 2 2), (72, .int .i64 2), (73, .int .i64 1)]) (B := B3) (G := G) (L := [.blk g7 [.pointer none, .pointer (some ⟨g6, 0, none⟩)] 25, .blk g6 [.pointer none, .slice none 0 0, .int .i64 0, .int .i64 0, .int .u32 0, .bool false] 50, .blk g4 [.int .i64 t2.1.xRoom, .int .u32 t2.1.xNext, .slice A4 t2.1.xIn.length c4, .slice A5 t2.1.xCame.length c5, .slice A6 t2.1.xOut.length c6, .int .u32 t2.1.xLast, .bool t2.1.xHas] 42, .own A5 t2.1.xCame.length c5 (rowOf encB t2.1.xCame) 1 4, .own A6 t2.1.xOut.length c6 (rowOf (encI .u8) t2.1.xOut) 1 5, .blk g1 [.bool a2.xRead, .int .i64 a2.xN, .int .i32 a2.xAhead, .slice A1 a2.xBytes.length c1] 34]) ?_ ha hw
              refine w_seq 2024 2025 (by kernel_rfl) ?_
              refine w_region (by kernel_rfl) ?_
              refine o_run 1 [1, 5, 71, 72, 73, 74] (l := []) .nil (E' := [(1, .int .u32 a1), (5, .pointer (some ⟨g1, 0, none⟩)), (71, .slice (some ⟨g7, 0, none⟩) 2 2), (72, .int .i64 2), (73, .int .i64 1), (74, .bool true)]) (by kernel_rfl) ?_
              refine o_end (by kernel_rfl) ?_
              refine e_seq ?_
              refine w_seq 4050 4051 (by kernel_rfl) ?_
              refine w_cond_t (.tmp 74) 8100 8101 (by kernel_rfl) (by kernel_rfl) ?_
              refine w_skip (by kernel_rfl) ?_
              refine e_seq ?_
              refine w_seq 8102 8103 (by kernel_rfl) ?_
              refine w_block 1 16204 (by kernel_rfl) ?_
              refine w_seq 32408 32409 (by kernel_rfl) ?_
              refine w_region (by kernel_rfl) ?_
              refine o_val 75 (.indexAddr 51 (.tmp 71) (.tmp 73)) (.pointer (some ⟨g7, 1, none⟩)) (by kernel_rfl) (v_index (A := some ⟨g7, 0, none⟩) (sz := 1) (k := .i64) (j := 1) (m := 2) (c := 2) (by kernel_rfl) (by kernel_rfl) (by kernel_rfl) (by decide) (by decide) (fun _ _ => rfl)) ?_
              refine o_run 2 [1, 5, 12, 71, 72, 73] (l := [(⟨g7, 1, none⟩, .pointer (some ⟨g6, 0, none⟩))]) (.one (at_blk (j := 0) rfl rfl) .nil) (E' := [(1, .int .u32 a1), (5, .pointer (some ⟨g1, 0, none⟩)), (12, .pointer (some ⟨g6, 0, none⟩)), (71, .slice (some ⟨g7, 0, none⟩) 2 2), (72, .int .i64 2), (73, .int .i64 1)]) (by kernel_rfl) ?_
              refine o_end (by kernel_rfl) ?_
              refine e_seq ?_
              refine w_seq 64818 64819 (by kernel_rfl) ?_
              refine w_tail 25 [.blk g7 [.pointer none, .pointer (some ⟨g6, 0, none⟩)] 25, .blk g6 [.pointer none, .slice none 0 0, .int .i64 0, .int .i64 0, .int .u32 0, .bool false] 50, .blk g4 [.int .i64 t2.1.xRoom, .int .u32 t2.1.xNext, .slice A4 t2.1.xIn.length c4, .slice A5 t2.1.xCame.length c5, .slice A6 t2.1.xOut.length c6, .int .u32 t2.1.xLast, .bool t2.1.xHas] 42, .own A5 t2.1.xCame.length c5 (rowOf encB t2.1.xCame) 1 4, .own A6 t2.1.xOut.length c6 (rowOf (encI .u8) t2.1.xOut) 1 5, .blk g1 [.bool a2.xRead, .int .i64 a2.xN, .int .i32 a2.xAhead, .slice A1 a2.xBytes.length c1] 34] (by kernel_rfl) mixed (by kernel_rfl) ?_
              refine tt_run [0, 1, 2, 3, 5, 6, 7, 11, 14, 17, 20, 21, 22] [1, 5, 12, 71, 72, 73, 77, 78, 80, 82, 84, 88, 91, 94, 97, 99] [0, 1, 2, 3, 4, 5] 12 (listed' := #[true, true, true, true, false, true, true, true, false, false, false, true, false, false, true, false, false, true, false, false, true, true, true, false, false, false, false, false, false, false, false, false]) (l := [(⟨g1, 3, none⟩, .slice A1 a2.xBytes.length c1), (⟨g1, 1, none⟩, .int .i64 a2.xN), (⟨g1, 1, none⟩, .int .i64 a2.xN)]) (.one (at_blk (j := 5) rfl rfl) (.one (at_blk (j := 5) rfl rfl) (.one (at_blk (j := 5) rfl rfl) .nil))) (E' := [(1, .int .u32 a1), (5, .pointer (some ⟨g1, 0, none⟩)), (12, .pointer (some ⟨g6, 0, none⟩)), (71, .slice (some ⟨g7, 0, none⟩) 2 2), (72, .int .i64 2), (73, .int .i64 1), (77, .pointer (some ⟨g6, 0, none⟩)), (78, .int .u32 a1), (80, .slice A1 a2.xBytes.length c1), (82, .pointer (some ⟨g6, 0, none⟩)), (84, .int .i64 a2.xN), (88, .pointer (some ⟨g6, 0, none⟩)), (91, .pointer (some ⟨g6, 0, none⟩)), (94, .pointer (some ⟨g6, 0, none⟩)), (97, .pointer (some ⟨g6, 0, none⟩)), (99, .int .i64 a2.xN)]) (by kernel_rfl) (by kernel_rfl) (by kernel_rfl) (Ext.refl _) (by kernel_rfl) (by kernel_rfl) ?_
              obtain ⟨t16, hx20, hm⟩ := bind_some hm
              obtain rfl : 0 = t16 := Option.some.inj (show some 0 = some t16 from hx20)
              refine tt_call 4 81 12 #[.pointer (some ⟨g6, 0, none⟩), .int .u32 a1, .slice A1 a2.xBytes.length c1] (.int .i64 0) [1] [0, 1, 2, 3, 4, 5] (by kernel_rfl) (by kernel_rfl) (by kernel_rfl) (fun B' hx' G' w hs => post_same (rbuf_Buffer_Insert_3_ok (⟨0, 0, 0, false⟩ : T_rbuf_Buffer_o2) a1 a2.xBytes 0 hx20 _ _ g6 A1 c1 ((hs1.up hx7).up hx') w (St.cast (by kernel_rfl) hs))) (by kernel_rfl) (Ext.refl _) (by kernel_rfl) (by kernel_rfl) ?_
              obtain ⟨t17, hx21, hm⟩ := bind_some hm
              refine tt_stp 8 [0, 1, 2, 3, 4, 5] (Ext.refl _) (by kernel_rfl) (by kernel_rfl) (by kernel_rfl) (by kernel_rfl) ?_
              refine s_call 85 11 #[.pointer (some ⟨g6, 0, none⟩), .int .i64 a2.xN] [1] [0, 2, 3, 4, 5] (by kernel_rfl) (by kernel_rfl) (fun w hs => rbuf_Buffer_Read_3_ok k (⟨0, 0, 0, false⟩ : T_rbuf_Buffer_o2) a2.xN t17 hx21 B3 _ g6 w (St.cast (by kernel_rfl) hs)) (fun x hx => ?_)
              obtain ⟨A9, c9⟩ := x
              have hs7 := hx
              refine t_L (L' := [.blk g6 [.pointer none, .slice none 0 0, .int .i64 0, .int .i64 0, .int .u32 0, .bool false] 50, .blk g7 [.pointer none, .pointer (some ⟨g6, 0, none⟩)] 25, .blk g4 [.int .i64 t2.1.xRoom, .int .u32 t2.1.xNext, .slice A4 t2.1.xIn.length c4, .slice A5 t2.1.xCame.length c5, .slice A6 t2.1.xOut.length c6, .int .u32 t2.1.xLast, .bool t2.1.xHas] 42, .own A5 t2.1.xCame.length c5 (rowOf encB t2.1.xCame) 1 4, .own A6 t2.1.xOut.length c6 (rowOf (encI .u8) t2.1.xOut) 1 5, .blk g1 [.bool a2.xRead, .int .i64 a2.xN, .int .i32 a2.xAhead, .slice A1 a2.xBytes.length c1] 34]) (by kernel_rfl) ?_
              refine tt_run [9, 10] [1, 5, 12, 71, 72, 73, 87, 88, 91, 94, 97, 99] [1, 0, 2, 3, 4, 5] 8 (listed' := #[true, true, true, true, true, true, true, true, true, true, true, true, false, false, true, false, false, true, false, false, true, true, true, false, false, false, false, false, false, false, false, false]) (l := []) .nil (E' := [(1, .int .u32 a1), (5, .pointer (some ⟨g1, 0, none⟩)), (12, .pointer (some ⟨g6, 0, none⟩)), (71, .slice (some ⟨g7, 0, none⟩) 2 2), (72, .int .i64 2), (73, .int .i64 1), (87, .int .i64 (I64 (0 + (t17.length : Int)))), (88, .pointer (some ⟨g6, 0, none⟩)), (91, .pointer (some ⟨g6, 0, none⟩)), (94, .pointer (some ⟨g6, 0, none⟩)), (97, .pointer (some ⟨g6, 0, none⟩)), (99, .int .i64 a2.xN)]) (by kernel_rfl) (by kernel_rfl) (by kernel_rfl) (Ext.refl _) (by kernel_rfl) (by kernel_rfl) ?_
              obtain ⟨t18, hx22, hm⟩ := bind_some hm
              obtain rfl : 0 = t18 := Option.some.inj (show some 0 = some t18 from hx22)
              refine tt_call 12 89 18 #[.pointer (some ⟨g6, 0, none⟩)] (.int .i64 0) [1] [1, 0, 2, 3, 4, 5] (by kernel_rfl) (by kernel_rfl) (by kernel_rfl) (fun B' hx' G' w hs => post_same (rbuf_Buffer_Window_3_ok (⟨0, 0, 0, false⟩ : T_rbuf_Buffer_o2) 0 hx22 _ _ g6 w (St.cast (by kernel_rfl) hs))) (by kernel_rfl) (Ext.refl _) (by kernel_rfl) (by kernel_rfl) ?_
              refine tt_run [13] [1, 5, 12, 71, 72, 73, 90, 91, 94, 97, 99] [1, 0, 2, 3, 4, 5] 6 (listed' := #[true, true, true, true, true, true, true, true, true, true, true, true, true, true, true, false, false, true, false, false, true, true, true, false, false, false, false, false, false, false, false, false]) (l := []) .nil (E' := [(1, .int .u32 a1), (5, .pointer (some ⟨g1, 0, none⟩)), (12, .pointer (some ⟨g6, 0, none⟩)), (71, .slice (some ⟨g7, 0, none⟩) 2 2), (72, .int .i64 2), (73, .int .i64 1), (90, .int .i64 (I64 ((I64 (0 + (t17.length : Int))) + 0))), (91, .pointer (some ⟨g6, 0, none⟩)), (94, .pointer (some ⟨g6, 0, none⟩)), (97, .pointer (some ⟨g6, 0, none⟩)), (99, .int .i64 a2.xN)]) (by kernel_rfl) (by kernel_rfl) (by kernel_rfl) (Ext.refl _) (by kernel_rfl) (by kernel_rfl) ?_
              obtain ⟨t19, hx23, hm⟩ := bind_some hm
              obtain rfl : 0 = t19 := Option.some.inj (show some 0 = some t19 from hx23)
              refine tt_call 15 92 14 #[.pointer (some ⟨g6, 0, none⟩)] (.int .i64 0) [1] [1, 0, 2, 3, 4, 5] (by kernel_rfl) (by kernel_rfl) (by kernel_rfl) (fun B' hx' G' w hs => post_same (rbuf_Buffer_Len_3_ok (⟨0, 0, 0, false⟩ : T_rbuf_Buffer_o2) 0 hx23 _ _ g6 w (St.cast (by kernel_rfl) hs))) (by kernel_rfl) (Ext.refl _) (by kernel_rfl) (by kernel_rfl) ?_
              refine tt_run [16] [1, 5, 12, 71, 72, 73, 93, 94, 97, 99] [1, 0, 2, 3, 4, 5] 4 (listed' := #[true, true, true, true, true, true, true, true, true, true, true, true, true, true, true, true, true, true, false, false, true, true, true, false, false, false, false, false, false, false, false, false]) (l := []) .nil (E' := [(1, .int .u32 a1), (5, .pointer (some ⟨g1, 0, none⟩)), (12, .pointer (some ⟨g6, 0, none⟩)), (71, .slice (some ⟨g7, 0, none⟩) 2 2), (72, .int .i64 2), (73, .int .i64 1), (93, .int .i64 (I64 ((I64 ((I64 (0 + (t17.length : Int))) + 0)) + 0))), (94, .pointer (some ⟨g6, 0, none⟩)), (97, .pointer (some ⟨g6, 0, none⟩)), (99, .int .i64 a2.xN)]) (by kernel_rfl) (by kernel_rfl) (by kernel_rfl) (Ext.refl _) (by kernel_rfl) (by kernel_rfl) ?_
              obtain ⟨t20, hx24, hm⟩ := bind_some hm
              obtain rfl : 0 = t20 := Option.some.inj (show some 0 = some t20 from hx24)
              refine tt_call 18 95 20 #[.pointer (some ⟨g6, 0, none⟩)] (.int .i64 0) [1] [1, 0, 2, 3, 4, 5] (by kernel_rfl) (by kernel_rfl) (by kernel_rfl) (fun B' hx' G' w hs => post_same (rbuf_Buffer_Out_3_ok (⟨0, 0, 0, false⟩ : T_rbuf_Buffer_o2) 0 hx24 _ _ g6 w (St.cast (by kernel_rfl) hs))) (by kernel_rfl) (Ext.refl _) (by kernel_rfl) (by kernel_rfl) ?_
              refine tt_run [19] [1, 5, 12, 71, 72, 73, 96, 97, 99] [1, 0, 2, 3, 4, 5] 2 (listed' := #[true, true, true, true, true, true, true, true, true, true, true, true, true, true, true, true, true, true, true, true, true, true, true, false, false, false, false, false, false, false, false, false]) (l := []) .nil (E' := [(1, .int .u32 a1), (5, .pointer (some ⟨g1, 0, none⟩)), (12, .pointer (some ⟨g6, 0, none⟩)), (71, .slice (some ⟨g7, 0, none⟩) 2 2), (72, .int .i64 2), (73, .int .i64 1), (96, .int .i64 (I64 ((I64 ((I64 ((I64 (0 + (t17.length : Int))) + 0)) + 0)) + 0))), (97, .pointer (some ⟨g6, 0, none⟩)), (99, .int .i64 a2.xN)]) (by kernel_rfl) (by kernel_rfl) (by kernel_rfl) (Ext.refl _) (by kernel_rfl) (by kernel_rfl) ?_
              obtain ⟨t21, hx25, hm⟩ := bind_some hm
              refine tt_stp 23 [1, 0, 2, 3, 4, 5] (Ext.refl _) (by kernel_rfl) (by kernel_rfl) (by kernel_rfl) (by kernel_rfl) ?_
              refine s_call 100 23 #[.pointer (some ⟨g6, 0, none⟩), .int .i64 a2.xN] [0] [1, 2, 3, 4, 5] (by kernel_rfl) (by kernel_rfl) (fun w hs => rbuf_Buffer_Blocks_2_ok (⟨0, 0, 0, false⟩ : T_rbuf_Buffer_o2) a2.xN t21 hx25 B3 _ g6 w (St.cast (by kernel_rfl) hs)) (fun x hx => ?_)
              obtain ⟨A10, c10⟩ := x
              have hs8 := hx
              refine t_L (L' := [.blk g6 [.pointer none, .slice none 0 0, .int .i64 0, .int .i64 0, .int .u32 0, .bool false] 50, .blk g7 [.pointer none, .pointer (some ⟨g6, 0, none⟩)] 25, .blk g4 [.int .i64 t2.1.xRoom, .int .u32 t2.1.xNext, .slice A4 t2.1.xIn.length c4, .slice A5 t2.1.xCame.length c5, .slice A6 t2.1.xOut.length c6, .int .u32 t2.1.xLast, .bool t2.1.xHas] 42, .own A5 t2.1.xCame.length c5 (rowOf encB t2.1.xCame) 1 4, .own A6 t2.1.xOut.length c6 (rowOf (encI .u8) t2.1.xOut) 1 5, .blk g1 [.bool a2.xRead, .int .i64 a2.xN, .int .i32 a2.xAhead, .slice A1 a2.xBytes.length c1] 34]) (by kernel_rfl) ?_
              refine tt_run [24] [1, 5, 12, 71, 72, 73, 96, 101] [1, 0, 2, 3, 4, 5] 0 (listed' := #[true, true, true, true, true, true, true, true, true, true, true, true, true, true, true, true, true, true, true, true, true, true, true, true, true, false, false, false, false, false, false, false]) (l := []) .nil (E' := [(1, .int .u32 a1), (5, .pointer (some ⟨g1, 0, none⟩)), (12, .pointer (some ⟨g6, 0, none⟩)), (71, .slice (some ⟨g7, 0, none⟩) 2 2), (72, .int .i64 2), (73, .int .i64 1), (96, .int .i64 (I64 ((I64 ((I64 ((I64 (0 + (t17.length : Int))) + 0)) + 0)) + 0))), (101, .int .i64 (t21.length : Int))]) (by kernel_rfl) (by kernel_rfl) (by kernel_rfl) (Ext.refl _) (by kernel_rfl) (by kernel_rfl) ?_
              refine tt_end [1, 0, 2, 3, 4, 5] (Ext.refl _) (by kernel_rfl) (by kernel_rfl) (by kernel_rfl) ?_
              refine o_run 3 [1, 5, 12, 71, 72, 73, 104] (l := []) .nil (E' := [(1, .int .u32 a1), (5, .pointer (some ⟨g1, 0, none⟩)), (12, .pointer (some ⟨g6, 0, none⟩)), (71, .slice (some ⟨g7, 0, none⟩) 2 2), (72, .int .i64 2), (73, .int .i64 1), (104, .bool ((I64 ((I64 ((I64 ((I64 ((I64 (0 + (t17.length : Int))) + 0)) + 0)) + 0)) + (t21.length : Int))) != 0))]) (by kernel_rfl) ?_
              refine o_split 104 ((I64 ((I64 ((I64 ((I64 ((I64 (0 + (t17.length : Int))) + 0)) + 0)) + 0)) + (t21.length : Int))) != 0) (by kernel_rfl) (fun hb8 => ?_) (fun hb8 => ?_)
              · replace hm := ite_t hb8 hm
                refine o_run 4 [1, 5, 71, 72, 73, 108] (l := []) .nil (E' := [(1, .int .u32 a1), (5, .pointer (some ⟨g1, 0, none⟩)), (71, .slice (some ⟨g7, 0, none⟩) 2 2), (72, .int .i64 2), (73, .int .i64 1), (108, .bool true)]) (by kernel_rfl) ?_
                refine o_end (by kernel_rfl) ?_
                refine e_seq ?_
                refine w_cond_t (.tmp 108) 129638 129639 (by kernel_rfl) (by kernel_rfl) ?_
                refine w_seq 259276 259277 (by kernel_rfl) ?_
                refine w_region (by kernel_rfl) ?_
                refine o_run 1 [6] (l := []) .nil (E' := [(6, .bool false)]) (by kernel_rfl) ?_
                refine o_end (by kernel_rfl) ?_
                refine e_seq ?_
                refine w_ret (by kernel_rfl) ?_
                obtain rfl := Option.some.inj hm
                replace hm := brk_inl ho2
                obtain rfl := Option.some.inj hm
                exact e_retP B3 (.bool false) [] (by kernel_rfl) (by kernel_rfl) rfl (by kernel_rfl) (by kernel_rfl) hx7
              · replace hm := ite_f hb8 hm
                refine o_run 1 [1, 5, 71, 72, 73, 104, 105] (l := []) .nil (E' := [(1, .int .u32 a1), (5, .pointer (some ⟨g1, 0, none⟩)), (71, .slice (some ⟨g7, 0, none⟩) 2 2), (72, .int .i64 2), (73, .int .i64 1), (104, .bool false), (105, .pointer (some ⟨g6, 0, none⟩))]) (by kernel_rfl) ?_
                obtain ⟨t22, hx26, hm⟩ := bind_some hm
                obtain rfl : 0 = t22 := Option.some.inj (show some 0 = some t22 from hx26)
                refine o_stp ?_ (by kernel_rfl)
                refine s_call 106 13 #[.pointer (some ⟨g6, 0, none⟩)] [0] [1, 2, 3, 4, 5] (by kernel_rfl) (by kernel_rfl) (fun w hs => rbuf_Buffer_Next_3_ok (⟨0, 0, 0, false⟩ : T_rbuf_Buffer_o2) 0 hx26 B3 _ g6 w (St.cast (by kernel_rfl) hs)) (fun _ hx => ?_)
                refine t_L (L' := [.blk g6 [.pointer none, .slice none 0 0, .int .i64 0, .int .i64 0, .int .u32 0, .bool false] 50, .blk g7 [.pointer none, .pointer (some ⟨g6, 0, none⟩)] 25, .blk g4 [.int .i64 t2.1.xRoom, .int .u32 t2.1.xNext, .slice A4 t2.1.xIn.length c4, .slice A5 t2.1.xCame.length c5, .slice A6 t2.1.xOut.length c6, .int .u32 t2.1.xLast, .bool t2.1.xHas] 42, .own A5 t2.1.xCame.length c5 (rowOf encB t2.1.xCame) 1 4, .own A6 t2.1.xOut.length c6 (rowOf (encI .u8) t2.1.xOut) 1 5, .blk g1 [.bool a2.xRead, .int .i64 a2.xN, .int .i32 a2.xAhead, .slice A1 a2.xBytes.length c1] 34]) (by kernel_rfl) ?_
                refine o_run 2 [1, 5, 71, 72, 73, 108] (l := []) .nil (E' := [(1, .int .u32 a1), (5, .pointer (some ⟨g1, 0, none⟩)), (71, .slice (some ⟨g7, 0, none⟩) 2 2), (72, .int .i64 2), (73, .int .i64 1), (108, .bool false)]) (by kernel_rfl) ?_
                refine o_end (by kernel_rfl) ?_
                refine e_seq ?_
                refine w_cond_f (.tmp 108) 129638 129639 (by kernel_rfl) (by kernel_rfl) ?_
                refine w_skip (by kernel_rfl) ?_
                refine e_blk ?_
                refine e_seq ?_
                refine w_region (by kernel_rfl) ?_
                refine o_run 2 [1, 5, 71, 72, 73] (l := []) .nil (E' := [(1, .int .u32 a1), (5, .pointer (some ⟨g1, 0, none⟩)), (71, .slice (some ⟨g7, 0, none⟩) 2 2), (72, .int .i64 2), (73, .int .i64 2)]) (by kernel_rfl) ?_
                refine o_end (by kernel_rfl) ?_
                refine t_drop [1, 0, 2, 3, 4, 5] (by kernel_rfl) ?_
                refine t_L (L' := [.blk g7 [.pointer none, .pointer (some ⟨g6, 0, none⟩)] 25, .blk g6 [.pointer none, .slice none 0 0, .int .i64 0, .int .i64 0, .int .u32 0, .bool false] 50, .blk g4 [.int .i64 t2.1.xRoom, .int .u32 t2.1.xNext, .slice A4 t2.1.xIn.length c4, .slice A5 t2.1.xCame.length c5, .slice A6 t2.1.xOut.length c6, .int .u32 t2.1.xLast, .bool t2.1.xHas] 42, .own A5 t2.1.xCame.length c5 (rowOf encB t2.1.xCame) 1 4, .own A6 t2.1.xOut.length c6 (rowOf (encI .u8) t2.1.xOut) 1 5, .blk g1 [.bool a2.xRead, .int .i64 a2.xN, .int .i32 a2.xAhead, .slice A1 a2.xBytes.length c1] 34]) (by kernel_rfl) ?_
                refine t_env [1, 5, 71, 72, 73] (E' := [(1, .int .u32 a1), (5, .pointer (some ⟨g1, 0, none⟩)), (71, .slice (some ⟨g7, 0, none⟩) 2 2), (72, .int .i64 2), (73, .int .i64 2)]) (by kernel_rfl) ?_
                exact e_inv (fun a w ha hw => ⟨0, by decide, (.inr (.inr ⟨rfl, hm, ha, hw⟩))⟩)
            · refine wc_of (E := [(1, .int .u32 a1), (5, .pointer (some ⟨g1, 0, none⟩)), (71, .slice (some ⟨g7, 0, none⟩) 2 2), (72, .int .i64 2), (73, .int .i64 2)]) (B := B3) (G := G) (L := [.blk g7 [.pointer none, .pointer (some ⟨g6, 0, none⟩)] 25, .blk g6 [.pointer none, .slice none 0 0, .int .i64 0, .int .i64 0, .int .u32 0, .bool false] 50, .blk g4 [.int .i64 t2.1.xRoom, .int .u32 t2.1.xNext, .slice A4 t2.1.xIn.length c4, .slice A5 t2.1.xCame.length c5, .slice A6 t2.1.xOut.length c6, .int .u32 t2.1.xLast, .bool t2.1.xHas] 42, .own A5 t2.1.xCame.length c5 (rowOf encB t2.1.xCame) 1 4, .own A6 t2.1.xOut.length c6 (rowOf (encI .u8) t2.1.xOut) 1 5, .blk g1 [.bool a2.xRead, .int .i64 a2.xN, .int .i32 a2.xAhead, .slice A1 a2.xBytes.length c1] 34]) ?_ ha hw
              refine w_seq 2024 2025 (by kernel_rfl) ?_
              refine w_region (by kernel_rfl) ?_
              refine o_run 1 [1, 5, 71, 72, 73, 74] (l := []) .nil (E' := [(1, .int .u32 a1), (5, .pointer (some ⟨g1, 0, none⟩)), (71, .slice (some ⟨g7, 0, none⟩) 2 2), (72, .int .i64 2), (73, .int .i64 2), (74, .bool false)]) (by kernel_rfl) ?_
              refine o_end (by kernel_rfl) ?_
              refine e_seq ?_
              refine w_seq 4050 4051 (by kernel_rfl) ?_
              refine w_cond_f (.tmp 74) 8100 8101 (by kernel_rfl) (by kernel_rfl) ?_
              refine w_exit 0 (by kernel_rfl) ?_
              refine e_x_seq ?_
              refine e_x_inv ?_
              refine e_x_here ?_
              refine t_drop [0, 1, 2, 3, 4, 5] (by kernel_rfl) ?_
              refine t_L (L' := [.blk g7 [.pointer none, .pointer (some ⟨g6, 0, none⟩)] 25, .blk g6 [.pointer none, .slice none 0 0, .int .i64 0, .int .i64 0, .int .u32 0, .bool false] 50, .blk g4 [.int .i64 t2.1.xRoom, .int .u32 t2.1.xNext, .slice A4 t2.1.xIn.length c4, .slice A5 t2.1.xCame.length c5, .slice A6 t2.1.xOut.length c6, .int .u32 t2.1.xLast, .bool t2.1.xHas] 42, .own A5 t2.1.xCame.length c5 (rowOf encB t2.1.xCame) 1 4, .own A6 t2.1.xOut.length c6 (rowOf (encI .u8) t2.1.xOut) 1 5, .blk g1 [.bool a2.xRead, .int .i64 a2.xN, .int .i32 a2.xAhead, .slice A1 a2.xBytes.length c1] 34]) (by kernel_rfl) ?_
              refine t_env [] (E' := []) (by kernel_rfl) ?_
              obtain rfl := Option.some.inj hm
              exact e_inv (fun a w ha hw => ⟨rfl, ha, hw⟩)
          · exact fun a w ha hw => .inl ⟨rfl, ht1, ha, hw⟩
  · replace hs2 := hs2 y1 ho1
    refine t_EL (E' := (16, .tuple #[.pointer (some ⟨g2, 0, none⟩), .int .i64 t1.2]) :: [(0, .int .i64 a0), (1, .int .u32 a1), (5, .pointer (some ⟨g1, 0, none⟩)), (14, .int .i64 a0), (15, .int .u32 a1)]) (L' := [.blk g2 [.pointer (some ⟨g3, 0, none⟩), .slice A3 y1.xbytes.length c3, .int .i64 y1.xbegin, .int .i64 y1.xn, .int .u32 y1.xlast, .bool y1.xkept] 50, .blk g3 [.bool y1.xBoard.xmade, .int .u32 y1.xBoard.xfirst, .slice A2 y1.xBoard.xruns.length c2] 76, .own A3 y1.xbytes.length c3 (rowOf (encI .u8) y1.xbytes) 1 5, .blk g1 [.bool a2.xRead, .int .i64 a2.xN, .int .i32 a2.xAhead, .slice A1 a2.xBytes.length c1] 34]) (by rw [ho1]; kernel_rfl) ?_
    refine o_run 5 [0, 1, 5, 7, 8] (l := []) .nil (E' := [(0, .int .i64 a0), (1, .int .u32 a1), (5, .pointer (some ⟨g1, 0, none⟩)), (7, .pointer (some ⟨g2, 0, none⟩)), (8, .int .i64 t1.2)]) (by kernel_rfl) ?_
    refine o_end (by kernel_rfl) ?_
    refine e_seq ?_
    refine w_seq 14 15 (by kernel_rfl) ?_
    refine w_region (by kernel_rfl) ?_
    refine o_run 3 [0, 1, 5, 7, 8, 21, 22] (l := []) .nil (E' := [(0, .int .i64 a0), (1, .int .u32 a1), (5, .pointer (some ⟨g1, 0, none⟩)), (7, .pointer (some ⟨g2, 0, none⟩)), (8, .int .i64 t1.2), (21, .int .i64 (imin a0 9000)), (22, .int .u32 a1)]) (by kernel_rfl) ?_
    obtain ⟨t23, hx27, hm⟩ := bind_some hm
    refine o_stp ?_ (by kernel_rfl)
    refine s_call 23 15 #[.int .i64 (imin a0 9000), .int .u32 a1] [] [0, 1, 2, 3] (by kernel_rfl) (by kernel_rfl) (fun w hs => downhaulref26_New_ok (imin a0 9000) a1 t23 hx27 B _ w (St.cast (by kernel_rfl) hs)) (fun x hx => ?_)
    obtain ⟨A11, c11, A12, c12, A13, c13⟩ := x
    have hs9 := hx
    refine t_L (L' := [.own A12 t23.1.xCame.length c12 (rowOf encB t23.1.xCame) 1 4, .own A13 t23.1.xOut.length c13 (rowOf (encI .u8) t23.1.xOut) 1 5, .blk g2 [.pointer (some ⟨g3, 0, none⟩), .slice A3 y1.xbytes.length c3, .int .i64 y1.xbegin, .int .i64 y1.xn, .int .u32 y1.xlast, .bool y1.xkept] 50, .blk g3 [.bool y1.xBoard.xmade, .int .u32 y1.xBoard.xfirst, .slice A2 y1.xBoard.xruns.length c2] 76, .own A3 y1.xbytes.length c3 (rowOf (encI .u8) y1.xbytes) 1 5, .blk g1 [.bool a2.xRead, .int .i64 a2.xN, .int .i32 a2.xAhead, .slice A1 a2.xBytes.length c1] 34]) (by kernel_rfl) ?_
    refine o_run 3 [0, 1, 5, 7, 8, 24, 25] (l := []) .nil (E' := [(0, .int .i64 a0), (1, .int .u32 a1), (5, .pointer (some ⟨g1, 0, none⟩)), (7, .pointer (some ⟨g2, 0, none⟩)), (8, .int .i64 t1.2), (24, .agg #[.int .i64 t23.1.xRoom, .int .u32 t23.1.xNext, .slice A11 t23.1.xIn.length c11, .slice A12 t23.1.xCame.length c12, .slice A13 t23.1.xOut.length c13, .int .u32 t23.1.xLast, .bool t23.1.xHas]), (25, .int .i64 t23.2)]) (by kernel_rfl) ?_
    refine o_stp ?_ (by kernel_rfl)
    refine s_new 9 (fun g8 => .pointer (some ⟨g8, 0, none⟩)) [.int .i64 0, .int .u32 0, .slice none 0 0, .slice none 0 0, .slice none 0 0, .int .u32 0, .bool false] 42 (fun _ => by kernel_rfl) (fun g8 => ?_)
    refine o_stp ?_ (by kernel_rfl)
    refine s_store 0 g8 [.int .i64 0, .int .u32 0, .slice none 0 0, .slice none 0 0, .slice none 0 0, .int .u32 0, .bool false] 42 [(0, .int .i64 t23.1.xRoom), (1, .int .u32 t23.1.xNext), (2, .slice A11 t23.1.xIn.length c11), (3, .slice A12 t23.1.xCame.length c12), (4, .slice A13 t23.1.xOut.length c13), (5, .int .u32 t23.1.xLast), (6, .bool t23.1.xHas)] (by kernel_rfl) (by kernel_rfl) (by kernel_rfl) ?_
    refine t_L (L' := [.blk g8 [.int .i64 t23.1.xRoom, .int .u32 t23.1.xNext, .slice A11 t23.1.xIn.length c11, .slice A12 t23.1.xCame.length c12, .slice A13 t23.1.xOut.length c13, .int .u32 t23.1.xLast, .bool t23.1.xHas] 42, .own A12 t23.1.xCame.length c12 (rowOf encB t23.1.xCame) 1 4, .own A13 t23.1.xOut.length c13 (rowOf (encI .u8) t23.1.xOut) 1 5, .blk g2 [.pointer (some ⟨g3, 0, none⟩), .slice A3 y1.xbytes.length c3, .int .i64 y1.xbegin, .int .i64 y1.xn, .int .u32 y1.xlast, .bool y1.xkept] 50, .blk g3 [.bool y1.xBoard.xmade, .int .u32 y1.xBoard.xfirst, .slice A2 y1.xBoard.xruns.length c2] 76, .own A3 y1.xbytes.length c3 (rowOf (encI .u8) y1.xbytes) 1 5, .blk g1 [.bool a2.xRead, .int .i64 a2.xN, .int .i32 a2.xAhead, .slice A1 a2.xBytes.length c1] 34]) (by kernel_rfl) ?_
    refine o_run 1 [0, 1, 5, 7, 8, 10] (l := []) .nil (E' := [(0, .int .i64 a0), (1, .int .u32 a1), (5, .pointer (some ⟨g1, 0, none⟩)), (7, .pointer (some ⟨g2, 0, none⟩)), (8, .int .i64 t1.2), (10, .int .i64 t23.2)]) (by kernel_rfl) ?_
    refine o_end (by kernel_rfl) ?_
    refine e_seq ?_
    refine w_seq 30 31 (by kernel_rfl) ?_
    refine w_seq 60 61 (by kernel_rfl) ?_
    refine w_region (by kernel_rfl) ?_
    refine o_run 4 [0, 1, 5, 7, 8, 10, 29] (l := []) .nil (E' := [(0, .int .i64 a0), (1, .int .u32 a1), (5, .pointer (some ⟨g1, 0, none⟩)), (7, .pointer (some ⟨g2, 0, none⟩)), (8, .int .i64 t1.2), (10, .int .i64 t23.2), (29, .bool (t1.2 != t23.2))]) (by kernel_rfl) ?_
    refine o_split 29 (t1.2 != t23.2) (by kernel_rfl) (fun hb9 => ?_) (fun hb9 => ?_)
    · replace hm := ite_t hb9 hm
      refine o_run 11 [0, 1, 5, 7, 8, 10, 40] (l := []) .nil (E' := [(0, .int .i64 a0), (1, .int .u32 a1), (5, .pointer (some ⟨g1, 0, none⟩)), (7, .pointer (some ⟨g2, 0, none⟩)), (8, .int .i64 t1.2), (10, .int .i64 t23.2), (40, .bool true)]) (by kernel_rfl) ?_
      refine o_end (by kernel_rfl) ?_
      refine e_seq ?_
      refine w_cond_t (.tmp 40) 122 123 (by kernel_rfl) (by kernel_rfl) ?_
      refine w_seq 244 245 (by kernel_rfl) ?_
      refine w_region (by kernel_rfl) ?_
      refine o_run 4 [44] (l := []) .nil (E' := [(44, .bool (t1.2 == t23.2))]) (by kernel_rfl) ?_
      refine o_split 44 (t1.2 == t23.2) (by kernel_rfl) (fun hb10 => ?_) (fun hb10 => ?_)
      · replace hm := ite_t hb10 hm
        obtain ⟨t24, hx28, hm⟩ := bind_some hm
        refine o_stp ?_ (by kernel_rfl)
        refine s_call 45 9 #[] [] [0, 1, 2, 3, 4, 5, 6] (by kernel_rfl) (by kernel_rfl) (fun w hs => downhaullaw26_alive_ok k t24 hx28 B _ w (St.cast (by kernel_rfl) hs)) (fun B6 hx => ?_)
        have hx29 := hx
        refine t_L (L' := [.blk g8 [.int .i64 t23.1.xRoom, .int .u32 t23.1.xNext, .slice A11 t23.1.xIn.length c11, .slice A12 t23.1.xCame.length c12, .slice A13 t23.1.xOut.length c13, .int .u32 t23.1.xLast, .bool t23.1.xHas] 42, .own A12 t23.1.xCame.length c12 (rowOf encB t23.1.xCame) 1 4, .own A13 t23.1.xOut.length c13 (rowOf (encI .u8) t23.1.xOut) 1 5, .blk g2 [.pointer (some ⟨g3, 0, none⟩), .slice A3 y1.xbytes.length c3, .int .i64 y1.xbegin, .int .i64 y1.xn, .int .u32 y1.xlast, .bool y1.xkept] 50, .blk g3 [.bool y1.xBoard.xmade, .int .u32 y1.xBoard.xfirst, .slice A2 y1.xBoard.xruns.length c2] 76, .own A3 y1.xbytes.length c3 (rowOf (encI .u8) y1.xbytes) 1 5, .blk g1 [.bool a2.xRead, .int .i64 a2.xN, .int .i32 a2.xAhead, .slice A1 a2.xBytes.length c1] 34]) (by kernel_rfl) ?_
        refine o_run 2 [6] (l := []) .nil (E' := [(6, .bool t24)]) (by kernel_rfl) ?_
        refine o_end (by kernel_rfl) ?_
        refine e_seq ?_
        refine w_ret (by kernel_rfl) ?_
        obtain rfl := Option.some.inj hm
        exact e_retP B6 (.bool t24) [] (by kernel_rfl) (by kernel_rfl) rfl (by kernel_rfl) (by kernel_rfl) hx29
      · replace hm := ite_f hb10 hm
        refine o_run 3 [6] (l := []) .nil (E' := [(6, .bool false)]) (by kernel_rfl) ?_
        refine o_end (by kernel_rfl) ?_
        refine e_seq ?_
        refine w_ret (by kernel_rfl) ?_
        obtain rfl := Option.some.inj hm
        exact e_retP B (.bool false) [] (by kernel_rfl) (by kernel_rfl) rfl (by kernel_rfl) (by kernel_rfl) (Ext.refl _)
    · replace hm := ite_f hb9 hm
      refine o_run 7 [0, 1, 5, 7, 8, 10, 36] (l := []) .nil (E' := [(0, .int .i64 a0), (1, .int .u32 a1), (5, .pointer (some ⟨g1, 0, none⟩)), (7, .pointer (some ⟨g2, 0, none⟩)), (8, .int .i64 t1.2), (10, .int .i64 t23.2), (36, .bool (!(true == (t23.2 == 0))))]) (by kernel_rfl) ?_
      refine o_split 36 (!(true == (t23.2 == 0))) (by kernel_rfl) (fun hb11 => ?_) (fun hb11 => ?_)
      · replace hm := ite_t hb11 hm
        refine o_run 4 [0, 1, 5, 7, 8, 10, 40] (l := []) .nil (E' := [(0, .int .i64 a0), (1, .int .u32 a1), (5, .pointer (some ⟨g1, 0, none⟩)), (7, .pointer (some ⟨g2, 0, none⟩)), (8, .int .i64 t1.2), (10, .int .i64 t23.2), (40, .bool true)]) (by kernel_rfl) ?_
        refine o_end (by kernel_rfl) ?_
        refine e_seq ?_
        refine w_cond_t (.tmp 40) 122 123 (by kernel_rfl) (by kernel_rfl) ?_
        refine w_seq 244 245 (by kernel_rfl) ?_
        refine w_region (by kernel_rfl) ?_
        refine o_run 4 [44] (l := []) .nil (E' := [(44, .bool (t1.2 == t23.2))]) (by kernel_rfl) ?_
        refine o_split 44 (t1.2 == t23.2) (by kernel_rfl) (fun hb12 => ?_) (fun hb12 => ?_)
        · replace hm := ite_t hb12 hm
          obtain ⟨t25, hx30, hm⟩ := bind_some hm
          refine o_stp ?_ (by kernel_rfl)
          refine s_call 45 9 #[] [] [0, 1, 2, 3, 4, 5, 6] (by kernel_rfl) (by kernel_rfl) (fun w hs => downhaullaw26_alive_ok k t25 hx30 B _ w (St.cast (by kernel_rfl) hs)) (fun B7 hx => ?_)
          have hx31 := hx
          refine t_L (L' := [.blk g8 [.int .i64 t23.1.xRoom, .int .u32 t23.1.xNext, .slice A11 t23.1.xIn.length c11, .slice A12 t23.1.xCame.length c12, .slice A13 t23.1.xOut.length c13, .int .u32 t23.1.xLast, .bool t23.1.xHas] 42, .own A12 t23.1.xCame.length c12 (rowOf encB t23.1.xCame) 1 4, .own A13 t23.1.xOut.length c13 (rowOf (encI .u8) t23.1.xOut) 1 5, .blk g2 [.pointer (some ⟨g3, 0, none⟩), .slice A3 y1.xbytes.length c3, .int .i64 y1.xbegin, .int .i64 y1.xn, .int .u32 y1.xlast, .bool y1.xkept] 50, .blk g3 [.bool y1.xBoard.xmade, .int .u32 y1.xBoard.xfirst, .slice A2 y1.xBoard.xruns.length c2] 76, .own A3 y1.xbytes.length c3 (rowOf (encI .u8) y1.xbytes) 1 5, .blk g1 [.bool a2.xRead, .int .i64 a2.xN, .int .i32 a2.xAhead, .slice A1 a2.xBytes.length c1] 34]) (by kernel_rfl) ?_
          refine o_run 2 [6] (l := []) .nil (E' := [(6, .bool t25)]) (by kernel_rfl) ?_
          refine o_end (by kernel_rfl) ?_
          refine e_seq ?_
          refine w_ret (by kernel_rfl) ?_
          obtain rfl := Option.some.inj hm
          exact e_retP B7 (.bool t25) [] (by kernel_rfl) (by kernel_rfl) rfl (by kernel_rfl) (by kernel_rfl) hx31
        · replace hm := ite_f hb12 hm
          refine o_run 3 [6] (l := []) .nil (E' := [(6, .bool false)]) (by kernel_rfl) ?_
          refine o_end (by kernel_rfl) ?_
          refine e_seq ?_
          refine w_ret (by kernel_rfl) ?_
          obtain rfl := Option.some.inj hm
          exact e_retP B (.bool false) [] (by kernel_rfl) (by kernel_rfl) rfl (by kernel_rfl) (by kernel_rfl) (Ext.refl _)
      · replace hm := ite_f hb11 hm
        refine o_run 1 [0, 1, 5, 7, 8, 10, 36, 37] (l := [(⟨g1, 0, none⟩, .bool a2.xRead), (⟨g1, 1, none⟩, .int .i64 a2.xN), (⟨g1, 2, none⟩, .int .i32 a2.xAhead), (⟨g1, 3, none⟩, .slice A1 a2.xBytes.length c1)]) (.one (at_blk (j := 6) rfl rfl) (.one (at_blk (j := 6) rfl rfl) (.one (at_blk (j := 6) rfl rfl) (.one (at_blk (j := 6) rfl rfl) .nil)))) (E' := [(0, .int .i64 a0), (1, .int .u32 a1), (5, .pointer (some ⟨g1, 0, none⟩)), (7, .pointer (some ⟨g2, 0, none⟩)), (8, .int .i64 t1.2), (10, .int .i64 t23.2), (36, .bool false), (37, .agg #[.bool a2.xRead, .int .i64 a2.xN, .int .i32 a2.xAhead, .slice A1 a2.xBytes.length c1])]) (by kernel_rfl) ?_
        refine o_stp ?_ (by kernel_rfl)
        refine s_new 38 (fun g9 => .slice (some ⟨g9, 0, none⟩) 1 1) [.bool a2.xRead, .int .i64 a2.xN, .int .i32 a2.xAhead, .slice A1 a2.xBytes.length c1] 34 (fun _ => by kernel_rfl) (fun g9 => ?_)
        refine t_frozL kT_downhaullaw26_Step (xs := [a2]) (css := [[.bool a2.xRead, .int .i64 a2.xN, .int .i32 a2.xAhead, .slice A1 a2.xBytes.length c1]]) ⟨⟨A1, c1, hs1, rfl⟩, trivial⟩ rfl (fun B8 hx32 hs10 => ?_)
        obtain ⟨t26, hx33, hm⟩ := bind_some hm
        refine o_stp ?_ (by kernel_rfl)
        refine s_call 39 8 #[.slice (some ⟨g9, 0, none⟩) [a2].length ([a2].length)] [] [0, 1, 2, 3, 4, 5, 6] (by kernel_rfl) (by kernel_rfl) (fun w hs => downhaullaw26_far_ok k [a2] t26 hx33 B8 _ (some ⟨g9, 0, none⟩) ([a2].length) hs10 w (St.cast (by kernel_rfl) hs)) (fun _ hx => ?_)
        refine t_L (L' := [.blk g8 [.int .i64 t23.1.xRoom, .int .u32 t23.1.xNext, .slice A11 t23.1.xIn.length c11, .slice A12 t23.1.xCame.length c12, .slice A13 t23.1.xOut.length c13, .int .u32 t23.1.xLast, .bool t23.1.xHas] 42, .own A12 t23.1.xCame.length c12 (rowOf encB t23.1.xCame) 1 4, .own A13 t23.1.xOut.length c13 (rowOf (encI .u8) t23.1.xOut) 1 5, .blk g2 [.pointer (some ⟨g3, 0, none⟩), .slice A3 y1.xbytes.length c3, .int .i64 y1.xbegin, .int .i64 y1.xn, .int .u32 y1.xlast, .bool y1.xkept] 50, .blk g3 [.bool y1.xBoard.xmade, .int .u32 y1.xBoard.xfirst, .slice A2 y1.xBoard.xruns.length c2] 76, .own A3 y1.xbytes.length c3 (rowOf (encI .u8) y1.xbytes) 1 5, .blk g1 [.bool a2.xRead, .int .i64 a2.xN, .int .i32 a2.xAhead, .slice A1 a2.xBytes.length c1] 34]) (by kernel_rfl) ?_
        refine o_run 1 [0, 1, 5, 7, 8, 10, 40] (l := []) .nil (E' := [(0, .int .i64 a0), (1, .int .u32 a1), (5, .pointer (some ⟨g1, 0, none⟩)), (7, .pointer (some ⟨g2, 0, none⟩)), (8, .int .i64 t1.2), (10, .int .i64 t23.2), (40, .bool t26)]) (by kernel_rfl) ?_
        refine o_end (by kernel_rfl) ?_
        refine e_seq ?_
        refine w_cond (.tmp 40) 122 123 t26 (by kernel_rfl) (by kernel_rfl) (fun hb13 => ?_) (fun hb13 => ?_)
        · replace hm := ite_t hb13 hm
          refine w_seq 244 245 (by kernel_rfl) ?_
          refine w_region (by kernel_rfl) ?_
          refine o_run 4 [44] (l := []) .nil (E' := [(44, .bool (t1.2 == t23.2))]) (by kernel_rfl) ?_
          refine o_split 44 (t1.2 == t23.2) (by kernel_rfl) (fun hb14 => ?_) (fun hb14 => ?_)
          · replace hm := ite_t hb14 hm
            obtain ⟨t27, hx34, hm⟩ := bind_some hm
            refine o_stp ?_ (by kernel_rfl)
            refine s_call 45 9 #[] [] [0, 1, 2, 3, 4, 5, 6] (by kernel_rfl) (by kernel_rfl) (fun w hs => downhaullaw26_alive_ok k t27 hx34 B8 _ w (St.cast (by kernel_rfl) hs)) (fun B9 hx => ?_)
            have hx35 := hx
            refine t_L (L' := [.blk g8 [.int .i64 t23.1.xRoom, .int .u32 t23.1.xNext, .slice A11 t23.1.xIn.length c11, .slice A12 t23.1.xCame.length c12, .slice A13 t23.1.xOut.length c13, .int .u32 t23.1.xLast, .bool t23.1.xHas] 42, .own A12 t23.1.xCame.length c12 (rowOf encB t23.1.xCame) 1 4, .own A13 t23.1.xOut.length c13 (rowOf (encI .u8) t23.1.xOut) 1 5, .blk g2 [.pointer (some ⟨g3, 0, none⟩), .slice A3 y1.xbytes.length c3, .int .i64 y1.xbegin, .int .i64 y1.xn, .int .u32 y1.xlast, .bool y1.xkept] 50, .blk g3 [.bool y1.xBoard.xmade, .int .u32 y1.xBoard.xfirst, .slice A2 y1.xBoard.xruns.length c2] 76, .own A3 y1.xbytes.length c3 (rowOf (encI .u8) y1.xbytes) 1 5, .blk g1 [.bool a2.xRead, .int .i64 a2.xN, .int .i32 a2.xAhead, .slice A1 a2.xBytes.length c1] 34]) (by kernel_rfl) ?_
            refine o_run 2 [6] (l := []) .nil (E' := [(6, .bool t27)]) (by kernel_rfl) ?_
            refine o_end (by kernel_rfl) ?_
            refine e_seq ?_
            refine w_ret (by kernel_rfl) ?_
            obtain rfl := Option.some.inj hm
            exact e_retP B9 (.bool t27) [] (by kernel_rfl) (by kernel_rfl) rfl (by kernel_rfl) (by kernel_rfl) (Ext.trans hx32 hx35)
          · replace hm := ite_f hb14 hm
            refine o_run 3 [6] (l := []) .nil (E' := [(6, .bool false)]) (by kernel_rfl) ?_
            refine o_end (by kernel_rfl) ?_
            refine e_seq ?_
            refine w_ret (by kernel_rfl) ?_
            obtain rfl := Option.some.inj hm
            exact e_retP B8 (.bool false) [] (by kernel_rfl) (by kernel_rfl) rfl (by kernel_rfl) (by kernel_rfl) hx32
        · replace hm := ite_f hb13 hm
          refine w_skip (by kernel_rfl) ?_
          refine e_seq ?_
          refine w_seq 62 63 (by kernel_rfl) ?_
          refine w_seq 124 125 (by kernel_rfl) ?_
          refine w_region (by kernel_rfl) ?_
          refine o_run 4 [0, 1, 5, 7, 49, 50] (l := []) .nil (E' := [(0, .int .i64 a0), (1, .int .u32 a1), (5, .pointer (some ⟨g1, 0, none⟩)), (7, .pointer (some ⟨g2, 0, none⟩)), (49, .bool true), (50, .pointer (some ⟨g2, 0, none⟩))]) (by kernel_rfl) ?_
          obtain ⟨t28, hx36, hm⟩ := bind_some hm
          refine o_stp ?_ (by kernel_rfl)
          refine s_call 51 18 #[.pointer (some ⟨g2, 0, none⟩)] [3, 4, 5] [0, 1, 2, 6] (by kernel_rfl) (by kernel_rfl) (fun w hs => rbuf_Buffer_Window_ok y1 t28 hx36 B8 _ g2 g3 A2 c2 A3 c3 (hs2.up hx32) w (St.cast (by kernel_rfl) hs)) (fun _ hx => ?_)
          refine t_L (L' := [.blk g2 [.pointer (some ⟨g3, 0, none⟩), .slice A3 y1.xbytes.length c3, .int .i64 y1.xbegin, .int .i64 y1.xn, .int .u32 y1.xlast, .bool y1.xkept] 50, .blk g3 [.bool y1.xBoard.xmade, .int .u32 y1.xBoard.xfirst, .slice A2 y1.xBoard.xruns.length c2] 76, .own A3 y1.xbytes.length c3 (rowOf (encI .u8) y1.xbytes) 1 5, .blk g8 [.int .i64 t23.1.xRoom, .int .u32 t23.1.xNext, .slice A11 t23.1.xIn.length c11, .slice A12 t23.1.xCame.length c12, .slice A13 t23.1.xOut.length c13, .int .u32 t23.1.xLast, .bool t23.1.xHas] 42, .own A12 t23.1.xCame.length c12 (rowOf encB t23.1.xCame) 1 4, .own A13 t23.1.xOut.length c13 (rowOf (encI .u8) t23.1.xOut) 1 5, .blk g1 [.bool a2.xRead, .int .i64 a2.xN, .int .i32 a2.xAhead, .slice A1 a2.xBytes.length c1] 34]) (by kernel_rfl) ?_
          refine o_run 3 [1, 5, 7, 49, 54] (l := []) .nil (E' := [(1, .int .u32 a1), (5, .pointer (some ⟨g1, 0, none⟩)), (7, .pointer (some ⟨g2, 0, none⟩)), (49, .bool true), (54, .bool (t28 != a0))]) (by kernel_rfl) ?_
          refine o_split 54 (t28 != a0) (by kernel_rfl) (fun hb15 => ?_) (fun hb15 => ?_)
          · replace hm := ite_t hb15 hm
            refine o_run 14 [1, 5, 68] (l := []) .nil (E' := [(1, .int .u32 a1), (5, .pointer (some ⟨g1, 0, none⟩)), (68, .bool true)]) (by kernel_rfl) ?_
            refine o_end (by kernel_rfl) ?_
            refine e_seq ?_
            refine w_cond_t (.tmp 68) 250 251 (by kernel_rfl) (by kernel_rfl) ?_
            refine w_seq 500 501 (by kernel_rfl) ?_
            refine w_region (by kernel_rfl) ?_
            refine o_run 1 [6] (l := []) .nil (E' := [(6, .bool false)]) (by kernel_rfl) ?_
            refine o_end (by kernel_rfl) ?_
            refine e_seq ?_
            refine w_ret (by kernel_rfl) ?_
            obtain rfl := Option.some.inj hm
            exact e_retP B8 (.bool false) [] (by kernel_rfl) (by kernel_rfl) rfl (by kernel_rfl) (by kernel_rfl) hx32
          · replace hm := ite_f hb15 hm
            refine o_run 1 [1, 5, 7, 49, 54, 55] (l := []) .nil (E' := [(1, .int .u32 a1), (5, .pointer (some ⟨g1, 0, none⟩)), (7, .pointer (some ⟨g2, 0, none⟩)), (49, .bool true), (54, .bool false), (55, .pointer (some ⟨g2, 0, none⟩))]) (by kernel_rfl) ?_
            obtain ⟨t29, hx37, hm⟩ := bind_some hm
            refine o_stp ?_ (by kernel_rfl)
            refine s_call 56 13 #[.pointer (some ⟨g2, 0, none⟩)] [0, 1, 2] [3, 4, 5, 6] (by kernel_rfl) (by kernel_rfl) (fun w hs => rbuf_Buffer_Next_ok y1 t29 hx37 B8 _ g2 g3 A2 c2 A3 c3 (hs2.up hx32) w (St.cast (by kernel_rfl) hs)) (fun _ hx => ?_)
            refine t_L (L' := [.blk g2 [.pointer (some ⟨g3, 0, none⟩), .slice A3 y1.xbytes.length c3, .int .i64 y1.xbegin, .int .i64 y1.xn, .int .u32 y1.xlast, .bool y1.xkept] 50, .blk g3 [.bool y1.xBoard.xmade, .int .u32 y1.xBoard.xfirst, .slice A2 y1.xBoard.xruns.length c2] 76, .own A3 y1.xbytes.length c3 (rowOf (encI .u8) y1.xbytes) 1 5, .blk g8 [.int .i64 t23.1.xRoom, .int .u32 t23.1.xNext, .slice A11 t23.1.xIn.length c11, .slice A12 t23.1.xCame.length c12, .slice A13 t23.1.xOut.length c13, .int .u32 t23.1.xLast, .bool t23.1.xHas] 42, .own A12 t23.1.xCame.length c12 (rowOf encB t23.1.xCame) 1 4, .own A13 t23.1.xOut.length c13 (rowOf (encI .u8) t23.1.xOut) 1 5, .blk g1 [.bool a2.xRead, .int .i64 a2.xN, .int .i32 a2.xAhead, .slice A1 a2.xBytes.length c1] 34]) (by kernel_rfl) ?_
            refine o_run 4 [1, 5, 7, 49, 60] (l := []) .nil (E' := [(1, .int .u32 a1), (5, .pointer (some ⟨g1, 0, none⟩)), (7, .pointer (some ⟨g2, 0, none⟩)), (49, .bool true), (60, .bool (t29 != a1))]) (by kernel_rfl) ?_
            refine o_split 60 (t29 != a1) (by kernel_rfl) (fun hb16 => ?_) (fun hb16 => ?_)
            · replace hm := ite_t hb16 hm
              refine o_run 8 [1, 5, 68] (l := []) .nil (E' := [(1, .int .u32 a1), (5, .pointer (some ⟨g1, 0, none⟩)), (68, .bool true)]) (by kernel_rfl) ?_
              refine o_end (by kernel_rfl) ?_
              refine e_seq ?_
              refine w_cond_t (.tmp 68) 250 251 (by kernel_rfl) (by kernel_rfl) ?_
              refine w_seq 500 501 (by kernel_rfl) ?_
              refine w_region (by kernel_rfl) ?_
              refine o_run 1 [6] (l := []) .nil (E' := [(6, .bool false)]) (by kernel_rfl) ?_
              refine o_end (by kernel_rfl) ?_
              refine e_seq ?_
              refine w_ret (by kernel_rfl) ?_
              obtain rfl := Option.some.inj hm
              exact e_retP B8 (.bool false) [] (by kernel_rfl) (by kernel_rfl) rfl (by kernel_rfl) (by kernel_rfl) hx32
            · replace hm := ite_f hb16 hm
              refine o_run 1 [1, 5, 7, 49, 60, 61] (l := []) .nil (E' := [(1, .int .u32 a1), (5, .pointer (some ⟨g1, 0, none⟩)), (7, .pointer (some ⟨g2, 0, none⟩)), (49, .bool true), (60, .bool false), (61, .pointer (some ⟨g2, 0, none⟩))]) (by kernel_rfl) ?_
              obtain ⟨t30, hx38, hm⟩ := bind_some hm
              refine o_stp ?_ (by kernel_rfl)
              refine s_call 62 14 #[.pointer (some ⟨g2, 0, none⟩)] [0, 1, 2] [3, 4, 5, 6] (by kernel_rfl) (by kernel_rfl) (fun w hs => rbuf_Buffer_Len_ok y1 t30 hx38 B8 _ g2 g3 A2 c2 A3 c3 (hs2.up hx32) w (St.cast (by kernel_rfl) hs)) (fun _ hx => ?_)
              refine t_L (L' := [.blk g2 [.pointer (some ⟨g3, 0, none⟩), .slice A3 y1.xbytes.length c3, .int .i64 y1.xbegin, .int .i64 y1.xn, .int .u32 y1.xlast, .bool y1.xkept] 50, .blk g3 [.bool y1.xBoard.xmade, .int .u32 y1.xBoard.xfirst, .slice A2 y1.xBoard.xruns.length c2] 76, .own A3 y1.xbytes.length c3 (rowOf (encI .u8) y1.xbytes) 1 5, .blk g8 [.int .i64 t23.1.xRoom, .int .u32 t23.1.xNext, .slice A11 t23.1.xIn.length c11, .slice A12 t23.1.xCame.length c12, .slice A13 t23.1.xOut.length c13, .int .u32 t23.1.xLast, .bool t23.1.xHas] 42, .own A12 t23.1.xCame.length c12 (rowOf encB t23.1.xCame) 1 4, .own A13 t23.1.xOut.length c13 (rowOf (encI .u8) t23.1.xOut) 1 5, .blk g1 [.bool a2.xRead, .int .i64 a2.xN, .int .i32 a2.xAhead, .slice A1 a2.xBytes.length c1] 34]) (by kernel_rfl) ?_
              refine o_run 1 [1, 5, 49, 60, 62, 63] (l := []) .nil (E' := [(1, .int .u32 a1), (5, .pointer (some ⟨g1, 0, none⟩)), (49, .bool true), (60, .bool false), (62, .int .i64 t30), (63, .pointer (some ⟨g2, 0, none⟩))]) (by kernel_rfl) ?_
              obtain ⟨t31, hx39, hm⟩ := bind_some hm
              refine o_stp ?_ (by kernel_rfl)
              refine s_call 64 20 #[.pointer (some ⟨g2, 0, none⟩)] [0, 1, 2] [3, 4, 5, 6] (by kernel_rfl) (by kernel_rfl) (fun w hs => rbuf_Buffer_Out_ok k y1 t31 hx39 B8 _ g2 g3 A2 c2 A3 c3 (hs2.up hx32) w (St.cast (by kernel_rfl) hs)) (fun _ hx => ?_)
              refine t_L (L' := [.blk g2 [.pointer (some ⟨g3, 0, none⟩), .slice A3 y1.xbytes.length c3, .int .i64 y1.xbegin, .int .i64 y1.xn, .int .u32 y1.xlast, .bool y1.xkept] 50, .blk g3 [.bool y1.xBoard.xmade, .int .u32 y1.xBoard.xfirst, .slice A2 y1.xBoard.xruns.length c2] 76, .own A3 y1.xbytes.length c3 (rowOf (encI .u8) y1.xbytes) 1 5, .blk g8 [.int .i64 t23.1.xRoom, .int .u32 t23.1.xNext, .slice A11 t23.1.xIn.length c11, .slice A12 t23.1.xCame.length c12, .slice A13 t23.1.xOut.length c13, .int .u32 t23.1.xLast, .bool t23.1.xHas] 42, .own A12 t23.1.xCame.length c12 (rowOf encB t23.1.xCame) 1 4, .own A13 t23.1.xOut.length c13 (rowOf (encI .u8) t23.1.xOut) 1 5, .blk g1 [.bool a2.xRead, .int .i64 a2.xN, .int .i32 a2.xAhead, .slice A1 a2.xBytes.length c1] 34]) (by kernel_rfl) ?_
              refine o_run 4 [1, 5, 68] (l := []) .nil (E' := [(1, .int .u32 a1), (5, .pointer (some ⟨g1, 0, none⟩)), (68, .bool ((I64 (t30 + t31)) != 0))]) (by kernel_rfl) ?_
              refine o_end (by kernel_rfl) ?_
              refine e_seq ?_
              refine w_cond (.tmp 68) 250 251 ((I64 (t30 + t31)) != 0) (by kernel_rfl) (by kernel_rfl) (fun hb17 => ?_) (fun hb17 => ?_)
              · replace hm := ite_t hb17 hm
                refine w_seq 500 501 (by kernel_rfl) ?_
                refine w_region (by kernel_rfl) ?_
                refine o_run 1 [6] (l := []) .nil (E' := [(6, .bool false)]) (by kernel_rfl) ?_
                refine o_end (by kernel_rfl) ?_
                refine e_seq ?_
                refine w_ret (by kernel_rfl) ?_
                obtain rfl := Option.some.inj hm
                exact e_retP B8 (.bool false) [] (by kernel_rfl) (by kernel_rfl) rfl (by kernel_rfl) (by kernel_rfl) hx32
              · replace hm := ite_f hb17 hm
                refine w_skip (by kernel_rfl) ?_
                refine e_seq ?_
                refine w_seq 126 127 (by kernel_rfl) ?_
                refine w_seq 252 253 (by kernel_rfl) ?_
                refine w_region (by kernel_rfl) ?_
                refine o_run 1 [1, 5, 69] (l := []) .nil (E' := [(1, .int .u32 a1), (5, .pointer (some ⟨g1, 0, none⟩)), (69, .agg #[.pointer none, .slice none 0 0, .int .i64 0, .int .i64 0, .int .u32 0, .bool false])]) (by kernel_rfl) ?_
                refine o_stp ?_ (by kernel_rfl)
                refine s_new 70 (fun g10 => .pointer (some ⟨g10, 0, none⟩)) [.pointer none, .slice none 0 0, .int .i64 0, .int .i64 0, .int .u32 0, .bool false] 50 (fun _ => by kernel_rfl) (fun g10 => ?_)
                refine o_stp ?_ (by kernel_rfl)
                refine s_new 71 (fun g11 => .slice (some ⟨g11, 0, none⟩) 2 2) [.pointer none, .pointer (some ⟨g10, 0, none⟩)] 25 (fun _ => by kernel_rfl) (fun g11 => ?_)
                refine o_run 2 [1, 5, 71, 72, 73] (l := []) .nil (E' := [(1, .int .u32 a1), (5, .pointer (some ⟨g1, 0, none⟩)), (71, .slice (some ⟨g11, 0, none⟩) 2 2), (72, .int .i64 2), (73, .int .i64 0)]) (by kernel_rfl) ?_
                refine o_end (by kernel_rfl) ?_
                refine e_seq ?_
                refine w_block 0 506 (by kernel_rfl) ?_
                obtain ⟨t32, ht2, ho3⟩ := bind_some hm
                refine t_env [1, 5, 71, 72, 73] (E' := [(1, .int .u32 a1), (5, .pointer (some ⟨g1, 0, none⟩)), (71, .slice (some ⟨g11, 0, none⟩) 2 2), (72, .int .i64 2), (73, .int .i64 0)]) (by kernel_rfl) ?_
                refine w_loopJ 1012 0 (fun kk a w => (kk = 2 ∧ ((rbuf_Buffer_Insert_2.f a1 a2.xBytes).bind fun t34 => ((rbuf_Buffer_Read_2.f a2.xN).bind fun t35 => (rbuf_Buffer_Window_2.f.bind fun t36 => (rbuf_Buffer_Len_2.f.bind fun t37 => (rbuf_Buffer_Out_2.f.bind fun t38 => ((rbuf_Buffer_Blocks.f a2.xN).bind fun t39 => (if (I64 ((I64 ((I64 ((I64 ((I64 (0 + (t35.length : Int))) + 0)) + 0)) + 0)) + (t39.length : Int))) != 0 then (some (.inl false)) else (rbuf_Buffer_Next_2.f.bind fun t40 => ((rbuf_Buffer_Insert_3.f (⟨0, 0, 0, false⟩ : T_rbuf_Buffer_o2) a1 a2.xBytes).bind fun t41 => ((rbuf_Buffer_Read_3.f k (⟨0, 0, 0, false⟩ : T_rbuf_Buffer_o2) a2.xN).bind fun t42 => ((rbuf_Buffer_Window_3.f (⟨0, 0, 0, false⟩ : T_rbuf_Buffer_o2)).bind fun t43 => ((rbuf_Buffer_Len_3.f (⟨0, 0, 0, false⟩ : T_rbuf_Buffer_o2)).bind fun t44 => ((rbuf_Buffer_Out_3.f (⟨0, 0, 0, false⟩ : T_rbuf_Buffer_o2)).bind fun t45 => ((rbuf_Buffer_Blocks_2.f (⟨0, 0, 0, false⟩ : T_rbuf_Buffer_o2) a2.xN).bind fun t46 => (if (I64 ((I64 ((I64 ((I64 ((I64 (0 + (t42.length : Int))) + 0)) + 0)) + 0)) + (t46.length : Int))) != 0 then (some (.inl false)) else ((rbuf_Buffer_Next_3.f (⟨0, 0, 0, false⟩ : T_rbuf_Buffer_o2)).bind fun t47 => (some (.inr ())))))))))))))))))) = some t32 ∧ EnvOk [(1, .int .u32 a1), (5, .pointer (some ⟨g1, 0, none⟩)), (71, .slice (some ⟨g11, 0, none⟩) 2 2), (72, .int .i64 2), (73, .int .i64 0)] Try.f5.ntmps a ∧ St B8 G [.blk g11 [.pointer none, .pointer (some ⟨g10, 0, none⟩)] 25, .blk g10 [.pointer none, .slice none 0 0, .int .i64 0, .int .i64 0, .int .u32 0, .bool false] 50, .blk g2 [.pointer (some ⟨g3, 0, none⟩), .slice A3 y1.xbytes.length c3, .int .i64 y1.xbegin, .int .i64 y1.xn, .int .u32 y1.xlast, .bool y1.xkept] 50, .blk g3 [.bool y1.xBoard.xmade, .int .u32 y1.xBoard.xfirst, .slice A2 y1.xBoard.xruns.length c2] 76, .own A3 y1.xbytes.length c3 (rowOf (encI .u8) y1.xbytes) 1 5, .blk g8 [.int .i64 t23.1.xRoom, .int .u32 t23.1.xNext, .slice A11 t23.1.xIn.length c11, .slice A12 t23.1.xCame.length c12, .slice A13 t23.1.xOut.length c13, .int .u32 t23.1.xLast, .bool t23.1.xHas] 42, .own A12 t23.1.xCame.length c12 (rowOf encB t23.1.xCame) 1 4, .own A13 t23.1.xOut.length c13 (rowOf (encI .u8) t23.1.xOut) 1 5, .blk g1 [.bool a2.xRead, .int .i64 a2.xN, .int .i32 a2.xAhead, .slice A1 a2.xBytes.length c1] 34] w) ∨ (kk = 1 ∧ ((rbuf_Buffer_Insert_3.f (⟨0, 0, 0, false⟩ : T_rbuf_Buffer_o2) a1 a2.xBytes).bind fun t41 => ((rbuf_Buffer_Read_3.f k (⟨0, 0, 0, false⟩ : T_rbuf_Buffer_o2) a2.xN).bind fun t42 => ((rbuf_Buffer_Window_3.f (⟨0, 0, 0, false⟩ : T_rbuf_Buffer_o2)).bind fun t43 => ((rbuf_Buffer_Len_3.f (⟨0, 0, 0, false⟩ : T_rbuf_Buffer_o2)).bind fun t44 => ((rbuf_Buffer_Out_3.f (⟨0, 0, 0, false⟩ : T_rbuf_Buffer_o2)).bind fun t45 => ((rbuf_Buffer_Blocks_2.f (⟨0, 0, 0, false⟩ : T_rbuf_Buffer_o2) a2.xN).bind fun t46 => (if (I64 ((I64 ((I64 ((I64 ((I64 (0 + (t42.length : Int))) + 0)) + 0)) + 0)) + (t46.length : Int))) != 0 then (some (.inl false)) else ((rbuf_Buffer_Next_3.f (⟨0, 0, 0, false⟩ : T_rbuf_Buffer_o2)).bind fun t47 => (some (.inr ())))))))))) = some t32 ∧ EnvOk [(1, .int .u32 a1), (5, .pointer (some ⟨g1, 0, none⟩)), (71, .slice (some ⟨g11, 0, none⟩) 2 2), (72, .int .i64 2), (73, .int .i64 1)] Try.f5.ntmps a ∧ St B8 G [.blk g11 [.pointer none, .pointer (some ⟨g10, 0, none⟩)] 25, .blk g10 [.pointer none, .slice none 0 0, .int .i64 0, .int .i64 0, .int .u32 0, .bool false] 50, .blk g2 [.pointer (some ⟨g3, 0, none⟩), .slice A3 y1.xbytes.length c3, .int .i64 y1.xbegin, .int .i64 y1.xn, .int .u32 y1.xlast, .bool y1.xkept] 50, .blk g3 [.bool y1.xBoard.xmade, .int .u32 y1.xBoard.xfirst, .slice A2 y1.xBoard.xruns.length c2] 76, .own A3 y1.xbytes.length c3 (rowOf (encI .u8) y1.xbytes) 1 5, .blk g8 [.int .i64 t23.1.xRoom, .int .u32 t23.1.xNext, .slice A11 t23.1.xIn.length c11, .slice A12 t23.1.xCame.length c12, .slice A13 t23.1.xOut.length c13, .int .u32 t23.1.xLast, .bool t23.1.xHas] 42, .own A12 t23.1.xCame.length c12 (rowOf encB t23.1.xCame) 1 4, .own A13 t23.1.xOut.length c13 (rowOf (encI .u8) t23.1.xOut) 1 5, .blk g1 [.bool a2.xRead, .int .i64 a2.xN, .int .i32 a2.xAhead, .slice A1 a2.xBytes.length c1] 34] w) ∨ (kk = 0 ∧ (some (.inr ())) = some t32 ∧ EnvOk [(1, .int .u32 a1), (5, .pointer (some ⟨g1, 0, none⟩)), (71, .slice (some ⟨g11, 0, none⟩) 2 2), (72, .int .i64 2), (73, .int .i64 2)] Try.f5.ntmps a ∧ St B8 G [.blk g11 [.pointer none, .pointer (some ⟨g10, 0, none⟩)] 25, .blk g10 [.pointer none, .slice none 0 0, .int .i64 0, .int .i64 0, .int .u32 0, .bool false] 50, .blk g2 [.pointer (some ⟨g3, 0, none⟩), .slice A3 y1.xbytes.length c3, .int .i64 y1.xbegin, .int .i64 y1.xn, .int .u32 y1.xlast, .bool y1.xkept] 50, .blk g3 [.bool y1.xBoard.xmade, .int .u32 y1.xBoard.xfirst, .slice A2 y1.xBoard.xruns.length c2] 76, .own A3 y1.xbytes.length c3 (rowOf (encI .u8) y1.xbytes) 1 5, .blk g8 [.int .i64 t23.1.xRoom, .int .u32 t23.1.xNext, .slice A11 t23.1.xIn.length c11, .slice A12 t23.1.xCame.length c12, .slice A13 t23.1.xOut.length c13, .int .u32 t23.1.xLast, .bool t23.1.xHas] 42, .own A12 t23.1.xCame.length c12 (rowOf encB t23.1.xCame) 1 4, .own A13 t23.1.xOut.length c13 (rowOf (encI .u8) t23.1.xOut) 1 5, .blk g1 [.bool a2.xRead, .int .i64 a2.xN, .int .i32 a2.xAhead, .slice A1 a2.xBytes.length c1] 34] w)) (fun a w => t32 = .inr () ∧ EnvOk [] Try.f5.ntmps a ∧ St B8 G [.blk g11 [.pointer none, .pointer (some ⟨g10, 0, none⟩)] 25, .blk g10 [.pointer none, .slice none 0 0, .int .i64 0, .int .i64 0, .int .u32 0, .bool false] 50, .blk g2 [.pointer (some ⟨g3, 0, none⟩), .slice A3 y1.xbytes.length c3, .int .i64 y1.xbegin, .int .i64 y1.xn, .int .u32 y1.xlast, .bool y1.xkept] 50, .blk g3 [.bool y1.xBoard.xmade, .int .u32 y1.xBoard.xfirst, .slice A2 y1.xBoard.xruns.length c2] 76, .own A3 y1.xbytes.length c3 (rowOf (encI .u8) y1.xbytes) 1 5, .blk g8 [.int .i64 t23.1.xRoom, .int .u32 t23.1.xNext, .slice A11 t23.1.xIn.length c11, .slice A12 t23.1.xCame.length c12, .slice A13 t23.1.xOut.length c13, .int .u32 t23.1.xLast, .bool t23.1.xHas] 42, .own A12 t23.1.xCame.length c12 (rowOf encB t23.1.xCame) 1 4, .own A13 t23.1.xOut.length c13 (rowOf (encI .u8) t23.1.xOut) 1 5, .blk g1 [.bool a2.xRead, .int .i64 a2.xN, .int .i32 a2.xAhead, .slice A1 a2.xBytes.length c1] 34] w) (by kernel_rfl) ?_ ?_ 2 ?_
                · rintro a w ⟨hu, ha, hw⟩
                  refine we_of (E := []) (B := B8) (G := G) (L := [.blk g11 [.pointer none, .pointer (some ⟨g10, 0, none⟩)] 25, .blk g10 [.pointer none, .slice none 0 0, .int .i64 0, .int .i64 0, .int .u32 0, .bool false] 50, .blk g2 [.pointer (some ⟨g3, 0, none⟩), .slice A3 y1.xbytes.length c3, .int .i64 y1.xbegin, .int .i64 y1.xn, .int .u32 y1.xlast, .bool y1.xkept] 50, .blk g3 [.bool y1.xBoard.xmade, .int .u32 y1.xBoard.xfirst, .slice A2 y1.xBoard.xruns.length c2] 76, .own A3 y1.xbytes.length c3 (rowOf (encI .u8) y1.xbytes) 1 5, .blk g8 [.int .i64 t23.1.xRoom, .int .u32 t23.1.xNext, .slice A11 t23.1.xIn.length c11, .slice A12 t23.1.xCame.length c12, .slice A13 t23.1.xOut.length c13, .int .u32 t23.1.xLast, .bool t23.1.xHas] 42, .own A12 t23.1.xCame.length c12 (rowOf encB t23.1.xCame) 1 4, .own A13 t23.1.xOut.length c13 (rowOf (encI .u8) t23.1.xOut) 1 5, .blk g1 [.bool a2.xRead, .int .i64 a2.xN, .int .i32 a2.xAhead, .slice A1 a2.xBytes.length c1] 34]) ?_ ha hw
                  subst hu
                  replace hm := brk_inr ho3
                  refine e_seq ?_
                  refine w_seq 254 255 (by kernel_rfl) ?_
                  refine w_region (by kernel_rfl) ?_
                  obtain ⟨t33, hx40, hm⟩ := bind_some hm
                  refine o_stp ?_ (by kernel_rfl)
                  refine s_call 110 9 #[] [] [0, 1, 2, 3, 4, 5, 6, 7, 8] (by kernel_rfl) (by kernel_rfl) (fun w hs => downhaullaw26_alive_ok k t33 hx40 B8 _ w (St.cast (by kernel_rfl) hs)) (fun B10 hx => ?_)
                  have hx41 := hx
                  refine t_L (L' := [.blk g11 [.pointer none, .pointer (some ⟨g10, 0, none⟩)] 25, .blk g10 [.pointer none, .slice none 0 0, .int .i64 0, .int .i64 0, .int .u32 0, .bool false] 50, .blk g2 [.pointer (some ⟨g3, 0, none⟩), .slice A3 y1.xbytes.length c3, .int .i64 y1.xbegin, .int .i64 y1.xn, .int .u32 y1.xlast, .bool y1.xkept] 50, .blk g3 [.bool y1.xBoard.xmade, .int .u32 y1.xBoard.xfirst, .slice A2 y1.xBoard.xruns.length c2] 76, .own A3 y1.xbytes.length c3 (rowOf (encI .u8) y1.xbytes) 1 5, .blk g8 [.int .i64 t23.1.xRoom, .int .u32 t23.1.xNext, .slice A11 t23.1.xIn.length c11, .slice A12 t23.1.xCame.length c12, .slice A13 t23.1.xOut.length c13, .int .u32 t23.1.xLast, .bool t23.1.xHas] 42, .own A12 t23.1.xCame.length c12 (rowOf encB t23.1.xCame) 1 4, .own A13 t23.1.xOut.length c13 (rowOf (encI .u8) t23.1.xOut) 1 5, .blk g1 [.bool a2.xRead, .int .i64 a2.xN, .int .i32 a2.xAhead, .slice A1 a2.xBytes.length c1] 34]) (by kernel_rfl) ?_
                  refine o_run 1 [6] (l := []) .nil (E' := [(6, .bool t33)]) (by kernel_rfl) ?_
                  refine o_end (by kernel_rfl) ?_
                  refine e_seq ?_
                  refine w_ret (by kernel_rfl) ?_
                  obtain rfl := Option.some.inj hm
                  exact e_retP B10 (.bool t33) [] (by kernel_rfl) (by kernel_rfl) rfl (by kernel_rfl) (by kernel_rfl) (Ext.trans hx32 hx41)
                · rintro kk a w (⟨rfl, hm, ha, hw⟩ | ⟨rfl, hm, ha, hw⟩ | ⟨rfl, hm, ha, hw⟩)
                  · refine wc_of (E := [(1, .int .u32 a1), (5, .pointer (some ⟨g1, 0, none⟩)), (71, .slice (some ⟨g11, 0, none⟩) 2 2), (72, .int .i64 2), (73, .int .i64 0)]) (B := B8) (G := G) (L := [.blk g11 [.pointer none, .pointer (some ⟨g10, 0, none⟩)] 25, .blk g10 [.pointer none, .slice none 0 0, .int .i64 0, .int .i64 0, .int .u32 0, .bool false] 50, .blk g2 [.pointer (some ⟨g3, 0, none⟩), .slice A3 y1.xbytes.length c3, .int .i64 y1.xbegin, .int .i64 y1.xn, .int .u32 y1.xlast, .bool y1.xkept] 50, .blk g3 [.bool y1.xBoard.xmade, .int .u32 y1.xBoard.xfirst, .slice A2 y1.xBoard.xruns.length c2] 76, .own A3 y1.xbytes.length c3 (rowOf (encI .u8) y1.xbytes) 1 5, .blk g8 [.int .i64 t23.1.xRoom, .int .u32 t23.1.xNext, .slice A11 t23.1.xIn.length c11, .slice A12 t23.1.xCame.length c12, .slice A13 t23.1.xOut.length c13, .int .u32 t23.1.xLast, .bool t23.1.xHas] 42, .own A12 t23.1.xCame.length c12 (rowOf encB t23.1.xCame) 1 4, .own A13 t23.1.xOut.length c13 (rowOf (encI .u8) t23.1.xOut) 1 5, .blk g1 [.bool a2.xRead, .int .i64 a2.xN, .int .i32 a2.xAhead, .slice A1 a2.xBytes.length c1] 34]) ?_ ha hw
                    refine w_seq 2024 2025 (by kernel_rfl) ?_
                    refine w_region (by kernel_rfl) ?_
                    refine o_run 1 [1, 5, 71, 72, 73, 74] (l := []) .nil (E' := [(1, .int .u32 a1), (5, .pointer (some ⟨g1, 0, none⟩)), (71, .slice (some ⟨g11, 0, none⟩) 2 2), (72, .int .i64 2), (73, .int .i64 0), (74, .bool true)]) (by kernel_rfl) ?_
                    refine o_end (by kernel_rfl) ?_
                    refine e_seq ?_
                    refine w_seq 4050 4051 (by kernel_rfl) ?_
                    refine w_cond_t (.tmp 74) 8100 8101 (by kernel_rfl) (by kernel_rfl) ?_
                    refine w_skip (by kernel_rfl) ?_
                    refine e_seq ?_
                    refine w_seq 8102 8103 (by kernel_rfl) ?_
                    refine w_block 1 16204 (by kernel_rfl) ?_
                    refine w_seq 32408 32409 (by kernel_rfl) ?_
                    refine w_region (by kernel_rfl) ?_
                    refine o_val 75 (.indexAddr 51 (.tmp 71) (.tmp 73)) (.pointer (some ⟨g11, 0, none⟩)) (by kernel_rfl) (v_index (A := some ⟨g11, 0, none⟩) (sz := 1) (k := .i64) (j := 0) (m := 2) (c := 2) (by kernel_rfl) (by kernel_rfl) (by kernel_rfl) (by decide) (by decide) (fun _ _ => rfl)) ?_
                    refine o_run 2 [1, 5, 12, 71, 72, 73] (l := [(⟨g11, 0, none⟩, .pointer none)]) (.one (at_blk (j := 0) rfl rfl) .nil) (E' := [(1, .int .u32 a1), (5, .pointer (some ⟨g1, 0, none⟩)), (12, .pointer none), (71, .slice (some ⟨g11, 0, none⟩) 2 2), (72, .int .i64 2), (73, .int .i64 0)]) (by kernel_rfl) ?_
                    refine o_end (by kernel_rfl) ?_
                    refine e_seq ?_
                    refine w_seq 64818 64819 (by kernel_rfl) ?_
                    refine w_tail 25 [.blk g11 [.pointer none, .pointer (some ⟨g10, 0, none⟩)] 25, .blk g10 [.pointer none, .slice none 0 0, .int .i64 0, .int .i64 0, .int .u32 0, .bool false] 50, .blk g2 [.pointer (some ⟨g3, 0, none⟩), .slice A3 y1.xbytes.length c3, .int .i64 y1.xbegin, .int .i64 y1.xn, .int .u32 y1.xlast, .bool y1.xkept] 50, .blk g3 [.bool y1.xBoard.xmade, .int .u32 y1.xBoard.xfirst, .slice A2 y1.xBoard.xruns.length c2] 76, .own A3 y1.xbytes.length c3 (rowOf (encI .u8) y1.xbytes) 1 5, .blk g8 [.int .i64 t23.1.xRoom, .int .u32 t23.1.xNext, .slice A11 t23.1.xIn.length c11, .slice A12 t23.1.xCame.length c12, .slice A13 t23.1.xOut.length c13, .int .u32 t23.1.xLast, .bool t23.1.xHas] 42, .own A12 t23.1.xCame.length c12 (rowOf encB t23.1.xCame) 1 4, .own A13 t23.1.xOut.length c13 (rowOf (encI .u8) t23.1.xOut) 1 5, .blk g1 [.bool a2.xRead, .int .i64 a2.xN, .int .i32 a2.xAhead, .slice A1 a2.xBytes.length c1] 34] (by kernel_rfl) mixed (by kernel_rfl) ?_
                    refine tt_run [0, 1, 2, 3, 5, 6, 7, 11, 14, 17, 20, 21, 22] [1, 5, 12, 71, 72, 73, 77, 78, 80, 82, 84, 88, 91, 94, 97, 99] [0, 1, 2, 3, 4, 5, 6, 7, 8] 12 (listed' := #[true, true, true, true, false, true, true, true, false, false, false, true, false, false, true, false, false, true, false, false, true, true, true, false, false, false, false, false, false, false, false, false]) (l := [(⟨g1, 3, none⟩, .slice A1 a2.xBytes.length c1), (⟨g1, 1, none⟩, .int .i64 a2.xN), (⟨g1, 1, none⟩, .int .i64 a2.xN)]) (.one (at_blk (j := 8) rfl rfl) (.one (at_blk (j := 8) rfl rfl) (.one (at_blk (j := 8) rfl rfl) .nil))) (E' := [(1, .int .u32 a1), (5, .pointer (some ⟨g1, 0, none⟩)), (12, .pointer none), (71, .slice (some ⟨g11, 0, none⟩) 2 2), (72, .int .i64 2), (73, .int .i64 0), (77, .pointer none), (78, .int .u32 a1), (80, .slice A1 a2.xBytes.length c1), (82, .pointer none), (84, .int .i64 a2.xN), (88, .pointer none), (91, .pointer none), (94, .pointer none), (97, .pointer none), (99, .int .i64 a2.xN)]) (by kernel_rfl) (by kernel_rfl) (by kernel_rfl) (Ext.refl _) (by kernel_rfl) (by kernel_rfl) ?_
                    obtain ⟨t34, hx42, hm⟩ := bind_some hm
                    obtain rfl : 0 = t34 := Option.some.inj (show some 0 = some t34 from hx42)
                    refine tt_call 4 81 12 #[.pointer none, .int .u32 a1, .slice A1 a2.xBytes.length c1] (.int .i64 0) [] [0, 1, 2, 3, 4, 5, 6, 7, 8] (by kernel_rfl) (by kernel_rfl) (by kernel_rfl) (fun B' hx' G' w hs => post_same (rbuf_Buffer_Insert_2_ok a1 a2.xBytes 0 hx42 _ _ A1 c1 ((hs1.up hx32).up hx') w (St.cast (by kernel_rfl) hs))) (by kernel_rfl) (Ext.refl _) (by kernel_rfl) (by kernel_rfl) ?_
                    obtain ⟨t35, hx43, hm⟩ := bind_some hm
                    refine tt_stp 8 [0, 1, 2, 3, 4, 5, 6, 7, 8] (Ext.refl _) (by kernel_rfl) (by kernel_rfl) (by kernel_rfl) (by kernel_rfl) ?_
                    refine s_call 85 11 #[.pointer none, .int .i64 a2.xN] [] [0, 1, 2, 3, 4, 5, 6, 7, 8] (by kernel_rfl) (by kernel_rfl) (fun w hs => rbuf_Buffer_Read_2_ok a2.xN t35 hx43 B8 _ w (St.cast (by kernel_rfl) hs)) (fun x hx => ?_)
                    obtain ⟨A14, c14⟩ := x
                    have hs11 := hx
                    refine t_L (L' := [.blk g11 [.pointer none, .pointer (some ⟨g10, 0, none⟩)] 25, .blk g10 [.pointer none, .slice none 0 0, .int .i64 0, .int .i64 0, .int .u32 0, .bool false] 50, .blk g2 [.pointer (some ⟨g3, 0, none⟩), .slice A3 y1.xbytes.length c3, .int .i64 y1.xbegin, .int .i64 y1.xn, .int .u32 y1.xlast, .bool y1.xkept] 50, .blk g3 [.bool y1.xBoard.xmade, .int .u32 y1.xBoard.xfirst, .slice A2 y1.xBoard.xruns.length c2] 76, .own A3 y1.xbytes.length c3 (rowOf (encI .u8) y1.xbytes) 1 5, .blk g8 [.int .i64 t23.1.xRoom, .int .u32 t23.1.xNext, .slice A11 t23.1.xIn.length c11, .slice A12 t23.1.xCame.length c12, .slice A13 t23.1.xOut.length c13, .int .u32 t23.1.xLast, .bool t23.1.xHas] 42, .own A12 t23.1.xCame.length c12 (rowOf encB t23.1.xCame) 1 4, .own A13 t23.1.xOut.length c13 (rowOf (encI .u8) t23.1.xOut) 1 5, .blk g1 [.bool a2.xRead, .int .i64 a2.xN, .int .i32 a2.xAhead, .slice A1 a2.xBytes.length c1] 34]) (by kernel_rfl) ?_
                    refine tt_run [9, 10] [1, 5, 12, 71, 72, 73, 87, 88, 91, 94, 97, 99] [0, 1, 2, 3, 4, 5, 6, 7, 8] 8 (listed' := #[true, true, true, true, true, true, true, true, true, true, true, true, false, false, true, false, false, true, false, false, true, true, true, false, false, false, false, false, false, false, false, false]) (l := []) .nil (E' := [(1, .int .u32 a1), (5, .pointer (some ⟨g1, 0, none⟩)), (12, .pointer none), (71, .slice (some ⟨g11, 0, none⟩) 2 2), (72, .int .i64 2), (73, .int .i64 0), (87, .int .i64 (I64 (0 + (t35.length : Int)))), (88, .pointer none), (91, .pointer none), (94, .pointer none), (97, .pointer none), (99, .int .i64 a2.xN)]) (by kernel_rfl) (by kernel_rfl) (by kernel_rfl) (Ext.refl _) (by kernel_rfl) (by kernel_rfl) ?_
                    obtain ⟨t36, hx44, hm⟩ := bind_some hm
                    obtain rfl : 0 = t36 := Option.some.inj (show some 0 = some t36 from hx44)
                    refine tt_call 12 89 18 #[.pointer none] (.int .i64 0) [] [0, 1, 2, 3, 4, 5, 6, 7, 8] (by kernel_rfl) (by kernel_rfl) (by kernel_rfl) (fun B' hx' G' w hs => post_same (rbuf_Buffer_Window_2_ok 0 hx44 _ _ w (St.cast (by kernel_rfl) hs))) (by kernel_rfl) (Ext.refl _) (by kernel_rfl) (by kernel_rfl) ?_
                    refine tt_run [13] [1, 5, 12, 71, 72, 73, 90, 91, 94, 97, 99] [0, 1, 2, 3, 4, 5, 6, 7, 8] 6 (listed' := #[true, true, true, true, true, true, true, true, true, true, true, true, true, true, true, false, false, true, false, false, true, true, true, false, false, false, false, false, false, false, false, false]) (l := []) .nil (E' := [(1, .int .u32 a1), (5, .pointer (some ⟨g1, 0, none⟩)), (12, .pointer none), (71, .slice (some ⟨g11, 0, none⟩) 2 2), (72, .int .i64 2), (73, .int .i64 0), (90, .int .i64 (I64 ((I64 (0 + (t35.length : Int))) + 0))), (91, .pointer none), (94, .pointer none), (97, .pointer none), (99, .int .i64 a2.xN)]) (by kernel_rfl) (by kernel_rfl) (by kernel_rfl) (Ext.refl _) (by kernel_rfl) (by kernel_rfl) ?_
                    obtain ⟨t37, hx45, hm⟩ := bind_some hm
                    obtain rfl : 0 = t37 := Option.some.inj (show some 0 = some t37 from hx45)
                    refine tt_call 15 92 14 #[.pointer none] (.int .i64 0) [] [0, 1, 2, 3, 4, 5, 6, 7, 8] (by kernel_rfl) (by kernel_rfl) (by kernel_rfl) (fun B' hx' G' w hs => post_same (rbuf_Buffer_Len_2_ok 0 hx45 _ _ w (St.cast (by kernel_rfl) hs))) (by kernel_rfl) (Ext.refl _) (by kernel_rfl) (by kernel_rfl) ?_
                    refine tt_run [16] [1, 5, 12, 71, 72, 73, 93, 94, 97, 99] [0, 1, 2, 3, 4, 5, 6, 7, 8] 4 (listed' := #[true, true, true, true, true, true, true, true, true, true, true, true, true, true, true, true, true, true, false, false, true, true, true, false, false, false, false, false, false, false, false, false]) (l := []) .nil (E' := [(1, .int .u32 a1), (5, .pointer (some ⟨g1, 0, none⟩)), (12, .pointer none), (71, .slice (some ⟨g11, 0, none⟩) 2 2), (72, .int .i64 2), (73, .int .i64 0), (93, .int .i64 (I64 ((I64 ((I64 (0 + (t35.length : Int))) + 0)) + 0))), (94, .pointer none), (97, .pointer none), (99, .int .i64 a2.xN)]) (by kernel_rfl) (by kernel_rfl) (by kernel_rfl) (Ext.refl _) (by kernel_rfl) (by kernel_rfl) ?_
                    obtain ⟨t38, hx46, hm⟩ := bind_some hm
                    obtain rfl : 0 = t38 := Option.some.inj (show some 0 = some t38 from hx46)
                    refine tt_call 18 95 20 #[.pointer none] (.int .i64 0) [] [0, 1, 2, 3, 4, 5, 6, 7, 8] (by kernel_rfl) (by kernel_rfl) (by kernel_rfl) (fun B' hx' G' w hs => post_same (rbuf_Buffer_Out_2_ok 0 hx46 _ _ w (St.cast (by kernel_rfl) hs))) (by kernel_rfl) (Ext.refl _) (by kernel_rfl) (by kernel_rfl) ?_
                    refine tt_run [19] [1, 5, 12, 71, 72, 73, 96, 97, 99] [0, 1, 2, 3, 4, 5, 6, 7, 8] 2 (listed' := #[true, true, true, true, true, true, true, true, true, true, true, true, true, true, true, true, true, true, true, true, true, true, true, false, false, false, false, false, false, false, false, false]) (l := []) .nil (E' := [(1, .int .u32 a1), (5, .pointer (some ⟨g1, 0, none⟩)), (12, .pointer none), (71, .slice (some ⟨g11, 0, none⟩) 2 2), (72, .int .i64 2), (73, .int .i64 0), (96, .int .i64 (I64 ((I64 ((I64 ((I64 (0 + (t35.length : Int))) + 0)) + 0)) + 0))), (97, .pointer none), (99, .int .i64 a2.xN)]) (by kernel_rfl) (by kernel_rfl) (by kernel_rfl) (Ext.refl _) (by kernel_rfl) (by kernel_rfl) ?_
                    obtain ⟨t39, hx47, hm⟩ := bind_some hm
                    refine tt_stp 23 [0, 1, 2, 3, 4, 5, 6, 7, 8] (Ext.refl _) (by kernel_rfl) (by kernel_rfl) (by kernel_rfl) (by kernel_rfl) ?_
                    refine s_call 100 23 #[.pointer none, .int .i64 a2.xN] [] [0, 1, 2, 3, 4, 5, 6, 7, 8] (by kernel_rfl) (by kernel_rfl) (fun w hs => rbuf_Buffer_Blocks_ok a2.xN t39 hx47 B8 _ w (St.cast (by kernel_rfl) hs)) (fun x hx => ?_)
                    obtain ⟨A15, c15⟩ := x
                    have hs12 := hx
                    refine t_L (L' := [.blk g11 [.pointer none, .pointer (some ⟨g10, 0, none⟩)] 25, .blk g10 [.pointer none, .slice none 0 0, .int .i64 0, .int .i64 0, .int .u32 0, .bool false] 50, .blk g2 [.pointer (some ⟨g3, 0, none⟩), .slice A3 y1.xbytes.length c3, .int .i64 y1.xbegin, .int .i64 y1.xn, .int .u32 y1.xlast, .bool y1.xkept] 50, .blk g3 [.bool y1.xBoard.xmade, .int .u32 y1.xBoard.xfirst, .slice A2 y1.xBoard.xruns.length c2] 76, .own A3 y1.xbytes.length c3 (rowOf (encI .u8) y1.xbytes) 1 5, .blk g8 [.int .i64 t23.1.xRoom, .int .u32 t23.1.xNext, .slice A11 t23.1.xIn.length c11, .slice A12 t23.1.xCame.length c12, .slice A13 t23.1.xOut.length c13, .int .u32 t23.1.xLast, .bool t23.1.xHas] 42, .own A12 t23.1.xCame.length c12 (rowOf encB t23.1.xCame) 1 4, .own A13 t23.1.xOut.length c13 (rowOf (encI .u8) t23.1.xOut) 1 5, .blk g1 [.bool a2.xRead, .int .i64 a2.xN, .int .i32 a2.xAhead, .slice A1 a2.xBytes.length c1] 34]) (by kernel_rfl) ?_
                    refine tt_run [24] [1, 5, 12, 71, 72, 73, 96, 101] [0, 1, 2, 3, 4, 5, 6, 7, 8] 0 (listed' := #[true, true, true, true, true, true, true, true, true, true, true, true, true, true, true, true, true, true, true, true, true, true, true, true, true, false, false, false, false, false, false, false]) (l := []) .nil (E' := [(1, .int .u32 a1), (5, .pointer (some ⟨g1, 0, none⟩)), (12, .pointer none), (71, .slice (some ⟨g11, 0, none⟩) 2 2), (72, .int .i64 2), (73, .int .i64 0), (96, .int .i64 (I64 ((I64 ((I64 ((I64 (0 + (t35.length : Int))) + 0)) + 0)) + 0))), (101, .int .i64 (t39.length : Int))]) (by kernel_rfl) (by kernel_rfl) (by kernel_rfl) (Ext.refl _) (by kernel_rfl) (by kernel_rfl) ?_
                    refine tt_end [0, 1, 2, 3, 4, 5, 6, 7, 8] (Ext.refl _) (by kernel_rfl) (by kernel_rfl) (by kernel_rfl) ?_
                    refine o_run 3 [1, 5, 12, 71, 72, 73, 104] (l := []) .nil (E' := [(1, .int .u32 a1), (5, .pointer (some ⟨g1, 0, none⟩)), (12, .pointer none), (71, .slice (some ⟨g11, 0, none⟩) 2 2), (72, .int .i64 2), (73, .int .i64 0), (104, .bool ((I64 ((I64 ((I64 ((I64 ((I64 (0 + (t35.length : Int))) + 0)) + 0)) + 0)) + (t39.length : Int))) != 0))]) (by kernel_rfl) ?_
                    refine o_split 104 ((I64 ((I64 ((I64 ((I64 ((I64 (0 + (t35.length : Int))) + 0)) + 0)) + 0)) + (t39.length : Int))) != 0) (by kernel_rfl) (fun hb18 => ?_) (fun hb18 => ?_)
                    · replace hm := ite_t hb18 hm
                      refine o_run 4 [1, 5, 71, 72, 73, 108] (l := []) .nil (E' := [(1, .int .u32 a1), (5, .pointer (some ⟨g1, 0, none⟩)), (71, .slice (some ⟨g11, 0, none⟩) 2 2), (72, .int .i64 2), (73, .int .i64 0), (108, .bool true)]) (by kernel_rfl) ?_
                      refine o_end (by kernel_rfl) ?_
                      refine e_seq ?_
                      refine w_cond_t (.tmp 108) 129638 129639 (by kernel_rfl) (by kernel_rfl) ?_
                      refine w_seq 259276 259277 (by kernel_rfl) ?_
                      refine w_region (by kernel_rfl) ?_
                      refine o_run 1 [6] (l := []) .nil (E' := [(6, .bool false)]) (by kernel_rfl) ?_
                      refine o_end (by kernel_rfl) ?_
                      refine e_seq ?_
                      refine w_ret (by kernel_rfl) ?_
                      obtain rfl := Option.some.inj hm
                      replace hm := brk_inl ho3
                      obtain rfl := Option.some.inj hm
                      exact e_retP B8 (.bool false) [] (by kernel_rfl) (by kernel_rfl) rfl (by kernel_rfl) (by kernel_rfl) hx32
                    · replace hm := ite_f hb18 hm
                      refine o_run 1 [1, 5, 71, 72, 73, 104, 105] (l := []) .nil (E' := [(1, .int .u32 a1), (5, .pointer (some ⟨g1, 0, none⟩)), (71, .slice (some ⟨g11, 0, none⟩) 2 2), (72, .int .i64 2), (73, .int .i64 0), (104, .bool false), (105, .pointer none)]) (by kernel_rfl) ?_
                      obtain ⟨t40, hx48, hm⟩ := bind_some hm
                      obtain rfl : 0 = t40 := Option.some.inj (show some 0 = some t40 from hx48)
                      refine o_stp ?_ (by kernel_rfl)
                      refine s_call 106 13 #[.pointer none] [] [0, 1, 2, 3, 4, 5, 6, 7, 8] (by kernel_rfl) (by kernel_rfl) (fun w hs => rbuf_Buffer_Next_2_ok 0 hx48 B8 _ w (St.cast (by kernel_rfl) hs)) (fun _ hx => ?_)
                      refine t_L (L' := [.blk g11 [.pointer none, .pointer (some ⟨g10, 0, none⟩)] 25, .blk g10 [.pointer none, .slice none 0 0, .int .i64 0, .int .i64 0, .int .u32 0, .bool false] 50, .blk g2 [.pointer (some ⟨g3, 0, none⟩), .slice A3 y1.xbytes.length c3, .int .i64 y1.xbegin, .int .i64 y1.xn, .int .u32 y1.xlast, .bool y1.xkept] 50, .blk g3 [.bool y1.xBoard.xmade, .int .u32 y1.xBoard.xfirst, .slice A2 y1.xBoard.xruns.length c2] 76, .own A3 y1.xbytes.length c3 (rowOf (encI .u8) y1.xbytes) 1 5, .blk g8 [.int .i64 t23.1.xRoom, .int .u32 t23.1.xNext, .slice A11 t23.1.xIn.length c11, .slice A12 t23.1.xCame.length c12, .slice A13 t23.1.xOut.length c13, .int .u32 t23.1.xLast, .bool t23.1.xHas] 42, .own A12 t23.1.xCame.length c12 (rowOf encB t23.1.xCame) 1 4, .own A13 t23.1.xOut.length c13 (rowOf (encI .u8) t23.1.xOut) 1 5, .blk g1 [.bool a2.xRead, .int .i64 a2.xN, .int .i32 a2.xAhead, .slice A1 a2.xBytes.length c1] 34]) (by kernel_rfl) ?_
                      refine o_run 2 [1, 5, 71, 72, 73, 108] (l := []) .nil (E' := [(1, .int .u32 a1), (5, .pointer (some ⟨g1, 0, none⟩)), (71, .slice (some ⟨g11, 0, none⟩) 2 2), (72, .int .i64 2), (73, .int .i64 0), (108, .bool false)]) (by kernel_rfl) ?_
                      refine o_end (by kernel_rfl) ?_
                      refine e_seq ?_
                      refine w_cond_f (.tmp 108) 129638 129639 (by kernel_rfl) (by kernel_rfl) ?_
                      refine w_skip (by kernel_rfl) ?_
                      refine e_blk ?_
                      refine e_seq ?_
                      refine w_region (by kernel_rfl) ?_
                      refine o_run 2 [1, 5, 71, 72, 73] (l := []) .nil (E' := [(1, .int .u32 a1), (5, .pointer (some ⟨g1, 0, none⟩)), (71, .slice (some ⟨g11, 0, none⟩) 2 2), (72, .int .i64 2), (73, .int .i64 1)]) (by kernel_rfl) ?_
                      refine o_end (by kernel_rfl) ?_
                      refine t_drop [0, 1, 2, 3, 4, 5, 6, 7, 8] (by kernel_rfl) ?_
                      refine t_L (L' := [.blk g11 [.pointer none, .pointer (some ⟨g10, 0, none⟩)] 25, .blk g10 [.pointer none, .slice none 0 0, .int .i64 0, .int .i64 0, .int .u32 0, .bool false] 50, .blk g2 [.pointer (some ⟨g3, 0, none⟩), .slice A3 y1.xbytes.length c3, .int .i64 y1.xbegin, .int .i64 y1.xn, .int .u32 y1.xlast, .bool y1.xkept] 50, .blk g3 [.bool y1.xBoard.xmade, .int .u32 y1.xBoard.xfirst, .slice A2 y1.xBoard.xruns.length c2] 76, .own A3 y1.xbytes.length c3 (rowOf (encI .u8) y1.xbytes) 1 5, .blk g8 [.int .i64 t23.1.xRoom, .int .u32 t23.1.xNext, .slice A11 t23.1.xIn.length c11, .slice A12 t23.1.xCame.length c12, .slice A13 t23.1.xOut.length c13, .int .u32 t23.1.xLast, .bool t23.1.xHas] 42, .own A12 t23.1.xCame.length c12 (rowOf encB t23.1.xCame) 1 4, .own A13 t23.1.xOut.length c13 (rowOf (encI .u8) t23.1.xOut) 1 5, .blk g1 [.bool a2.xRead, .int .i64 a2.xN, .int .i32 a2.xAhead, .slice A1 a2.xBytes.length c1] 34]) (by kernel_rfl) ?_
                      refine t_env [1, 5, 71, 72, 73] (E' := [(1, .int .u32 a1), (5, .pointer (some ⟨g1, 0, none⟩)), (71, .slice (some ⟨g11, 0, none⟩) 2 2), (72, .int .i64 2), (73, .int .i64 1)]) (by kernel_rfl) ?_
                      exact e_inv (fun a w ha hw => ⟨1, by decide, (.inr (.inl ⟨rfl, hm, ha, hw⟩))⟩)
                  · refine wc_of (E := [(1, .int .u32 a1), (5, .pointer (some ⟨g1, 0, none⟩)), (71, .slice (some ⟨g11, 0, none⟩) 2 2), (72, .int .i64 2), (73, .int .i64 1)]) (B := B8) (G := G) (L := [.blk g11 [.pointer none, .pointer (some ⟨g10, 0, none⟩)] 25, .blk g10 [.pointer none, .slice none 0 0, .int .i64 0, .int .i64 0, .int .u32 0, .bool false] 50, .blk g2 [.pointer (some ⟨g3, 0, none⟩), .slice A3 y1.xbytes.length c3, .int .i64 y1.xbegin, .int .i64 y1.xn, .int .u32 y1.xlast, .bool y1.xkept] 50, .blk g3 [.bool y1.xBoard.xmade, .int .u32 y1.xBoard.xfirst, .slice A2 y1.xBoard.xruns.length c2] 76, .own A3 y1.xbytes.length c3 (rowOf (encI .u8) y1.xbytes) 1 5, .blk g8 [.int .i64 t23.1.xRoom, .int .u32 t23.1.xNext, .slice A11 t23.1.xIn.length c11, .slice A12 t23.1.xCame.length c12, .slice A13 t23.1.xOut.length c13, .int .u32 t23.1.xLast, .bool t23.1.xHas] 42, .own A12 t23.1.xCame.length c12 (rowOf encB t23.1.xCame) 1 4, .own A13 t23.1.xOut.length c13 (rowOf (encI .u8) t23.1.xOut) 1 5, .blk g1 [.bool a2.xRead, .int .i64 a2.xN, .int .i32 a2.xAhead, .slice A1 a2.xBytes.length c1] 34]) ?_ ha hw
                    refine w_seq 2024 2025 (by kernel_rfl) ?_
                    refine w_region (by kernel_rfl) ?_
                    refine o_run 1 [1, 5, 71, 72, 73, 74] (l := []) .nil (E' := [(1, .int .u32 a1), (5, .pointer (some ⟨g1, 0, none⟩)), (71, .slice (some ⟨g11, 0, none⟩) 2 2), (72, .int .i64 2), (73, .int .i64 1), (74, .bool true)]) (by kernel_rfl) ?_
                    refine o_end (by kernel_rfl) ?_
                    refine e_seq ?_
                    refine w_seq 4050 4051 (by kernel_rfl) ?_
                    refine w_cond_t (.tmp 74) 8100 8101 (by kernel_rfl) (by kernel_rfl) ?_
                    refine w_skip (by kernel_rfl) ?_
                    refine e_seq ?_
                    refine w_seq 8102 8103 (by kernel_rfl) ?_
                    refine w_block 1 16204 (by kernel_rfl) ?_
                    refine w_seq 32408 32409 (by kernel_rfl) ?_
                    refine w_region (by kernel_rfl) ?_
                    refine o_val 75 (.indexAddr 51 (.tmp 71) (.tmp 73)) (.pointer (some ⟨g11, 1, none⟩)) (by kernel_rfl) (v_index (A := some ⟨g11, 0, none⟩) (sz := 1) (k := .i64) (j := 1) (m := 2) (c := 2) (by kernel_rfl) (by kernel_rfl) (by kernel_rfl) (by decide) (by decide) (fun _ _ => rfl)) ?_
                    refine o_run 2 [1, 5, 12, 71, 72, 73] (l := [(⟨g11, 1, none⟩, .pointer (some ⟨g10, 0, none⟩))]) (.one (at_blk (j := 0) rfl rfl) .nil) (E' := [(1, .int .u32 a1), (5, .pointer (some ⟨g1, 0, none⟩)), (12, .pointer (some ⟨g10, 0, none⟩)), (71, .slice (some ⟨g11, 0, none⟩) 2 2), (72, .int .i64 2), (73, .int .i64 1)]) (by kernel_rfl) ?_
                    refine o_end (by kernel_rfl) ?_
                    refine e_seq ?_
                    refine w_seq 64818 64819 (by kernel_rfl) ?_
                    refine w_tail 25 [.blk g11 [.pointer none, .pointer (some ⟨g10, 0, none⟩)] 25, .blk g10 [.pointer none, .slice none 0 0, .int .i64 0, .int .i64 0, .int .u32 0, .bool false] 50, .blk g2 [.pointer (some ⟨g3, 0, none⟩), .slice A3 y1.xbytes.length c3, .int .i64 y1.xbegin, .int .i64 y1.xn, .int .u32 y1.xlast, .bool y1.xkept] 50, .blk g3 [.bool y1.xBoard.xmade, .int .u32 y1.xBoard.xfirst, .slice A2 y1.xBoard.xruns.length c2] 76, .own A3 y1.xbytes.length c3 (rowOf (encI .u8) y1.xbytes) 1 5, .blk g8 [.int .i64 t23.1.xRoom, .int .u32 t23.1.xNext, .slice A11 t23.1.xIn.length c11, .slice A12 t23.1.xCame.length c12, .slice A13 t23.1.xOut.length c13, .int .u32 t23.1.xLast, .bool t23.1.xHas] 42, .own A12 t23.1.xCame.length c12 (rowOf encB t23.1.xCame) 1 4, .own A13 t23.1.xOut.length c13 (rowOf (encI .u8) t23.1.xOut) 1 5, .blk g1 [.bool a2.xRead, .int .i64 a2.xN, .int .i32 a2.xAhead, .slice A1 a2.xBytes.length c1] 34] (by kernel_rfl) mixed (by kernel_rfl) ?_
                    refine tt_run [0, 1, 2, 3, 5, 6, 7, 11, 14, 17, 20, 21, 22] [1, 5, 12, 71, 72, 73, 77, 78, 80, 82, 84, 88, 91, 94, 97, 99] [0, 1, 2, 3, 4, 5, 6, 7, 8] 12 (listed' := #[true, true, true, true, false, true, true, true, false, false, false, true, false, false, true, false, false, true, false, false, true, true, true, false, false, false, false, false, false, false, false, false]) (l := [(⟨g1, 3, none⟩, .slice A1 a2.xBytes.length c1), (⟨g1, 1, none⟩, .int .i64 a2.xN), (⟨g1, 1, none⟩, .int .i64 a2.xN)]) (.one (at_blk (j := 8) rfl rfl) (.one (at_blk (j := 8) rfl rfl) (.one (at_blk (j := 8) rfl rfl) .nil))) (E' := [(1, .int .u32 a1), (5, .pointer (some ⟨g1, 0, none⟩)), (12, .pointer (some ⟨g10, 0, none⟩)), (71, .slice (some ⟨g11, 0, none⟩) 2 2), (72, .int .i64 2), (73, .int .i64 1), (77, .pointer (some ⟨g10, 0, none⟩)), (78, .int .u32 a1), (80, .slice A1 a2.xBytes.length c1), (82, .pointer (some ⟨g10, 0, none⟩)), (84, .int .i64 a2.xN), (88, .pointer (some ⟨g10, 0, none⟩)), (91, .pointer (some ⟨g10, 0, none⟩)), (94, .pointer (some ⟨g10, 0, none⟩)), (97, .pointer (some ⟨g10, 0, none⟩)), (99, .int .i64 a2.xN)]) (by kernel_rfl) (by kernel_rfl) (by kernel_rfl) (Ext.refl _) (by kernel_rfl) (by kernel_rfl) ?_
                    obtain ⟨t41, hx49, hm⟩ := bind_some hm
                    obtain rfl : 0 = t41 := Option.some.inj (show some 0 = some t41 from hx49)
                    refine tt_call 4 81 12 #[.pointer (some ⟨g10, 0, none⟩), .int .u32 a1, .slice A1 a2.xBytes.length c1] (.int .i64 0) [1] [0, 1, 2, 3, 4, 5, 6, 7, 8] (by kernel_rfl) (by kernel_rfl) (by kernel_rfl) (fun B' hx' G' w hs => post_same (rbuf_Buffer_Insert_3_ok (⟨0, 0, 0, false⟩ : T_rbuf_Buffer_o2) a1 a2.xBytes 0 hx49 _ _ g10 A1 c1 ((hs1.up hx32).up hx') w (St.cast (by kernel_rfl) hs))) (by kernel_rfl) (Ext.refl _) (by kernel_rfl) (by kernel_rfl) ?_
                    obtain ⟨t42, hx50, hm⟩ := bind_some hm
                    refine tt_stp 8 [0, 1, 2, 3, 4, 5, 6, 7, 8] (Ext.refl _) (by kernel_rfl) (by kernel_rfl) (by kernel_rfl) (by kernel_rfl) ?_
                    refine s_call 85 11 #[.pointer (some ⟨g10, 0, none⟩), .int .i64 a2.xN] [1] [0, 2, 3, 4, 5, 6, 7, 8] (by kernel_rfl) (by kernel_rfl) (fun w hs => rbuf_Buffer_Read_3_ok k (⟨0, 0, 0, false⟩ : T_rbuf_Buffer_o2) a2.xN t42 hx50 B8 _ g10 w (St.cast (by kernel_rfl) hs)) (fun x hx => ?_)
                    obtain ⟨A16, c16⟩ := x
                    have hs13 := hx
                    refine t_L (L' := [.blk g10 [.pointer none, .slice none 0 0, .int .i64 0, .int .i64 0, .int .u32 0, .bool false] 50, .blk g11 [.pointer none, .pointer (some ⟨g10, 0, none⟩)] 25, .blk g2 [.pointer (some ⟨g3, 0, none⟩), .slice A3 y1.xbytes.length c3, .int .i64 y1.xbegin, .int .i64 y1.xn, .int .u32 y1.xlast, .bool y1.xkept] 50, .blk g3 [.bool y1.xBoard.xmade, .int .u32 y1.xBoard.xfirst, .slice A2 y1.xBoard.xruns.length c2] 76, .own A3 y1.xbytes.length c3 (rowOf (encI .u8) y1.xbytes) 1 5, .blk g8 [.int .i64 t23.1.xRoom, .int .u32 t23.1.xNext, .slice A11 t23.1.xIn.length c11, .slice A12 t23.1.xCame.length c12, .slice A13 t23.1.xOut.length c13, .int .u32 t23.1.xLast, .bool t23.1.xHas] 42, .own A12 t23.1.xCame.length c12 (rowOf encB t23.1.xCame) 1 4, .own A13 t23.1.xOut.length c13 (rowOf (encI .u8) t23.1.xOut) 1 5, .blk g1 [.bool a2.xRead, .int .i64 a2.xN, .int .i32 a2.xAhead, .slice A1 a2.xBytes.length c1] 34]) (by kernel_rfl) ?_
                    refine tt_run [9, 10] [1, 5, 12, 71, 72, 73, 87, 88, 91, 94, 97, 99] [1, 0, 2, 3, 4, 5, 6, 7, 8] 8 (listed' := #[true, true, true, true, true, true, true, true, true, true, true, true, false, false, true, false, false, true, false, false, true, true, true, false, false, false, false, false, false, false, false, false]) (l := []) .nil (E' := [(1, .int .u32 a1), (5, .pointer (some ⟨g1, 0, none⟩)), (12, .pointer (some ⟨g10, 0, none⟩)), (71, .slice (some ⟨g11, 0, none⟩) 2 2), (72, .int .i64 2), (73, .int .i64 1), (87, .int .i64 (I64 (0 + (t42.length : Int)))), (88, .pointer (some ⟨g10, 0, none⟩)), (91, .pointer (some ⟨g10, 0, none⟩)), (94, .pointer (some ⟨g10, 0, none⟩)), (97, .pointer (some ⟨g10, 0, none⟩)), (99, .int .i64 a2.xN)]) (by kernel_rfl) (by kernel_rfl) (by kernel_rfl) (Ext.refl _) (by kernel_rfl) (by kernel_rfl) ?_
                    obtain ⟨t43, hx51, hm⟩ := bind_some hm
                    obtain rfl : 0 = t43 := Option.some.inj (show some 0 = some t43 from hx51)
                    refine tt_call 12 89 18 #[.pointer (some ⟨g10, 0, none⟩)] (.int .i64 0) [1] [1, 0, 2, 3, 4, 5, 6, 7, 8] (by kernel_rfl) (by kernel_rfl) (by kernel_rfl) (fun B' hx' G' w hs => post_same (rbuf_Buffer_Window_3_ok (⟨0, 0, 0, false⟩ : T_rbuf_Buffer_o2) 0 hx51 _ _ g10 w (St.cast (by kernel_rfl) hs))) (by kernel_rfl) (Ext.refl _) (by kernel_rfl) (by kernel_rfl) ?_
                    refine tt_run [13] [1, 5, 12, 71, 72, 73, 90, 91, 94, 97, 99] [1, 0, 2, 3, 4, 5, 6, 7, 8] 6 (listed' := #[true, true, true, true, true, true, true, true, true, true, true, true, true, true, true, false, false, true, false, false, true, true, true, false, false, false, false, false, false, false, false, false]) (l := []) .nil (E' := [(1, .int .u32 a1), (5, .pointer (some ⟨g1, 0, none⟩)), (12, .pointer (some ⟨g10, 0, none⟩)), (71, .slice (some ⟨g11, 0, none⟩) 2 2), (72, .int .i64 2), (73, .int .i64 1), (90, .int .i64 (I64 ((I64 (0 + (t42.length : Int))) + 0))), (91, .pointer (some ⟨g10, 0, none⟩)), (94, .pointer (some ⟨g10, 0, none⟩)), (97, .pointer (some ⟨g10, 0, none⟩)), (99, .int .i64 a2.xN)]) (by kernel_rfl) (by kernel_rfl) (by kernel_rfl) (Ext.refl _) (by kernel_rfl) (by kernel_rfl) ?_
                    obtain ⟨t44, hx52, hm⟩ := bind_some hm
                    obtain rfl : 0 = t44 := Option.some.inj (show some 0 = some t44 from hx52)
                    refine tt_call 15 92 14 #[.pointer (some ⟨g10, 0, none⟩)] (.int .i64 0) [1] [1, 0, 2, 3, 4, 5, 6, 7, 8] (by kernel_rfl) (by kernel_rfl) (by kernel_rfl) (fun B' hx' G' w hs => post_same (rbuf_Buffer_Len_3_ok (⟨0, 0, 0, false⟩ : T_rbuf_Buffer_o2) 0 hx52 _ _ g10 w (St.cast (by kernel_rfl) hs))) (by kernel_rfl) (Ext.refl _) (by kernel_rfl) (by kernel_rfl) ?_
                    refine tt_run [16] [1, 5, 12, 71, 72, 73, 93, 94, 97, 99] [1, 0, 2, 3, 4, 5, 6, 7, 8] 4 (listed' := #[true, true, true, true, true, true, true, true, true, true, true, true, true, true, true, true, true, true, false, false, true, true, true, false, false, false, false, false, false, false, false, false]) (l := []) .nil (E' := [(1, .int .u32 a1), (5, .pointer (some ⟨g1, 0, none⟩)), (12, .pointer (some ⟨g10, 0, none⟩)), (71, .slice (some ⟨g11, 0, none⟩) 2 2), (72, .int .i64 2), (73, .int .i64 1), (93, .int .i64 (I64 ((I64 ((I64 (0 + (t42.length : Int))) + 0)) + 0))), (94, .pointer (some ⟨g10, 0, none⟩)), (97, .pointer (some ⟨g10, 0, none⟩)), (99, .int .i64 a2.xN)]) (by kernel_rfl) (by kernel_rfl) (by kernel_rfl) (Ext.refl _) (by kernel_rfl) (by kernel_rfl) ?_
                    obtain ⟨t45, hx53, hm⟩ := bind_some hm
                    obtain rfl : 0 = t45 := Option.some.inj (show some 0 = some t45 from hx53)
                    refine tt_call 18 95 20 #[.pointer (some ⟨g10, 0, none⟩)] (.int .i64 0) [1] [1, 0, 2, 3, 4, 5, 6, 7, 8] (by kernel_rfl) (by kernel_rfl) (by kernel_rfl) (fun B' hx' G' w hs => post_same (rbuf_Buffer_Out_3_ok (⟨0, 0, 0, false⟩ : T_rbuf_Buffer_o2) 0 hx53 _ _ g10 w (St.cast (by kernel_rfl) hs))) (by kernel_rfl) (Ext.refl _) (by kernel_rfl) (by kernel_rfl) ?_
                    refine tt_run [19] [1, 5, 12, 71, 72, 73, 96, 97, 99] [1, 0, 2, 3, 4, 5, 6, 7, 8] 2 (listed' := #[true, true, true, true, true, true, true, true, true, true, true, true, true, true, true, true, true, true, true, true, true, true, true, false, false, false, false, false, false, false, false, false]) (l := []) .nil (E' := [(1, .int .u32 a1), (5, .pointer (some ⟨g1, 0, none⟩)), (12, .pointer (some ⟨g10, 0, none⟩)), (71, .slice (some ⟨g11, 0, none⟩) 2 2), (72, .int .i64 2), (73, .int .i64 1), (96, .int .i64 (I64 ((I64 ((I64 ((I64 (0 + (t42.length : Int))) + 0)) + 0)) + 0))), (97, .pointer (some ⟨g10, 0, none⟩)), (99, .int .i64 a2.xN)]) (by kernel_rfl) (by kernel_rfl) (by kernel_rfl) (Ext.refl _) (by kernel_rfl) (by kernel_rfl) ?_
                    obtain ⟨t46, hx54, hm⟩ := bind_some hm
                    refine tt_stp 23 [1, 0, 2, 3, 4, 5, 6, 7, 8] (Ext.refl _) (by kernel_rfl) (by kernel_rfl) (by kernel_rfl) (by kernel_rfl) ?_
                    refine s_call 100 23 #[.pointer (some ⟨g10, 0, none⟩), .int .i64 a2.xN] [0] [1, 2, 3, 4, 5, 6, 7, 8] (by kernel_rfl) (by kernel_rfl) (fun w hs => rbuf_Buffer_Blocks_2_ok (⟨0, 0, 0, false⟩ : T_rbuf_Buffer_o2) a2.xN t46 hx54 B8 _ g10 w (St.cast (by kernel_rfl) hs)) (fun x hx => ?_)
                    obtain ⟨A17, c17⟩ := x
                    have hs14 := hx
                    refine t_L (L' := [.blk g10 [.pointer none, .slice none 0 0, .int .i64 0, .int .i64 0, .int .u32 0, .bool false] 50, .blk g11 [.pointer none, .pointer (some ⟨g10, 0, none⟩)] 25, .blk g2 [.pointer (some ⟨g3, 0, none⟩), .slice A3 y1.xbytes.length c3, .int .i64 y1.xbegin, .int .i64 y1.xn, .int .u32 y1.xlast, .bool y1.xkept] 50, .blk g3 [.bool y1.xBoard.xmade, .int .u32 y1.xBoard.xfirst, .slice A2 y1.xBoard.xruns.length c2] 76, .own A3 y1.xbytes.length c3 (rowOf (encI .u8) y1.xbytes) 1 5, .blk g8 [.int .i64 t23.1.xRoom, .int .u32 t23.1.xNext, .slice A11 t23.1.xIn.length c11, .slice A12 t23.1.xCame.length c12, .slice A13 t23.1.xOut.length c13, .int .u32 t23.1.xLast, .bool t23.1.xHas] 42, .own A12 t23.1.xCame.length c12 (rowOf encB t23.1.xCame) 1 4, .own A13 t23.1.xOut.length c13 (rowOf (encI .u8) t23.1.xOut) 1 5, .blk g1 [.bool a2.xRead, .int .i64 a2.xN, .int .i32 a2.xAhead, .slice A1 a2.xBytes.length c1] 34]) (by kernel_rfl) ?_
                    refine tt_run [24] [1, 5, 12, 71, 72, 73, 96, 101] [1, 0, 2, 3, 4, 5, 6, 7, 8] 0 (listed' := #[true, true, true, true, true, true, true, true, true, true, true, true, true, true, true, true, true, true, true, true, true, true, true, true, true, false, false, false, false, false, false, false]) (l := []) .nil (E' := [(1, .int .u32 a1), (5, .pointer (some ⟨g1, 0, none⟩)), (12, .pointer (some ⟨g10, 0, none⟩)), (71, .slice (some ⟨g11, 0, none⟩) 2 2), (72, .int .i64 2), (73, .int .i64 1), (96, .int .i64 (I64 ((I64 ((I64 ((I64 (0 + (t42.length : Int))) + 0)) + 0)) + 0))), (101, .int .i64 (t46.length : Int))]) (by kernel_rfl) (by kernel_rfl) (by kernel_rfl) (Ext.refl _) (by kernel_rfl) (by kernel_rfl) ?_
                    refine tt_end [1, 0, 2, 3, 4, 5, 6, 7, 8] (Ext.refl _) (by kernel_rfl) (by kernel_rfl) (by kernel_rfl) ?_
                    refine o_run 3 [1, 5, 12, 71, 72, 73, 104] (l := []) .nil (E' := [(1, .int .u32 a1), (5, .pointer (some ⟨g1, 0, none⟩)), (12, .pointer (some ⟨g10, 0, none⟩)), (71, .slice (some ⟨g11, 0, none⟩) 2 2), (72, .int .i64 2), (73, .int .i64 1), (104, .bool ((I64 ((I64 ((I64 ((I64 ((I64 (0 + (t42.length : Int))) + 0)) + 0)) + 0)) + (t46.length : Int))) != 0))]) (by kernel_rfl) ?_
                    refine o_split 104 ((I64 ((I64 ((I64 ((I64 ((I64 (0 + (t42.length : Int))) + 0)) + 0)) + 0)) + (t46.length : Int))) != 0) (by kernel_rfl) (fun hb19 => ?_) (fun hb19 => ?_)
                    · replace hm := ite_t hb19 hm
                      refine o_run 4 [1, 5, 71, 72, 73, 108] (l := []) .nil (E' := [(1, .int .u32 a1), (5, .pointer (some ⟨g1, 0, none⟩)), (71, .slice (some ⟨g11, 0, none⟩) 2 2), (72, .int .i64 2), (73, .int .i64 1), (108, .bool true)]) (by kernel_rfl) ?_
                      refine o_end (by kernel_rfl) ?_
                      refine e_seq ?_
                      refine w_cond_t (.tmp 108) 129638 129639 (by kernel_rfl) (by kernel_rfl) ?_
                      refine w_seq 259276 259277 (by kernel_rfl) ?_
                      refine w_region (by kernel_rfl) ?_
                      refine o_run 1 [6] (l := []) .nil (E' := [(6, .bool false)]) (by kernel_rfl) ?_
                      refine o_end (by kernel_rfl) ?_
                      refine e_seq ?_
                      refine w_ret (by kernel_rfl) ?_
                      obtain rfl := Option.some.inj hm
                      replace hm := brk_inl ho3
                      obtain rfl := Option.some.inj hm
                      exact e_retP B8 (.bool false) [] (by kernel_rfl) (by kernel_rfl) rfl (by kernel_rfl) (by kernel_rfl) hx32
                    · replace hm := ite_f hb19 hm
                      refine o_run 1 [1, 5, 71, 72, 73, 104, 105] (l := []) .nil (E' := [(1, .int .u32 a1), (5, .pointer (some ⟨g1, 0, none⟩)), (71, .slice (some ⟨g11, 0, none⟩) 2 2), (72, .int .i64 2), (73, .int .i64 1), (104, .bool false), (105, .pointer (some ⟨g10, 0, none⟩))]) (by kernel_rfl) ?_
                      obtain ⟨t47, hx55, hm⟩ := bind_some hm
                      obtain rfl : 0 = t47 := Option.some.inj (show some 0 = some t47 from hx55)
                      refine o_stp ?_ (by kernel_rfl)
                      refine s_call 106 13 #[.pointer (some ⟨g10, 0, none⟩)] [0] [1, 2, 3, 4, 5, 6, 7, 8] (by kernel_rfl) (by kernel_rfl) (fun w hs => rbuf_Buffer_Next_3_ok (⟨0, 0, 0, false⟩ : T_rbuf_Buffer_o2) 0 hx55 B8 _ g10 w (St.cast (by kernel_rfl) hs)) (fun _ hx => ?_)
                      refine t_L (L' := [.blk g10 [.pointer none, .slice none 0 0, .int .i64 0, .int .i64 0, .int .u32 0, .bool false] 50, .blk g11 [.pointer none, .pointer (some ⟨g10, 0, none⟩)] 25, .blk g2 [.pointer (some ⟨g3, 0, none⟩), .slice A3 y1.xbytes.length c3, .int .i64 y1.xbegin, .int .i64 y1.xn, .int .u32 y1.xlast, .bool y1.xkept] 50, .blk g3 [.bool y1.xBoard.xmade, .int .u32 y1.xBoard.xfirst, .slice A2 y1.xBoard.xruns.length c2] 76, .own A3 y1.xbytes.length c3 (rowOf (encI .u8) y1.xbytes) 1 5, .blk g8 [.int .i64 t23.1.xRoom, .int .u32 t23.1.xNext, .slice A11 t23.1.xIn.length c11, .slice A12 t23.1.xCame.length c12, .slice A13 t23.1.xOut.length c13, .int .u32 t23.1.xLast, .bool t23.1.xHas] 42, .own A12 t23.1.xCame.length c12 (rowOf encB t23.1.xCame) 1 4, .own A13 t23.1.xOut.length c13 (rowOf (encI .u8) t23.1.xOut) 1 5, .blk g1 [.bool a2.xRead, .int .i64 a2.xN, .int .i32 a2.xAhead, .slice A1 a2.xBytes.length c1] 34]) (by kernel_rfl) ?_
                      refine o_run 2 [1, 5, 71, 72, 73, 108] (l := []) .nil (E' := [(1, .int .u32 a1), (5, .pointer (some ⟨g1, 0, none⟩)), (71, .slice (some ⟨g11, 0, none⟩) 2 2), (72, .int .i64 2), (73, .int .i64 1), (108, .bool false)]) (by kernel_rfl) ?_
                      refine o_end (by kernel_rfl) ?_
                      refine e_seq ?_
                      refine w_cond_f (.tmp 108) 129638 129639 (by kernel_rfl) (by kernel_rfl) ?_
                      refine w_skip (by kernel_rfl) ?_
                      refine e_blk ?_
                      refine e_seq ?_
                      refine w_region (by kernel_rfl) ?_
                      refine o_run 2 [1, 5, 71, 72, 73] (l := []) .nil (E' := [(1, .int .u32 a1), (5, .pointer (some ⟨g1, 0, none⟩)), (71, .slice (some ⟨g11, 0, none⟩) 2 2), (72, .int .i64 2), (73, .int .i64 2)]) (by kernel_rfl) ?_
                      refine o_end (by kernel_rfl) ?_
                      refine t_drop [1, 0, 2, 3, 4, 5, 6, 7, 8] (by kernel_rfl) ?_
                      refine t_L (L' := [.blk g11 [.pointer none, .pointer (some ⟨g10, 0, none⟩)] 25, .blk g10 [.pointer none, .slice none 0 0, .int .i64 0, .int .i64 0, .int .u32 0, .bool false] 50, .blk g2 [.pointer (some ⟨g3, 0, none⟩), .slice A3 y1.xbytes.length c3, .int .i64 y1.xbegin, .int .i64 y1.xn, .int .u32 y1.xlast, .bool y1.xkept] 50, .blk g3 [.bool y1.xBoard.xmade, .int .u32 y1.xBoard.xfirst, .slice A2 y1.xBoard.xruns.length c2] 76, .own A3 y1.xbytes.length c3 (rowOf (encI .u8) y1.xbytes) 1 5, .blk g8 [.int .i64 t23.1.xRoom, .int .u32 t23.1.xNext, .slice A11 t23.1.xIn.length c11, .slice A12 t23.1.xCame.length c12, .slice A13 t23.1.xOut.length c13, .int .u32 t23.1.xLast, .bool t23.1.xHas] 42, .own A12 t23.1.xCame.length c12 (rowOf encB t23.1.xCame) 1 4, .own A13 t23.1.xOut.length c13 (rowOf (encI .u8) t23.1.xOut) 1 5, .blk g1 [.bool a2.xRead, .int .i64 a2.xN, .int .i32 a2.xAhead, .slice A1 a2.xBytes.length c1] 34]) (by kernel_rfl) ?_
                      refine t_env [1, 5, 71, 72, 73] (E' := [(1, .int .u32 a1), (5, .pointer (some ⟨g1, 0, none⟩)), (71, .slice (some ⟨g11, 0, none⟩) 2 2), (72, .int .i64 2), (73, .int .i64 2)]) (by kernel_rfl) ?_
                      exact e_inv (fun a w ha hw => ⟨0, by decide, (.inr (.inr ⟨rfl, hm, ha, hw⟩))⟩)
                  · refine wc_of (E := [(1, .int .u32 a1), (5, .pointer (some ⟨g1, 0, none⟩)), (71, .slice (some ⟨g11, 0, none⟩) 2 2), (72, .int .i64 2), (73, .int .i64 2)]) (B := B8) (G := G) (L := [.blk g11 [.pointer none, .pointer (some ⟨g10, 0, none⟩)] 25, .blk g10 [.pointer none, .slice none 0 0, .int .i64 0, .int .i64 0, .int .u32 0, .bool false] 50, .blk g2 [.pointer (some ⟨g3, 0, none⟩), .slice A3 y1.xbytes.length c3, .int .i64 y1.xbegin, .int .i64 y1.xn, .int .u32 y1.xlast, .bool y1.xkept] 50, .blk g3 [.bool y1.xBoard.xmade, .int .u32 y1.xBoard.xfirst, .slice A2 y1.xBoard.xruns.length c2] 76, .own A3 y1.xbytes.length c3 (rowOf (encI .u8) y1.xbytes) 1 5, .blk g8 [.int .i64 t23.1.xRoom, .int .u32 t23.1.xNext, .slice A11 t23.1.xIn.length c11, .slice A12 t23.1.xCame.length c12, .slice A13 t23.1.xOut.length c13, .int .u32 t23.1.xLast, .bool t23.1.xHas] 42, .own A12 t23.1.xCame.length c12 (rowOf encB t23.1.xCame) 1 4, .own A13 t23.1.xOut.length c13 (rowOf (encI .u8) t23.1.xOut) 1 5, .blk g1 [.bool a2.xRead, .int .i64 a2.xN, .int .i32 a2.xAhead, .slice A1 a2.xBytes.length c1] 34]) ?_ ha hw
                    refine w_seq 2024 2025 (by kernel_rfl) ?_
                    refine w_region (by kernel_rfl) ?_
                    refine o_run 1 [1, 5, 71, 72, 73, 74] (l := []) .nil (E' := [(1, .int .u32 a1), (5, .pointer (some ⟨g1, 0, none⟩)), (71, .slice (some ⟨g11, 0, none⟩) 2 2), (72, .int .i64 2), (73, .int .i64 2), (74, .bool false)]) (by kernel_rfl) ?_
                    refine o_end (by kernel_rfl) ?_
                    refine e_seq ?_
                    refine w_seq 4050 4051 (by kernel_rfl) ?_
                    refine w_cond_f (.tmp 74) 8100 8101 (by kernel_rfl) (by kernel_rfl) ?_
                    refine w_exit 0 (by kernel_rfl) ?_
                    refine e_x_seq ?_
                    refine e_x_inv ?_
                    refine e_x_here ?_
                    refine t_drop [0, 1, 2, 3, 4, 5, 6, 7, 8] (by kernel_rfl) ?_
                    refine t_L (L' := [.blk g11 [.pointer none, .pointer (some ⟨g10, 0, none⟩)] 25, .blk g10 [.pointer none, .slice none 0 0, .int .i64 0, .int .i64 0, .int .u32 0, .bool false] 50, .blk g2 [.pointer (some ⟨g3, 0, none⟩), .slice A3 y1.xbytes.length c3, .int .i64 y1.xbegin, .int .i64 y1.xn, .int .u32 y1.xlast, .bool y1.xkept] 50, .blk g3 [.bool y1.xBoard.xmade, .int .u32 y1.xBoard.xfirst, .slice A2 y1.xBoard.xruns.length c2] 76, .own A3 y1.xbytes.length c3 (rowOf (encI .u8) y1.xbytes) 1 5, .blk g8 [.int .i64 t23.1.xRoom, .int .u32 t23.1.xNext, .slice A11 t23.1.xIn.length c11, .slice A12 t23.1.xCame.length c12, .slice A13 t23.1.xOut.length c13, .int .u32 t23.1.xLast, .bool t23.1.xHas] 42, .own A12 t23.1.xCame.length c12 (rowOf encB t23.1.xCame) 1 4, .own A13 t23.1.xOut.length c13 (rowOf (encI .u8) t23.1.xOut) 1 5, .blk g1 [.bool a2.xRead, .int .i64 a2.xN, .int .i32 a2.xAhead, .slice A1 a2.xBytes.length c1] 34]) (by kernel_rfl) ?_
                    refine t_env [] (E' := []) (by kernel_rfl) ?_
                    obtain rfl := Option.some.inj hm
                    exact e_inv (fun a w ha hw => ⟨rfl, ha, hw⟩)
                · exact fun a w ha hw => .inl ⟨rfl, ht2, ha, hw⟩
end Go.V
