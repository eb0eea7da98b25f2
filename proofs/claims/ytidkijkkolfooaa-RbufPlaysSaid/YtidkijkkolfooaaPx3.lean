/- Printed by a program of this work: Go functions as Lean functions, and that the machine comes to the same. -/
import Derived.Test.YtidkijkkolfooaaPx2
set_option maxRecDepth 100000
set_option linter.unusedVariables false
namespace Go.V
open Go Go.Proofs
def downhaullaw26_RbufPlays.l1 : Nat → (List T_downhaullaw26_Step) → Int → T_downhaulref26_Buffer → T_rbuf_Buffer_o → Option ((Bool) ⊕ (T_downhaulref26_Buffer × T_rbuf_Buffer_o))
  | 0, _, _, _, _ => none
  | k + 1, t11, p1, p2, p3 => (if decide (p1 < (t11.length : Int)) then ((idx t11 p1).bind fun e1 => (if e1.xRead then ((rbuf_Buffer_Read.f k p3 e1.xN).bind fun t14 => ((downhaulref26_Buffer_Read.f p2 e1.xN).bind fun t15 => (if !((strOf t14.1).toList == (strOf t15.1).toList) then (some (.inl false)) else ((rbuf_Buffer_Next.f t14.2).bind fun t16 => (if t16 != t15.2.xNext then (some (.inl false)) else ((rbuf_Buffer_Window.f t14.2).bind fun t17 => ((downhaulref26_Buffer_Window.f t15.2).bind fun t18 => (if t17 != t18 then (some (.inl false)) else ((rbuf_Buffer_Len.f t14.2).bind fun t19 => (if t19 != (t15.2.xIn.length : Int) then (some (.inl false)) else ((rbuf_Buffer_Out.f k t14.2).bind fun t20 => ((downhaulref26_Buffer_Count.f k t15.2).bind fun t21 => (if t20 != t21 then (some (.inl false)) else ((rbuf_Buffer_Blocks.f k t14.2 e1.xN).bind fun t22 => ((downhaulref26_Buffer_Blocks.f k t15.2 e1.xN).bind fun t23 => ((downhaullaw26_same.f k t22 t23).bind fun t24 => (if !t24 then (some (.inl false)) else (downhaullaw26_RbufPlays.l1 k t11 (I64 (p1 + 1)) t15.2 t14.2)))))))))))))))))) else ((rbuf_Buffer_Insert.f k p3 (U32 (p2.xNext + (U32 e1.xAhead))) e1.xBytes).bind fun t25 => ((downhaulref26_Buffer_Insert.f k p2 (U32 (p2.xNext + (U32 e1.xAhead))) e1.xBytes).bind fun t26 => (if t25.1 != t26.1 then (some (.inl false)) else ((rbuf_Buffer_Next.f t25.2).bind fun t27 => (if t27 != t26.2.xNext then (some (.inl false)) else ((rbuf_Buffer_Window.f t25.2).bind fun t28 => ((downhaulref26_Buffer_Window.f t26.2).bind fun t29 => (if t28 != t29 then (some (.inl false)) else ((rbuf_Buffer_Len.f t25.2).bind fun t30 => (if t30 != (t26.2.xIn.length : Int) then (some (.inl false)) else ((rbuf_Buffer_Out.f k t25.2).bind fun t31 => ((downhaulref26_Buffer_Count.f k t26.2).bind fun t32 => (if t31 != t32 then (some (.inl false)) else ((rbuf_Buffer_Blocks.f k t25.2 e1.xN).bind fun t33 => ((downhaulref26_Buffer_Blocks.f k t26.2 e1.xN).bind fun t34 => ((downhaullaw26_same.f k t33 t34).bind fun t35 => (if !t35 then (some (.inl false)) else (downhaullaw26_RbufPlays.l1 k t11 (I64 (p1 + 1)) t26.2 t25.2)))))))))))))))))))) else (some (.inr (p2, p3))))
def downhaullaw26_RbufPlays.f (k : Nat) (a0 : Int) (a1 : Int) (a2 : List T_downhaullaw26_Step) : Option (Bool) :=
  ((rbuf_New.f (Int.tmod (I64 a0) 301) a1).bind fun t1 => optE t1.1 ((downhaulref26_New.f (Int.tmod (I64 a0) 301) a1).bind fun t2 => (if t1.2 != t2.2 then (if t1.2 == t2.2 then (if false == (t2.2 == 0) then ((downhaullaw26_alive.f k).bind fun t3 => (some t3)) else (some false)) else (some false)) else (if t2.2 != 0 then (if t1.2 == t2.2 then (if false == (t2.2 == 0) then ((downhaullaw26_alive.f k).bind fun t4 => (some t4)) else (some false)) else (some false)) else (if t1.2 == t2.2 then (if false == (t2.2 == 0) then ((downhaullaw26_alive.f k).bind fun t5 => (some t5)) else (some false)) else (some false))))) (fun y1 => ((downhaulref26_New.f (Int.tmod (I64 a0) 301) a1).bind fun t6 => (if t1.2 != t6.2 then (if t1.2 == t6.2 then (if true == (t6.2 == 0) then ((downhaullaw26_alive.f k).bind fun t7 => (some t7)) else (some false)) else (some false)) else (if t6.2 != 0 then (if t1.2 == t6.2 then (if true == (t6.2 == 0) then ((downhaullaw26_alive.f k).bind fun t8 => (some t8)) else (some false)) else (some false)) else ((downhaullaw26_far.f k a2).bind fun t9 => (if t9 then (if t1.2 == t6.2 then (if true == (t6.2 == 0) then ((downhaullaw26_alive.f k).bind fun t10 => (some t10)) else (some false)) else (some false)) else ((downhaullaw26_short.f a2).bind fun t11 => ((downhaullaw26_RbufPlays.l1 k t11 0 t6.1 y1).bind fun t12 => brk t12 (fun r => some r) (fun u1 => ((downhaullaw26_alive.f k).bind fun t13 => (some t13))))))))))))
theorem downhaullaw26_RbufPlays_ok (k : Nat) (a0 : Int) (a1 : Int) (a2 : List T_downhaullaw26_Step) (r : Bool) (hm : downhaullaw26_RbufPlays.f k a0 a1 a2 = some r) (B G : Asn) (A1 : Option Addr) (c1 : Nat) (hs1 : Sl kT_downhaullaw26_Step B A1 c1 a2) (w : World) (hs : St B G [] w) :
    Calls Try.prog 4 #[.int .u16 a0, .int .u32 a1, .slice A1 a2.length c1] w (Post (X := Asn) (fun x => .bool r) (fun x => x) G (fun x => []) (fun x => (Ext B x))) := by
  unfold downhaullaw26_RbufPlays.f at hm
  refine calls_W (F := Try.f4) Try.func4 rfl (by kernel_rfl) (L := []) ?_ hs
  refine w_seq 2 3 (by kernel_rfl) ?_
  refine w_region (by kernel_rfl) ?_
  refine o_run 1 [0, 1, 2] (l := []) .nil (E' := [(0, .int .u16 a0), (1, .int .u32 a1), (2, .slice A1 a2.length c1)]) (by kernel_rfl) ?_
  refine o_end (by kernel_rfl) ?_
  refine e_seq ?_
  refine w_seq 6 7 (by kernel_rfl) ?_
  refine w_region (by kernel_rfl) ?_
  refine o_run 4 [1, 2, 7] (l := []) .nil (E' := [(1, .int .u32 a1), (2, .slice A1 a2.length c1), (7, .int .i64 (Int.tmod (I64 a0) 301))]) (by kernel_rfl) ?_
  refine o_end (by kernel_rfl) ?_
  refine e_seq ?_
  refine w_seq 14 15 (by kernel_rfl) ?_
  refine w_region (by kernel_rfl) ?_
  refine o_run 2 [1, 2, 7, 19, 20] (l := []) .nil (E' := [(1, .int .u32 a1), (2, .slice A1 a2.length c1), (7, .int .i64 (Int.tmod (I64 a0) 301)), (19, .int .i64 (Int.tmod (I64 a0) 301)), (20, .int .u32 a1)]) (by kernel_rfl) ?_
  obtain ⟨t1, hx1, hm⟩ := bind_some hm
  refine t_env [1, 2, 7, 19, 20] (E' := [(1, .int .u32 a1), (2, .slice A1 a2.length c1), (7, .int .i64 (Int.tmod (I64 a0) 301)), (19, .int .i64 (Int.tmod (I64 a0) 301)), (20, .int .u32 a1)]) (by kernel_rfl) ?_
  refine o_stp ?_ (by kernel_rfl)
  refine s_call 21 7 #[.int .i64 (Int.tmod (I64 a0) 301), .int .u32 a1] [] [] (by kernel_rfl) (by kernel_rfl) (fun w hs => rbuf_New_ok (Int.tmod (I64 a0) 301) a1 t1 hx1 B _ w (St.cast (by kernel_rfl) hs)) (fun x hx => ?_)
  obtain ⟨g1, g2, A2, c2, A3, c3⟩ := x
  have hs2 := hx
  rcases optE_cases hm with ⟨ho1, hm⟩ | ⟨y1, ho1, hm⟩
  · refine t_EL (E' := (21, .tuple #[.pointer none, .int .i64 t1.2]) :: [(1, .int .u32 a1), (2, .slice A1 a2.length c1), (7, .int .i64 (Int.tmod (I64 a0) 301)), (19, .int .i64 (Int.tmod (I64 a0) 301)), (20, .int .u32 a1)]) (L' := []) (by rw [ho1]; kernel_rfl) ?_
    refine o_run 5 [1, 2, 7, 8, 9] (l := []) .nil (E' := [(1, .int .u32 a1), (2, .slice A1 a2.length c1), (7, .int .i64 (Int.tmod (I64 a0) 301)), (8, .pointer none), (9, .int .i64 t1.2)]) (by kernel_rfl) ?_
    refine o_end (by kernel_rfl) ?_
    refine e_seq ?_
    refine w_seq 30 31 (by kernel_rfl) ?_
    refine w_region (by kernel_rfl) ?_
    refine o_run 2 [2, 8, 9, 25, 26] (l := []) .nil (E' := [(2, .slice A1 a2.length c1), (8, .pointer none), (9, .int .i64 t1.2), (25, .int .i64 (Int.tmod (I64 a0) 301)), (26, .int .u32 a1)]) (by kernel_rfl) ?_
    obtain ⟨t2, hx2, hm⟩ := bind_some hm
    refine o_stp ?_ (by kernel_rfl)
    refine s_call 27 15 #[.int .i64 (Int.tmod (I64 a0) 301), .int .u32 a1] [] [] (by kernel_rfl) (by kernel_rfl) (fun w hs => downhaulref26_New_ok (Int.tmod (I64 a0) 301) a1 t2 hx2 B _ w (St.cast (by kernel_rfl) hs)) (fun x hx => ?_)
    obtain ⟨A4, c4, A5, c5, A6, c6⟩ := x
    have hs3 := hx
    refine t_L (L' := [.own A5 t2.1.xCame.length c5 (rowOf encB t2.1.xCame) 1 4, .own A6 t2.1.xOut.length c6 (rowOf (encI .u8) t2.1.xOut) 1 5]) (by kernel_rfl) ?_
    refine o_run 3 [2, 8, 9, 28, 29] (l := []) .nil (E' := [(2, .slice A1 a2.length c1), (8, .pointer none), (9, .int .i64 t1.2), (28, .agg #[.int .i64 t2.1.xRoom, .int .u32 t2.1.xNext, .slice A4 t2.1.xIn.length c4, .slice A5 t2.1.xCame.length c5, .slice A6 t2.1.xOut.length c6, .int .u32 t2.1.xLast, .bool t2.1.xHas]), (29, .int .i64 t2.2)]) (by kernel_rfl) ?_
    refine o_stp ?_ (by kernel_rfl)
    refine s_new 10 (fun g3 => .pointer (some ⟨g3, 0, none⟩)) [.int .i64 0, .int .u32 0, .slice none 0 0, .slice none 0 0, .slice none 0 0, .int .u32 0, .bool false] 42 (fun _ => by kernel_rfl) (fun g3 => ?_)
    refine o_stp ?_ (by kernel_rfl)
    refine s_store 0 g3 [.int .i64 0, .int .u32 0, .slice none 0 0, .slice none 0 0, .slice none 0 0, .int .u32 0, .bool false] 42 [(0, .int .i64 t2.1.xRoom), (1, .int .u32 t2.1.xNext), (2, .slice A4 t2.1.xIn.length c4), (3, .slice A5 t2.1.xCame.length c5), (4, .slice A6 t2.1.xOut.length c6), (5, .int .u32 t2.1.xLast), (6, .bool t2.1.xHas)] (by kernel_rfl) (by kernel_rfl) (by kernel_rfl) ?_
    refine t_L (L' := [.blk g3 [.int .i64 t2.1.xRoom, .int .u32 t2.1.xNext, .slice A4 t2.1.xIn.length c4, .slice A5 t2.1.xCame.length c5, .slice A6 t2.1.xOut.length c6, .int .u32 t2.1.xLast, .bool t2.1.xHas] 42, .own A5 t2.1.xCame.length c5 (rowOf encB t2.1.xCame) 1 4, .own A6 t2.1.xOut.length c6 (rowOf (encI .u8) t2.1.xOut) 1 5]) (by kernel_rfl) ?_
    refine o_run 1 [2, 8, 9, 10, 11] (l := []) .nil (E' := [(2, .slice A1 a2.length c1), (8, .pointer none), (9, .int .i64 t1.2), (10, .pointer (some ⟨g3, 0, none⟩)), (11, .int .i64 t2.2)]) (by kernel_rfl) ?_
    refine o_end (by kernel_rfl) ?_
    refine e_seq ?_
    refine w_seq 62 63 (by kernel_rfl) ?_
    refine w_seq 124 125 (by kernel_rfl) ?_
    refine w_region (by kernel_rfl) ?_
    refine o_run 4 [2, 8, 9, 10, 11, 33] (l := []) .nil (E' := [(2, .slice A1 a2.length c1), (8, .pointer none), (9, .int .i64 t1.2), (10, .pointer (some ⟨g3, 0, none⟩)), (11, .int .i64 t2.2), (33, .bool (t1.2 != t2.2))]) (by kernel_rfl) ?_
    refine o_split 33 (t1.2 != t2.2) (by kernel_rfl) (fun hb1 => ?_) (fun hb1 => ?_)
    · replace hm := ite_t hb1 hm
      refine o_run 11 [2, 8, 9, 10, 11, 44] (l := []) .nil (E' := [(2, .slice A1 a2.length c1), (8, .pointer none), (9, .int .i64 t1.2), (10, .pointer (some ⟨g3, 0, none⟩)), (11, .int .i64 t2.2), (44, .bool true)]) (by kernel_rfl) ?_
      refine o_end (by kernel_rfl) ?_
      refine e_seq ?_
      refine w_cond_t (.tmp 44) 250 251 (by kernel_rfl) (by kernel_rfl) ?_
      refine w_seq 500 501 (by kernel_rfl) ?_
      refine w_region (by kernel_rfl) ?_
      refine o_run 4 [8, 11, 48] (l := []) .nil (E' := [(8, .pointer none), (11, .int .i64 t2.2), (48, .bool (t1.2 == t2.2))]) (by kernel_rfl) ?_
      refine o_split 48 (t1.2 == t2.2) (by kernel_rfl) (fun hb2 => ?_) (fun hb2 => ?_)
      · replace hm := ite_t hb2 hm
        refine o_run 7 [55] (l := []) .nil (E' := [(55, .bool (false == (t2.2 == 0)))]) (by kernel_rfl) ?_
        refine o_split 55 (false == (t2.2 == 0)) (by kernel_rfl) (fun hb3 => ?_) (fun hb3 => ?_)
        · replace hm := ite_t hb3 hm
          obtain ⟨t3, hx3, hm⟩ := bind_some hm
          refine o_stp ?_ (by kernel_rfl)
          refine s_call 56 9 #[] [] [0, 1, 2] (by kernel_rfl) (by kernel_rfl) (fun w hs => downhaullaw26_alive_ok k t3 hx3 B _ w (St.cast (by kernel_rfl) hs)) (fun B1 hx => ?_)
          have hx4 := hx
          refine t_L (L' := [.blk g3 [.int .i64 t2.1.xRoom, .int .u32 t2.1.xNext, .slice A4 t2.1.xIn.length c4, .slice A5 t2.1.xCame.length c5, .slice A6 t2.1.xOut.length c6, .int .u32 t2.1.xLast, .bool t2.1.xHas] 42, .own A5 t2.1.xCame.length c5 (rowOf encB t2.1.xCame) 1 4, .own A6 t2.1.xOut.length c6 (rowOf (encI .u8) t2.1.xOut) 1 5]) (by kernel_rfl) ?_
          refine o_run 2 [6] (l := []) .nil (E' := [(6, .bool t3)]) (by kernel_rfl) ?_
          refine o_end (by kernel_rfl) ?_
          refine e_seq ?_
          refine w_ret (by kernel_rfl) ?_
          obtain rfl := Option.some.inj hm
          exact e_retP B1 (.bool t3) [] (by kernel_rfl) (by kernel_rfl) rfl (by kernel_rfl) (by kernel_rfl) hx4
        · replace hm := ite_f hb3 hm
          refine o_run 3 [6] (l := []) .nil (E' := [(6, .bool false)]) (by kernel_rfl) ?_
          refine o_end (by kernel_rfl) ?_
          refine e_seq ?_
          refine w_ret (by kernel_rfl) ?_
          obtain rfl := Option.some.inj hm
          exact e_retP B (.bool false) [] (by kernel_rfl) (by kernel_rfl) rfl (by kernel_rfl) (by kernel_rfl) (Ext.refl _)
      · replace hm := ite_f hb2 hm
        refine o_run 10 [6] (l := []) .nil (E' := [(6, .bool false)]) (by kernel_rfl) ?_
        refine o_end (by kernel_rfl) ?_
        refine e_seq ?_
        refine w_ret (by kernel_rfl) ?_
        obtain rfl := Option.some.inj hm
        exact e_retP B (.bool false) [] (by kernel_rfl) (by kernel_rfl) rfl (by kernel_rfl) (by kernel_rfl) (Ext.refl _)
    · replace hm := ite_f hb1 hm
      refine o_run 4 [2, 8, 9, 10, 11, 37] (l := []) .nil (E' := [(2, .slice A1 a2.length c1), (8, .pointer none), (9, .int .i64 t1.2), (10, .pointer (some ⟨g3, 0, none⟩)), (11, .int .i64 t2.2), (37, .bool (t2.2 != 0))]) (by kernel_rfl) ?_
      refine o_split 37 (t2.2 != 0) (by kernel_rfl) (fun hb4 => ?_) (fun hb4 => ?_)
      · replace hm := ite_t hb4 hm
        refine o_run 7 [2, 8, 9, 10, 11, 44] (l := []) .nil (E' := [(2, .slice A1 a2.length c1), (8, .pointer none), (9, .int .i64 t1.2), (10, .pointer (some ⟨g3, 0, none⟩)), (11, .int .i64 t2.2), (44, .bool true)]) (by kernel_rfl) ?_
        refine o_end (by kernel_rfl) ?_
        refine e_seq ?_
        refine w_cond_t (.tmp 44) 250 251 (by kernel_rfl) (by kernel_rfl) ?_
        refine w_seq 500 501 (by kernel_rfl) ?_
        refine w_region (by kernel_rfl) ?_
        refine o_run 4 [8, 11, 48] (l := []) .nil (E' := [(8, .pointer none), (11, .int .i64 t2.2), (48, .bool (t1.2 == t2.2))]) (by kernel_rfl) ?_
        refine o_split 48 (t1.2 == t2.2) (by kernel_rfl) (fun hb5 => ?_) (fun hb5 => ?_)
        · replace hm := ite_t hb5 hm
          refine o_run 7 [55] (l := []) .nil (E' := [(55, .bool (false == (t2.2 == 0)))]) (by kernel_rfl) ?_
          refine o_split 55 (false == (t2.2 == 0)) (by kernel_rfl) (fun hb6 => ?_) (fun hb6 => ?_)
          · replace hm := ite_t hb6 hm
            obtain ⟨t4, hx5, hm⟩ := bind_some hm
            refine o_stp ?_ (by kernel_rfl)
            refine s_call 56 9 #[] [] [0, 1, 2] (by kernel_rfl) (by kernel_rfl) (fun w hs => downhaullaw26_alive_ok k t4 hx5 B _ w (St.cast (by kernel_rfl) hs)) (fun B2 hx => ?_)
            have hx6 := hx
            refine t_L (L' := [.blk g3 [.int .i64 t2.1.xRoom, .int .u32 t2.1.xNext, .slice A4 t2.1.xIn.length c4, .slice A5 t2.1.xCame.length c5, .slice A6 t2.1.xOut.length c6, .int .u32 t2.1.xLast, .bool t2.1.xHas] 42, .own A5 t2.1.xCame.length c5 (rowOf encB t2.1.xCame) 1 4, .own A6 t2.1.xOut.length c6 (rowOf (encI .u8) t2.1.xOut) 1 5]) (by kernel_rfl) ?_
            refine o_run 2 [6] (l := []) .nil (E' := [(6, .bool t4)]) (by kernel_rfl) ?_
            refine o_end (by kernel_rfl) ?_
            refine e_seq ?_
            refine w_ret (by kernel_rfl) ?_
            obtain rfl := Option.some.inj hm
            exact e_retP B2 (.bool t4) [] (by kernel_rfl) (by kernel_rfl) rfl (by kernel_rfl) (by kernel_rfl) hx6
          · replace hm := ite_f hb6 hm
            refine o_run 3 [6] (l := []) .nil (E' := [(6, .bool false)]) (by kernel_rfl) ?_
            refine o_end (by kernel_rfl) ?_
            refine e_seq ?_
            refine w_ret (by kernel_rfl) ?_
            obtain rfl := Option.some.inj hm
            exact e_retP B (.bool false) [] (by kernel_rfl) (by kernel_rfl) rfl (by kernel_rfl) (by kernel_rfl) (Ext.refl _)
        · replace hm := ite_f hb5 hm
          refine o_run 10 [6] (l := []) .nil (E' := [(6, .bool false)]) (by kernel_rfl) ?_
          refine o_end (by kernel_rfl) ?_
          refine e_seq ?_
          refine w_ret (by kernel_rfl) ?_
          obtain rfl := Option.some.inj hm
          exact e_retP B (.bool false) [] (by kernel_rfl) (by kernel_rfl) rfl (by kernel_rfl) (by kernel_rfl) (Ext.refl _)
      · replace hm := ite_f hb4 hm
        refine o_run 7 [2, 8, 9, 10, 11, 44] (l := []) .nil (E' := [(2, .slice A1 a2.length c1), (8, .pointer none), (9, .int .i64 t1.2), (10, .pointer (some ⟨g3, 0, none⟩)), (11, .int .i64 t2.2), (44, .bool true)]) (by kernel_rfl) ?_
        refine o_end (by kernel_rfl) ?_
        refine e_seq ?_
        refine w_cond_t (.tmp 44) 250 251 (by kernel_rfl) (by kernel_rfl) ?_
        refine w_seq 500 501 (by kernel_rfl) ?_
        refine w_region (by kernel_rfl) ?_
        refine o_run 4 [8, 11, 48] (l := []) .nil (E' := [(8, .pointer none), (11, .int .i64 t2.2), (48, .bool (t1.2 == t2.2))]) (by kernel_rfl) ?_
        refine o_split 48 (t1.2 == t2.2) (by kernel_rfl) (fun hb7 => ?_) (fun hb7 => ?_)
        · replace hm := ite_t hb7 hm
          refine o_run 7 [55] (l := []) .nil (E' := [(55, .bool (false == (t2.2 == 0)))]) (by kernel_rfl) ?_
          refine o_split 55 (false == (t2.2 == 0)) (by kernel_rfl) (fun hb8 => ?_) (fun hb8 => ?_)
          · replace hm := ite_t hb8 hm
            obtain ⟨t5, hx7, hm⟩ := bind_some hm
            refine o_stp ?_ (by kernel_rfl)
            refine s_call 56 9 #[] [] [0, 1, 2] (by kernel_rfl) (by kernel_rfl) (fun w hs => downhaullaw26_alive_ok k t5 hx7 B _ w (St.cast (by kernel_rfl) hs)) (fun B3 hx => ?_)
            have hx8 := hx
            refine t_L (L' := [.blk g3 [.int .i64 t2.1.xRoom, .int .u32 t2.1.xNext, .slice A4 t2.1.xIn.length c4, .slice A5 t2.1.xCame.length c5, .slice A6 t2.1.xOut.length c6, .int .u32 t2.1.xLast, .bool t2.1.xHas] 42, .own A5 t2.1.xCame.length c5 (rowOf encB t2.1.xCame) 1 4, .own A6 t2.1.xOut.length c6 (rowOf (encI .u8) t2.1.xOut) 1 5]) (by kernel_rfl) ?_
            refine o_run 2 [6] (l := []) .nil (E' := [(6, .bool t5)]) (by kernel_rfl) ?_
            refine o_end (by kernel_rfl) ?_
            refine e_seq ?_
            refine w_ret (by kernel_rfl) ?_
            obtain rfl := Option.some.inj hm
            exact e_retP B3 (.bool t5) [] (by kernel_rfl) (by kernel_rfl) rfl (by kernel_rfl) (by kernel_rfl) hx8
          · replace hm := ite_f hb8 hm
            refine o_run 3 [6] (l := []) .nil (E' := [(6, .bool false)]) (by kernel_rfl) ?_
            refine o_end (by kernel_rfl) ?_
            refine e_seq ?_
            refine w_ret (by kernel_rfl) ?_
            obtain rfl := Option.some.inj hm
            exact e_retP B (.bool false) [] (by kernel_rfl) (by kernel_rfl) rfl (by kernel_rfl) (by kernel_rfl) (Ext.refl _)
        · replace hm := ite_f hb7 hm
          refine o_run 10 [6] (l := []) .nil (E' := [(6, .bool false)]) (by kernel_rfl) ?_
          refine o_end (by kernel_rfl) ?_
          refine e_seq ?_
          refine w_ret (by kernel_rfl) ?_
          obtain rfl := Option.some.inj hm
          exact e_retP B (.bool false) [] (by kernel_rfl) (by kernel_rfl) rfl (by kernel_rfl) (by kernel_rfl) (Ext.refl _)
  · replace hs2 := hs2 y1 ho1
    refine t_EL (E' := (21, .tuple #[.pointer (some ⟨g1, 0, none⟩), .int .i64 t1.2]) :: [(1, .int .u32 a1), (2, .slice A1 a2.length c1), (7, .int .i64 (Int.tmod (I64 a0) 301)), (19, .int .i64 (Int.tmod (I64 a0) 301)), (20, .int .u32 a1)]) (L' := [.blk g1 [.pointer (some ⟨g2, 0, none⟩), .slice A3 y1.xbytes.length c3, .int .i64 y1.xbegin, .int .i64 y1.xn, .int .u32 y1.xlast, .bool y1.xkept] 50, .blk g2 [.bool y1.xBoard.xmade, .int .u32 y1.xBoard.xfirst, .slice A2 y1.xBoard.xruns.length c2] 76, .own A3 y1.xbytes.length c3 (rowOf (encI .u8) y1.xbytes) 1 5]) (by rw [ho1]; kernel_rfl) ?_
    refine o_run 5 [1, 2, 7, 8, 9] (l := []) .nil (E' := [(1, .int .u32 a1), (2, .slice A1 a2.length c1), (7, .int .i64 (Int.tmod (I64 a0) 301)), (8, .pointer (some ⟨g1, 0, none⟩)), (9, .int .i64 t1.2)]) (by kernel_rfl) ?_
    refine o_end (by kernel_rfl) ?_
    refine e_seq ?_
    refine w_seq 30 31 (by kernel_rfl) ?_
    refine w_region (by kernel_rfl) ?_
    refine o_run 2 [2, 8, 9, 25, 26] (l := []) .nil (E' := [(2, .slice A1 a2.length c1), (8, .pointer (some ⟨g1, 0, none⟩)), (9, .int .i64 t1.2), (25, .int .i64 (Int.tmod (I64 a0) 301)), (26, .int .u32 a1)]) (by kernel_rfl) ?_
    obtain ⟨t6, hx9, hm⟩ := bind_some hm
    refine o_stp ?_ (by kernel_rfl)
    refine s_call 27 15 #[.int .i64 (Int.tmod (I64 a0) 301), .int .u32 a1] [] [0, 1, 2] (by kernel_rfl) (by kernel_rfl) (fun w hs => downhaulref26_New_ok (Int.tmod (I64 a0) 301) a1 t6 hx9 B _ w (St.cast (by kernel_rfl) hs)) (fun x hx => ?_)
    obtain ⟨A7, c7, A8, c8, A9, c9⟩ := x
    have hs4 := hx
    refine t_L (L' := [.own A8 t6.1.xCame.length c8 (rowOf encB t6.1.xCame) 1 4, .own A9 t6.1.xOut.length c9 (rowOf (encI .u8) t6.1.xOut) 1 5, .blk g1 [.pointer (some ⟨g2, 0, none⟩), .slice A3 y1.xbytes.length c3, .int .i64 y1.xbegin, .int .i64 y1.xn, .int .u32 y1.xlast, .bool y1.xkept] 50, .blk g2 [.bool y1.xBoard.xmade, .int .u32 y1.xBoard.xfirst, .slice A2 y1.xBoard.xruns.length c2] 76, .own A3 y1.xbytes.length c3 (rowOf (encI .u8) y1.xbytes) 1 5]) (by kernel_rfl) ?_
    refine o_run 3 [2, 8, 9, 28, 29] (l := []) .nil (E' := [(2, .slice A1 a2.length c1), (8, .pointer (some ⟨g1, 0, none⟩)), (9, .int .i64 t1.2), (28, .agg #[.int .i64 t6.1.xRoom, .int .u32 t6.1.xNext, .slice A7 t6.1.xIn.length c7, .slice A8 t6.1.xCame.length c8, .slice A9 t6.1.xOut.length c9, .int .u32 t6.1.xLast, .bool t6.1.xHas]), (29, .int .i64 t6.2)]) (by kernel_rfl) ?_
    refine o_stp ?_ (by kernel_rfl)
    refine s_new 10 (fun g4 => .pointer (some ⟨g4, 0, none⟩)) [.int .i64 0, .int .u32 0, .slice none 0 0, .slice none 0 0, .slice none 0 0, .int .u32 0, .bool false] 42 (fun _ => by kernel_rfl) (fun g4 => ?_)
    refine o_stp ?_ (by kernel_rfl)
    refine s_store 0 g4 [.int .i64 0, .int .u32 0, .slice none 0 0, .slice none 0 0, .slice none 0 0, .int .u32 0, .bool false] 42 [(0, .int .i64 t6.1.xRoom), (1, .int .u32 t6.1.xNext), (2, .slice A7 t6.1.xIn.length c7), (3, .slice A8 t6.1.xCame.length c8), (4, .slice A9 t6.1.xOut.length c9), (5, .int .u32 t6.1.xLast), (6, .bool t6.1.xHas)] (by kernel_rfl) (by kernel_rfl) (by kernel_rfl) ?_
    refine t_L (L' := [.blk g4 [.int .i64 t6.1.xRoom, .int .u32 t6.1.xNext, .slice A7 t6.1.xIn.length c7, .slice A8 t6.1.xCame.length c8, .slice A9 t6.1.xOut.length c9, .int .u32 t6.1.xLast, .bool t6.1.xHas] 42, .own A8 t6.1.xCame.length c8 (rowOf encB t6.1.xCame) 1 4, .own A9 t6.1.xOut.length c9 (rowOf (encI .u8) t6.1.xOut) 1 5, .blk g1 [.pointer (some ⟨g2, 0, none⟩), .slice A3 y1.xbytes.length c3, .int .i64 y1.xbegin, .int .i64 y1.xn, .int .u32 y1.xlast, .bool y1.xkept] 50, .blk g2 [.bool y1.xBoard.xmade, .int .u32 y1.xBoard.xfirst, .slice A2 y1.xBoard.xruns.length c2] 76, .own A3 y1.xbytes.length c3 (rowOf (encI .u8) y1.xbytes) 1 5]) (by kernel_rfl) ?_
    refine o_run 1 [2, 8, 9, 10, 11] (l := []) .nil (E' := [(2, .slice A1 a2.length c1), (8, .pointer (some ⟨g1, 0, none⟩)), (9, .int .i64 t1.2), (10, .pointer (some ⟨g4, 0, none⟩)), (11, .int .i64 t6.2)]) (by kernel_rfl) ?_
    refine o_end (by kernel_rfl) ?_
    refine e_seq ?_
    refine w_seq 62 63 (by kernel_rfl) ?_
    refine w_seq 124 125 (by kernel_rfl) ?_
    refine w_region (by kernel_rfl) ?_
    refine o_run 4 [2, 8, 9, 10, 11, 33] (l := []) .nil (E' := [(2, .slice A1 a2.length c1), (8, .pointer (some ⟨g1, 0, none⟩)), (9, .int .i64 t1.2), (10, .pointer (some ⟨g4, 0, none⟩)), (11, .int .i64 t6.2), (33, .bool (t1.2 != t6.2))]) (by kernel_rfl) ?_
    refine o_split 33 (t1.2 != t6.2) (by kernel_rfl) (fun hb9 => ?_) (fun hb9 => ?_)
    · replace hm := ite_t hb9 hm
      refine o_run 11 [2, 8, 9, 10, 11, 44] (l := []) .nil (E' := [(2, .slice A1 a2.length c1), (8, .pointer (some ⟨g1, 0, none⟩)), (9, .int .i64 t1.2), (10, .pointer (some ⟨g4, 0, none⟩)), (11, .int .i64 t6.2), (44, .bool true)]) (by kernel_rfl) ?_
      refine o_end (by kernel_rfl) ?_
      refine e_seq ?_
      refine w_cond_t (.tmp 44) 250 251 (by kernel_rfl) (by kernel_rfl) ?_
      refine w_seq 500 501 (by kernel_rfl) ?_
      refine w_region (by kernel_rfl) ?_
      refine o_run 4 [8, 11, 48] (l := []) .nil (E' := [(8, .pointer (some ⟨g1, 0, none⟩)), (11, .int .i64 t6.2), (48, .bool (t1.2 == t6.2))]) (by kernel_rfl) ?_
      refine o_split 48 (t1.2 == t6.2) (by kernel_rfl) (fun hb10 => ?_) (fun hb10 => ?_)
      · replace hm := ite_t hb10 hm
        refine o_run 7 [55] (l := []) .nil (E' := [(55, .bool (true == (t6.2 == 0)))]) (by kernel_rfl) ?_
        refine o_split 55 (true == (t6.2 == 0)) (by kernel_rfl) (fun hb11 => ?_) (fun hb11 => ?_)
        · replace hm := ite_t hb11 hm
          obtain ⟨t7, hx10, hm⟩ := bind_some hm
          refine o_stp ?_ (by kernel_rfl)
          refine s_call 56 9 #[] [] [0, 1, 2, 3, 4, 5] (by kernel_rfl) (by kernel_rfl) (fun w hs => downhaullaw26_alive_ok k t7 hx10 B _ w (St.cast (by kernel_rfl) hs)) (fun B4 hx => ?_)
          have hx11 := hx
          refine t_L (L' := [.blk g4 [.int .i64 t6.1.xRoom, .int .u32 t6.1.xNext, .slice A7 t6.1.xIn.length c7, .slice A8 t6.1.xCame.length c8, .slice A9 t6.1.xOut.length c9, .int .u32 t6.1.xLast, .bool t6.1.xHas] 42, .own A8 t6.1.xCame.length c8 (rowOf encB t6.1.xCame) 1 4, .own A9 t6.1.xOut.length c9 (rowOf (encI .u8) t6.1.xOut) 1 5, .blk g1 [.pointer (some ⟨g2, 0, none⟩), .slice A3 y1.xbytes.length c3, .int .i64 y1.xbegin, .int .i64 y1.xn, .int .u32 y1.xlast, .bool y1.xkept] 50, .blk g2 [.bool y1.xBoard.xmade, .int .u32 y1.xBoard.xfirst, .slice A2 y1.xBoard.xruns.length c2] 76, .own A3 y1.xbytes.length c3 (rowOf (encI .u8) y1.xbytes) 1 5]) (by kernel_rfl) ?_
          refine o_run 2 [6] (l := []) .nil (E' := [(6, .bool t7)]) (by kernel_rfl) ?_
          refine o_end (by kernel_rfl) ?_
          refine e_seq ?_
          refine w_ret (by kernel_rfl) ?_
          obtain rfl := Option.some.inj hm
          exact e_retP B4 (.bool t7) [] (by kernel_rfl) (by kernel_rfl) rfl (by kernel_rfl) (by kernel_rfl) hx11
        · replace hm := ite_f hb11 hm
          refine o_run 3 [6] (l := []) .nil (E' := [(6, .bool false)]) (by kernel_rfl) ?_
          refine o_end (by kernel_rfl) ?_
          refine e_seq ?_
          refine w_ret (by kernel_rfl) ?_
          obtain rfl := Option.some.inj hm
          exact e_retP B (.bool false) [] (by kernel_rfl) (by kernel_rfl) rfl (by kernel_rfl) (by kernel_rfl) (Ext.refl _)
      · replace hm := ite_f hb10 hm
        refine o_run 10 [6] (l := []) .nil (E' := [(6, .bool false)]) (by kernel_rfl) ?_
        refine o_end (by kernel_rfl) ?_
        refine e_seq ?_
        refine w_ret (by kernel_rfl) ?_
        obtain rfl := Option.some.inj hm
        exact e_retP B (.bool false) [] (by kernel_rfl) (by kernel_rfl) rfl (by kernel_rfl) (by kernel_rfl) (Ext.refl _)
    · replace hm := ite_f hb9 hm
      refine o_run 4 [2, 8, 9, 10, 11, 37] (l := []) .nil (E' := [(2, .slice A1 a2.length c1), (8, .pointer (some ⟨g1, 0, none⟩)), (9, .int .i64 t1.2), (10, .pointer (some ⟨g4, 0, none⟩)), (11, .int .i64 t6.2), (37, .bool (t6.2 != 0))]) (by kernel_rfl) ?_
      refine o_split 37 (t6.2 != 0) (by kernel_rfl) (fun hb12 => ?_) (fun hb12 => ?_)
      · replace hm := ite_t hb12 hm
        refine o_run 7 [2, 8, 9, 10, 11, 44] (l := []) .nil (E' := [(2, .slice A1 a2.length c1), (8, .pointer (some ⟨g1, 0, none⟩)), (9, .int .i64 t1.2), (10, .pointer (some ⟨g4, 0, none⟩)), (11, .int .i64 t6.2), (44, .bool true)]) (by kernel_rfl) ?_
        refine o_end (by kernel_rfl) ?_
        refine e_seq ?_
        refine w_cond_t (.tmp 44) 250 251 (by kernel_rfl) (by kernel_rfl) ?_
        refine w_seq 500 501 (by kernel_rfl) ?_
        refine w_region (by kernel_rfl) ?_
        refine o_run 4 [8, 11, 48] (l := []) .nil (E' := [(8, .pointer (some ⟨g1, 0, none⟩)), (11, .int .i64 t6.2), (48, .bool (t1.2 == t6.2))]) (by kernel_rfl) ?_
        refine o_split 48 (t1.2 == t6.2) (by kernel_rfl) (fun hb13 => ?_) (fun hb13 => ?_)
        · replace hm := ite_t hb13 hm
          refine o_run 7 [55] (l := []) .nil (E' := [(55, .bool (true == (t6.2 == 0)))]) (by kernel_rfl) ?_
          refine o_split 55 (true == (t6.2 == 0)) (by kernel_rfl) (fun hb14 => ?_) (fun hb14 => ?_)
          · replace hm := ite_t hb14 hm
            obtain ⟨t8, hx12, hm⟩ := bind_some hm
            refine o_stp ?_ (by kernel_rfl)
            refine s_call 56 9 #[] [] [0, 1, 2, 3, 4, 5] (by kernel_rfl) (by kernel_rfl) (fun w hs => downhaullaw26_alive_ok k t8 hx12 B _ w (St.cast (by kernel_rfl) hs)) (fun B5 hx => ?_)
            have hx13 := hx
            refine t_L (L' := [.blk g4 [.int .i64 t6.1.xRoom, .int .u32 t6.1.xNext, .slice A7 t6.1.xIn.length c7, .slice A8 t6.1.xCame.length c8, .slice A9 t6.1.xOut.length c9, .int .u32 t6.1.xLast, .bool t6.1.xHas] 42, .own A8 t6.1.xCame.length c8 (rowOf encB t6.1.xCame) 1 4, .own A9 t6.1.xOut.length c9 (rowOf (encI .u8) t6.1.xOut) 1 5, .blk g1 [.pointer (some ⟨g2, 0, none⟩), .slice A3 y1.xbytes.length c3, .int .i64 y1.xbegin, .int .i64 y1.xn, .int .u32 y1.xlast, .bool y1.xkept] 50, .blk g2 [.bool y1.xBoard.xmade, .int .u32 y1.xBoard.xfirst, .slice A2 y1.xBoard.xruns.length c2] 76, .own A3 y1.xbytes.length c3 (rowOf (encI .u8) y1.xbytes) 1 5]) (by kernel_rfl) ?_
            refine o_run 2 [6] (l := []) .nil (E' := [(6, .bool t8)]) (by kernel_rfl) ?_
            refine o_end (by kernel_rfl) ?_
            refine e_seq ?_
            refine w_ret (by kernel_rfl) ?_
            obtain rfl := Option.some.inj hm
            exact e_retP B5 (.bool t8) [] (by kernel_rfl) (by kernel_rfl) rfl (by kernel_rfl) (by kernel_rfl) hx13
          · replace hm := ite_f hb14 hm
            refine o_run 3 [6] (l := []) .nil (E' := [(6, .bool false)]) (by kernel_rfl) ?_
            refine o_end (by kernel_rfl) ?_
            refine e_seq ?_
            refine w_ret (by kernel_rfl) ?_
            obtain rfl := Option.some.inj hm
            exact e_retP B (.bool false) [] (by kernel_rfl) (by kernel_rfl) rfl (by kernel_rfl) (by kernel_rfl) (Ext.refl _)
        · replace hm := ite_f hb13 hm
          refine o_run 10 [6] (l := []) .nil (E' := [(6, .bool false)]) (by kernel_rfl) ?_
          refine o_end (by kernel_rfl) ?_
          refine e_seq ?_
          refine w_ret (by kernel_rfl) ?_
          obtain rfl := Option.some.inj hm
          exact e_retP B (.bool false) [] (by kernel_rfl) (by kernel_rfl) rfl (by kernel_rfl) (by kernel_rfl) (Ext.refl _)
      · replace hm := ite_f hb12 hm
        refine o_run 5 [2, 8, 9, 10, 11, 41, 42] (l := []) .nil (E' := [(2, .slice A1 a2.length c1), (8, .pointer (some ⟨g1, 0, none⟩)), (9, .int .i64 t1.2), (10, .pointer (some ⟨g4, 0, none⟩)), (11, .int .i64 t6.2), (41, .bool false), (42, .slice A1 a2.length c1)]) (by kernel_rfl) ?_
        obtain ⟨t9, hx14, hm⟩ := bind_some hm
        refine o_stp ?_ (by kernel_rfl)
        refine s_call 43 8 #[.slice A1 a2.length c1] [] [0, 1, 2, 3, 4, 5] (by kernel_rfl) (by kernel_rfl) (fun w hs => downhaullaw26_far_ok k a2 t9 hx14 B _ A1 c1 hs1 w (St.cast (by kernel_rfl) hs)) (fun _ hx => ?_)
        refine t_L (L' := [.blk g4 [.int .i64 t6.1.xRoom, .int .u32 t6.1.xNext, .slice A7 t6.1.xIn.length c7, .slice A8 t6.1.xCame.length c8, .slice A9 t6.1.xOut.length c9, .int .u32 t6.1.xLast, .bool t6.1.xHas] 42, .own A8 t6.1.xCame.length c8 (rowOf encB t6.1.xCame) 1 4, .own A9 t6.1.xOut.length c9 (rowOf (encI .u8) t6.1.xOut) 1 5, .blk g1 [.pointer (some ⟨g2, 0, none⟩), .slice A3 y1.xbytes.length c3, .int .i64 y1.xbegin, .int .i64 y1.xn, .int .u32 y1.xlast, .bool y1.xkept] 50, .blk g2 [.bool y1.xBoard.xmade, .int .u32 y1.xBoard.xfirst, .slice A2 y1.xBoard.xruns.length c2] 76, .own A3 y1.xbytes.length c3 (rowOf (encI .u8) y1.xbytes) 1 5]) (by kernel_rfl) ?_
        refine o_run 1 [2, 8, 9, 10, 11, 44] (l := []) .nil (E' := [(2, .slice A1 a2.length c1), (8, .pointer (some ⟨g1, 0, none⟩)), (9, .int .i64 t1.2), (10, .pointer (some ⟨g4, 0, none⟩)), (11, .int .i64 t6.2), (44, .bool t9)]) (by kernel_rfl) ?_
        refine o_end (by kernel_rfl) ?_
        refine e_seq ?_
        refine w_cond (.tmp 44) 250 251 t9 (by kernel_rfl) (by kernel_rfl) (fun hb15 => ?_) (fun hb15 => ?_)
        · replace hm := ite_t hb15 hm
          refine w_seq 500 501 (by kernel_rfl) ?_
          refine w_region (by kernel_rfl) ?_
          refine o_run 4 [8, 11, 48] (l := []) .nil (E' := [(8, .pointer (some ⟨g1, 0, none⟩)), (11, .int .i64 t6.2), (48, .bool (t1.2 == t6.2))]) (by kernel_rfl) ?_
          refine o_split 48 (t1.2 == t6.2) (by kernel_rfl) (fun hb16 => ?_) (fun hb16 => ?_)
          · replace hm := ite_t hb16 hm
            refine o_run 7 [55] (l := []) .nil (E' := [(55, .bool (true == (t6.2 == 0)))]) (by kernel_rfl) ?_
            refine o_split 55 (true == (t6.2 == 0)) (by kernel_rfl) (fun hb17 => ?_) (fun hb17 => ?_)
            · replace hm := ite_t hb17 hm
              obtain ⟨t10, hx15, hm⟩ := bind_some hm
              refine o_stp ?_ (by kernel_rfl)
              refine s_call 56 9 #[] [] [0, 1, 2, 3, 4, 5] (by kernel_rfl) (by kernel_rfl) (fun w hs => downhaullaw26_alive_ok k t10 hx15 B _ w (St.cast (by kernel_rfl) hs)) (fun B6 hx => ?_)
              have hx16 := hx
              refine t_L (L' := [.blk g4 [.int .i64 t6.1.xRoom, .int .u32 t6.1.xNext, .slice A7 t6.1.xIn.length c7, .slice A8 t6.1.xCame.length c8, .slice A9 t6.1.xOut.length c9, .int .u32 t6.1.xLast, .bool t6.1.xHas] 42, .own A8 t6.1.xCame.length c8 (rowOf encB t6.1.xCame) 1 4, .own A9 t6.1.xOut.length c9 (rowOf (encI .u8) t6.1.xOut) 1 5, .blk g1 [.pointer (some ⟨g2, 0, none⟩), .slice A3 y1.xbytes.length c3, .int .i64 y1.xbegin, .int .i64 y1.xn, .int .u32 y1.xlast, .bool y1.xkept] 50, .blk g2 [.bool y1.xBoard.xmade, .int .u32 y1.xBoard.xfirst, .slice A2 y1.xBoard.xruns.length c2] 76, .own A3 y1.xbytes.length c3 (rowOf (encI .u8) y1.xbytes) 1 5]) (by kernel_rfl) ?_
              refine o_run 2 [6] (l := []) .nil (E' := [(6, .bool t10)]) (by kernel_rfl) ?_
              refine o_end (by kernel_rfl) ?_
              refine e_seq ?_
              refine w_ret (by kernel_rfl) ?_
              obtain rfl := Option.some.inj hm
              exact e_retP B6 (.bool t10) [] (by kernel_rfl) (by kernel_rfl) rfl (by kernel_rfl) (by kernel_rfl) hx16
            · replace hm := ite_f hb17 hm
              refine o_run 3 [6] (l := []) .nil (E' := [(6, .bool false)]) (by kernel_rfl) ?_
              refine o_end (by kernel_rfl) ?_
              refine e_seq ?_
              refine w_ret (by kernel_rfl) ?_
              obtain rfl := Option.some.inj hm
              exact e_retP B (.bool false) [] (by kernel_rfl) (by kernel_rfl) rfl (by kernel_rfl) (by kernel_rfl) (Ext.refl _)
          · replace hm := ite_f hb16 hm
            refine o_run 10 [6] (l := []) .nil (E' := [(6, .bool false)]) (by kernel_rfl) ?_
            refine o_end (by kernel_rfl) ?_
            refine e_seq ?_
            refine w_ret (by kernel_rfl) ?_
            obtain rfl := Option.some.inj hm
            exact e_retP B (.bool false) [] (by kernel_rfl) (by kernel_rfl) rfl (by kernel_rfl) (by kernel_rfl) (Ext.refl _)
        · replace hm := ite_f hb15 hm
          refine w_skip (by kernel_rfl) ?_
          refine e_seq ?_
          refine w_seq 126 127 (by kernel_rfl) ?_
          refine w_seq 252 253 (by kernel_rfl) ?_
          refine w_region (by kernel_rfl) ?_
          refine o_run 1 [8, 10, 58] (l := []) .nil (E' := [(8, .pointer (some ⟨g1, 0, none⟩)), (10, .pointer (some ⟨g4, 0, none⟩)), (58, .slice A1 a2.length c1)]) (by kernel_rfl) ?_
          obtain ⟨t11, hx17, hm⟩ := bind_some hm
          refine o_stp ?_ (by kernel_rfl)
          refine s_call 59 10 #[.slice A1 a2.length c1] [] [0, 1, 2, 3, 4, 5] (by kernel_rfl) (by kernel_rfl) (fun w hs => downhaullaw26_short_ok a2 t11 hx17 B _ A1 c1 hs1 w (St.cast (by kernel_rfl) hs)) (fun x hx => ?_)
          obtain ⟨A10, c10⟩ := x
          have hs5 := hx
          refine t_L (L' := [.blk g4 [.int .i64 t6.1.xRoom, .int .u32 t6.1.xNext, .slice A7 t6.1.xIn.length c7, .slice A8 t6.1.xCame.length c8, .slice A9 t6.1.xOut.length c9, .int .u32 t6.1.xLast, .bool t6.1.xHas] 42, .own A8 t6.1.xCame.length c8 (rowOf encB t6.1.xCame) 1 4, .own A9 t6.1.xOut.length c9 (rowOf (encI .u8) t6.1.xOut) 1 5, .blk g1 [.pointer (some ⟨g2, 0, none⟩), .slice A3 y1.xbytes.length c3, .int .i64 y1.xbegin, .int .i64 y1.xn, .int .u32 y1.xlast, .bool y1.xkept] 50, .blk g2 [.bool y1.xBoard.xmade, .int .u32 y1.xBoard.xfirst, .slice A2 y1.xBoard.xruns.length c2] 76, .own A3 y1.xbytes.length c3 (rowOf (encI .u8) y1.xbytes) 1 5]) (by kernel_rfl) ?_
          refine o_run 2 [8, 10, 59, 60, 61] (l := []) .nil (E' := [(8, .pointer (some ⟨g1, 0, none⟩)), (10, .pointer (some ⟨g4, 0, none⟩)), (59, .slice A10 t11.length c10), (60, .int .i64 (t11.length : Int)), (61, .int .i64 0)]) (by kernel_rfl) ?_
          refine o_end (by kernel_rfl) ?_
          refine e_seq ?_
          refine w_block 0 506 (by kernel_rfl) ?_
          obtain ⟨t12, ht1, ho2⟩ := bind_some hm
          refine t_env [8, 10, 59, 60, 61] (E' := [(8, .pointer (some ⟨g1, 0, none⟩)), (10, .pointer (some ⟨g4, 0, none⟩)), (59, .slice A10 t11.length c10), (60, .int .i64 (t11.length : Int)), (61, .int .i64 0)]) (by kernel_rfl) ?_
          refine w_loopJ 1012 0 (fun k a w => ∃ (p1 : Int) (p2 : T_downhaulref26_Buffer) (p3 : T_rbuf_Buffer_o) (B7 : Asn) (A11 : Option Addr) (c11 : Nat) (A12 : Option Addr) (c12 : Nat) (A13 : Option Addr) (c13 : Nat) (g5 : Nat) (A14 : Option Addr) (c14 : Nat) (A15 : Option Addr) (c15 : Nat), downhaullaw26_RbufPlays.l1 k t11 p1 p2 p3 = some t12 ∧ Ext B B7 ∧ Sl (kI .u8) B7 A11 c11 p2.xIn ∧ Sl kT_sack_run B7 A14 c14 p3.xBoard.xruns ∧ EnvOk [(8, .pointer (some ⟨g1, 0, none⟩)), (10, .pointer (some ⟨g4, 0, none⟩)), (59, .slice A10 t11.length c10), (60, .int .i64 (t11.length : Int)), (61, .int .i64 p1)] Try.f4.ntmps a ∧ St B7 G [.blk g4 [.int .i64 p2.xRoom, .int .u32 p2.xNext, .slice A11 p2.xIn.length c11, .slice A12 p2.xCame.length c12, .slice A13 p2.xOut.length c13, .int .u32 p2.xLast, .bool p2.xHas] 42, .own A12 p2.xCame.length c12 (rowOf encB p2.xCame) 1 4, .own A13 p2.xOut.length c13 (rowOf (encI .u8) p2.xOut) 1 5, .blk g1 [.pointer (some ⟨g5, 0, none⟩), .slice A15 p3.xbytes.length c15, .int .i64 p3.xbegin, .int .i64 p3.xn, .int .u32 p3.xlast, .bool p3.xkept] 50, .blk g5 [.bool p3.xBoard.xmade, .int .u32 p3.xBoard.xfirst, .slice A14 p3.xBoard.xruns.length c14] 76, .own A15 p3.xbytes.length c15 (rowOf (encI .u8) p3.xbytes) 1 5] w) (fun a w => ∃ (u1 : T_downhaulref26_Buffer × T_rbuf_Buffer_o) (B8 : Asn) (A16 : Option Addr) (c16 : Nat) (A17 : Option Addr) (c17 : Nat) (A18 : Option Addr) (c18 : Nat) (g6 : Nat) (A19 : Option Addr) (c19 : Nat) (A20 : Option Addr) (c20 : Nat), t12 = .inr u1 ∧ Ext B B8 ∧ Sl (kI .u8) B8 A16 c16 ((u1.1).xIn) ∧ Sl kT_sack_run B8 A19 c19 (((u1.2).xBoard).xruns) ∧ EnvOk [] Try.f4.ntmps a ∧ St B8 G [.blk g4 [.int .i64 ((u1.1).xRoom), .int .u32 ((u1.1).xNext), .slice A16 ((u1.1).xIn).length c16, .slice A17 (((u1.1).xCame).length) c17, .slice A18 (((u1.1).xOut).length) c18, .int .u32 ((u1.1).xLast), .bool ((u1.1).xHas)] 42, .own A17 (((u1.1).xCame).length) c17 (rowOf encB ((u1.1).xCame)) 1 4, .own A18 (((u1.1).xOut).length) c18 (rowOf (encI .u8) ((u1.1).xOut)) 1 5, .blk g1 [.pointer (some ⟨g6, 0, none⟩), .slice A20 (((u1.2).xbytes).length) c20, .int .i64 ((u1.2).xbegin), .int .i64 ((u1.2).xn), .int .u32 ((u1.2).xlast), .bool ((u1.2).xkept)] 50, .blk g6 [.bool (((u1.2).xBoard).xmade), .int .u32 (((u1.2).xBoard).xfirst), .slice A19 (((u1.2).xBoard).xruns).length c19] 76, .own A20 (((u1.2).xbytes).length) c20 (rowOf (encI .u8) ((u1.2).xbytes)) 1 5] w) (by kernel_rfl) ?_ ?_ k ?_
          · rintro a w ⟨u1, B8, A16, c16, A17, c17, A18, c18, g6, A19, c19, A20, c20, hu, hx19, hs8, hs9, ha, hw⟩
            refine we_of (E := []) (B := B8) (G := G) (L := [.blk g4 [.int .i64 ((u1.1).xRoom), .int .u32 ((u1.1).xNext), .slice A16 ((u1.1).xIn).length c16, .slice A17 (((u1.1).xCame).length) c17, .slice A18 (((u1.1).xOut).length) c18, .int .u32 ((u1.1).xLast), .bool ((u1.1).xHas)] 42, .own A17 (((u1.1).xCame).length) c17 (rowOf encB ((u1.1).xCame)) 1 4, .own A18 (((u1.1).xOut).length) c18 (rowOf (encI .u8) ((u1.1).xOut)) 1 5, .blk g1 [.pointer (some ⟨g6, 0, none⟩), .slice A20 (((u1.2).xbytes).length) c20, .int .i64 ((u1.2).xbegin), .int .i64 ((u1.2).xn), .int .u32 ((u1.2).xlast), .bool ((u1.2).xkept)] 50, .blk g6 [.bool (((u1.2).xBoard).xmade), .int .u32 (((u1.2).xBoard).xfirst), .slice A19 (((u1.2).xBoard).xruns).length c19] 76, .own A20 (((u1.2).xbytes).length) c20 (rowOf (encI .u8) ((u1.2).xbytes)) 1 5]) ?_ ha hw
            subst hu
            replace hm := brk_inr ho2
            refine e_seq ?_
            refine w_seq 254 255 (by kernel_rfl) ?_
            refine w_region (by kernel_rfl) ?_
            obtain ⟨t13, hx20, hm⟩ := bind_some hm
            refine o_stp ?_ (by kernel_rfl)
            refine s_call 130 9 #[] [] [0, 1, 2, 3, 4, 5] (by kernel_rfl) (by kernel_rfl) (fun w hs => downhaullaw26_alive_ok k t13 hx20 B8 _ w (St.cast (by kernel_rfl) hs)) (fun B9 hx => ?_)
            have hx21 := hx
            refine t_L (L' := [.blk g4 [.int .i64 ((u1.1).xRoom), .int .u32 ((u1.1).xNext), .slice A16 ((u1.1).xIn).length c16, .slice A17 (((u1.1).xCame).length) c17, .slice A18 (((u1.1).xOut).length) c18, .int .u32 ((u1.1).xLast), .bool ((u1.1).xHas)] 42, .own A17 (((u1.1).xCame).length) c17 (rowOf encB ((u1.1).xCame)) 1 4, .own A18 (((u1.1).xOut).length) c18 (rowOf (encI .u8) ((u1.1).xOut)) 1 5, .blk g1 [.pointer (some ⟨g6, 0, none⟩), .slice A20 (((u1.2).xbytes).length) c20, .int .i64 ((u1.2).xbegin), .int .i64 ((u1.2).xn), .int .u32 ((u1.2).xlast), .bool ((u1.2).xkept)] 50, .blk g6 [.bool (((u1.2).xBoard).xmade), .int .u32 (((u1.2).xBoard).xfirst), .slice A19 (((u1.2).xBoard).xruns).length c19] 76, .own A20 (((u1.2).xbytes).length) c20 (rowOf (encI .u8) ((u1.2).xbytes)) 1 5]) (by kernel_rfl) ?_
            refine o_run 1 [6] (l := []) .nil (E' := [(6, .bool t13)]) (by kernel_rfl) ?_
            refine o_end (by kernel_rfl) ?_
            refine e_seq ?_
            refine w_ret (by kernel_rfl) ?_
            obtain rfl := Option.some.inj hm
            exact e_retP B9 (.bool t13) [] (by kernel_rfl) (by kernel_rfl) rfl (by kernel_rfl) (by kernel_rfl) (Ext.trans hx19 hx21)
          · rintro k a w ⟨p1, p2, p3, B7, A11, c11, A12, c12, A13, c13, g5, A14, c14, A15, c15, hm, hx18, hs6, hs7, ha, hw⟩
            cases k with
            | zero => exact absurd hm (by simp [downhaullaw26_RbufPlays.l1])
            | succ k =>
              unfold downhaullaw26_RbufPlays.l1 at hm
              refine wc_of (E := [(8, .pointer (some ⟨g1, 0, none⟩)), (10, .pointer (some ⟨g4, 0, none⟩)), (59, .slice A10 t11.length c10), (60, .int .i64 (t11.length : Int)), (61, .int .i64 p1)]) (B := B7) (G := G) (L := [.blk g4 [.int .i64 p2.xRoom, .int .u32 p2.xNext, .slice A11 p2.xIn.length c11, .slice A12 p2.xCame.length c12, .slice A13 p2.xOut.length c13, .int .u32 p2.xLast, .bool p2.xHas] 42, .own A12 p2.xCame.length c12 (rowOf encB p2.xCame) 1 4, .own A13 p2.xOut.length c13 (rowOf (encI .u8) p2.xOut) 1 5, .blk g1 [.pointer (some ⟨g5, 0, none⟩), .slice A15 p3.xbytes.length c15, .int .i64 p3.xbegin, .int .i64 p3.xn, .int .u32 p3.xlast, .bool p3.xkept] 50, .blk g5 [.bool p3.xBoard.xmade, .int .u32 p3.xBoard.xfirst, .slice A14 p3.xBoard.xruns.length c14] 76, .own A15 p3.xbytes.length c15 (rowOf (encI .u8) p3.xbytes) 1 5]) ?_ ha hw
              refine w_seq 2024 2025 (by kernel_rfl) ?_
              refine w_region (by kernel_rfl) ?_
              refine o_run 1 [8, 10, 59, 60, 61, 62] (l := []) .nil (E' := [(8, .pointer (some ⟨g1, 0, none⟩)), (10, .pointer (some ⟨g4, 0, none⟩)), (59, .slice A10 t11.length c10), (60, .int .i64 (t11.length : Int)), (61, .int .i64 p1), (62, .bool (decide (p1 < (t11.length : Int))))]) (by kernel_rfl) ?_
              refine o_end (by kernel_rfl) ?_
              refine e_seq ?_
              refine w_seq 4050 4051 (by kernel_rfl) ?_
              refine w_cond (.tmp 62) 8100 8101 (decide (p1 < (t11.length : Int))) (by kernel_rfl) (by kernel_rfl) (fun hb18 => ?_) (fun hb18 => ?_)
              · replace hm := ite_t hb18 hm
                refine w_skip (by kernel_rfl) ?_
                refine e_seq ?_
                refine w_seq 8102 8103 (by kernel_rfl) ?_
                refine w_block 1 16204 (by kernel_rfl) ?_
                refine w_seq 32408 32409 (by kernel_rfl) ?_
                refine w_region (by kernel_rfl) ?_
                obtain ⟨e1, hx22, hm⟩ := bind_some hm
                obtain ⟨hi1, hi2, hg1⟩ := idx_some hx22
                obtain ⟨cs1, hk1, hc1⟩ := ((hs5.up hx18)).at hg1
                obtain ⟨A21, c21, hs10, rfl⟩ := hk1
                refine o_val 63 (.indexAddr 24 (.tmp 59) (.tmp 61)) (.pointer (some (adr A10 (Int.toNat p1 * 4)))) (by kernel_rfl) (v_index (k := .i64) (c := c10) (by kernel_rfl) (by kernel_rfl) (by kernel_rfl) hi1 hi2 (((hs5.up hx18)).some hg1)) ?_
                refine o_run 1 [8, 10, 59, 60, 61, 64] (l := [((adr A10 (Int.toNat p1 * 4)), .bool e1.xRead), (((adr A10 (Int.toNat p1 * 4)).add 1), .int .i64 e1.xN), (((adr A10 (Int.toNat p1 * 4)).add 2), .int .i32 e1.xAhead), (((adr A10 (Int.toNat p1 * 4)).add 3), .slice A21 e1.xBytes.length c21)]) (.one ((at_sl hc1).sub 0 rfl) (.one ((at_sl hc1).sub 1 rfl) (.one ((at_sl hc1).sub 2 rfl) (.one ((at_sl hc1).sub 3 rfl) .nil)))) (E' := [(8, .pointer (some ⟨g1, 0, none⟩)), (10, .pointer (some ⟨g4, 0, none⟩)), (59, .slice A10 t11.length c10), (60, .int .i64 (t11.length : Int)), (61, .int .i64 p1), (64, .agg #[.bool e1.xRead, .int .i64 e1.xN, .int .i32 e1.xAhead, .slice A21 e1.xBytes.length c21])]) (by kernel_rfl) ?_
                refine o_stp ?_ (by kernel_rfl)
                refine s_new 13 (fun g7 => .pointer (some ⟨g7, 0, none⟩)) [.bool false, .int .i64 0, .int .i32 0, .slice none 0 0] 34 (fun _ => by kernel_rfl) (fun g7 => ?_)
                refine o_stp ?_ (by kernel_rfl)
                refine s_store 0 g7 [.bool false, .int .i64 0, .int .i32 0, .slice none 0 0] 34 [(0, .bool e1.xRead), (1, .int .i64 e1.xN), (2, .int .i32 e1.xAhead), (3, .slice A21 e1.xBytes.length c21)] (by kernel_rfl) (by kernel_rfl) (by kernel_rfl) ?_
                refine t_L (L' := [.blk g7 [.bool e1.xRead, .int .i64 e1.xN, .int .i32 e1.xAhead, .slice A21 e1.xBytes.length c21] 34, .blk g4 [.int .i64 p2.xRoom, .int .u32 p2.xNext, .slice A11 p2.xIn.length c11, .slice A12 p2.xCame.length c12, .slice A13 p2.xOut.length c13, .int .u32 p2.xLast, .bool p2.xHas] 42, .own A12 p2.xCame.length c12 (rowOf encB p2.xCame) 1 4, .own A13 p2.xOut.length c13 (rowOf (encI .u8) p2.xOut) 1 5, .blk g1 [.pointer (some ⟨g5, 0, none⟩), .slice A15 p3.xbytes.length c15, .int .i64 p3.xbegin, .int .i64 p3.xn, .int .u32 p3.xlast, .bool p3.xkept] 50, .blk g5 [.bool p3.xBoard.xmade, .int .u32 p3.xBoard.xfirst, .slice A14 p3.xBoard.xruns.length c14] 76, .own A15 p3.xbytes.length c15 (rowOf (encI .u8) p3.xbytes) 1 5]) (by kernel_rfl) ?_
                refine o_end (by kernel_rfl) ?_
                refine e_seq ?_
                refine w_seq 64818 64819 (by kernel_rfl) ?_
                refine w_seq 129636 129637 (by kernel_rfl) ?_
                refine w_region (by kernel_rfl) ?_
                refine o_run 2 [8, 10, 13, 59, 60, 61, 66] (l := [(⟨g7, 0, none⟩, .bool e1.xRead)]) (.one (at_blk (j := 0) rfl rfl) .nil) (E' := [(8, .pointer (some ⟨g1, 0, none⟩)), (10, .pointer (some ⟨g4, 0, none⟩)), (13, .pointer (some ⟨g7, 0, none⟩)), (59, .slice A10 t11.length c10), (60, .int .i64 (t11.length : Int)), (61, .int .i64 p1), (66, .bool e1.xRead)]) (by kernel_rfl) ?_
                refine o_end (by kernel_rfl) ?_
                refine e_seq ?_
                refine w_cond (.tmp 66) 259274 259275 e1.xRead (by kernel_rfl) (by kernel_rfl) (fun hb19 => ?_) (fun hb19 => ?_)
                · replace hm := ite_t hb19 hm
                  refine w_seq 518548 518549 (by kernel_rfl) ?_
                  obtain ⟨t14, hx23, hm⟩ := bind_some hm
                  obtain ⟨t15, hx24, hm⟩ := bind_some hm
                  refine w_joinJ (fun a w => ∃ (A29 : Option Addr) (c29 : Nat) (A30 : Option Addr) (c30 : Nat) (A31 : Option Addr) (c31 : Nat) (A32 : Option Addr) (c32 : Nat) (A33 : Option Addr) (c33 : Nat) (g9 : Nat) (A34 : Option Addr) (c34 : Nat) (A35 : Option Addr) (c35 : Nat), Sl (kI .u8) B7 A30 c30 t15.2.xIn ∧ Sl kT_sack_run B7 A34 c34 t14.2.xBoard.xruns ∧ EnvOk [(8, .pointer (some ⟨g1, 0, none⟩)), (10, .pointer (some ⟨g4, 0, none⟩)), (13, .pointer (some ⟨g7, 0, none⟩)), (59, .slice A10 t11.length c10), (60, .int .i64 (t11.length : Int)), (61, .int .i64 p1), (76, .bool (!((strOf t14.1).toList == (strOf t15.1).toList)))] Try.f4.ntmps a ∧ St B7 G [.own A29 t15.1.length c29 (rowOf (encI .u8) t15.1) 1 5, .blk g4 [.int .i64 t15.2.xRoom, .int .u32 t15.2.xNext, .slice A30 t15.2.xIn.length c30, .slice A31 t15.2.xCame.length c31, .slice A32 t15.2.xOut.length c32, .int .u32 t15.2.xLast, .bool t15.2.xHas] 42, .own A31 t15.2.xCame.length c31 (rowOf encB t15.2.xCame) 1 4, .own A32 t15.2.xOut.length c32 (rowOf (encI .u8) t15.2.xOut) 1 5, .own A33 t14.1.length c33 (rowOf (encI .u8) t14.1) 1 5, .blk g1 [.pointer (some ⟨g9, 0, none⟩), .slice A35 t14.2.xbytes.length c35, .int .i64 t14.2.xbegin, .int .i64 t14.2.xn, .int .u32 t14.2.xlast, .bool t14.2.xkept] 50, .blk g9 [.bool t14.2.xBoard.xmade, .int .u32 t14.2.xBoard.xfirst, .slice A34 t14.2.xBoard.xruns.length c34] 76, .own A35 t14.2.xbytes.length c35 (rowOf (encI .u8) t14.2.xbytes) 1 5, .blk g7 [.bool e1.xRead, .int .i64 e1.xN, .int .i32 e1.xAhead, .slice A21 e1.xBytes.length c21] 34] w) ?_ ?_
                  · rintro a w ⟨A29, c29, A30, c30, A31, c31, A32, c32, A33, c33, g9, A34, c34, A35, c35, hs13, hs14, ha, hw⟩
                    refine we_of (E := [(8, .pointer (some ⟨g1, 0, none⟩)), (10, .pointer (some ⟨g4, 0, none⟩)), (13, .pointer (some ⟨g7, 0, none⟩)), (59, .slice A10 t11.length c10), (60, .int .i64 (t11.length : Int)), (61, .int .i64 p1), (76, .bool (!((strOf t14.1).toList == (strOf t15.1).toList)))]) (B := B7) (G := G) (L := [.own A29 t15.1.length c29 (rowOf (encI .u8) t15.1) 1 5, .blk g4 [.int .i64 t15.2.xRoom, .int .u32 t15.2.xNext, .slice A30 t15.2.xIn.length c30, .slice A31 t15.2.xCame.length c31, .slice A32 t15.2.xOut.length c32, .int .u32 t15.2.xLast, .bool t15.2.xHas] 42, .own A31 t15.2.xCame.length c31 (rowOf encB t15.2.xCame) 1 4, .own A32 t15.2.xOut.length c32 (rowOf (encI .u8) t15.2.xOut) 1 5, .own A33 t14.1.length c33 (rowOf (encI .u8) t14.1) 1 5, .blk g1 [.pointer (some ⟨g9, 0, none⟩), .slice A35 t14.2.xbytes.length c35, .int .i64 t14.2.xbegin, .int .i64 t14.2.xn, .int .u32 t14.2.xlast, .bool t14.2.xkept] 50, .blk g9 [.bool t14.2.xBoard.xmade, .int .u32 t14.2.xBoard.xfirst, .slice A34 t14.2.xBoard.xruns.length c34] 76, .own A35 t14.2.xbytes.length c35 (rowOf (encI .u8) t14.2.xbytes) 1 5, .blk g7 [.bool e1.xRead, .int .i64 e1.xN, .int .i32 e1.xAhead, .slice A21 e1.xBytes.length c21] 34]) ?_ ha hw
                    refine e_seq ?_
                    refine w_cond (.tmp 76) 1037098 1037099 (!((strOf t14.1).toList == (strOf t15.1).toList)) (by kernel_rfl) (by kernel_rfl) (fun hb20 => ?_) (fun hb20 => ?_)
                    · replace hm := ite_t hb20 hm
                      refine w_seq 2074196 2074197 (by kernel_rfl) ?_
                      refine w_region (by kernel_rfl) ?_
                      refine o_run 1 [6] (l := []) .nil (E' := [(6, .bool false)]) (by kernel_rfl) ?_
                      refine o_end (by kernel_rfl) ?_
                      refine e_seq ?_
                      refine w_ret (by kernel_rfl) ?_
                      obtain rfl := Option.some.inj hm
                      replace hm := brk_inl ho2
                      obtain rfl := Option.some.inj hm
                      exact e_retP B7 (.bool false) [] (by kernel_rfl) (by kernel_rfl) rfl (by kernel_rfl) (by kernel_rfl) hx18
                    · replace hm := ite_f hb20 hm
                      refine w_skip (by kernel_rfl) ?_
                      refine e_seq ?_
                      refine w_seq 129638 129639 (by kernel_rfl) ?_
                      refine w_tail 32 [.own A29 t15.1.length c29 (rowOf (encI .u8) t15.1) 1 5, .blk g4 [.int .i64 t15.2.xRoom, .int .u32 t15.2.xNext, .slice A30 t15.2.xIn.length c30, .slice A31 t15.2.xCame.length c31, .slice A32 t15.2.xOut.length c32, .int .u32 t15.2.xLast, .bool t15.2.xHas] 42, .own A31 t15.2.xCame.length c31 (rowOf encB t15.2.xCame) 1 4, .own A32 t15.2.xOut.length c32 (rowOf (encI .u8) t15.2.xOut) 1 5, .own A33 t14.1.length c33 (rowOf (encI .u8) t14.1) 1 5, .blk g1 [.pointer (some ⟨g9, 0, none⟩), .slice A35 t14.2.xbytes.length c35, .int .i64 t14.2.xbegin, .int .i64 t14.2.xn, .int .u32 t14.2.xlast, .bool t14.2.xkept] 50, .blk g9 [.bool t14.2.xBoard.xmade, .int .u32 t14.2.xBoard.xfirst, .slice A34 t14.2.xBoard.xruns.length c34] 76, .own A35 t14.2.xbytes.length c35 (rowOf (encI .u8) t14.2.xbytes) 1 5, .blk g7 [.bool e1.xRead, .int .i64 e1.xN, .int .i32 e1.xAhead, .slice A21 e1.xBytes.length c21] 34] (by kernel_rfl) mixed (by kernel_rfl) ?_
                      refine tt_run [0, 2, 3] [8, 10, 13, 59, 60, 61, 93, 96] [0, 1, 2, 3, 4, 5, 6, 7, 8] 29 (listed' := #[true, false, true, true, false, false, false, false, false, false, false, false, false, false, false, false, false, false, false, false, false, false, false, false, false, false, false, false, false, false, false, false, false, false, false, false]) (l := [(⟨g4, 1, none⟩, .int .u32 t15.2.xNext)]) (.one (at_blk (j := 1) rfl rfl) .nil) (E' := [(8, .pointer (some ⟨g1, 0, none⟩)), (10, .pointer (some ⟨g4, 0, none⟩)), (13, .pointer (some ⟨g7, 0, none⟩)), (59, .slice A10 t11.length c10), (60, .int .i64 (t11.length : Int)), (61, .int .i64 p1), (93, .pointer (some ⟨g1, 0, none⟩)), (96, .int .u32 t15.2.xNext)]) (by kernel_rfl) (by kernel_rfl) (by kernel_rfl) (Ext.refl _) (by kernel_rfl) (by kernel_rfl) ?_
                      obtain ⟨t16, hx25, hm⟩ := bind_some hm
                      refine tt_stp 1 [0, 1, 2, 3, 4, 5, 6, 7, 8] (Ext.refl _) (by kernel_rfl) (by kernel_rfl) (by kernel_rfl) (by kernel_rfl) ?_
                      refine s_call 94 13 #[.pointer (some ⟨g1, 0, none⟩)] [5, 6, 7] [0, 1, 2, 3, 4, 8] (by kernel_rfl) (by kernel_rfl) (fun w hs => rbuf_Buffer_Next_ok t14.2 t16 hx25 B7 _ g1 g9 A34 c34 A35 c35 hs14 w (St.cast (by kernel_rfl) hs)) (fun _ hx => ?_)
                      refine t_L (L' := [.blk g1 [.pointer (some ⟨g9, 0, none⟩), .slice A35 t14.2.xbytes.length c35, .int .i64 t14.2.xbegin, .int .i64 t14.2.xn, .int .u32 t14.2.xlast, .bool t14.2.xkept] 50, .blk g9 [.bool t14.2.xBoard.xmade, .int .u32 t14.2.xBoard.xfirst, .slice A34 t14.2.xBoard.xruns.length c34] 76, .own A35 t14.2.xbytes.length c35 (rowOf (encI .u8) t14.2.xbytes) 1 5, .own A29 t15.1.length c29 (rowOf (encI .u8) t15.1) 1 5, .blk g4 [.int .i64 t15.2.xRoom, .int .u32 t15.2.xNext, .slice A30 t15.2.xIn.length c30, .slice A31 t15.2.xCame.length c31, .slice A32 t15.2.xOut.length c32, .int .u32 t15.2.xLast, .bool t15.2.xHas] 42, .own A31 t15.2.xCame.length c31 (rowOf encB t15.2.xCame) 1 4, .own A32 t15.2.xOut.length c32 (rowOf (encI .u8) t15.2.xOut) 1 5, .own A33 t14.1.length c33 (rowOf (encI .u8) t14.1) 1 5, .blk g7 [.bool e1.xRead, .int .i64 e1.xN, .int .i32 e1.xAhead, .slice A21 e1.xBytes.length c21] 34]) (by kernel_rfl) ?_
                      refine tt_run [4, 5] [8, 10, 13, 59, 60, 61, 98] [3, 4, 5, 6, 7, 0, 1, 2, 8] 26 (listed' := #[true, true, true, true, true, true, false, false, false, false, false, false, false, false, false, false, false, false, false, false, false, false, false, false, false, false, false, false, false, false, false, false, false, false, false, false]) (l := []) .nil (E' := [(8, .pointer (some ⟨g1, 0, none⟩)), (10, .pointer (some ⟨g4, 0, none⟩)), (13, .pointer (some ⟨g7, 0, none⟩)), (59, .slice A10 t11.length c10), (60, .int .i64 (t11.length : Int)), (61, .int .i64 p1), (98, .bool (t16 != t15.2.xNext))]) (by kernel_rfl) (by kernel_rfl) (by kernel_rfl) (Ext.refl _) (by kernel_rfl) (by kernel_rfl) ?_
                      refine t_split 98 (t16 != t15.2.xNext) (by kernel_rfl) (fun hb21 => ?_) (fun hb21 => ?_)
                      · replace hm := ite_t hb21 hm
                        refine tt_run [6, 7, 8, 9, 10, 11, 12, 13, 14, 15, 16, 17, 18, 19, 20, 21, 22, 23, 24, 25, 26, 27, 28, 29, 30, 31] [8, 10, 59, 60, 61, 118, 122, 124] [3, 4, 5, 6, 7, 0, 1, 2, 8] 0 (listed' := #[true, true, true, true, true, true, true, true, true, true, true, true, true, true, true, true, true, true, true, true, true, true, true, true, true, true, true, true, true, true, true, true, false, false, false, false]) (l := []) .nil (E' := [(8, .pointer (some ⟨g1, 0, none⟩)), (10, .pointer (some ⟨g4, 0, none⟩)), (59, .slice A10 t11.length c10), (60, .int .i64 (t11.length : Int)), (61, .int .i64 p1), (118, .bool true), (122, undef), (124, undef)]) (by kernel_rfl) (by kernel_rfl) (by kernel_rfl) (Ext.refl _) (by kernel_rfl) (by kernel_rfl) ?_
                        refine tt_end [3, 4, 5, 6, 7, 0, 1, 2, 8] (Ext.refl _) (by kernel_rfl) (by kernel_rfl) (by kernel_rfl) ?_
                        refine o_run 4 [8, 10, 59, 60, 61, 128] (l := []) .nil (E' := [(8, .pointer (some ⟨g1, 0, none⟩)), (10, .pointer (some ⟨g4, 0, none⟩)), (59, .slice A10 t11.length c10), (60, .int .i64 (t11.length : Int)), (61, .int .i64 p1), (128, .bool true)]) (by kernel_rfl) ?_
                        refine o_end (by kernel_rfl) ?_
                        refine e_seq ?_
                        refine w_cond_t (.tmp 128) 259278 259279 (by kernel_rfl) (by kernel_rfl) ?_
                        refine w_seq 518556 518557 (by kernel_rfl) ?_
                        refine w_region (by kernel_rfl) ?_
                        refine o_run 1 [6] (l := []) .nil (E' := [(6, .bool false)]) (by kernel_rfl) ?_
                        refine o_end (by kernel_rfl) ?_
                        refine e_seq ?_
                        refine w_ret (by kernel_rfl) ?_
                        obtain rfl := Option.some.inj hm
                        replace hm := brk_inl ho2
                        obtain rfl := Option.some.inj hm
                        exact e_retP B7 (.bool false) [] (by kernel_rfl) (by kernel_rfl) rfl (by kernel_rfl) (by kernel_rfl) hx18
                      · replace hm := ite_f hb21 hm
                        refine tt_run [6] [8, 10, 13, 59, 60, 61, 98, 99] [3, 4, 5, 6, 7, 0, 1, 2, 8] 25 (listed' := #[true, true, true, true, true, true, true, false, false, false, false, false, false, false, false, false, false, false, false, false, false, false, false, false, false, false, false, false, false, false, false, false, false, false, false, false]) (l := []) .nil (E' := [(8, .pointer (some ⟨g1, 0, none⟩)), (10, .pointer (some ⟨g4, 0, none⟩)), (13, .pointer (some ⟨g7, 0, none⟩)), (59, .slice A10 t11.length c10), (60, .int .i64 (t11.length : Int)), (61, .int .i64 p1), (98, .bool false), (99, .pointer (some ⟨g1, 0, none⟩))]) (by kernel_rfl) (by kernel_rfl) (by kernel_rfl) (Ext.refl _) (by kernel_rfl) (by kernel_rfl) ?_
                        obtain ⟨t17, hx26, hm⟩ := bind_some hm
                        refine tt_stp 7 [3, 4, 5, 6, 7, 0, 1, 2, 8] (Ext.refl _) (by kernel_rfl) (by kernel_rfl) (by kernel_rfl) (by kernel_rfl) ?_
                        refine s_call 100 18 #[.pointer (some ⟨g1, 0, none⟩)] [0, 1, 2] [3, 4, 5, 6, 7, 8] (by kernel_rfl) (by kernel_rfl) (fun w hs => rbuf_Buffer_Window_ok t14.2 t17 hx26 B7 _ g1 g9 A34 c34 A35 c35 hs14 w (St.cast (by kernel_rfl) hs)) (fun _ hx => ?_)
                        refine t_L (L' := [.blk g1 [.pointer (some ⟨g9, 0, none⟩), .slice A35 t14.2.xbytes.length c35, .int .i64 t14.2.xbegin, .int .i64 t14.2.xn, .int .u32 t14.2.xlast, .bool t14.2.xkept] 50, .blk g9 [.bool t14.2.xBoard.xmade, .int .u32 t14.2.xBoard.xfirst, .slice A34 t14.2.xBoard.xruns.length c34] 76, .own A35 t14.2.xbytes.length c35 (rowOf (encI .u8) t14.2.xbytes) 1 5, .own A29 t15.1.length c29 (rowOf (encI .u8) t15.1) 1 5, .blk g4 [.int .i64 t15.2.xRoom, .int .u32 t15.2.xNext, .slice A30 t15.2.xIn.length c30, .slice A31 t15.2.xCame.length c31, .slice A32 t15.2.xOut.length c32, .int .u32 t15.2.xLast, .bool t15.2.xHas] 42, .own A31 t15.2.xCame.length c31 (rowOf encB t15.2.xCame) 1 4, .own A32 t15.2.xOut.length c32 (rowOf (encI .u8) t15.2.xOut) 1 5, .own A33 t14.1.length c33 (rowOf (encI .u8) t14.1) 1 5, .blk g7 [.bool e1.xRead, .int .i64 e1.xN, .int .i32 e1.xAhead, .slice A21 e1.xBytes.length c21] 34]) (by kernel_rfl) ?_
                        obtain ⟨t18, hx27, hm⟩ := bind_some hm
                        refine tt_stp 8 [3, 4, 5, 6, 7, 0, 1, 2, 8] (Ext.refl _) (by kernel_rfl) (by kernel_rfl) (by kernel_rfl) (by kernel_rfl) ?_
                        refine s_call 101 19 #[.pointer (some ⟨g4, 0, none⟩)] [4, 5, 6] [0, 1, 2, 3, 7, 8] (by kernel_rfl) (by kernel_rfl) (fun w hs => downhaulref26_Buffer_Window_ok t15.2 t18 hx27 B7 _ g4 A30 c30 A31 c31 A32 c32 hs13 w (St.cast (by kernel_rfl) hs)) (fun _ hx => ?_)
                        refine t_L (L' := [.blk g4 [.int .i64 t15.2.xRoom, .int .u32 t15.2.xNext, .slice A30 t15.2.xIn.length c30, .slice A31 t15.2.xCame.length c31, .slice A32 t15.2.xOut.length c32, .int .u32 t15.2.xLast, .bool t15.2.xHas] 42, .own A31 t15.2.xCame.length c31 (rowOf encB t15.2.xCame) 1 4, .own A32 t15.2.xOut.length c32 (rowOf (encI .u8) t15.2.xOut) 1 5, .blk g1 [.pointer (some ⟨g9, 0, none⟩), .slice A35 t14.2.xbytes.length c35, .int .i64 t14.2.xbegin, .int .i64 t14.2.xn, .int .u32 t14.2.xlast, .bool t14.2.xkept] 50, .blk g9 [.bool t14.2.xBoard.xmade, .int .u32 t14.2.xBoard.xfirst, .slice A34 t14.2.xBoard.xruns.length c34] 76, .own A35 t14.2.xbytes.length c35 (rowOf (encI .u8) t14.2.xbytes) 1 5, .own A29 t15.1.length c29 (rowOf (encI .u8) t15.1) 1 5, .own A33 t14.1.length c33 (rowOf (encI .u8) t14.1) 1 5, .blk g7 [.bool e1.xRead, .int .i64 e1.xN, .int .i32 e1.xAhead, .slice A21 e1.xBytes.length c21] 34]) (by kernel_rfl) ?_
                        refine tt_run [9, 10, 11] [8, 10, 13, 59, 60, 61, 104] [6, 0, 1, 2, 7, 3, 4, 5, 8] 20 (listed' := #[true, true, true, true, true, true, true, true, true, true, true, true, false, false, false, false, false, false, false, false, false, false, false, false, false, false, false, false, false, false, false, false, false, false, false, false]) (l := []) .nil (E' := [(8, .pointer (some ⟨g1, 0, none⟩)), (10, .pointer (some ⟨g4, 0, none⟩)), (13, .pointer (some ⟨g7, 0, none⟩)), (59, .slice A10 t11.length c10), (60, .int .i64 (t11.length : Int)), (61, .int .i64 p1), (104, .bool (t17 != t18))]) (by kernel_rfl) (by kernel_rfl) (by kernel_rfl) (Ext.refl _) (by kernel_rfl) (by kernel_rfl) ?_
                        refine t_split 104 (t17 != t18) (by kernel_rfl) (fun hb22 => ?_) (fun hb22 => ?_)
                        · replace hm := ite_t hb22 hm
                          refine tt_run [12, 13, 14, 15, 16, 17, 18, 19, 20, 21, 22, 23, 24, 25, 26, 27, 28, 29, 30, 31] [8, 10, 59, 60, 61, 118, 122, 124] [6, 0, 1, 2, 7, 3, 4, 5, 8] 0 (listed' := #[true, true, true, true, true, true, true, true, true, true, true, true, true, true, true, true, true, true, true, true, true, true, true, true, true, true, true, true, true, true, true, true, false, false, false, false]) (l := []) .nil (E' := [(8, .pointer (some ⟨g1, 0, none⟩)), (10, .pointer (some ⟨g4, 0, none⟩)), (59, .slice A10 t11.length c10), (60, .int .i64 (t11.length : Int)), (61, .int .i64 p1), (118, .bool true), (122, undef), (124, undef)]) (by kernel_rfl) (by kernel_rfl) (by kernel_rfl) (Ext.refl _) (by kernel_rfl) (by kernel_rfl) ?_
                          refine tt_end [6, 0, 1, 2, 7, 3, 4, 5, 8] (Ext.refl _) (by kernel_rfl) (by kernel_rfl) (by kernel_rfl) ?_
                          refine o_run 4 [8, 10, 59, 60, 61, 128] (l := []) .nil (E' := [(8, .pointer (some ⟨g1, 0, none⟩)), (10, .pointer (some ⟨g4, 0, none⟩)), (59, .slice A10 t11.length c10), (60, .int .i64 (t11.length : Int)), (61, .int .i64 p1), (128, .bool true)]) (by kernel_rfl) ?_
                          refine o_end (by kernel_rfl) ?_
                          refine e_seq ?_
                          refine w_cond_t (.tmp 128) 259278 259279 (by kernel_rfl) (by kernel_rfl) ?_
                          refine w_seq 518556 518557 (by kernel_rfl) ?_
                          refine w_region (by kernel_rfl) ?_
                          refine o_run 1 [6] (l := []) .nil (E' := [(6, .bool false)]) (by kernel_rfl) ?_
                          refine o_end (by kernel_rfl) ?_
                          refine e_seq ?_
                          refine w_ret (by kernel_rfl) ?_
                          obtain rfl := Option.some.inj hm
                          replace hm := brk_inl ho2
                          obtain rfl := Option.some.inj hm
                          exact e_retP B7 (.bool false) [] (by kernel_rfl) (by kernel_rfl) rfl (by kernel_rfl) (by kernel_rfl) hx18
                        · replace hm := ite_f hb22 hm
                          refine tt_run [12, 14, 15, 16] [8, 10, 13, 59, 60, 61, 104, 105, 109] [6, 0, 1, 2, 7, 3, 4, 5, 8] 16 (listed' := #[true, true, true, true, true, true, true, true, true, true, true, true, true, false, true, true, true, false, false, false, false, false, false, false, false, false, false, false, false, false, false, false, false, false, false, false]) (l := [(⟨g4, 2, none⟩, .slice A30 t15.2.xIn.length c30)]) (.one (at_blk (j := 1) rfl rfl) .nil) (E' := [(8, .pointer (some ⟨g1, 0, none⟩)), (10, .pointer (some ⟨g4, 0, none⟩)), (13, .pointer (some ⟨g7, 0, none⟩)), (59, .slice A10 t11.length c10), (60, .int .i64 (t11.length : Int)), (61, .int .i64 p1), (104, .bool false), (105, .pointer (some ⟨g1, 0, none⟩)), (109, .int .i64 (t15.2.xIn.length : Int))]) (by kernel_rfl) (by kernel_rfl) (by kernel_rfl) (Ext.refl _) (by kernel_rfl) (by kernel_rfl) ?_
                          obtain ⟨t19, hx28, hm⟩ := bind_some hm
                          refine tt_stp 13 [6, 0, 1, 2, 7, 3, 4, 5, 8] (Ext.refl _) (by kernel_rfl) (by kernel_rfl) (by kernel_rfl) (by kernel_rfl) ?_
                          refine s_call 106 14 #[.pointer (some ⟨g1, 0, none⟩)] [3, 4, 5] [0, 1, 2, 6, 7, 8] (by kernel_rfl) (by kernel_rfl) (fun w hs => rbuf_Buffer_Len_ok t14.2 t19 hx28 B7 _ g1 g9 A34 c34 A35 c35 hs14 w (St.cast (by kernel_rfl) hs)) (fun _ hx => ?_)
                          refine t_L (L' := [.blk g1 [.pointer (some ⟨g9, 0, none⟩), .slice A35 t14.2.xbytes.length c35, .int .i64 t14.2.xbegin, .int .i64 t14.2.xn, .int .u32 t14.2.xlast, .bool t14.2.xkept] 50, .blk g9 [.bool t14.2.xBoard.xmade, .int .u32 t14.2.xBoard.xfirst, .slice A34 t14.2.xBoard.xruns.length c34] 76, .own A35 t14.2.xbytes.length c35 (rowOf (encI .u8) t14.2.xbytes) 1 5, .blk g4 [.int .i64 t15.2.xRoom, .int .u32 t15.2.xNext, .slice A30 t15.2.xIn.length c30, .slice A31 t15.2.xCame.length c31, .slice A32 t15.2.xOut.length c32, .int .u32 t15.2.xLast, .bool t15.2.xHas] 42, .own A31 t15.2.xCame.length c31 (rowOf encB t15.2.xCame) 1 4, .own A32 t15.2.xOut.length c32 (rowOf (encI .u8) t15.2.xOut) 1 5, .own A29 t15.1.length c29 (rowOf (encI .u8) t15.1) 1 5, .own A33 t14.1.length c33 (rowOf (encI .u8) t14.1) 1 5, .blk g7 [.bool e1.xRead, .int .i64 e1.xN, .int .i32 e1.xAhead, .slice A21 e1.xBytes.length c21] 34]) (by kernel_rfl) ?_
                          refine tt_run [17, 18, 19] [8, 10, 13, 59, 60, 61, 112] [6, 3, 4, 5, 7, 0, 1, 2, 8] 12 (listed' := #[true, true, true, true, true, true, true, true, true, true, true, true, true, true, true, true, true, true, true, true, false, false, false, false, false, false, false, false, false, false, false, false, false, false, false, false]) (l := []) .nil (E' := [(8, .pointer (some ⟨g1, 0, none⟩)), (10, .pointer (some ⟨g4, 0, none⟩)), (13, .pointer (some ⟨g7, 0, none⟩)), (59, .slice A10 t11.length c10), (60, .int .i64 (t11.length : Int)), (61, .int .i64 p1), (112, .bool (t19 != (t15.2.xIn.length : Int)))]) (by kernel_rfl) (by kernel_rfl) (by kernel_rfl) (Ext.refl _) (by kernel_rfl) (by kernel_rfl) ?_
                          refine t_split 112 (t19 != (t15.2.xIn.length : Int)) (by kernel_rfl) (fun hb23 => ?_) (fun hb23 => ?_)
                          · replace hm := ite_t hb23 hm
                            refine tt_run [20, 21, 22, 23, 24, 25, 26, 27, 28, 29, 30, 31] [8, 10, 59, 60, 61, 118, 122, 124] [6, 3, 4, 5, 7, 0, 1, 2, 8] 0 (listed' := #[true, true, true, true, true, true, true, true, true, true, true, true, true, true, true, true, true, true, true, true, true, true, true, true, true, true, true, true, true, true, true, true, false, false, false, false]) (l := []) .nil (E' := [(8, .pointer (some ⟨g1, 0, none⟩)), (10, .pointer (some ⟨g4, 0, none⟩)), (59, .slice A10 t11.length c10), (60, .int .i64 (t11.length : Int)), (61, .int .i64 p1), (118, .bool true), (122, undef), (124, undef)]) (by kernel_rfl) (by kernel_rfl) (by kernel_rfl) (Ext.refl _) (by kernel_rfl) (by kernel_rfl) ?_
                            refine tt_end [6, 3, 4, 5, 7, 0, 1, 2, 8] (Ext.refl _) (by kernel_rfl) (by kernel_rfl) (by kernel_rfl) ?_
                            refine o_run 4 [8, 10, 59, 60, 61, 128] (l := []) .nil (E' := [(8, .pointer (some ⟨g1, 0, none⟩)), (10, .pointer (some ⟨g4, 0, none⟩)), (59, .slice A10 t11.length c10), (60, .int .i64 (t11.length : Int)), (61, .int .i64 p1), (128, .bool true)]) (by kernel_rfl) ?_
                            refine o_end (by kernel_rfl) ?_
                            refine e_seq ?_
                            refine w_cond_t (.tmp 128) 259278 259279 (by kernel_rfl) (by kernel_rfl) ?_
                            refine w_seq 518556 518557 (by kernel_rfl) ?_
                            refine w_region (by kernel_rfl) ?_
                            refine o_run 1 [6] (l := []) .nil (E' := [(6, .bool false)]) (by kernel_rfl) ?_
                            refine o_end (by kernel_rfl) ?_
                            refine e_seq ?_
                            refine w_ret (by kernel_rfl) ?_
                            obtain rfl := Option.some.inj hm
                            replace hm := brk_inl ho2
                            obtain rfl := Option.some.inj hm
                            exact e_retP B7 (.bool false) [] (by kernel_rfl) (by kernel_rfl) rfl (by kernel_rfl) (by kernel_rfl) hx18
                          · replace hm := ite_f hb23 hm
                            refine tt_run [20] [8, 10, 13, 59, 60, 61, 112, 113] [6, 3, 4, 5, 7, 0, 1, 2, 8] 11 (listed' := #[true, true, true, true, true, true, true, true, true, true, true, true, true, true, true, true, true, true, true, true, true, false, false, false, false, false, false, false, false, false, false, false, false, false, false, false]) (l := []) .nil (E' := [(8, .pointer (some ⟨g1, 0, none⟩)), (10, .pointer (some ⟨g4, 0, none⟩)), (13, .pointer (some ⟨g7, 0, none⟩)), (59, .slice A10 t11.length c10), (60, .int .i64 (t11.length : Int)), (61, .int .i64 p1), (112, .bool false), (113, .pointer (some ⟨g1, 0, none⟩))]) (by kernel_rfl) (by kernel_rfl) (by kernel_rfl) (Ext.refl _) (by kernel_rfl) (by kernel_rfl) ?_
                            obtain ⟨t20, hx29, hm⟩ := bind_some hm
                            refine tt_stp 21 [6, 3, 4, 5, 7, 0, 1, 2, 8] (Ext.refl _) (by kernel_rfl) (by kernel_rfl) (by kernel_rfl) (by kernel_rfl) ?_
                            refine s_call 114 20 #[.pointer (some ⟨g1, 0, none⟩)] [0, 1, 2] [3, 4, 5, 6, 7, 8] (by kernel_rfl) (by kernel_rfl) (fun w hs => rbuf_Buffer_Out_ok k t14.2 t20 hx29 B7 _ g1 g9 A34 c34 A35 c35 hs14 w (St.cast (by kernel_rfl) hs)) (fun _ hx => ?_)
                            refine t_L (L' := [.blk g1 [.pointer (some ⟨g9, 0, none⟩), .slice A35 t14.2.xbytes.length c35, .int .i64 t14.2.xbegin, .int .i64 t14.2.xn, .int .u32 t14.2.xlast, .bool t14.2.xkept] 50, .blk g9 [.bool t14.2.xBoard.xmade, .int .u32 t14.2.xBoard.xfirst, .slice A34 t14.2.xBoard.xruns.length c34] 76, .own A35 t14.2.xbytes.length c35 (rowOf (encI .u8) t14.2.xbytes) 1 5, .blk g4 [.int .i64 t15.2.xRoom, .int .u32 t15.2.xNext, .slice A30 t15.2.xIn.length c30, .slice A31 t15.2.xCame.length c31, .slice A32 t15.2.xOut.length c32, .int .u32 t15.2.xLast, .bool t15.2.xHas] 42, .own A31 t15.2.xCame.length c31 (rowOf encB t15.2.xCame) 1 4, .own A32 t15.2.xOut.length c32 (rowOf (encI .u8) t15.2.xOut) 1 5, .own A29 t15.1.length c29 (rowOf (encI .u8) t15.1) 1 5, .own A33 t14.1.length c33 (rowOf (encI .u8) t14.1) 1 5, .blk g7 [.bool e1.xRead, .int .i64 e1.xN, .int .i32 e1.xAhead, .slice A21 e1.xBytes.length c21] 34]) (by kernel_rfl) ?_
                            obtain ⟨t21, hx30, hm⟩ := bind_some hm
                            refine tt_stp 22 [6, 3, 4, 5, 7, 0, 1, 2, 8] (Ext.refl _) (by kernel_rfl) (by kernel_rfl) (by kernel_rfl) (by kernel_rfl) ?_
                            refine s_call 115 21 #[.pointer (some ⟨g4, 0, none⟩)] [3, 4, 5] [0, 1, 2, 6, 7, 8] (by kernel_rfl) (by kernel_rfl) (fun w hs => downhaulref26_Buffer_Count_ok k t15.2 t21 hx30 B7 _ g4 A30 c30 A31 c31 A32 c32 hs13 w (St.cast (by kernel_rfl) hs)) (fun _ hx => ?_)
                            refine t_L (L' := [.blk g4 [.int .i64 t15.2.xRoom, .int .u32 t15.2.xNext, .slice A30 t15.2.xIn.length c30, .slice A31 t15.2.xCame.length c31, .slice A32 t15.2.xOut.length c32, .int .u32 t15.2.xLast, .bool t15.2.xHas] 42, .own A31 t15.2.xCame.length c31 (rowOf encB t15.2.xCame) 1 4, .own A32 t15.2.xOut.length c32 (rowOf (encI .u8) t15.2.xOut) 1 5, .blk g1 [.pointer (some ⟨g9, 0, none⟩), .slice A35 t14.2.xbytes.length c35, .int .i64 t14.2.xbegin, .int .i64 t14.2.xn, .int .u32 t14.2.xlast, .bool t14.2.xkept] 50, .blk g9 [.bool t14.2.xBoard.xmade, .int .u32 t14.2.xBoard.xfirst, .slice A34 t14.2.xBoard.xruns.length c34] 76, .own A35 t14.2.xbytes.length c35 (rowOf (encI .u8) t14.2.xbytes) 1 5, .own A29 t15.1.length c29 (rowOf (encI .u8) t15.1) 1 5, .own A33 t14.1.length c33 (rowOf (encI .u8) t14.1) 1 5, .blk g7 [.bool e1.xRead, .int .i64 e1.xN, .int .i32 e1.xAhead, .slice A21 e1.xBytes.length c21] 34]) (by kernel_rfl) ?_
                            refine tt_run [23, 24, 25] [8, 10, 13, 59, 60, 61, 118] [6, 0, 1, 2, 7, 3, 4, 5, 8] 6 (listed' := #[true, true, true, true, true, true, true, true, true, true, true, true, true, true, true, true, true, true, true, true, true, true, true, true, true, true, false, false, false, false, false, false, false, false, false, false]) (l := []) .nil (E' := [(8, .pointer (some ⟨g1, 0, none⟩)), (10, .pointer (some ⟨g4, 0, none⟩)), (13, .pointer (some ⟨g7, 0, none⟩)), (59, .slice A10 t11.length c10), (60, .int .i64 (t11.length : Int)), (61, .int .i64 p1), (118, .bool (t20 != t21))]) (by kernel_rfl) (by kernel_rfl) (by kernel_rfl) (Ext.refl _) (by kernel_rfl) (by kernel_rfl) ?_
                            refine t_split 118 (t20 != t21) (by kernel_rfl) (fun hb24 => ?_) (fun hb24 => ?_)
                            · replace hm := ite_t hb24 hm
                              refine tt_run [26, 27, 28, 29, 30, 31] [8, 10, 59, 60, 61, 118, 122, 124] [6, 0, 1, 2, 7, 3, 4, 5, 8] 0 (listed' := #[true, true, true, true, true, true, true, true, true, true, true, true, true, true, true, true, true, true, true, true, true, true, true, true, true, true, true, true, true, true, true, true, false, false, false, false]) (l := []) .nil (E' := [(8, .pointer (some ⟨g1, 0, none⟩)), (10, .pointer (some ⟨g4, 0, none⟩)), (59, .slice A10 t11.length c10), (60, .int .i64 (t11.length : Int)), (61, .int .i64 p1), (118, .bool true), (122, undef), (124, undef)]) (by kernel_rfl) (by kernel_rfl) (by kernel_rfl) (Ext.refl _) (by kernel_rfl) (by kernel_rfl) ?_
                              refine tt_end [6, 0, 1, 2, 7, 3, 4, 5, 8] (Ext.refl _) (by kernel_rfl) (by kernel_rfl) (by kernel_rfl) ?_
                              refine o_run 4 [8, 10, 59, 60, 61, 128] (l := []) .nil (E' := [(8, .pointer (some ⟨g1, 0, none⟩)), (10, .pointer (some ⟨g4, 0, none⟩)), (59, .slice A10 t11.length c10), (60, .int .i64 (t11.length : Int)), (61, .int .i64 p1), (128, .bool true)]) (by kernel_rfl) ?_
                              refine o_end (by kernel_rfl) ?_
                              refine e_seq ?_
                              refine w_cond_t (.tmp 128) 259278 259279 (by kernel_rfl) (by kernel_rfl) ?_
                              refine w_seq 518556 518557 (by kernel_rfl) ?_
                              refine w_region (by kernel_rfl) ?_
                              refine o_run 1 [6] (l := []) .nil (E' := [(6, .bool false)]) (by kernel_rfl) ?_
                              refine o_end (by kernel_rfl) ?_
                              refine e_seq ?_
                              refine w_ret (by kernel_rfl) ?_
                              obtain rfl := Option.some.inj hm
                              replace hm := brk_inl ho2
                              obtain rfl := Option.some.inj hm
                              exact e_retP B7 (.bool false) [] (by kernel_rfl) (by kernel_rfl) rfl (by kernel_rfl) (by kernel_rfl) hx18
                            · replace hm := ite_f hb24 hm
                              refine tt_run [26, 27, 28, 30, 31] [8, 10, 59, 60, 61, 118, 119, 121, 124] [6, 0, 1, 2, 7, 3, 4, 5, 8] 1 (listed' := #[true, true, true, true, true, true, true, true, true, true, true, true, true, true, true, true, true, true, true, true, true, true, true, true, true, true, true, true, true, false, true, true, false, false, false, false]) (l := [(⟨g7, 1, none⟩, .int .i64 e1.xN), (⟨g7, 1, none⟩, .int .i64 e1.xN)]) (.one (at_blk (j := 8) rfl rfl) (.one (at_blk (j := 8) rfl rfl) .nil)) (E' := [(8, .pointer (some ⟨g1, 0, none⟩)), (10, .pointer (some ⟨g4, 0, none⟩)), (59, .slice A10 t11.length c10), (60, .int .i64 (t11.length : Int)), (61, .int .i64 p1), (118, .bool false), (119, .pointer (some ⟨g1, 0, none⟩)), (121, .int .i64 e1.xN), (124, .int .i64 e1.xN)]) (by kernel_rfl) (by kernel_rfl) (by kernel_rfl) (Ext.refl _) (by kernel_rfl) (by kernel_rfl) ?_
                              obtain ⟨t22, hx31, hm⟩ := bind_some hm
                              refine tt_stp 29 [6, 0, 1, 2, 7, 3, 4, 5, 8] (Ext.refl _) (by kernel_rfl) (by kernel_rfl) (by kernel_rfl) (by kernel_rfl) ?_
                              refine s_call 122 23 #[.pointer (some ⟨g1, 0, none⟩), .int .i64 e1.xN] [3, 4, 5] [0, 1, 2, 6, 7, 8] (by kernel_rfl) (by kernel_rfl) (fun w hs => rbuf_Buffer_Blocks_ok k t14.2 e1.xN t22 hx31 B7 _ g1 g9 A34 c34 A35 c35 hs14 w (St.cast (by kernel_rfl) hs)) (fun x hx => ?_)
                              obtain ⟨B10, A36, c36⟩ := x
                              obtain ⟨hx32, hs15⟩ := hx
                              refine t_L (L' := [.blk g1 [.pointer (some ⟨g9, 0, none⟩), .slice A35 t14.2.xbytes.length c35, .int .i64 t14.2.xbegin, .int .i64 t14.2.xn, .int .u32 t14.2.xlast, .bool t14.2.xkept] 50, .blk g9 [.bool t14.2.xBoard.xmade, .int .u32 t14.2.xBoard.xfirst, .slice A34 t14.2.xBoard.xruns.length c34] 76, .own A35 t14.2.xbytes.length c35 (rowOf (encI .u8) t14.2.xbytes) 1 5, .blk g4 [.int .i64 t15.2.xRoom, .int .u32 t15.2.xNext, .slice A30 t15.2.xIn.length c30, .slice A31 t15.2.xCame.length c31, .slice A32 t15.2.xOut.length c32, .int .u32 t15.2.xLast, .bool t15.2.xHas] 42, .own A31 t15.2.xCame.length c31 (rowOf encB t15.2.xCame) 1 4, .own A32 t15.2.xOut.length c32 (rowOf (encI .u8) t15.2.xOut) 1 5, .own A29 t15.1.length c29 (rowOf (encI .u8) t15.1) 1 5, .own A33 t14.1.length c33 (rowOf (encI .u8) t14.1) 1 5, .blk g7 [.bool e1.xRead, .int .i64 e1.xN, .int .i32 e1.xAhead, .slice A21 e1.xBytes.length c21] 34]) (by kernel_rfl) ?_
                              refine tt_end [6, 3, 4, 5, 7, 0, 1, 2, 8] hx32 (by kernel_rfl) (by kernel_rfl) (by kernel_rfl) ?_
                              obtain ⟨t23, hx33, hm⟩ := bind_some hm
                              refine o_stp ?_ (by kernel_rfl)
                              refine s_call 125 24 #[.pointer (some ⟨g4, 0, none⟩), .int .i64 e1.xN] [3, 4, 5] [0, 1, 2, 6, 7, 8] (by kernel_rfl) (by kernel_rfl) (fun w hs => downhaulref26_Buffer_Blocks_ok k t15.2 e1.xN t23 hx33 B10 _ g4 A30 c30 A31 c31 A32 c32 (hs13.up hx32) w (St.cast (by kernel_rfl) hs)) (fun x hx => ?_)
                              obtain ⟨B11, A37, c37⟩ := x
                              obtain ⟨hx34, hs16⟩ := hx
                              refine t_L (L' := [.blk g4 [.int .i64 t15.2.xRoom, .int .u32 t15.2.xNext, .slice A30 t15.2.xIn.length c30, .slice A31 t15.2.xCame.length c31, .slice A32 t15.2.xOut.length c32, .int .u32 t15.2.xLast, .bool t15.2.xHas] 42, .own A31 t15.2.xCame.length c31 (rowOf encB t15.2.xCame) 1 4, .own A32 t15.2.xOut.length c32 (rowOf (encI .u8) t15.2.xOut) 1 5, .blk g1 [.pointer (some ⟨g9, 0, none⟩), .slice A35 t14.2.xbytes.length c35, .int .i64 t14.2.xbegin, .int .i64 t14.2.xn, .int .u32 t14.2.xlast, .bool t14.2.xkept] 50, .blk g9 [.bool t14.2.xBoard.xmade, .int .u32 t14.2.xBoard.xfirst, .slice A34 t14.2.xBoard.xruns.length c34] 76, .own A35 t14.2.xbytes.length c35 (rowOf (encI .u8) t14.2.xbytes) 1 5, .own A29 t15.1.length c29 (rowOf (encI .u8) t15.1) 1 5, .own A33 t14.1.length c33 (rowOf (encI .u8) t14.1) 1 5, .blk g7 [.bool e1.xRead, .int .i64 e1.xN, .int .i32 e1.xAhead, .slice A21 e1.xBytes.length c21] 34]) (by kernel_rfl) ?_
                              obtain ⟨t24, hx35, hm⟩ := bind_some hm
                              refine o_stp ?_ (by kernel_rfl)
                              refine s_call 126 22 #[.slice A36 t22.length c36, .slice A37 t23.length c37] [] [0, 1, 2, 3, 4, 5, 6, 7, 8] (by kernel_rfl) (by kernel_rfl) (fun w hs => downhaullaw26_same_ok k t22 t23 t24 hx35 B11 _ A36 c36 A37 c37 (hs15.up hx34) hs16 w (St.cast (by kernel_rfl) hs)) (fun _ hx => ?_)
                              refine t_L (L' := [.blk g4 [.int .i64 t15.2.xRoom, .int .u32 t15.2.xNext, .slice A30 t15.2.xIn.length c30, .slice A31 t15.2.xCame.length c31, .slice A32 t15.2.xOut.length c32, .int .u32 t15.2.xLast, .bool t15.2.xHas] 42, .own A31 t15.2.xCame.length c31 (rowOf encB t15.2.xCame) 1 4, .own A32 t15.2.xOut.length c32 (rowOf (encI .u8) t15.2.xOut) 1 5, .blk g1 [.pointer (some ⟨g9, 0, none⟩), .slice A35 t14.2.xbytes.length c35, .int .i64 t14.2.xbegin, .int .i64 t14.2.xn, .int .u32 t14.2.xlast, .bool t14.2.xkept] 50, .blk g9 [.bool t14.2.xBoard.xmade, .int .u32 t14.2.xBoard.xfirst, .slice A34 t14.2.xBoard.xruns.length c34] 76, .own A35 t14.2.xbytes.length c35 (rowOf (encI .u8) t14.2.xbytes) 1 5, .own A29 t15.1.length c29 (rowOf (encI .u8) t15.1) 1 5, .own A33 t14.1.length c33 (rowOf (encI .u8) t14.1) 1 5, .blk g7 [.bool e1.xRead, .int .i64 e1.xN, .int .i32 e1.xAhead, .slice A21 e1.xBytes.length c21] 34]) (by kernel_rfl) ?_
                              refine o_run 2 [8, 10, 59, 60, 61, 128] (l := []) .nil (E' := [(8, .pointer (some ⟨g1, 0, none⟩)), (10, .pointer (some ⟨g4, 0, none⟩)), (59, .slice A10 t11.length c10), (60, .int .i64 (t11.length : Int)), (61, .int .i64 p1), (128, .bool (!t24))]) (by kernel_rfl) ?_
                              refine o_end (by kernel_rfl) ?_
                              refine e_seq ?_
                              refine w_cond (.tmp 128) 259278 259279 (!t24) (by kernel_rfl) (by kernel_rfl) (fun hb25 => ?_) (fun hb25 => ?_)
                              · replace hm := ite_t hb25 hm
                                refine w_seq 518556 518557 (by kernel_rfl) ?_
                                refine w_region (by kernel_rfl) ?_
                                refine o_run 1 [6] (l := []) .nil (E' := [(6, .bool false)]) (by kernel_rfl) ?_
                                refine o_end (by kernel_rfl) ?_
                                refine e_seq ?_
                                refine w_ret (by kernel_rfl) ?_
                                obtain rfl := Option.some.inj hm
                                replace hm := brk_inl ho2
                                obtain rfl := Option.some.inj hm
                                exact e_retP B11 (.bool false) [] (by kernel_rfl) (by kernel_rfl) rfl (by kernel_rfl) (by kernel_rfl) (Ext.trans (Ext.trans hx18 hx32) hx34)
                              · replace hm := ite_f hb25 hm
                                refine w_skip (by kernel_rfl) ?_
                                refine e_blk ?_
                                refine e_seq ?_
                                refine w_region (by kernel_rfl) ?_
                                refine o_run 2 [8, 10, 59, 60, 61] (l := []) .nil (E' := [(8, .pointer (some ⟨g1, 0, none⟩)), (10, .pointer (some ⟨g4, 0, none⟩)), (59, .slice A10 t11.length c10), (60, .int .i64 (t11.length : Int)), (61, .int .i64 (I64 (p1 + 1)))]) (by kernel_rfl) ?_
                                refine o_end (by kernel_rfl) ?_
                                refine t_drop [0, 1, 2, 3, 4, 5] (by kernel_rfl) ?_
                                refine t_L (L' := [.blk g4 [.int .i64 t15.2.xRoom, .int .u32 t15.2.xNext, .slice A30 t15.2.xIn.length c30, .slice A31 t15.2.xCame.length c31, .slice A32 t15.2.xOut.length c32, .int .u32 t15.2.xLast, .bool t15.2.xHas] 42, .own A31 t15.2.xCame.length c31 (rowOf encB t15.2.xCame) 1 4, .own A32 t15.2.xOut.length c32 (rowOf (encI .u8) t15.2.xOut) 1 5, .blk g1 [.pointer (some ⟨g9, 0, none⟩), .slice A35 t14.2.xbytes.length c35, .int .i64 t14.2.xbegin, .int .i64 t14.2.xn, .int .u32 t14.2.xlast, .bool t14.2.xkept] 50, .blk g9 [.bool t14.2.xBoard.xmade, .int .u32 t14.2.xBoard.xfirst, .slice A34 t14.2.xBoard.xruns.length c34] 76, .own A35 t14.2.xbytes.length c35 (rowOf (encI .u8) t14.2.xbytes) 1 5]) (by kernel_rfl) ?_
                                refine t_env [8, 10, 59, 60, 61] (E' := [(8, .pointer (some ⟨g1, 0, none⟩)), (10, .pointer (some ⟨g4, 0, none⟩)), (59, .slice A10 t11.length c10), (60, .int .i64 (t11.length : Int)), (61, .int .i64 (I64 (p1 + 1)))]) (by kernel_rfl) ?_
                                exact e_inv (fun a w ha hw => ⟨k, Nat.lt_succ_self k, (I64 (p1 + 1)), t15.2, t14.2, B11, A30, c30, A31, c31, A32, c32, g9, A34, c34, A35, c35, hm, (Ext.trans (Ext.trans hx18 hx32) hx34), ((hs13.up hx32).up hx34), ((hs14.up hx32).up hx34), ha, hw⟩)
                  · refine w_tail 9 [.blk g7 [.bool e1.xRead, .int .i64 e1.xN, .int .i32 e1.xAhead, .slice A21 e1.xBytes.length c21] 34] (by kernel_rfl) mixed (by kernel_rfl) ?_
                    refine tt_run [0, 1, 2, 5, 6] [8, 10, 13, 59, 60, 61, 67, 69, 73] [0] 4 (listed' := #[true, true, true, false, false, true, true, false, false, false]) (l := [(⟨g7, 1, none⟩, .int .i64 e1.xN), (⟨g7, 1, none⟩, .int .i64 e1.xN)]) (.one (at_blk (j := 0) rfl rfl) (.one (at_blk (j := 0) rfl rfl) .nil)) (E' := [(8, .pointer (some ⟨g1, 0, none⟩)), (10, .pointer (some ⟨g4, 0, none⟩)), (13, .pointer (some ⟨g7, 0, none⟩)), (59, .slice A10 t11.length c10), (60, .int .i64 (t11.length : Int)), (61, .int .i64 p1), (67, .pointer (some ⟨g1, 0, none⟩)), (69, .int .i64 e1.xN), (73, .int .i64 e1.xN)]) (by kernel_rfl) (by kernel_rfl) (by kernel_rfl) (Ext.refl _) (by kernel_rfl) (by kernel_rfl) ?_
                    refine tt_stp 3 [0] (Ext.refl _) (by kernel_rfl) (by kernel_rfl) (by kernel_rfl) (by kernel_rfl) ?_
                    refine s_call 70 11 #[.pointer (some ⟨g1, 0, none⟩), .int .i64 e1.xN] [4, 5, 6] [0, 1, 2, 3] (by kernel_rfl) (by kernel_rfl) (fun w hs => rbuf_Buffer_Read_ok k p3 e1.xN t14 hx23 B7 _ g1 g5 A14 c14 A15 c15 hs7 w (St.cast (by kernel_rfl) hs)) (fun x hx => ?_)
                    obtain ⟨A38, c38, g10, A39, c39, A40, c40⟩ := x
                    have hs17 := hx
                    refine t_L (L' := [.own A38 t14.1.length c38 (rowOf (encI .u8) t14.1) 1 5, .blk g1 [.pointer (some ⟨g10, 0, none⟩), .slice A40 t14.2.xbytes.length c40, .int .i64 t14.2.xbegin, .int .i64 t14.2.xn, .int .u32 t14.2.xlast, .bool t14.2.xkept] 50, .blk g10 [.bool t14.2.xBoard.xmade, .int .u32 t14.2.xBoard.xfirst, .slice A39 t14.2.xBoard.xruns.length c39] 76, .own A40 t14.2.xbytes.length c40 (rowOf (encI .u8) t14.2.xbytes) 1 5, .blk g7 [.bool e1.xRead, .int .i64 e1.xN, .int .i32 e1.xAhead, .slice A21 e1.xBytes.length c21] 34, .blk g4 [.int .i64 p2.xRoom, .int .u32 p2.xNext, .slice A11 p2.xIn.length c11, .slice A12 p2.xCame.length c12, .slice A13 p2.xOut.length c13, .int .u32 p2.xLast, .bool p2.xHas] 42, .own A12 p2.xCame.length c12 (rowOf encB p2.xCame) 1 4, .own A13 p2.xOut.length c13 (rowOf (encI .u8) p2.xOut) 1 5]) (by kernel_rfl) ?_
                    refine tt_all [4, 7] [4] (Ext.refl _) (by kernel_rfl) (by kernel_rfl) (by kernel_rfl) (by kernel_rfl) ⟨?_, ?_, trivial⟩
                    · refine s_val 71 (.convert 32 9 (.tmp 70)) (.string (strOf t14.1)) (by kernel_rfl) (v_strO (j := 0) rfl rfl (by kernel_rfl) (by kernel_rfl)) ?_
                      refine tt_stp 7 [4] (Ext.refl _) (by kernel_rfl) (by kernel_rfl) (by kernel_rfl) (by kernel_rfl) ?_
                      refine s_call 74 16 #[.pointer (some ⟨g4, 0, none⟩), .int .i64 e1.xN] [5, 6, 7] [0, 1, 2, 3, 4] (by kernel_rfl) (by kernel_rfl) (fun w hs => downhaulref26_Buffer_Read_ok p2 e1.xN t15 hx24 B7 _ g4 A11 c11 A12 c12 A13 c13 hs6 w (St.cast (by kernel_rfl) hs)) (fun x hx => ?_)
                      obtain ⟨A41, c41, A42, c42, A43, c43, A44, c44⟩ := x
                      have hs18 := hx
                      refine t_L (L' := [.own A41 t15.1.length c41 (rowOf (encI .u8) t15.1) 1 5, .blk g4 [.int .i64 t15.2.xRoom, .int .u32 t15.2.xNext, .slice A42 t15.2.xIn.length c42, .slice A43 t15.2.xCame.length c43, .slice A44 t15.2.xOut.length c44, .int .u32 t15.2.xLast, .bool t15.2.xHas] 42, .own A43 t15.2.xCame.length c43 (rowOf encB t15.2.xCame) 1 4, .own A44 t15.2.xOut.length c44 (rowOf (encI .u8) t15.2.xOut) 1 5, .own A38 t14.1.length c38 (rowOf (encI .u8) t14.1) 1 5, .blk g1 [.pointer (some ⟨g10, 0, none⟩), .slice A40 t14.2.xbytes.length c40, .int .i64 t14.2.xbegin, .int .i64 t14.2.xn, .int .u32 t14.2.xlast, .bool t14.2.xkept] 50, .blk g10 [.bool t14.2.xBoard.xmade, .int .u32 t14.2.xBoard.xfirst, .slice A39 t14.2.xBoard.xruns.length c39] 76, .own A40 t14.2.xbytes.length c40 (rowOf (encI .u8) t14.2.xbytes) 1 5, .blk g7 [.bool e1.xRead, .int .i64 e1.xN, .int .i32 e1.xAhead, .slice A21 e1.xBytes.length c21] 34]) (by kernel_rfl) ?_
                      refine tt_stp 8 [8] (Ext.refl _) (by kernel_rfl) (by kernel_rfl) (by kernel_rfl) (by kernel_rfl) ?_
                      refine s_val 75 (.convert 32 9 (.tmp 74)) (.string (strOf t15.1)) (by kernel_rfl) (v_strO (j := 0) rfl rfl (by kernel_rfl) (by kernel_rfl)) ?_
                      refine tt_end [8] (Ext.refl _) (by kernel_rfl) (by kernel_rfl) (by kernel_rfl) ?_
                      refine o_run 1 [8, 10, 13, 59, 60, 61, 76] (l := []) .nil (E' := [(8, .pointer (some ⟨g1, 0, none⟩)), (10, .pointer (some ⟨g4, 0, none⟩)), (13, .pointer (some ⟨g7, 0, none⟩)), (59, .slice A10 t11.length c10), (60, .int .i64 (t11.length : Int)), (61, .int .i64 p1), (76, .bool (!((strOf t14.1).toList == (strOf t15.1).toList)))]) (by kernel_rfl) ?_
                      refine o_end (by kernel_rfl) ?_
                      refine t_drop [0, 1, 2, 3, 4, 5, 6, 7, 8] (by kernel_rfl) ?_
                      refine t_L (L' := [.own A41 t15.1.length c41 (rowOf (encI .u8) t15.1) 1 5, .blk g4 [.int .i64 t15.2.xRoom, .int .u32 t15.2.xNext, .slice A42 t15.2.xIn.length c42, .slice A43 t15.2.xCame.length c43, .slice A44 t15.2.xOut.length c44, .int .u32 t15.2.xLast, .bool t15.2.xHas] 42, .own A43 t15.2.xCame.length c43 (rowOf encB t15.2.xCame) 1 4, .own A44 t15.2.xOut.length c44 (rowOf (encI .u8) t15.2.xOut) 1 5, .own A38 t14.1.length c38 (rowOf (encI .u8) t14.1) 1 5, .blk g1 [.pointer (some ⟨g10, 0, none⟩), .slice A40 t14.2.xbytes.length c40, .int .i64 t14.2.xbegin, .int .i64 t14.2.xn, .int .u32 t14.2.xlast, .bool t14.2.xkept] 50, .blk g10 [.bool t14.2.xBoard.xmade, .int .u32 t14.2.xBoard.xfirst, .slice A39 t14.2.xBoard.xruns.length c39] 76, .own A40 t14.2.xbytes.length c40 (rowOf (encI .u8) t14.2.xbytes) 1 5, .blk g7 [.bool e1.xRead, .int .i64 e1.xN, .int .i32 e1.xAhead, .slice A21 e1.xBytes.length c21] 34]) (by kernel_rfl) ?_
                      refine t_env [8, 10, 13, 59, 60, 61, 76] (E' := [(8, .pointer (some ⟨g1, 0, none⟩)), (10, .pointer (some ⟨g4, 0, none⟩)), (13, .pointer (some ⟨g7, 0, none⟩)), (59, .slice A10 t11.length c10), (60, .int .i64 (t11.length : Int)), (61, .int .i64 p1), (76, .bool (!((strOf t14.1).toList == (strOf t15.1).toList)))]) (by kernel_rfl) ?_
                      exact e_inv (fun a w ha hw => ⟨A41, c41, A42, c42, A43, c43, A44, c44, A38, c38, g10, A39, c39, A40, c40, hs18, hs17, ha, hw⟩)
                    · refine s_call 74 16 #[.pointer (some ⟨g4, 0, none⟩), .int .i64 e1.xN] [5, 6, 7] [0, 1, 2, 3, 4] (by kernel_rfl) (by kernel_rfl) (fun w hs => downhaulref26_Buffer_Read_ok p2 e1.xN t15 hx24 B7 _ g4 A11 c11 A12 c12 A13 c13 hs6 w (St.cast (by kernel_rfl) hs)) (fun x hx => ?_)
                      obtain ⟨A45, c45, A46, c46, A47, c47, A48, c48⟩ := x
                      have hs19 := hx
                      refine t_L (L' := [.own A45 t15.1.length c45 (rowOf (encI .u8) t15.1) 1 5, .blk g4 [.int .i64 t15.2.xRoom, .int .u32 t15.2.xNext, .slice A46 t15.2.xIn.length c46, .slice A47 t15.2.xCame.length c47, .slice A48 t15.2.xOut.length c48, .int .u32 t15.2.xLast, .bool t15.2.xHas] 42, .own A47 t15.2.xCame.length c47 (rowOf encB t15.2.xCame) 1 4, .own A48 t15.2.xOut.length c48 (rowOf (encI .u8) t15.2.xOut) 1 5, .own A38 t14.1.length c38 (rowOf (encI .u8) t14.1) 1 5, .blk g1 [.pointer (some ⟨g10, 0, none⟩), .slice A40 t14.2.xbytes.length c40, .int .i64 t14.2.xbegin, .int .i64 t14.2.xn, .int .u32 t14.2.xlast, .bool t14.2.xkept] 50, .blk g10 [.bool t14.2.xBoard.xmade, .int .u32 t14.2.xBoard.xfirst, .slice A39 t14.2.xBoard.xruns.length c39] 76, .own A40 t14.2.xbytes.length c40 (rowOf (encI .u8) t14.2.xbytes) 1 5, .blk g7 [.bool e1.xRead, .int .i64 e1.xN, .int .i32 e1.xAhead, .slice A21 e1.xBytes.length c21] 34]) (by kernel_rfl) ?_
                      refine tt_all [4, 8] [8] (Ext.refl _) (by kernel_rfl) (by kernel_rfl) (by kernel_rfl) (by kernel_rfl) ⟨?_, ?_, trivial⟩
                      · refine s_val 71 (.convert 32 9 (.tmp 70)) (.string (strOf t14.1)) (by kernel_rfl) (v_strO (j := 4) rfl rfl (by kernel_rfl) (by kernel_rfl)) ?_
                        refine tt_stp 8 [8] (Ext.refl _) (by kernel_rfl) (by kernel_rfl) (by kernel_rfl) (by kernel_rfl) ?_
                        refine s_val 75 (.convert 32 9 (.tmp 74)) (.string (strOf t15.1)) (by kernel_rfl) (v_strO (j := 0) rfl rfl (by kernel_rfl) (by kernel_rfl)) ?_
                        refine tt_end [8] (Ext.refl _) (by kernel_rfl) (by kernel_rfl) (by kernel_rfl) ?_
                        refine o_run 1 [8, 10, 13, 59, 60, 61, 76] (l := []) .nil (E' := [(8, .pointer (some ⟨g1, 0, none⟩)), (10, .pointer (some ⟨g4, 0, none⟩)), (13, .pointer (some ⟨g7, 0, none⟩)), (59, .slice A10 t11.length c10), (60, .int .i64 (t11.length : Int)), (61, .int .i64 p1), (76, .bool (!((strOf t14.1).toList == (strOf t15.1).toList)))]) (by kernel_rfl) ?_
                        refine o_end (by kernel_rfl) ?_
                        refine t_drop [0, 1, 2, 3, 4, 5, 6, 7, 8] (by kernel_rfl) ?_
                        refine t_L (L' := [.own A45 t15.1.length c45 (rowOf (encI .u8) t15.1) 1 5, .blk g4 [.int .i64 t15.2.xRoom, .int .u32 t15.2.xNext, .slice A46 t15.2.xIn.length c46, .slice A47 t15.2.xCame.length c47, .slice A48 t15.2.xOut.length c48, .int .u32 t15.2.xLast, .bool t15.2.xHas] 42, .own A47 t15.2.xCame.length c47 (rowOf encB t15.2.xCame) 1 4, .own A48 t15.2.xOut.length c48 (rowOf (encI .u8) t15.2.xOut) 1 5, .own A38 t14.1.length c38 (rowOf (encI .u8) t14.1) 1 5, .blk g1 [.pointer (some ⟨g10, 0, none⟩), .slice A40 t14.2.xbytes.length c40, .int .i64 t14.2.xbegin, .int .i64 t14.2.xn, .int .u32 t14.2.xlast, .bool t14.2.xkept] 50, .blk g10 [.bool t14.2.xBoard.xmade, .int .u32 t14.2.xBoard.xfirst, .slice A39 t14.2.xBoard.xruns.length c39] 76, .own A40 t14.2.xbytes.length c40 (rowOf (encI .u8) t14.2.xbytes) 1 5, .blk g7 [.bool e1.xRead, .int .i64 e1.xN, .int .i32 e1.xAhead, .slice A21 e1.xBytes.length c21] 34]) (by kernel_rfl) ?_
                        refine t_env [8, 10, 13, 59, 60, 61, 76] (E' := [(8, .pointer (some ⟨g1, 0, none⟩)), (10, .pointer (some ⟨g4, 0, none⟩)), (13, .pointer (some ⟨g7, 0, none⟩)), (59, .slice A10 t11.length c10), (60, .int .i64 (t11.length : Int)), (61, .int .i64 p1), (76, .bool (!((strOf t14.1).toList == (strOf t15.1).toList)))]) (by kernel_rfl) ?_
                        exact e_inv (fun a w ha hw => ⟨A45, c45, A46, c46, A47, c47, A48, c48, A38, c38, g10, A39, c39, A40, c40, hs19, hs17, ha, hw⟩)
                      · refine s_val 75 (.convert 32 9 (.tmp 74)) (.string (strOf t15.1)) (by kernel_rfl) (v_strO (j := 0) rfl rfl (by kernel_rfl) (by kernel_rfl)) ?_
                        refine tt_stp 4 [8] (Ext.refl _) (by kernel_rfl) (by kernel_rfl) (by kernel_rfl) (by kernel_rfl) ?_
                        refine s_val 71 (.convert 32 9 (.tmp 70)) (.string (strOf t14.1)) (by kernel_rfl) (v_strO (j := 4) rfl rfl (by kernel_rfl) (by kernel_rfl)) ?_
                        refine tt_end [8] (Ext.refl _) (by kernel_rfl) (by kernel_rfl) (by kernel_rfl) ?_
                        refine o_run 1 [8, 10, 13, 59, 60, 61, 76] (l := []) .nil (E' := [(8, .pointer (some ⟨g1, 0, none⟩)), (10, .pointer (some ⟨g4, 0, none⟩)), (13, .pointer (some ⟨g7, 0, none⟩)), (59, .slice A10 t11.length c10), (60, .int .i64 (t11.length : Int)), (61, .int .i64 p1), (76, .bool (!((strOf t14.1).toList == (strOf t15.1).toList)))]) (by kernel_rfl) ?_
                        refine o_end (by kernel_rfl) ?_
                        refine t_drop [0, 1, 2, 3, 4, 5, 6, 7, 8] (by kernel_rfl) ?_
                        refine t_L (L' := [.own A45 t15.1.length c45 (rowOf (encI .u8) t15.1) 1 5, .blk g4 [.int .i64 t15.2.xRoom, .int .u32 t15.2.xNext, .slice A46 t15.2.xIn.length c46, .slice A47 t15.2.xCame.length c47, .slice A48 t15.2.xOut.length c48, .int .u32 t15.2.xLast, .bool t15.2.xHas] 42, .own A47 t15.2.xCame.length c47 (rowOf encB t15.2.xCame) 1 4, .own A48 t15.2.xOut.length c48 (rowOf (encI .u8) t15.2.xOut) 1 5, .own A38 t14.1.length c38 (rowOf (encI .u8) t14.1) 1 5, .blk g1 [.pointer (some ⟨g10, 0, none⟩), .slice A40 t14.2.xbytes.length c40, .int .i64 t14.2.xbegin, .int .i64 t14.2.xn, .int .u32 t14.2.xlast, .bool t14.2.xkept] 50, .blk g10 [.bool t14.2.xBoard.xmade, .int .u32 t14.2.xBoard.xfirst, .slice A39 t14.2.xBoard.xruns.length c39] 76, .own A40 t14.2.xbytes.length c40 (rowOf (encI .u8) t14.2.xbytes) 1 5, .blk g7 [.bool e1.xRead, .int .i64 e1.xN, .int .i32 e1.xAhead, .slice A21 e1.xBytes.length c21] 34]) (by kernel_rfl) ?_
                        refine t_env [8, 10, 13, 59, 60, 61, 76] (E' := [(8, .pointer (some ⟨g1, 0, none⟩)), (10, .pointer (some ⟨g4, 0, none⟩)), (13, .pointer (some ⟨g7, 0, none⟩)), (59, .slice A10 t11.length c10), (60, .int .i64 (t11.length : Int)), (61, .int .i64 p1), (76, .bool (!((strOf t14.1).toList == (strOf t15.1).toList)))]) (by kernel_rfl) ?_
                        exact e_inv (fun a w ha hw => ⟨A45, c45, A46, c46, A47, c47, A48, c48, A38, c38, g10, A39, c39, A40, c40, hs19, hs17, ha, hw⟩)
                · replace hm := ite_f hb19 hm
                  refine w_seq 518550 518551 (by kernel_rfl) ?_
                  refine w_region (by kernel_rfl) ?_
                  refine o_run 7 [8, 10, 13, 14, 59, 60, 61] (l := [(⟨g4, 1, none⟩, .int .u32 p2.xNext), (⟨g7, 2, none⟩, .int .i32 e1.xAhead)]) (.one (at_blk (j := 1) rfl rfl) (.one (at_blk (j := 0) rfl rfl) .nil)) (E' := [(8, .pointer (some ⟨g1, 0, none⟩)), (10, .pointer (some ⟨g4, 0, none⟩)), (13, .pointer (some ⟨g7, 0, none⟩)), (14, .int .u32 (U32 (p2.xNext + (U32 e1.xAhead)))), (59, .slice A10 t11.length c10), (60, .int .i64 (t11.length : Int)), (61, .int .i64 p1)]) (by kernel_rfl) ?_
                  refine o_end (by kernel_rfl) ?_
                  refine e_seq ?_
                  refine w_seq 1037102 1037103 (by kernel_rfl) ?_
                  obtain ⟨t25, hx36, hm⟩ := bind_some hm
                  obtain ⟨t26, hx38, hm⟩ := bind_some hm
                  refine w_tail 8 [.blk g7 [.bool e1.xRead, .int .i64 e1.xN, .int .i32 e1.xAhead, .slice A21 e1.xBytes.length c21] 34, .blk g4 [.int .i64 p2.xRoom, .int .u32 p2.xNext, .slice A11 p2.xIn.length c11, .slice A12 p2.xCame.length c12, .slice A13 p2.xOut.length c13, .int .u32 p2.xLast, .bool p2.xHas] 42, .own A12 p2.xCame.length c12 (rowOf encB p2.xCame) 1 4, .own A13 p2.xOut.length c13 (rowOf (encI .u8) p2.xOut) 1 5] (by kernel_rfl) mixed (by kernel_rfl) ?_
                  refine tt_run [0, 1, 2, 3, 5, 6, 7] [8, 10, 13, 59, 60, 61, 83, 84, 86, 88, 90] [0, 1, 2, 3] 1 (listed' := #[true, true, true, true, false, true, true, true, false, false]) (l := [(⟨g7, 3, none⟩, .slice A21 e1.xBytes.length c21), (⟨g7, 3, none⟩, .slice A21 e1.xBytes.length c21)]) (.one (at_blk (j := 0) rfl rfl) (.one (at_blk (j := 0) rfl rfl) .nil)) (E' := [(8, .pointer (some ⟨g1, 0, none⟩)), (10, .pointer (some ⟨g4, 0, none⟩)), (13, .pointer (some ⟨g7, 0, none⟩)), (59, .slice A10 t11.length c10), (60, .int .i64 (t11.length : Int)), (61, .int .i64 p1), (83, .pointer (some ⟨g1, 0, none⟩)), (84, .int .u32 (U32 (p2.xNext + (U32 e1.xAhead)))), (86, .slice A21 e1.xBytes.length c21), (88, .int .u32 (U32 (p2.xNext + (U32 e1.xAhead)))), (90, .slice A21 e1.xBytes.length c21)]) (by kernel_rfl) (by kernel_rfl) (by kernel_rfl) (Ext.refl _) (by kernel_rfl) (by kernel_rfl) ?_
                  refine tt_stp 4 [0, 1, 2, 3] (Ext.refl _) (by kernel_rfl) (by kernel_rfl) (by kernel_rfl) (by kernel_rfl) ?_
                  refine s_call 87 12 #[.pointer (some ⟨g1, 0, none⟩), .int .u32 (U32 (p2.xNext + (U32 e1.xAhead))), .slice A21 e1.xBytes.length c21] [4, 5, 6] [0, 1, 2, 3] (by kernel_rfl) (by kernel_rfl) (fun w hs => rbuf_Buffer_Insert_ok k p3 (U32 (p2.xNext + (U32 e1.xAhead))) e1.xBytes t25 hx36 B7 _ g1 g5 A14 c14 A15 c15 A21 c21 hs7 hs10 w (St.cast (by kernel_rfl) hs)) (fun x hx => ?_)
                  obtain ⟨B14, g12, A54, c54, A55, c55⟩ := x
                  obtain ⟨hx40, hs22⟩ := hx
                  refine t_L (L' := [.blk g1 [.pointer (some ⟨g12, 0, none⟩), .slice A55 t25.2.xbytes.length c55, .int .i64 t25.2.xbegin, .int .i64 t25.2.xn, .int .u32 t25.2.xlast, .bool t25.2.xkept] 50, .blk g12 [.bool t25.2.xBoard.xmade, .int .u32 t25.2.xBoard.xfirst, .slice A54 t25.2.xBoard.xruns.length c54] 76, .own A55 t25.2.xbytes.length c55 (rowOf (encI .u8) t25.2.xbytes) 1 5, .blk g7 [.bool e1.xRead, .int .i64 e1.xN, .int .i32 e1.xAhead, .slice A21 e1.xBytes.length c21] 34, .blk g4 [.int .i64 p2.xRoom, .int .u32 p2.xNext, .slice A11 p2.xIn.length c11, .slice A12 p2.xCame.length c12, .slice A13 p2.xOut.length c13, .int .u32 p2.xLast, .bool p2.xHas] 42, .own A12 p2.xCame.length c12 (rowOf encB p2.xCame) 1 4, .own A13 p2.xOut.length c13 (rowOf (encI .u8) p2.xOut) 1 5]) (by kernel_rfl) ?_
                  refine tt_end [3, 4, 5, 6] hx40 (by kernel_rfl) (by kernel_rfl) (by kernel_rfl) ?_
                  refine o_stp ?_ (by kernel_rfl)
                  refine s_call 91 17 #[.pointer (some ⟨g4, 0, none⟩), .int .u32 (U32 (p2.xNext + (U32 e1.xAhead))), .slice A21 e1.xBytes.length c21] [4, 5, 6] [0, 1, 2, 3] (by kernel_rfl) (by kernel_rfl) (fun w hs => downhaulref26_Buffer_Insert_ok k p2 (U32 (p2.xNext + (U32 e1.xAhead))) e1.xBytes t26 hx38 B14 _ g4 A11 c11 A12 c12 A13 c13 A21 c21 (hs6.up hx40) (hs10.up hx40) w (St.cast (by kernel_rfl) hs)) (fun x hx => ?_)
                  obtain ⟨B15, A56, c56, A57, c57, A58, c58⟩ := x
                  obtain ⟨hx41, hs23⟩ := hx
                  refine t_L (L' := [.blk g4 [.int .i64 t26.2.xRoom, .int .u32 t26.2.xNext, .slice A56 t26.2.xIn.length c56, .slice A57 t26.2.xCame.length c57, .slice A58 t26.2.xOut.length c58, .int .u32 t26.2.xLast, .bool t26.2.xHas] 42, .own A57 t26.2.xCame.length c57 (rowOf encB t26.2.xCame) 1 4, .own A58 t26.2.xOut.length c58 (rowOf (encI .u8) t26.2.xOut) 1 5, .blk g1 [.pointer (some ⟨g12, 0, none⟩), .slice A55 t25.2.xbytes.length c55, .int .i64 t25.2.xbegin, .int .i64 t25.2.xn, .int .u32 t25.2.xlast, .bool t25.2.xkept] 50, .blk g12 [.bool t25.2.xBoard.xmade, .int .u32 t25.2.xBoard.xfirst, .slice A54 t25.2.xBoard.xruns.length c54] 76, .own A55 t25.2.xbytes.length c55 (rowOf (encI .u8) t25.2.xbytes) 1 5, .blk g7 [.bool e1.xRead, .int .i64 e1.xN, .int .i32 e1.xAhead, .slice A21 e1.xBytes.length c21] 34]) (by kernel_rfl) ?_
                  refine o_run 1 [8, 10, 13, 59, 60, 61, 92] (l := []) .nil (E' := [(8, .pointer (some ⟨g1, 0, none⟩)), (10, .pointer (some ⟨g4, 0, none⟩)), (13, .pointer (some ⟨g7, 0, none⟩)), (59, .slice A10 t11.length c10), (60, .int .i64 (t11.length : Int)), (61, .int .i64 p1), (92, .bool (t25.1 != t26.1))]) (by kernel_rfl) ?_
                  refine o_end (by kernel_rfl) ?_
                  refine e_seq ?_
                  refine w_cond (.tmp 92) 2074206 2074207 (t25.1 != t26.1) (by kernel_rfl) (by kernel_rfl) (fun hb26 => ?_) (fun hb26 => ?_)
                  · replace hm := ite_t hb26 hm
                    refine w_seq 4148412 4148413 (by kernel_rfl) ?_
                    refine w_region (by kernel_rfl) ?_
                    refine o_run 1 [6] (l := []) .nil (E' := [(6, .bool false)]) (by kernel_rfl) ?_
                    refine o_end (by kernel_rfl) ?_
                    refine e_seq ?_
                    refine w_ret (by kernel_rfl) ?_
                    obtain rfl := Option.some.inj hm
                    replace hm := brk_inl ho2
                    obtain rfl := Option.some.inj hm
                    exact e_retP B15 (.bool false) [] (by kernel_rfl) (by kernel_rfl) rfl (by kernel_rfl) (by kernel_rfl) (Ext.trans (Ext.trans hx18 hx40) hx41)
                  · replace hm := ite_f hb26 hm
                    refine w_skip (by kernel_rfl) ?_
                    refine e_seq ?_
                    refine w_seq 129638 129639 (by kernel_rfl) ?_
                    refine w_tail 32 [.blk g4 [.int .i64 t26.2.xRoom, .int .u32 t26.2.xNext, .slice A56 t26.2.xIn.length c56, .slice A57 t26.2.xCame.length c57, .slice A58 t26.2.xOut.length c58, .int .u32 t26.2.xLast, .bool t26.2.xHas] 42, .own A57 t26.2.xCame.length c57 (rowOf encB t26.2.xCame) 1 4, .own A58 t26.2.xOut.length c58 (rowOf (encI .u8) t26.2.xOut) 1 5, .blk g1 [.pointer (some ⟨g12, 0, none⟩), .slice A55 t25.2.xbytes.length c55, .int .i64 t25.2.xbegin, .int .i64 t25.2.xn, .int .u32 t25.2.xlast, .bool t25.2.xkept] 50, .blk g12 [.bool t25.2.xBoard.xmade, .int .u32 t25.2.xBoard.xfirst, .slice A54 t25.2.xBoard.xruns.length c54] 76, .own A55 t25.2.xbytes.length c55 (rowOf (encI .u8) t25.2.xbytes) 1 5, .blk g7 [.bool e1.xRead, .int .i64 e1.xN, .int .i32 e1.xAhead, .slice A21 e1.xBytes.length c21] 34] (by kernel_rfl) mixed (by kernel_rfl) ?_
                    refine tt_run [0, 2, 3] [8, 10, 13, 59, 60, 61, 93, 96] [0, 1, 2, 3, 4, 5, 6] 29 (listed' := #[true, false, true, true, false, false, false, false, false, false, false, false, false, false, false, false, false, false, false, false, false, false, false, false, false, false, false, false, false, false, false, false, false, false, false, false]) (l := [(⟨g4, 1, none⟩, .int .u32 t26.2.xNext)]) (.one (at_blk (j := 0) rfl rfl) .nil) (E' := [(8, .pointer (some ⟨g1, 0, none⟩)), (10, .pointer (some ⟨g4, 0, none⟩)), (13, .pointer (some ⟨g7, 0, none⟩)), (59, .slice A10 t11.length c10), (60, .int .i64 (t11.length : Int)), (61, .int .i64 p1), (93, .pointer (some ⟨g1, 0, none⟩)), (96, .int .u32 t26.2.xNext)]) (by kernel_rfl) (by kernel_rfl) (by kernel_rfl) (Ext.refl _) (by kernel_rfl) (by kernel_rfl) ?_
                    obtain ⟨t27, hx42, hm⟩ := bind_some hm
                    refine tt_stp 1 [0, 1, 2, 3, 4, 5, 6] (Ext.refl _) (by kernel_rfl) (by kernel_rfl) (by kernel_rfl) (by kernel_rfl) ?_
                    refine s_call 94 13 #[.pointer (some ⟨g1, 0, none⟩)] [3, 4, 5] [0, 1, 2, 6] (by kernel_rfl) (by kernel_rfl) (fun w hs => rbuf_Buffer_Next_ok t25.2 t27 hx42 B15 _ g1 g12 A54 c54 A55 c55 (hs22.up hx41) w (St.cast (by kernel_rfl) hs)) (fun _ hx => ?_)
                    refine t_L (L' := [.blk g1 [.pointer (some ⟨g12, 0, none⟩), .slice A55 t25.2.xbytes.length c55, .int .i64 t25.2.xbegin, .int .i64 t25.2.xn, .int .u32 t25.2.xlast, .bool t25.2.xkept] 50, .blk g12 [.bool t25.2.xBoard.xmade, .int .u32 t25.2.xBoard.xfirst, .slice A54 t25.2.xBoard.xruns.length c54] 76, .own A55 t25.2.xbytes.length c55 (rowOf (encI .u8) t25.2.xbytes) 1 5, .blk g4 [.int .i64 t26.2.xRoom, .int .u32 t26.2.xNext, .slice A56 t26.2.xIn.length c56, .slice A57 t26.2.xCame.length c57, .slice A58 t26.2.xOut.length c58, .int .u32 t26.2.xLast, .bool t26.2.xHas] 42, .own A57 t26.2.xCame.length c57 (rowOf encB t26.2.xCame) 1 4, .own A58 t26.2.xOut.length c58 (rowOf (encI .u8) t26.2.xOut) 1 5, .blk g7 [.bool e1.xRead, .int .i64 e1.xN, .int .i32 e1.xAhead, .slice A21 e1.xBytes.length c21] 34]) (by kernel_rfl) ?_
                    refine tt_run [4, 5] [8, 10, 13, 59, 60, 61, 98] [3, 4, 5, 0, 1, 2, 6] 26 (listed' := #[true, true, true, true, true, true, false, false, false, false, false, false, false, false, false, false, false, false, false, false, false, false, false, false, false, false, false, false, false, false, false, false, false, false, false, false]) (l := []) .nil (E' := [(8, .pointer (some ⟨g1, 0, none⟩)), (10, .pointer (some ⟨g4, 0, none⟩)), (13, .pointer (some ⟨g7, 0, none⟩)), (59, .slice A10 t11.length c10), (60, .int .i64 (t11.length : Int)), (61, .int .i64 p1), (98, .bool (t27 != t26.2.xNext))]) (by kernel_rfl) (by kernel_rfl) (by kernel_rfl) (Ext.refl _) (by kernel_rfl) (by kernel_rfl) ?_
                    refine t_split 98 (t27 != t26.2.xNext) (by kernel_rfl) (fun hb27 => ?_) (fun hb27 => ?_)
                    · replace hm := ite_t hb27 hm
                      refine tt_run [6, 7, 8, 9, 10, 11, 12, 13, 14, 15, 16, 17, 18, 19, 20, 21, 22, 23, 24, 25, 26, 27, 28, 29, 30, 31] [8, 10, 59, 60, 61, 118, 122, 124] [3, 4, 5, 0, 1, 2, 6] 0 (listed' := #[true, true, true, true, true, true, true, true, true, true, true, true, true, true, true, true, true, true, true, true, true, true, true, true, true, true, true, true, true, true, true, true, false, false, false, false]) (l := []) .nil (E' := [(8, .pointer (some ⟨g1, 0, none⟩)), (10, .pointer (some ⟨g4, 0, none⟩)), (59, .slice A10 t11.length c10), (60, .int .i64 (t11.length : Int)), (61, .int .i64 p1), (118, .bool true), (122, undef), (124, undef)]) (by kernel_rfl) (by kernel_rfl) (by kernel_rfl) (Ext.refl _) (by kernel_rfl) (by kernel_rfl) ?_
                      refine tt_end [3, 4, 5, 0, 1, 2, 6] (Ext.refl _) (by kernel_rfl) (by kernel_rfl) (by kernel_rfl) ?_
                      refine o_run 4 [8, 10, 59, 60, 61, 128] (l := []) .nil (E' := [(8, .pointer (some ⟨g1, 0, none⟩)), (10, .pointer (some ⟨g4, 0, none⟩)), (59, .slice A10 t11.length c10), (60, .int .i64 (t11.length : Int)), (61, .int .i64 p1), (128, .bool true)]) (by kernel_rfl) ?_
                      refine o_end (by kernel_rfl) ?_
                      refine e_seq ?_
                      refine w_cond_t (.tmp 128) 259278 259279 (by kernel_rfl) (by kernel_rfl) ?_
                      refine w_seq 518556 518557 (by kernel_rfl) ?_
                      refine w_region (by kernel_rfl) ?_
                      refine o_run 1 [6] (l := []) .nil (E' := [(6, .bool false)]) (by kernel_rfl) ?_
                      refine o_end (by kernel_rfl) ?_
                      refine e_seq ?_
                      refine w_ret (by kernel_rfl) ?_
                      obtain rfl := Option.some.inj hm
                      replace hm := brk_inl ho2
                      obtain rfl := Option.some.inj hm
                      exact e_retP B15 (.bool false) [] (by kernel_rfl) (by kernel_rfl) rfl (by kernel_rfl) (by kernel_rfl) (Ext.trans (Ext.trans hx18 hx40) hx41)
                    · replace hm := ite_f hb27 hm
                      refine tt_run [6] [8, 10, 13, 59, 60, 61, 98, 99] [3, 4, 5, 0, 1, 2, 6] 25 (listed' := #[true, true, true, true, true, true, true, false, false, false, false, false, false, false, false, false, false, false, false, false, false, false, false, false, false, false, false, false, false, false, false, false, false, false, false, false]) (l := []) .nil (E' := [(8, .pointer (some ⟨g1, 0, none⟩)), (10, .pointer (some ⟨g4, 0, none⟩)), (13, .pointer (some ⟨g7, 0, none⟩)), (59, .slice A10 t11.length c10), (60, .int .i64 (t11.length : Int)), (61, .int .i64 p1), (98, .bool false), (99, .pointer (some ⟨g1, 0, none⟩))]) (by kernel_rfl) (by kernel_rfl) (by kernel_rfl) (Ext.refl _) (by kernel_rfl) (by kernel_rfl) ?_
                      obtain ⟨t28, hx43, hm⟩ := bind_some hm
                      refine tt_stp 7 [3, 4, 5, 0, 1, 2, 6] (Ext.refl _) (by kernel_rfl) (by kernel_rfl) (by kernel_rfl) (by kernel_rfl) ?_
                      refine s_call 100 18 #[.pointer (some ⟨g1, 0, none⟩)] [0, 1, 2] [3, 4, 5, 6] (by kernel_rfl) (by kernel_rfl) (fun w hs => rbuf_Buffer_Window_ok t25.2 t28 hx43 B15 _ g1 g12 A54 c54 A55 c55 (hs22.up hx41) w (St.cast (by kernel_rfl) hs)) (fun _ hx => ?_)
                      refine t_L (L' := [.blk g1 [.pointer (some ⟨g12, 0, none⟩), .slice A55 t25.2.xbytes.length c55, .int .i64 t25.2.xbegin, .int .i64 t25.2.xn, .int .u32 t25.2.xlast, .bool t25.2.xkept] 50, .blk g12 [.bool t25.2.xBoard.xmade, .int .u32 t25.2.xBoard.xfirst, .slice A54 t25.2.xBoard.xruns.length c54] 76, .own A55 t25.2.xbytes.length c55 (rowOf (encI .u8) t25.2.xbytes) 1 5, .blk g4 [.int .i64 t26.2.xRoom, .int .u32 t26.2.xNext, .slice A56 t26.2.xIn.length c56, .slice A57 t26.2.xCame.length c57, .slice A58 t26.2.xOut.length c58, .int .u32 t26.2.xLast, .bool t26.2.xHas] 42, .own A57 t26.2.xCame.length c57 (rowOf encB t26.2.xCame) 1 4, .own A58 t26.2.xOut.length c58 (rowOf (encI .u8) t26.2.xOut) 1 5, .blk g7 [.bool e1.xRead, .int .i64 e1.xN, .int .i32 e1.xAhead, .slice A21 e1.xBytes.length c21] 34]) (by kernel_rfl) ?_
                      obtain ⟨t29, hx44, hm⟩ := bind_some hm
                      refine tt_stp 8 [3, 4, 5, 0, 1, 2, 6] (Ext.refl _) (by kernel_rfl) (by kernel_rfl) (by kernel_rfl) (by kernel_rfl) ?_
                      refine s_call 101 19 #[.pointer (some ⟨g4, 0, none⟩)] [3, 4, 5] [0, 1, 2, 6] (by kernel_rfl) (by kernel_rfl) (fun w hs => downhaulref26_Buffer_Window_ok t26.2 t29 hx44 B15 _ g4 A56 c56 A57 c57 A58 c58 hs23 w (St.cast (by kernel_rfl) hs)) (fun _ hx => ?_)
                      refine t_L (L' := [.blk g4 [.int .i64 t26.2.xRoom, .int .u32 t26.2.xNext, .slice A56 t26.2.xIn.length c56, .slice A57 t26.2.xCame.length c57, .slice A58 t26.2.xOut.length c58, .int .u32 t26.2.xLast, .bool t26.2.xHas] 42, .own A57 t26.2.xCame.length c57 (rowOf encB t26.2.xCame) 1 4, .own A58 t26.2.xOut.length c58 (rowOf (encI .u8) t26.2.xOut) 1 5, .blk g1 [.pointer (some ⟨g12, 0, none⟩), .slice A55 t25.2.xbytes.length c55, .int .i64 t25.2.xbegin, .int .i64 t25.2.xn, .int .u32 t25.2.xlast, .bool t25.2.xkept] 50, .blk g12 [.bool t25.2.xBoard.xmade, .int .u32 t25.2.xBoard.xfirst, .slice A54 t25.2.xBoard.xruns.length c54] 76, .own A55 t25.2.xbytes.length c55 (rowOf (encI .u8) t25.2.xbytes) 1 5, .blk g7 [.bool e1.xRead, .int .i64 e1.xN, .int .i32 e1.xAhead, .slice A21 e1.xBytes.length c21] 34]) (by kernel_rfl) ?_
                      refine tt_run [9, 10, 11] [8, 10, 13, 59, 60, 61, 104] [0, 1, 2, 3, 4, 5, 6] 20 (listed' := #[true, true, true, true, true, true, true, true, true, true, true, true, false, false, false, false, false, false, false, false, false, false, false, false, false, false, false, false, false, false, false, false, false, false, false, false]) (l := []) .nil (E' := [(8, .pointer (some ⟨g1, 0, none⟩)), (10, .pointer (some ⟨g4, 0, none⟩)), (13, .pointer (some ⟨g7, 0, none⟩)), (59, .slice A10 t11.length c10), (60, .int .i64 (t11.length : Int)), (61, .int .i64 p1), (104, .bool (t28 != t29))]) (by kernel_rfl) (by kernel_rfl) (by kernel_rfl) (Ext.refl _) (by kernel_rfl) (by kernel_rfl) ?_
                      refine t_split 104 (t28 != t29) (by kernel_rfl) (fun hb28 => ?_) (fun hb28 => ?_)
                      · replace hm := ite_t hb28 hm
                        refine tt_run [12, 13, 14, 15, 16, 17, 18, 19, 20, 21, 22, 23, 24, 25, 26, 27, 28, 29, 30, 31] [8, 10, 59, 60, 61, 118, 122, 124] [0, 1, 2, 3, 4, 5, 6] 0 (listed' := #[true, true, true, true, true, true, true, true, true, true, true, true, true, true, true, true, true, true, true, true, true, true, true, true, true, true, true, true, true, true, true, true, false, false, false, false]) (l := []) .nil (E' := [(8, .pointer (some ⟨g1, 0, none⟩)), (10, .pointer (some ⟨g4, 0, none⟩)), (59, .slice A10 t11.length c10), (60, .int .i64 (t11.length : Int)), (61, .int .i64 p1), (118, .bool true), (122, undef), (124, undef)]) (by kernel_rfl) (by kernel_rfl) (by kernel_rfl) (Ext.refl _) (by kernel_rfl) (by kernel_rfl) ?_
                        refine tt_end [0, 1, 2, 3, 4, 5, 6] (Ext.refl _) (by kernel_rfl) (by kernel_rfl) (by kernel_rfl) ?_
                        refine o_run 4 [8, 10, 59, 60, 61, 128] (l := []) .nil (E' := [(8, .pointer (some ⟨g1, 0, none⟩)), (10, .pointer (some ⟨g4, 0, none⟩)), (59, .slice A10 t11.length c10), (60, .int .i64 (t11.length : Int)), (61, .int .i64 p1), (128, .bool true)]) (by kernel_rfl) ?_
                        refine o_end (by kernel_rfl) ?_
                        refine e_seq ?_
                        refine w_cond_t (.tmp 128) 259278 259279 (by kernel_rfl) (by kernel_rfl) ?_
                        refine w_seq 518556 518557 (by kernel_rfl) ?_
                        refine w_region (by kernel_rfl) ?_
                        refine o_run 1 [6] (l := []) .nil (E' := [(6, .bool false)]) (by kernel_rfl) ?_
                        refine o_end (by kernel_rfl) ?_
                        refine e_seq ?_
                        refine w_ret (by kernel_rfl) ?_
                        obtain rfl := Option.some.inj hm
                        replace hm := brk_inl ho2
                        obtain rfl := Option.some.inj hm
                        exact e_retP B15 (.bool false) [] (by kernel_rfl) (by kernel_rfl) rfl (by kernel_rfl) (by kernel_rfl) (Ext.trans (Ext.trans hx18 hx40) hx41)
                      · replace hm := ite_f hb28 hm
                        refine tt_run [12, 14, 15, 16] [8, 10, 13, 59, 60, 61, 104, 105, 109] [0, 1, 2, 3, 4, 5, 6] 16 (listed' := #[true, true, true, true, true, true, true, true, true, true, true, true, true, false, true, true, true, false, false, false, false, false, false, false, false, false, false, false, false, false, false, false, false, false, false, false]) (l := [(⟨g4, 2, none⟩, .slice A56 t26.2.xIn.length c56)]) (.one (at_blk (j := 0) rfl rfl) .nil) (E' := [(8, .pointer (some ⟨g1, 0, none⟩)), (10, .pointer (some ⟨g4, 0, none⟩)), (13, .pointer (some ⟨g7, 0, none⟩)), (59, .slice A10 t11.length c10), (60, .int .i64 (t11.length : Int)), (61, .int .i64 p1), (104, .bool false), (105, .pointer (some ⟨g1, 0, none⟩)), (109, .int .i64 (t26.2.xIn.length : Int))]) (by kernel_rfl) (by kernel_rfl) (by kernel_rfl) (Ext.refl _) (by kernel_rfl) (by kernel_rfl) ?_
                        obtain ⟨t30, hx45, hm⟩ := bind_some hm
                        refine tt_stp 13 [0, 1, 2, 3, 4, 5, 6] (Ext.refl _) (by kernel_rfl) (by kernel_rfl) (by kernel_rfl) (by kernel_rfl) ?_
                        refine s_call 106 14 #[.pointer (some ⟨g1, 0, none⟩)] [3, 4, 5] [0, 1, 2, 6] (by kernel_rfl) (by kernel_rfl) (fun w hs => rbuf_Buffer_Len_ok t25.2 t30 hx45 B15 _ g1 g12 A54 c54 A55 c55 (hs22.up hx41) w (St.cast (by kernel_rfl) hs)) (fun _ hx => ?_)
                        refine t_L (L' := [.blk g1 [.pointer (some ⟨g12, 0, none⟩), .slice A55 t25.2.xbytes.length c55, .int .i64 t25.2.xbegin, .int .i64 t25.2.xn, .int .u32 t25.2.xlast, .bool t25.2.xkept] 50, .blk g12 [.bool t25.2.xBoard.xmade, .int .u32 t25.2.xBoard.xfirst, .slice A54 t25.2.xBoard.xruns.length c54] 76, .own A55 t25.2.xbytes.length c55 (rowOf (encI .u8) t25.2.xbytes) 1 5, .blk g4 [.int .i64 t26.2.xRoom, .int .u32 t26.2.xNext, .slice A56 t26.2.xIn.length c56, .slice A57 t26.2.xCame.length c57, .slice A58 t26.2.xOut.length c58, .int .u32 t26.2.xLast, .bool t26.2.xHas] 42, .own A57 t26.2.xCame.length c57 (rowOf encB t26.2.xCame) 1 4, .own A58 t26.2.xOut.length c58 (rowOf (encI .u8) t26.2.xOut) 1 5, .blk g7 [.bool e1.xRead, .int .i64 e1.xN, .int .i32 e1.xAhead, .slice A21 e1.xBytes.length c21] 34]) (by kernel_rfl) ?_
                        refine tt_run [17, 18, 19] [8, 10, 13, 59, 60, 61, 112] [3, 4, 5, 0, 1, 2, 6] 12 (listed' := #[true, true, true, true, true, true, true, true, true, true, true, true, true, true, true, true, true, true, true, true, false, false, false, false, false, false, false, false, false, false, false, false, false, false, false, false]) (l := []) .nil (E' := [(8, .pointer (some ⟨g1, 0, none⟩)), (10, .pointer (some ⟨g4, 0, none⟩)), (13, .pointer (some ⟨g7, 0, none⟩)), (59, .slice A10 t11.length c10), (60, .int .i64 (t11.length : Int)), (61, .int .i64 p1), (112, .bool (t30 != (t26.2.xIn.length : Int)))]) (by kernel_rfl) (by kernel_rfl) (by kernel_rfl) (Ext.refl _) (by kernel_rfl) (by kernel_rfl) ?_
                        refine t_split 112 (t30 != (t26.2.xIn.length : Int)) (by kernel_rfl) (fun hb29 => ?_) (fun hb29 => ?_)
                        · replace hm := ite_t hb29 hm
                          refine tt_run [20, 21, 22, 23, 24, 25, 26, 27, 28, 29, 30, 31] [8, 10, 59, 60, 61, 118, 122, 124] [3, 4, 5, 0, 1, 2, 6] 0 (listed' := #[true, true, true, true, true, true, true, true, true, true, true, true, true, true, true, true, true, true, true, true, true, true, true, true, true, true, true, true, true, true, true, true, false, false, false, false]) (l := []) .nil (E' := [(8, .pointer (some ⟨g1, 0, none⟩)), (10, .pointer (some ⟨g4, 0, none⟩)), (59, .slice A10 t11.length c10), (60, .int .i64 (t11.length : Int)), (61, .int .i64 p1), (118, .bool true), (122, undef), (124, undef)]) (by kernel_rfl) (by kernel_rfl) (by kernel_rfl) (Ext.refl _) (by kernel_rfl) (by kernel_rfl) ?_
                          refine tt_end [3, 4, 5, 0, 1, 2, 6] (Ext.refl _) (by kernel_rfl) (by kernel_rfl) (by kernel_rfl) ?_
                          refine o_run 4 [8, 10, 59, 60, 61, 128] (l := []) .nil (E' := [(8, .pointer (some ⟨g1, 0, none⟩)), (10, .pointer (some ⟨g4, 0, none⟩)), (59, .slice A10 t11.length c10), (60, .int .i64 (t11.length : Int)), (61, .int .i64 p1), (128, .bool true)]) (by kernel_rfl) ?_
                          refine o_end (by kernel_rfl) ?_
                          refine e_seq ?_
                          refine w_cond_t (.tmp 128) 259278 259279 (by kernel_rfl) (by kernel_rfl) ?_
                          refine w_seq 518556 518557 (by kernel_rfl) ?_
                          refine w_region (by kernel_rfl) ?_
                          refine o_run 1 [6] (l := []) .nil (E' := [(6, .bool false)]) (by kernel_rfl) ?_
                          refine o_end (by kernel_rfl) ?_
                          refine e_seq ?_
                          refine w_ret (by kernel_rfl) ?_
                          obtain rfl := Option.some.inj hm
                          replace hm := brk_inl ho2
                          obtain rfl := Option.some.inj hm
                          exact e_retP B15 (.bool false) [] (by kernel_rfl) (by kernel_rfl) rfl (by kernel_rfl) (by kernel_rfl) (Ext.trans (Ext.trans hx18 hx40) hx41)
                        · replace hm := ite_f hb29 hm
                          refine tt_run [20] [8, 10, 13, 59, 60, 61, 112, 113] [3, 4, 5, 0, 1, 2, 6] 11 (listed' := #[true, true, true, true, true, true, true, true, true, true, true, true, true, true, true, true, true, true, true, true, true, false, false, false, false, false, false, false, false, false, false, false, false, false, false, false]) (l := []) .nil (E' := [(8, .pointer (some ⟨g1, 0, none⟩)), (10, .pointer (some ⟨g4, 0, none⟩)), (13, .pointer (some ⟨g7, 0, none⟩)), (59, .slice A10 t11.length c10), (60, .int .i64 (t11.length : Int)), (61, .int .i64 p1), (112, .bool false), (113, .pointer (some ⟨g1, 0, none⟩))]) (by kernel_rfl) (by kernel_rfl) (by kernel_rfl) (Ext.refl _) (by kernel_rfl) (by kernel_rfl) ?_
                          obtain ⟨t31, hx46, hm⟩ := bind_some hm
                          refine tt_stp 21 [3, 4, 5, 0, 1, 2, 6] (Ext.refl _) (by kernel_rfl) (by kernel_rfl) (by kernel_rfl) (by kernel_rfl) ?_
                          refine s_call 114 20 #[.pointer (some ⟨g1, 0, none⟩)] [0, 1, 2] [3, 4, 5, 6] (by kernel_rfl) (by kernel_rfl) (fun w hs => rbuf_Buffer_Out_ok k t25.2 t31 hx46 B15 _ g1 g12 A54 c54 A55 c55 (hs22.up hx41) w (St.cast (by kernel_rfl) hs)) (fun _ hx => ?_)
                          refine t_L (L' := [.blk g1 [.pointer (some ⟨g12, 0, none⟩), .slice A55 t25.2.xbytes.length c55, .int .i64 t25.2.xbegin, .int .i64 t25.2.xn, .int .u32 t25.2.xlast, .bool t25.2.xkept] 50, .blk g12 [.bool t25.2.xBoard.xmade, .int .u32 t25.2.xBoard.xfirst, .slice A54 t25.2.xBoard.xruns.length c54] 76, .own A55 t25.2.xbytes.length c55 (rowOf (encI .u8) t25.2.xbytes) 1 5, .blk g4 [.int .i64 t26.2.xRoom, .int .u32 t26.2.xNext, .slice A56 t26.2.xIn.length c56, .slice A57 t26.2.xCame.length c57, .slice A58 t26.2.xOut.length c58, .int .u32 t26.2.xLast, .bool t26.2.xHas] 42, .own A57 t26.2.xCame.length c57 (rowOf encB t26.2.xCame) 1 4, .own A58 t26.2.xOut.length c58 (rowOf (encI .u8) t26.2.xOut) 1 5, .blk g7 [.bool e1.xRead, .int .i64 e1.xN, .int .i32 e1.xAhead, .slice A21 e1.xBytes.length c21] 34]) (by kernel_rfl) ?_
                          obtain ⟨t32, hx47, hm⟩ := bind_some hm
                          refine tt_stp 22 [3, 4, 5, 0, 1, 2, 6] (Ext.refl _) (by kernel_rfl) (by kernel_rfl) (by kernel_rfl) (by kernel_rfl) ?_
                          refine s_call 115 21 #[.pointer (some ⟨g4, 0, none⟩)] [3, 4, 5] [0, 1, 2, 6] (by kernel_rfl) (by kernel_rfl) (fun w hs => downhaulref26_Buffer_Count_ok k t26.2 t32 hx47 B15 _ g4 A56 c56 A57 c57 A58 c58 hs23 w (St.cast (by kernel_rfl) hs)) (fun _ hx => ?_)
                          refine t_L (L' := [.blk g4 [.int .i64 t26.2.xRoom, .int .u32 t26.2.xNext, .slice A56 t26.2.xIn.length c56, .slice A57 t26.2.xCame.length c57, .slice A58 t26.2.xOut.length c58, .int .u32 t26.2.xLast, .bool t26.2.xHas] 42, .own A57 t26.2.xCame.length c57 (rowOf encB t26.2.xCame) 1 4, .own A58 t26.2.xOut.length c58 (rowOf (encI .u8) t26.2.xOut) 1 5, .blk g1 [.pointer (some ⟨g12, 0, none⟩), .slice A55 t25.2.xbytes.length c55, .int .i64 t25.2.xbegin, .int .i64 t25.2.xn, .int .u32 t25.2.xlast, .bool t25.2.xkept] 50, .blk g12 [.bool t25.2.xBoard.xmade, .int .u32 t25.2.xBoard.xfirst, .slice A54 t25.2.xBoard.xruns.length c54] 76, .own A55 t25.2.xbytes.length c55 (rowOf (encI .u8) t25.2.xbytes) 1 5, .blk g7 [.bool e1.xRead, .int .i64 e1.xN, .int .i32 e1.xAhead, .slice A21 e1.xBytes.length c21] 34]) (by kernel_rfl) ?_
                          refine tt_run [23, 24, 25] [8, 10, 13, 59, 60, 61, 118] [0, 1, 2, 3, 4, 5, 6] 6 (listed' := #[true, true, true, true, true, true, true, true, true, true, true, true, true, true, true, true, true, true, true, true, true, true, true, true, true, true, false, false, false, false, false, false, false, false, false, false]) (l := []) .nil (E' := [(8, .pointer (some ⟨g1, 0, none⟩)), (10, .pointer (some ⟨g4, 0, none⟩)), (13, .pointer (some ⟨g7, 0, none⟩)), (59, .slice A10 t11.length c10), (60, .int .i64 (t11.length : Int)), (61, .int .i64 p1), (118, .bool (t31 != t32))]) (by kernel_rfl) (by kernel_rfl) (by kernel_rfl) (Ext.refl _) (by kernel_rfl) (by kernel_rfl) ?_
                          refine t_split 118 (t31 != t32) (by kernel_rfl) (fun hb30 => ?_) (fun hb30 => ?_)
                          · replace hm := ite_t hb30 hm
                            refine tt_run [26, 27, 28, 29, 30, 31] [8, 10, 59, 60, 61, 118, 122, 124] [0, 1, 2, 3, 4, 5, 6] 0 (listed' := #[true, true, true, true, true, true, true, true, true, true, true, true, true, true, true, true, true, true, true, true, true, true, true, true, true, true, true, true, true, true, true, true, false, false, false, false]) (l := []) .nil (E' := [(8, .pointer (some ⟨g1, 0, none⟩)), (10, .pointer (some ⟨g4, 0, none⟩)), (59, .slice A10 t11.length c10), (60, .int .i64 (t11.length : Int)), (61, .int .i64 p1), (118, .bool true), (122, undef), (124, undef)]) (by kernel_rfl) (by kernel_rfl) (by kernel_rfl) (Ext.refl _) (by kernel_rfl) (by kernel_rfl) ?_
                            refine tt_end [0, 1, 2, 3, 4, 5, 6] (Ext.refl _) (by kernel_rfl) (by kernel_rfl) (by kernel_rfl) ?_
                            refine o_run 4 [8, 10, 59, 60, 61, 128] (l := []) .nil (E' := [(8, .pointer (some ⟨g1, 0, none⟩)), (10, .pointer (some ⟨g4, 0, none⟩)), (59, .slice A10 t11.length c10), (60, .int .i64 (t11.length : Int)), (61, .int .i64 p1), (128, .bool true)]) (by kernel_rfl) ?_
                            refine o_end (by kernel_rfl) ?_
                            refine e_seq ?_
                            refine w_cond_t (.tmp 128) 259278 259279 (by kernel_rfl) (by kernel_rfl) ?_
                            refine w_seq 518556 518557 (by kernel_rfl) ?_
                            refine w_region (by kernel_rfl) ?_
                            refine o_run 1 [6] (l := []) .nil (E' := [(6, .bool false)]) (by kernel_rfl) ?_
                            refine o_end (by kernel_rfl) ?_
                            refine e_seq ?_
                            refine w_ret (by kernel_rfl) ?_
                            obtain rfl := Option.some.inj hm
                            replace hm := brk_inl ho2
                            obtain rfl := Option.some.inj hm
                            exact e_retP B15 (.bool false) [] (by kernel_rfl) (by kernel_rfl) rfl (by kernel_rfl) (by kernel_rfl) (Ext.trans (Ext.trans hx18 hx40) hx41)
                          · replace hm := ite_f hb30 hm
                            refine tt_run [26, 27, 28, 30, 31] [8, 10, 59, 60, 61, 118, 119, 121, 124] [0, 1, 2, 3, 4, 5, 6] 1 (listed' := #[true, true, true, true, true, true, true, true, true, true, true, true, true, true, true, true, true, true, true, true, true, true, true, true, true, true, true, true, true, false, true, true, false, false, false, false]) (l := [(⟨g7, 1, none⟩, .int .i64 e1.xN), (⟨g7, 1, none⟩, .int .i64 e1.xN)]) (.one (at_blk (j := 6) rfl rfl) (.one (at_blk (j := 6) rfl rfl) .nil)) (E' := [(8, .pointer (some ⟨g1, 0, none⟩)), (10, .pointer (some ⟨g4, 0, none⟩)), (59, .slice A10 t11.length c10), (60, .int .i64 (t11.length : Int)), (61, .int .i64 p1), (118, .bool false), (119, .pointer (some ⟨g1, 0, none⟩)), (121, .int .i64 e1.xN), (124, .int .i64 e1.xN)]) (by kernel_rfl) (by kernel_rfl) (by kernel_rfl) (Ext.refl _) (by kernel_rfl) (by kernel_rfl) ?_
                            obtain ⟨t33, hx48, hm⟩ := bind_some hm
                            refine tt_stp 29 [0, 1, 2, 3, 4, 5, 6] (Ext.refl _) (by kernel_rfl) (by kernel_rfl) (by kernel_rfl) (by kernel_rfl) ?_
                            refine s_call 122 23 #[.pointer (some ⟨g1, 0, none⟩), .int .i64 e1.xN] [3, 4, 5] [0, 1, 2, 6] (by kernel_rfl) (by kernel_rfl) (fun w hs => rbuf_Buffer_Blocks_ok k t25.2 e1.xN t33 hx48 B15 _ g1 g12 A54 c54 A55 c55 (hs22.up hx41) w (St.cast (by kernel_rfl) hs)) (fun x hx => ?_)
                            obtain ⟨B16, A59, c59⟩ := x
                            obtain ⟨hx49, hs24⟩ := hx
                            refine t_L (L' := [.blk g1 [.pointer (some ⟨g12, 0, none⟩), .slice A55 t25.2.xbytes.length c55, .int .i64 t25.2.xbegin, .int .i64 t25.2.xn, .int .u32 t25.2.xlast, .bool t25.2.xkept] 50, .blk g12 [.bool t25.2.xBoard.xmade, .int .u32 t25.2.xBoard.xfirst, .slice A54 t25.2.xBoard.xruns.length c54] 76, .own A55 t25.2.xbytes.length c55 (rowOf (encI .u8) t25.2.xbytes) 1 5, .blk g4 [.int .i64 t26.2.xRoom, .int .u32 t26.2.xNext, .slice A56 t26.2.xIn.length c56, .slice A57 t26.2.xCame.length c57, .slice A58 t26.2.xOut.length c58, .int .u32 t26.2.xLast, .bool t26.2.xHas] 42, .own A57 t26.2.xCame.length c57 (rowOf encB t26.2.xCame) 1 4, .own A58 t26.2.xOut.length c58 (rowOf (encI .u8) t26.2.xOut) 1 5, .blk g7 [.bool e1.xRead, .int .i64 e1.xN, .int .i32 e1.xAhead, .slice A21 e1.xBytes.length c21] 34]) (by kernel_rfl) ?_
                            refine tt_end [3, 4, 5, 0, 1, 2, 6] hx49 (by kernel_rfl) (by kernel_rfl) (by kernel_rfl) ?_
                            obtain ⟨t34, hx50, hm⟩ := bind_some hm
                            refine o_stp ?_ (by kernel_rfl)
                            refine s_call 125 24 #[.pointer (some ⟨g4, 0, none⟩), .int .i64 e1.xN] [3, 4, 5] [0, 1, 2, 6] (by kernel_rfl) (by kernel_rfl) (fun w hs => downhaulref26_Buffer_Blocks_ok k t26.2 e1.xN t34 hx50 B16 _ g4 A56 c56 A57 c57 A58 c58 (hs23.up hx49) w (St.cast (by kernel_rfl) hs)) (fun x hx => ?_)
                            obtain ⟨B17, A60, c60⟩ := x
                            obtain ⟨hx51, hs25⟩ := hx
                            refine t_L (L' := [.blk g4 [.int .i64 t26.2.xRoom, .int .u32 t26.2.xNext, .slice A56 t26.2.xIn.length c56, .slice A57 t26.2.xCame.length c57, .slice A58 t26.2.xOut.length c58, .int .u32 t26.2.xLast, .bool t26.2.xHas] 42, .own A57 t26.2.xCame.length c57 (rowOf encB t26.2.xCame) 1 4, .own A58 t26.2.xOut.length c58 (rowOf (encI .u8) t26.2.xOut) 1 5, .blk g1 [.pointer (some ⟨g12, 0, none⟩), .slice A55 t25.2.xbytes.length c55, .int .i64 t25.2.xbegin, .int .i64 t25.2.xn, .int .u32 t25.2.xlast, .bool t25.2.xkept] 50, .blk g12 [.bool t25.2.xBoard.xmade, .int .u32 t25.2.xBoard.xfirst, .slice A54 t25.2.xBoard.xruns.length c54] 76, .own A55 t25.2.xbytes.length c55 (rowOf (encI .u8) t25.2.xbytes) 1 5, .blk g7 [.bool e1.xRead, .int .i64 e1.xN, .int .i32 e1.xAhead, .slice A21 e1.xBytes.length c21] 34]) (by kernel_rfl) ?_
                            obtain ⟨t35, hx52, hm⟩ := bind_some hm
                            refine o_stp ?_ (by kernel_rfl)
                            refine s_call 126 22 #[.slice A59 t33.length c59, .slice A60 t34.length c60] [] [0, 1, 2, 3, 4, 5, 6] (by kernel_rfl) (by kernel_rfl) (fun w hs => downhaullaw26_same_ok k t33 t34 t35 hx52 B17 _ A59 c59 A60 c60 (hs24.up hx51) hs25 w (St.cast (by kernel_rfl) hs)) (fun _ hx => ?_)
                            refine t_L (L' := [.blk g4 [.int .i64 t26.2.xRoom, .int .u32 t26.2.xNext, .slice A56 t26.2.xIn.length c56, .slice A57 t26.2.xCame.length c57, .slice A58 t26.2.xOut.length c58, .int .u32 t26.2.xLast, .bool t26.2.xHas] 42, .own A57 t26.2.xCame.length c57 (rowOf encB t26.2.xCame) 1 4, .own A58 t26.2.xOut.length c58 (rowOf (encI .u8) t26.2.xOut) 1 5, .blk g1 [.pointer (some ⟨g12, 0, none⟩), .slice A55 t25.2.xbytes.length c55, .int .i64 t25.2.xbegin, .int .i64 t25.2.xn, .int .u32 t25.2.xlast, .bool t25.2.xkept] 50, .blk g12 [.bool t25.2.xBoard.xmade, .int .u32 t25.2.xBoard.xfirst, .slice A54 t25.2.xBoard.xruns.length c54] 76, .own A55 t25.2.xbytes.length c55 (rowOf (encI .u8) t25.2.xbytes) 1 5, .blk g7 [.bool e1.xRead, .int .i64 e1.xN, .int .i32 e1.xAhead, .slice A21 e1.xBytes.length c21] 34]) (by kernel_rfl) ?_
                            refine o_run 2 [8, 10, 59, 60, 61, 128] (l := []) .nil (E' := [(8, .pointer (some ⟨g1, 0, none⟩)), (10, .pointer (some ⟨g4, 0, none⟩)), (59, .slice A10 t11.length c10), (60, .int .i64 (t11.length : Int)), (61, .int .i64 p1), (128, .bool (!t35))]) (by kernel_rfl) ?_
                            refine o_end (by kernel_rfl) ?_
                            refine e_seq ?_
                            refine w_cond (.tmp 128) 259278 259279 (!t35) (by kernel_rfl) (by kernel_rfl) (fun hb31 => ?_) (fun hb31 => ?_)
                            · replace hm := ite_t hb31 hm
                              refine w_seq 518556 518557 (by kernel_rfl) ?_
                              refine w_region (by kernel_rfl) ?_
                              refine o_run 1 [6] (l := []) .nil (E' := [(6, .bool false)]) (by kernel_rfl) ?_
                              refine o_end (by kernel_rfl) ?_
                              refine e_seq ?_
                              refine w_ret (by kernel_rfl) ?_
                              obtain rfl := Option.some.inj hm
                              replace hm := brk_inl ho2
                              obtain rfl := Option.some.inj hm
                              exact e_retP B17 (.bool false) [] (by kernel_rfl) (by kernel_rfl) rfl (by kernel_rfl) (by kernel_rfl) (Ext.trans (Ext.trans (Ext.trans (Ext.trans hx18 hx40) hx41) hx49) hx51)
                            · replace hm := ite_f hb31 hm
                              refine w_skip (by kernel_rfl) ?_
                              refine e_blk ?_
                              refine e_seq ?_
                              refine w_region (by kernel_rfl) ?_
                              refine o_run 2 [8, 10, 59, 60, 61] (l := []) .nil (E' := [(8, .pointer (some ⟨g1, 0, none⟩)), (10, .pointer (some ⟨g4, 0, none⟩)), (59, .slice A10 t11.length c10), (60, .int .i64 (t11.length : Int)), (61, .int .i64 (I64 (p1 + 1)))]) (by kernel_rfl) ?_
                              refine o_end (by kernel_rfl) ?_
                              refine t_drop [0, 1, 2, 3, 4, 5] (by kernel_rfl) ?_
                              refine t_L (L' := [.blk g4 [.int .i64 t26.2.xRoom, .int .u32 t26.2.xNext, .slice A56 t26.2.xIn.length c56, .slice A57 t26.2.xCame.length c57, .slice A58 t26.2.xOut.length c58, .int .u32 t26.2.xLast, .bool t26.2.xHas] 42, .own A57 t26.2.xCame.length c57 (rowOf encB t26.2.xCame) 1 4, .own A58 t26.2.xOut.length c58 (rowOf (encI .u8) t26.2.xOut) 1 5, .blk g1 [.pointer (some ⟨g12, 0, none⟩), .slice A55 t25.2.xbytes.length c55, .int .i64 t25.2.xbegin, .int .i64 t25.2.xn, .int .u32 t25.2.xlast, .bool t25.2.xkept] 50, .blk g12 [.bool t25.2.xBoard.xmade, .int .u32 t25.2.xBoard.xfirst, .slice A54 t25.2.xBoard.xruns.length c54] 76, .own A55 t25.2.xbytes.length c55 (rowOf (encI .u8) t25.2.xbytes) 1 5]) (by kernel_rfl) ?_
                              refine t_env [8, 10, 59, 60, 61] (E' := [(8, .pointer (some ⟨g1, 0, none⟩)), (10, .pointer (some ⟨g4, 0, none⟩)), (59, .slice A10 t11.length c10), (60, .int .i64 (t11.length : Int)), (61, .int .i64 (I64 (p1 + 1)))]) (by kernel_rfl) ?_
                              exact e_inv (fun a w ha hw => ⟨k, Nat.lt_succ_self k, (I64 (p1 + 1)), t26.2, t25.2, B17, A56, c56, A57, c57, A58, c58, g12, A54, c54, A55, c55, hm, (Ext.trans (Ext.trans (Ext.trans (Ext.trans hx18 hx40) hx41) hx49) hx51), ((hs23.up hx49).up hx51), (((hs22.up hx41).up hx49).up hx51), ha, hw⟩)
              · replace hm := ite_f hb18 hm
                refine w_exit 0 (by kernel_rfl) ?_
                refine e_x_seq ?_
                refine e_x_inv ?_
                refine e_x_here ?_
                refine t_drop [0, 1, 2, 3, 4, 5] (by kernel_rfl) ?_
                refine t_L (L' := [.blk g4 [.int .i64 p2.xRoom, .int .u32 p2.xNext, .slice A11 p2.xIn.length c11, .slice A12 p2.xCame.length c12, .slice A13 p2.xOut.length c13, .int .u32 p2.xLast, .bool p2.xHas] 42, .own A12 p2.xCame.length c12 (rowOf encB p2.xCame) 1 4, .own A13 p2.xOut.length c13 (rowOf (encI .u8) p2.xOut) 1 5, .blk g1 [.pointer (some ⟨g5, 0, none⟩), .slice A15 p3.xbytes.length c15, .int .i64 p3.xbegin, .int .i64 p3.xn, .int .u32 p3.xlast, .bool p3.xkept] 50, .blk g5 [.bool p3.xBoard.xmade, .int .u32 p3.xBoard.xfirst, .slice A14 p3.xBoard.xruns.length c14] 76, .own A15 p3.xbytes.length c15 (rowOf (encI .u8) p3.xbytes) 1 5]) (by kernel_rfl) ?_
                refine t_env [] (E' := []) (by kernel_rfl) ?_
                obtain rfl := Option.some.inj hm
                exact e_inv (fun a w ha hw => ⟨(p2, p3), B7, A11, c11, A12, c12, A13, c13, g5, A14, c14, A15, c15, rfl, hx18, hs6, hs7, ha, hw⟩)
          · exact fun a w ha hw => ⟨0, t6.1, y1, B, A7, c7, A8, c8, A9, c9, g2, A2, c2, A3, c3, ht1, Ext.refl _, hs4, hs2, ha, hw⟩
end Go.V
