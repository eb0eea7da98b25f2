/- Printed by a program of this work: Go functions as Lean functions, and that the machine comes to the same. -/
import Derived.Test.YtafghfchflngiaaMx6
set_option maxRecDepth 100000
set_option linter.unusedVariables false
namespace Go.V
open Go Go.Proofs
def w_SegTrimmed.l1 : Nat → TS → TS → Bool → Int → Option (Bool)
  | 0, _, _, _, _ => none
  | k + 1, a0, t8, p1, p2 => (if decide ((I64 (p2 + (t8.da.length : Int))) ≤ (a0.da.length : Int)) then (if !p1 then ((cut a0.da p2 (I64 (p2 + (t8.da.length : Int)))).bind fun l1 => (w_SegTrimmed.l1 k a0 t8 ((strOf l1).toList == (strOf t8.da).toList) (I64 (p2 + 1)))) else (some p1)) else (some p1))
def w_SegTrimmed.l2 : Nat → TS → TS → Bool → Int → Option (Bool)
  | 0, _, _, _, _ => none
  | k + 1, a0, t8, p3, p4 => (if decide ((I64 (p4 + (t8.da.length : Int))) ≤ (a0.da.length : Int)) then (if !p3 then ((cut a0.da p4 (I64 (p4 + (t8.da.length : Int)))).bind fun l2 => (w_SegTrimmed.l2 k a0 t8 ((strOf l2).toList == (strOf t8.da).toList) (I64 (p4 + 1)))) else (some p3)) else (some p3))
def w_SegTrimmed.f (k : Nat) (a0 : TS) (a1 : Int) (a2 : Int) : Option (Bool) :=
  ((r_Diff.f a1 a0.sq).bind fun t1 => ((w_far.f a0).bind fun t2 => (if t2 then ((w_alive.f k).bind fun t3 => (some t3)) else (if decide ((a0.da.length : Int) > 1500) then ((w_alive.f k).bind fun t4 => (some t4)) else (if decide (t1 > 1073741824) then ((w_alive.f k).bind fun t5 => (some t5)) else (if decide (t1 < (-1073741824)) then ((w_alive.f k).bind fun t6 => (some t6)) else (if decide (a2 > 1073741824) then ((w_alive.f k).bind fun t7 => (some t7)) else ((seg_Trim.f a0 a1 a2).bind fun t8 => ((seg_Len_3.f t8).bind fun t9 => (if decide (t9 > 0) then ((r_In.f t8.sq a1 a2).bind fun t10 => (if !t10 then (some false) else ((r_In.f (U32 ((U32 (t8.sq + t9)) - 1)) a1 a2).bind fun t11 => (if !t11 then (some false) else ((seg_Len_3.f a0).bind fun t12 => (if decide (t9 > t12) then (some false) else ((w_SegTrimmed.l1 k a0 t8 ((t8.da.length : Int) == 0) 0).bind fun t13 => (if t13 then ((seg_Trim.f t8 a1 a2).bind fun t14 => ((seg_Same_2.f k t14 t8).bind fun t15 => (if t15 then (if (bandn .u8 t8.fl a0.fl) == 0 then ((w_alive.f k).bind fun t16 => (some t16)) else (some false)) else (some false)))) else (some false))))))))) else ((seg_Len_3.f a0).bind fun t17 => (if decide (t9 > t17) then (some false) else ((w_SegTrimmed.l2 k a0 t8 ((t8.da.length : Int) == 0) 0).bind fun t18 => (if t18 then ((seg_Trim.f t8 a1 a2).bind fun t19 => ((seg_Same_2.f k t19 t8).bind fun t20 => (if t20 then (if (bandn .u8 t8.fl a0.fl) == 0 then ((w_alive.f k).bind fun t21 => (some t21)) else (some false)) else (some false)))) else (some false)))))))))))))))
theorem w_SegTrimmed_ok (k : Nat) (a0 : TS) (a1 : Int) (a2 : Int) (r : Bool) (hm : w_SegTrimmed.f k a0 a1 a2 = some r) (B G : Asn) (A1 : Option Addr) (c1 : Nat) (A2 : Option Addr) (c2 : Nat) (hs1 : Sl kTB B A1 c1 a0.o.sk) (hs2 : Sl (kI .u8) B A2 c2 a0.da) (w : World) (hs : St B G [] w) :
    Calls Try.prog 8 #[.agg #[v16 a0.sr, v16 a0.ds, v32 a0.sq, v32 a0.ak, v8 a0.fl, v16 a0.wi, v16 a0.ur, vb a0.o.hM, v16 a0.o.ms, vb a0.o.hS, v8 a0.o.sc, vb a0.o.sO, .slice A1 a0.o.sk.length c1, vb a0.o.hT, v32 a0.o.va, v32 a0.o.ec, vb a0.o.hO, v8 a0.o.ki, v8 a0.o.ni, v8 a0.o.m.x0, v8 a0.o.m.x1, v8 a0.o.m.x2, v8 a0.o.m.x3, v8 a0.o.m.x4, v8 a0.o.m.x5, v8 a0.o.m.x6, v8 a0.o.m.x7, v8 a0.o.m.x8, v8 a0.o.m.x9, v8 a0.o.m.x10, v8 a0.o.m.x11, .slice A2 a0.da.length c2], v32 a1, v32 a2] w (Post (X := Asn) (fun x => vb r) (fun x => x) G (fun x => []) (fun x => (Ext B x))) := by
  unfold w_SegTrimmed.f at hm
  refine calls_W (F := Try.f8) Try.func8 rfl (by kernel_rfl) (L := []) ?_ hs
  refine w_seq 2 3 (by kernel_rfl) ?_
  refine w_region (by kernel_rfl) ?_
  refine o_stp ?_ (by kernel_rfl)
  refine s_new 3 (fun g1 => (pg g1)) [v16 a0.sr, v16 a0.ds, v32 a0.sq, v32 a0.ak, v8 a0.fl, v16 a0.wi, v16 a0.ur, vb a0.o.hM, v16 a0.o.ms, vb a0.o.hS, v8 a0.o.sc, vb a0.o.sO, .slice A1 a0.o.sk.length c1, vb a0.o.hT, v32 a0.o.va, v32 a0.o.ec, vb a0.o.hO, v8 a0.o.ki, v8 a0.o.ni, v8 a0.o.m.x0, v8 a0.o.m.x1, v8 a0.o.m.x2, v8 a0.o.m.x3, v8 a0.o.m.x4, v8 a0.o.m.x5, v8 a0.o.m.x6, v8 a0.o.m.x7, v8 a0.o.m.x8, v8 a0.o.m.x9, v8 a0.o.m.x10, v8 a0.o.m.x11, .slice A2 a0.da.length c2] 34 (fun _ => by kernel_rfl) (fun g1 => ?_)
  refine o_run 1 [1, 2, 3] (l := []) .nil (E' := [(1, v32 a1), (2, v32 a2), (3, (pg g1))]) (by kernel_rfl) ?_
  refine o_end (by kernel_rfl) ?_
  refine e_seq ?_
  refine w_seq 6 7 (by kernel_rfl) ?_
  refine w_region (by kernel_rfl) ?_
  refine o_run 3 [1, 2, 3, 12, 14] (l := [(⟨g1, 2, none⟩, v32 a0.sq)]) (.one (at_blk (j := 0) rfl rfl) .nil) (E' := [(1, v32 a1), (2, v32 a2), (3, (pg g1)), (12, v32 a1), (14, v32 a0.sq)]) (by kernel_rfl) ?_
  obtain ⟨t1, hx1, hm⟩ := bind_some hm
  refine o_stp ?_ (by kernel_rfl)
  refine s_call 15 27 #[v32 a1, v32 a0.sq] [] [0] (by kernel_rfl) (by kernel_rfl) (fun w hs => r_Diff_ok a1 a0.sq t1 hx1 B _ w (St.cast (by kernel_rfl) hs)) (fun _ hx => ?_)
  refine t_L (L' := [.blk g1 [v16 a0.sr, v16 a0.ds, v32 a0.sq, v32 a0.ak, v8 a0.fl, v16 a0.wi, v16 a0.ur, vb a0.o.hM, v16 a0.o.ms, vb a0.o.hS, v8 a0.o.sc, vb a0.o.sO, .slice A1 a0.o.sk.length c1, vb a0.o.hT, v32 a0.o.va, v32 a0.o.ec, vb a0.o.hO, v8 a0.o.ki, v8 a0.o.ni, v8 a0.o.m.x0, v8 a0.o.m.x1, v8 a0.o.m.x2, v8 a0.o.m.x3, v8 a0.o.m.x4, v8 a0.o.m.x5, v8 a0.o.m.x6, v8 a0.o.m.x7, v8 a0.o.m.x8, v8 a0.o.m.x9, v8 a0.o.m.x10, v8 a0.o.m.x11, .slice A2 a0.da.length c2] 34]) (by kernel_rfl) ?_
  refine o_run 1 [1, 2, 3, 7] (l := []) .nil (E' := [(1, v32 a1), (2, v32 a2), (3, (pg g1)), (7, .int .i32 t1)]) (by kernel_rfl) ?_
  refine o_end (by kernel_rfl) ?_
  refine e_seq ?_
  refine w_seq 14 15 (by kernel_rfl) ?_
  refine w_seq 28 29 (by kernel_rfl) ?_
  refine w_region (by kernel_rfl) ?_
  refine o_val 16 (.load 34 (.tmp 3)) (.agg #[v16 a0.sr, v16 a0.ds, v32 a0.sq, v32 a0.ak, v8 a0.fl, v16 a0.wi, v16 a0.ur, vb a0.o.hM, v16 a0.o.ms, vb a0.o.hS, v8 a0.o.sc, vb a0.o.sO, .slice A1 a0.o.sk.length c1, vb a0.o.hT, v32 a0.o.va, v32 a0.o.ec, vb a0.o.hO, v8 a0.o.ki, v8 a0.o.ni, v8 a0.o.m.x0, v8 a0.o.m.x1, v8 a0.o.m.x2, v8 a0.o.m.x3, v8 a0.o.m.x4, v8 a0.o.m.x5, v8 a0.o.m.x6, v8 a0.o.m.x7, v8 a0.o.m.x8, v8 a0.o.m.x9, v8 a0.o.m.x10, v8 a0.o.m.x11, .slice A2 a0.da.length c2]) (by kernel_rfl) (v_load (l := [v16 a0.sr, v16 a0.ds, v32 a0.sq, v32 a0.ak, v8 a0.fl, v16 a0.wi, v16 a0.ur, vb a0.o.hM, v16 a0.o.ms, vb a0.o.hS, v8 a0.o.sc, vb a0.o.sO, .slice A1 a0.o.sk.length c1, vb a0.o.hT, v32 a0.o.va, v32 a0.o.ec, vb a0.o.hO, v8 a0.o.ki, v8 a0.o.ni, v8 a0.o.m.x0, v8 a0.o.m.x1, v8 a0.o.m.x2, v8 a0.o.m.x3, v8 a0.o.m.x4, v8 a0.o.m.x5, v8 a0.o.m.x6, v8 a0.o.m.x7, v8 a0.o.m.x8, v8 a0.o.m.x9, v8 a0.o.m.x10, v8 a0.o.m.x11, .slice A2 a0.da.length c2]) (a := ⟨g1, 0, none⟩) (by kernel_rfl) (by kernel_rfl) (at_blk (j := 0) rfl rfl)) ?_
  obtain ⟨t2, hx2, hm⟩ := bind_some hm
  refine o_stp ?_ (by kernel_rfl)
  refine s_call 17 9 #[.agg #[v16 a0.sr, v16 a0.ds, v32 a0.sq, v32 a0.ak, v8 a0.fl, v16 a0.wi, v16 a0.ur, vb a0.o.hM, v16 a0.o.ms, vb a0.o.hS, v8 a0.o.sc, vb a0.o.sO, .slice A1 a0.o.sk.length c1, vb a0.o.hT, v32 a0.o.va, v32 a0.o.ec, vb a0.o.hO, v8 a0.o.ki, v8 a0.o.ni, v8 a0.o.m.x0, v8 a0.o.m.x1, v8 a0.o.m.x2, v8 a0.o.m.x3, v8 a0.o.m.x4, v8 a0.o.m.x5, v8 a0.o.m.x6, v8 a0.o.m.x7, v8 a0.o.m.x8, v8 a0.o.m.x9, v8 a0.o.m.x10, v8 a0.o.m.x11, .slice A2 a0.da.length c2]] [] [0] (by kernel_rfl) (by kernel_rfl) (fun w hs => w_far_ok a0 t2 hx2 B _ A1 c1 A2 c2 hs1 hs2 w (St.cast (by kernel_rfl) hs)) (fun _ hx => ?_)
  refine t_L (L' := [.blk g1 [v16 a0.sr, v16 a0.ds, v32 a0.sq, v32 a0.ak, v8 a0.fl, v16 a0.wi, v16 a0.ur, vb a0.o.hM, v16 a0.o.ms, vb a0.o.hS, v8 a0.o.sc, vb a0.o.sO, .slice A1 a0.o.sk.length c1, vb a0.o.hT, v32 a0.o.va, v32 a0.o.ec, vb a0.o.hO, v8 a0.o.ki, v8 a0.o.ni, v8 a0.o.m.x0, v8 a0.o.m.x1, v8 a0.o.m.x2, v8 a0.o.m.x3, v8 a0.o.m.x4, v8 a0.o.m.x5, v8 a0.o.m.x6, v8 a0.o.m.x7, v8 a0.o.m.x8, v8 a0.o.m.x9, v8 a0.o.m.x10, v8 a0.o.m.x11, .slice A2 a0.da.length c2] 34]) (by kernel_rfl) ?_
  refine o_run 1 [1, 2, 3, 7, 18] (l := []) .nil (E' := [(1, v32 a1), (2, v32 a2), (3, (pg g1)), (7, .int .i32 t1), (18, vb t2)]) (by kernel_rfl) ?_
  refine o_split 18 t2 (by kernel_rfl) (fun hb1 => ?_) (fun hb1 => ?_)
  · replace hm := ite_t hb1 hm
    refine o_run 17 [1, 2, 3, 35] (l := []) .nil (E' := [(1, v32 a1), (2, v32 a2), (3, (pg g1)), (35, vb true)]) (by kernel_rfl) ?_
    refine o_end (by kernel_rfl) ?_
    refine e_seq ?_
    refine w_cond_t (.tmp 35) 58 59 (by kernel_rfl) (by kernel_rfl) ?_
    refine w_seq 116 117 (by kernel_rfl) ?_
    refine w_region (by kernel_rfl) ?_
    obtain ⟨t3, hx3, hm⟩ := bind_some hm
    refine o_stp ?_ (by kernel_rfl)
    refine s_call 36 10 #[] [] [0] (by kernel_rfl) (by kernel_rfl) (fun w hs => w_alive_ok k t3 hx3 B _ w (St.cast (by kernel_rfl) hs)) (fun B1 hx => ?_)
    have hx4 := hx
    refine t_L (L' := [.blk g1 [v16 a0.sr, v16 a0.ds, v32 a0.sq, v32 a0.ak, v8 a0.fl, v16 a0.wi, v16 a0.ur, vb a0.o.hM, v16 a0.o.ms, vb a0.o.hS, v8 a0.o.sc, vb a0.o.sO, .slice A1 a0.o.sk.length c1, vb a0.o.hT, v32 a0.o.va, v32 a0.o.ec, vb a0.o.hO, v8 a0.o.ki, v8 a0.o.ni, v8 a0.o.m.x0, v8 a0.o.m.x1, v8 a0.o.m.x2, v8 a0.o.m.x3, v8 a0.o.m.x4, v8 a0.o.m.x5, v8 a0.o.m.x6, v8 a0.o.m.x7, v8 a0.o.m.x8, v8 a0.o.m.x9, v8 a0.o.m.x10, v8 a0.o.m.x11, .slice A2 a0.da.length c2] 34]) (by kernel_rfl) ?_
    refine o_run 1 [6] (l := []) .nil (E' := [(6, vb t3)]) (by kernel_rfl) ?_
    refine o_end (by kernel_rfl) ?_
    refine e_seq ?_
    refine w_ret (by kernel_rfl) ?_
    obtain rfl := Option.some.inj hm
    exact e_retP B1 (vb t3) [] (by kernel_rfl) (by kernel_rfl) rfl (by kernel_rfl) (by kernel_rfl) hx4
  · replace hm := ite_f hb1 hm
    refine o_run 6 [1, 2, 3, 7, 24] (l := [(⟨g1, 31, none⟩, .slice A2 a0.da.length c2)]) (.one (at_blk (j := 0) rfl rfl) .nil) (E' := [(1, v32 a1), (2, v32 a2), (3, (pg g1)), (7, .int .i32 t1), (24, vb (decide ((a0.da.length : Int) > 1500)))]) (by kernel_rfl) ?_
    refine o_split 24 (decide ((a0.da.length : Int) > 1500)) (by kernel_rfl) (fun hb2 => ?_) (fun hb2 => ?_)
    · replace hm := ite_t hb2 hm
      refine o_run 11 [1, 2, 3, 35] (l := []) .nil (E' := [(1, v32 a1), (2, v32 a2), (3, (pg g1)), (35, vb true)]) (by kernel_rfl) ?_
      refine o_end (by kernel_rfl) ?_
      refine e_seq ?_
      refine w_cond_t (.tmp 35) 58 59 (by kernel_rfl) (by kernel_rfl) ?_
      refine w_seq 116 117 (by kernel_rfl) ?_
      refine w_region (by kernel_rfl) ?_
      obtain ⟨t4, hx5, hm⟩ := bind_some hm
      refine o_stp ?_ (by kernel_rfl)
      refine s_call 36 10 #[] [] [0] (by kernel_rfl) (by kernel_rfl) (fun w hs => w_alive_ok k t4 hx5 B _ w (St.cast (by kernel_rfl) hs)) (fun B2 hx => ?_)
      have hx6 := hx
      refine t_L (L' := [.blk g1 [v16 a0.sr, v16 a0.ds, v32 a0.sq, v32 a0.ak, v8 a0.fl, v16 a0.wi, v16 a0.ur, vb a0.o.hM, v16 a0.o.ms, vb a0.o.hS, v8 a0.o.sc, vb a0.o.sO, .slice A1 a0.o.sk.length c1, vb a0.o.hT, v32 a0.o.va, v32 a0.o.ec, vb a0.o.hO, v8 a0.o.ki, v8 a0.o.ni, v8 a0.o.m.x0, v8 a0.o.m.x1, v8 a0.o.m.x2, v8 a0.o.m.x3, v8 a0.o.m.x4, v8 a0.o.m.x5, v8 a0.o.m.x6, v8 a0.o.m.x7, v8 a0.o.m.x8, v8 a0.o.m.x9, v8 a0.o.m.x10, v8 a0.o.m.x11, .slice A2 a0.da.length c2] 34]) (by kernel_rfl) ?_
      refine o_run 1 [6] (l := []) .nil (E' := [(6, vb t4)]) (by kernel_rfl) ?_
      refine o_end (by kernel_rfl) ?_
      refine e_seq ?_
      refine w_ret (by kernel_rfl) ?_
      obtain rfl := Option.some.inj hm
      exact e_retP B2 (vb t4) [] (by kernel_rfl) (by kernel_rfl) rfl (by kernel_rfl) (by kernel_rfl) hx6
    · replace hm := ite_f hb2 hm
      refine o_run 4 [1, 2, 3, 7, 28] (l := []) .nil (E' := [(1, v32 a1), (2, v32 a2), (3, (pg g1)), (7, .int .i32 t1), (28, vb (decide (t1 > 1073741824)))]) (by kernel_rfl) ?_
      refine o_split 28 (decide (t1 > 1073741824)) (by kernel_rfl) (fun hb3 => ?_) (fun hb3 => ?_)
      · replace hm := ite_t hb3 hm
        refine o_run 7 [1, 2, 3, 35] (l := []) .nil (E' := [(1, v32 a1), (2, v32 a2), (3, (pg g1)), (35, vb true)]) (by kernel_rfl) ?_
        refine o_end (by kernel_rfl) ?_
        refine e_seq ?_
        refine w_cond_t (.tmp 35) 58 59 (by kernel_rfl) (by kernel_rfl) ?_
        refine w_seq 116 117 (by kernel_rfl) ?_
        refine w_region (by kernel_rfl) ?_
        obtain ⟨t5, hx7, hm⟩ := bind_some hm
        refine o_stp ?_ (by kernel_rfl)
        refine s_call 36 10 #[] [] [0] (by kernel_rfl) (by kernel_rfl) (fun w hs => w_alive_ok k t5 hx7 B _ w (St.cast (by kernel_rfl) hs)) (fun B3 hx => ?_)
        have hx8 := hx
        refine t_L (L' := [.blk g1 [v16 a0.sr, v16 a0.ds, v32 a0.sq, v32 a0.ak, v8 a0.fl, v16 a0.wi, v16 a0.ur, vb a0.o.hM, v16 a0.o.ms, vb a0.o.hS, v8 a0.o.sc, vb a0.o.sO, .slice A1 a0.o.sk.length c1, vb a0.o.hT, v32 a0.o.va, v32 a0.o.ec, vb a0.o.hO, v8 a0.o.ki, v8 a0.o.ni, v8 a0.o.m.x0, v8 a0.o.m.x1, v8 a0.o.m.x2, v8 a0.o.m.x3, v8 a0.o.m.x4, v8 a0.o.m.x5, v8 a0.o.m.x6, v8 a0.o.m.x7, v8 a0.o.m.x8, v8 a0.o.m.x9, v8 a0.o.m.x10, v8 a0.o.m.x11, .slice A2 a0.da.length c2] 34]) (by kernel_rfl) ?_
        refine o_run 1 [6] (l := []) .nil (E' := [(6, vb t5)]) (by kernel_rfl) ?_
        refine o_end (by kernel_rfl) ?_
        refine e_seq ?_
        refine w_ret (by kernel_rfl) ?_
        obtain rfl := Option.some.inj hm
        exact e_retP B3 (vb t5) [] (by kernel_rfl) (by kernel_rfl) rfl (by kernel_rfl) (by kernel_rfl) hx8
      · replace hm := ite_f hb3 hm
        refine o_run 4 [1, 2, 3, 32] (l := []) .nil (E' := [(1, v32 a1), (2, v32 a2), (3, (pg g1)), (32, vb (decide (t1 < (-1073741824))))]) (by kernel_rfl) ?_
        refine o_split 32 (decide (t1 < (-1073741824))) (by kernel_rfl) (fun hb4 => ?_) (fun hb4 => ?_)
        · replace hm := ite_t hb4 hm
          refine o_run 3 [1, 2, 3, 35] (l := []) .nil (E' := [(1, v32 a1), (2, v32 a2), (3, (pg g1)), (35, vb true)]) (by kernel_rfl) ?_
          refine o_end (by kernel_rfl) ?_
          refine e_seq ?_
          refine w_cond_t (.tmp 35) 58 59 (by kernel_rfl) (by kernel_rfl) ?_
          refine w_seq 116 117 (by kernel_rfl) ?_
          refine w_region (by kernel_rfl) ?_
          obtain ⟨t6, hx9, hm⟩ := bind_some hm
          refine o_stp ?_ (by kernel_rfl)
          refine s_call 36 10 #[] [] [0] (by kernel_rfl) (by kernel_rfl) (fun w hs => w_alive_ok k t6 hx9 B _ w (St.cast (by kernel_rfl) hs)) (fun B4 hx => ?_)
          have hx10 := hx
          refine t_L (L' := [.blk g1 [v16 a0.sr, v16 a0.ds, v32 a0.sq, v32 a0.ak, v8 a0.fl, v16 a0.wi, v16 a0.ur, vb a0.o.hM, v16 a0.o.ms, vb a0.o.hS, v8 a0.o.sc, vb a0.o.sO, .slice A1 a0.o.sk.length c1, vb a0.o.hT, v32 a0.o.va, v32 a0.o.ec, vb a0.o.hO, v8 a0.o.ki, v8 a0.o.ni, v8 a0.o.m.x0, v8 a0.o.m.x1, v8 a0.o.m.x2, v8 a0.o.m.x3, v8 a0.o.m.x4, v8 a0.o.m.x5, v8 a0.o.m.x6, v8 a0.o.m.x7, v8 a0.o.m.x8, v8 a0.o.m.x9, v8 a0.o.m.x10, v8 a0.o.m.x11, .slice A2 a0.da.length c2] 34]) (by kernel_rfl) ?_
          refine o_run 1 [6] (l := []) .nil (E' := [(6, vb t6)]) (by kernel_rfl) ?_
          refine o_end (by kernel_rfl) ?_
          refine e_seq ?_
          refine w_ret (by kernel_rfl) ?_
          obtain rfl := Option.some.inj hm
          exact e_retP B4 (vb t6) [] (by kernel_rfl) (by kernel_rfl) rfl (by kernel_rfl) (by kernel_rfl) hx10
        · replace hm := ite_f hb4 hm
          refine o_run 3 [1, 2, 3, 35] (l := []) .nil (E' := [(1, v32 a1), (2, v32 a2), (3, (pg g1)), (35, vb (decide (a2 > 1073741824)))]) (by kernel_rfl) ?_
          refine o_end (by kernel_rfl) ?_
          refine e_seq ?_
          refine w_cond (.tmp 35) 58 59 (decide (a2 > 1073741824)) (by kernel_rfl) (by kernel_rfl) (fun hb5 => ?_) (fun hb5 => ?_)
          · replace hm := ite_t hb5 hm
            refine w_seq 116 117 (by kernel_rfl) ?_
            refine w_region (by kernel_rfl) ?_
            obtain ⟨t7, hx11, hm⟩ := bind_some hm
            refine o_stp ?_ (by kernel_rfl)
            refine s_call 36 10 #[] [] [0] (by kernel_rfl) (by kernel_rfl) (fun w hs => w_alive_ok k t7 hx11 B _ w (St.cast (by kernel_rfl) hs)) (fun B5 hx => ?_)
            have hx12 := hx
            refine t_L (L' := [.blk g1 [v16 a0.sr, v16 a0.ds, v32 a0.sq, v32 a0.ak, v8 a0.fl, v16 a0.wi, v16 a0.ur, vb a0.o.hM, v16 a0.o.ms, vb a0.o.hS, v8 a0.o.sc, vb a0.o.sO, .slice A1 a0.o.sk.length c1, vb a0.o.hT, v32 a0.o.va, v32 a0.o.ec, vb a0.o.hO, v8 a0.o.ki, v8 a0.o.ni, v8 a0.o.m.x0, v8 a0.o.m.x1, v8 a0.o.m.x2, v8 a0.o.m.x3, v8 a0.o.m.x4, v8 a0.o.m.x5, v8 a0.o.m.x6, v8 a0.o.m.x7, v8 a0.o.m.x8, v8 a0.o.m.x9, v8 a0.o.m.x10, v8 a0.o.m.x11, .slice A2 a0.da.length c2] 34]) (by kernel_rfl) ?_
            refine o_run 1 [6] (l := []) .nil (E' := [(6, vb t7)]) (by kernel_rfl) ?_
            refine o_end (by kernel_rfl) ?_
            refine e_seq ?_
            refine w_ret (by kernel_rfl) ?_
            obtain rfl := Option.some.inj hm
            exact e_retP B5 (vb t7) [] (by kernel_rfl) (by kernel_rfl) rfl (by kernel_rfl) (by kernel_rfl) hx12
          · replace hm := ite_f hb5 hm
            refine w_skip (by kernel_rfl) ?_
            refine e_seq ?_
            refine w_seq 30 31 (by kernel_rfl) ?_
            refine w_region (by kernel_rfl) ?_
            refine o_val 37 (.load 34 (.tmp 3)) (.agg #[v16 a0.sr, v16 a0.ds, v32 a0.sq, v32 a0.ak, v8 a0.fl, v16 a0.wi, v16 a0.ur, vb a0.o.hM, v16 a0.o.ms, vb a0.o.hS, v8 a0.o.sc, vb a0.o.sO, .slice A1 a0.o.sk.length c1, vb a0.o.hT, v32 a0.o.va, v32 a0.o.ec, vb a0.o.hO, v8 a0.o.ki, v8 a0.o.ni, v8 a0.o.m.x0, v8 a0.o.m.x1, v8 a0.o.m.x2, v8 a0.o.m.x3, v8 a0.o.m.x4, v8 a0.o.m.x5, v8 a0.o.m.x6, v8 a0.o.m.x7, v8 a0.o.m.x8, v8 a0.o.m.x9, v8 a0.o.m.x10, v8 a0.o.m.x11, .slice A2 a0.da.length c2]) (by kernel_rfl) (v_load (l := [v16 a0.sr, v16 a0.ds, v32 a0.sq, v32 a0.ak, v8 a0.fl, v16 a0.wi, v16 a0.ur, vb a0.o.hM, v16 a0.o.ms, vb a0.o.hS, v8 a0.o.sc, vb a0.o.sO, .slice A1 a0.o.sk.length c1, vb a0.o.hT, v32 a0.o.va, v32 a0.o.ec, vb a0.o.hO, v8 a0.o.ki, v8 a0.o.ni, v8 a0.o.m.x0, v8 a0.o.m.x1, v8 a0.o.m.x2, v8 a0.o.m.x3, v8 a0.o.m.x4, v8 a0.o.m.x5, v8 a0.o.m.x6, v8 a0.o.m.x7, v8 a0.o.m.x8, v8 a0.o.m.x9, v8 a0.o.m.x10, v8 a0.o.m.x11, .slice A2 a0.da.length c2]) (a := ⟨g1, 0, none⟩) (by kernel_rfl) (by kernel_rfl) (at_blk (j := 0) rfl rfl)) ?_
            refine o_run 2 [1, 2, 3, 37, 38, 39] (l := []) .nil (E' := [(1, v32 a1), (2, v32 a2), (3, (pg g1)), (37, .agg #[v16 a0.sr, v16 a0.ds, v32 a0.sq, v32 a0.ak, v8 a0.fl, v16 a0.wi, v16 a0.ur, vb a0.o.hM, v16 a0.o.ms, vb a0.o.hS, v8 a0.o.sc, vb a0.o.sO, .slice A1 a0.o.sk.length c1, vb a0.o.hT, v32 a0.o.va, v32 a0.o.ec, vb a0.o.hO, v8 a0.o.ki, v8 a0.o.ni, v8 a0.o.m.x0, v8 a0.o.m.x1, v8 a0.o.m.x2, v8 a0.o.m.x3, v8 a0.o.m.x4, v8 a0.o.m.x5, v8 a0.o.m.x6, v8 a0.o.m.x7, v8 a0.o.m.x8, v8 a0.o.m.x9, v8 a0.o.m.x10, v8 a0.o.m.x11, .slice A2 a0.da.length c2]), (38, v32 a1), (39, v32 a2)]) (by kernel_rfl) ?_
            obtain ⟨t8, hx13, hm⟩ := bind_some hm
            refine o_stp ?_ (by kernel_rfl)
            refine s_call 40 25 #[.agg #[v16 a0.sr, v16 a0.ds, v32 a0.sq, v32 a0.ak, v8 a0.fl, v16 a0.wi, v16 a0.ur, vb a0.o.hM, v16 a0.o.ms, vb a0.o.hS, v8 a0.o.sc, vb a0.o.sO, .slice A1 a0.o.sk.length c1, vb a0.o.hT, v32 a0.o.va, v32 a0.o.ec, vb a0.o.hO, v8 a0.o.ki, v8 a0.o.ni, v8 a0.o.m.x0, v8 a0.o.m.x1, v8 a0.o.m.x2, v8 a0.o.m.x3, v8 a0.o.m.x4, v8 a0.o.m.x5, v8 a0.o.m.x6, v8 a0.o.m.x7, v8 a0.o.m.x8, v8 a0.o.m.x9, v8 a0.o.m.x10, v8 a0.o.m.x11, .slice A2 a0.da.length c2], v32 a1, v32 a2] [] [0] (by kernel_rfl) (by kernel_rfl) (fun w hs => seg_Trim_ok a0 a1 a2 t8 hx13 B _ A1 c1 A2 c2 hs1 hs2 w (St.cast (by kernel_rfl) hs)) (fun x hx => ?_)
            obtain ⟨A3, c3, A4, c4⟩ := x
            obtain ⟨hs3, hs4⟩ := hx
            refine t_L (L' := [.blk g1 [v16 a0.sr, v16 a0.ds, v32 a0.sq, v32 a0.ak, v8 a0.fl, v16 a0.wi, v16 a0.ur, vb a0.o.hM, v16 a0.o.ms, vb a0.o.hS, v8 a0.o.sc, vb a0.o.sO, .slice A1 a0.o.sk.length c1, vb a0.o.hT, v32 a0.o.va, v32 a0.o.ec, vb a0.o.hO, v8 a0.o.ki, v8 a0.o.ni, v8 a0.o.m.x0, v8 a0.o.m.x1, v8 a0.o.m.x2, v8 a0.o.m.x3, v8 a0.o.m.x4, v8 a0.o.m.x5, v8 a0.o.m.x6, v8 a0.o.m.x7, v8 a0.o.m.x8, v8 a0.o.m.x9, v8 a0.o.m.x10, v8 a0.o.m.x11, .slice A2 a0.da.length c2] 34]) (by kernel_rfl) ?_
            refine o_stp ?_ (by kernel_rfl)
            refine s_new 8 (fun g2 => (pg g2)) [v16 0, v16 0, v32 0, v32 0, v8 0, v16 0, v16 0, vb false, v16 0, vb false, v8 0, vb false, .slice none 0 0, vb false, v32 0, v32 0, vb false, v8 0, v8 0, v8 0, v8 0, v8 0, v8 0, v8 0, v8 0, v8 0, v8 0, v8 0, v8 0, v8 0, v8 0, .slice none 0 0] 34 (fun _ => by kernel_rfl) (fun g2 => ?_)
            refine o_stp ?_ (by kernel_rfl)
            refine s_store 0 g2 [v16 0, v16 0, v32 0, v32 0, v8 0, v16 0, v16 0, vb false, v16 0, vb false, v8 0, vb false, .slice none 0 0, vb false, v32 0, v32 0, vb false, v8 0, v8 0, v8 0, v8 0, v8 0, v8 0, v8 0, v8 0, v8 0, v8 0, v8 0, v8 0, v8 0, v8 0, .slice none 0 0] 34 [(0, v16 t8.sr), (1, v16 t8.ds), (2, v32 t8.sq), (3, v32 t8.ak), (4, v8 t8.fl), (5, v16 t8.wi), (6, v16 t8.ur), (7, vb t8.o.hM), (8, v16 t8.o.ms), (9, vb t8.o.hS), (10, v8 t8.o.sc), (11, vb t8.o.sO), (12, .slice A3 t8.o.sk.length c3), (13, vb t8.o.hT), (14, v32 t8.o.va), (15, v32 t8.o.ec), (16, vb t8.o.hO), (17, v8 t8.o.ki), (18, v8 t8.o.ni), (19, v8 t8.o.m.x0), (20, v8 t8.o.m.x1), (21, v8 t8.o.m.x2), (22, v8 t8.o.m.x3), (23, v8 t8.o.m.x4), (24, v8 t8.o.m.x5), (25, v8 t8.o.m.x6), (26, v8 t8.o.m.x7), (27, v8 t8.o.m.x8), (28, v8 t8.o.m.x9), (29, v8 t8.o.m.x10), (30, v8 t8.o.m.x11), (31, .slice A4 t8.da.length c4)] (by kernel_rfl) (by kernel_rfl) (by kernel_rfl) ?_
            refine t_L (L' := [.blk g2 [v16 t8.sr, v16 t8.ds, v32 t8.sq, v32 t8.ak, v8 t8.fl, v16 t8.wi, v16 t8.ur, vb t8.o.hM, v16 t8.o.ms, vb t8.o.hS, v8 t8.o.sc, vb t8.o.sO, .slice A3 t8.o.sk.length c3, vb t8.o.hT, v32 t8.o.va, v32 t8.o.ec, vb t8.o.hO, v8 t8.o.ki, v8 t8.o.ni, v8 t8.o.m.x0, v8 t8.o.m.x1, v8 t8.o.m.x2, v8 t8.o.m.x3, v8 t8.o.m.x4, v8 t8.o.m.x5, v8 t8.o.m.x6, v8 t8.o.m.x7, v8 t8.o.m.x8, v8 t8.o.m.x9, v8 t8.o.m.x10, v8 t8.o.m.x11, .slice A4 t8.da.length c4] 34, .blk g1 [v16 a0.sr, v16 a0.ds, v32 a0.sq, v32 a0.ak, v8 a0.fl, v16 a0.wi, v16 a0.ur, vb a0.o.hM, v16 a0.o.ms, vb a0.o.hS, v8 a0.o.sc, vb a0.o.sO, .slice A1 a0.o.sk.length c1, vb a0.o.hT, v32 a0.o.va, v32 a0.o.ec, vb a0.o.hO, v8 a0.o.ki, v8 a0.o.ni, v8 a0.o.m.x0, v8 a0.o.m.x1, v8 a0.o.m.x2, v8 a0.o.m.x3, v8 a0.o.m.x4, v8 a0.o.m.x5, v8 a0.o.m.x6, v8 a0.o.m.x7, v8 a0.o.m.x8, v8 a0.o.m.x9, v8 a0.o.m.x10, v8 a0.o.m.x11, .slice A2 a0.da.length c2] 34]) (by kernel_rfl) ?_
            refine o_end (by kernel_rfl) ?_
            refine e_seq ?_
            refine w_seq 62 63 (by kernel_rfl) ?_
            refine w_region (by kernel_rfl) ?_
            refine o_val 41 (.load 34 (.tmp 8)) (.agg #[v16 t8.sr, v16 t8.ds, v32 t8.sq, v32 t8.ak, v8 t8.fl, v16 t8.wi, v16 t8.ur, vb t8.o.hM, v16 t8.o.ms, vb t8.o.hS, v8 t8.o.sc, vb t8.o.sO, .slice A3 t8.o.sk.length c3, vb t8.o.hT, v32 t8.o.va, v32 t8.o.ec, vb t8.o.hO, v8 t8.o.ki, v8 t8.o.ni, v8 t8.o.m.x0, v8 t8.o.m.x1, v8 t8.o.m.x2, v8 t8.o.m.x3, v8 t8.o.m.x4, v8 t8.o.m.x5, v8 t8.o.m.x6, v8 t8.o.m.x7, v8 t8.o.m.x8, v8 t8.o.m.x9, v8 t8.o.m.x10, v8 t8.o.m.x11, .slice A4 t8.da.length c4]) (by kernel_rfl) (v_load (l := [v16 t8.sr, v16 t8.ds, v32 t8.sq, v32 t8.ak, v8 t8.fl, v16 t8.wi, v16 t8.ur, vb t8.o.hM, v16 t8.o.ms, vb t8.o.hS, v8 t8.o.sc, vb t8.o.sO, .slice A3 t8.o.sk.length c3, vb t8.o.hT, v32 t8.o.va, v32 t8.o.ec, vb t8.o.hO, v8 t8.o.ki, v8 t8.o.ni, v8 t8.o.m.x0, v8 t8.o.m.x1, v8 t8.o.m.x2, v8 t8.o.m.x3, v8 t8.o.m.x4, v8 t8.o.m.x5, v8 t8.o.m.x6, v8 t8.o.m.x7, v8 t8.o.m.x8, v8 t8.o.m.x9, v8 t8.o.m.x10, v8 t8.o.m.x11, .slice A4 t8.da.length c4]) (a := ⟨g2, 0, none⟩) (by kernel_rfl) (by kernel_rfl) (at_blk (j := 0) rfl rfl)) ?_
            obtain ⟨t9, hx14, hm⟩ := bind_some hm
            refine o_stp ?_ (by kernel_rfl)
            refine s_call 42 15 #[.agg #[v16 t8.sr, v16 t8.ds, v32 t8.sq, v32 t8.ak, v8 t8.fl, v16 t8.wi, v16 t8.ur, vb t8.o.hM, v16 t8.o.ms, vb t8.o.hS, v8 t8.o.sc, vb t8.o.sO, .slice A3 t8.o.sk.length c3, vb t8.o.hT, v32 t8.o.va, v32 t8.o.ec, vb t8.o.hO, v8 t8.o.ki, v8 t8.o.ni, v8 t8.o.m.x0, v8 t8.o.m.x1, v8 t8.o.m.x2, v8 t8.o.m.x3, v8 t8.o.m.x4, v8 t8.o.m.x5, v8 t8.o.m.x6, v8 t8.o.m.x7, v8 t8.o.m.x8, v8 t8.o.m.x9, v8 t8.o.m.x10, v8 t8.o.m.x11, .slice A4 t8.da.length c4]] [] [0, 1] (by kernel_rfl) (by kernel_rfl) (fun w hs => seg_Len_3_ok t8 t9 hx14 B _ A3 c3 A4 c4 hs3 hs4 w (St.cast (by kernel_rfl) hs)) (fun _ hx => ?_)
            refine t_L (L' := [.blk g2 [v16 t8.sr, v16 t8.ds, v32 t8.sq, v32 t8.ak, v8 t8.fl, v16 t8.wi, v16 t8.ur, vb t8.o.hM, v16 t8.o.ms, vb t8.o.hS, v8 t8.o.sc, vb t8.o.sO, .slice A3 t8.o.sk.length c3, vb t8.o.hT, v32 t8.o.va, v32 t8.o.ec, vb t8.o.hO, v8 t8.o.ki, v8 t8.o.ni, v8 t8.o.m.x0, v8 t8.o.m.x1, v8 t8.o.m.x2, v8 t8.o.m.x3, v8 t8.o.m.x4, v8 t8.o.m.x5, v8 t8.o.m.x6, v8 t8.o.m.x7, v8 t8.o.m.x8, v8 t8.o.m.x9, v8 t8.o.m.x10, v8 t8.o.m.x11, .slice A4 t8.da.length c4] 34, .blk g1 [v16 a0.sr, v16 a0.ds, v32 a0.sq, v32 a0.ak, v8 a0.fl, v16 a0.wi, v16 a0.ur, vb a0.o.hM, v16 a0.o.ms, vb a0.o.hS, v8 a0.o.sc, vb a0.o.sO, .slice A1 a0.o.sk.length c1, vb a0.o.hT, v32 a0.o.va, v32 a0.o.ec, vb a0.o.hO, v8 a0.o.ki, v8 a0.o.ni, v8 a0.o.m.x0, v8 a0.o.m.x1, v8 a0.o.m.x2, v8 a0.o.m.x3, v8 a0.o.m.x4, v8 a0.o.m.x5, v8 a0.o.m.x6, v8 a0.o.m.x7, v8 a0.o.m.x8, v8 a0.o.m.x9, v8 a0.o.m.x10, v8 a0.o.m.x11, .slice A2 a0.da.length c2] 34]) (by kernel_rfl) ?_
            refine o_run 1 [1, 2, 3, 8, 9] (l := []) .nil (E' := [(1, v32 a1), (2, v32 a2), (3, (pg g1)), (8, (pg g2)), (9, v32 t9)]) (by kernel_rfl) ?_
            refine o_end (by kernel_rfl) ?_
            refine e_seq ?_
            refine w_seq 126 127 (by kernel_rfl) ?_
            refine w_seq 252 253 (by kernel_rfl) ?_
            refine w_region (by kernel_rfl) ?_
            refine o_run 3 [1, 2, 3, 8, 9, 45] (l := []) .nil (E' := [(1, v32 a1), (2, v32 a2), (3, (pg g1)), (8, (pg g2)), (9, v32 t9), (45, vb (decide (t9 > 0)))]) (by kernel_rfl) ?_
            refine o_split 45 (decide (t9 > 0)) (by kernel_rfl) (fun hb6 => ?_) (fun hb6 => ?_)
            · replace hm := ite_t hb6 hm
              refine o_run 4 [1, 2, 3, 8, 9, 45, 47, 48, 49] (l := [(⟨g2, 2, none⟩, v32 t8.sq)]) (.one (at_blk (j := 0) rfl rfl) .nil) (E' := [(1, v32 a1), (2, v32 a2), (3, (pg g1)), (8, (pg g2)), (9, v32 t9), (45, vb true), (47, v32 t8.sq), (48, v32 a1), (49, v32 a2)]) (by kernel_rfl) ?_
              obtain ⟨t10, hx15, hm⟩ := bind_some hm
              refine o_stp ?_ (by kernel_rfl)
              refine s_call 50 28 #[v32 t8.sq, v32 a1, v32 a2] [] [0, 1] (by kernel_rfl) (by kernel_rfl) (fun w hs => r_In_ok t8.sq a1 a2 t10 hx15 B _ w (St.cast (by kernel_rfl) hs)) (fun _ hx => ?_)
              refine t_L (L' := [.blk g2 [v16 t8.sr, v16 t8.ds, v32 t8.sq, v32 t8.ak, v8 t8.fl, v16 t8.wi, v16 t8.ur, vb t8.o.hM, v16 t8.o.ms, vb t8.o.hS, v8 t8.o.sc, vb t8.o.sO, .slice A3 t8.o.sk.length c3, vb t8.o.hT, v32 t8.o.va, v32 t8.o.ec, vb t8.o.hO, v8 t8.o.ki, v8 t8.o.ni, v8 t8.o.m.x0, v8 t8.o.m.x1, v8 t8.o.m.x2, v8 t8.o.m.x3, v8 t8.o.m.x4, v8 t8.o.m.x5, v8 t8.o.m.x6, v8 t8.o.m.x7, v8 t8.o.m.x8, v8 t8.o.m.x9, v8 t8.o.m.x10, v8 t8.o.m.x11, .slice A4 t8.da.length c4] 34, .blk g1 [v16 a0.sr, v16 a0.ds, v32 a0.sq, v32 a0.ak, v8 a0.fl, v16 a0.wi, v16 a0.ur, vb a0.o.hM, v16 a0.o.ms, vb a0.o.hS, v8 a0.o.sc, vb a0.o.sO, .slice A1 a0.o.sk.length c1, vb a0.o.hT, v32 a0.o.va, v32 a0.o.ec, vb a0.o.hO, v8 a0.o.ki, v8 a0.o.ni, v8 a0.o.m.x0, v8 a0.o.m.x1, v8 a0.o.m.x2, v8 a0.o.m.x3, v8 a0.o.m.x4, v8 a0.o.m.x5, v8 a0.o.m.x6, v8 a0.o.m.x7, v8 a0.o.m.x8, v8 a0.o.m.x9, v8 a0.o.m.x10, v8 a0.o.m.x11, .slice A2 a0.da.length c2] 34]) (by kernel_rfl) ?_
              refine o_run 2 [1, 2, 3, 8, 9, 45, 52] (l := []) .nil (E' := [(1, v32 a1), (2, v32 a2), (3, (pg g1)), (8, (pg g2)), (9, v32 t9), (45, vb true), (52, vb (!t10))]) (by kernel_rfl) ?_
              refine o_split 52 (!t10) (by kernel_rfl) (fun hb7 => ?_) (fun hb7 => ?_)
              · replace hm := ite_t hb7 hm
                refine o_run 17 [1, 2, 3, 8, 69] (l := []) .nil (E' := [(1, v32 a1), (2, v32 a2), (3, (pg g1)), (8, (pg g2)), (69, vb true)]) (by kernel_rfl) ?_
                refine o_end (by kernel_rfl) ?_
                refine e_seq ?_
                refine w_cond_t (.tmp 69) 506 507 (by kernel_rfl) (by kernel_rfl) ?_
                refine w_seq 1012 1013 (by kernel_rfl) ?_
                refine w_region (by kernel_rfl) ?_
                refine o_run 1 [6] (l := []) .nil (E' := [(6, vb false)]) (by kernel_rfl) ?_
                refine o_end (by kernel_rfl) ?_
                refine e_seq ?_
                refine w_ret (by kernel_rfl) ?_
                obtain rfl := Option.some.inj hm
                exact e_retP B (vb false) [] (by kernel_rfl) (by kernel_rfl) rfl (by kernel_rfl) (by kernel_rfl) (Ext.refl _)
              · replace hm := ite_f hb7 hm
                refine o_run 7 [1, 2, 3, 8, 9, 45, 52, 57, 58, 59] (l := [(⟨g2, 2, none⟩, v32 t8.sq)]) (.one (at_blk (j := 0) rfl rfl) .nil) (E' := [(1, v32 a1), (2, v32 a2), (3, (pg g1)), (8, (pg g2)), (9, v32 t9), (45, vb true), (52, vb false), (57, v32 (U32 ((U32 (t8.sq + t9)) - 1))), (58, v32 a1), (59, v32 a2)]) (by kernel_rfl) ?_
                obtain ⟨t11, hx16, hm⟩ := bind_some hm
                refine o_stp ?_ (by kernel_rfl)
                refine s_call 60 28 #[v32 (U32 ((U32 (t8.sq + t9)) - 1)), v32 a1, v32 a2] [] [0, 1] (by kernel_rfl) (by kernel_rfl) (fun w hs => r_In_ok (U32 ((U32 (t8.sq + t9)) - 1)) a1 a2 t11 hx16 B _ w (St.cast (by kernel_rfl) hs)) (fun _ hx => ?_)
                refine t_L (L' := [.blk g2 [v16 t8.sr, v16 t8.ds, v32 t8.sq, v32 t8.ak, v8 t8.fl, v16 t8.wi, v16 t8.ur, vb t8.o.hM, v16 t8.o.ms, vb t8.o.hS, v8 t8.o.sc, vb t8.o.sO, .slice A3 t8.o.sk.length c3, vb t8.o.hT, v32 t8.o.va, v32 t8.o.ec, vb t8.o.hO, v8 t8.o.ki, v8 t8.o.ni, v8 t8.o.m.x0, v8 t8.o.m.x1, v8 t8.o.m.x2, v8 t8.o.m.x3, v8 t8.o.m.x4, v8 t8.o.m.x5, v8 t8.o.m.x6, v8 t8.o.m.x7, v8 t8.o.m.x8, v8 t8.o.m.x9, v8 t8.o.m.x10, v8 t8.o.m.x11, .slice A4 t8.da.length c4] 34, .blk g1 [v16 a0.sr, v16 a0.ds, v32 a0.sq, v32 a0.ak, v8 a0.fl, v16 a0.wi, v16 a0.ur, vb a0.o.hM, v16 a0.o.ms, vb a0.o.hS, v8 a0.o.sc, vb a0.o.sO, .slice A1 a0.o.sk.length c1, vb a0.o.hT, v32 a0.o.va, v32 a0.o.ec, vb a0.o.hO, v8 a0.o.ki, v8 a0.o.ni, v8 a0.o.m.x0, v8 a0.o.m.x1, v8 a0.o.m.x2, v8 a0.o.m.x3, v8 a0.o.m.x4, v8 a0.o.m.x5, v8 a0.o.m.x6, v8 a0.o.m.x7, v8 a0.o.m.x8, v8 a0.o.m.x9, v8 a0.o.m.x10, v8 a0.o.m.x11, .slice A2 a0.da.length c2] 34]) (by kernel_rfl) ?_
                refine o_run 4 [1, 2, 3, 8, 9, 64] (l := []) .nil (E' := [(1, v32 a1), (2, v32 a2), (3, (pg g1)), (8, (pg g2)), (9, v32 t9), (64, vb (!t11))]) (by kernel_rfl) ?_
                refine o_split 64 (!t11) (by kernel_rfl) (fun hb8 => ?_) (fun hb8 => ?_)
                · replace hm := ite_t hb8 hm
                  refine o_run 5 [1, 2, 3, 8, 69] (l := []) .nil (E' := [(1, v32 a1), (2, v32 a2), (3, (pg g1)), (8, (pg g2)), (69, vb true)]) (by kernel_rfl) ?_
                  refine o_end (by kernel_rfl) ?_
                  refine e_seq ?_
                  refine w_cond_t (.tmp 69) 506 507 (by kernel_rfl) (by kernel_rfl) ?_
                  refine w_seq 1012 1013 (by kernel_rfl) ?_
                  refine w_region (by kernel_rfl) ?_
                  refine o_run 1 [6] (l := []) .nil (E' := [(6, vb false)]) (by kernel_rfl) ?_
                  refine o_end (by kernel_rfl) ?_
                  refine e_seq ?_
                  refine w_ret (by kernel_rfl) ?_
                  obtain rfl := Option.some.inj hm
                  exact e_retP B (vb false) [] (by kernel_rfl) (by kernel_rfl) rfl (by kernel_rfl) (by kernel_rfl) (Ext.refl _)
                · replace hm := ite_f hb8 hm
                  refine o_run 1 [1, 2, 3, 8, 64, 65] (l := []) .nil (E' := [(1, v32 a1), (2, v32 a2), (3, (pg g1)), (8, (pg g2)), (64, vb false), (65, v32 t9)]) (by kernel_rfl) ?_
                  refine o_val 66 (.load 34 (.tmp 3)) (.agg #[v16 a0.sr, v16 a0.ds, v32 a0.sq, v32 a0.ak, v8 a0.fl, v16 a0.wi, v16 a0.ur, vb a0.o.hM, v16 a0.o.ms, vb a0.o.hS, v8 a0.o.sc, vb a0.o.sO, .slice A1 a0.o.sk.length c1, vb a0.o.hT, v32 a0.o.va, v32 a0.o.ec, vb a0.o.hO, v8 a0.o.ki, v8 a0.o.ni, v8 a0.o.m.x0, v8 a0.o.m.x1, v8 a0.o.m.x2, v8 a0.o.m.x3, v8 a0.o.m.x4, v8 a0.o.m.x5, v8 a0.o.m.x6, v8 a0.o.m.x7, v8 a0.o.m.x8, v8 a0.o.m.x9, v8 a0.o.m.x10, v8 a0.o.m.x11, .slice A2 a0.da.length c2]) (by kernel_rfl) (v_load (l := [v16 a0.sr, v16 a0.ds, v32 a0.sq, v32 a0.ak, v8 a0.fl, v16 a0.wi, v16 a0.ur, vb a0.o.hM, v16 a0.o.ms, vb a0.o.hS, v8 a0.o.sc, vb a0.o.sO, .slice A1 a0.o.sk.length c1, vb a0.o.hT, v32 a0.o.va, v32 a0.o.ec, vb a0.o.hO, v8 a0.o.ki, v8 a0.o.ni, v8 a0.o.m.x0, v8 a0.o.m.x1, v8 a0.o.m.x2, v8 a0.o.m.x3, v8 a0.o.m.x4, v8 a0.o.m.x5, v8 a0.o.m.x6, v8 a0.o.m.x7, v8 a0.o.m.x8, v8 a0.o.m.x9, v8 a0.o.m.x10, v8 a0.o.m.x11, .slice A2 a0.da.length c2]) (a := ⟨g1, 0, none⟩) (by kernel_rfl) (by kernel_rfl) (at_blk (j := 1) rfl rfl)) ?_
                  obtain ⟨t12, hx17, hm⟩ := bind_some hm
                  refine o_stp ?_ (by kernel_rfl)
                  refine s_call 67 15 #[.agg #[v16 a0.sr, v16 a0.ds, v32 a0.sq, v32 a0.ak, v8 a0.fl, v16 a0.wi, v16 a0.ur, vb a0.o.hM, v16 a0.o.ms, vb a0.o.hS, v8 a0.o.sc, vb a0.o.sO, .slice A1 a0.o.sk.length c1, vb a0.o.hT, v32 a0.o.va, v32 a0.o.ec, vb a0.o.hO, v8 a0.o.ki, v8 a0.o.ni, v8 a0.o.m.x0, v8 a0.o.m.x1, v8 a0.o.m.x2, v8 a0.o.m.x3, v8 a0.o.m.x4, v8 a0.o.m.x5, v8 a0.o.m.x6, v8 a0.o.m.x7, v8 a0.o.m.x8, v8 a0.o.m.x9, v8 a0.o.m.x10, v8 a0.o.m.x11, .slice A2 a0.da.length c2]] [] [0, 1] (by kernel_rfl) (by kernel_rfl) (fun w hs => seg_Len_3_ok a0 t12 hx17 B _ A1 c1 A2 c2 hs1 hs2 w (St.cast (by kernel_rfl) hs)) (fun _ hx => ?_)
                  refine t_L (L' := [.blk g2 [v16 t8.sr, v16 t8.ds, v32 t8.sq, v32 t8.ak, v8 t8.fl, v16 t8.wi, v16 t8.ur, vb t8.o.hM, v16 t8.o.ms, vb t8.o.hS, v8 t8.o.sc, vb t8.o.sO, .slice A3 t8.o.sk.length c3, vb t8.o.hT, v32 t8.o.va, v32 t8.o.ec, vb t8.o.hO, v8 t8.o.ki, v8 t8.o.ni, v8 t8.o.m.x0, v8 t8.o.m.x1, v8 t8.o.m.x2, v8 t8.o.m.x3, v8 t8.o.m.x4, v8 t8.o.m.x5, v8 t8.o.m.x6, v8 t8.o.m.x7, v8 t8.o.m.x8, v8 t8.o.m.x9, v8 t8.o.m.x10, v8 t8.o.m.x11, .slice A4 t8.da.length c4] 34, .blk g1 [v16 a0.sr, v16 a0.ds, v32 a0.sq, v32 a0.ak, v8 a0.fl, v16 a0.wi, v16 a0.ur, vb a0.o.hM, v16 a0.o.ms, vb a0.o.hS, v8 a0.o.sc, vb a0.o.sO, .slice A1 a0.o.sk.length c1, vb a0.o.hT, v32 a0.o.va, v32 a0.o.ec, vb a0.o.hO, v8 a0.o.ki, v8 a0.o.ni, v8 a0.o.m.x0, v8 a0.o.m.x1, v8 a0.o.m.x2, v8 a0.o.m.x3, v8 a0.o.m.x4, v8 a0.o.m.x5, v8 a0.o.m.x6, v8 a0.o.m.x7, v8 a0.o.m.x8, v8 a0.o.m.x9, v8 a0.o.m.x10, v8 a0.o.m.x11, .slice A2 a0.da.length c2] 34]) (by kernel_rfl) ?_
                  refine o_run 2 [1, 2, 3, 8, 69] (l := []) .nil (E' := [(1, v32 a1), (2, v32 a2), (3, (pg g1)), (8, (pg g2)), (69, vb (decide (t9 > t12)))]) (by kernel_rfl) ?_
                  refine o_end (by kernel_rfl) ?_
                  refine e_seq ?_
                  refine w_cond (.tmp 69) 506 507 (decide (t9 > t12)) (by kernel_rfl) (by kernel_rfl) (fun hb9 => ?_) (fun hb9 => ?_)
                  · replace hm := ite_t hb9 hm
                    refine w_seq 1012 1013 (by kernel_rfl) ?_
                    refine w_region (by kernel_rfl) ?_
                    refine o_run 1 [6] (l := []) .nil (E' := [(6, vb false)]) (by kernel_rfl) ?_
                    refine o_end (by kernel_rfl) ?_
                    refine e_seq ?_
                    refine w_ret (by kernel_rfl) ?_
                    obtain rfl := Option.some.inj hm
                    exact e_retP B (vb false) [] (by kernel_rfl) (by kernel_rfl) rfl (by kernel_rfl) (by kernel_rfl) (Ext.refl _)
                  · replace hm := ite_f hb9 hm
                    refine w_skip (by kernel_rfl) ?_
                    refine e_seq ?_
                    refine w_seq 254 255 (by kernel_rfl) ?_
                    refine w_region (by kernel_rfl) ?_
                    refine o_run 5 [1, 2, 3, 8, 10] (l := [(⟨g2, 31, none⟩, .slice A4 t8.da.length c4)]) (.one (at_blk (j := 0) rfl rfl) .nil) (E' := [(1, v32 a1), (2, v32 a2), (3, (pg g1)), (8, (pg g2)), (10, vb ((t8.da.length : Int) == 0))]) (by kernel_rfl) ?_
                    refine o_end (by kernel_rfl) ?_
                    refine e_seq ?_
                    refine w_seq 510 511 (by kernel_rfl) ?_
                    refine w_seq 1020 1021 (by kernel_rfl) ?_
                    refine w_region (by kernel_rfl) ?_
                    refine o_run 1 [1, 2, 3, 8, 10, 11] (l := []) .nil (E' := [(1, v32 a1), (2, v32 a2), (3, (pg g1)), (8, (pg g2)), (10, vb ((t8.da.length : Int) == 0)), (11, v64 0)]) (by kernel_rfl) ?_
                    refine o_end (by kernel_rfl) ?_
                    refine e_seq ?_
                    refine w_block 0 2042 (by kernel_rfl) ?_
                    obtain ⟨t13, ht1, ho1⟩ := bind_some hm
                    refine t_env [1, 2, 3, 8, 10, 11] (E' := [(1, v32 a1), (2, v32 a2), (3, (pg g1)), (8, (pg g2)), (10, vb ((t8.da.length : Int) == 0)), (11, v64 0)]) (by kernel_rfl) ?_
                    refine w_loopJ 4084 0 (fun k a w => ∃ (p1 : Bool) (p2 : Int), w_SegTrimmed.l1 k a0 t8 p1 p2 = some t13 ∧ EnvOk [(1, v32 a1), (2, v32 a2), (3, (pg g1)), (8, (pg g2)), (10, vb p1), (11, v64 p2)] Try.f8.ntmps a ∧ St B G [.blk g2 [v16 t8.sr, v16 t8.ds, v32 t8.sq, v32 t8.ak, v8 t8.fl, v16 t8.wi, v16 t8.ur, vb t8.o.hM, v16 t8.o.ms, vb t8.o.hS, v8 t8.o.sc, vb t8.o.sO, .slice A3 t8.o.sk.length c3, vb t8.o.hT, v32 t8.o.va, v32 t8.o.ec, vb t8.o.hO, v8 t8.o.ki, v8 t8.o.ni, v8 t8.o.m.x0, v8 t8.o.m.x1, v8 t8.o.m.x2, v8 t8.o.m.x3, v8 t8.o.m.x4, v8 t8.o.m.x5, v8 t8.o.m.x6, v8 t8.o.m.x7, v8 t8.o.m.x8, v8 t8.o.m.x9, v8 t8.o.m.x10, v8 t8.o.m.x11, .slice A4 t8.da.length c4] 34, .blk g1 [v16 a0.sr, v16 a0.ds, v32 a0.sq, v32 a0.ak, v8 a0.fl, v16 a0.wi, v16 a0.ur, vb a0.o.hM, v16 a0.o.ms, vb a0.o.hS, v8 a0.o.sc, vb a0.o.sO, .slice A1 a0.o.sk.length c1, vb a0.o.hT, v32 a0.o.va, v32 a0.o.ec, vb a0.o.hO, v8 a0.o.ki, v8 a0.o.ni, v8 a0.o.m.x0, v8 a0.o.m.x1, v8 a0.o.m.x2, v8 a0.o.m.x3, v8 a0.o.m.x4, v8 a0.o.m.x5, v8 a0.o.m.x6, v8 a0.o.m.x7, v8 a0.o.m.x8, v8 a0.o.m.x9, v8 a0.o.m.x10, v8 a0.o.m.x11, .slice A2 a0.da.length c2] 34] w) (fun a w => EnvOk [(1, v32 a1), (2, v32 a2), (3, (pg g1)), (8, (pg g2)), (10, vb t13)] Try.f8.ntmps a ∧ St B G [.blk g2 [v16 t8.sr, v16 t8.ds, v32 t8.sq, v32 t8.ak, v8 t8.fl, v16 t8.wi, v16 t8.ur, vb t8.o.hM, v16 t8.o.ms, vb t8.o.hS, v8 t8.o.sc, vb t8.o.sO, .slice A3 t8.o.sk.length c3, vb t8.o.hT, v32 t8.o.va, v32 t8.o.ec, vb t8.o.hO, v8 t8.o.ki, v8 t8.o.ni, v8 t8.o.m.x0, v8 t8.o.m.x1, v8 t8.o.m.x2, v8 t8.o.m.x3, v8 t8.o.m.x4, v8 t8.o.m.x5, v8 t8.o.m.x6, v8 t8.o.m.x7, v8 t8.o.m.x8, v8 t8.o.m.x9, v8 t8.o.m.x10, v8 t8.o.m.x11, .slice A4 t8.da.length c4] 34, .blk g1 [v16 a0.sr, v16 a0.ds, v32 a0.sq, v32 a0.ak, v8 a0.fl, v16 a0.wi, v16 a0.ur, vb a0.o.hM, v16 a0.o.ms, vb a0.o.hS, v8 a0.o.sc, vb a0.o.sO, .slice A1 a0.o.sk.length c1, vb a0.o.hT, v32 a0.o.va, v32 a0.o.ec, vb a0.o.hO, v8 a0.o.ki, v8 a0.o.ni, v8 a0.o.m.x0, v8 a0.o.m.x1, v8 a0.o.m.x2, v8 a0.o.m.x3, v8 a0.o.m.x4, v8 a0.o.m.x5, v8 a0.o.m.x6, v8 a0.o.m.x7, v8 a0.o.m.x8, v8 a0.o.m.x9, v8 a0.o.m.x10, v8 a0.o.m.x11, .slice A2 a0.da.length c2] 34] w) (by kernel_rfl) ?_ ?_ k ?_
                    · rintro a w ⟨ha, hw⟩
                      refine we_of (E := [(1, v32 a1), (2, v32 a2), (3, (pg g1)), (8, (pg g2)), (10, vb t13)]) (B := B) (G := G) (L := [.blk g2 [v16 t8.sr, v16 t8.ds, v32 t8.sq, v32 t8.ak, v8 t8.fl, v16 t8.wi, v16 t8.ur, vb t8.o.hM, v16 t8.o.ms, vb t8.o.hS, v8 t8.o.sc, vb t8.o.sO, .slice A3 t8.o.sk.length c3, vb t8.o.hT, v32 t8.o.va, v32 t8.o.ec, vb t8.o.hO, v8 t8.o.ki, v8 t8.o.ni, v8 t8.o.m.x0, v8 t8.o.m.x1, v8 t8.o.m.x2, v8 t8.o.m.x3, v8 t8.o.m.x4, v8 t8.o.m.x5, v8 t8.o.m.x6, v8 t8.o.m.x7, v8 t8.o.m.x8, v8 t8.o.m.x9, v8 t8.o.m.x10, v8 t8.o.m.x11, .slice A4 t8.da.length c4] 34, .blk g1 [v16 a0.sr, v16 a0.ds, v32 a0.sq, v32 a0.ak, v8 a0.fl, v16 a0.wi, v16 a0.ur, vb a0.o.hM, v16 a0.o.ms, vb a0.o.hS, v8 a0.o.sc, vb a0.o.sO, .slice A1 a0.o.sk.length c1, vb a0.o.hT, v32 a0.o.va, v32 a0.o.ec, vb a0.o.hO, v8 a0.o.ki, v8 a0.o.ni, v8 a0.o.m.x0, v8 a0.o.m.x1, v8 a0.o.m.x2, v8 a0.o.m.x3, v8 a0.o.m.x4, v8 a0.o.m.x5, v8 a0.o.m.x6, v8 a0.o.m.x7, v8 a0.o.m.x8, v8 a0.o.m.x9, v8 a0.o.m.x10, v8 a0.o.m.x11, .slice A2 a0.da.length c2] 34]) ?_ ha hw
                      have hm := ho1
                      refine e_seq ?_
                      refine w_seq 1022 1023 (by kernel_rfl) ?_
                      refine w_tail 14 [.blk g2 [v16 t8.sr, v16 t8.ds, v32 t8.sq, v32 t8.ak, v8 t8.fl, v16 t8.wi, v16 t8.ur, vb t8.o.hM, v16 t8.o.ms, vb t8.o.hS, v8 t8.o.sc, vb t8.o.sO, .slice A3 t8.o.sk.length c3, vb t8.o.hT, v32 t8.o.va, v32 t8.o.ec, vb t8.o.hO, v8 t8.o.ki, v8 t8.o.ni, v8 t8.o.m.x0, v8 t8.o.m.x1, v8 t8.o.m.x2, v8 t8.o.m.x3, v8 t8.o.m.x4, v8 t8.o.m.x5, v8 t8.o.m.x6, v8 t8.o.m.x7, v8 t8.o.m.x8, v8 t8.o.m.x9, v8 t8.o.m.x10, v8 t8.o.m.x11, .slice A4 t8.da.length c4] 34, .blk g1 [v16 a0.sr, v16 a0.ds, v32 a0.sq, v32 a0.ak, v8 a0.fl, v16 a0.wi, v16 a0.ur, vb a0.o.hM, v16 a0.o.ms, vb a0.o.hS, v8 a0.o.sc, vb a0.o.sO, .slice A1 a0.o.sk.length c1, vb a0.o.hT, v32 a0.o.va, v32 a0.o.ec, vb a0.o.hO, v8 a0.o.ki, v8 a0.o.ni, v8 a0.o.m.x0, v8 a0.o.m.x1, v8 a0.o.m.x2, v8 a0.o.m.x3, v8 a0.o.m.x4, v8 a0.o.m.x5, v8 a0.o.m.x6, v8 a0.o.m.x7, v8 a0.o.m.x8, v8 a0.o.m.x9, v8 a0.o.m.x10, v8 a0.o.m.x11, .slice A2 a0.da.length c2] 34] (by kernel_rfl) mixed (by kernel_rfl) ?_
                      refine tt_run [0, 1] [1, 2, 3, 8, 104] [0, 1] 12 (listed' := #[true, true, false, false, false, false, false, false, false, false, false, false, false, false, false, false, false, false, false, false, false]) (l := []) .nil (E' := [(1, v32 a1), (2, v32 a2), (3, (pg g1)), (8, (pg g2)), (104, vb t13)]) (by kernel_rfl) (by kernel_rfl) (by kernel_rfl) (Ext.refl _) (by kernel_rfl) (by kernel_rfl) ?_
                      refine t_split 104 t13 (by kernel_rfl) (fun hb10 => ?_) (fun hb10 => ?_)
                      · replace hm := ite_t hb10 hm
                        refine tt_run [3, 4] [3, 8, 104, 106, 107] [0, 1] 10 (listed' := #[true, true, false, true, true, false, false, false, false, false, false, false, false, false, false, false, false, false, false, false, false]) (l := []) .nil (E' := [(3, (pg g1)), (8, (pg g2)), (104, vb true), (106, v32 a1), (107, v32 a2)]) (by kernel_rfl) (by kernel_rfl) (by kernel_rfl) (Ext.refl _) (by kernel_rfl) (by kernel_rfl) ?_
                        refine tt_val 2 105 (.load 34 (.tmp 8)) (.agg #[v16 t8.sr, v16 t8.ds, v32 t8.sq, v32 t8.ak, v8 t8.fl, v16 t8.wi, v16 t8.ur, vb t8.o.hM, v16 t8.o.ms, vb t8.o.hS, v8 t8.o.sc, vb t8.o.sO, .slice A3 t8.o.sk.length c3, vb t8.o.hT, v32 t8.o.va, v32 t8.o.ec, vb t8.o.hO, v8 t8.o.ki, v8 t8.o.ni, v8 t8.o.m.x0, v8 t8.o.m.x1, v8 t8.o.m.x2, v8 t8.o.m.x3, v8 t8.o.m.x4, v8 t8.o.m.x5, v8 t8.o.m.x6, v8 t8.o.m.x7, v8 t8.o.m.x8, v8 t8.o.m.x9, v8 t8.o.m.x10, v8 t8.o.m.x11, .slice A4 t8.da.length c4]) [0, 1] (by kernel_rfl) (v_load (l := [v16 t8.sr, v16 t8.ds, v32 t8.sq, v32 t8.ak, v8 t8.fl, v16 t8.wi, v16 t8.ur, vb t8.o.hM, v16 t8.o.ms, vb t8.o.hS, v8 t8.o.sc, vb t8.o.sO, .slice A3 t8.o.sk.length c3, vb t8.o.hT, v32 t8.o.va, v32 t8.o.ec, vb t8.o.hO, v8 t8.o.ki, v8 t8.o.ni, v8 t8.o.m.x0, v8 t8.o.m.x1, v8 t8.o.m.x2, v8 t8.o.m.x3, v8 t8.o.m.x4, v8 t8.o.m.x5, v8 t8.o.m.x6, v8 t8.o.m.x7, v8 t8.o.m.x8, v8 t8.o.m.x9, v8 t8.o.m.x10, v8 t8.o.m.x11, .slice A4 t8.da.length c4]) (a := ⟨g2, 0, none⟩) (by kernel_rfl) (by kernel_rfl) (at_blk (j := 0) rfl rfl)) (by kernel_rfl) (Ext.refl _) (by kernel_rfl) (by kernel_rfl) ?_
                        refine tt_val 6 109 (.load 34 (.tmp 8)) (.agg #[v16 t8.sr, v16 t8.ds, v32 t8.sq, v32 t8.ak, v8 t8.fl, v16 t8.wi, v16 t8.ur, vb t8.o.hM, v16 t8.o.ms, vb t8.o.hS, v8 t8.o.sc, vb t8.o.sO, .slice A3 t8.o.sk.length c3, vb t8.o.hT, v32 t8.o.va, v32 t8.o.ec, vb t8.o.hO, v8 t8.o.ki, v8 t8.o.ni, v8 t8.o.m.x0, v8 t8.o.m.x1, v8 t8.o.m.x2, v8 t8.o.m.x3, v8 t8.o.m.x4, v8 t8.o.m.x5, v8 t8.o.m.x6, v8 t8.o.m.x7, v8 t8.o.m.x8, v8 t8.o.m.x9, v8 t8.o.m.x10, v8 t8.o.m.x11, .slice A4 t8.da.length c4]) [0, 1] (by kernel_rfl) (v_load (l := [v16 t8.sr, v16 t8.ds, v32 t8.sq, v32 t8.ak, v8 t8.fl, v16 t8.wi, v16 t8.ur, vb t8.o.hM, v16 t8.o.ms, vb t8.o.hS, v8 t8.o.sc, vb t8.o.sO, .slice A3 t8.o.sk.length c3, vb t8.o.hT, v32 t8.o.va, v32 t8.o.ec, vb t8.o.hO, v8 t8.o.ki, v8 t8.o.ni, v8 t8.o.m.x0, v8 t8.o.m.x1, v8 t8.o.m.x2, v8 t8.o.m.x3, v8 t8.o.m.x4, v8 t8.o.m.x5, v8 t8.o.m.x6, v8 t8.o.m.x7, v8 t8.o.m.x8, v8 t8.o.m.x9, v8 t8.o.m.x10, v8 t8.o.m.x11, .slice A4 t8.da.length c4]) (a := ⟨g2, 0, none⟩) (by kernel_rfl) (by kernel_rfl) (at_blk (j := 0) rfl rfl)) (by kernel_rfl) (Ext.refl _) (by kernel_rfl) (by kernel_rfl) ?_
                        obtain ⟨t14, hx18, hm⟩ := bind_some hm
                        refine tt_stp 5 [0, 1] (Ext.refl _) (by kernel_rfl) (by kernel_rfl) (by kernel_rfl) (by kernel_rfl) ?_
                        refine s_call 108 25 #[.agg #[v16 t8.sr, v16 t8.ds, v32 t8.sq, v32 t8.ak, v8 t8.fl, v16 t8.wi, v16 t8.ur, vb t8.o.hM, v16 t8.o.ms, vb t8.o.hS, v8 t8.o.sc, vb t8.o.sO, .slice A3 t8.o.sk.length c3, vb t8.o.hT, v32 t8.o.va, v32 t8.o.ec, vb t8.o.hO, v8 t8.o.ki, v8 t8.o.ni, v8 t8.o.m.x0, v8 t8.o.m.x1, v8 t8.o.m.x2, v8 t8.o.m.x3, v8 t8.o.m.x4, v8 t8.o.m.x5, v8 t8.o.m.x6, v8 t8.o.m.x7, v8 t8.o.m.x8, v8 t8.o.m.x9, v8 t8.o.m.x10, v8 t8.o.m.x11, .slice A4 t8.da.length c4], v32 a1, v32 a2] [] [0, 1] (by kernel_rfl) (by kernel_rfl) (fun w hs => seg_Trim_ok t8 a1 a2 t14 hx18 B _ A3 c3 A4 c4 hs3 hs4 w (St.cast (by kernel_rfl) hs)) (fun x hx => ?_)
                        obtain ⟨A5, c5, A6, c6⟩ := x
                        obtain ⟨hs5, hs6⟩ := hx
                        refine t_L (L' := [.blk g2 [v16 t8.sr, v16 t8.ds, v32 t8.sq, v32 t8.ak, v8 t8.fl, v16 t8.wi, v16 t8.ur, vb t8.o.hM, v16 t8.o.ms, vb t8.o.hS, v8 t8.o.sc, vb t8.o.sO, .slice A3 t8.o.sk.length c3, vb t8.o.hT, v32 t8.o.va, v32 t8.o.ec, vb t8.o.hO, v8 t8.o.ki, v8 t8.o.ni, v8 t8.o.m.x0, v8 t8.o.m.x1, v8 t8.o.m.x2, v8 t8.o.m.x3, v8 t8.o.m.x4, v8 t8.o.m.x5, v8 t8.o.m.x6, v8 t8.o.m.x7, v8 t8.o.m.x8, v8 t8.o.m.x9, v8 t8.o.m.x10, v8 t8.o.m.x11, .slice A4 t8.da.length c4] 34, .blk g1 [v16 a0.sr, v16 a0.ds, v32 a0.sq, v32 a0.ak, v8 a0.fl, v16 a0.wi, v16 a0.ur, vb a0.o.hM, v16 a0.o.ms, vb a0.o.hS, v8 a0.o.sc, vb a0.o.sO, .slice A1 a0.o.sk.length c1, vb a0.o.hT, v32 a0.o.va, v32 a0.o.ec, vb a0.o.hO, v8 a0.o.ki, v8 a0.o.ni, v8 a0.o.m.x0, v8 a0.o.m.x1, v8 a0.o.m.x2, v8 a0.o.m.x3, v8 a0.o.m.x4, v8 a0.o.m.x5, v8 a0.o.m.x6, v8 a0.o.m.x7, v8 a0.o.m.x8, v8 a0.o.m.x9, v8 a0.o.m.x10, v8 a0.o.m.x11, .slice A2 a0.da.length c2] 34]) (by kernel_rfl) ?_
                        obtain ⟨t15, hx19, hm⟩ := bind_some hm
                        refine tt_call 7 110 17 #[.agg #[v16 t14.sr, v16 t14.ds, v32 t14.sq, v32 t14.ak, v8 t14.fl, v16 t14.wi, v16 t14.ur, vb t14.o.hM, v16 t14.o.ms, vb t14.o.hS, v8 t14.o.sc, vb t14.o.sO, .slice A5 t14.o.sk.length c5, vb t14.o.hT, v32 t14.o.va, v32 t14.o.ec, vb t14.o.hO, v8 t14.o.ki, v8 t14.o.ni, v8 t14.o.m.x0, v8 t14.o.m.x1, v8 t14.o.m.x2, v8 t14.o.m.x3, v8 t14.o.m.x4, v8 t14.o.m.x5, v8 t14.o.m.x6, v8 t14.o.m.x7, v8 t14.o.m.x8, v8 t14.o.m.x9, v8 t14.o.m.x10, v8 t14.o.m.x11, .slice A6 t14.da.length c6], .agg #[v16 t8.sr, v16 t8.ds, v32 t8.sq, v32 t8.ak, v8 t8.fl, v16 t8.wi, v16 t8.ur, vb t8.o.hM, v16 t8.o.ms, vb t8.o.hS, v8 t8.o.sc, vb t8.o.sO, .slice A3 t8.o.sk.length c3, vb t8.o.hT, v32 t8.o.va, v32 t8.o.ec, vb t8.o.hO, v8 t8.o.ki, v8 t8.o.ni, v8 t8.o.m.x0, v8 t8.o.m.x1, v8 t8.o.m.x2, v8 t8.o.m.x3, v8 t8.o.m.x4, v8 t8.o.m.x5, v8 t8.o.m.x6, v8 t8.o.m.x7, v8 t8.o.m.x8, v8 t8.o.m.x9, v8 t8.o.m.x10, v8 t8.o.m.x11, .slice A4 t8.da.length c4]] (vb t15) [] [0, 1] (by kernel_rfl) (by kernel_rfl) (by kernel_rfl) (fun B' hx' G' w hs => post_same (seg_Same_2_ok k t14 t8 t15 hx19 _ _ A5 c5 A6 c6 A3 c3 A4 c4 (hs5.up hx') (hs6.up hx') (hs3.up hx') (hs4.up hx') w (St.cast (by kernel_rfl) hs))) (by kernel_rfl) (Ext.refl _) (by kernel_rfl) (by kernel_rfl) ?_
                        refine tt_run [8, 9] [3, 8, 112] [0, 1] 4 (listed' := #[true, true, true, true, true, true, true, true, true, true, false, false, false, false, false, false, false, false, false, false, false]) (l := []) .nil (E' := [(3, (pg g1)), (8, (pg g2)), (112, vb t15)]) (by kernel_rfl) (by kernel_rfl) (by kernel_rfl) (Ext.refl _) (by kernel_rfl) (by kernel_rfl) ?_
                        refine t_split 112 t15 (by kernel_rfl) (fun hb11 => ?_) (fun hb11 => ?_)
                        · replace hm := ite_t hb11 hm
                          refine tt_run [10, 11, 12, 13] [112, 114, 116] [0, 1] 0 (listed' := #[true, true, true, true, true, true, true, true, true, true, true, true, true, true, false, false, false, false, false, false, false]) (l := [(⟨g2, 4, none⟩, v8 t8.fl), (⟨g1, 4, none⟩, v8 a0.fl)]) (.one (at_blk (j := 0) rfl rfl) (.one (at_blk (j := 1) rfl rfl) .nil)) (E' := [(112, vb true), (114, v8 t8.fl), (116, v8 a0.fl)]) (by kernel_rfl) (by kernel_rfl) (by kernel_rfl) (Ext.refl _) (by kernel_rfl) (by kernel_rfl) ?_
                          refine tt_end [0, 1] (Ext.refl _) (by kernel_rfl) (by kernel_rfl) (by kernel_rfl) ?_
                          refine o_run 4 [120] (l := []) .nil (E' := [(120, vb ((bandn .u8 t8.fl a0.fl) == 0))]) (by kernel_rfl) ?_
                          refine o_split 120 ((bandn .u8 t8.fl a0.fl) == 0) (by kernel_rfl) (fun hb12 => ?_) (fun hb12 => ?_)
                          · replace hm := ite_t hb12 hm
                            obtain ⟨t16, hx20, hm⟩ := bind_some hm
                            refine o_stp ?_ (by kernel_rfl)
                            refine s_call 121 10 #[] [] [0, 1] (by kernel_rfl) (by kernel_rfl) (fun w hs => w_alive_ok k t16 hx20 B _ w (St.cast (by kernel_rfl) hs)) (fun B6 hx => ?_)
                            have hx21 := hx
                            refine t_L (L' := [.blk g2 [v16 t8.sr, v16 t8.ds, v32 t8.sq, v32 t8.ak, v8 t8.fl, v16 t8.wi, v16 t8.ur, vb t8.o.hM, v16 t8.o.ms, vb t8.o.hS, v8 t8.o.sc, vb t8.o.sO, .slice A3 t8.o.sk.length c3, vb t8.o.hT, v32 t8.o.va, v32 t8.o.ec, vb t8.o.hO, v8 t8.o.ki, v8 t8.o.ni, v8 t8.o.m.x0, v8 t8.o.m.x1, v8 t8.o.m.x2, v8 t8.o.m.x3, v8 t8.o.m.x4, v8 t8.o.m.x5, v8 t8.o.m.x6, v8 t8.o.m.x7, v8 t8.o.m.x8, v8 t8.o.m.x9, v8 t8.o.m.x10, v8 t8.o.m.x11, .slice A4 t8.da.length c4] 34, .blk g1 [v16 a0.sr, v16 a0.ds, v32 a0.sq, v32 a0.ak, v8 a0.fl, v16 a0.wi, v16 a0.ur, vb a0.o.hM, v16 a0.o.ms, vb a0.o.hS, v8 a0.o.sc, vb a0.o.sO, .slice A1 a0.o.sk.length c1, vb a0.o.hT, v32 a0.o.va, v32 a0.o.ec, vb a0.o.hO, v8 a0.o.ki, v8 a0.o.ni, v8 a0.o.m.x0, v8 a0.o.m.x1, v8 a0.o.m.x2, v8 a0.o.m.x3, v8 a0.o.m.x4, v8 a0.o.m.x5, v8 a0.o.m.x6, v8 a0.o.m.x7, v8 a0.o.m.x8, v8 a0.o.m.x9, v8 a0.o.m.x10, v8 a0.o.m.x11, .slice A2 a0.da.length c2] 34]) (by kernel_rfl) ?_
                            refine o_run 2 [6] (l := []) .nil (E' := [(6, vb t16)]) (by kernel_rfl) ?_
                            refine o_end (by kernel_rfl) ?_
                            refine e_seq ?_
                            refine w_ret (by kernel_rfl) ?_
                            obtain rfl := Option.some.inj hm
                            exact e_retP B6 (vb t16) [] (by kernel_rfl) (by kernel_rfl) rfl (by kernel_rfl) (by kernel_rfl) hx21
                          · replace hm := ite_f hb12 hm
                            refine o_run 3 [6] (l := []) .nil (E' := [(6, vb false)]) (by kernel_rfl) ?_
                            refine o_end (by kernel_rfl) ?_
                            refine e_seq ?_
                            refine w_ret (by kernel_rfl) ?_
                            obtain rfl := Option.some.inj hm
                            exact e_retP B (vb false) [] (by kernel_rfl) (by kernel_rfl) rfl (by kernel_rfl) (by kernel_rfl) (Ext.refl _)
                        · replace hm := ite_f hb11 hm
                          refine tt_run [10, 11, 12, 13] [112, 114, 116] [0, 1] 0 (listed' := #[true, true, true, true, true, true, true, true, true, true, true, true, true, true, false, false, false, false, false, false, false]) (l := []) .nil (E' := [(112, vb false), (114, undef), (116, undef)]) (by kernel_rfl) (by kernel_rfl) (by kernel_rfl) (Ext.refl _) (by kernel_rfl) (by kernel_rfl) ?_
                          refine tt_end [0, 1] (Ext.refl _) (by kernel_rfl) (by kernel_rfl) (by kernel_rfl) ?_
                          refine o_run 7 [6] (l := []) .nil (E' := [(6, vb false)]) (by kernel_rfl) ?_
                          refine o_end (by kernel_rfl) ?_
                          refine e_seq ?_
                          refine w_ret (by kernel_rfl) ?_
                          obtain rfl := Option.some.inj hm
                          exact e_retP B (vb false) [] (by kernel_rfl) (by kernel_rfl) rfl (by kernel_rfl) (by kernel_rfl) (Ext.refl _)
                      · replace hm := ite_f hb10 hm
                        refine tt_run [2, 3, 4, 5, 6, 7, 8, 9, 10, 11, 12, 13] [112, 114, 116] [0, 1] 0 (listed' := #[true, true, true, true, true, true, true, true, true, true, true, true, true, true, false, false, false, false, false, false, false]) (l := []) .nil (E' := [(112, vb false), (114, undef), (116, undef)]) (by kernel_rfl) (by kernel_rfl) (by kernel_rfl) (Ext.refl _) (by kernel_rfl) (by kernel_rfl) ?_
                        refine tt_end [0, 1] (Ext.refl _) (by kernel_rfl) (by kernel_rfl) (by kernel_rfl) ?_
                        refine o_run 7 [6] (l := []) .nil (E' := [(6, vb false)]) (by kernel_rfl) ?_
                        refine o_end (by kernel_rfl) ?_
                        refine e_seq ?_
                        refine w_ret (by kernel_rfl) ?_
                        obtain rfl := Option.some.inj hm
                        exact e_retP B (vb false) [] (by kernel_rfl) (by kernel_rfl) rfl (by kernel_rfl) (by kernel_rfl) (Ext.refl _)
                    · rintro k a w ⟨p1, p2, hm, ha, hw⟩
                      cases k with
                      | zero => exact absurd hm (by simp [w_SegTrimmed.l1])
                      | succ k =>
                        unfold w_SegTrimmed.l1 at hm
                        refine wc_of (E := [(1, v32 a1), (2, v32 a2), (3, (pg g1)), (8, (pg g2)), (10, vb p1), (11, v64 p2)]) (B := B) (G := G) (L := [.blk g2 [v16 t8.sr, v16 t8.ds, v32 t8.sq, v32 t8.ak, v8 t8.fl, v16 t8.wi, v16 t8.ur, vb t8.o.hM, v16 t8.o.ms, vb t8.o.hS, v8 t8.o.sc, vb t8.o.sO, .slice A3 t8.o.sk.length c3, vb t8.o.hT, v32 t8.o.va, v32 t8.o.ec, vb t8.o.hO, v8 t8.o.ki, v8 t8.o.ni, v8 t8.o.m.x0, v8 t8.o.m.x1, v8 t8.o.m.x2, v8 t8.o.m.x3, v8 t8.o.m.x4, v8 t8.o.m.x5, v8 t8.o.m.x6, v8 t8.o.m.x7, v8 t8.o.m.x8, v8 t8.o.m.x9, v8 t8.o.m.x10, v8 t8.o.m.x11, .slice A4 t8.da.length c4] 34, .blk g1 [v16 a0.sr, v16 a0.ds, v32 a0.sq, v32 a0.ak, v8 a0.fl, v16 a0.wi, v16 a0.ur, vb a0.o.hM, v16 a0.o.ms, vb a0.o.hS, v8 a0.o.sc, vb a0.o.sO, .slice A1 a0.o.sk.length c1, vb a0.o.hT, v32 a0.o.va, v32 a0.o.ec, vb a0.o.hO, v8 a0.o.ki, v8 a0.o.ni, v8 a0.o.m.x0, v8 a0.o.m.x1, v8 a0.o.m.x2, v8 a0.o.m.x3, v8 a0.o.m.x4, v8 a0.o.m.x5, v8 a0.o.m.x6, v8 a0.o.m.x7, v8 a0.o.m.x8, v8 a0.o.m.x9, v8 a0.o.m.x10, v8 a0.o.m.x11, .slice A2 a0.da.length c2] 34]) ?_ ha hw
                        refine w_seq 8168 8169 (by kernel_rfl) ?_
                        refine w_seq 16336 16337 (by kernel_rfl) ?_
                        refine w_region (by kernel_rfl) ?_
                        refine o_run 10 [1, 2, 3, 8, 10, 11, 83] (l := [(⟨g2, 31, none⟩, .slice A4 t8.da.length c4), (⟨g1, 31, none⟩, .slice A2 a0.da.length c2)]) (.one (at_blk (j := 0) rfl rfl) (.one (at_blk (j := 1) rfl rfl) .nil)) (E' := [(1, v32 a1), (2, v32 a2), (3, (pg g1)), (8, (pg g2)), (10, vb p1), (11, v64 p2), (83, vb (decide ((I64 (p2 + (t8.da.length : Int))) ≤ (a0.da.length : Int))))]) (by kernel_rfl) ?_
                        refine o_split 83 (decide ((I64 (p2 + (t8.da.length : Int))) ≤ (a0.da.length : Int))) (by kernel_rfl) (fun hb13 => ?_) (fun hb13 => ?_)
                        · replace hm := ite_t hb13 hm
                          refine o_run 3 [1, 2, 3, 8, 10, 11, 86] (l := []) .nil (E' := [(1, v32 a1), (2, v32 a2), (3, (pg g1)), (8, (pg g2)), (10, vb p1), (11, v64 p2), (86, vb (!p1))]) (by kernel_rfl) ?_
                          refine o_end (by kernel_rfl) ?_
                          refine e_seq ?_
                          refine w_cond (.tmp 86) 32674 32675 (!p1) (by kernel_rfl) (by kernel_rfl) (fun hb14 => ?_) (fun hb14 => ?_)
                          · replace hm := ite_t hb14 hm
                            refine w_skip (by kernel_rfl) ?_
                            refine e_seq ?_
                            refine w_seq 16338 16339 (by kernel_rfl) ?_
                            refine w_block 1 32676 (by kernel_rfl) ?_
                            refine w_quiet (by kernel_rfl) mixed (by kernel_rfl) ?_
                            refine q_run 8 [1, 2, 3, 8, 11, 90, 91, 96] (l := [(⟨g1, 31, none⟩, .slice A2 a0.da.length c2), (⟨g2, 31, none⟩, .slice A4 t8.da.length c4)]) (.one (at_blk (j := 1) rfl rfl) (.one (at_blk (j := 0) rfl rfl) .nil)) (E' := [(1, v32 a1), (2, v32 a2), (3, (pg g1)), (8, (pg g2)), (11, v64 p2), (90, .slice A2 a0.da.length c2), (91, v64 p2), (96, v64 (I64 (p2 + (t8.da.length : Int))))]) (by kernel_rfl) ?_
                            obtain ⟨l1, hx22, hm⟩ := bind_some hm
                            refine q_val 97 (.slice 32 (.tmp 90) (some (.tmp 91)) (some (.tmp 96)) none) (.slice (cutA A2 (Int.toNat p2) c2 1) l1.length (c2 - Int.toNat p2)) (by kernel_rfl) (i_slice 32 (.tmp 90) (some (.tmp 91)) (some (.tmp 96)) hs2 hx22 (by kernel_rfl) (by kernel_rfl) (by kernel_rfl) (by kernel_rfl)) ?_
                            have hs7 := sl_cut hs2 hx22
                            refine q_val 98 (.convert 32 9 (.tmp 97)) (.string (strOf l1)) (by kernel_rfl) (v_strI hs7 (by kernel_rfl) (by kernel_rfl)) ?_
                            refine q_run 2 [1, 2, 3, 8, 11, 98, 100] (l := [(⟨g2, 31, none⟩, .slice A4 t8.da.length c4)]) (.one (at_blk (j := 0) rfl rfl) .nil) (E' := [(1, v32 a1), (2, v32 a2), (3, (pg g1)), (8, (pg g2)), (11, v64 p2), (98, .string (strOf l1)), (100, .slice A4 t8.da.length c4)]) (by kernel_rfl) ?_
                            refine q_val 101 (.convert 32 9 (.tmp 100)) (.string (strOf t8.da)) (by kernel_rfl) (v_strI hs4 (by kernel_rfl) (by kernel_rfl)) ?_
                            refine q_run 2 [1, 2, 3, 8, 10, 11] (l := []) .nil (E' := [(1, v32 a1), (2, v32 a2), (3, (pg g1)), (8, (pg g2)), (10, vb ((strOf l1).toList == (strOf t8.da).toList)), (11, v64 p2)]) (by kernel_rfl) ?_
                            refine q_end (by kernel_rfl) ?_
                            refine e_blk ?_
                            refine e_seq ?_
                            refine w_region (by kernel_rfl) ?_
                            refine o_run 3 [1, 2, 3, 8, 10, 11] (l := []) .nil (E' := [(1, v32 a1), (2, v32 a2), (3, (pg g1)), (8, (pg g2)), (10, vb ((strOf l1).toList == (strOf t8.da).toList)), (11, v64 (I64 (p2 + 1)))]) (by kernel_rfl) ?_
                            refine o_end (by kernel_rfl) ?_
                            refine t_drop [0, 1] (by kernel_rfl) ?_
                            refine t_L (L' := [.blk g2 [v16 t8.sr, v16 t8.ds, v32 t8.sq, v32 t8.ak, v8 t8.fl, v16 t8.wi, v16 t8.ur, vb t8.o.hM, v16 t8.o.ms, vb t8.o.hS, v8 t8.o.sc, vb t8.o.sO, .slice A3 t8.o.sk.length c3, vb t8.o.hT, v32 t8.o.va, v32 t8.o.ec, vb t8.o.hO, v8 t8.o.ki, v8 t8.o.ni, v8 t8.o.m.x0, v8 t8.o.m.x1, v8 t8.o.m.x2, v8 t8.o.m.x3, v8 t8.o.m.x4, v8 t8.o.m.x5, v8 t8.o.m.x6, v8 t8.o.m.x7, v8 t8.o.m.x8, v8 t8.o.m.x9, v8 t8.o.m.x10, v8 t8.o.m.x11, .slice A4 t8.da.length c4] 34, .blk g1 [v16 a0.sr, v16 a0.ds, v32 a0.sq, v32 a0.ak, v8 a0.fl, v16 a0.wi, v16 a0.ur, vb a0.o.hM, v16 a0.o.ms, vb a0.o.hS, v8 a0.o.sc, vb a0.o.sO, .slice A1 a0.o.sk.length c1, vb a0.o.hT, v32 a0.o.va, v32 a0.o.ec, vb a0.o.hO, v8 a0.o.ki, v8 a0.o.ni, v8 a0.o.m.x0, v8 a0.o.m.x1, v8 a0.o.m.x2, v8 a0.o.m.x3, v8 a0.o.m.x4, v8 a0.o.m.x5, v8 a0.o.m.x6, v8 a0.o.m.x7, v8 a0.o.m.x8, v8 a0.o.m.x9, v8 a0.o.m.x10, v8 a0.o.m.x11, .slice A2 a0.da.length c2] 34]) (by kernel_rfl) ?_
                            refine t_env [1, 2, 3, 8, 10, 11] (E' := [(1, v32 a1), (2, v32 a2), (3, (pg g1)), (8, (pg g2)), (10, vb ((strOf l1).toList == (strOf t8.da).toList)), (11, v64 (I64 (p2 + 1)))]) (by kernel_rfl) ?_
                            exact e_inv (fun a w ha hw => ⟨k, Nat.lt_succ_self k, ((strOf l1).toList == (strOf t8.da).toList), (I64 (p2 + 1)), hm, ha, hw⟩)
                          · replace hm := ite_f hb14 hm
                            refine w_exit 0 (by kernel_rfl) ?_
                            refine e_x_seq ?_
                            refine e_x_inv ?_
                            refine e_x_here ?_
                            refine t_drop [0, 1] (by kernel_rfl) ?_
                            refine t_L (L' := [.blk g2 [v16 t8.sr, v16 t8.ds, v32 t8.sq, v32 t8.ak, v8 t8.fl, v16 t8.wi, v16 t8.ur, vb t8.o.hM, v16 t8.o.ms, vb t8.o.hS, v8 t8.o.sc, vb t8.o.sO, .slice A3 t8.o.sk.length c3, vb t8.o.hT, v32 t8.o.va, v32 t8.o.ec, vb t8.o.hO, v8 t8.o.ki, v8 t8.o.ni, v8 t8.o.m.x0, v8 t8.o.m.x1, v8 t8.o.m.x2, v8 t8.o.m.x3, v8 t8.o.m.x4, v8 t8.o.m.x5, v8 t8.o.m.x6, v8 t8.o.m.x7, v8 t8.o.m.x8, v8 t8.o.m.x9, v8 t8.o.m.x10, v8 t8.o.m.x11, .slice A4 t8.da.length c4] 34, .blk g1 [v16 a0.sr, v16 a0.ds, v32 a0.sq, v32 a0.ak, v8 a0.fl, v16 a0.wi, v16 a0.ur, vb a0.o.hM, v16 a0.o.ms, vb a0.o.hS, v8 a0.o.sc, vb a0.o.sO, .slice A1 a0.o.sk.length c1, vb a0.o.hT, v32 a0.o.va, v32 a0.o.ec, vb a0.o.hO, v8 a0.o.ki, v8 a0.o.ni, v8 a0.o.m.x0, v8 a0.o.m.x1, v8 a0.o.m.x2, v8 a0.o.m.x3, v8 a0.o.m.x4, v8 a0.o.m.x5, v8 a0.o.m.x6, v8 a0.o.m.x7, v8 a0.o.m.x8, v8 a0.o.m.x9, v8 a0.o.m.x10, v8 a0.o.m.x11, .slice A2 a0.da.length c2] 34]) (by kernel_rfl) ?_
                            refine t_env [1, 2, 3, 8, 10] (E' := [(1, v32 a1), (2, v32 a2), (3, (pg g1)), (8, (pg g2)), (10, vb p1)]) (by kernel_rfl) ?_
                            obtain rfl := Option.some.inj hm
                            exact e_inv (fun a w ha hw => ⟨ha, hw⟩)
                        · replace hm := ite_f hb13 hm
                          refine o_run 3 [1, 2, 3, 8, 10, 11, 86] (l := []) .nil (E' := [(1, v32 a1), (2, v32 a2), (3, (pg g1)), (8, (pg g2)), (10, vb p1), (11, v64 p2), (86, vb false)]) (by kernel_rfl) ?_
                          refine o_end (by kernel_rfl) ?_
                          refine e_seq ?_
                          refine w_cond_f (.tmp 86) 32674 32675 (by kernel_rfl) (by kernel_rfl) ?_
                          refine w_exit 0 (by kernel_rfl) ?_
                          refine e_x_seq ?_
                          refine e_x_inv ?_
                          refine e_x_here ?_
                          refine t_drop [0, 1] (by kernel_rfl) ?_
                          refine t_L (L' := [.blk g2 [v16 t8.sr, v16 t8.ds, v32 t8.sq, v32 t8.ak, v8 t8.fl, v16 t8.wi, v16 t8.ur, vb t8.o.hM, v16 t8.o.ms, vb t8.o.hS, v8 t8.o.sc, vb t8.o.sO, .slice A3 t8.o.sk.length c3, vb t8.o.hT, v32 t8.o.va, v32 t8.o.ec, vb t8.o.hO, v8 t8.o.ki, v8 t8.o.ni, v8 t8.o.m.x0, v8 t8.o.m.x1, v8 t8.o.m.x2, v8 t8.o.m.x3, v8 t8.o.m.x4, v8 t8.o.m.x5, v8 t8.o.m.x6, v8 t8.o.m.x7, v8 t8.o.m.x8, v8 t8.o.m.x9, v8 t8.o.m.x10, v8 t8.o.m.x11, .slice A4 t8.da.length c4] 34, .blk g1 [v16 a0.sr, v16 a0.ds, v32 a0.sq, v32 a0.ak, v8 a0.fl, v16 a0.wi, v16 a0.ur, vb a0.o.hM, v16 a0.o.ms, vb a0.o.hS, v8 a0.o.sc, vb a0.o.sO, .slice A1 a0.o.sk.length c1, vb a0.o.hT, v32 a0.o.va, v32 a0.o.ec, vb a0.o.hO, v8 a0.o.ki, v8 a0.o.ni, v8 a0.o.m.x0, v8 a0.o.m.x1, v8 a0.o.m.x2, v8 a0.o.m.x3, v8 a0.o.m.x4, v8 a0.o.m.x5, v8 a0.o.m.x6, v8 a0.o.m.x7, v8 a0.o.m.x8, v8 a0.o.m.x9, v8 a0.o.m.x10, v8 a0.o.m.x11, .slice A2 a0.da.length c2] 34]) (by kernel_rfl) ?_
                          refine t_env [1, 2, 3, 8, 10] (E' := [(1, v32 a1), (2, v32 a2), (3, (pg g1)), (8, (pg g2)), (10, vb p1)]) (by kernel_rfl) ?_
                          obtain rfl := Option.some.inj hm
                          exact e_inv (fun a w ha hw => ⟨ha, hw⟩)
                    · exact fun a w ha hw => ⟨((t8.da.length : Int) == 0), 0, ht1, ha, hw⟩
            · replace hm := ite_f hb6 hm
              refine o_run 20 [1, 2, 3, 8, 64, 65] (l := []) .nil (E' := [(1, v32 a1), (2, v32 a2), (3, (pg g1)), (8, (pg g2)), (64, vb false), (65, v32 t9)]) (by kernel_rfl) ?_
              refine o_val 66 (.load 34 (.tmp 3)) (.agg #[v16 a0.sr, v16 a0.ds, v32 a0.sq, v32 a0.ak, v8 a0.fl, v16 a0.wi, v16 a0.ur, vb a0.o.hM, v16 a0.o.ms, vb a0.o.hS, v8 a0.o.sc, vb a0.o.sO, .slice A1 a0.o.sk.length c1, vb a0.o.hT, v32 a0.o.va, v32 a0.o.ec, vb a0.o.hO, v8 a0.o.ki, v8 a0.o.ni, v8 a0.o.m.x0, v8 a0.o.m.x1, v8 a0.o.m.x2, v8 a0.o.m.x3, v8 a0.o.m.x4, v8 a0.o.m.x5, v8 a0.o.m.x6, v8 a0.o.m.x7, v8 a0.o.m.x8, v8 a0.o.m.x9, v8 a0.o.m.x10, v8 a0.o.m.x11, .slice A2 a0.da.length c2]) (by kernel_rfl) (v_load (l := [v16 a0.sr, v16 a0.ds, v32 a0.sq, v32 a0.ak, v8 a0.fl, v16 a0.wi, v16 a0.ur, vb a0.o.hM, v16 a0.o.ms, vb a0.o.hS, v8 a0.o.sc, vb a0.o.sO, .slice A1 a0.o.sk.length c1, vb a0.o.hT, v32 a0.o.va, v32 a0.o.ec, vb a0.o.hO, v8 a0.o.ki, v8 a0.o.ni, v8 a0.o.m.x0, v8 a0.o.m.x1, v8 a0.o.m.x2, v8 a0.o.m.x3, v8 a0.o.m.x4, v8 a0.o.m.x5, v8 a0.o.m.x6, v8 a0.o.m.x7, v8 a0.o.m.x8, v8 a0.o.m.x9, v8 a0.o.m.x10, v8 a0.o.m.x11, .slice A2 a0.da.length c2]) (a := ⟨g1, 0, none⟩) (by kernel_rfl) (by kernel_rfl) (at_blk (j := 1) rfl rfl)) ?_
              obtain ⟨t17, hx23, hm⟩ := bind_some hm
              refine o_stp ?_ (by kernel_rfl)
              refine s_call 67 15 #[.agg #[v16 a0.sr, v16 a0.ds, v32 a0.sq, v32 a0.ak, v8 a0.fl, v16 a0.wi, v16 a0.ur, vb a0.o.hM, v16 a0.o.ms, vb a0.o.hS, v8 a0.o.sc, vb a0.o.sO, .slice A1 a0.o.sk.length c1, vb a0.o.hT, v32 a0.o.va, v32 a0.o.ec, vb a0.o.hO, v8 a0.o.ki, v8 a0.o.ni, v8 a0.o.m.x0, v8 a0.o.m.x1, v8 a0.o.m.x2, v8 a0.o.m.x3, v8 a0.o.m.x4, v8 a0.o.m.x5, v8 a0.o.m.x6, v8 a0.o.m.x7, v8 a0.o.m.x8, v8 a0.o.m.x9, v8 a0.o.m.x10, v8 a0.o.m.x11, .slice A2 a0.da.length c2]] [] [0, 1] (by kernel_rfl) (by kernel_rfl) (fun w hs => seg_Len_3_ok a0 t17 hx23 B _ A1 c1 A2 c2 hs1 hs2 w (St.cast (by kernel_rfl) hs)) (fun _ hx => ?_)
              refine t_L (L' := [.blk g2 [v16 t8.sr, v16 t8.ds, v32 t8.sq, v32 t8.ak, v8 t8.fl, v16 t8.wi, v16 t8.ur, vb t8.o.hM, v16 t8.o.ms, vb t8.o.hS, v8 t8.o.sc, vb t8.o.sO, .slice A3 t8.o.sk.length c3, vb t8.o.hT, v32 t8.o.va, v32 t8.o.ec, vb t8.o.hO, v8 t8.o.ki, v8 t8.o.ni, v8 t8.o.m.x0, v8 t8.o.m.x1, v8 t8.o.m.x2, v8 t8.o.m.x3, v8 t8.o.m.x4, v8 t8.o.m.x5, v8 t8.o.m.x6, v8 t8.o.m.x7, v8 t8.o.m.x8, v8 t8.o.m.x9, v8 t8.o.m.x10, v8 t8.o.m.x11, .slice A4 t8.da.length c4] 34, .blk g1 [v16 a0.sr, v16 a0.ds, v32 a0.sq, v32 a0.ak, v8 a0.fl, v16 a0.wi, v16 a0.ur, vb a0.o.hM, v16 a0.o.ms, vb a0.o.hS, v8 a0.o.sc, vb a0.o.sO, .slice A1 a0.o.sk.length c1, vb a0.o.hT, v32 a0.o.va, v32 a0.o.ec, vb a0.o.hO, v8 a0.o.ki, v8 a0.o.ni, v8 a0.o.m.x0, v8 a0.o.m.x1, v8 a0.o.m.x2, v8 a0.o.m.x3, v8 a0.o.m.x4, v8 a0.o.m.x5, v8 a0.o.m.x6, v8 a0.o.m.x7, v8 a0.o.m.x8, v8 a0.o.m.x9, v8 a0.o.m.x10, v8 a0.o.m.x11, .slice A2 a0.da.length c2] 34]) (by kernel_rfl) ?_
              refine o_run 2 [1, 2, 3, 8, 69] (l := []) .nil (E' := [(1, v32 a1), (2, v32 a2), (3, (pg g1)), (8, (pg g2)), (69, vb (decide (t9 > t17)))]) (by kernel_rfl) ?_
              refine o_end (by kernel_rfl) ?_
              refine e_seq ?_
              refine w_cond (.tmp 69) 506 507 (decide (t9 > t17)) (by kernel_rfl) (by kernel_rfl) (fun hb15 => ?_) (fun hb15 => ?_)
              · replace hm := ite_t hb15 hm
                refine w_seq 1012 1013 (by kernel_rfl) ?_
                refine w_region (by kernel_rfl) ?_
                refine o_run 1 [6] (l := []) .nil (E' := [(6, vb false)]) (by kernel_rfl) ?_
                refine o_end (by kernel_rfl) ?_
                refine e_seq ?_
                refine w_ret (by kernel_rfl) ?_
                obtain rfl := Option.some.inj hm
                exact e_retP B (vb false) [] (by kernel_rfl) (by kernel_rfl) rfl (by kernel_rfl) (by kernel_rfl) (Ext.refl _)
              · replace hm := ite_f hb15 hm
                refine w_skip (by kernel_rfl) ?_
                refine e_seq ?_
                refine w_seq 254 255 (by kernel_rfl) ?_
                refine w_region (by kernel_rfl) ?_
                refine o_run 5 [1, 2, 3, 8, 10] (l := [(⟨g2, 31, none⟩, .slice A4 t8.da.length c4)]) (.one (at_blk (j := 0) rfl rfl) .nil) (E' := [(1, v32 a1), (2, v32 a2), (3, (pg g1)), (8, (pg g2)), (10, vb ((t8.da.length : Int) == 0))]) (by kernel_rfl) ?_
                refine o_end (by kernel_rfl) ?_
                refine e_seq ?_
                refine w_seq 510 511 (by kernel_rfl) ?_
                refine w_seq 1020 1021 (by kernel_rfl) ?_
                refine w_region (by kernel_rfl) ?_
                refine o_run 1 [1, 2, 3, 8, 10, 11] (l := []) .nil (E' := [(1, v32 a1), (2, v32 a2), (3, (pg g1)), (8, (pg g2)), (10, vb ((t8.da.length : Int) == 0)), (11, v64 0)]) (by kernel_rfl) ?_
                refine o_end (by kernel_rfl) ?_
                refine e_seq ?_
                refine w_block 0 2042 (by kernel_rfl) ?_
                obtain ⟨t18, ht2, ho2⟩ := bind_some hm
                refine t_env [1, 2, 3, 8, 10, 11] (E' := [(1, v32 a1), (2, v32 a2), (3, (pg g1)), (8, (pg g2)), (10, vb ((t8.da.length : Int) == 0)), (11, v64 0)]) (by kernel_rfl) ?_
                refine w_loopJ 4084 0 (fun k a w => ∃ (p3 : Bool) (p4 : Int), w_SegTrimmed.l2 k a0 t8 p3 p4 = some t18 ∧ EnvOk [(1, v32 a1), (2, v32 a2), (3, (pg g1)), (8, (pg g2)), (10, vb p3), (11, v64 p4)] Try.f8.ntmps a ∧ St B G [.blk g2 [v16 t8.sr, v16 t8.ds, v32 t8.sq, v32 t8.ak, v8 t8.fl, v16 t8.wi, v16 t8.ur, vb t8.o.hM, v16 t8.o.ms, vb t8.o.hS, v8 t8.o.sc, vb t8.o.sO, .slice A3 t8.o.sk.length c3, vb t8.o.hT, v32 t8.o.va, v32 t8.o.ec, vb t8.o.hO, v8 t8.o.ki, v8 t8.o.ni, v8 t8.o.m.x0, v8 t8.o.m.x1, v8 t8.o.m.x2, v8 t8.o.m.x3, v8 t8.o.m.x4, v8 t8.o.m.x5, v8 t8.o.m.x6, v8 t8.o.m.x7, v8 t8.o.m.x8, v8 t8.o.m.x9, v8 t8.o.m.x10, v8 t8.o.m.x11, .slice A4 t8.da.length c4] 34, .blk g1 [v16 a0.sr, v16 a0.ds, v32 a0.sq, v32 a0.ak, v8 a0.fl, v16 a0.wi, v16 a0.ur, vb a0.o.hM, v16 a0.o.ms, vb a0.o.hS, v8 a0.o.sc, vb a0.o.sO, .slice A1 a0.o.sk.length c1, vb a0.o.hT, v32 a0.o.va, v32 a0.o.ec, vb a0.o.hO, v8 a0.o.ki, v8 a0.o.ni, v8 a0.o.m.x0, v8 a0.o.m.x1, v8 a0.o.m.x2, v8 a0.o.m.x3, v8 a0.o.m.x4, v8 a0.o.m.x5, v8 a0.o.m.x6, v8 a0.o.m.x7, v8 a0.o.m.x8, v8 a0.o.m.x9, v8 a0.o.m.x10, v8 a0.o.m.x11, .slice A2 a0.da.length c2] 34] w) (fun a w => EnvOk [(1, v32 a1), (2, v32 a2), (3, (pg g1)), (8, (pg g2)), (10, vb t18)] Try.f8.ntmps a ∧ St B G [.blk g2 [v16 t8.sr, v16 t8.ds, v32 t8.sq, v32 t8.ak, v8 t8.fl, v16 t8.wi, v16 t8.ur, vb t8.o.hM, v16 t8.o.ms, vb t8.o.hS, v8 t8.o.sc, vb t8.o.sO, .slice A3 t8.o.sk.length c3, vb t8.o.hT, v32 t8.o.va, v32 t8.o.ec, vb t8.o.hO, v8 t8.o.ki, v8 t8.o.ni, v8 t8.o.m.x0, v8 t8.o.m.x1, v8 t8.o.m.x2, v8 t8.o.m.x3, v8 t8.o.m.x4, v8 t8.o.m.x5, v8 t8.o.m.x6, v8 t8.o.m.x7, v8 t8.o.m.x8, v8 t8.o.m.x9, v8 t8.o.m.x10, v8 t8.o.m.x11, .slice A4 t8.da.length c4] 34, .blk g1 [v16 a0.sr, v16 a0.ds, v32 a0.sq, v32 a0.ak, v8 a0.fl, v16 a0.wi, v16 a0.ur, vb a0.o.hM, v16 a0.o.ms, vb a0.o.hS, v8 a0.o.sc, vb a0.o.sO, .slice A1 a0.o.sk.length c1, vb a0.o.hT, v32 a0.o.va, v32 a0.o.ec, vb a0.o.hO, v8 a0.o.ki, v8 a0.o.ni, v8 a0.o.m.x0, v8 a0.o.m.x1, v8 a0.o.m.x2, v8 a0.o.m.x3, v8 a0.o.m.x4, v8 a0.o.m.x5, v8 a0.o.m.x6, v8 a0.o.m.x7, v8 a0.o.m.x8, v8 a0.o.m.x9, v8 a0.o.m.x10, v8 a0.o.m.x11, .slice A2 a0.da.length c2] 34] w) (by kernel_rfl) ?_ ?_ k ?_
                · rintro a w ⟨ha, hw⟩
                  refine we_of (E := [(1, v32 a1), (2, v32 a2), (3, (pg g1)), (8, (pg g2)), (10, vb t18)]) (B := B) (G := G) (L := [.blk g2 [v16 t8.sr, v16 t8.ds, v32 t8.sq, v32 t8.ak, v8 t8.fl, v16 t8.wi, v16 t8.ur, vb t8.o.hM, v16 t8.o.ms, vb t8.o.hS, v8 t8.o.sc, vb t8.o.sO, .slice A3 t8.o.sk.length c3, vb t8.o.hT, v32 t8.o.va, v32 t8.o.ec, vb t8.o.hO, v8 t8.o.ki, v8 t8.o.ni, v8 t8.o.m.x0, v8 t8.o.m.x1, v8 t8.o.m.x2, v8 t8.o.m.x3, v8 t8.o.m.x4, v8 t8.o.m.x5, v8 t8.o.m.x6, v8 t8.o.m.x7, v8 t8.o.m.x8, v8 t8.o.m.x9, v8 t8.o.m.x10, v8 t8.o.m.x11, .slice A4 t8.da.length c4] 34, .blk g1 [v16 a0.sr, v16 a0.ds, v32 a0.sq, v32 a0.ak, v8 a0.fl, v16 a0.wi, v16 a0.ur, vb a0.o.hM, v16 a0.o.ms, vb a0.o.hS, v8 a0.o.sc, vb a0.o.sO, .slice A1 a0.o.sk.length c1, vb a0.o.hT, v32 a0.o.va, v32 a0.o.ec, vb a0.o.hO, v8 a0.o.ki, v8 a0.o.ni, v8 a0.o.m.x0, v8 a0.o.m.x1, v8 a0.o.m.x2, v8 a0.o.m.x3, v8 a0.o.m.x4, v8 a0.o.m.x5, v8 a0.o.m.x6, v8 a0.o.m.x7, v8 a0.o.m.x8, v8 a0.o.m.x9, v8 a0.o.m.x10, v8 a0.o.m.x11, .slice A2 a0.da.length c2] 34]) ?_ ha hw
                  have hm := ho2
                  refine e_seq ?_
                  refine w_seq 1022 1023 (by kernel_rfl) ?_
                  refine w_tail 14 [.blk g2 [v16 t8.sr, v16 t8.ds, v32 t8.sq, v32 t8.ak, v8 t8.fl, v16 t8.wi, v16 t8.ur, vb t8.o.hM, v16 t8.o.ms, vb t8.o.hS, v8 t8.o.sc, vb t8.o.sO, .slice A3 t8.o.sk.length c3, vb t8.o.hT, v32 t8.o.va, v32 t8.o.ec, vb t8.o.hO, v8 t8.o.ki, v8 t8.o.ni, v8 t8.o.m.x0, v8 t8.o.m.x1, v8 t8.o.m.x2, v8 t8.o.m.x3, v8 t8.o.m.x4, v8 t8.o.m.x5, v8 t8.o.m.x6, v8 t8.o.m.x7, v8 t8.o.m.x8, v8 t8.o.m.x9, v8 t8.o.m.x10, v8 t8.o.m.x11, .slice A4 t8.da.length c4] 34, .blk g1 [v16 a0.sr, v16 a0.ds, v32 a0.sq, v32 a0.ak, v8 a0.fl, v16 a0.wi, v16 a0.ur, vb a0.o.hM, v16 a0.o.ms, vb a0.o.hS, v8 a0.o.sc, vb a0.o.sO, .slice A1 a0.o.sk.length c1, vb a0.o.hT, v32 a0.o.va, v32 a0.o.ec, vb a0.o.hO, v8 a0.o.ki, v8 a0.o.ni, v8 a0.o.m.x0, v8 a0.o.m.x1, v8 a0.o.m.x2, v8 a0.o.m.x3, v8 a0.o.m.x4, v8 a0.o.m.x5, v8 a0.o.m.x6, v8 a0.o.m.x7, v8 a0.o.m.x8, v8 a0.o.m.x9, v8 a0.o.m.x10, v8 a0.o.m.x11, .slice A2 a0.da.length c2] 34] (by kernel_rfl) mixed (by kernel_rfl) ?_
                  refine tt_run [0, 1] [1, 2, 3, 8, 104] [0, 1] 12 (listed' := #[true, true, false, false, false, false, false, false, false, false, false, false, false, false, false, false, false, false, false, false, false]) (l := []) .nil (E' := [(1, v32 a1), (2, v32 a2), (3, (pg g1)), (8, (pg g2)), (104, vb t18)]) (by kernel_rfl) (by kernel_rfl) (by kernel_rfl) (Ext.refl _) (by kernel_rfl) (by kernel_rfl) ?_
                  refine t_split 104 t18 (by kernel_rfl) (fun hb16 => ?_) (fun hb16 => ?_)
                  · replace hm := ite_t hb16 hm
                    refine tt_run [3, 4] [3, 8, 104, 106, 107] [0, 1] 10 (listed' := #[true, true, false, true, true, false, false, false, false, false, false, false, false, false, false, false, false, false, false, false, false]) (l := []) .nil (E' := [(3, (pg g1)), (8, (pg g2)), (104, vb true), (106, v32 a1), (107, v32 a2)]) (by kernel_rfl) (by kernel_rfl) (by kernel_rfl) (Ext.refl _) (by kernel_rfl) (by kernel_rfl) ?_
                    refine tt_val 2 105 (.load 34 (.tmp 8)) (.agg #[v16 t8.sr, v16 t8.ds, v32 t8.sq, v32 t8.ak, v8 t8.fl, v16 t8.wi, v16 t8.ur, vb t8.o.hM, v16 t8.o.ms, vb t8.o.hS, v8 t8.o.sc, vb t8.o.sO, .slice A3 t8.o.sk.length c3, vb t8.o.hT, v32 t8.o.va, v32 t8.o.ec, vb t8.o.hO, v8 t8.o.ki, v8 t8.o.ni, v8 t8.o.m.x0, v8 t8.o.m.x1, v8 t8.o.m.x2, v8 t8.o.m.x3, v8 t8.o.m.x4, v8 t8.o.m.x5, v8 t8.o.m.x6, v8 t8.o.m.x7, v8 t8.o.m.x8, v8 t8.o.m.x9, v8 t8.o.m.x10, v8 t8.o.m.x11, .slice A4 t8.da.length c4]) [0, 1] (by kernel_rfl) (v_load (l := [v16 t8.sr, v16 t8.ds, v32 t8.sq, v32 t8.ak, v8 t8.fl, v16 t8.wi, v16 t8.ur, vb t8.o.hM, v16 t8.o.ms, vb t8.o.hS, v8 t8.o.sc, vb t8.o.sO, .slice A3 t8.o.sk.length c3, vb t8.o.hT, v32 t8.o.va, v32 t8.o.ec, vb t8.o.hO, v8 t8.o.ki, v8 t8.o.ni, v8 t8.o.m.x0, v8 t8.o.m.x1, v8 t8.o.m.x2, v8 t8.o.m.x3, v8 t8.o.m.x4, v8 t8.o.m.x5, v8 t8.o.m.x6, v8 t8.o.m.x7, v8 t8.o.m.x8, v8 t8.o.m.x9, v8 t8.o.m.x10, v8 t8.o.m.x11, .slice A4 t8.da.length c4]) (a := ⟨g2, 0, none⟩) (by kernel_rfl) (by kernel_rfl) (at_blk (j := 0) rfl rfl)) (by kernel_rfl) (Ext.refl _) (by kernel_rfl) (by kernel_rfl) ?_
                    refine tt_val 6 109 (.load 34 (.tmp 8)) (.agg #[v16 t8.sr, v16 t8.ds, v32 t8.sq, v32 t8.ak, v8 t8.fl, v16 t8.wi, v16 t8.ur, vb t8.o.hM, v16 t8.o.ms, vb t8.o.hS, v8 t8.o.sc, vb t8.o.sO, .slice A3 t8.o.sk.length c3, vb t8.o.hT, v32 t8.o.va, v32 t8.o.ec, vb t8.o.hO, v8 t8.o.ki, v8 t8.o.ni, v8 t8.o.m.x0, v8 t8.o.m.x1, v8 t8.o.m.x2, v8 t8.o.m.x3, v8 t8.o.m.x4, v8 t8.o.m.x5, v8 t8.o.m.x6, v8 t8.o.m.x7, v8 t8.o.m.x8, v8 t8.o.m.x9, v8 t8.o.m.x10, v8 t8.o.m.x11, .slice A4 t8.da.length c4]) [0, 1] (by kernel_rfl) (v_load (l := [v16 t8.sr, v16 t8.ds, v32 t8.sq, v32 t8.ak, v8 t8.fl, v16 t8.wi, v16 t8.ur, vb t8.o.hM, v16 t8.o.ms, vb t8.o.hS, v8 t8.o.sc, vb t8.o.sO, .slice A3 t8.o.sk.length c3, vb t8.o.hT, v32 t8.o.va, v32 t8.o.ec, vb t8.o.hO, v8 t8.o.ki, v8 t8.o.ni, v8 t8.o.m.x0, v8 t8.o.m.x1, v8 t8.o.m.x2, v8 t8.o.m.x3, v8 t8.o.m.x4, v8 t8.o.m.x5, v8 t8.o.m.x6, v8 t8.o.m.x7, v8 t8.o.m.x8, v8 t8.o.m.x9, v8 t8.o.m.x10, v8 t8.o.m.x11, .slice A4 t8.da.length c4]) (a := ⟨g2, 0, none⟩) (by kernel_rfl) (by kernel_rfl) (at_blk (j := 0) rfl rfl)) (by kernel_rfl) (Ext.refl _) (by kernel_rfl) (by kernel_rfl) ?_
                    obtain ⟨t19, hx24, hm⟩ := bind_some hm
                    refine tt_stp 5 [0, 1] (Ext.refl _) (by kernel_rfl) (by kernel_rfl) (by kernel_rfl) (by kernel_rfl) ?_
                    refine s_call 108 25 #[.agg #[v16 t8.sr, v16 t8.ds, v32 t8.sq, v32 t8.ak, v8 t8.fl, v16 t8.wi, v16 t8.ur, vb t8.o.hM, v16 t8.o.ms, vb t8.o.hS, v8 t8.o.sc, vb t8.o.sO, .slice A3 t8.o.sk.length c3, vb t8.o.hT, v32 t8.o.va, v32 t8.o.ec, vb t8.o.hO, v8 t8.o.ki, v8 t8.o.ni, v8 t8.o.m.x0, v8 t8.o.m.x1, v8 t8.o.m.x2, v8 t8.o.m.x3, v8 t8.o.m.x4, v8 t8.o.m.x5, v8 t8.o.m.x6, v8 t8.o.m.x7, v8 t8.o.m.x8, v8 t8.o.m.x9, v8 t8.o.m.x10, v8 t8.o.m.x11, .slice A4 t8.da.length c4], v32 a1, v32 a2] [] [0, 1] (by kernel_rfl) (by kernel_rfl) (fun w hs => seg_Trim_ok t8 a1 a2 t19 hx24 B _ A3 c3 A4 c4 hs3 hs4 w (St.cast (by kernel_rfl) hs)) (fun x hx => ?_)
                    obtain ⟨A7, c7, A8, c8⟩ := x
                    obtain ⟨hs8, hs9⟩ := hx
                    refine t_L (L' := [.blk g2 [v16 t8.sr, v16 t8.ds, v32 t8.sq, v32 t8.ak, v8 t8.fl, v16 t8.wi, v16 t8.ur, vb t8.o.hM, v16 t8.o.ms, vb t8.o.hS, v8 t8.o.sc, vb t8.o.sO, .slice A3 t8.o.sk.length c3, vb t8.o.hT, v32 t8.o.va, v32 t8.o.ec, vb t8.o.hO, v8 t8.o.ki, v8 t8.o.ni, v8 t8.o.m.x0, v8 t8.o.m.x1, v8 t8.o.m.x2, v8 t8.o.m.x3, v8 t8.o.m.x4, v8 t8.o.m.x5, v8 t8.o.m.x6, v8 t8.o.m.x7, v8 t8.o.m.x8, v8 t8.o.m.x9, v8 t8.o.m.x10, v8 t8.o.m.x11, .slice A4 t8.da.length c4] 34, .blk g1 [v16 a0.sr, v16 a0.ds, v32 a0.sq, v32 a0.ak, v8 a0.fl, v16 a0.wi, v16 a0.ur, vb a0.o.hM, v16 a0.o.ms, vb a0.o.hS, v8 a0.o.sc, vb a0.o.sO, .slice A1 a0.o.sk.length c1, vb a0.o.hT, v32 a0.o.va, v32 a0.o.ec, vb a0.o.hO, v8 a0.o.ki, v8 a0.o.ni, v8 a0.o.m.x0, v8 a0.o.m.x1, v8 a0.o.m.x2, v8 a0.o.m.x3, v8 a0.o.m.x4, v8 a0.o.m.x5, v8 a0.o.m.x6, v8 a0.o.m.x7, v8 a0.o.m.x8, v8 a0.o.m.x9, v8 a0.o.m.x10, v8 a0.o.m.x11, .slice A2 a0.da.length c2] 34]) (by kernel_rfl) ?_
                    obtain ⟨t20, hx25, hm⟩ := bind_some hm
                    refine tt_call 7 110 17 #[.agg #[v16 t19.sr, v16 t19.ds, v32 t19.sq, v32 t19.ak, v8 t19.fl, v16 t19.wi, v16 t19.ur, vb t19.o.hM, v16 t19.o.ms, vb t19.o.hS, v8 t19.o.sc, vb t19.o.sO, .slice A7 t19.o.sk.length c7, vb t19.o.hT, v32 t19.o.va, v32 t19.o.ec, vb t19.o.hO, v8 t19.o.ki, v8 t19.o.ni, v8 t19.o.m.x0, v8 t19.o.m.x1, v8 t19.o.m.x2, v8 t19.o.m.x3, v8 t19.o.m.x4, v8 t19.o.m.x5, v8 t19.o.m.x6, v8 t19.o.m.x7, v8 t19.o.m.x8, v8 t19.o.m.x9, v8 t19.o.m.x10, v8 t19.o.m.x11, .slice A8 t19.da.length c8], .agg #[v16 t8.sr, v16 t8.ds, v32 t8.sq, v32 t8.ak, v8 t8.fl, v16 t8.wi, v16 t8.ur, vb t8.o.hM, v16 t8.o.ms, vb t8.o.hS, v8 t8.o.sc, vb t8.o.sO, .slice A3 t8.o.sk.length c3, vb t8.o.hT, v32 t8.o.va, v32 t8.o.ec, vb t8.o.hO, v8 t8.o.ki, v8 t8.o.ni, v8 t8.o.m.x0, v8 t8.o.m.x1, v8 t8.o.m.x2, v8 t8.o.m.x3, v8 t8.o.m.x4, v8 t8.o.m.x5, v8 t8.o.m.x6, v8 t8.o.m.x7, v8 t8.o.m.x8, v8 t8.o.m.x9, v8 t8.o.m.x10, v8 t8.o.m.x11, .slice A4 t8.da.length c4]] (vb t20) [] [0, 1] (by kernel_rfl) (by kernel_rfl) (by kernel_rfl) (fun B' hx' G' w hs => post_same (seg_Same_2_ok k t19 t8 t20 hx25 _ _ A7 c7 A8 c8 A3 c3 A4 c4 (hs8.up hx') (hs9.up hx') (hs3.up hx') (hs4.up hx') w (St.cast (by kernel_rfl) hs))) (by kernel_rfl) (Ext.refl _) (by kernel_rfl) (by kernel_rfl) ?_
                    refine tt_run [8, 9] [3, 8, 112] [0, 1] 4 (listed' := #[true, true, true, true, true, true, true, true, true, true, false, false, false, false, false, false, false, false, false, false, false]) (l := []) .nil (E' := [(3, (pg g1)), (8, (pg g2)), (112, vb t20)]) (by kernel_rfl) (by kernel_rfl) (by kernel_rfl) (Ext.refl _) (by kernel_rfl) (by kernel_rfl) ?_
                    refine t_split 112 t20 (by kernel_rfl) (fun hb17 => ?_) (fun hb17 => ?_)
                    · replace hm := ite_t hb17 hm
                      refine tt_run [10, 11, 12, 13] [112, 114, 116] [0, 1] 0 (listed' := #[true, true, true, true, true, true, true, true, true, true, true, true, true, true, false, false, false, false, false, false, false]) (l := [(⟨g2, 4, none⟩, v8 t8.fl), (⟨g1, 4, none⟩, v8 a0.fl)]) (.one (at_blk (j := 0) rfl rfl) (.one (at_blk (j := 1) rfl rfl) .nil)) (E' := [(112, vb true), (114, v8 t8.fl), (116, v8 a0.fl)]) (by kernel_rfl) (by kernel_rfl) (by kernel_rfl) (Ext.refl _) (by kernel_rfl) (by kernel_rfl) ?_
                      refine tt_end [0, 1] (Ext.refl _) (by kernel_rfl) (by kernel_rfl) (by kernel_rfl) ?_
                      refine o_run 4 [120] (l := []) .nil (E' := [(120, vb ((bandn .u8 t8.fl a0.fl) == 0))]) (by kernel_rfl) ?_
                      refine o_split 120 ((bandn .u8 t8.fl a0.fl) == 0) (by kernel_rfl) (fun hb18 => ?_) (fun hb18 => ?_)
                      · replace hm := ite_t hb18 hm
                        obtain ⟨t21, hx26, hm⟩ := bind_some hm
                        refine o_stp ?_ (by kernel_rfl)
                        refine s_call 121 10 #[] [] [0, 1] (by kernel_rfl) (by kernel_rfl) (fun w hs => w_alive_ok k t21 hx26 B _ w (St.cast (by kernel_rfl) hs)) (fun B7 hx => ?_)
                        have hx27 := hx
                        refine t_L (L' := [.blk g2 [v16 t8.sr, v16 t8.ds, v32 t8.sq, v32 t8.ak, v8 t8.fl, v16 t8.wi, v16 t8.ur, vb t8.o.hM, v16 t8.o.ms, vb t8.o.hS, v8 t8.o.sc, vb t8.o.sO, .slice A3 t8.o.sk.length c3, vb t8.o.hT, v32 t8.o.va, v32 t8.o.ec, vb t8.o.hO, v8 t8.o.ki, v8 t8.o.ni, v8 t8.o.m.x0, v8 t8.o.m.x1, v8 t8.o.m.x2, v8 t8.o.m.x3, v8 t8.o.m.x4, v8 t8.o.m.x5, v8 t8.o.m.x6, v8 t8.o.m.x7, v8 t8.o.m.x8, v8 t8.o.m.x9, v8 t8.o.m.x10, v8 t8.o.m.x11, .slice A4 t8.da.length c4] 34, .blk g1 [v16 a0.sr, v16 a0.ds, v32 a0.sq, v32 a0.ak, v8 a0.fl, v16 a0.wi, v16 a0.ur, vb a0.o.hM, v16 a0.o.ms, vb a0.o.hS, v8 a0.o.sc, vb a0.o.sO, .slice A1 a0.o.sk.length c1, vb a0.o.hT, v32 a0.o.va, v32 a0.o.ec, vb a0.o.hO, v8 a0.o.ki, v8 a0.o.ni, v8 a0.o.m.x0, v8 a0.o.m.x1, v8 a0.o.m.x2, v8 a0.o.m.x3, v8 a0.o.m.x4, v8 a0.o.m.x5, v8 a0.o.m.x6, v8 a0.o.m.x7, v8 a0.o.m.x8, v8 a0.o.m.x9, v8 a0.o.m.x10, v8 a0.o.m.x11, .slice A2 a0.da.length c2] 34]) (by kernel_rfl) ?_
                        refine o_run 2 [6] (l := []) .nil (E' := [(6, vb t21)]) (by kernel_rfl) ?_
                        refine o_end (by kernel_rfl) ?_
                        refine e_seq ?_
                        refine w_ret (by kernel_rfl) ?_
                        obtain rfl := Option.some.inj hm
                        exact e_retP B7 (vb t21) [] (by kernel_rfl) (by kernel_rfl) rfl (by kernel_rfl) (by kernel_rfl) hx27
                      · replace hm := ite_f hb18 hm
                        refine o_run 3 [6] (l := []) .nil (E' := [(6, vb false)]) (by kernel_rfl) ?_
                        refine o_end (by kernel_rfl) ?_
                        refine e_seq ?_
                        refine w_ret (by kernel_rfl) ?_
                        obtain rfl := Option.some.inj hm
                        exact e_retP B (vb false) [] (by kernel_rfl) (by kernel_rfl) rfl (by kernel_rfl) (by kernel_rfl) (Ext.refl _)
                    · replace hm := ite_f hb17 hm
                      refine tt_run [10, 11, 12, 13] [112, 114, 116] [0, 1] 0 (listed' := #[true, true, true, true, true, true, true, true, true, true, true, true, true, true, false, false, false, false, false, false, false]) (l := []) .nil (E' := [(112, vb false), (114, undef), (116, undef)]) (by kernel_rfl) (by kernel_rfl) (by kernel_rfl) (Ext.refl _) (by kernel_rfl) (by kernel_rfl) ?_
                      refine tt_end [0, 1] (Ext.refl _) (by kernel_rfl) (by kernel_rfl) (by kernel_rfl) ?_
                      refine o_run 7 [6] (l := []) .nil (E' := [(6, vb false)]) (by kernel_rfl) ?_
                      refine o_end (by kernel_rfl) ?_
                      refine e_seq ?_
                      refine w_ret (by kernel_rfl) ?_
                      obtain rfl := Option.some.inj hm
                      exact e_retP B (vb false) [] (by kernel_rfl) (by kernel_rfl) rfl (by kernel_rfl) (by kernel_rfl) (Ext.refl _)
                  · replace hm := ite_f hb16 hm
                    refine tt_run [2, 3, 4, 5, 6, 7, 8, 9, 10, 11, 12, 13] [112, 114, 116] [0, 1] 0 (listed' := #[true, true, true, true, true, true, true, true, true, true, true, true, true, true, false, false, false, false, false, false, false]) (l := []) .nil (E' := [(112, vb false), (114, undef), (116, undef)]) (by kernel_rfl) (by kernel_rfl) (by kernel_rfl) (Ext.refl _) (by kernel_rfl) (by kernel_rfl) ?_
                    refine tt_end [0, 1] (Ext.refl _) (by kernel_rfl) (by kernel_rfl) (by kernel_rfl) ?_
                    refine o_run 7 [6] (l := []) .nil (E' := [(6, vb false)]) (by kernel_rfl) ?_
                    refine o_end (by kernel_rfl) ?_
                    refine e_seq ?_
                    refine w_ret (by kernel_rfl) ?_
                    obtain rfl := Option.some.inj hm
                    exact e_retP B (vb false) [] (by kernel_rfl) (by kernel_rfl) rfl (by kernel_rfl) (by kernel_rfl) (Ext.refl _)
                · rintro k a w ⟨p3, p4, hm, ha, hw⟩
                  cases k with
                  | zero => exact absurd hm (by simp [w_SegTrimmed.l2])
                  | succ k =>
                    unfold w_SegTrimmed.l2 at hm
                    refine wc_of (E := [(1, v32 a1), (2, v32 a2), (3, (pg g1)), (8, (pg g2)), (10, vb p3), (11, v64 p4)]) (B := B) (G := G) (L := [.blk g2 [v16 t8.sr, v16 t8.ds, v32 t8.sq, v32 t8.ak, v8 t8.fl, v16 t8.wi, v16 t8.ur, vb t8.o.hM, v16 t8.o.ms, vb t8.o.hS, v8 t8.o.sc, vb t8.o.sO, .slice A3 t8.o.sk.length c3, vb t8.o.hT, v32 t8.o.va, v32 t8.o.ec, vb t8.o.hO, v8 t8.o.ki, v8 t8.o.ni, v8 t8.o.m.x0, v8 t8.o.m.x1, v8 t8.o.m.x2, v8 t8.o.m.x3, v8 t8.o.m.x4, v8 t8.o.m.x5, v8 t8.o.m.x6, v8 t8.o.m.x7, v8 t8.o.m.x8, v8 t8.o.m.x9, v8 t8.o.m.x10, v8 t8.o.m.x11, .slice A4 t8.da.length c4] 34, .blk g1 [v16 a0.sr, v16 a0.ds, v32 a0.sq, v32 a0.ak, v8 a0.fl, v16 a0.wi, v16 a0.ur, vb a0.o.hM, v16 a0.o.ms, vb a0.o.hS, v8 a0.o.sc, vb a0.o.sO, .slice A1 a0.o.sk.length c1, vb a0.o.hT, v32 a0.o.va, v32 a0.o.ec, vb a0.o.hO, v8 a0.o.ki, v8 a0.o.ni, v8 a0.o.m.x0, v8 a0.o.m.x1, v8 a0.o.m.x2, v8 a0.o.m.x3, v8 a0.o.m.x4, v8 a0.o.m.x5, v8 a0.o.m.x6, v8 a0.o.m.x7, v8 a0.o.m.x8, v8 a0.o.m.x9, v8 a0.o.m.x10, v8 a0.o.m.x11, .slice A2 a0.da.length c2] 34]) ?_ ha hw
                    refine w_seq 8168 8169 (by kernel_rfl) ?_
                    refine w_seq 16336 16337 (by kernel_rfl) ?_
                    refine w_region (by kernel_rfl) ?_
                    refine o_run 10 [1, 2, 3, 8, 10, 11, 83] (l := [(⟨g2, 31, none⟩, .slice A4 t8.da.length c4), (⟨g1, 31, none⟩, .slice A2 a0.da.length c2)]) (.one (at_blk (j := 0) rfl rfl) (.one (at_blk (j := 1) rfl rfl) .nil)) (E' := [(1, v32 a1), (2, v32 a2), (3, (pg g1)), (8, (pg g2)), (10, vb p3), (11, v64 p4), (83, vb (decide ((I64 (p4 + (t8.da.length : Int))) ≤ (a0.da.length : Int))))]) (by kernel_rfl) ?_
                    refine o_split 83 (decide ((I64 (p4 + (t8.da.length : Int))) ≤ (a0.da.length : Int))) (by kernel_rfl) (fun hb19 => ?_) (fun hb19 => ?_)
                    · replace hm := ite_t hb19 hm
                      refine o_run 3 [1, 2, 3, 8, 10, 11, 86] (l := []) .nil (E' := [(1, v32 a1), (2, v32 a2), (3, (pg g1)), (8, (pg g2)), (10, vb p3), (11, v64 p4), (86, vb (!p3))]) (by kernel_rfl) ?_
                      refine o_end (by kernel_rfl) ?_
                      refine e_seq ?_
                      refine w_cond (.tmp 86) 32674 32675 (!p3) (by kernel_rfl) (by kernel_rfl) (fun hb20 => ?_) (fun hb20 => ?_)
                      · replace hm := ite_t hb20 hm
                        refine w_skip (by kernel_rfl) ?_
                        refine e_seq ?_
                        refine w_seq 16338 16339 (by kernel_rfl) ?_
                        refine w_block 1 32676 (by kernel_rfl) ?_
                        refine w_quiet (by kernel_rfl) mixed (by kernel_rfl) ?_
                        refine q_run 8 [1, 2, 3, 8, 11, 90, 91, 96] (l := [(⟨g1, 31, none⟩, .slice A2 a0.da.length c2), (⟨g2, 31, none⟩, .slice A4 t8.da.length c4)]) (.one (at_blk (j := 1) rfl rfl) (.one (at_blk (j := 0) rfl rfl) .nil)) (E' := [(1, v32 a1), (2, v32 a2), (3, (pg g1)), (8, (pg g2)), (11, v64 p4), (90, .slice A2 a0.da.length c2), (91, v64 p4), (96, v64 (I64 (p4 + (t8.da.length : Int))))]) (by kernel_rfl) ?_
                        obtain ⟨l2, hx28, hm⟩ := bind_some hm
                        refine q_val 97 (.slice 32 (.tmp 90) (some (.tmp 91)) (some (.tmp 96)) none) (.slice (cutA A2 (Int.toNat p4) c2 1) l2.length (c2 - Int.toNat p4)) (by kernel_rfl) (i_slice 32 (.tmp 90) (some (.tmp 91)) (some (.tmp 96)) hs2 hx28 (by kernel_rfl) (by kernel_rfl) (by kernel_rfl) (by kernel_rfl)) ?_
                        have hs10 := sl_cut hs2 hx28
                        refine q_val 98 (.convert 32 9 (.tmp 97)) (.string (strOf l2)) (by kernel_rfl) (v_strI hs10 (by kernel_rfl) (by kernel_rfl)) ?_
                        refine q_run 2 [1, 2, 3, 8, 11, 98, 100] (l := [(⟨g2, 31, none⟩, .slice A4 t8.da.length c4)]) (.one (at_blk (j := 0) rfl rfl) .nil) (E' := [(1, v32 a1), (2, v32 a2), (3, (pg g1)), (8, (pg g2)), (11, v64 p4), (98, .string (strOf l2)), (100, .slice A4 t8.da.length c4)]) (by kernel_rfl) ?_
                        refine q_val 101 (.convert 32 9 (.tmp 100)) (.string (strOf t8.da)) (by kernel_rfl) (v_strI hs4 (by kernel_rfl) (by kernel_rfl)) ?_
                        refine q_run 2 [1, 2, 3, 8, 10, 11] (l := []) .nil (E' := [(1, v32 a1), (2, v32 a2), (3, (pg g1)), (8, (pg g2)), (10, vb ((strOf l2).toList == (strOf t8.da).toList)), (11, v64 p4)]) (by kernel_rfl) ?_
                        refine q_end (by kernel_rfl) ?_
                        refine e_blk ?_
                        refine e_seq ?_
                        refine w_region (by kernel_rfl) ?_
                        refine o_run 3 [1, 2, 3, 8, 10, 11] (l := []) .nil (E' := [(1, v32 a1), (2, v32 a2), (3, (pg g1)), (8, (pg g2)), (10, vb ((strOf l2).toList == (strOf t8.da).toList)), (11, v64 (I64 (p4 + 1)))]) (by kernel_rfl) ?_
                        refine o_end (by kernel_rfl) ?_
                        refine t_drop [0, 1] (by kernel_rfl) ?_
                        refine t_L (L' := [.blk g2 [v16 t8.sr, v16 t8.ds, v32 t8.sq, v32 t8.ak, v8 t8.fl, v16 t8.wi, v16 t8.ur, vb t8.o.hM, v16 t8.o.ms, vb t8.o.hS, v8 t8.o.sc, vb t8.o.sO, .slice A3 t8.o.sk.length c3, vb t8.o.hT, v32 t8.o.va, v32 t8.o.ec, vb t8.o.hO, v8 t8.o.ki, v8 t8.o.ni, v8 t8.o.m.x0, v8 t8.o.m.x1, v8 t8.o.m.x2, v8 t8.o.m.x3, v8 t8.o.m.x4, v8 t8.o.m.x5, v8 t8.o.m.x6, v8 t8.o.m.x7, v8 t8.o.m.x8, v8 t8.o.m.x9, v8 t8.o.m.x10, v8 t8.o.m.x11, .slice A4 t8.da.length c4] 34, .blk g1 [v16 a0.sr, v16 a0.ds, v32 a0.sq, v32 a0.ak, v8 a0.fl, v16 a0.wi, v16 a0.ur, vb a0.o.hM, v16 a0.o.ms, vb a0.o.hS, v8 a0.o.sc, vb a0.o.sO, .slice A1 a0.o.sk.length c1, vb a0.o.hT, v32 a0.o.va, v32 a0.o.ec, vb a0.o.hO, v8 a0.o.ki, v8 a0.o.ni, v8 a0.o.m.x0, v8 a0.o.m.x1, v8 a0.o.m.x2, v8 a0.o.m.x3, v8 a0.o.m.x4, v8 a0.o.m.x5, v8 a0.o.m.x6, v8 a0.o.m.x7, v8 a0.o.m.x8, v8 a0.o.m.x9, v8 a0.o.m.x10, v8 a0.o.m.x11, .slice A2 a0.da.length c2] 34]) (by kernel_rfl) ?_
                        refine t_env [1, 2, 3, 8, 10, 11] (E' := [(1, v32 a1), (2, v32 a2), (3, (pg g1)), (8, (pg g2)), (10, vb ((strOf l2).toList == (strOf t8.da).toList)), (11, v64 (I64 (p4 + 1)))]) (by kernel_rfl) ?_
                        exact e_inv (fun a w ha hw => ⟨k, Nat.lt_succ_self k, ((strOf l2).toList == (strOf t8.da).toList), (I64 (p4 + 1)), hm, ha, hw⟩)
                      · replace hm := ite_f hb20 hm
                        refine w_exit 0 (by kernel_rfl) ?_
                        refine e_x_seq ?_
                        refine e_x_inv ?_
                        refine e_x_here ?_
                        refine t_drop [0, 1] (by kernel_rfl) ?_
                        refine t_L (L' := [.blk g2 [v16 t8.sr, v16 t8.ds, v32 t8.sq, v32 t8.ak, v8 t8.fl, v16 t8.wi, v16 t8.ur, vb t8.o.hM, v16 t8.o.ms, vb t8.o.hS, v8 t8.o.sc, vb t8.o.sO, .slice A3 t8.o.sk.length c3, vb t8.o.hT, v32 t8.o.va, v32 t8.o.ec, vb t8.o.hO, v8 t8.o.ki, v8 t8.o.ni, v8 t8.o.m.x0, v8 t8.o.m.x1, v8 t8.o.m.x2, v8 t8.o.m.x3, v8 t8.o.m.x4, v8 t8.o.m.x5, v8 t8.o.m.x6, v8 t8.o.m.x7, v8 t8.o.m.x8, v8 t8.o.m.x9, v8 t8.o.m.x10, v8 t8.o.m.x11, .slice A4 t8.da.length c4] 34, .blk g1 [v16 a0.sr, v16 a0.ds, v32 a0.sq, v32 a0.ak, v8 a0.fl, v16 a0.wi, v16 a0.ur, vb a0.o.hM, v16 a0.o.ms, vb a0.o.hS, v8 a0.o.sc, vb a0.o.sO, .slice A1 a0.o.sk.length c1, vb a0.o.hT, v32 a0.o.va, v32 a0.o.ec, vb a0.o.hO, v8 a0.o.ki, v8 a0.o.ni, v8 a0.o.m.x0, v8 a0.o.m.x1, v8 a0.o.m.x2, v8 a0.o.m.x3, v8 a0.o.m.x4, v8 a0.o.m.x5, v8 a0.o.m.x6, v8 a0.o.m.x7, v8 a0.o.m.x8, v8 a0.o.m.x9, v8 a0.o.m.x10, v8 a0.o.m.x11, .slice A2 a0.da.length c2] 34]) (by kernel_rfl) ?_
                        refine t_env [1, 2, 3, 8, 10] (E' := [(1, v32 a1), (2, v32 a2), (3, (pg g1)), (8, (pg g2)), (10, vb p3)]) (by kernel_rfl) ?_
                        obtain rfl := Option.some.inj hm
                        exact e_inv (fun a w ha hw => ⟨ha, hw⟩)
                    · replace hm := ite_f hb19 hm
                      refine o_run 3 [1, 2, 3, 8, 10, 11, 86] (l := []) .nil (E' := [(1, v32 a1), (2, v32 a2), (3, (pg g1)), (8, (pg g2)), (10, vb p3), (11, v64 p4), (86, vb false)]) (by kernel_rfl) ?_
                      refine o_end (by kernel_rfl) ?_
                      refine e_seq ?_
                      refine w_cond_f (.tmp 86) 32674 32675 (by kernel_rfl) (by kernel_rfl) ?_
                      refine w_exit 0 (by kernel_rfl) ?_
                      refine e_x_seq ?_
                      refine e_x_inv ?_
                      refine e_x_here ?_
                      refine t_drop [0, 1] (by kernel_rfl) ?_
                      refine t_L (L' := [.blk g2 [v16 t8.sr, v16 t8.ds, v32 t8.sq, v32 t8.ak, v8 t8.fl, v16 t8.wi, v16 t8.ur, vb t8.o.hM, v16 t8.o.ms, vb t8.o.hS, v8 t8.o.sc, vb t8.o.sO, .slice A3 t8.o.sk.length c3, vb t8.o.hT, v32 t8.o.va, v32 t8.o.ec, vb t8.o.hO, v8 t8.o.ki, v8 t8.o.ni, v8 t8.o.m.x0, v8 t8.o.m.x1, v8 t8.o.m.x2, v8 t8.o.m.x3, v8 t8.o.m.x4, v8 t8.o.m.x5, v8 t8.o.m.x6, v8 t8.o.m.x7, v8 t8.o.m.x8, v8 t8.o.m.x9, v8 t8.o.m.x10, v8 t8.o.m.x11, .slice A4 t8.da.length c4] 34, .blk g1 [v16 a0.sr, v16 a0.ds, v32 a0.sq, v32 a0.ak, v8 a0.fl, v16 a0.wi, v16 a0.ur, vb a0.o.hM, v16 a0.o.ms, vb a0.o.hS, v8 a0.o.sc, vb a0.o.sO, .slice A1 a0.o.sk.length c1, vb a0.o.hT, v32 a0.o.va, v32 a0.o.ec, vb a0.o.hO, v8 a0.o.ki, v8 a0.o.ni, v8 a0.o.m.x0, v8 a0.o.m.x1, v8 a0.o.m.x2, v8 a0.o.m.x3, v8 a0.o.m.x4, v8 a0.o.m.x5, v8 a0.o.m.x6, v8 a0.o.m.x7, v8 a0.o.m.x8, v8 a0.o.m.x9, v8 a0.o.m.x10, v8 a0.o.m.x11, .slice A2 a0.da.length c2] 34]) (by kernel_rfl) ?_
                      refine t_env [1, 2, 3, 8, 10] (E' := [(1, v32 a1), (2, v32 a2), (3, (pg g1)), (8, (pg g2)), (10, vb p3)]) (by kernel_rfl) ?_
                      obtain rfl := Option.some.inj hm
                      exact e_inv (fun a w ha hw => ⟨ha, hw⟩)
                · exact fun a w ha hw => ⟨((t8.da.length : Int) == 0), 0, ht2, ha, hw⟩
end Go.V
