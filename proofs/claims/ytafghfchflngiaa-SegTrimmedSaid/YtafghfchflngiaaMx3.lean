/- Printed by a program of this work: Go functions as Lean functions, and that the machine comes to the same. -/
import Derived.Test.YtafghfchflngiaaMx2
set_option maxRecDepth 100000
set_option linter.unusedVariables false
namespace Go.V
open Go Go.Proofs
def opts_one_2.f (k : Nat) (a0 : TO) (a1 : List Bool) (a2 : TR) : Option (Bool × Int × TO × (List Bool) × TR) :=
  ((oR_Num_2.f k a2 1).bind fun t1 => (if (U8 t1.1) == 0 then (some ((U8 t1.1) == 1, 0, a0, a1, t1.2)) else (if (U8 t1.1) == 1 then (some ((U8 t1.1) == 1, 0, a0, a1, t1.2)) else ((oR_Num_2.f k t1.2 1).bind fun t2 => ((opts_isRight.f (U8 t1.1) (I64 t2.1)).bind fun t3 => (if !t3 then (some (false, 3, a0, a1, t2.2)) else ((oR_Sub.f t2.2 (I64 ((I64 t2.1) - 2))).bind fun t4 => ((opts_sizes.f (U8 t1.1)).bind fun t5 => (if decide (t5 ≥ 0) then ((idx a1 (U8 t1.1)).bind fun e1 => (if e1 then (some (false, 7, a0, a1, t4.2)) else ((idx a1 (U8 t1.1)).bind fun e2 => ((opts_take_2.f k a0 (U8 t1.1) t4.1).bind fun t6 => (some (true, 0, t6.1, (a1.set (Int.toNat (U8 t1.1)) true), t4.2)))))) else ((idx a1 (U8 t1.1)).bind fun e3 => ((opts_take_2.f k a0 (U8 t1.1) t4.1).bind fun t7 => (some (true, 0, t7.1, (a1.set (Int.toNat (U8 t1.1)) true), t4.2)))))))))))))
theorem opts_one_2_ok (k : Nat) (a0 : TO) (a1 : List Bool) (a2 : TR) (r : Bool × Int × TO × (List Bool) × TR) (hm : opts_one_2.f k a0 a1 a2 = some r) (B G : Asn) (g1 : Nat) (A1 : Option Addr) (c1 : Nat) (g2 : Nat) (g3 : Nat) (A2 : Option Addr) (c2 : Nat) (hl1 : 256 = a1.length) (hs1 : Sl (kI .u8) B A2 c2 a2.xb) (w : World) (hs : St B G [.blk g1 [vb a0.hM, v16 a0.ms, vb a0.hS, v8 a0.sc, vb a0.sO, .slice A1 a0.sk.length c1, vb a0.hT, v32 a0.va, v32 a0.ec, vb a0.hO, v8 a0.ki, v8 a0.ni, v8 a0.m.x0, v8 a0.m.x1, v8 a0.m.x2, v8 a0.m.x3, v8 a0.m.x4, v8 a0.m.x5, v8 a0.m.x6, v8 a0.m.x7, v8 a0.m.x8, v8 a0.m.x9, v8 a0.m.x10, v8 a0.m.x11] 31, .own A1 a0.sk.length c1 (rowOf encTB a0.sk) 2 84, .own (ag g2) 256 256 (rowOf encB a1) 1 93, .blk g3 [.slice A2 a2.xb.length c2] 110] w) :
    Calls Try.prog 66 #[pg g1, pg g2, pg g3] w (Post (X := Asn × (Option Addr) × Nat × (Option Addr) × Nat) (fun x => .tuple #[vb r.1, v64 r.2.1]) (fun x => x.1) G (fun x => [.blk g1 [vb r.2.2.1.hM, v16 r.2.2.1.ms, vb r.2.2.1.hS, v8 r.2.2.1.sc, vb r.2.2.1.sO, .slice x.2.1 r.2.2.1.sk.length x.2.2.1, vb r.2.2.1.hT, v32 r.2.2.1.va, v32 r.2.2.1.ec, vb r.2.2.1.hO, v8 r.2.2.1.ki, v8 r.2.2.1.ni, v8 r.2.2.1.m.x0, v8 r.2.2.1.m.x1, v8 r.2.2.1.m.x2, v8 r.2.2.1.m.x3, v8 r.2.2.1.m.x4, v8 r.2.2.1.m.x5, v8 r.2.2.1.m.x6, v8 r.2.2.1.m.x7, v8 r.2.2.1.m.x8, v8 r.2.2.1.m.x9, v8 r.2.2.1.m.x10, v8 r.2.2.1.m.x11] 31, .own x.2.1 r.2.2.1.sk.length x.2.2.1 (rowOf encTB r.2.2.1.sk) 2 84, .own (ag g2) 256 256 (rowOf encB r.2.2.2.1) 1 93, .blk g3 [.slice x.2.2.2.1 r.2.2.2.2.xb.length x.2.2.2.2] 110]) (fun x => (Ext B x.1) ∧ (256 = r.2.2.2.1.length) ∧ (Sl (kI .u8) x.1 x.2.2.2.1 x.2.2.2.2 r.2.2.2.2.xb))) := by
  unfold opts_one_2.f at hm
  refine calls_W (F := Try.f66) Try.func66 rfl (by kernel_rfl) (L := [.blk g1 [vb a0.hM, v16 a0.ms, vb a0.hS, v8 a0.sc, vb a0.sO, .slice A1 a0.sk.length c1, vb a0.hT, v32 a0.va, v32 a0.ec, vb a0.hO, v8 a0.ki, v8 a0.ni, v8 a0.m.x0, v8 a0.m.x1, v8 a0.m.x2, v8 a0.m.x3, v8 a0.m.x4, v8 a0.m.x5, v8 a0.m.x6, v8 a0.m.x7, v8 a0.m.x8, v8 a0.m.x9, v8 a0.m.x10, v8 a0.m.x11] 31, .own A1 a0.sk.length c1 (rowOf encTB a0.sk) 2 84, .own (ag g2) 256 256 (rowOf encB a1) 1 93, .blk g3 [.slice A2 a2.xb.length c2] 110]) ?_ hs
  refine w_seq 2 3 (by kernel_rfl) ?_
  refine w_region (by kernel_rfl) ?_
  refine o_run 2 [0, 1, 2] (l := []) .nil (E' := [(0, (pg g1)), (1, (pg g2)), (2, (pg g3))]) (by kernel_rfl) ?_
  refine o_end (by kernel_rfl) ?_
  refine e_seq ?_
  refine w_seq 6 7 (by kernel_rfl) ?_
  refine w_region (by kernel_rfl) ?_
  refine o_run 1 [0, 1, 2, 11] (l := []) .nil (E' := [(0, (pg g1)), (1, (pg g2)), (2, (pg g3)), (11, (pg g3))]) (by kernel_rfl) ?_
  obtain ⟨t1, hx1, hm⟩ := bind_some hm
  refine o_stp ?_ (by kernel_rfl)
  refine s_call 12 68 #[pg g3, v64 1] [3] [0, 1, 2] (by kernel_rfl) (by kernel_rfl) (fun w hs => oR_Num_2_ok k a2 1 t1 hx1 B _ g3 A2 c2 hs1 w (St.cast (by kernel_rfl) hs)) (fun x hx => ?_)
  obtain ⟨A3, c3⟩ := x
  have hs2 := hx
  refine t_L (L' := [.blk g3 [.slice A3 t1.2.xb.length c3] 110, .blk g1 [vb a0.hM, v16 a0.ms, vb a0.hS, v8 a0.sc, vb a0.sO, .slice A1 a0.sk.length c1, vb a0.hT, v32 a0.va, v32 a0.ec, vb a0.hO, v8 a0.ki, v8 a0.ni, v8 a0.m.x0, v8 a0.m.x1, v8 a0.m.x2, v8 a0.m.x3, v8 a0.m.x4, v8 a0.m.x5, v8 a0.m.x6, v8 a0.m.x7, v8 a0.m.x8, v8 a0.m.x9, v8 a0.m.x10, v8 a0.m.x11] 31, .own A1 a0.sk.length c1 (rowOf encTB a0.sk) 2 84, .own (ag g2) 256 256 (rowOf encB a1) 1 93]) (by kernel_rfl) ?_
  refine o_run 2 [0, 1, 2, 8] (l := []) .nil (E' := [(0, (pg g1)), (1, (pg g2)), (2, (pg g3)), (8, v8 (U8 t1.1))]) (by kernel_rfl) ?_
  refine o_end (by kernel_rfl) ?_
  refine e_seq ?_
  refine w_seq 14 15 (by kernel_rfl) ?_
  refine w_seq 28 29 (by kernel_rfl) ?_
  refine w_region (by kernel_rfl) ?_
  refine o_run 3 [0, 1, 2, 8, 16] (l := []) .nil (E' := [(0, (pg g1)), (1, (pg g2)), (2, (pg g3)), (8, v8 (U8 t1.1)), (16, vb ((U8 t1.1) == 0))]) (by kernel_rfl) ?_
  refine o_split 16 ((U8 t1.1) == 0) (by kernel_rfl) (fun hb1 => ?_) (fun hb1 => ?_)
  · replace hm := ite_t hb1 hm
    refine o_run 3 [0, 1, 2, 8, 19] (l := []) .nil (E' := [(0, (pg g1)), (1, (pg g2)), (2, (pg g3)), (8, v8 (U8 t1.1)), (19, vb true)]) (by kernel_rfl) ?_
    refine o_end (by kernel_rfl) ?_
    refine e_seq ?_
    refine w_cond_t (.tmp 19) 58 59 (by kernel_rfl) (by kernel_rfl) ?_
    refine w_seq 116 117 (by kernel_rfl) ?_
    refine w_region (by kernel_rfl) ?_
    refine o_run 4 [6, 7] (l := []) .nil (E' := [(6, vb ((U8 t1.1) == 1)), (7, v64 0)]) (by kernel_rfl) ?_
    refine o_end (by kernel_rfl) ?_
    refine e_seq ?_
    refine w_ret (by kernel_rfl) ?_
    obtain rfl := Option.some.inj hm
    exact e_retP (B, A1, c1, A3, c3) (.tuple #[vb ((U8 t1.1) == 1), v64 0]) [1, 2, 3, 0] (by kernel_rfl) (by kernel_rfl) rfl (by kernel_rfl) (by kernel_rfl) ⟨(Ext.refl _), hl1, hs2⟩
  · replace hm := ite_f hb1 hm
    refine o_run 3 [0, 1, 2, 8, 19] (l := []) .nil (E' := [(0, (pg g1)), (1, (pg g2)), (2, (pg g3)), (8, v8 (U8 t1.1)), (19, vb ((U8 t1.1) == 1))]) (by kernel_rfl) ?_
    refine o_end (by kernel_rfl) ?_
    refine e_seq ?_
    refine w_cond (.tmp 19) 58 59 ((U8 t1.1) == 1) (by kernel_rfl) (by kernel_rfl) (fun hb2 => ?_) (fun hb2 => ?_)
    · replace hm := ite_t hb2 hm
      refine w_seq 116 117 (by kernel_rfl) ?_
      refine w_region (by kernel_rfl) ?_
      refine o_run 4 [6, 7] (l := []) .nil (E' := [(6, vb ((U8 t1.1) == 1)), (7, v64 0)]) (by kernel_rfl) ?_
      refine o_end (by kernel_rfl) ?_
      refine e_seq ?_
      refine w_ret (by kernel_rfl) ?_
      obtain rfl := Option.some.inj hm
      exact e_retP (B, A1, c1, A3, c3) (.tuple #[vb ((U8 t1.1) == 1), v64 0]) [1, 2, 3, 0] (by kernel_rfl) (by kernel_rfl) rfl (by kernel_rfl) (by kernel_rfl) ⟨(Ext.refl _), hl1, hs2⟩
    · replace hm := ite_f hb2 hm
      refine w_skip (by kernel_rfl) ?_
      refine e_seq ?_
      refine w_seq 30 31 (by kernel_rfl) ?_
      refine w_region (by kernel_rfl) ?_
      refine o_run 1 [0, 1, 2, 8, 22] (l := []) .nil (E' := [(0, (pg g1)), (1, (pg g2)), (2, (pg g3)), (8, v8 (U8 t1.1)), (22, (pg g3))]) (by kernel_rfl) ?_
      obtain ⟨t2, hx2, hm⟩ := bind_some hm
      refine o_stp ?_ (by kernel_rfl)
      refine s_call 23 68 #[pg g3, v64 1] [0] [1, 2, 3] (by kernel_rfl) (by kernel_rfl) (fun w hs => oR_Num_2_ok k t1.2 1 t2 hx2 B _ g3 A3 c3 hs2 w (St.cast (by kernel_rfl) hs)) (fun x hx => ?_)
      obtain ⟨A4, c4⟩ := x
      have hs3 := hx
      refine t_L (L' := [.blk g3 [.slice A4 t2.2.xb.length c4] 110, .blk g1 [vb a0.hM, v16 a0.ms, vb a0.hS, v8 a0.sc, vb a0.sO, .slice A1 a0.sk.length c1, vb a0.hT, v32 a0.va, v32 a0.ec, vb a0.hO, v8 a0.ki, v8 a0.ni, v8 a0.m.x0, v8 a0.m.x1, v8 a0.m.x2, v8 a0.m.x3, v8 a0.m.x4, v8 a0.m.x5, v8 a0.m.x6, v8 a0.m.x7, v8 a0.m.x8, v8 a0.m.x9, v8 a0.m.x10, v8 a0.m.x11] 31, .own A1 a0.sk.length c1 (rowOf encTB a0.sk) 2 84, .own (ag g2) 256 256 (rowOf encB a1) 1 93]) (by kernel_rfl) ?_
      refine o_run 2 [0, 1, 2, 8, 9] (l := []) .nil (E' := [(0, (pg g1)), (1, (pg g2)), (2, (pg g3)), (8, v8 (U8 t1.1)), (9, v64 (I64 t2.1))]) (by kernel_rfl) ?_
      refine o_end (by kernel_rfl) ?_
      refine e_seq ?_
      refine w_seq 62 63 (by kernel_rfl) ?_
      refine w_seq 124 125 (by kernel_rfl) ?_
      refine w_region (by kernel_rfl) ?_
      refine o_run 2 [0, 1, 2, 8, 9, 25, 26] (l := []) .nil (E' := [(0, (pg g1)), (1, (pg g2)), (2, (pg g3)), (8, v8 (U8 t1.1)), (9, v64 (I64 t2.1)), (25, v8 (U8 t1.1)), (26, v64 (I64 t2.1))]) (by kernel_rfl) ?_
      obtain ⟨t3, hx3, hm⟩ := bind_some hm
      refine o_stp ?_ (by kernel_rfl)
      refine s_call 27 76 #[v8 (U8 t1.1), v64 (I64 t2.1)] [] [0, 1, 2, 3] (by kernel_rfl) (by kernel_rfl) (fun w hs => opts_isRight_ok (U8 t1.1) (I64 t2.1) t3 hx3 B _ w (St.cast (by kernel_rfl) hs)) (fun _ hx => ?_)
      refine t_L (L' := [.blk g3 [.slice A4 t2.2.xb.length c4] 110, .blk g1 [vb a0.hM, v16 a0.ms, vb a0.hS, v8 a0.sc, vb a0.sO, .slice A1 a0.sk.length c1, vb a0.hT, v32 a0.va, v32 a0.ec, vb a0.hO, v8 a0.ki, v8 a0.ni, v8 a0.m.x0, v8 a0.m.x1, v8 a0.m.x2, v8 a0.m.x3, v8 a0.m.x4, v8 a0.m.x5, v8 a0.m.x6, v8 a0.m.x7, v8 a0.m.x8, v8 a0.m.x9, v8 a0.m.x10, v8 a0.m.x11] 31, .own A1 a0.sk.length c1 (rowOf encTB a0.sk) 2 84, .own (ag g2) 256 256 (rowOf encB a1) 1 93]) (by kernel_rfl) ?_
      refine o_run 1 [0, 1, 2, 8, 9, 28] (l := []) .nil (E' := [(0, (pg g1)), (1, (pg g2)), (2, (pg g3)), (8, v8 (U8 t1.1)), (9, v64 (I64 t2.1)), (28, vb (!t3))]) (by kernel_rfl) ?_
      refine o_end (by kernel_rfl) ?_
      refine e_seq ?_
      refine w_cond (.tmp 28) 250 251 (!t3) (by kernel_rfl) (by kernel_rfl) (fun hb3 => ?_) (fun hb3 => ?_)
      · replace hm := ite_t hb3 hm
        refine w_seq 500 501 (by kernel_rfl) ?_
        refine w_region (by kernel_rfl) ?_
        refine o_run 2 [6, 7] (l := []) .nil (E' := [(6, vb false), (7, v64 3)]) (by kernel_rfl) ?_
        refine o_end (by kernel_rfl) ?_
        refine e_seq ?_
        refine w_ret (by kernel_rfl) ?_
        obtain rfl := Option.some.inj hm
        exact e_retP (B, A1, c1, A4, c4) (.tuple #[vb false, v64 3]) [1, 2, 3, 0] (by kernel_rfl) (by kernel_rfl) rfl (by kernel_rfl) (by kernel_rfl) ⟨(Ext.refl _), hl1, hs3⟩
      · replace hm := ite_f hb3 hm
        refine w_skip (by kernel_rfl) ?_
        refine e_seq ?_
        refine w_seq 126 127 (by kernel_rfl) ?_
        refine w_region (by kernel_rfl) ?_
        refine o_run 3 [0, 1, 8, 29, 31] (l := []) .nil (E' := [(0, (pg g1)), (1, (pg g2)), (8, v8 (U8 t1.1)), (29, (pg g3)), (31, v64 (I64 ((I64 t2.1) - 2)))]) (by kernel_rfl) ?_
        obtain ⟨t4, hx4, hm⟩ := bind_some hm
        refine o_stp ?_ (by kernel_rfl)
        refine s_call 32 77 #[pg g3, v64 (I64 ((I64 t2.1) - 2))] [0] [1, 2, 3] (by kernel_rfl) (by kernel_rfl) (fun w hs => oR_Sub_ok t2.2 (I64 ((I64 t2.1) - 2)) t4 hx4 B _ g3 A4 c4 hs3 w (St.cast (by kernel_rfl) hs)) (fun x hx => ?_)
        obtain ⟨g4, A5, c5, A6, c6⟩ := x
        have hs4 := hx
        refine t_L (L' := [.blk g4 [.slice A5 t4.1.xb.length c5] 110, .own A5 t4.1.xb.length c5 (rowOf e8 t4.1.xb) 1 5, .blk g3 [.slice A6 t4.2.xb.length c6] 110, .blk g1 [vb a0.hM, v16 a0.ms, vb a0.hS, v8 a0.sc, vb a0.sO, .slice A1 a0.sk.length c1, vb a0.hT, v32 a0.va, v32 a0.ec, vb a0.hO, v8 a0.ki, v8 a0.ni, v8 a0.m.x0, v8 a0.m.x1, v8 a0.m.x2, v8 a0.m.x3, v8 a0.m.x4, v8 a0.m.x5, v8 a0.m.x6, v8 a0.m.x7, v8 a0.m.x8, v8 a0.m.x9, v8 a0.m.x10, v8 a0.m.x11] 31, .own A1 a0.sk.length c1 (rowOf encTB a0.sk) 2 84, .own (ag g2) 256 256 (rowOf encB a1) 1 93]) (by kernel_rfl) ?_
        refine o_run 1 [0, 1, 8, 10] (l := []) .nil (E' := [(0, (pg g1)), (1, (pg g2)), (8, v8 (U8 t1.1)), (10, (pg g4))]) (by kernel_rfl) ?_
        refine o_end (by kernel_rfl) ?_
        refine e_seq ?_
        refine w_seq 254 255 (by kernel_rfl) ?_
        refine w_seq 508 509 (by kernel_rfl) ?_
        refine w_region (by kernel_rfl) ?_
        refine o_run 1 [0, 1, 8, 10, 33] (l := []) .nil (E' := [(0, (pg g1)), (1, (pg g2)), (8, v8 (U8 t1.1)), (10, (pg g4)), (33, v8 (U8 t1.1))]) (by kernel_rfl) ?_
        obtain ⟨t5, hx5, hm⟩ := bind_some hm
        refine o_stp ?_ (by kernel_rfl)
        refine s_call 34 73 #[v8 (U8 t1.1)] [] [0, 1, 2, 3, 4, 5] (by kernel_rfl) (by kernel_rfl) (fun w hs => opts_sizes_ok (U8 t1.1) t5 hx5 B _ w (St.cast (by kernel_rfl) hs)) (fun _ hx => ?_)
        refine t_L (L' := [.blk g4 [.slice A5 t4.1.xb.length c5] 110, .own A5 t4.1.xb.length c5 (rowOf e8 t4.1.xb) 1 5, .blk g3 [.slice A6 t4.2.xb.length c6] 110, .blk g1 [vb a0.hM, v16 a0.ms, vb a0.hS, v8 a0.sc, vb a0.sO, .slice A1 a0.sk.length c1, vb a0.hT, v32 a0.va, v32 a0.ec, vb a0.hO, v8 a0.ki, v8 a0.ni, v8 a0.m.x0, v8 a0.m.x1, v8 a0.m.x2, v8 a0.m.x3, v8 a0.m.x4, v8 a0.m.x5, v8 a0.m.x6, v8 a0.m.x7, v8 a0.m.x8, v8 a0.m.x9, v8 a0.m.x10, v8 a0.m.x11] 31, .own A1 a0.sk.length c1 (rowOf encTB a0.sk) 2 84, .own (ag g2) 256 256 (rowOf encB a1) 1 93]) (by kernel_rfl) ?_
        refine o_run 2 [0, 1, 8, 10, 36] (l := []) .nil (E' := [(0, (pg g1)), (1, (pg g2)), (8, v8 (U8 t1.1)), (10, (pg g4)), (36, vb (decide (t5 ≥ 0)))]) (by kernel_rfl) ?_
        refine o_split 36 (decide (t5 ≥ 0)) (by kernel_rfl) (fun hb4 => ?_) (fun hb4 => ?_)
        · replace hm := ite_t hb4 hm
          refine o_run 3 [0, 1, 8, 10, 36, 38, 39] (l := []) .nil (E' := [(0, (pg g1)), (1, (pg g2)), (8, v8 (U8 t1.1)), (10, (pg g4)), (36, vb true), (38, v8 (U8 t1.1)), (39, (pg g2))]) (by kernel_rfl) ?_
          obtain ⟨e1, hx6, hm⟩ := bind_some hm
          obtain ⟨hi1, hi2, hg1⟩ := idx_some hx6
          refine o_val 40 (.indexAddr 93 (.tmp 39) (.tmp 38)) (.pointer (some (adr (ag g2) (Int.toNat (U8 t1.1) * 1)))) (by kernel_rfl) (v_indexA (a := ⟨g2, 0, none⟩) (m := 256) (sz := 1) (k := .u8) (j := U8 t1.1) (by kernel_rfl) (by kernel_rfl) (by kernel_rfl) hi1 (len_lt hl1 hi2)) ?_
          refine o_run 2 [0, 1, 8, 10, 42] (l := [((adr (ag g2) (Int.toNat (U8 t1.1) * 1)), vb e1)]) (.one ((At.sub (l := encB e1) 0 (at_own (A := (ag g2)) (j := 5) (off := Int.toNat (U8 t1.1) * 1) rfl (row_at (enc := encB) (sz := 1) (fun _ => rfl) hg1)) rfl)) .nil) (E' := [(0, (pg g1)), (1, (pg g2)), (8, v8 (U8 t1.1)), (10, (pg g4)), (42, vb e1)]) (by kernel_rfl) ?_
          refine o_end (by kernel_rfl) ?_
          refine e_seq ?_
          refine w_cond (.tmp 42) 1018 1019 e1 (by kernel_rfl) (by kernel_rfl) (fun hb5 => ?_) (fun hb5 => ?_)
          · replace hm := ite_t hb5 hm
            refine w_seq 2036 2037 (by kernel_rfl) ?_
            refine w_region (by kernel_rfl) ?_
            refine o_run 2 [6, 7] (l := []) .nil (E' := [(6, vb false), (7, v64 7)]) (by kernel_rfl) ?_
            refine o_end (by kernel_rfl) ?_
            refine e_seq ?_
            refine w_ret (by kernel_rfl) ?_
            obtain rfl := Option.some.inj hm
            exact e_retP (B, A1, c1, A6, c6) (.tuple #[vb false, v64 7]) [3, 4, 5, 2] (by kernel_rfl) (by kernel_rfl) rfl (by kernel_rfl) (by kernel_rfl) ⟨(Ext.refl _), hl1, hs4⟩
          · replace hm := ite_f hb5 hm
            refine w_skip (by kernel_rfl) ?_
            refine e_seq ?_
            refine w_seq 510 511 (by kernel_rfl) ?_
            refine w_region (by kernel_rfl) ?_
            refine o_run 3 [0, 8, 10, 44, 45] (l := []) .nil (E' := [(0, (pg g1)), (8, v8 (U8 t1.1)), (10, (pg g4)), (44, v8 (U8 t1.1)), (45, (pg g2))]) (by kernel_rfl) ?_
            obtain ⟨e2, hx7, hm⟩ := bind_some hm
            obtain ⟨hi3, hi4, hg2⟩ := idx_some hx7
            refine o_val 46 (.indexAddr 93 (.tmp 45) (.tmp 44)) (.pointer (some (adr (ag g2) (Int.toNat (U8 t1.1) * 1)))) (by kernel_rfl) (v_indexA (a := ⟨g2, 0, none⟩) (m := 256) (sz := 1) (k := .u8) (j := U8 t1.1) (by kernel_rfl) (by kernel_rfl) (by kernel_rfl) hi3 (len_lt hl1 hi4)) ?_
            refine o_stp ?_ (by kernel_rfl)
            refine s_setE (enc := encB) (v := vb true) 4 (.tmp 46) (.const (vb true)) 5 (x := true) (by kernel_rfl) (by kernel_rfl) (by kernel_rfl) rfl (by kernel_rfl) rfl (fun _ => rfl) hg2 (fun u hu => by cases List.mem_singleton.1 hu; rfl) (by decide) ?_
            have hl2 : 256 = (a1.set (Int.toNat (U8 t1.1)) true).length := Eq.trans hl1 List.length_set.symm
            refine o_end (by kernel_rfl) ?_
            refine e_seq ?_
            refine w_seq 1022 1023 (by kernel_rfl) ?_
            refine w_region (by kernel_rfl) ?_
            refine o_run 3 [47, 48, 49] (l := []) .nil (E' := [(47, (pg g1)), (48, v8 (U8 t1.1)), (49, (pg g4))]) (by kernel_rfl) ?_
            obtain ⟨t6, hx8, hm⟩ := bind_some hm
            refine o_stp ?_ (by kernel_rfl)
            refine s_call 50 78 #[pg g1, v8 (U8 t1.1), pg g4] [3, 4, 0, 1] [2, 5] (by kernel_rfl) (by kernel_rfl) (fun w hs => opts_take_2_ok k a0 (U8 t1.1) t4.1 t6 hx8 B _ g1 A1 c1 g4 A5 c5 w (St.cast (by kernel_rfl) hs)) (fun x hx => ?_)
            obtain ⟨B1, A7, c7, A8, c8⟩ := x
            obtain ⟨hx9, hs5⟩ := hx
            refine t_L (L' := [.blk g1 [vb t6.1.hM, v16 t6.1.ms, vb t6.1.hS, v8 t6.1.sc, vb t6.1.sO, .slice A7 t6.1.sk.length c7, vb t6.1.hT, v32 t6.1.va, v32 t6.1.ec, vb t6.1.hO, v8 t6.1.ki, v8 t6.1.ni, v8 t6.1.m.x0, v8 t6.1.m.x1, v8 t6.1.m.x2, v8 t6.1.m.x3, v8 t6.1.m.x4, v8 t6.1.m.x5, v8 t6.1.m.x6, v8 t6.1.m.x7, v8 t6.1.m.x8, v8 t6.1.m.x9, v8 t6.1.m.x10, v8 t6.1.m.x11] 31, .own A7 t6.1.sk.length c7 (rowOf encTB t6.1.sk) 2 84, .blk g4 [.slice A8 t6.2.xb.length c8] 110, .blk g3 [.slice A6 t4.2.xb.length c6] 110, .own (ag g2) 256 256 (rowOf encB (a1.set (Int.toNat (U8 t1.1)) true)) 1 93]) (by kernel_rfl) ?_
            refine o_end (by kernel_rfl) ?_
            refine e_seq ?_
            refine w_seq 2046 2047 (by kernel_rfl) ?_
            refine w_region (by kernel_rfl) ?_
            refine o_run 2 [6, 7] (l := []) .nil (E' := [(6, vb true), (7, v64 0)]) (by kernel_rfl) ?_
            refine o_end (by kernel_rfl) ?_
            refine e_seq ?_
            refine w_ret (by kernel_rfl) ?_
            obtain rfl := Option.some.inj hm
            exact e_retP (B1, A7, c7, A6, c6) (.tuple #[vb true, v64 0]) [0, 1, 4, 3] (by kernel_rfl) (by kernel_rfl) rfl (by kernel_rfl) (by kernel_rfl) ⟨hx9, hl2, (hs4.up hx9)⟩
        · replace hm := ite_f hb4 hm
          refine o_run 6 [0, 1, 8, 10, 42] (l := []) .nil (E' := [(0, (pg g1)), (1, (pg g2)), (8, v8 (U8 t1.1)), (10, (pg g4)), (42, vb false)]) (by kernel_rfl) ?_
          refine o_end (by kernel_rfl) ?_
          refine e_seq ?_
          refine w_cond_f (.tmp 42) 1018 1019 (by kernel_rfl) (by kernel_rfl) ?_
          refine w_skip (by kernel_rfl) ?_
          refine e_seq ?_
          refine w_seq 510 511 (by kernel_rfl) ?_
          refine w_region (by kernel_rfl) ?_
          refine o_run 3 [0, 8, 10, 44, 45] (l := []) .nil (E' := [(0, (pg g1)), (8, v8 (U8 t1.1)), (10, (pg g4)), (44, v8 (U8 t1.1)), (45, (pg g2))]) (by kernel_rfl) ?_
          obtain ⟨e3, hx10, hm⟩ := bind_some hm
          obtain ⟨hi5, hi6, hg3⟩ := idx_some hx10
          refine o_val 46 (.indexAddr 93 (.tmp 45) (.tmp 44)) (.pointer (some (adr (ag g2) (Int.toNat (U8 t1.1) * 1)))) (by kernel_rfl) (v_indexA (a := ⟨g2, 0, none⟩) (m := 256) (sz := 1) (k := .u8) (j := U8 t1.1) (by kernel_rfl) (by kernel_rfl) (by kernel_rfl) hi5 (len_lt hl1 hi6)) ?_
          refine o_stp ?_ (by kernel_rfl)
          refine s_setE (enc := encB) (v := vb true) 4 (.tmp 46) (.const (vb true)) 5 (x := true) (by kernel_rfl) (by kernel_rfl) (by kernel_rfl) rfl (by kernel_rfl) rfl (fun _ => rfl) hg3 (fun u hu => by cases List.mem_singleton.1 hu; rfl) (by decide) ?_
          have hl3 : 256 = (a1.set (Int.toNat (U8 t1.1)) true).length := Eq.trans hl1 List.length_set.symm
          refine o_end (by kernel_rfl) ?_
          refine e_seq ?_
          refine w_seq 1022 1023 (by kernel_rfl) ?_
          refine w_region (by kernel_rfl) ?_
          refine o_run 3 [47, 48, 49] (l := []) .nil (E' := [(47, (pg g1)), (48, v8 (U8 t1.1)), (49, (pg g4))]) (by kernel_rfl) ?_
          obtain ⟨t7, hx11, hm⟩ := bind_some hm
          refine o_stp ?_ (by kernel_rfl)
          refine s_call 50 78 #[pg g1, v8 (U8 t1.1), pg g4] [3, 4, 0, 1] [2, 5] (by kernel_rfl) (by kernel_rfl) (fun w hs => opts_take_2_ok k a0 (U8 t1.1) t4.1 t7 hx11 B _ g1 A1 c1 g4 A5 c5 w (St.cast (by kernel_rfl) hs)) (fun x hx => ?_)
          obtain ⟨B2, A9, c9, A10, c10⟩ := x
          obtain ⟨hx12, hs6⟩ := hx
          refine t_L (L' := [.blk g1 [vb t7.1.hM, v16 t7.1.ms, vb t7.1.hS, v8 t7.1.sc, vb t7.1.sO, .slice A9 t7.1.sk.length c9, vb t7.1.hT, v32 t7.1.va, v32 t7.1.ec, vb t7.1.hO, v8 t7.1.ki, v8 t7.1.ni, v8 t7.1.m.x0, v8 t7.1.m.x1, v8 t7.1.m.x2, v8 t7.1.m.x3, v8 t7.1.m.x4, v8 t7.1.m.x5, v8 t7.1.m.x6, v8 t7.1.m.x7, v8 t7.1.m.x8, v8 t7.1.m.x9, v8 t7.1.m.x10, v8 t7.1.m.x11] 31, .own A9 t7.1.sk.length c9 (rowOf encTB t7.1.sk) 2 84, .blk g4 [.slice A10 t7.2.xb.length c10] 110, .blk g3 [.slice A6 t4.2.xb.length c6] 110, .own (ag g2) 256 256 (rowOf encB (a1.set (Int.toNat (U8 t1.1)) true)) 1 93]) (by kernel_rfl) ?_
          refine o_end (by kernel_rfl) ?_
          refine e_seq ?_
          refine w_seq 2046 2047 (by kernel_rfl) ?_
          refine w_region (by kernel_rfl) ?_
          refine o_run 2 [6, 7] (l := []) .nil (E' := [(6, vb true), (7, v64 0)]) (by kernel_rfl) ?_
          refine o_end (by kernel_rfl) ?_
          refine e_seq ?_
          refine w_ret (by kernel_rfl) ?_
          obtain rfl := Option.some.inj hm
          exact e_retP (B2, A9, c9, A6, c6) (.tuple #[vb true, v64 0]) [0, 1, 4, 3] (by kernel_rfl) (by kernel_rfl) rfl (by kernel_rfl) (by kernel_rfl) ⟨hx12, hl3, (hs4.up hx12)⟩
def opts_Parse_1.l1 : Nat → Bool → Int → TR → TO → (List Bool) → Option (Int × TR × TO × (List Bool))
  | 0, _, _, _, _, _ => none
  | k + 1, p1, p2, p3, p4, p5 => (if p1 then (if p2 == 0 then ((oR_Left_2.f p3).bind fun t2 => (if decide (t2 > 0) then ((opts_one_2.f k p4 p5 p3).bind fun t3 => (opts_Parse_1.l1 k t3.1 t3.2.1 t3.2.2.2.2 t3.2.2.1 t3.2.2.2.1)) else (some (p2, p3, p4, p5)))) else (some (p2, p3, p4, p5))) else (some (p2, p3, p4, p5)))
def opts_Parse_1.f (k : Nat) (a0 : Int) (a1 : TR) (a2 : TO_o) (a3 : List Bool) : Option (Int × TR × TO × (List Bool)) :=
  ((opts_Parse_1.l1 k true a0 a1 (⟨a2.hM, a2.ms, a2.hS, a2.sc, a2.sO, ([] : List TB), a2.hT, a2.va, a2.ec, a2.hO, a2.ki, a2.ni, a2.m⟩ : TO) a3).bind fun t1 => (some (t1.1, (t1.2.1), (t1.2.2.1), t1.2.2.2)))
theorem opts_Parse_1_ok (k : Nat) (a0 : Int) (a1 : TR) (a2 : TO_o) (a3 : List Bool) (r : Int × TR × TO × (List Bool)) (hm : opts_Parse_1.f k a0 a1 a2 a3 = some r) (B G : Asn) (g1 : Nat) (g2 : Nat) (g3 : Nat) (A1 : Option Addr) (c1 : Nat) (g4 : Nat) (g5 : Nat) (hl1 : 256 = a3.length) (w : World) (hs : St B G [.blk g1 [v64 a0] 37, .blk g2 [pg g3] 94, .blk g3 [.slice A1 a1.xb.length c1] 110, .own A1 a1.xb.length c1 (rowOf e8 a1.xb) 1 5, .blk g4 [vb a2.hM, v16 a2.ms, vb a2.hS, v8 a2.sc, vb a2.sO, .slice none 0 0, vb a2.hT, v32 a2.va, v32 a2.ec, vb a2.hO, v8 a2.ki, v8 a2.ni, v8 a2.m.x0, v8 a2.m.x1, v8 a2.m.x2, v8 a2.m.x3, v8 a2.m.x4, v8 a2.m.x5, v8 a2.m.x6, v8 a2.m.x7, v8 a2.m.x8, v8 a2.m.x9, v8 a2.m.x10, v8 a2.m.x11] 31, .own (ag g5) 256 256 (rowOf encB a3) 1 93] w) :
    Calls Try.prog 64 #[pg g1, pg g2, pg g4, pg g5] w (Post (X := Asn × Nat × (Option Addr) × Nat × (Option Addr) × Nat) (fun x => .tuple #[]) (fun x => x.1) G (fun x => [.blk g1 [v64 r.1] 37, .blk g2 [pg x.2.1] 94, .blk x.2.1 [.slice x.2.2.1 r.2.1.xb.length x.2.2.2.1] 110, .blk g4 [vb r.2.2.1.hM, v16 r.2.2.1.ms, vb r.2.2.1.hS, v8 r.2.2.1.sc, vb r.2.2.1.sO, .slice x.2.2.2.2.1 r.2.2.1.sk.length x.2.2.2.2.2, vb r.2.2.1.hT, v32 r.2.2.1.va, v32 r.2.2.1.ec, vb r.2.2.1.hO, v8 r.2.2.1.ki, v8 r.2.2.1.ni, v8 r.2.2.1.m.x0, v8 r.2.2.1.m.x1, v8 r.2.2.1.m.x2, v8 r.2.2.1.m.x3, v8 r.2.2.1.m.x4, v8 r.2.2.1.m.x5, v8 r.2.2.1.m.x6, v8 r.2.2.1.m.x7, v8 r.2.2.1.m.x8, v8 r.2.2.1.m.x9, v8 r.2.2.1.m.x10, v8 r.2.2.1.m.x11] 31, .own x.2.2.2.2.1 r.2.2.1.sk.length x.2.2.2.2.2 (rowOf encTB r.2.2.1.sk) 2 84, .own (ag g5) 256 256 (rowOf encB r.2.2.2) 1 93]) (fun x => (Ext B x.1) ∧ (Sl (kI .u8) x.1 x.2.2.1 x.2.2.2.1 r.2.1.xb) ∧ (256 = r.2.2.2.length))) := by
  unfold opts_Parse_1.f at hm
  refine calls_W (F := Try.f64) Try.func64 rfl (by kernel_rfl) (L := [.blk g1 [v64 a0] 37, .blk g2 [pg g3] 94, .blk g3 [.slice A1 a1.xb.length c1] 110, .own A1 a1.xb.length c1 (rowOf e8 a1.xb) 1 5, .blk g4 [vb a2.hM, v16 a2.ms, vb a2.hS, v8 a2.sc, vb a2.sO, .slice none 0 0, vb a2.hT, v32 a2.va, v32 a2.ec, vb a2.hO, v8 a2.ki, v8 a2.ni, v8 a2.m.x0, v8 a2.m.x1, v8 a2.m.x2, v8 a2.m.x3, v8 a2.m.x4, v8 a2.m.x5, v8 a2.m.x6, v8 a2.m.x7, v8 a2.m.x8, v8 a2.m.x9, v8 a2.m.x10, v8 a2.m.x11] 31, .own (ag g5) 256 256 (rowOf encB a3) 1 93]) ?_ hs
  refine w_seq 2 3 (by kernel_rfl) ?_
  refine w_region (by kernel_rfl) ?_
  refine o_run 1 [0, 1, 2, 3, 4] (l := []) .nil (E' := [(0, (pg g1)), (1, (pg g2)), (2, (pg g4)), (3, (pg g5)), (4, vb true)]) (by kernel_rfl) ?_
  refine o_end (by kernel_rfl) ?_
  refine e_seq ?_
  refine w_block 0 6 (by kernel_rfl) ?_
  refine t_drop [3, 0, 1, 2, 4, 5] (by kernel_rfl) ?_
  refine t_L (L' := [.own A1 a1.xb.length c1 (rowOf e8 a1.xb) 1 5, .blk g1 [v64 a0] 37, .blk g2 [pg g3] 94, .blk g3 [.slice A1 a1.xb.length c1] 110, .blk g4 [vb a2.hM, v16 a2.ms, vb a2.hS, v8 a2.sc, vb a2.sO, .slice none 0 0, vb a2.hT, v32 a2.va, v32 a2.ec, vb a2.hO, v8 a2.ki, v8 a2.ni, v8 a2.m.x0, v8 a2.m.x1, v8 a2.m.x2, v8 a2.m.x3, v8 a2.m.x4, v8 a2.m.x5, v8 a2.m.x6, v8 a2.m.x7, v8 a2.m.x8, v8 a2.m.x9, v8 a2.m.x10, v8 a2.m.x11] 31, .own (ag g5) 256 256 (rowOf encB a3) 1 93]) (by kernel_rfl) ?_
  refine t_frozS (kI .u8) rfl rfl (fun B1 hx1 hs1 => ?_)
  refine t_nil 84 2 ?_
  refine t_L (L' := [.own none (([] : List TB).length) 0 (rowOf encTB ([] : List TB)) 2 84, .blk g1 [v64 a0] 37, .blk g2 [pg g3] 94, .blk g3 [.slice A1 a1.xb.length c1] 110, .blk g4 [vb a2.hM, v16 a2.ms, vb a2.hS, v8 a2.sc, vb a2.sO, .slice none 0 0, vb a2.hT, v32 a2.va, v32 a2.ec, vb a2.hO, v8 a2.ki, v8 a2.ni, v8 a2.m.x0, v8 a2.m.x1, v8 a2.m.x2, v8 a2.m.x3, v8 a2.m.x4, v8 a2.m.x5, v8 a2.m.x6, v8 a2.m.x7, v8 a2.m.x8, v8 a2.m.x9, v8 a2.m.x10, v8 a2.m.x11] 31, .own (ag g5) 256 256 (rowOf encB a3) 1 93]) (by kernel_rfl) ?_
  obtain ⟨t1, ht1, ho1⟩ := bind_some hm
  refine t_drop [5, 1, 2, 3, 4, 0] (by kernel_rfl) ?_
  refine t_L (L' := [.own (ag g5) 256 256 (rowOf encB a3) 1 93, .blk g1 [v64 a0] 37, .blk g2 [pg g3] 94, .blk g3 [.slice A1 a1.xb.length c1] 110, .blk g4 [vb a2.hM, v16 a2.ms, vb a2.hS, v8 a2.sc, vb a2.sO, .slice none (([] : List TB).length) 0, vb a2.hT, v32 a2.va, v32 a2.ec, vb a2.hO, v8 a2.ki, v8 a2.ni, v8 a2.m.x0, v8 a2.m.x1, v8 a2.m.x2, v8 a2.m.x3, v8 a2.m.x4, v8 a2.m.x5, v8 a2.m.x6, v8 a2.m.x7, v8 a2.m.x8, v8 a2.m.x9, v8 a2.m.x10, v8 a2.m.x11] 31, .own none (([] : List TB).length) 0 (rowOf encTB ([] : List TB)) 2 84]) (by kernel_rfl) ?_
  refine t_env [0, 1, 2, 3, 4] (E' := [(0, (pg g1)), (1, (pg g2)), (2, (pg g4)), (3, (pg g5)), (4, vb true)]) (by kernel_rfl) ?_
  refine w_loopJ 12 0 (fun k a w => ∃ (p1 : Bool) (p2 : Int) (p3 : TR) (p4 : TO) (p5 : List Bool) (B2 : Asn) (g6 : Nat) (A2 : Option Addr) (c2 : Nat) (A3 : Option Addr) (c3 : Nat), opts_Parse_1.l1 k p1 p2 p3 p4 p5 = some t1 ∧ Ext B1 B2 ∧ Sl (kI .u8) B2 A2 c2 p3.xb ∧ 256 = p5.length ∧ EnvOk [(0, (pg g1)), (1, (pg g2)), (2, (pg g4)), (3, (pg g5)), (4, vb p1)] Try.f64.ntmps a ∧ St B2 G [.own (ag g5) 256 256 (rowOf encB p5) 1 93, .blk g1 [v64 p2] 37, .blk g2 [pg g6] 94, .blk g6 [.slice A2 p3.xb.length c2] 110, .blk g4 [vb p4.hM, v16 p4.ms, vb p4.hS, v8 p4.sc, vb p4.sO, .slice A3 p4.sk.length c3, vb p4.hT, v32 p4.va, v32 p4.ec, vb p4.hO, v8 p4.ki, v8 p4.ni, v8 p4.m.x0, v8 p4.m.x1, v8 p4.m.x2, v8 p4.m.x3, v8 p4.m.x4, v8 p4.m.x5, v8 p4.m.x6, v8 p4.m.x7, v8 p4.m.x8, v8 p4.m.x9, v8 p4.m.x10, v8 p4.m.x11] 31, .own A3 p4.sk.length c3 (rowOf encTB p4.sk) 2 84] w) (fun a w => ∃ (B3 : Asn) (g7 : Nat) (A4 : Option Addr) (c4 : Nat) (A5 : Option Addr) (c5 : Nat), Ext B1 B3 ∧ Sl (kI .u8) B3 A4 c4 ((t1.2.1).xb) ∧ 256 = (t1.2.2.2).length ∧ EnvOk [] Try.f64.ntmps a ∧ St B3 G [.own (ag g5) 256 256 (rowOf encB t1.2.2.2) 1 93, .blk g1 [v64 t1.1] 37, .blk g2 [pg g7] 94, .blk g7 [.slice A4 ((t1.2.1).xb).length c4] 110, .blk g4 [vb ((t1.2.2.1).hM), v16 ((t1.2.2.1).ms), vb ((t1.2.2.1).hS), v8 ((t1.2.2.1).sc), vb ((t1.2.2.1).sO), .slice A5 (((t1.2.2.1).sk).length) c5, vb ((t1.2.2.1).hT), v32 ((t1.2.2.1).va), v32 ((t1.2.2.1).ec), vb ((t1.2.2.1).hO), v8 ((t1.2.2.1).ki), v8 ((t1.2.2.1).ni), v8 (((t1.2.2.1).m).x0), v8 (((t1.2.2.1).m).x1), v8 (((t1.2.2.1).m).x2), v8 (((t1.2.2.1).m).x3), v8 (((t1.2.2.1).m).x4), v8 (((t1.2.2.1).m).x5), v8 (((t1.2.2.1).m).x6), v8 (((t1.2.2.1).m).x7), v8 (((t1.2.2.1).m).x8), v8 (((t1.2.2.1).m).x9), v8 (((t1.2.2.1).m).x10), v8 (((t1.2.2.1).m).x11)] 31, .own A5 (((t1.2.2.1).sk).length) c5 (rowOf encTB ((t1.2.2.1).sk)) 2 84] w) (by kernel_rfl) ?_ ?_ k ?_
  · rintro a w ⟨B3, g7, A4, c4, A5, c5, hx3, hs3, hn2, ha, hw⟩
    refine we_of (E := []) (B := B3) (G := G) (L := [.own (ag g5) 256 256 (rowOf encB t1.2.2.2) 1 93, .blk g1 [v64 t1.1] 37, .blk g2 [pg g7] 94, .blk g7 [.slice A4 ((t1.2.1).xb).length c4] 110, .blk g4 [vb ((t1.2.2.1).hM), v16 ((t1.2.2.1).ms), vb ((t1.2.2.1).hS), v8 ((t1.2.2.1).sc), vb ((t1.2.2.1).sO), .slice A5 (((t1.2.2.1).sk).length) c5, vb ((t1.2.2.1).hT), v32 ((t1.2.2.1).va), v32 ((t1.2.2.1).ec), vb ((t1.2.2.1).hO), v8 ((t1.2.2.1).ki), v8 ((t1.2.2.1).ni), v8 (((t1.2.2.1).m).x0), v8 (((t1.2.2.1).m).x1), v8 (((t1.2.2.1).m).x2), v8 (((t1.2.2.1).m).x3), v8 (((t1.2.2.1).m).x4), v8 (((t1.2.2.1).m).x5), v8 (((t1.2.2.1).m).x6), v8 (((t1.2.2.1).m).x7), v8 (((t1.2.2.1).m).x8), v8 (((t1.2.2.1).m).x9), v8 (((t1.2.2.1).m).x10), v8 (((t1.2.2.1).m).x11)] 31, .own A5 (((t1.2.2.1).sk).length) c5 (rowOf encTB ((t1.2.2.1).sk)) 2 84]) ?_ ha hw
    have hm := ho1
    obtain rfl := Option.some.inj hm
    exact e_endP (B3, g7, A4, c4, A5, c5) (.tuple #[]) [1, 2, 3, 4, 5, 0] (by kernel_rfl) (by kernel_rfl) rfl (by kernel_rfl) (by kernel_rfl) ⟨(Ext.trans hx1 hx3), hs3, hn2⟩
  · rintro k a w ⟨p1, p2, p3, p4, p5, B2, g6, A2, c2, A3, c3, hm, hx2, hs2, hn1, ha, hw⟩
    cases k with
    | zero => exact absurd hm (by simp [opts_Parse_1.l1])
    | succ k =>
      unfold opts_Parse_1.l1 at hm
      refine wc_of (E := [(0, (pg g1)), (1, (pg g2)), (2, (pg g4)), (3, (pg g5)), (4, vb p1)]) (B := B2) (G := G) (L := [.own (ag g5) 256 256 (rowOf encB p5) 1 93, .blk g1 [v64 p2] 37, .blk g2 [pg g6] 94, .blk g6 [.slice A2 p3.xb.length c2] 110, .blk g4 [vb p4.hM, v16 p4.ms, vb p4.hS, v8 p4.sc, vb p4.sO, .slice A3 p4.sk.length c3, vb p4.hT, v32 p4.va, v32 p4.ec, vb p4.hO, v8 p4.ki, v8 p4.ni, v8 p4.m.x0, v8 p4.m.x1, v8 p4.m.x2, v8 p4.m.x3, v8 p4.m.x4, v8 p4.m.x5, v8 p4.m.x6, v8 p4.m.x7, v8 p4.m.x8, v8 p4.m.x9, v8 p4.m.x10, v8 p4.m.x11] 31, .own A3 p4.sk.length c3 (rowOf encTB p4.sk) 2 84]) ?_ ha hw
      refine w_seq 24 25 (by kernel_rfl) ?_
      refine w_seq 48 49 (by kernel_rfl) ?_
      refine w_region (by kernel_rfl) ?_
      refine o_run 2 [0, 1, 2, 3, 6] (l := []) .nil (E' := [(0, (pg g1)), (1, (pg g2)), (2, (pg g4)), (3, (pg g5)), (6, vb p1)]) (by kernel_rfl) ?_
      refine o_split 6 p1 (by kernel_rfl) (fun hb1 => ?_) (fun hb1 => ?_)
      · replace hm := ite_t hb1 hm
        refine o_run 4 [0, 1, 2, 3, 10] (l := [(⟨g1, 0, none⟩, v64 p2)]) (.one (at_blk (j := 1) rfl rfl) .nil) (E' := [(0, (pg g1)), (1, (pg g2)), (2, (pg g4)), (3, (pg g5)), (10, vb (p2 == 0))]) (by kernel_rfl) ?_
        refine o_split 10 (p2 == 0) (by kernel_rfl) (fun hb2 => ?_) (fun hb2 => ?_)
        · replace hm := ite_t hb2 hm
          refine o_run 1 [0, 1, 2, 3, 10, 11] (l := [(⟨g2, 0, none⟩, (pg g6))]) (.one (at_blk (j := 2) rfl rfl) .nil) (E' := [(0, (pg g1)), (1, (pg g2)), (2, (pg g4)), (3, (pg g5)), (10, vb true), (11, (pg g6))]) (by kernel_rfl) ?_
          obtain ⟨t2, hx4, hm⟩ := bind_some hm
          refine o_stp ?_ (by kernel_rfl)
          refine s_call 12 65 #[pg g6] [3] [0, 1, 2, 4, 5] (by kernel_rfl) (by kernel_rfl) (fun w hs => oR_Left_2_ok p3 t2 hx4 B2 _ g6 A2 c2 hs2 w (St.cast (by kernel_rfl) hs)) (fun _ hx => ?_)
          refine t_L (L' := [.blk g6 [.slice A2 p3.xb.length c2] 110, .own (ag g5) 256 256 (rowOf encB p5) 1 93, .blk g1 [v64 p2] 37, .blk g2 [pg g6] 94, .blk g4 [vb p4.hM, v16 p4.ms, vb p4.hS, v8 p4.sc, vb p4.sO, .slice A3 p4.sk.length c3, vb p4.hT, v32 p4.va, v32 p4.ec, vb p4.hO, v8 p4.ki, v8 p4.ni, v8 p4.m.x0, v8 p4.m.x1, v8 p4.m.x2, v8 p4.m.x3, v8 p4.m.x4, v8 p4.m.x5, v8 p4.m.x6, v8 p4.m.x7, v8 p4.m.x8, v8 p4.m.x9, v8 p4.m.x10, v8 p4.m.x11] 31, .own A3 p4.sk.length c3 (rowOf encTB p4.sk) 2 84]) (by kernel_rfl) ?_
          refine o_run 2 [0, 1, 2, 3, 14] (l := []) .nil (E' := [(0, (pg g1)), (1, (pg g2)), (2, (pg g4)), (3, (pg g5)), (14, vb (decide (t2 > 0)))]) (by kernel_rfl) ?_
          refine o_end (by kernel_rfl) ?_
          refine e_seq ?_
          refine w_cond (.tmp 14) 98 99 (decide (t2 > 0)) (by kernel_rfl) (by kernel_rfl) (fun hb3 => ?_) (fun hb3 => ?_)
          · replace hm := ite_t hb3 hm
            refine w_skip (by kernel_rfl) ?_
            refine e_seq ?_
            refine w_block 1 50 (by kernel_rfl) ?_
            refine w_region (by kernel_rfl) ?_
            refine o_run 1 [0, 1, 2, 3, 16] (l := [(⟨g2, 0, none⟩, (pg g6))]) (.one (at_blk (j := 3) rfl rfl) .nil) (E' := [(0, (pg g1)), (1, (pg g2)), (2, (pg g4)), (3, (pg g5)), (16, (pg g6))]) (by kernel_rfl) ?_
            obtain ⟨t3, hx5, hm⟩ := bind_some hm
            refine o_stp ?_ (by kernel_rfl)
            refine s_call 17 66 #[pg g4, pg g5, pg g6] [4, 5, 1, 0] [2, 3] (by kernel_rfl) (by kernel_rfl) (fun w hs => opts_one_2_ok k p4 p5 p3 t3 hx5 B2 _ g4 A3 c3 g5 g6 A2 c2 hn1 hs2 w (St.cast (by kernel_rfl) hs)) (fun x hx => ?_)
            obtain ⟨B4, A6, c6, A7, c7⟩ := x
            obtain ⟨hx6, hn3, hs4⟩ := hx
            refine t_L (L' := [.blk g4 [vb t3.2.2.1.hM, v16 t3.2.2.1.ms, vb t3.2.2.1.hS, v8 t3.2.2.1.sc, vb t3.2.2.1.sO, .slice A6 t3.2.2.1.sk.length c6, vb t3.2.2.1.hT, v32 t3.2.2.1.va, v32 t3.2.2.1.ec, vb t3.2.2.1.hO, v8 t3.2.2.1.ki, v8 t3.2.2.1.ni, v8 t3.2.2.1.m.x0, v8 t3.2.2.1.m.x1, v8 t3.2.2.1.m.x2, v8 t3.2.2.1.m.x3, v8 t3.2.2.1.m.x4, v8 t3.2.2.1.m.x5, v8 t3.2.2.1.m.x6, v8 t3.2.2.1.m.x7, v8 t3.2.2.1.m.x8, v8 t3.2.2.1.m.x9, v8 t3.2.2.1.m.x10, v8 t3.2.2.1.m.x11] 31, .own A6 t3.2.2.1.sk.length c6 (rowOf encTB t3.2.2.1.sk) 2 84, .own (ag g5) 256 256 (rowOf encB t3.2.2.2.1) 1 93, .blk g6 [.slice A7 t3.2.2.2.2.xb.length c7] 110, .blk g1 [v64 p2] 37, .blk g2 [pg g6] 94]) (by kernel_rfl) ?_
            refine o_run 4 [0, 1, 2, 3, 4, 19] (l := []) .nil (E' := [(0, (pg g1)), (1, (pg g2)), (2, (pg g4)), (3, (pg g5)), (4, vb t3.1), (19, v64 t3.2.1)]) (by kernel_rfl) ?_
            refine o_stp ?_ (by kernel_rfl)
            refine s_store 4 g1 [v64 p2] 37 [(0, v64 t3.2.1)] (by kernel_rfl) (by kernel_rfl) (by kernel_rfl) ?_
            refine t_L (L' := [.blk g4 [vb t3.2.2.1.hM, v16 t3.2.2.1.ms, vb t3.2.2.1.hS, v8 t3.2.2.1.sc, vb t3.2.2.1.sO, .slice A6 t3.2.2.1.sk.length c6, vb t3.2.2.1.hT, v32 t3.2.2.1.va, v32 t3.2.2.1.ec, vb t3.2.2.1.hO, v8 t3.2.2.1.ki, v8 t3.2.2.1.ni, v8 t3.2.2.1.m.x0, v8 t3.2.2.1.m.x1, v8 t3.2.2.1.m.x2, v8 t3.2.2.1.m.x3, v8 t3.2.2.1.m.x4, v8 t3.2.2.1.m.x5, v8 t3.2.2.1.m.x6, v8 t3.2.2.1.m.x7, v8 t3.2.2.1.m.x8, v8 t3.2.2.1.m.x9, v8 t3.2.2.1.m.x10, v8 t3.2.2.1.m.x11] 31, .own A6 t3.2.2.1.sk.length c6 (rowOf encTB t3.2.2.1.sk) 2 84, .own (ag g5) 256 256 (rowOf encB t3.2.2.2.1) 1 93, .blk g6 [.slice A7 t3.2.2.2.2.xb.length c7] 110, .blk g1 [v64 t3.2.1] 37, .blk g2 [pg g6] 94]) (by kernel_rfl) ?_
            refine o_end (by kernel_rfl) ?_
            refine e_blk ?_
            refine t_drop [2, 4, 5, 3, 0, 1] (by kernel_rfl) ?_
            refine t_L (L' := [.own (ag g5) 256 256 (rowOf encB t3.2.2.2.1) 1 93, .blk g1 [v64 t3.2.1] 37, .blk g2 [pg g6] 94, .blk g6 [.slice A7 t3.2.2.2.2.xb.length c7] 110, .blk g4 [vb t3.2.2.1.hM, v16 t3.2.2.1.ms, vb t3.2.2.1.hS, v8 t3.2.2.1.sc, vb t3.2.2.1.sO, .slice A6 t3.2.2.1.sk.length c6, vb t3.2.2.1.hT, v32 t3.2.2.1.va, v32 t3.2.2.1.ec, vb t3.2.2.1.hO, v8 t3.2.2.1.ki, v8 t3.2.2.1.ni, v8 t3.2.2.1.m.x0, v8 t3.2.2.1.m.x1, v8 t3.2.2.1.m.x2, v8 t3.2.2.1.m.x3, v8 t3.2.2.1.m.x4, v8 t3.2.2.1.m.x5, v8 t3.2.2.1.m.x6, v8 t3.2.2.1.m.x7, v8 t3.2.2.1.m.x8, v8 t3.2.2.1.m.x9, v8 t3.2.2.1.m.x10, v8 t3.2.2.1.m.x11] 31, .own A6 t3.2.2.1.sk.length c6 (rowOf encTB t3.2.2.1.sk) 2 84]) (by kernel_rfl) ?_
            refine t_env [0, 1, 2, 3, 4] (E' := [(0, (pg g1)), (1, (pg g2)), (2, (pg g4)), (3, (pg g5)), (4, vb t3.1)]) (by kernel_rfl) ?_
            exact e_inv (fun a w ha hw => ⟨k, Nat.lt_succ_self k, t3.1, t3.2.1, t3.2.2.2.2, t3.2.2.1, t3.2.2.2.1, B4, g6, A7, c7, A6, c6, hm, (Ext.trans hx2 hx6), hs4, hn3, ha, hw⟩)
          · replace hm := ite_f hb3 hm
            refine w_exit 0 (by kernel_rfl) ?_
            refine e_x_seq ?_
            refine e_x_inv ?_
            refine e_x_here ?_
            refine t_drop [1, 2, 3, 0, 4, 5] (by kernel_rfl) ?_
            refine t_L (L' := [.own (ag g5) 256 256 (rowOf encB p5) 1 93, .blk g1 [v64 p2] 37, .blk g2 [pg g6] 94, .blk g6 [.slice A2 p3.xb.length c2] 110, .blk g4 [vb p4.hM, v16 p4.ms, vb p4.hS, v8 p4.sc, vb p4.sO, .slice A3 p4.sk.length c3, vb p4.hT, v32 p4.va, v32 p4.ec, vb p4.hO, v8 p4.ki, v8 p4.ni, v8 p4.m.x0, v8 p4.m.x1, v8 p4.m.x2, v8 p4.m.x3, v8 p4.m.x4, v8 p4.m.x5, v8 p4.m.x6, v8 p4.m.x7, v8 p4.m.x8, v8 p4.m.x9, v8 p4.m.x10, v8 p4.m.x11] 31, .own A3 p4.sk.length c3 (rowOf encTB p4.sk) 2 84]) (by kernel_rfl) ?_
            refine t_env [] (E' := []) (by kernel_rfl) ?_
            obtain rfl := Option.some.inj hm
            exact e_inv (fun a w ha hw => ⟨B2, g6, A2, c2, A3, c3, hx2, hs2, hn1, ha, hw⟩)
        · replace hm := ite_f hb2 hm
          refine o_run 4 [0, 1, 2, 3, 14] (l := []) .nil (E' := [(0, (pg g1)), (1, (pg g2)), (2, (pg g4)), (3, (pg g5)), (14, vb false)]) (by kernel_rfl) ?_
          refine o_end (by kernel_rfl) ?_
          refine e_seq ?_
          refine w_cond_f (.tmp 14) 98 99 (by kernel_rfl) (by kernel_rfl) ?_
          refine w_exit 0 (by kernel_rfl) ?_
          refine e_x_seq ?_
          refine e_x_inv ?_
          refine e_x_here ?_
          refine t_drop [0, 1, 2, 3, 4, 5] (by kernel_rfl) ?_
          refine t_L (L' := [.own (ag g5) 256 256 (rowOf encB p5) 1 93, .blk g1 [v64 p2] 37, .blk g2 [pg g6] 94, .blk g6 [.slice A2 p3.xb.length c2] 110, .blk g4 [vb p4.hM, v16 p4.ms, vb p4.hS, v8 p4.sc, vb p4.sO, .slice A3 p4.sk.length c3, vb p4.hT, v32 p4.va, v32 p4.ec, vb p4.hO, v8 p4.ki, v8 p4.ni, v8 p4.m.x0, v8 p4.m.x1, v8 p4.m.x2, v8 p4.m.x3, v8 p4.m.x4, v8 p4.m.x5, v8 p4.m.x6, v8 p4.m.x7, v8 p4.m.x8, v8 p4.m.x9, v8 p4.m.x10, v8 p4.m.x11] 31, .own A3 p4.sk.length c3 (rowOf encTB p4.sk) 2 84]) (by kernel_rfl) ?_
          refine t_env [] (E' := []) (by kernel_rfl) ?_
          obtain rfl := Option.some.inj hm
          exact e_inv (fun a w ha hw => ⟨B2, g6, A2, c2, A3, c3, hx2, hs2, hn1, ha, hw⟩)
      · replace hm := ite_f hb1 hm
        refine o_run 8 [0, 1, 2, 3, 14] (l := []) .nil (E' := [(0, (pg g1)), (1, (pg g2)), (2, (pg g4)), (3, (pg g5)), (14, vb false)]) (by kernel_rfl) ?_
        refine o_end (by kernel_rfl) ?_
        refine e_seq ?_
        refine w_cond_f (.tmp 14) 98 99 (by kernel_rfl) (by kernel_rfl) ?_
        refine w_exit 0 (by kernel_rfl) ?_
        refine e_x_seq ?_
        refine e_x_inv ?_
        refine e_x_here ?_
        refine t_drop [0, 1, 2, 3, 4, 5] (by kernel_rfl) ?_
        refine t_L (L' := [.own (ag g5) 256 256 (rowOf encB p5) 1 93, .blk g1 [v64 p2] 37, .blk g2 [pg g6] 94, .blk g6 [.slice A2 p3.xb.length c2] 110, .blk g4 [vb p4.hM, v16 p4.ms, vb p4.hS, v8 p4.sc, vb p4.sO, .slice A3 p4.sk.length c3, vb p4.hT, v32 p4.va, v32 p4.ec, vb p4.hO, v8 p4.ki, v8 p4.ni, v8 p4.m.x0, v8 p4.m.x1, v8 p4.m.x2, v8 p4.m.x3, v8 p4.m.x4, v8 p4.m.x5, v8 p4.m.x6, v8 p4.m.x7, v8 p4.m.x8, v8 p4.m.x9, v8 p4.m.x10, v8 p4.m.x11] 31, .own A3 p4.sk.length c3 (rowOf encTB p4.sk) 2 84]) (by kernel_rfl) ?_
        refine t_env [] (E' := []) (by kernel_rfl) ?_
        obtain rfl := Option.some.inj hm
        exact e_inv (fun a w ha hw => ⟨B2, g6, A2, c2, A3, c3, hx2, hs2, hn1, ha, hw⟩)
  · exact fun a w ha hw => ⟨true, a0, a1, (⟨a2.hM, a2.ms, a2.hS, a2.sc, a2.sO, ([] : List TB), a2.hT, a2.va, a2.ec, a2.hO, a2.ki, a2.ni, a2.m⟩ : TO), a3, B1, g3, A1, c1, none, 0, ht1, Ext.refl _, hs1, hl1, ha, hw⟩
def opts_Parse.f (k : Nat) (a0 : List Int) : Option (TO × Int) :=
  (if decide ((a0.length : Int) > 40) then (some ((⟨false, 0, false, 0, false, ([] : List TB), false, 0, 0, false, 0, 0, (⟨0, 0, 0, 0, 0, 0, 0, 0, 0, 0, 0, 0⟩ : TM)⟩ : TO), 3)) else ((octets_Read.f a0).bind fun t1 => ((opts_Parse_1.f k 0 t1 (⟨false, 0, false, 0, false, false, 0, 0, false, 0, 0, (⟨0, 0, 0, 0, 0, 0, 0, 0, 0, 0, 0, 0⟩ : TM)⟩ : TO_o) (List.replicate 256 (false : Bool))).bind fun t2 => (if t2.1 != 0 then (some ((⟨false, 0, false, 0, false, ([] : List TB), false, 0, 0, false, 0, 0, (⟨0, 0, 0, 0, 0, 0, 0, 0, 0, 0, 0, 0⟩ : TM)⟩ : TO), t2.1)) else (some (t2.2.2.1, 0))))))
theorem opts_Parse_ok (k : Nat) (a0 : List Int) (r : TO × Int) (hm : opts_Parse.f k a0 = some r) (B G : Asn) (A1 : Option Addr) (c1 : Nat) (hs1 : Sl (kI .u8) B A1 c1 a0) (w : World) (hs : St B G [] w) :
    Calls Try.prog 40 #[.slice A1 a0.length c1] w (Post (X := Asn × (Option Addr) × Nat) (fun x => .tuple #[.agg #[vb r.1.hM, v16 r.1.ms, vb r.1.hS, v8 r.1.sc, vb r.1.sO, .slice x.2.1 r.1.sk.length x.2.2, vb r.1.hT, v32 r.1.va, v32 r.1.ec, vb r.1.hO, v8 r.1.ki, v8 r.1.ni, v8 r.1.m.x0, v8 r.1.m.x1, v8 r.1.m.x2, v8 r.1.m.x3, v8 r.1.m.x4, v8 r.1.m.x5, v8 r.1.m.x6, v8 r.1.m.x7, v8 r.1.m.x8, v8 r.1.m.x9, v8 r.1.m.x10, v8 r.1.m.x11], v64 r.2]) (fun x => x.1) G (fun x => [.own x.2.1 r.1.sk.length x.2.2 (rowOf encTB r.1.sk) 2 84]) (fun x => (Ext B x.1))) := by
  unfold opts_Parse.f at hm
  refine calls_W (F := Try.f40) Try.func40 rfl (by kernel_rfl) (L := []) ?_ hs
  refine w_seq 2 3 (by kernel_rfl) ?_
  refine w_region (by kernel_rfl) ?_
  refine o_stp ?_ (by kernel_rfl)
  refine s_new 2 (fun g1 => (pg g1)) [vb false, v16 0, vb false, v8 0, vb false, .slice none 0 0, vb false, v32 0, v32 0, vb false, v8 0, v8 0, v8 0, v8 0, v8 0, v8 0, v8 0, v8 0, v8 0, v8 0, v8 0, v8 0, v8 0, v8 0] 31 (fun _ => by kernel_rfl) (fun g1 => ?_)
  refine o_run 1 [0, 2] (l := []) .nil (E' := [(0, .slice A1 a0.length c1), (2, (pg g1))]) (by kernel_rfl) ?_
  refine o_end (by kernel_rfl) ?_
  refine e_seq ?_
  refine w_seq 6 7 (by kernel_rfl) ?_
  refine w_seq 12 13 (by kernel_rfl) ?_
  refine w_region (by kernel_rfl) ?_
  refine o_run 3 [0, 2, 11] (l := []) .nil (E' := [(0, .slice A1 a0.length c1), (2, (pg g1)), (11, vb (decide ((a0.length : Int) > 40)))]) (by kernel_rfl) ?_
  refine o_end (by kernel_rfl) ?_
  refine e_seq ?_
  refine w_cond (.tmp 11) 26 27 (decide ((a0.length : Int) > 40)) (by kernel_rfl) (by kernel_rfl) (fun hb1 => ?_) (fun hb1 => ?_)
  · replace hm := ite_t hb1 hm
    refine w_seq 52 53 (by kernel_rfl) ?_
    refine w_region (by kernel_rfl) ?_
    refine o_run 1 [2, 12] (l := []) .nil (E' := [(2, (pg g1)), (12, .agg #[vb false, v16 0, vb false, v8 0, vb false, .slice none 0 0, vb false, v32 0, v32 0, vb false, v8 0, v8 0, v8 0, v8 0, v8 0, v8 0, v8 0, v8 0, v8 0, v8 0, v8 0, v8 0, v8 0, v8 0])]) (by kernel_rfl) ?_
    refine o_stp ?_ (by kernel_rfl)
    refine s_store 0 g1 [vb false, v16 0, vb false, v8 0, vb false, .slice none 0 0, vb false, v32 0, v32 0, vb false, v8 0, v8 0, v8 0, v8 0, v8 0, v8 0, v8 0, v8 0, v8 0, v8 0, v8 0, v8 0, v8 0, v8 0] 31 [(0, vb false), (1, v16 0), (2, vb false), (3, v8 0), (4, vb false), (5, .slice none 0 0), (6, vb false), (7, v32 0), (8, v32 0), (9, vb false), (10, v8 0), (11, v8 0), (12, v8 0), (13, v8 0), (14, v8 0), (15, v8 0), (16, v8 0), (17, v8 0), (18, v8 0), (19, v8 0), (20, v8 0), (21, v8 0), (22, v8 0), (23, v8 0)] (by kernel_rfl) (by kernel_rfl) (by kernel_rfl) ?_
    refine t_L (L' := [.blk g1 [vb false, v16 0, vb false, v8 0, vb false, .slice none 0 0, vb false, v32 0, v32 0, vb false, v8 0, v8 0, v8 0, v8 0, v8 0, v8 0, v8 0, v8 0, v8 0, v8 0, v8 0, v8 0, v8 0, v8 0] 31]) (by kernel_rfl) ?_
    refine o_run 1 [2, 3] (l := []) .nil (E' := [(2, (pg g1)), (3, v64 3)]) (by kernel_rfl) ?_
    refine o_end (by kernel_rfl) ?_
    refine e_seq ?_
    refine w_ret (by kernel_rfl) ?_
    refine t_nil 84 2 ?_
    refine t_L (L' := [.own none (([] : List TB).length) 0 (rowOf encTB ([] : List TB)) 2 84, .blk g1 [vb false, v16 0, vb false, v8 0, vb false, .slice none 0 0, vb false, v32 0, v32 0, vb false, v8 0, v8 0, v8 0, v8 0, v8 0, v8 0, v8 0, v8 0, v8 0, v8 0, v8 0, v8 0, v8 0, v8 0] 31]) (by kernel_rfl) ?_
    obtain rfl := Option.some.inj hm
    exact e_retL (B, none, 0) (.tuple #[.agg #[vb false, v16 0, vb false, v8 0, vb false, .slice none (([] : List TB).length) 0, vb false, v32 0, v32 0, vb false, v8 0, v8 0, v8 0, v8 0, v8 0, v8 0, v8 0, v8 0, v8 0, v8 0, v8 0, v8 0, v8 0, v8 0], v64 3]) [0] [(⟨g1, 0, none⟩, vb false), (⟨g1, 1, none⟩, v16 0), (⟨g1, 2, none⟩, vb false), (⟨g1, 3, none⟩, v8 0), (⟨g1, 4, none⟩, vb false), (⟨g1, 5, none⟩, .slice none (([] : List TB).length) 0), (⟨g1, 6, none⟩, vb false), (⟨g1, 7, none⟩, v32 0), (⟨g1, 8, none⟩, v32 0), (⟨g1, 9, none⟩, vb false), (⟨g1, 10, none⟩, v8 0), (⟨g1, 11, none⟩, v8 0), (⟨g1, 12, none⟩, v8 0), (⟨g1, 13, none⟩, v8 0), (⟨g1, 14, none⟩, v8 0), (⟨g1, 15, none⟩, v8 0), (⟨g1, 16, none⟩, v8 0), (⟨g1, 17, none⟩, v8 0), (⟨g1, 18, none⟩, v8 0), (⟨g1, 19, none⟩, v8 0), (⟨g1, 20, none⟩, v8 0), (⟨g1, 21, none⟩, v8 0), (⟨g1, 22, none⟩, v8 0), (⟨g1, 23, none⟩, v8 0)] (.one (at_blk (j := 1) rfl rfl) (.one (at_blk (j := 1) rfl rfl) (.one (at_blk (j := 1) rfl rfl) (.one (at_blk (j := 1) rfl rfl) (.one (at_blk (j := 1) rfl rfl) (.one (at_blk (j := 1) rfl rfl) (.one (at_blk (j := 1) rfl rfl) (.one (at_blk (j := 1) rfl rfl) (.one (at_blk (j := 1) rfl rfl) (.one (at_blk (j := 1) rfl rfl) (.one (at_blk (j := 1) rfl rfl) (.one (at_blk (j := 1) rfl rfl) (.one (at_blk (j := 1) rfl rfl) (.one (at_blk (j := 1) rfl rfl) (.one (at_blk (j := 1) rfl rfl) (.one (at_blk (j := 1) rfl rfl) (.one (at_blk (j := 1) rfl rfl) (.one (at_blk (j := 1) rfl rfl) (.one (at_blk (j := 1) rfl rfl) (.one (at_blk (j := 1) rfl rfl) (.one (at_blk (j := 1) rfl rfl) (.one (at_blk (j := 1) rfl rfl) (.one (at_blk (j := 1) rfl rfl) (.one (at_blk (j := 1) rfl rfl) .nil)))))))))))))))))))))))) (by kernel_rfl) (by kernel_rfl) rfl (by kernel_rfl) (by kernel_rfl) (Ext.refl _)
  · replace hm := ite_f hb1 hm
    refine w_skip (by kernel_rfl) ?_
    refine e_seq ?_
    refine w_seq 14 15 (by kernel_rfl) ?_
    refine w_region (by kernel_rfl) ?_
    refine o_stp ?_ (by kernel_rfl)
    refine s_new 4 (fun g2 => (pg g2)) [vb false, v16 0, vb false, v8 0, vb false, .slice none 0 0, vb false, v32 0, v32 0, vb false, v8 0, v8 0, v8 0, v8 0, v8 0, v8 0, v8 0, v8 0, v8 0, v8 0, v8 0, v8 0, v8 0, v8 0] 31 (fun _ => by kernel_rfl) (fun g2 => ?_)
    refine o_end (by kernel_rfl) ?_
    refine e_seq ?_
    refine w_seq 30 31 (by kernel_rfl) ?_
    refine w_region (by kernel_rfl) ?_
    refine o_stp ?_ (by kernel_rfl)
    refine s_new 5 (fun g3 => (pg g3)) (List.replicate 256 (vb false)) 93 (fun _ => by kernel_rfl) (fun g3 => ?_)
    refine t_arr (enc := encB) (x := (false : Bool)) rfl rfl ?_
    refine t_L (L' := [.own (ag g3) 256 256 (rowOf encB (List.replicate 256 (false : Bool))) 1 93, .blk g2 [vb false, v16 0, vb false, v8 0, vb false, .slice none 0 0, vb false, v32 0, v32 0, vb false, v8 0, v8 0, v8 0, v8 0, v8 0, v8 0, v8 0, v8 0, v8 0, v8 0, v8 0, v8 0, v8 0, v8 0] 31, .blk g1 [vb false, v16 0, vb false, v8 0, vb false, .slice none 0 0, vb false, v32 0, v32 0, vb false, v8 0, v8 0, v8 0, v8 0, v8 0, v8 0, v8 0, v8 0, v8 0, v8 0, v8 0, v8 0, v8 0, v8 0] 31]) (by kernel_rfl) ?_
    refine o_end (by kernel_rfl) ?_
    refine e_seq ?_
    refine w_seq 62 63 (by kernel_rfl) ?_
    refine w_region (by kernel_rfl) ?_
    refine o_stp ?_ (by kernel_rfl)
    refine s_new 6 (fun g4 => (pg g4)) [v64 0] 37 (fun _ => by kernel_rfl) (fun g4 => ?_)
    refine o_stp ?_ (by kernel_rfl)
    refine s_store 0 g4 [v64 0] 37 [(0, v64 0)] (by kernel_rfl) (by kernel_rfl) (by kernel_rfl) ?_
    refine t_L (L' := [.blk g4 [v64 0] 37, .own (ag g3) 256 256 (rowOf encB (List.replicate 256 (false : Bool))) 1 93, .blk g2 [vb false, v16 0, vb false, v8 0, vb false, .slice none 0 0, vb false, v32 0, v32 0, vb false, v8 0, v8 0, v8 0, v8 0, v8 0, v8 0, v8 0, v8 0, v8 0, v8 0, v8 0, v8 0, v8 0, v8 0] 31, .blk g1 [vb false, v16 0, vb false, v8 0, vb false, .slice none 0 0, vb false, v32 0, v32 0, vb false, v8 0, v8 0, v8 0, v8 0, v8 0, v8 0, v8 0, v8 0, v8 0, v8 0, v8 0, v8 0, v8 0, v8 0] 31]) (by kernel_rfl) ?_
    refine o_end (by kernel_rfl) ?_
    refine e_seq ?_
    refine w_seq 126 127 (by kernel_rfl) ?_
    refine w_region (by kernel_rfl) ?_
    refine o_run 1 [2, 4, 5, 6, 13] (l := []) .nil (E' := [(2, (pg g1)), (4, (pg g2)), (5, (pg g3)), (6, (pg g4)), (13, .slice A1 a0.length c1)]) (by kernel_rfl) ?_
    obtain ⟨t1, hx1, hm⟩ := bind_some hm
    refine o_stp ?_ (by kernel_rfl)
    refine s_call 14 62 #[.slice A1 a0.length c1] [] [0, 1, 2, 3] (by kernel_rfl) (by kernel_rfl) (fun w hs => octets_Read_ok a0 t1 hx1 B _ A1 c1 hs1 w (St.cast (by kernel_rfl) hs)) (fun x hx => ?_)
    obtain ⟨g5, A2, c2⟩ := x
    refine t_L (L' := [.blk g5 [.slice A2 t1.xb.length c2] 110, .own A2 t1.xb.length c2 (rowOf e8 t1.xb) 1 5, .blk g4 [v64 0] 37, .own (ag g3) 256 256 (rowOf encB (List.replicate 256 (false : Bool))) 1 93, .blk g2 [vb false, v16 0, vb false, v8 0, vb false, .slice none 0 0, vb false, v32 0, v32 0, vb false, v8 0, v8 0, v8 0, v8 0, v8 0, v8 0, v8 0, v8 0, v8 0, v8 0, v8 0, v8 0, v8 0, v8 0] 31, .blk g1 [vb false, v16 0, vb false, v8 0, vb false, .slice none 0 0, vb false, v32 0, v32 0, vb false, v8 0, v8 0, v8 0, v8 0, v8 0, v8 0, v8 0, v8 0, v8 0, v8 0, v8 0, v8 0, v8 0, v8 0] 31]) (by kernel_rfl) ?_
    refine o_stp ?_ (by kernel_rfl)
    refine s_new 7 (fun g6 => (pg g6)) [.pointer none] 94 (fun _ => by kernel_rfl) (fun g6 => ?_)
    refine o_stp ?_ (by kernel_rfl)
    refine s_store 0 g6 [.pointer none] 94 [(0, (pg g5))] (by kernel_rfl) (by kernel_rfl) (by kernel_rfl) ?_
    refine t_L (L' := [.blk g6 [pg g5] 94, .blk g5 [.slice A2 t1.xb.length c2] 110, .own A2 t1.xb.length c2 (rowOf e8 t1.xb) 1 5, .blk g4 [v64 0] 37, .own (ag g3) 256 256 (rowOf encB (List.replicate 256 (false : Bool))) 1 93, .blk g2 [vb false, v16 0, vb false, v8 0, vb false, .slice none 0 0, vb false, v32 0, v32 0, vb false, v8 0, v8 0, v8 0, v8 0, v8 0, v8 0, v8 0, v8 0, v8 0, v8 0, v8 0, v8 0, v8 0, v8 0] 31, .blk g1 [vb false, v16 0, vb false, v8 0, vb false, .slice none 0 0, vb false, v32 0, v32 0, vb false, v8 0, v8 0, v8 0, v8 0, v8 0, v8 0, v8 0, v8 0, v8 0, v8 0, v8 0, v8 0, v8 0, v8 0] 31]) (by kernel_rfl) ?_
    refine o_end (by kernel_rfl) ?_
    refine e_seq ?_
    refine w_seq 254 255 (by kernel_rfl) ?_
    refine w_region (by kernel_rfl) ?_
    refine o_run 1 [2, 4, 6, 15] (l := []) .nil (E' := [(2, (pg g1)), (4, (pg g2)), (6, (pg g4)), (15, .func (.func 64) #[] #[pg g4, pg g6, pg g2, pg g3])]) (by kernel_rfl) ?_
    obtain ⟨t2, hx2, hm⟩ := bind_some hm
    refine o_stp ?_ (by kernel_rfl)
    refine s_call 16 63 #[.func (.func 64) #[] #[pg g4, pg g6, pg g2, pg g3]] [3, 0, 1, 2, 5, 4] [6] (by kernel_rfl) (by kernel_rfl) (fun w hs => try_base (fun g => by kernel_rfl) (fun G w hs => opts_Parse_1_ok k 0 t1 (⟨false, 0, false, 0, false, false, 0, 0, false, 0, 0, (⟨0, 0, 0, 0, 0, 0, 0, 0, 0, 0, 0, 0⟩ : TM)⟩ : TO_o) (List.replicate 256 (false : Bool)) t2 hx2 B _ g4 g6 g5 A2 c2 g2 g3 (List.length_replicate.symm) w hs) (St.cast (by kernel_rfl) hs)) (fun x hx => ?_)
    obtain ⟨B1, g7, A3, c3, A4, c4⟩ := x
    obtain ⟨hx3, hs2, hn1⟩ := hx
    refine t_L (L' := [.blk g4 [v64 t2.1] 37, .blk g6 [pg g7] 94, .blk g7 [.slice A3 t2.2.1.xb.length c3] 110, .blk g2 [vb t2.2.2.1.hM, v16 t2.2.2.1.ms, vb t2.2.2.1.hS, v8 t2.2.2.1.sc, vb t2.2.2.1.sO, .slice A4 t2.2.2.1.sk.length c4, vb t2.2.2.1.hT, v32 t2.2.2.1.va, v32 t2.2.2.1.ec, vb t2.2.2.1.hO, v8 t2.2.2.1.ki, v8 t2.2.2.1.ni, v8 t2.2.2.1.m.x0, v8 t2.2.2.1.m.x1, v8 t2.2.2.1.m.x2, v8 t2.2.2.1.m.x3, v8 t2.2.2.1.m.x4, v8 t2.2.2.1.m.x5, v8 t2.2.2.1.m.x6, v8 t2.2.2.1.m.x7, v8 t2.2.2.1.m.x8, v8 t2.2.2.1.m.x9, v8 t2.2.2.1.m.x10, v8 t2.2.2.1.m.x11] 31, .own A4 t2.2.2.1.sk.length c4 (rowOf encTB t2.2.2.1.sk) 2 84, .own (ag g3) 256 256 (rowOf encB t2.2.2.2) 1 93, .blk g1 [vb false, v16 0, vb false, v8 0, vb false, .slice none 0 0, vb false, v32 0, v32 0, vb false, v8 0, v8 0, v8 0, v8 0, v8 0, v8 0, v8 0, v8 0, v8 0, v8 0, v8 0, v8 0, v8 0, v8 0] 31]) (by kernel_rfl) ?_
    refine o_run 1 [2, 4, 6, 8] (l := []) .nil (E' := [(2, (pg g1)), (4, (pg g2)), (6, (pg g4)), (8, v64 0)]) (by kernel_rfl) ?_
    refine o_end (by kernel_rfl) ?_
    refine e_seq ?_
    refine w_seq 510 511 (by kernel_rfl) ?_
    refine w_block 0 1020 (by kernel_rfl) ?_
    refine w_seq 2040 2041 (by kernel_rfl) ?_
    refine w_region (by kernel_rfl) ?_
    refine o_run 3 [2, 4, 6, 17] (l := []) .nil (E' := [(2, (pg g1)), (4, (pg g2)), (6, (pg g4)), (17, vb false)]) (by kernel_rfl) ?_
    refine o_end (by kernel_rfl) ?_
    refine e_seq ?_
    refine w_cond_f (.tmp 17) 4082 4083 (by kernel_rfl) (by kernel_rfl) ?_
    refine w_seq 8166 8167 (by kernel_rfl) ?_
    refine w_region (by kernel_rfl) ?_
    refine o_run 3 [2, 4, 6, 21] (l := [(⟨g4, 0, none⟩, v64 t2.1)]) (.one (at_blk (j := 0) rfl rfl) .nil) (E' := [(2, (pg g1)), (4, (pg g2)), (6, (pg g4)), (21, vb (t2.1 != 0))]) (by kernel_rfl) ?_
    refine o_end (by kernel_rfl) ?_
    refine e_seq ?_
    refine w_cond (.tmp 21) 16334 16335 (t2.1 != 0) (by kernel_rfl) (by kernel_rfl) (fun hb2 => ?_) (fun hb2 => ?_)
    · replace hm := ite_t hb2 hm
      refine w_seq 32668 32669 (by kernel_rfl) ?_
      refine w_tail 3 [.blk g4 [v64 t2.1] 37, .blk g6 [pg g7] 94, .blk g7 [.slice A3 t2.2.1.xb.length c3] 110, .blk g2 [vb t2.2.2.1.hM, v16 t2.2.2.1.ms, vb t2.2.2.1.hS, v8 t2.2.2.1.sc, vb t2.2.2.1.sO, .slice A4 t2.2.2.1.sk.length c4, vb t2.2.2.1.hT, v32 t2.2.2.1.va, v32 t2.2.2.1.ec, vb t2.2.2.1.hO, v8 t2.2.2.1.ki, v8 t2.2.2.1.ni, v8 t2.2.2.1.m.x0, v8 t2.2.2.1.m.x1, v8 t2.2.2.1.m.x2, v8 t2.2.2.1.m.x3, v8 t2.2.2.1.m.x4, v8 t2.2.2.1.m.x5, v8 t2.2.2.1.m.x6, v8 t2.2.2.1.m.x7, v8 t2.2.2.1.m.x8, v8 t2.2.2.1.m.x9, v8 t2.2.2.1.m.x10, v8 t2.2.2.1.m.x11] 31, .own A4 t2.2.2.1.sk.length c4 (rowOf encTB t2.2.2.1.sk) 2 84, .own (ag g3) 256 256 (rowOf encB t2.2.2.2) 1 93, .blk g1 [vb false, v16 0, vb false, v8 0, vb false, .slice none 0 0, vb false, v32 0, v32 0, vb false, v8 0, v8 0, v8 0, v8 0, v8 0, v8 0, v8 0, v8 0, v8 0, v8 0, v8 0, v8 0, v8 0, v8 0] 31] (by kernel_rfl) mixed (by kernel_rfl) ?_
      refine tt_run [0, 1] [2, 24, 25] [0, 1, 2, 3, 4, 5, 6] 1 (listed' := #[true, true, false, false]) (l := [(⟨g4, 0, none⟩, v64 t2.1)]) (.one (at_blk (j := 0) rfl rfl) .nil) (E' := [(2, (pg g1)), (24, .agg #[vb false, v16 0, vb false, v8 0, vb false, .slice none 0 0, vb false, v32 0, v32 0, vb false, v8 0, v8 0, v8 0, v8 0, v8 0, v8 0, v8 0, v8 0, v8 0, v8 0, v8 0, v8 0, v8 0, v8 0]), (25, v64 t2.1)]) (by kernel_rfl) (by kernel_rfl) (by kernel_rfl) (Ext.refl _) (by kernel_rfl) (by kernel_rfl) ?_
      refine tt_stp 2 [0, 1, 2, 3, 4, 5, 6] (Ext.refl _) (by kernel_rfl) (by kernel_rfl) (by kernel_rfl) (by kernel_rfl) ?_
      refine s_store 6 g1 [vb false, v16 0, vb false, v8 0, vb false, .slice none 0 0, vb false, v32 0, v32 0, vb false, v8 0, v8 0, v8 0, v8 0, v8 0, v8 0, v8 0, v8 0, v8 0, v8 0, v8 0, v8 0, v8 0, v8 0] 31 [(0, vb false), (1, v16 0), (2, vb false), (3, v8 0), (4, vb false), (5, .slice none 0 0), (6, vb false), (7, v32 0), (8, v32 0), (9, vb false), (10, v8 0), (11, v8 0), (12, v8 0), (13, v8 0), (14, v8 0), (15, v8 0), (16, v8 0), (17, v8 0), (18, v8 0), (19, v8 0), (20, v8 0), (21, v8 0), (22, v8 0), (23, v8 0)] (by kernel_rfl) (by kernel_rfl) (by kernel_rfl) ?_
      refine t_L (L' := [.blk g4 [v64 t2.1] 37, .blk g6 [pg g7] 94, .blk g7 [.slice A3 t2.2.1.xb.length c3] 110, .blk g2 [vb t2.2.2.1.hM, v16 t2.2.2.1.ms, vb t2.2.2.1.hS, v8 t2.2.2.1.sc, vb t2.2.2.1.sO, .slice A4 t2.2.2.1.sk.length c4, vb t2.2.2.1.hT, v32 t2.2.2.1.va, v32 t2.2.2.1.ec, vb t2.2.2.1.hO, v8 t2.2.2.1.ki, v8 t2.2.2.1.ni, v8 t2.2.2.1.m.x0, v8 t2.2.2.1.m.x1, v8 t2.2.2.1.m.x2, v8 t2.2.2.1.m.x3, v8 t2.2.2.1.m.x4, v8 t2.2.2.1.m.x5, v8 t2.2.2.1.m.x6, v8 t2.2.2.1.m.x7, v8 t2.2.2.1.m.x8, v8 t2.2.2.1.m.x9, v8 t2.2.2.1.m.x10, v8 t2.2.2.1.m.x11] 31, .own A4 t2.2.2.1.sk.length c4 (rowOf encTB t2.2.2.1.sk) 2 84, .own (ag g3) 256 256 (rowOf encB t2.2.2.2) 1 93, .blk g1 [vb false, v16 0, vb false, v8 0, vb false, .slice none 0 0, vb false, v32 0, v32 0, vb false, v8 0, v8 0, v8 0, v8 0, v8 0, v8 0, v8 0, v8 0, v8 0, v8 0, v8 0, v8 0, v8 0, v8 0] 31]) (by kernel_rfl) ?_
      refine tt_end [0, 1, 2, 3, 4, 5, 6] (Ext.refl _) (by kernel_rfl) (by kernel_rfl) (by kernel_rfl) ?_
      refine o_run 1 [2, 3] (l := []) .nil (E' := [(2, (pg g1)), (3, v64 t2.1)]) (by kernel_rfl) ?_
      refine o_end (by kernel_rfl) ?_
      refine e_seq ?_
      refine w_ret (by kernel_rfl) ?_
      refine t_nil 84 2 ?_
      refine t_L (L' := [.own none (([] : List TB).length) 0 (rowOf encTB ([] : List TB)) 2 84, .blk g4 [v64 t2.1] 37, .blk g6 [pg g7] 94, .blk g7 [.slice A3 t2.2.1.xb.length c3] 110, .blk g2 [vb t2.2.2.1.hM, v16 t2.2.2.1.ms, vb t2.2.2.1.hS, v8 t2.2.2.1.sc, vb t2.2.2.1.sO, .slice A4 t2.2.2.1.sk.length c4, vb t2.2.2.1.hT, v32 t2.2.2.1.va, v32 t2.2.2.1.ec, vb t2.2.2.1.hO, v8 t2.2.2.1.ki, v8 t2.2.2.1.ni, v8 t2.2.2.1.m.x0, v8 t2.2.2.1.m.x1, v8 t2.2.2.1.m.x2, v8 t2.2.2.1.m.x3, v8 t2.2.2.1.m.x4, v8 t2.2.2.1.m.x5, v8 t2.2.2.1.m.x6, v8 t2.2.2.1.m.x7, v8 t2.2.2.1.m.x8, v8 t2.2.2.1.m.x9, v8 t2.2.2.1.m.x10, v8 t2.2.2.1.m.x11] 31, .own A4 t2.2.2.1.sk.length c4 (rowOf encTB t2.2.2.1.sk) 2 84, .own (ag g3) 256 256 (rowOf encB t2.2.2.2) 1 93, .blk g1 [vb false, v16 0, vb false, v8 0, vb false, .slice none 0 0, vb false, v32 0, v32 0, vb false, v8 0, v8 0, v8 0, v8 0, v8 0, v8 0, v8 0, v8 0, v8 0, v8 0, v8 0, v8 0, v8 0, v8 0] 31]) (by kernel_rfl) ?_
      obtain rfl := Option.some.inj hm
      exact e_retL (B1, none, 0) (.tuple #[.agg #[vb false, v16 0, vb false, v8 0, vb false, .slice none (([] : List TB).length) 0, vb false, v32 0, v32 0, vb false, v8 0, v8 0, v8 0, v8 0, v8 0, v8 0, v8 0, v8 0, v8 0, v8 0, v8 0, v8 0, v8 0, v8 0], v64 t2.1]) [0] [(⟨g1, 0, none⟩, vb false), (⟨g1, 1, none⟩, v16 0), (⟨g1, 2, none⟩, vb false), (⟨g1, 3, none⟩, v8 0), (⟨g1, 4, none⟩, vb false), (⟨g1, 5, none⟩, .slice none (([] : List TB).length) 0), (⟨g1, 6, none⟩, vb false), (⟨g1, 7, none⟩, v32 0), (⟨g1, 8, none⟩, v32 0), (⟨g1, 9, none⟩, vb false), (⟨g1, 10, none⟩, v8 0), (⟨g1, 11, none⟩, v8 0), (⟨g1, 12, none⟩, v8 0), (⟨g1, 13, none⟩, v8 0), (⟨g1, 14, none⟩, v8 0), (⟨g1, 15, none⟩, v8 0), (⟨g1, 16, none⟩, v8 0), (⟨g1, 17, none⟩, v8 0), (⟨g1, 18, none⟩, v8 0), (⟨g1, 19, none⟩, v8 0), (⟨g1, 20, none⟩, v8 0), (⟨g1, 21, none⟩, v8 0), (⟨g1, 22, none⟩, v8 0), (⟨g1, 23, none⟩, v8 0)] (.one (at_blk (j := 7) rfl rfl) (.one (at_blk (j := 7) rfl rfl) (.one (at_blk (j := 7) rfl rfl) (.one (at_blk (j := 7) rfl rfl) (.one (at_blk (j := 7) rfl rfl) (.one (at_blk (j := 7) rfl rfl) (.one (at_blk (j := 7) rfl rfl) (.one (at_blk (j := 7) rfl rfl) (.one (at_blk (j := 7) rfl rfl) (.one (at_blk (j := 7) rfl rfl) (.one (at_blk (j := 7) rfl rfl) (.one (at_blk (j := 7) rfl rfl) (.one (at_blk (j := 7) rfl rfl) (.one (at_blk (j := 7) rfl rfl) (.one (at_blk (j := 7) rfl rfl) (.one (at_blk (j := 7) rfl rfl) (.one (at_blk (j := 7) rfl rfl) (.one (at_blk (j := 7) rfl rfl) (.one (at_blk (j := 7) rfl rfl) (.one (at_blk (j := 7) rfl rfl) (.one (at_blk (j := 7) rfl rfl) (.one (at_blk (j := 7) rfl rfl) (.one (at_blk (j := 7) rfl rfl) (.one (at_blk (j := 7) rfl rfl) .nil)))))))))))))))))))))))) (by kernel_rfl) (by kernel_rfl) rfl (by kernel_rfl) (by kernel_rfl) hx3
    · replace hm := ite_f hb2 hm
      refine w_skip (by kernel_rfl) ?_
      refine e_blk ?_
      refine e_seq ?_
      refine w_seq 1022 1023 (by kernel_rfl) ?_
      refine w_region (by kernel_rfl) ?_
      refine o_val 26 (.load 31 (.tmp 4)) (.agg #[vb t2.2.2.1.hM, v16 t2.2.2.1.ms, vb t2.2.2.1.hS, v8 t2.2.2.1.sc, vb t2.2.2.1.sO, .slice A4 t2.2.2.1.sk.length c4, vb t2.2.2.1.hT, v32 t2.2.2.1.va, v32 t2.2.2.1.ec, vb t2.2.2.1.hO, v8 t2.2.2.1.ki, v8 t2.2.2.1.ni, v8 t2.2.2.1.m.x0, v8 t2.2.2.1.m.x1, v8 t2.2.2.1.m.x2, v8 t2.2.2.1.m.x3, v8 t2.2.2.1.m.x4, v8 t2.2.2.1.m.x5, v8 t2.2.2.1.m.x6, v8 t2.2.2.1.m.x7, v8 t2.2.2.1.m.x8, v8 t2.2.2.1.m.x9, v8 t2.2.2.1.m.x10, v8 t2.2.2.1.m.x11]) (by kernel_rfl) (v_load (l := [vb t2.2.2.1.hM, v16 t2.2.2.1.ms, vb t2.2.2.1.hS, v8 t2.2.2.1.sc, vb t2.2.2.1.sO, .slice A4 t2.2.2.1.sk.length c4, vb t2.2.2.1.hT, v32 t2.2.2.1.va, v32 t2.2.2.1.ec, vb t2.2.2.1.hO, v8 t2.2.2.1.ki, v8 t2.2.2.1.ni, v8 t2.2.2.1.m.x0, v8 t2.2.2.1.m.x1, v8 t2.2.2.1.m.x2, v8 t2.2.2.1.m.x3, v8 t2.2.2.1.m.x4, v8 t2.2.2.1.m.x5, v8 t2.2.2.1.m.x6, v8 t2.2.2.1.m.x7, v8 t2.2.2.1.m.x8, v8 t2.2.2.1.m.x9, v8 t2.2.2.1.m.x10, v8 t2.2.2.1.m.x11]) (a := ⟨g2, 0, none⟩) (by kernel_rfl) (by kernel_rfl) (at_blk (j := 3) rfl rfl)) ?_
      refine o_stp ?_ (by kernel_rfl)
      refine s_store 6 g1 [vb false, v16 0, vb false, v8 0, vb false, .slice none 0 0, vb false, v32 0, v32 0, vb false, v8 0, v8 0, v8 0, v8 0, v8 0, v8 0, v8 0, v8 0, v8 0, v8 0, v8 0, v8 0, v8 0, v8 0] 31 [(0, vb t2.2.2.1.hM), (1, v16 t2.2.2.1.ms), (2, vb t2.2.2.1.hS), (3, v8 t2.2.2.1.sc), (4, vb t2.2.2.1.sO), (5, .slice A4 t2.2.2.1.sk.length c4), (6, vb t2.2.2.1.hT), (7, v32 t2.2.2.1.va), (8, v32 t2.2.2.1.ec), (9, vb t2.2.2.1.hO), (10, v8 t2.2.2.1.ki), (11, v8 t2.2.2.1.ni), (12, v8 t2.2.2.1.m.x0), (13, v8 t2.2.2.1.m.x1), (14, v8 t2.2.2.1.m.x2), (15, v8 t2.2.2.1.m.x3), (16, v8 t2.2.2.1.m.x4), (17, v8 t2.2.2.1.m.x5), (18, v8 t2.2.2.1.m.x6), (19, v8 t2.2.2.1.m.x7), (20, v8 t2.2.2.1.m.x8), (21, v8 t2.2.2.1.m.x9), (22, v8 t2.2.2.1.m.x10), (23, v8 t2.2.2.1.m.x11)] (by kernel_rfl) (by kernel_rfl) (by kernel_rfl) ?_
      refine t_L (L' := [.blk g4 [v64 t2.1] 37, .blk g6 [pg g7] 94, .blk g7 [.slice A3 t2.2.1.xb.length c3] 110, .blk g2 [vb t2.2.2.1.hM, v16 t2.2.2.1.ms, vb t2.2.2.1.hS, v8 t2.2.2.1.sc, vb t2.2.2.1.sO, .slice A4 t2.2.2.1.sk.length c4, vb t2.2.2.1.hT, v32 t2.2.2.1.va, v32 t2.2.2.1.ec, vb t2.2.2.1.hO, v8 t2.2.2.1.ki, v8 t2.2.2.1.ni, v8 t2.2.2.1.m.x0, v8 t2.2.2.1.m.x1, v8 t2.2.2.1.m.x2, v8 t2.2.2.1.m.x3, v8 t2.2.2.1.m.x4, v8 t2.2.2.1.m.x5, v8 t2.2.2.1.m.x6, v8 t2.2.2.1.m.x7, v8 t2.2.2.1.m.x8, v8 t2.2.2.1.m.x9, v8 t2.2.2.1.m.x10, v8 t2.2.2.1.m.x11] 31, .own A4 t2.2.2.1.sk.length c4 (rowOf encTB t2.2.2.1.sk) 2 84, .own (ag g3) 256 256 (rowOf encB t2.2.2.2) 1 93, .blk g1 [vb t2.2.2.1.hM, v16 t2.2.2.1.ms, vb t2.2.2.1.hS, v8 t2.2.2.1.sc, vb t2.2.2.1.sO, .slice A4 t2.2.2.1.sk.length c4, vb t2.2.2.1.hT, v32 t2.2.2.1.va, v32 t2.2.2.1.ec, vb t2.2.2.1.hO, v8 t2.2.2.1.ki, v8 t2.2.2.1.ni, v8 t2.2.2.1.m.x0, v8 t2.2.2.1.m.x1, v8 t2.2.2.1.m.x2, v8 t2.2.2.1.m.x3, v8 t2.2.2.1.m.x4, v8 t2.2.2.1.m.x5, v8 t2.2.2.1.m.x6, v8 t2.2.2.1.m.x7, v8 t2.2.2.1.m.x8, v8 t2.2.2.1.m.x9, v8 t2.2.2.1.m.x10, v8 t2.2.2.1.m.x11] 31]) (by kernel_rfl) ?_
      refine o_run 1 [2, 3] (l := []) .nil (E' := [(2, (pg g1)), (3, v64 0)]) (by kernel_rfl) ?_
      refine o_end (by kernel_rfl) ?_
      refine e_seq ?_
      refine w_ret (by kernel_rfl) ?_
      obtain rfl := Option.some.inj hm
      exact e_retL (B1, A4, c4) (.tuple #[.agg #[vb t2.2.2.1.hM, v16 t2.2.2.1.ms, vb t2.2.2.1.hS, v8 t2.2.2.1.sc, vb t2.2.2.1.sO, .slice A4 t2.2.2.1.sk.length c4, vb t2.2.2.1.hT, v32 t2.2.2.1.va, v32 t2.2.2.1.ec, vb t2.2.2.1.hO, v8 t2.2.2.1.ki, v8 t2.2.2.1.ni, v8 t2.2.2.1.m.x0, v8 t2.2.2.1.m.x1, v8 t2.2.2.1.m.x2, v8 t2.2.2.1.m.x3, v8 t2.2.2.1.m.x4, v8 t2.2.2.1.m.x5, v8 t2.2.2.1.m.x6, v8 t2.2.2.1.m.x7, v8 t2.2.2.1.m.x8, v8 t2.2.2.1.m.x9, v8 t2.2.2.1.m.x10, v8 t2.2.2.1.m.x11], v64 0]) [4] [(⟨g1, 0, none⟩, vb t2.2.2.1.hM), (⟨g1, 1, none⟩, v16 t2.2.2.1.ms), (⟨g1, 2, none⟩, vb t2.2.2.1.hS), (⟨g1, 3, none⟩, v8 t2.2.2.1.sc), (⟨g1, 4, none⟩, vb t2.2.2.1.sO), (⟨g1, 5, none⟩, .slice A4 t2.2.2.1.sk.length c4), (⟨g1, 6, none⟩, vb t2.2.2.1.hT), (⟨g1, 7, none⟩, v32 t2.2.2.1.va), (⟨g1, 8, none⟩, v32 t2.2.2.1.ec), (⟨g1, 9, none⟩, vb t2.2.2.1.hO), (⟨g1, 10, none⟩, v8 t2.2.2.1.ki), (⟨g1, 11, none⟩, v8 t2.2.2.1.ni), (⟨g1, 12, none⟩, v8 t2.2.2.1.m.x0), (⟨g1, 13, none⟩, v8 t2.2.2.1.m.x1), (⟨g1, 14, none⟩, v8 t2.2.2.1.m.x2), (⟨g1, 15, none⟩, v8 t2.2.2.1.m.x3), (⟨g1, 16, none⟩, v8 t2.2.2.1.m.x4), (⟨g1, 17, none⟩, v8 t2.2.2.1.m.x5), (⟨g1, 18, none⟩, v8 t2.2.2.1.m.x6), (⟨g1, 19, none⟩, v8 t2.2.2.1.m.x7), (⟨g1, 20, none⟩, v8 t2.2.2.1.m.x8), (⟨g1, 21, none⟩, v8 t2.2.2.1.m.x9), (⟨g1, 22, none⟩, v8 t2.2.2.1.m.x10), (⟨g1, 23, none⟩, v8 t2.2.2.1.m.x11)] (.one (at_blk (j := 6) rfl rfl) (.one (at_blk (j := 6) rfl rfl) (.one (at_blk (j := 6) rfl rfl) (.one (at_blk (j := 6) rfl rfl) (.one (at_blk (j := 6) rfl rfl) (.one (at_blk (j := 6) rfl rfl) (.one (at_blk (j := 6) rfl rfl) (.one (at_blk (j := 6) rfl rfl) (.one (at_blk (j := 6) rfl rfl) (.one (at_blk (j := 6) rfl rfl) (.one (at_blk (j := 6) rfl rfl) (.one (at_blk (j := 6) rfl rfl) (.one (at_blk (j := 6) rfl rfl) (.one (at_blk (j := 6) rfl rfl) (.one (at_blk (j := 6) rfl rfl) (.one (at_blk (j := 6) rfl rfl) (.one (at_blk (j := 6) rfl rfl) (.one (at_blk (j := 6) rfl rfl) (.one (at_blk (j := 6) rfl rfl) (.one (at_blk (j := 6) rfl rfl) (.one (at_blk (j := 6) rfl rfl) (.one (at_blk (j := 6) rfl rfl) (.one (at_blk (j := 6) rfl rfl) (.one (at_blk (j := 6) rfl rfl) .nil)))))))))))))))))))))))) (by kernel_rfl) (by kernel_rfl) rfl (by kernel_rfl) (by kernel_rfl) hx3
def seg_fields_1.f (k : Nat) (a0 : TR) (a1 : TS_o) : Option (TR × TS) :=
  ((oR_Num.f k a0 2).bind fun t1 => ((oR_Num_2.f k t1.2 2).bind fun t2 => ((oR_Num_2.f k t2.2 4).bind fun t3 => ((oR_Num_2.f k t3.2 4).bind fun t4 => ((oR_Num_2.f k t4.2 1).bind fun t5 => ((oR_Num_2.f k t5.2 1).bind fun t6 => ((oR_Num_2.f k t6.2 2).bind fun t7 => ((oR_Num_2.f k t7.2 2).bind fun t8 => ((oR_Num_2.f k t8.2 2).bind fun t9 => (some (t9.2, (⟨U16 t1.1, U16 t2.1, U32 t3.1, U32 t4.1, band .u8 (U8 t6.1) 63, U16 t7.1, U16 t9.1, (⟨a1.o.hM, a1.o.ms, a1.o.hS, a1.o.sc, a1.o.sO, ([] : List TB), a1.o.hT, a1.o.va, a1.o.ec, a1.o.hO, a1.o.ki, a1.o.ni, a1.o.m⟩ : TO), ([] : List Int)⟩ : TS))))))))))))
theorem seg_fields_1_ok (k : Nat) (a0 : TR) (a1 : TS_o) (r : TR × TS) (hm : seg_fields_1.f k a0 a1 = some r) (B G : Asn) (g1 : Nat) (g2 : Nat) (A1 : Option Addr) (c1 : Nat) (g3 : Nat) (w : World) (hs : St B G [.blk g1 [pg g2] 94, .blk g2 [.slice A1 a0.xb.length c1] 110, .own A1 a0.xb.length c1 (rowOf e8 a0.xb) 1 5, .blk g3 [v16 a1.sr, v16 a1.ds, v32 a1.sq, v32 a1.ak, v8 a1.fl, v16 a1.wi, v16 a1.ur, vb a1.o.hM, v16 a1.o.ms, vb a1.o.hS, v8 a1.o.sc, vb a1.o.sO, .slice none 0 0, vb a1.o.hT, v32 a1.o.va, v32 a1.o.ec, vb a1.o.hO, v8 a1.o.ki, v8 a1.o.ni, v8 a1.o.m.x0, v8 a1.o.m.x1, v8 a1.o.m.x2, v8 a1.o.m.x3, v8 a1.o.m.x4, v8 a1.o.m.x5, v8 a1.o.m.x6, v8 a1.o.m.x7, v8 a1.o.m.x8, v8 a1.o.m.x9, v8 a1.o.m.x10, v8 a1.o.m.x11, .slice none 0 0] 34] w) :
    Calls Try.prog 67 #[pg g1, pg g3] w (Post (X := Asn × Nat × (Option Addr) × Nat × (Option Addr) × Nat × (Option Addr) × Nat) (fun x => .tuple #[]) (fun x => x.1) G (fun x => [.blk g1 [pg x.2.1] 94, .blk x.2.1 [.slice x.2.2.1 r.1.xb.length x.2.2.2.1] 110, .blk g3 [v16 r.2.sr, v16 r.2.ds, v32 r.2.sq, v32 r.2.ak, v8 r.2.fl, v16 r.2.wi, v16 r.2.ur, vb r.2.o.hM, v16 r.2.o.ms, vb r.2.o.hS, v8 r.2.o.sc, vb r.2.o.sO, .slice x.2.2.2.2.1 r.2.o.sk.length x.2.2.2.2.2.1, vb r.2.o.hT, v32 r.2.o.va, v32 r.2.o.ec, vb r.2.o.hO, v8 r.2.o.ki, v8 r.2.o.ni, v8 r.2.o.m.x0, v8 r.2.o.m.x1, v8 r.2.o.m.x2, v8 r.2.o.m.x3, v8 r.2.o.m.x4, v8 r.2.o.m.x5, v8 r.2.o.m.x6, v8 r.2.o.m.x7, v8 r.2.o.m.x8, v8 r.2.o.m.x9, v8 r.2.o.m.x10, v8 r.2.o.m.x11, .slice x.2.2.2.2.2.2.1 r.2.da.length x.2.2.2.2.2.2.2] 34]) (fun x => (Ext B x.1) ∧ (Sl (kI .u8) x.1 x.2.2.1 x.2.2.2.1 r.1.xb) ∧ (Sl kTB x.1 x.2.2.2.2.1 x.2.2.2.2.2.1 r.2.o.sk) ∧ (Sl (kI .u8) x.1 x.2.2.2.2.2.2.1 x.2.2.2.2.2.2.2 r.2.da))) := by
  unfold seg_fields_1.f at hm
  refine calls_W (F := Try.f67) Try.func67 rfl (by kernel_rfl) (L := [.blk g1 [pg g2] 94, .blk g2 [.slice A1 a0.xb.length c1] 110, .own A1 a0.xb.length c1 (rowOf e8 a0.xb) 1 5, .blk g3 [v16 a1.sr, v16 a1.ds, v32 a1.sq, v32 a1.ak, v8 a1.fl, v16 a1.wi, v16 a1.ur, vb a1.o.hM, v16 a1.o.ms, vb a1.o.hS, v8 a1.o.sc, vb a1.o.sO, .slice none 0 0, vb a1.o.hT, v32 a1.o.va, v32 a1.o.ec, vb a1.o.hO, v8 a1.o.ki, v8 a1.o.ni, v8 a1.o.m.x0, v8 a1.o.m.x1, v8 a1.o.m.x2, v8 a1.o.m.x3, v8 a1.o.m.x4, v8 a1.o.m.x5, v8 a1.o.m.x6, v8 a1.o.m.x7, v8 a1.o.m.x8, v8 a1.o.m.x9, v8 a1.o.m.x10, v8 a1.o.m.x11, .slice none 0 0] 34]) ?_ hs
  refine w_seq 2 3 (by kernel_rfl) ?_
  obtain ⟨t1, hx1, hm⟩ := bind_some hm
  obtain ⟨t2, hx3, hm⟩ := bind_some hm
  refine w_tail 8 [.blk g1 [pg g2] 94] (by kernel_rfl) mixed (by kernel_rfl) ?_
  refine tt_run [0, 3] [0, 1, 2, 5] [0] 6 (listed' := #[true, false, false, true, false, false, false, false, false, false]) (l := [(⟨g1, 0, none⟩, (pg g2)), (⟨g1, 0, none⟩, (pg g2))]) (.one (at_blk (j := 0) rfl rfl) (.one (at_blk (j := 0) rfl rfl) .nil)) (E' := [(0, (pg g1)), (1, (pg g3)), (2, (pg g2)), (5, (pg g2))]) (by kernel_rfl) (by kernel_rfl) (by kernel_rfl) (Ext.refl _) (by kernel_rfl) (by kernel_rfl) ?_
  refine tt_stp 1 [0] (Ext.refl _) (by kernel_rfl) (by kernel_rfl) (by kernel_rfl) (by kernel_rfl) ?_
  refine s_call 3 68 #[pg g2, v64 2] [1, 2] [0, 3] (by kernel_rfl) (by kernel_rfl) (fun w hs => oR_Num_ok k a0 2 t1 hx1 B _ g2 A1 c1 w (St.cast (by kernel_rfl) hs)) (fun x hx => ?_)
  obtain ⟨B2, A4, c4⟩ := x
  obtain ⟨hx4, hs3⟩ := hx
  refine t_L (L' := [.blk g2 [.slice A4 t1.2.xb.length c4] 110, .blk g1 [pg g2] 94, .blk g3 [v16 a1.sr, v16 a1.ds, v32 a1.sq, v32 a1.ak, v8 a1.fl, v16 a1.wi, v16 a1.ur, vb a1.o.hM, v16 a1.o.ms, vb a1.o.hS, v8 a1.o.sc, vb a1.o.sO, .slice none 0 0, vb a1.o.hT, v32 a1.o.va, v32 a1.o.ec, vb a1.o.hO, v8 a1.o.ki, v8 a1.o.ni, v8 a1.o.m.x0, v8 a1.o.m.x1, v8 a1.o.m.x2, v8 a1.o.m.x3, v8 a1.o.m.x4, v8 a1.o.m.x5, v8 a1.o.m.x6, v8 a1.o.m.x7, v8 a1.o.m.x8, v8 a1.o.m.x9, v8 a1.o.m.x10, v8 a1.o.m.x11, .slice none 0 0] 34]) (by kernel_rfl) ?_
  refine tt_run [2] [0, 1, 4, 5] [1] 4 (listed' := #[true, true, true, true, false, false, false, false, false, false]) (l := []) .nil (E' := [(0, (pg g1)), (1, (pg g3)), (4, v16 (U16 t1.1)), (5, (pg g2))]) (by kernel_rfl) (by kernel_rfl) (by kernel_rfl) hx4 (by kernel_rfl) (by kernel_rfl) ?_
  refine tt_stp 4 [1] hx4 (by kernel_rfl) (by kernel_rfl) (by kernel_rfl) (by kernel_rfl) ?_
  refine s_call 6 68 #[pg g2, v64 2] [0] [1, 2] (by kernel_rfl) (by kernel_rfl) (fun w hs => oR_Num_2_ok k t1.2 2 t2 hx3 B2 _ g2 A4 c4 hs3 w (St.cast (by kernel_rfl) hs)) (fun x hx => ?_)
  obtain ⟨A5, c5⟩ := x
  have hs4 := hx
  refine t_L (L' := [.blk g2 [.slice A5 t2.2.xb.length c5] 110, .blk g1 [pg g2] 94, .blk g3 [v16 a1.sr, v16 a1.ds, v32 a1.sq, v32 a1.ak, v8 a1.fl, v16 a1.wi, v16 a1.ur, vb a1.o.hM, v16 a1.o.ms, vb a1.o.hS, v8 a1.o.sc, vb a1.o.sO, .slice none 0 0, vb a1.o.hT, v32 a1.o.va, v32 a1.o.ec, vb a1.o.hO, v8 a1.o.ki, v8 a1.o.ni, v8 a1.o.m.x0, v8 a1.o.m.x1, v8 a1.o.m.x2, v8 a1.o.m.x3, v8 a1.o.m.x4, v8 a1.o.m.x5, v8 a1.o.m.x6, v8 a1.o.m.x7, v8 a1.o.m.x8, v8 a1.o.m.x9, v8 a1.o.m.x10, v8 a1.o.m.x11, .slice none 0 0] 34]) (by kernel_rfl) ?_
  refine tt_run [5, 6] [0, 1, 4, 7, 8] [1] 1 (listed' := #[true, true, true, true, true, true, true, false, false, false]) (l := []) .nil (E' := [(0, (pg g1)), (1, (pg g3)), (4, v16 (U16 t1.1)), (7, v16 (U16 t2.1)), (8, (pg g3))]) (by kernel_rfl) (by kernel_rfl) (by kernel_rfl) hx4 (by kernel_rfl) (by kernel_rfl) ?_
  refine tt_stp 7 [1] hx4 (by kernel_rfl) (by kernel_rfl) (by kernel_rfl) (by kernel_rfl) ?_
  refine s_store 2 g3 [v16 a1.sr, v16 a1.ds, v32 a1.sq, v32 a1.ak, v8 a1.fl, v16 a1.wi, v16 a1.ur, vb a1.o.hM, v16 a1.o.ms, vb a1.o.hS, v8 a1.o.sc, vb a1.o.sO, .slice none 0 0, vb a1.o.hT, v32 a1.o.va, v32 a1.o.ec, vb a1.o.hO, v8 a1.o.ki, v8 a1.o.ni, v8 a1.o.m.x0, v8 a1.o.m.x1, v8 a1.o.m.x2, v8 a1.o.m.x3, v8 a1.o.m.x4, v8 a1.o.m.x5, v8 a1.o.m.x6, v8 a1.o.m.x7, v8 a1.o.m.x8, v8 a1.o.m.x9, v8 a1.o.m.x10, v8 a1.o.m.x11, .slice none 0 0] 34 [(0, v16 (U16 t1.1))] (by kernel_rfl) (by kernel_rfl) (by kernel_rfl) ?_
  refine t_L (L' := [.blk g2 [.slice A5 t2.2.xb.length c5] 110, .blk g1 [pg g2] 94, .blk g3 [v16 (U16 t1.1), v16 a1.ds, v32 a1.sq, v32 a1.ak, v8 a1.fl, v16 a1.wi, v16 a1.ur, vb a1.o.hM, v16 a1.o.ms, vb a1.o.hS, v8 a1.o.sc, vb a1.o.sO, .slice none 0 0, vb a1.o.hT, v32 a1.o.va, v32 a1.o.ec, vb a1.o.hO, v8 a1.o.ki, v8 a1.o.ni, v8 a1.o.m.x0, v8 a1.o.m.x1, v8 a1.o.m.x2, v8 a1.o.m.x3, v8 a1.o.m.x4, v8 a1.o.m.x5, v8 a1.o.m.x6, v8 a1.o.m.x7, v8 a1.o.m.x8, v8 a1.o.m.x9, v8 a1.o.m.x10, v8 a1.o.m.x11, .slice none 0 0] 34]) (by kernel_rfl) ?_
  refine tt_end [1] hx4 (by kernel_rfl) (by kernel_rfl) (by kernel_rfl) ?_
  refine o_run 1 [0, 1, 7, 9] (l := []) .nil (E' := [(0, (pg g1)), (1, (pg g3)), (7, v16 (U16 t2.1)), (9, .pointer (some ⟨g3, 1, none⟩))]) (by kernel_rfl) ?_
  refine o_stp ?_ (by kernel_rfl)
  refine s_store 2 g3 [v16 (U16 t1.1), v16 a1.ds, v32 a1.sq, v32 a1.ak, v8 a1.fl, v16 a1.wi, v16 a1.ur, vb a1.o.hM, v16 a1.o.ms, vb a1.o.hS, v8 a1.o.sc, vb a1.o.sO, .slice none 0 0, vb a1.o.hT, v32 a1.o.va, v32 a1.o.ec, vb a1.o.hO, v8 a1.o.ki, v8 a1.o.ni, v8 a1.o.m.x0, v8 a1.o.m.x1, v8 a1.o.m.x2, v8 a1.o.m.x3, v8 a1.o.m.x4, v8 a1.o.m.x5, v8 a1.o.m.x6, v8 a1.o.m.x7, v8 a1.o.m.x8, v8 a1.o.m.x9, v8 a1.o.m.x10, v8 a1.o.m.x11, .slice none 0 0] 34 [(1, v16 (U16 t2.1))] (by kernel_rfl) (by kernel_rfl) (by kernel_rfl) ?_
  refine t_L (L' := [.blk g2 [.slice A5 t2.2.xb.length c5] 110, .blk g1 [pg g2] 94, .blk g3 [v16 (U16 t1.1), v16 (U16 t2.1), v32 a1.sq, v32 a1.ak, v8 a1.fl, v16 a1.wi, v16 a1.ur, vb a1.o.hM, v16 a1.o.ms, vb a1.o.hS, v8 a1.o.sc, vb a1.o.sO, .slice none 0 0, vb a1.o.hT, v32 a1.o.va, v32 a1.o.ec, vb a1.o.hO, v8 a1.o.ki, v8 a1.o.ni, v8 a1.o.m.x0, v8 a1.o.m.x1, v8 a1.o.m.x2, v8 a1.o.m.x3, v8 a1.o.m.x4, v8 a1.o.m.x5, v8 a1.o.m.x6, v8 a1.o.m.x7, v8 a1.o.m.x8, v8 a1.o.m.x9, v8 a1.o.m.x10, v8 a1.o.m.x11, .slice none 0 0] 34]) (by kernel_rfl) ?_
  refine o_end (by kernel_rfl) ?_
  refine e_seq ?_
  refine w_seq 6 7 (by kernel_rfl) ?_
  obtain ⟨t3, hx5, hm⟩ := bind_some hm
  obtain ⟨t4, hx6, hm⟩ := bind_some hm
  refine w_tail 8 [.blk g1 [pg g2] 94] (by kernel_rfl) mixed (by kernel_rfl) ?_
  refine tt_run [0, 3] [0, 1, 10, 13] [1] 6 (listed' := #[true, false, false, true, false, false, false, false, false, false]) (l := [(⟨g1, 0, none⟩, (pg g2)), (⟨g1, 0, none⟩, (pg g2))]) (.one (at_blk (j := 0) rfl rfl) (.one (at_blk (j := 0) rfl rfl) .nil)) (E' := [(0, (pg g1)), (1, (pg g3)), (10, (pg g2)), (13, (pg g2))]) (by kernel_rfl) (by kernel_rfl) (by kernel_rfl) (Ext.refl _) (by kernel_rfl) (by kernel_rfl) ?_
  refine tt_stp 1 [1] (Ext.refl _) (by kernel_rfl) (by kernel_rfl) (by kernel_rfl) (by kernel_rfl) ?_
  refine s_call 11 68 #[pg g2, v64 4] [0] [1, 2] (by kernel_rfl) (by kernel_rfl) (fun w hs => oR_Num_2_ok k t2.2 4 t3 hx5 B2 _ g2 A5 c5 hs4 w (St.cast (by kernel_rfl) hs)) (fun x hx => ?_)
  obtain ⟨A8, c8⟩ := x
  have hs7 := hx
  refine t_L (L' := [.blk g2 [.slice A8 t3.2.xb.length c8] 110, .blk g1 [pg g2] 94, .blk g3 [v16 (U16 t1.1), v16 (U16 t2.1), v32 a1.sq, v32 a1.ak, v8 a1.fl, v16 a1.wi, v16 a1.ur, vb a1.o.hM, v16 a1.o.ms, vb a1.o.hS, v8 a1.o.sc, vb a1.o.sO, .slice none 0 0, vb a1.o.hT, v32 a1.o.va, v32 a1.o.ec, vb a1.o.hO, v8 a1.o.ki, v8 a1.o.ni, v8 a1.o.m.x0, v8 a1.o.m.x1, v8 a1.o.m.x2, v8 a1.o.m.x3, v8 a1.o.m.x4, v8 a1.o.m.x5, v8 a1.o.m.x6, v8 a1.o.m.x7, v8 a1.o.m.x8, v8 a1.o.m.x9, v8 a1.o.m.x10, v8 a1.o.m.x11, .slice none 0 0] 34]) (by kernel_rfl) ?_
  refine tt_run [2] [0, 1, 12, 13] [1] 4 (listed' := #[true, true, true, true, false, false, false, false, false, false]) (l := []) .nil (E' := [(0, (pg g1)), (1, (pg g3)), (12, v32 (U32 t3.1)), (13, (pg g2))]) (by kernel_rfl) (by kernel_rfl) (by kernel_rfl) (Ext.refl _) (by kernel_rfl) (by kernel_rfl) ?_
  refine tt_stp 4 [1] (Ext.refl _) (by kernel_rfl) (by kernel_rfl) (by kernel_rfl) (by kernel_rfl) ?_
  refine s_call 14 68 #[pg g2, v64 4] [0] [1, 2] (by kernel_rfl) (by kernel_rfl) (fun w hs => oR_Num_2_ok k t3.2 4 t4 hx6 B2 _ g2 A8 c8 hs7 w (St.cast (by kernel_rfl) hs)) (fun x hx => ?_)
  obtain ⟨A9, c9⟩ := x
  have hs8 := hx
  refine t_L (L' := [.blk g2 [.slice A9 t4.2.xb.length c9] 110, .blk g1 [pg g2] 94, .blk g3 [v16 (U16 t1.1), v16 (U16 t2.1), v32 a1.sq, v32 a1.ak, v8 a1.fl, v16 a1.wi, v16 a1.ur, vb a1.o.hM, v16 a1.o.ms, vb a1.o.hS, v8 a1.o.sc, vb a1.o.sO, .slice none 0 0, vb a1.o.hT, v32 a1.o.va, v32 a1.o.ec, vb a1.o.hO, v8 a1.o.ki, v8 a1.o.ni, v8 a1.o.m.x0, v8 a1.o.m.x1, v8 a1.o.m.x2, v8 a1.o.m.x3, v8 a1.o.m.x4, v8 a1.o.m.x5, v8 a1.o.m.x6, v8 a1.o.m.x7, v8 a1.o.m.x8, v8 a1.o.m.x9, v8 a1.o.m.x10, v8 a1.o.m.x11, .slice none 0 0] 34]) (by kernel_rfl) ?_
  refine tt_run [5, 6] [0, 1, 12, 15, 16] [1] 1 (listed' := #[true, true, true, true, true, true, true, false, false, false]) (l := []) .nil (E' := [(0, (pg g1)), (1, (pg g3)), (12, v32 (U32 t3.1)), (15, v32 (U32 t4.1)), (16, .pointer (some ⟨g3, 2, none⟩))]) (by kernel_rfl) (by kernel_rfl) (by kernel_rfl) (Ext.refl _) (by kernel_rfl) (by kernel_rfl) ?_
  refine tt_stp 7 [1] (Ext.refl _) (by kernel_rfl) (by kernel_rfl) (by kernel_rfl) (by kernel_rfl) ?_
  refine s_store 2 g3 [v16 (U16 t1.1), v16 (U16 t2.1), v32 a1.sq, v32 a1.ak, v8 a1.fl, v16 a1.wi, v16 a1.ur, vb a1.o.hM, v16 a1.o.ms, vb a1.o.hS, v8 a1.o.sc, vb a1.o.sO, .slice none 0 0, vb a1.o.hT, v32 a1.o.va, v32 a1.o.ec, vb a1.o.hO, v8 a1.o.ki, v8 a1.o.ni, v8 a1.o.m.x0, v8 a1.o.m.x1, v8 a1.o.m.x2, v8 a1.o.m.x3, v8 a1.o.m.x4, v8 a1.o.m.x5, v8 a1.o.m.x6, v8 a1.o.m.x7, v8 a1.o.m.x8, v8 a1.o.m.x9, v8 a1.o.m.x10, v8 a1.o.m.x11, .slice none 0 0] 34 [(2, v32 (U32 t3.1))] (by kernel_rfl) (by kernel_rfl) (by kernel_rfl) ?_
  refine t_L (L' := [.blk g2 [.slice A9 t4.2.xb.length c9] 110, .blk g1 [pg g2] 94, .blk g3 [v16 (U16 t1.1), v16 (U16 t2.1), v32 (U32 t3.1), v32 a1.ak, v8 a1.fl, v16 a1.wi, v16 a1.ur, vb a1.o.hM, v16 a1.o.ms, vb a1.o.hS, v8 a1.o.sc, vb a1.o.sO, .slice none 0 0, vb a1.o.hT, v32 a1.o.va, v32 a1.o.ec, vb a1.o.hO, v8 a1.o.ki, v8 a1.o.ni, v8 a1.o.m.x0, v8 a1.o.m.x1, v8 a1.o.m.x2, v8 a1.o.m.x3, v8 a1.o.m.x4, v8 a1.o.m.x5, v8 a1.o.m.x6, v8 a1.o.m.x7, v8 a1.o.m.x8, v8 a1.o.m.x9, v8 a1.o.m.x10, v8 a1.o.m.x11, .slice none 0 0] 34]) (by kernel_rfl) ?_
  refine tt_end [1] (Ext.refl _) (by kernel_rfl) (by kernel_rfl) (by kernel_rfl) ?_
  refine o_run 1 [0, 1, 15, 17] (l := []) .nil (E' := [(0, (pg g1)), (1, (pg g3)), (15, v32 (U32 t4.1)), (17, .pointer (some ⟨g3, 3, none⟩))]) (by kernel_rfl) ?_
  refine o_stp ?_ (by kernel_rfl)
  refine s_store 2 g3 [v16 (U16 t1.1), v16 (U16 t2.1), v32 (U32 t3.1), v32 a1.ak, v8 a1.fl, v16 a1.wi, v16 a1.ur, vb a1.o.hM, v16 a1.o.ms, vb a1.o.hS, v8 a1.o.sc, vb a1.o.sO, .slice none 0 0, vb a1.o.hT, v32 a1.o.va, v32 a1.o.ec, vb a1.o.hO, v8 a1.o.ki, v8 a1.o.ni, v8 a1.o.m.x0, v8 a1.o.m.x1, v8 a1.o.m.x2, v8 a1.o.m.x3, v8 a1.o.m.x4, v8 a1.o.m.x5, v8 a1.o.m.x6, v8 a1.o.m.x7, v8 a1.o.m.x8, v8 a1.o.m.x9, v8 a1.o.m.x10, v8 a1.o.m.x11, .slice none 0 0] 34 [(3, v32 (U32 t4.1))] (by kernel_rfl) (by kernel_rfl) (by kernel_rfl) ?_
  refine t_L (L' := [.blk g2 [.slice A9 t4.2.xb.length c9] 110, .blk g1 [pg g2] 94, .blk g3 [v16 (U16 t1.1), v16 (U16 t2.1), v32 (U32 t3.1), v32 (U32 t4.1), v8 a1.fl, v16 a1.wi, v16 a1.ur, vb a1.o.hM, v16 a1.o.ms, vb a1.o.hS, v8 a1.o.sc, vb a1.o.sO, .slice none 0 0, vb a1.o.hT, v32 a1.o.va, v32 a1.o.ec, vb a1.o.hO, v8 a1.o.ki, v8 a1.o.ni, v8 a1.o.m.x0, v8 a1.o.m.x1, v8 a1.o.m.x2, v8 a1.o.m.x3, v8 a1.o.m.x4, v8 a1.o.m.x5, v8 a1.o.m.x6, v8 a1.o.m.x7, v8 a1.o.m.x8, v8 a1.o.m.x9, v8 a1.o.m.x10, v8 a1.o.m.x11, .slice none 0 0] 34]) (by kernel_rfl) ?_
  refine o_end (by kernel_rfl) ?_
  refine e_seq ?_
  refine w_seq 14 15 (by kernel_rfl) ?_
  refine w_region (by kernel_rfl) ?_
  refine o_run 1 [0, 1, 18] (l := [(⟨g1, 0, none⟩, (pg g2))]) (.one (at_blk (j := 1) rfl rfl) .nil) (E' := [(0, (pg g1)), (1, (pg g3)), (18, (pg g2))]) (by kernel_rfl) ?_
  obtain ⟨t5, hx7, hm⟩ := bind_some hm
  refine o_stp ?_ (by kernel_rfl)
  refine s_call 19 68 #[pg g2, v64 1] [0] [1, 2] (by kernel_rfl) (by kernel_rfl) (fun w hs => oR_Num_2_ok k t4.2 1 t5 hx7 B2 _ g2 A9 c9 hs8 w (St.cast (by kernel_rfl) hs)) (fun x hx => ?_)
  obtain ⟨A10, c10⟩ := x
  have hs9 := hx
  refine t_L (L' := [.blk g2 [.slice A10 t5.2.xb.length c10] 110, .blk g1 [pg g2] 94, .blk g3 [v16 (U16 t1.1), v16 (U16 t2.1), v32 (U32 t3.1), v32 (U32 t4.1), v8 a1.fl, v16 a1.wi, v16 a1.ur, vb a1.o.hM, v16 a1.o.ms, vb a1.o.hS, v8 a1.o.sc, vb a1.o.sO, .slice none 0 0, vb a1.o.hT, v32 a1.o.va, v32 a1.o.ec, vb a1.o.hO, v8 a1.o.ki, v8 a1.o.ni, v8 a1.o.m.x0, v8 a1.o.m.x1, v8 a1.o.m.x2, v8 a1.o.m.x3, v8 a1.o.m.x4, v8 a1.o.m.x5, v8 a1.o.m.x6, v8 a1.o.m.x7, v8 a1.o.m.x8, v8 a1.o.m.x9, v8 a1.o.m.x10, v8 a1.o.m.x11, .slice none 0 0] 34]) (by kernel_rfl) ?_
  refine o_end (by kernel_rfl) ?_
  refine e_seq ?_
  refine w_seq 30 31 (by kernel_rfl) ?_
  refine w_region (by kernel_rfl) ?_
  refine o_run 1 [0, 1, 20] (l := [(⟨g1, 0, none⟩, (pg g2))]) (.one (at_blk (j := 1) rfl rfl) .nil) (E' := [(0, (pg g1)), (1, (pg g3)), (20, (pg g2))]) (by kernel_rfl) ?_
  obtain ⟨t6, hx8, hm⟩ := bind_some hm
  refine o_stp ?_ (by kernel_rfl)
  refine s_call 21 68 #[pg g2, v64 1] [0] [1, 2] (by kernel_rfl) (by kernel_rfl) (fun w hs => oR_Num_2_ok k t5.2 1 t6 hx8 B2 _ g2 A10 c10 hs9 w (St.cast (by kernel_rfl) hs)) (fun x hx => ?_)
  obtain ⟨A11, c11⟩ := x
  have hs10 := hx
  refine t_L (L' := [.blk g2 [.slice A11 t6.2.xb.length c11] 110, .blk g1 [pg g2] 94, .blk g3 [v16 (U16 t1.1), v16 (U16 t2.1), v32 (U32 t3.1), v32 (U32 t4.1), v8 a1.fl, v16 a1.wi, v16 a1.ur, vb a1.o.hM, v16 a1.o.ms, vb a1.o.hS, v8 a1.o.sc, vb a1.o.sO, .slice none 0 0, vb a1.o.hT, v32 a1.o.va, v32 a1.o.ec, vb a1.o.hO, v8 a1.o.ki, v8 a1.o.ni, v8 a1.o.m.x0, v8 a1.o.m.x1, v8 a1.o.m.x2, v8 a1.o.m.x3, v8 a1.o.m.x4, v8 a1.o.m.x5, v8 a1.o.m.x6, v8 a1.o.m.x7, v8 a1.o.m.x8, v8 a1.o.m.x9, v8 a1.o.m.x10, v8 a1.o.m.x11, .slice none 0 0] 34]) (by kernel_rfl) ?_
  refine o_run 3 [0, 1, 23, 24] (l := []) .nil (E' := [(0, (pg g1)), (1, (pg g3)), (23, v8 (band .u8 (U8 t6.1) 63)), (24, .pointer (some ⟨g3, 4, none⟩))]) (by kernel_rfl) ?_
  refine o_stp ?_ (by kernel_rfl)
  refine s_store 2 g3 [v16 (U16 t1.1), v16 (U16 t2.1), v32 (U32 t3.1), v32 (U32 t4.1), v8 a1.fl, v16 a1.wi, v16 a1.ur, vb a1.o.hM, v16 a1.o.ms, vb a1.o.hS, v8 a1.o.sc, vb a1.o.sO, .slice none 0 0, vb a1.o.hT, v32 a1.o.va, v32 a1.o.ec, vb a1.o.hO, v8 a1.o.ki, v8 a1.o.ni, v8 a1.o.m.x0, v8 a1.o.m.x1, v8 a1.o.m.x2, v8 a1.o.m.x3, v8 a1.o.m.x4, v8 a1.o.m.x5, v8 a1.o.m.x6, v8 a1.o.m.x7, v8 a1.o.m.x8, v8 a1.o.m.x9, v8 a1.o.m.x10, v8 a1.o.m.x11, .slice none 0 0] 34 [(4, v8 (band .u8 (U8 t6.1) 63))] (by kernel_rfl) (by kernel_rfl) (by kernel_rfl) ?_
  refine t_L (L' := [.blk g2 [.slice A11 t6.2.xb.length c11] 110, .blk g1 [pg g2] 94, .blk g3 [v16 (U16 t1.1), v16 (U16 t2.1), v32 (U32 t3.1), v32 (U32 t4.1), v8 (band .u8 (U8 t6.1) 63), v16 a1.wi, v16 a1.ur, vb a1.o.hM, v16 a1.o.ms, vb a1.o.hS, v8 a1.o.sc, vb a1.o.sO, .slice none 0 0, vb a1.o.hT, v32 a1.o.va, v32 a1.o.ec, vb a1.o.hO, v8 a1.o.ki, v8 a1.o.ni, v8 a1.o.m.x0, v8 a1.o.m.x1, v8 a1.o.m.x2, v8 a1.o.m.x3, v8 a1.o.m.x4, v8 a1.o.m.x5, v8 a1.o.m.x6, v8 a1.o.m.x7, v8 a1.o.m.x8, v8 a1.o.m.x9, v8 a1.o.m.x10, v8 a1.o.m.x11, .slice none 0 0] 34]) (by kernel_rfl) ?_
  refine o_end (by kernel_rfl) ?_
  refine e_seq ?_
  refine w_seq 62 63 (by kernel_rfl) ?_
  refine w_region (by kernel_rfl) ?_
  refine o_run 1 [0, 1, 25] (l := [(⟨g1, 0, none⟩, (pg g2))]) (.one (at_blk (j := 1) rfl rfl) .nil) (E' := [(0, (pg g1)), (1, (pg g3)), (25, (pg g2))]) (by kernel_rfl) ?_
  obtain ⟨t7, hx9, hm⟩ := bind_some hm
  refine o_stp ?_ (by kernel_rfl)
  refine s_call 26 68 #[pg g2, v64 2] [0] [1, 2] (by kernel_rfl) (by kernel_rfl) (fun w hs => oR_Num_2_ok k t6.2 2 t7 hx9 B2 _ g2 A11 c11 hs10 w (St.cast (by kernel_rfl) hs)) (fun x hx => ?_)
  obtain ⟨A12, c12⟩ := x
  have hs11 := hx
  refine t_L (L' := [.blk g2 [.slice A12 t7.2.xb.length c12] 110, .blk g1 [pg g2] 94, .blk g3 [v16 (U16 t1.1), v16 (U16 t2.1), v32 (U32 t3.1), v32 (U32 t4.1), v8 (band .u8 (U8 t6.1) 63), v16 a1.wi, v16 a1.ur, vb a1.o.hM, v16 a1.o.ms, vb a1.o.hS, v8 a1.o.sc, vb a1.o.sO, .slice none 0 0, vb a1.o.hT, v32 a1.o.va, v32 a1.o.ec, vb a1.o.hO, v8 a1.o.ki, v8 a1.o.ni, v8 a1.o.m.x0, v8 a1.o.m.x1, v8 a1.o.m.x2, v8 a1.o.m.x3, v8 a1.o.m.x4, v8 a1.o.m.x5, v8 a1.o.m.x6, v8 a1.o.m.x7, v8 a1.o.m.x8, v8 a1.o.m.x9, v8 a1.o.m.x10, v8 a1.o.m.x11, .slice none 0 0] 34]) (by kernel_rfl) ?_
  refine o_run 2 [0, 1, 27, 28] (l := []) .nil (E' := [(0, (pg g1)), (1, (pg g3)), (27, v16 (U16 t7.1)), (28, .pointer (some ⟨g3, 5, none⟩))]) (by kernel_rfl) ?_
  refine o_stp ?_ (by kernel_rfl)
  refine s_store 2 g3 [v16 (U16 t1.1), v16 (U16 t2.1), v32 (U32 t3.1), v32 (U32 t4.1), v8 (band .u8 (U8 t6.1) 63), v16 a1.wi, v16 a1.ur, vb a1.o.hM, v16 a1.o.ms, vb a1.o.hS, v8 a1.o.sc, vb a1.o.sO, .slice none 0 0, vb a1.o.hT, v32 a1.o.va, v32 a1.o.ec, vb a1.o.hO, v8 a1.o.ki, v8 a1.o.ni, v8 a1.o.m.x0, v8 a1.o.m.x1, v8 a1.o.m.x2, v8 a1.o.m.x3, v8 a1.o.m.x4, v8 a1.o.m.x5, v8 a1.o.m.x6, v8 a1.o.m.x7, v8 a1.o.m.x8, v8 a1.o.m.x9, v8 a1.o.m.x10, v8 a1.o.m.x11, .slice none 0 0] 34 [(5, v16 (U16 t7.1))] (by kernel_rfl) (by kernel_rfl) (by kernel_rfl) ?_
  refine t_L (L' := [.blk g2 [.slice A12 t7.2.xb.length c12] 110, .blk g1 [pg g2] 94, .blk g3 [v16 (U16 t1.1), v16 (U16 t2.1), v32 (U32 t3.1), v32 (U32 t4.1), v8 (band .u8 (U8 t6.1) 63), v16 (U16 t7.1), v16 a1.ur, vb a1.o.hM, v16 a1.o.ms, vb a1.o.hS, v8 a1.o.sc, vb a1.o.sO, .slice none 0 0, vb a1.o.hT, v32 a1.o.va, v32 a1.o.ec, vb a1.o.hO, v8 a1.o.ki, v8 a1.o.ni, v8 a1.o.m.x0, v8 a1.o.m.x1, v8 a1.o.m.x2, v8 a1.o.m.x3, v8 a1.o.m.x4, v8 a1.o.m.x5, v8 a1.o.m.x6, v8 a1.o.m.x7, v8 a1.o.m.x8, v8 a1.o.m.x9, v8 a1.o.m.x10, v8 a1.o.m.x11, .slice none 0 0] 34]) (by kernel_rfl) ?_
  refine o_end (by kernel_rfl) ?_
  refine e_seq ?_
  refine w_seq 126 127 (by kernel_rfl) ?_
  refine w_region (by kernel_rfl) ?_
  refine o_run 1 [0, 1, 29] (l := [(⟨g1, 0, none⟩, (pg g2))]) (.one (at_blk (j := 1) rfl rfl) .nil) (E' := [(0, (pg g1)), (1, (pg g3)), (29, (pg g2))]) (by kernel_rfl) ?_
  obtain ⟨t8, hx10, hm⟩ := bind_some hm
  refine o_stp ?_ (by kernel_rfl)
  refine s_call 30 68 #[pg g2, v64 2] [0] [1, 2] (by kernel_rfl) (by kernel_rfl) (fun w hs => oR_Num_2_ok k t7.2 2 t8 hx10 B2 _ g2 A12 c12 hs11 w (St.cast (by kernel_rfl) hs)) (fun x hx => ?_)
  obtain ⟨A13, c13⟩ := x
  have hs12 := hx
  refine t_L (L' := [.blk g2 [.slice A13 t8.2.xb.length c13] 110, .blk g1 [pg g2] 94, .blk g3 [v16 (U16 t1.1), v16 (U16 t2.1), v32 (U32 t3.1), v32 (U32 t4.1), v8 (band .u8 (U8 t6.1) 63), v16 (U16 t7.1), v16 a1.ur, vb a1.o.hM, v16 a1.o.ms, vb a1.o.hS, v8 a1.o.sc, vb a1.o.sO, .slice none 0 0, vb a1.o.hT, v32 a1.o.va, v32 a1.o.ec, vb a1.o.hO, v8 a1.o.ki, v8 a1.o.ni, v8 a1.o.m.x0, v8 a1.o.m.x1, v8 a1.o.m.x2, v8 a1.o.m.x3, v8 a1.o.m.x4, v8 a1.o.m.x5, v8 a1.o.m.x6, v8 a1.o.m.x7, v8 a1.o.m.x8, v8 a1.o.m.x9, v8 a1.o.m.x10, v8 a1.o.m.x11, .slice none 0 0] 34]) (by kernel_rfl) ?_
  refine o_end (by kernel_rfl) ?_
  refine e_seq ?_
  refine w_region (by kernel_rfl) ?_
  refine o_run 1 [1, 31] (l := [(⟨g1, 0, none⟩, (pg g2))]) (.one (at_blk (j := 1) rfl rfl) .nil) (E' := [(1, (pg g3)), (31, (pg g2))]) (by kernel_rfl) ?_
  obtain ⟨t9, hx11, hm⟩ := bind_some hm
  refine o_stp ?_ (by kernel_rfl)
  refine s_call 32 68 #[pg g2, v64 2] [0] [1, 2] (by kernel_rfl) (by kernel_rfl) (fun w hs => oR_Num_2_ok k t8.2 2 t9 hx11 B2 _ g2 A13 c13 hs12 w (St.cast (by kernel_rfl) hs)) (fun x hx => ?_)
  obtain ⟨A14, c14⟩ := x
  have hs13 := hx
  refine t_L (L' := [.blk g2 [.slice A14 t9.2.xb.length c14] 110, .blk g1 [pg g2] 94, .blk g3 [v16 (U16 t1.1), v16 (U16 t2.1), v32 (U32 t3.1), v32 (U32 t4.1), v8 (band .u8 (U8 t6.1) 63), v16 (U16 t7.1), v16 a1.ur, vb a1.o.hM, v16 a1.o.ms, vb a1.o.hS, v8 a1.o.sc, vb a1.o.sO, .slice none 0 0, vb a1.o.hT, v32 a1.o.va, v32 a1.o.ec, vb a1.o.hO, v8 a1.o.ki, v8 a1.o.ni, v8 a1.o.m.x0, v8 a1.o.m.x1, v8 a1.o.m.x2, v8 a1.o.m.x3, v8 a1.o.m.x4, v8 a1.o.m.x5, v8 a1.o.m.x6, v8 a1.o.m.x7, v8 a1.o.m.x8, v8 a1.o.m.x9, v8 a1.o.m.x10, v8 a1.o.m.x11, .slice none 0 0] 34]) (by kernel_rfl) ?_
  refine o_run 2 [33, 34] (l := []) .nil (E' := [(33, v16 (U16 t9.1)), (34, .pointer (some ⟨g3, 6, none⟩))]) (by kernel_rfl) ?_
  refine o_stp ?_ (by kernel_rfl)
  refine s_store 2 g3 [v16 (U16 t1.1), v16 (U16 t2.1), v32 (U32 t3.1), v32 (U32 t4.1), v8 (band .u8 (U8 t6.1) 63), v16 (U16 t7.1), v16 a1.ur, vb a1.o.hM, v16 a1.o.ms, vb a1.o.hS, v8 a1.o.sc, vb a1.o.sO, .slice none 0 0, vb a1.o.hT, v32 a1.o.va, v32 a1.o.ec, vb a1.o.hO, v8 a1.o.ki, v8 a1.o.ni, v8 a1.o.m.x0, v8 a1.o.m.x1, v8 a1.o.m.x2, v8 a1.o.m.x3, v8 a1.o.m.x4, v8 a1.o.m.x5, v8 a1.o.m.x6, v8 a1.o.m.x7, v8 a1.o.m.x8, v8 a1.o.m.x9, v8 a1.o.m.x10, v8 a1.o.m.x11, .slice none 0 0] 34 [(6, v16 (U16 t9.1))] (by kernel_rfl) (by kernel_rfl) (by kernel_rfl) ?_
  refine t_L (L' := [.blk g2 [.slice A14 t9.2.xb.length c14] 110, .blk g1 [pg g2] 94, .blk g3 [v16 (U16 t1.1), v16 (U16 t2.1), v32 (U32 t3.1), v32 (U32 t4.1), v8 (band .u8 (U8 t6.1) 63), v16 (U16 t7.1), v16 (U16 t9.1), vb a1.o.hM, v16 a1.o.ms, vb a1.o.hS, v8 a1.o.sc, vb a1.o.sO, .slice none 0 0, vb a1.o.hT, v32 a1.o.va, v32 a1.o.ec, vb a1.o.hO, v8 a1.o.ki, v8 a1.o.ni, v8 a1.o.m.x0, v8 a1.o.m.x1, v8 a1.o.m.x2, v8 a1.o.m.x3, v8 a1.o.m.x4, v8 a1.o.m.x5, v8 a1.o.m.x6, v8 a1.o.m.x7, v8 a1.o.m.x8, v8 a1.o.m.x9, v8 a1.o.m.x10, v8 a1.o.m.x11, .slice none 0 0] 34]) (by kernel_rfl) ?_
  refine o_end (by kernel_rfl) ?_
  obtain rfl := Option.some.inj hm
  exact e_endP (B2, g2, A14, c14, none, 0, none, 0) (.tuple #[]) [1, 0, 2] (by kernel_rfl) (by kernel_rfl) rfl (by kernel_rfl) (by kernel_rfl) ⟨hx4, hs13, (Sl.nil kTB B2 none 0), (Sl.nil (kI .u8) B2 none 0)⟩
def seg_fields.f (k : Nat) (a0 : List Int) : Option (TS) :=
  ((octets_Read.f a0).bind fun t1 => ((seg_fields_1.f k t1 (⟨0, 0, 0, 0, 0, 0, 0, (⟨false, 0, false, 0, false, false, 0, 0, false, 0, 0, (⟨0, 0, 0, 0, 0, 0, 0, 0, 0, 0, 0, 0⟩ : TM)⟩ : TO_o)⟩ : TS_o)).bind fun t2 => (some t2.2)))
theorem seg_fields_ok (k : Nat) (a0 : List Int) (r : TS) (hm : seg_fields.f k a0 = some r) (B G : Asn) (A1 : Option Addr) (c1 : Nat) (hs1 : Sl (kI .u8) B A1 c1 a0) (w : World) (hs : St B G [] w) :
    Calls Try.prog 41 #[.slice A1 a0.length c1] w (Post (X := Asn × (Option Addr) × Nat × (Option Addr) × Nat) (fun x => .agg #[v16 r.sr, v16 r.ds, v32 r.sq, v32 r.ak, v8 r.fl, v16 r.wi, v16 r.ur, vb r.o.hM, v16 r.o.ms, vb r.o.hS, v8 r.o.sc, vb r.o.sO, .slice x.2.1 r.o.sk.length x.2.2.1, vb r.o.hT, v32 r.o.va, v32 r.o.ec, vb r.o.hO, v8 r.o.ki, v8 r.o.ni, v8 r.o.m.x0, v8 r.o.m.x1, v8 r.o.m.x2, v8 r.o.m.x3, v8 r.o.m.x4, v8 r.o.m.x5, v8 r.o.m.x6, v8 r.o.m.x7, v8 r.o.m.x8, v8 r.o.m.x9, v8 r.o.m.x10, v8 r.o.m.x11, .slice x.2.2.2.1 r.da.length x.2.2.2.2]) (fun x => x.1) G (fun x => []) (fun x => (Ext B x.1) ∧ (Sl kTB x.1 x.2.1 x.2.2.1 r.o.sk) ∧ (Sl (kI .u8) x.1 x.2.2.2.1 x.2.2.2.2 r.da))) := by
  unfold seg_fields.f at hm
  refine calls_W (F := Try.f41) Try.func41 rfl (by kernel_rfl) (L := []) ?_ hs
  refine w_seq 2 3 (by kernel_rfl) ?_
  refine w_region (by kernel_rfl) ?_
  refine o_stp ?_ (by kernel_rfl)
  refine s_new 2 (fun g1 => (pg g1)) [v16 0, v16 0, v32 0, v32 0, v8 0, v16 0, v16 0, vb false, v16 0, vb false, v8 0, vb false, .slice none 0 0, vb false, v32 0, v32 0, vb false, v8 0, v8 0, v8 0, v8 0, v8 0, v8 0, v8 0, v8 0, v8 0, v8 0, v8 0, v8 0, v8 0, v8 0, .slice none 0 0] 34 (fun _ => by kernel_rfl) (fun g1 => ?_)
  refine o_end (by kernel_rfl) ?_
  refine e_seq ?_
  refine w_seq 6 7 (by kernel_rfl) ?_
  refine w_region (by kernel_rfl) ?_
  refine o_stp ?_ (by kernel_rfl)
  refine s_new 3 (fun g2 => (pg g2)) [v16 0, v16 0, v32 0, v32 0, v8 0, v16 0, v16 0, vb false, v16 0, vb false, v8 0, vb false, .slice none 0 0, vb false, v32 0, v32 0, vb false, v8 0, v8 0, v8 0, v8 0, v8 0, v8 0, v8 0, v8 0, v8 0, v8 0, v8 0, v8 0, v8 0, v8 0, .slice none 0 0] 34 (fun _ => by kernel_rfl) (fun g2 => ?_)
  refine o_end (by kernel_rfl) ?_
  refine e_seq ?_
  refine w_seq 14 15 (by kernel_rfl) ?_
  refine w_region (by kernel_rfl) ?_
  refine o_run 1 [2, 3, 5] (l := []) .nil (E' := [(2, (pg g1)), (3, (pg g2)), (5, .slice A1 a0.length c1)]) (by kernel_rfl) ?_
  obtain ⟨t1, hx1, hm⟩ := bind_some hm
  refine o_stp ?_ (by kernel_rfl)
  refine s_call 6 62 #[.slice A1 a0.length c1] [] [0, 1] (by kernel_rfl) (by kernel_rfl) (fun w hs => octets_Read_ok a0 t1 hx1 B _ A1 c1 hs1 w (St.cast (by kernel_rfl) hs)) (fun x hx => ?_)
  obtain ⟨g3, A2, c2⟩ := x
  refine t_L (L' := [.blk g3 [.slice A2 t1.xb.length c2] 110, .own A2 t1.xb.length c2 (rowOf e8 t1.xb) 1 5, .blk g2 [v16 0, v16 0, v32 0, v32 0, v8 0, v16 0, v16 0, vb false, v16 0, vb false, v8 0, vb false, .slice none 0 0, vb false, v32 0, v32 0, vb false, v8 0, v8 0, v8 0, v8 0, v8 0, v8 0, v8 0, v8 0, v8 0, v8 0, v8 0, v8 0, v8 0, v8 0, .slice none 0 0] 34, .blk g1 [v16 0, v16 0, v32 0, v32 0, v8 0, v16 0, v16 0, vb false, v16 0, vb false, v8 0, vb false, .slice none 0 0, vb false, v32 0, v32 0, vb false, v8 0, v8 0, v8 0, v8 0, v8 0, v8 0, v8 0, v8 0, v8 0, v8 0, v8 0, v8 0, v8 0, v8 0, .slice none 0 0] 34]) (by kernel_rfl) ?_
  refine o_stp ?_ (by kernel_rfl)
  refine s_new 4 (fun g4 => (pg g4)) [.pointer none] 94 (fun _ => by kernel_rfl) (fun g4 => ?_)
  refine o_stp ?_ (by kernel_rfl)
  refine s_store 0 g4 [.pointer none] 94 [(0, (pg g3))] (by kernel_rfl) (by kernel_rfl) (by kernel_rfl) ?_
  refine t_L (L' := [.blk g4 [pg g3] 94, .blk g3 [.slice A2 t1.xb.length c2] 110, .own A2 t1.xb.length c2 (rowOf e8 t1.xb) 1 5, .blk g2 [v16 0, v16 0, v32 0, v32 0, v8 0, v16 0, v16 0, vb false, v16 0, vb false, v8 0, vb false, .slice none 0 0, vb false, v32 0, v32 0, vb false, v8 0, v8 0, v8 0, v8 0, v8 0, v8 0, v8 0, v8 0, v8 0, v8 0, v8 0, v8 0, v8 0, v8 0, .slice none 0 0] 34, .blk g1 [v16 0, v16 0, v32 0, v32 0, v8 0, v16 0, v16 0, vb false, v16 0, vb false, v8 0, vb false, .slice none 0 0, vb false, v32 0, v32 0, vb false, v8 0, v8 0, v8 0, v8 0, v8 0, v8 0, v8 0, v8 0, v8 0, v8 0, v8 0, v8 0, v8 0, v8 0, .slice none 0 0] 34]) (by kernel_rfl) ?_
  refine o_end (by kernel_rfl) ?_
  refine e_seq ?_
  refine w_seq 30 31 (by kernel_rfl) ?_
  refine w_region (by kernel_rfl) ?_
  refine o_run 1 [2, 3, 7] (l := []) .nil (E' := [(2, (pg g1)), (3, (pg g2)), (7, .func (.func 67) #[] #[pg g4, pg g2])]) (by kernel_rfl) ?_
  obtain ⟨t2, hx2, hm⟩ := bind_some hm
  refine o_stp ?_ (by kernel_rfl)
  refine s_call 8 63 #[.func (.func 67) #[] #[pg g4, pg g2]] [0, 1, 2, 3] [4] (by kernel_rfl) (by kernel_rfl) (fun w hs => try_base (fun g => by kernel_rfl) (fun G w hs => seg_fields_1_ok k t1 (⟨0, 0, 0, 0, 0, 0, 0, (⟨false, 0, false, 0, false, false, 0, 0, false, 0, 0, (⟨0, 0, 0, 0, 0, 0, 0, 0, 0, 0, 0, 0⟩ : TM)⟩ : TO_o)⟩ : TS_o) t2 hx2 B _ g4 g3 A2 c2 g2 w hs) (St.cast (by kernel_rfl) hs)) (fun x hx => ?_)
  obtain ⟨B1, g5, A3, c3, A4, c4, A5, c5⟩ := x
  obtain ⟨hx3, hs2, hs3, hs4⟩ := hx
  refine t_L (L' := [.blk g4 [pg g5] 94, .blk g5 [.slice A3 t2.1.xb.length c3] 110, .blk g2 [v16 t2.2.sr, v16 t2.2.ds, v32 t2.2.sq, v32 t2.2.ak, v8 t2.2.fl, v16 t2.2.wi, v16 t2.2.ur, vb t2.2.o.hM, v16 t2.2.o.ms, vb t2.2.o.hS, v8 t2.2.o.sc, vb t2.2.o.sO, .slice A4 t2.2.o.sk.length c4, vb t2.2.o.hT, v32 t2.2.o.va, v32 t2.2.o.ec, vb t2.2.o.hO, v8 t2.2.o.ki, v8 t2.2.o.ni, v8 t2.2.o.m.x0, v8 t2.2.o.m.x1, v8 t2.2.o.m.x2, v8 t2.2.o.m.x3, v8 t2.2.o.m.x4, v8 t2.2.o.m.x5, v8 t2.2.o.m.x6, v8 t2.2.o.m.x7, v8 t2.2.o.m.x8, v8 t2.2.o.m.x9, v8 t2.2.o.m.x10, v8 t2.2.o.m.x11, .slice A5 t2.2.da.length c5] 34, .blk g1 [v16 0, v16 0, v32 0, v32 0, v8 0, v16 0, v16 0, vb false, v16 0, vb false, v8 0, vb false, .slice none 0 0, vb false, v32 0, v32 0, vb false, v8 0, v8 0, v8 0, v8 0, v8 0, v8 0, v8 0, v8 0, v8 0, v8 0, v8 0, v8 0, v8 0, v8 0, .slice none 0 0] 34]) (by kernel_rfl) ?_
  refine o_end (by kernel_rfl) ?_
  refine e_seq ?_
  refine w_seq 62 63 (by kernel_rfl) ?_
  refine w_region (by kernel_rfl) ?_
  refine o_val 9 (.load 34 (.tmp 3)) (.agg #[v16 t2.2.sr, v16 t2.2.ds, v32 t2.2.sq, v32 t2.2.ak, v8 t2.2.fl, v16 t2.2.wi, v16 t2.2.ur, vb t2.2.o.hM, v16 t2.2.o.ms, vb t2.2.o.hS, v8 t2.2.o.sc, vb t2.2.o.sO, .slice A4 t2.2.o.sk.length c4, vb t2.2.o.hT, v32 t2.2.o.va, v32 t2.2.o.ec, vb t2.2.o.hO, v8 t2.2.o.ki, v8 t2.2.o.ni, v8 t2.2.o.m.x0, v8 t2.2.o.m.x1, v8 t2.2.o.m.x2, v8 t2.2.o.m.x3, v8 t2.2.o.m.x4, v8 t2.2.o.m.x5, v8 t2.2.o.m.x6, v8 t2.2.o.m.x7, v8 t2.2.o.m.x8, v8 t2.2.o.m.x9, v8 t2.2.o.m.x10, v8 t2.2.o.m.x11, .slice A5 t2.2.da.length c5]) (by kernel_rfl) (v_load (l := [v16 t2.2.sr, v16 t2.2.ds, v32 t2.2.sq, v32 t2.2.ak, v8 t2.2.fl, v16 t2.2.wi, v16 t2.2.ur, vb t2.2.o.hM, v16 t2.2.o.ms, vb t2.2.o.hS, v8 t2.2.o.sc, vb t2.2.o.sO, .slice A4 t2.2.o.sk.length c4, vb t2.2.o.hT, v32 t2.2.o.va, v32 t2.2.o.ec, vb t2.2.o.hO, v8 t2.2.o.ki, v8 t2.2.o.ni, v8 t2.2.o.m.x0, v8 t2.2.o.m.x1, v8 t2.2.o.m.x2, v8 t2.2.o.m.x3, v8 t2.2.o.m.x4, v8 t2.2.o.m.x5, v8 t2.2.o.m.x6, v8 t2.2.o.m.x7, v8 t2.2.o.m.x8, v8 t2.2.o.m.x9, v8 t2.2.o.m.x10, v8 t2.2.o.m.x11, .slice A5 t2.2.da.length c5]) (a := ⟨g2, 0, none⟩) (by kernel_rfl) (by kernel_rfl) (at_blk (j := 2) rfl rfl)) ?_
  refine o_stp ?_ (by kernel_rfl)
  refine s_store 3 g1 [v16 0, v16 0, v32 0, v32 0, v8 0, v16 0, v16 0, vb false, v16 0, vb false, v8 0, vb false, .slice none 0 0, vb false, v32 0, v32 0, vb false, v8 0, v8 0, v8 0, v8 0, v8 0, v8 0, v8 0, v8 0, v8 0, v8 0, v8 0, v8 0, v8 0, v8 0, .slice none 0 0] 34 [(0, v16 t2.2.sr), (1, v16 t2.2.ds), (2, v32 t2.2.sq), (3, v32 t2.2.ak), (4, v8 t2.2.fl), (5, v16 t2.2.wi), (6, v16 t2.2.ur), (7, vb t2.2.o.hM), (8, v16 t2.2.o.ms), (9, vb t2.2.o.hS), (10, v8 t2.2.o.sc), (11, vb t2.2.o.sO), (12, .slice A4 t2.2.o.sk.length c4), (13, vb t2.2.o.hT), (14, v32 t2.2.o.va), (15, v32 t2.2.o.ec), (16, vb t2.2.o.hO), (17, v8 t2.2.o.ki), (18, v8 t2.2.o.ni), (19, v8 t2.2.o.m.x0), (20, v8 t2.2.o.m.x1), (21, v8 t2.2.o.m.x2), (22, v8 t2.2.o.m.x3), (23, v8 t2.2.o.m.x4), (24, v8 t2.2.o.m.x5), (25, v8 t2.2.o.m.x6), (26, v8 t2.2.o.m.x7), (27, v8 t2.2.o.m.x8), (28, v8 t2.2.o.m.x9), (29, v8 t2.2.o.m.x10), (30, v8 t2.2.o.m.x11), (31, .slice A5 t2.2.da.length c5)] (by kernel_rfl) (by kernel_rfl) (by kernel_rfl) ?_
  refine t_L (L' := [.blk g4 [pg g5] 94, .blk g5 [.slice A3 t2.1.xb.length c3] 110, .blk g2 [v16 t2.2.sr, v16 t2.2.ds, v32 t2.2.sq, v32 t2.2.ak, v8 t2.2.fl, v16 t2.2.wi, v16 t2.2.ur, vb t2.2.o.hM, v16 t2.2.o.ms, vb t2.2.o.hS, v8 t2.2.o.sc, vb t2.2.o.sO, .slice A4 t2.2.o.sk.length c4, vb t2.2.o.hT, v32 t2.2.o.va, v32 t2.2.o.ec, vb t2.2.o.hO, v8 t2.2.o.ki, v8 t2.2.o.ni, v8 t2.2.o.m.x0, v8 t2.2.o.m.x1, v8 t2.2.o.m.x2, v8 t2.2.o.m.x3, v8 t2.2.o.m.x4, v8 t2.2.o.m.x5, v8 t2.2.o.m.x6, v8 t2.2.o.m.x7, v8 t2.2.o.m.x8, v8 t2.2.o.m.x9, v8 t2.2.o.m.x10, v8 t2.2.o.m.x11, .slice A5 t2.2.da.length c5] 34, .blk g1 [v16 t2.2.sr, v16 t2.2.ds, v32 t2.2.sq, v32 t2.2.ak, v8 t2.2.fl, v16 t2.2.wi, v16 t2.2.ur, vb t2.2.o.hM, v16 t2.2.o.ms, vb t2.2.o.hS, v8 t2.2.o.sc, vb t2.2.o.sO, .slice A4 t2.2.o.sk.length c4, vb t2.2.o.hT, v32 t2.2.o.va, v32 t2.2.o.ec, vb t2.2.o.hO, v8 t2.2.o.ki, v8 t2.2.o.ni, v8 t2.2.o.m.x0, v8 t2.2.o.m.x1, v8 t2.2.o.m.x2, v8 t2.2.o.m.x3, v8 t2.2.o.m.x4, v8 t2.2.o.m.x5, v8 t2.2.o.m.x6, v8 t2.2.o.m.x7, v8 t2.2.o.m.x8, v8 t2.2.o.m.x9, v8 t2.2.o.m.x10, v8 t2.2.o.m.x11, .slice A5 t2.2.da.length c5] 34]) (by kernel_rfl) ?_
  refine o_end (by kernel_rfl) ?_
  refine e_seq ?_
  refine w_ret (by kernel_rfl) ?_
  obtain rfl := Option.some.inj hm
  exact e_retL (B1, A4, c4, A5, c5) (.agg #[v16 t2.2.sr, v16 t2.2.ds, v32 t2.2.sq, v32 t2.2.ak, v8 t2.2.fl, v16 t2.2.wi, v16 t2.2.ur, vb t2.2.o.hM, v16 t2.2.o.ms, vb t2.2.o.hS, v8 t2.2.o.sc, vb t2.2.o.sO, .slice A4 t2.2.o.sk.length c4, vb t2.2.o.hT, v32 t2.2.o.va, v32 t2.2.o.ec, vb t2.2.o.hO, v8 t2.2.o.ki, v8 t2.2.o.ni, v8 t2.2.o.m.x0, v8 t2.2.o.m.x1, v8 t2.2.o.m.x2, v8 t2.2.o.m.x3, v8 t2.2.o.m.x4, v8 t2.2.o.m.x5, v8 t2.2.o.m.x6, v8 t2.2.o.m.x7, v8 t2.2.o.m.x8, v8 t2.2.o.m.x9, v8 t2.2.o.m.x10, v8 t2.2.o.m.x11, .slice A5 t2.2.da.length c5]) [] [(⟨g1, 0, none⟩, v16 t2.2.sr), (⟨g1, 1, none⟩, v16 t2.2.ds), (⟨g1, 2, none⟩, v32 t2.2.sq), (⟨g1, 3, none⟩, v32 t2.2.ak), (⟨g1, 4, none⟩, v8 t2.2.fl), (⟨g1, 5, none⟩, v16 t2.2.wi), (⟨g1, 6, none⟩, v16 t2.2.ur), (⟨g1, 7, none⟩, vb t2.2.o.hM), (⟨g1, 8, none⟩, v16 t2.2.o.ms), (⟨g1, 9, none⟩, vb t2.2.o.hS), (⟨g1, 10, none⟩, v8 t2.2.o.sc), (⟨g1, 11, none⟩, vb t2.2.o.sO), (⟨g1, 12, none⟩, .slice A4 t2.2.o.sk.length c4), (⟨g1, 13, none⟩, vb t2.2.o.hT), (⟨g1, 14, none⟩, v32 t2.2.o.va), (⟨g1, 15, none⟩, v32 t2.2.o.ec), (⟨g1, 16, none⟩, vb t2.2.o.hO), (⟨g1, 17, none⟩, v8 t2.2.o.ki), (⟨g1, 18, none⟩, v8 t2.2.o.ni), (⟨g1, 19, none⟩, v8 t2.2.o.m.x0), (⟨g1, 20, none⟩, v8 t2.2.o.m.x1), (⟨g1, 21, none⟩, v8 t2.2.o.m.x2), (⟨g1, 22, none⟩, v8 t2.2.o.m.x3), (⟨g1, 23, none⟩, v8 t2.2.o.m.x4), (⟨g1, 24, none⟩, v8 t2.2.o.m.x5), (⟨g1, 25, none⟩, v8 t2.2.o.m.x6), (⟨g1, 26, none⟩, v8 t2.2.o.m.x7), (⟨g1, 27, none⟩, v8 t2.2.o.m.x8), (⟨g1, 28, none⟩, v8 t2.2.o.m.x9), (⟨g1, 29, none⟩, v8 t2.2.o.m.x10), (⟨g1, 30, none⟩, v8 t2.2.o.m.x11), (⟨g1, 31, none⟩, .slice A5 t2.2.da.length c5)] (.one (at_blk (j := 3) rfl rfl) (.one (at_blk (j := 3) rfl rfl) (.one (at_blk (j := 3) rfl rfl) (.one (at_blk (j := 3) rfl rfl) (.one (at_blk (j := 3) rfl rfl) (.one (at_blk (j := 3) rfl rfl) (.one (at_blk (j := 3) rfl rfl) (.one (at_blk (j := 3) rfl rfl) (.one (at_blk (j := 3) rfl rfl) (.one (at_blk (j := 3) rfl rfl) (.one (at_blk (j := 3) rfl rfl) (.one (at_blk (j := 3) rfl rfl) (.one (at_blk (j := 3) rfl rfl) (.one (at_blk (j := 3) rfl rfl) (.one (at_blk (j := 3) rfl rfl) (.one (at_blk (j := 3) rfl rfl) (.one (at_blk (j := 3) rfl rfl) (.one (at_blk (j := 3) rfl rfl) (.one (at_blk (j := 3) rfl rfl) (.one (at_blk (j := 3) rfl rfl) (.one (at_blk (j := 3) rfl rfl) (.one (at_blk (j := 3) rfl rfl) (.one (at_blk (j := 3) rfl rfl) (.one (at_blk (j := 3) rfl rfl) (.one (at_blk (j := 3) rfl rfl) (.one (at_blk (j := 3) rfl rfl) (.one (at_blk (j := 3) rfl rfl) (.one (at_blk (j := 3) rfl rfl) (.one (at_blk (j := 3) rfl rfl) (.one (at_blk (j := 3) rfl rfl) (.one (at_blk (j := 3) rfl rfl) (.one (at_blk (j := 3) rfl rfl) .nil)))))))))))))))))))))))))))))))) (by kernel_rfl) (by kernel_rfl) rfl (by kernel_rfl) (by kernel_rfl) ⟨hx3, hs3, hs4⟩
def opts_Size_2.f (a0 : TO) : Option (Int) :=
  ((opts_Size_1.f a0.hM 2 0).bind fun t1 => ((opts_Size_1.f a0.hS 3 t1).bind fun t2 => ((opts_Size_1.f a0.sO 4 t2).bind fun t3 => ((opts_Size_1.f a0.hT 8 t3).bind fun t4 => ((opts_Size_1.f a0.hO 29 t4).bind fun t5 => (if decide ((a0.sk.length : Int) > 0) then (some (I64 ((I64 (Int.tdiv (I64 ((I64 (t5 + (I64 (2 + (I64 (8 * (a0.sk.length : Int))))))) + 3)) 4)) * 4))) else (some (I64 ((I64 (Int.tdiv (I64 (t5 + 3)) 4)) * 4)))))))))
theorem opts_Size_2_ok (a0 : TO) (r : Int) (hm : opts_Size_2.f a0 = some r) (B G : Asn) (A1 : Option Addr) (c1 : Nat) (w : World) (hs : St B G [.own A1 a0.sk.length c1 (rowOf encTB a0.sk) 2 84] w) :
    Calls Try.prog 53 #[.agg #[vb a0.hM, v16 a0.ms, vb a0.hS, v8 a0.sc, vb a0.sO, .slice A1 a0.sk.length c1, vb a0.hT, v32 a0.va, v32 a0.ec, vb a0.hO, v8 a0.ki, v8 a0.ni, v8 a0.m.x0, v8 a0.m.x1, v8 a0.m.x2, v8 a0.m.x3, v8 a0.m.x4, v8 a0.m.x5, v8 a0.m.x6, v8 a0.m.x7, v8 a0.m.x8, v8 a0.m.x9, v8 a0.m.x10, v8 a0.m.x11]] w (Post (X := Unit) (fun x => v64 r) (fun x => B) G (fun x => [.own A1 a0.sk.length c1 (rowOf encTB a0.sk) 2 84]) (fun x => True)) := by
  unfold opts_Size_2.f at hm
  refine calls_W (F := Try.f53) Try.func53 rfl (by kernel_rfl) (L := [.own A1 a0.sk.length c1 (rowOf encTB a0.sk) 2 84]) ?_ hs
  refine w_seq 2 3 (by kernel_rfl) ?_
  refine w_region (by kernel_rfl) ?_
  refine o_stp ?_ (by kernel_rfl)
  refine s_new 1 (fun g1 => (pg g1)) [vb a0.hM, v16 a0.ms, vb a0.hS, v8 a0.sc, vb a0.sO, .slice A1 a0.sk.length c1, vb a0.hT, v32 a0.va, v32 a0.ec, vb a0.hO, v8 a0.ki, v8 a0.ni, v8 a0.m.x0, v8 a0.m.x1, v8 a0.m.x2, v8 a0.m.x3, v8 a0.m.x4, v8 a0.m.x5, v8 a0.m.x6, v8 a0.m.x7, v8 a0.m.x8, v8 a0.m.x9, v8 a0.m.x10, v8 a0.m.x11] 31 (fun _ => by kernel_rfl) (fun g1 => ?_)
  refine o_run 1 [1] (l := []) .nil (E' := [(1, (pg g1))]) (by kernel_rfl) ?_
  refine o_end (by kernel_rfl) ?_
  refine e_seq ?_
  refine w_seq 6 7 (by kernel_rfl) ?_
  refine w_region (by kernel_rfl) ?_
  refine o_stp ?_ (by kernel_rfl)
  refine s_new 3 (fun g2 => (pg g2)) [v64 0] 3 (fun _ => by kernel_rfl) (fun g2 => ?_)
  refine o_stp ?_ (by kernel_rfl)
  refine s_store 0 g2 [v64 0] 3 [(0, v64 0)] (by kernel_rfl) (by kernel_rfl) (by kernel_rfl) ?_
  refine t_L (L' := [.blk g2 [v64 0] 3, .blk g1 [vb a0.hM, v16 a0.ms, vb a0.hS, v8 a0.sc, vb a0.sO, .slice A1 a0.sk.length c1, vb a0.hT, v32 a0.va, v32 a0.ec, vb a0.hO, v8 a0.ki, v8 a0.ni, v8 a0.m.x0, v8 a0.m.x1, v8 a0.m.x2, v8 a0.m.x3, v8 a0.m.x4, v8 a0.m.x5, v8 a0.m.x6, v8 a0.m.x7, v8 a0.m.x8, v8 a0.m.x9, v8 a0.m.x10, v8 a0.m.x11] 31, .own A1 a0.sk.length c1 (rowOf encTB a0.sk) 2 84]) (by kernel_rfl) ?_
  refine o_end (by kernel_rfl) ?_
  refine e_seq ?_
  refine w_seq 14 15 (by kernel_rfl) ?_
  refine w_region (by kernel_rfl) ?_
  refine o_run 2 [1, 3, 4] (l := []) .nil (E' := [(1, (pg g1)), (3, (pg g2)), (4, .func (.func 72) #[] #[pg g2])]) (by kernel_rfl) ?_
  refine o_end (by kernel_rfl) ?_
  refine e_seq ?_
  refine w_seq 30 31 (by kernel_rfl) ?_
  refine w_region (by kernel_rfl) ?_
  refine o_run 3 [1, 3, 4, 6, 8] (l := [(⟨g1, 0, none⟩, vb a0.hM)]) (.one (at_blk (j := 1) rfl rfl) .nil) (E' := [(1, (pg g1)), (3, (pg g2)), (4, .func (.func 72) #[] #[pg g2]), (6, .func (.func 72) #[] #[pg g2]), (8, vb a0.hM)]) (by kernel_rfl) ?_
  obtain ⟨t1, hx1, hm⟩ := bind_some hm
  refine o_stp ?_ (by kernel_rfl)
  refine s_call 9 72 #[vb a0.hM, v8 2, pg g2] [0] [1, 2] (by kernel_rfl) (by kernel_rfl) (fun w hs => opts_Size_1_ok a0.hM 2 0 t1 hx1 B _ g2 w (St.cast (by kernel_rfl) hs)) (fun _ hx => ?_)
  refine t_L (L' := [.blk g2 [v64 t1] 3, .blk g1 [vb a0.hM, v16 a0.ms, vb a0.hS, v8 a0.sc, vb a0.sO, .slice A1 a0.sk.length c1, vb a0.hT, v32 a0.va, v32 a0.ec, vb a0.hO, v8 a0.ki, v8 a0.ni, v8 a0.m.x0, v8 a0.m.x1, v8 a0.m.x2, v8 a0.m.x3, v8 a0.m.x4, v8 a0.m.x5, v8 a0.m.x6, v8 a0.m.x7, v8 a0.m.x8, v8 a0.m.x9, v8 a0.m.x10, v8 a0.m.x11] 31, .own A1 a0.sk.length c1 (rowOf encTB a0.sk) 2 84]) (by kernel_rfl) ?_
  refine o_end (by kernel_rfl) ?_
  refine e_seq ?_
  refine w_seq 62 63 (by kernel_rfl) ?_
  refine w_region (by kernel_rfl) ?_
  refine o_run 3 [1, 3, 4, 10, 12] (l := [(⟨g1, 2, none⟩, vb a0.hS)]) (.one (at_blk (j := 1) rfl rfl) .nil) (E' := [(1, (pg g1)), (3, (pg g2)), (4, .func (.func 72) #[] #[pg g2]), (10, .func (.func 72) #[] #[pg g2]), (12, vb a0.hS)]) (by kernel_rfl) ?_
  obtain ⟨t2, hx2, hm⟩ := bind_some hm
  refine o_stp ?_ (by kernel_rfl)
  refine s_call 13 72 #[vb a0.hS, v8 3, pg g2] [0] [1, 2] (by kernel_rfl) (by kernel_rfl) (fun w hs => opts_Size_1_ok a0.hS 3 t1 t2 hx2 B _ g2 w (St.cast (by kernel_rfl) hs)) (fun _ hx => ?_)
  refine t_L (L' := [.blk g2 [v64 t2] 3, .blk g1 [vb a0.hM, v16 a0.ms, vb a0.hS, v8 a0.sc, vb a0.sO, .slice A1 a0.sk.length c1, vb a0.hT, v32 a0.va, v32 a0.ec, vb a0.hO, v8 a0.ki, v8 a0.ni, v8 a0.m.x0, v8 a0.m.x1, v8 a0.m.x2, v8 a0.m.x3, v8 a0.m.x4, v8 a0.m.x5, v8 a0.m.x6, v8 a0.m.x7, v8 a0.m.x8, v8 a0.m.x9, v8 a0.m.x10, v8 a0.m.x11] 31, .own A1 a0.sk.length c1 (rowOf encTB a0.sk) 2 84]) (by kernel_rfl) ?_
  refine o_end (by kernel_rfl) ?_
  refine e_seq ?_
  refine w_seq 126 127 (by kernel_rfl) ?_
  refine w_region (by kernel_rfl) ?_
  refine o_run 3 [1, 3, 4, 14, 16] (l := [(⟨g1, 4, none⟩, vb a0.sO)]) (.one (at_blk (j := 1) rfl rfl) .nil) (E' := [(1, (pg g1)), (3, (pg g2)), (4, .func (.func 72) #[] #[pg g2]), (14, .func (.func 72) #[] #[pg g2]), (16, vb a0.sO)]) (by kernel_rfl) ?_
  obtain ⟨t3, hx3, hm⟩ := bind_some hm
  refine o_stp ?_ (by kernel_rfl)
  refine s_call 17 72 #[vb a0.sO, v8 4, pg g2] [0] [1, 2] (by kernel_rfl) (by kernel_rfl) (fun w hs => opts_Size_1_ok a0.sO 4 t2 t3 hx3 B _ g2 w (St.cast (by kernel_rfl) hs)) (fun _ hx => ?_)
  refine t_L (L' := [.blk g2 [v64 t3] 3, .blk g1 [vb a0.hM, v16 a0.ms, vb a0.hS, v8 a0.sc, vb a0.sO, .slice A1 a0.sk.length c1, vb a0.hT, v32 a0.va, v32 a0.ec, vb a0.hO, v8 a0.ki, v8 a0.ni, v8 a0.m.x0, v8 a0.m.x1, v8 a0.m.x2, v8 a0.m.x3, v8 a0.m.x4, v8 a0.m.x5, v8 a0.m.x6, v8 a0.m.x7, v8 a0.m.x8, v8 a0.m.x9, v8 a0.m.x10, v8 a0.m.x11] 31, .own A1 a0.sk.length c1 (rowOf encTB a0.sk) 2 84]) (by kernel_rfl) ?_
  refine o_end (by kernel_rfl) ?_
  refine e_seq ?_
  refine w_seq 254 255 (by kernel_rfl) ?_
  refine w_region (by kernel_rfl) ?_
  refine o_run 3 [1, 3, 4, 18, 20] (l := [(⟨g1, 6, none⟩, vb a0.hT)]) (.one (at_blk (j := 1) rfl rfl) .nil) (E' := [(1, (pg g1)), (3, (pg g2)), (4, .func (.func 72) #[] #[pg g2]), (18, .func (.func 72) #[] #[pg g2]), (20, vb a0.hT)]) (by kernel_rfl) ?_
  obtain ⟨t4, hx4, hm⟩ := bind_some hm
  refine o_stp ?_ (by kernel_rfl)
  refine s_call 21 72 #[vb a0.hT, v8 8, pg g2] [0] [1, 2] (by kernel_rfl) (by kernel_rfl) (fun w hs => opts_Size_1_ok a0.hT 8 t3 t4 hx4 B _ g2 w (St.cast (by kernel_rfl) hs)) (fun _ hx => ?_)
  refine t_L (L' := [.blk g2 [v64 t4] 3, .blk g1 [vb a0.hM, v16 a0.ms, vb a0.hS, v8 a0.sc, vb a0.sO, .slice A1 a0.sk.length c1, vb a0.hT, v32 a0.va, v32 a0.ec, vb a0.hO, v8 a0.ki, v8 a0.ni, v8 a0.m.x0, v8 a0.m.x1, v8 a0.m.x2, v8 a0.m.x3, v8 a0.m.x4, v8 a0.m.x5, v8 a0.m.x6, v8 a0.m.x7, v8 a0.m.x8, v8 a0.m.x9, v8 a0.m.x10, v8 a0.m.x11] 31, .own A1 a0.sk.length c1 (rowOf encTB a0.sk) 2 84]) (by kernel_rfl) ?_
  refine o_end (by kernel_rfl) ?_
  refine e_seq ?_
  refine w_seq 510 511 (by kernel_rfl) ?_
  refine w_region (by kernel_rfl) ?_
  refine o_run 3 [1, 3, 22, 24] (l := [(⟨g1, 9, none⟩, vb a0.hO)]) (.one (at_blk (j := 1) rfl rfl) .nil) (E' := [(1, (pg g1)), (3, (pg g2)), (22, .func (.func 72) #[] #[pg g2]), (24, vb a0.hO)]) (by kernel_rfl) ?_
  obtain ⟨t5, hx5, hm⟩ := bind_some hm
  refine o_stp ?_ (by kernel_rfl)
  refine s_call 25 72 #[vb a0.hO, v8 29, pg g2] [0] [1, 2] (by kernel_rfl) (by kernel_rfl) (fun w hs => opts_Size_1_ok a0.hO 29 t4 t5 hx5 B _ g2 w (St.cast (by kernel_rfl) hs)) (fun _ hx => ?_)
  refine t_L (L' := [.blk g2 [v64 t5] 3, .blk g1 [vb a0.hM, v16 a0.ms, vb a0.hS, v8 a0.sc, vb a0.sO, .slice A1 a0.sk.length c1, vb a0.hT, v32 a0.va, v32 a0.ec, vb a0.hO, v8 a0.ki, v8 a0.ni, v8 a0.m.x0, v8 a0.m.x1, v8 a0.m.x2, v8 a0.m.x3, v8 a0.m.x4, v8 a0.m.x5, v8 a0.m.x6, v8 a0.m.x7, v8 a0.m.x8, v8 a0.m.x9, v8 a0.m.x10, v8 a0.m.x11] 31, .own A1 a0.sk.length c1 (rowOf encTB a0.sk) 2 84]) (by kernel_rfl) ?_
  refine o_end (by kernel_rfl) ?_
  refine e_seq ?_
  refine w_seq 1022 1023 (by kernel_rfl) ?_
  refine w_seq 2044 2045 (by kernel_rfl) ?_
  refine w_region (by kernel_rfl) ?_
  refine o_run 4 [1, 3, 29] (l := [(⟨g1, 5, none⟩, .slice A1 a0.sk.length c1)]) (.one (at_blk (j := 1) rfl rfl) .nil) (E' := [(1, (pg g1)), (3, (pg g2)), (29, vb (decide ((a0.sk.length : Int) > 0)))]) (by kernel_rfl) ?_
  refine o_end (by kernel_rfl) ?_
  refine e_seq ?_
  refine w_cond (.tmp 29) 4090 4091 (decide ((a0.sk.length : Int) > 0)) (by kernel_rfl) (by kernel_rfl) (fun hb1 => ?_) (fun hb1 => ?_)
  · replace hm := ite_t hb1 hm
    refine w_region (by kernel_rfl) ?_
    refine o_run 7 [3, 36] (l := [(⟨g2, 0, none⟩, v64 t5), (⟨g1, 5, none⟩, .slice A1 a0.sk.length c1)]) (.one (at_blk (j := 0) rfl rfl) (.one (at_blk (j := 1) rfl rfl) .nil)) (E' := [(3, (pg g2)), (36, v64 (I64 (t5 + (I64 (2 + (I64 (8 * (a0.sk.length : Int))))))))]) (by kernel_rfl) ?_
    refine o_stp ?_ (by kernel_rfl)
    refine s_store 0 g2 [v64 t5] 3 [(0, v64 (I64 (t5 + (I64 (2 + (I64 (8 * (a0.sk.length : Int))))))))] (by kernel_rfl) (by kernel_rfl) (by kernel_rfl) ?_
    refine t_L (L' := [.blk g2 [v64 (I64 (t5 + (I64 (2 + (I64 (8 * (a0.sk.length : Int)))))))] 3, .blk g1 [vb a0.hM, v16 a0.ms, vb a0.hS, v8 a0.sc, vb a0.sO, .slice A1 a0.sk.length c1, vb a0.hT, v32 a0.va, v32 a0.ec, vb a0.hO, v8 a0.ki, v8 a0.ni, v8 a0.m.x0, v8 a0.m.x1, v8 a0.m.x2, v8 a0.m.x3, v8 a0.m.x4, v8 a0.m.x5, v8 a0.m.x6, v8 a0.m.x7, v8 a0.m.x8, v8 a0.m.x9, v8 a0.m.x10, v8 a0.m.x11] 31, .own A1 a0.sk.length c1 (rowOf encTB a0.sk) 2 84]) (by kernel_rfl) ?_
    refine o_end (by kernel_rfl) ?_
    refine e_seq ?_
    refine w_seq 2046 2047 (by kernel_rfl) ?_
    refine w_region (by kernel_rfl) ?_
    refine o_run 5 [2] (l := [(⟨g2, 0, none⟩, v64 (I64 (t5 + (I64 (2 + (I64 (8 * (a0.sk.length : Int))))))))]) (.one (at_blk (j := 0) rfl rfl) .nil) (E' := [(2, v64 (I64 ((I64 (Int.tdiv (I64 ((I64 (t5 + (I64 (2 + (I64 (8 * (a0.sk.length : Int))))))) + 3)) 4)) * 4)))]) (by kernel_rfl) ?_
    refine o_end (by kernel_rfl) ?_
    refine e_seq ?_
    refine w_ret (by kernel_rfl) ?_
    obtain rfl := Option.some.inj hm
    exact e_retP () (v64 (I64 ((I64 (Int.tdiv (I64 ((I64 (t5 + (I64 (2 + (I64 (8 * (a0.sk.length : Int))))))) + 3)) 4)) * 4))) [2] (by kernel_rfl) (by kernel_rfl) rfl (by kernel_rfl) (by kernel_rfl) trivial
  · replace hm := ite_f hb1 hm
    refine w_skip (by kernel_rfl) ?_
    refine e_seq ?_
    refine w_seq 2046 2047 (by kernel_rfl) ?_
    refine w_region (by kernel_rfl) ?_
    refine o_run 5 [2] (l := [(⟨g2, 0, none⟩, v64 t5)]) (.one (at_blk (j := 0) rfl rfl) .nil) (E' := [(2, v64 (I64 ((I64 (Int.tdiv (I64 (t5 + 3)) 4)) * 4)))]) (by kernel_rfl) ?_
    refine o_end (by kernel_rfl) ?_
    refine e_seq ?_
    refine w_ret (by kernel_rfl) ?_
    obtain rfl := Option.some.inj hm
    exact e_retP () (v64 (I64 ((I64 (Int.tdiv (I64 (t5 + 3)) 4)) * 4))) [2] (by kernel_rfl) (by kernel_rfl) rfl (by kernel_rfl) (by kernel_rfl) trivial
end Go.V
