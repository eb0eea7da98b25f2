/- Printed by a program of this work: Go functions as Lean functions, and that the machine comes to the same. -/
import Derived.Test.YtidkijkkolfooaaOx0
set_option maxRecDepth 100000
set_option linter.unusedVariables false
namespace Go.V
open Go Go.Proofs
def rbuf_Buffer_Insert.l1 : Nat → (Int × (List Int)) → Int → T_rbuf_Buffer_o → Option (T_rbuf_Buffer_o)
  | 0, _, _, _ => none
  | k + 1, t2, p1, p2 => (if decide (p1 < (t2.2.length : Int)) then ((idx t2.2 p1).bind fun e5 => ((sack_Board_Has.f k p2.xBoard (U32 (t2.1 + (U32 p1)))).bind fun t8 => (if !t8 then ((rbuf_Buffer_place.f p2 (U32 (t2.1 + (U32 p1)))).bind fun t9 => (rbuf_Buffer_Insert.l1 k t2 (I64 (p1 + 1)) (⟨p2.xBoard, (p2.xbytes.set (Int.toNat t9.1) e5), p2.xbegin, p2.xn, p2.xlast, p2.xkept⟩ : T_rbuf_Buffer_o))) else (rbuf_Buffer_Insert.l1 k t2 (I64 (p1 + 1)) p2)))) else (some p2))
def rbuf_Buffer_Insert.f (k : Nat) (a0 : T_rbuf_Buffer_o) (a1 : Int) (a2 : List Int) : Option (Int × T_rbuf_Buffer_o) :=
  ((rbuf_Buffer_ok.f a0).bind fun t1 => ((rbuf_Buffer_within.f a0 a1 a2).bind fun t2 => (if (t2.2.length : Int) == 0 then (some (0, a0)) else ((rbuf_Buffer_Insert.l1 k t2 0 a0).bind fun t3 => ((sack_Board_Add.f k ((t3).xBoard) (U32 (t2.1 + (U32 (t2.2.length : Int)))) [(⟨t2.1, U32 (t2.1 + (U32 (t2.2.length : Int)))⟩ : T_api_Block)]).bind fun t4 => ((sack_Board_Blocks.f k t4.2).bind fun t5 => ((idx t5 0).bind fun e1 => ((rbuf_Buffer_Next.f (⟨t4.2, (t3).xbytes, (t3).xbegin, (t3).xn, U32 ((U32 (t2.1 + (U32 (t2.2.length : Int)))) - 1), true⟩ : T_rbuf_Buffer_o)).bind fun t6 => (if e1.xLeft != t6 then (some (0, (⟨t4.2, (t3).xbytes, (t3).xbegin, (t3).xn, U32 ((U32 (t2.1 + (U32 (t2.2.length : Int)))) - 1), true⟩ : T_rbuf_Buffer_o))) else ((idx t5 0).bind fun e2 => ((idx t5 0).bind fun e3 => ((idx t5 0).bind fun e4 => ((sack_Board_Advance.f k t4.2 e4.xRight).bind fun t7 => (some (I64 (U32 (e2.xRight - e3.xLeft)), (⟨t7.2, (t3).xbytes, (t3).xbegin, I64 (((t3).xn) + (I64 (U32 (e2.xRight - e3.xLeft)))), U32 ((U32 (t2.1 + (U32 (t2.2.length : Int)))) - 1), true⟩ : T_rbuf_Buffer_o))))))))))))))))
theorem rbuf_Buffer_Insert_ok (k : Nat) (a0 : T_rbuf_Buffer_o) (a1 : Int) (a2 : List Int) (r : Int × T_rbuf_Buffer_o) (hm : rbuf_Buffer_Insert.f k a0 a1 a2 = some r) (B G : Asn) (g1 : Nat) (g2 : Nat) (A1 : Option Addr) (c1 : Nat) (A2 : Option Addr) (c2 : Nat) (A3 : Option Addr) (c3 : Nat) (hs1 : Sl kT_sack_run B A1 c1 a0.xBoard.xruns) (hs2 : Sl (kI .u8) B A3 c3 a2) (w : World) (hs : St B G [.blk g1 [.pointer (some ⟨g2, 0, none⟩), .slice A2 a0.xbytes.length c2, .int .i64 a0.xbegin, .int .i64 a0.xn, .int .u32 a0.xlast, .bool a0.xkept] 50, .blk g2 [.bool a0.xBoard.xmade, .int .u32 a0.xBoard.xfirst, .slice A1 a0.xBoard.xruns.length c1] 76, .own A2 a0.xbytes.length c2 (rowOf (encI .u8) a0.xbytes) 1 5] w) :
    Calls Try.prog 12 #[.pointer (some ⟨g1, 0, none⟩), .int .u32 a1, .slice A3 a2.length c3] w (Post (X := Asn × Nat × (Option Addr) × Nat × (Option Addr) × Nat) (fun x => .int .i64 r.1) (fun x => x.1) G (fun x => [.blk g1 [.pointer (some ⟨x.2.1, 0, none⟩), .slice x.2.2.2.2.1 r.2.xbytes.length x.2.2.2.2.2, .int .i64 r.2.xbegin, .int .i64 r.2.xn, .int .u32 r.2.xlast, .bool r.2.xkept] 50, .blk x.2.1 [.bool r.2.xBoard.xmade, .int .u32 r.2.xBoard.xfirst, .slice x.2.2.1 r.2.xBoard.xruns.length x.2.2.2.1] 76, .own x.2.2.2.2.1 r.2.xbytes.length x.2.2.2.2.2 (rowOf (encI .u8) r.2.xbytes) 1 5]) (fun x => (Ext B x.1) ∧ (Sl kT_sack_run x.1 x.2.2.1 x.2.2.2.1 r.2.xBoard.xruns))) := by
  unfold rbuf_Buffer_Insert.f at hm
  refine calls_W (F := Try.f12) Try.func12 rfl (by kernel_rfl) (L := [.blk g1 [.pointer (some ⟨g2, 0, none⟩), .slice A2 a0.xbytes.length c2, .int .i64 a0.xbegin, .int .i64 a0.xn, .int .u32 a0.xlast, .bool a0.xkept] 50, .blk g2 [.bool a0.xBoard.xmade, .int .u32 a0.xBoard.xfirst, .slice A1 a0.xBoard.xruns.length c1] 76, .own A2 a0.xbytes.length c2 (rowOf (encI .u8) a0.xbytes) 1 5]) ?_ hs
  refine w_seq 2 3 (by kernel_rfl) ?_
  refine w_region (by kernel_rfl) ?_
  refine o_run 1 [0, 1, 2] (l := []) .nil (E' := [(0, .pointer (some ⟨g1, 0, none⟩)), (1, .int .u32 a1), (2, .slice A3 a2.length c3)]) (by kernel_rfl) ?_
  refine o_end (by kernel_rfl) ?_
  refine e_seq ?_
  refine w_seq 6 7 (by kernel_rfl) ?_
  refine w_seq 12 13 (by kernel_rfl) ?_
  refine w_region (by kernel_rfl) ?_
  refine o_run 1 [0, 1, 2, 13] (l := []) .nil (E' := [(0, .pointer (some ⟨g1, 0, none⟩)), (1, .int .u32 a1), (2, .slice A3 a2.length c3), (13, .pointer (some ⟨g1, 0, none⟩))]) (by kernel_rfl) ?_
  obtain ⟨t1, hx1, hm⟩ := bind_some hm
  obtain rfl : true = t1 := Option.some.inj (show some true = some t1 from hx1)
  refine o_stp ?_ (by kernel_rfl)
  refine s_call 14 27 #[.pointer (some ⟨g1, 0, none⟩)] [0, 1, 2] [] (by kernel_rfl) (by kernel_rfl) (fun w hs => rbuf_Buffer_ok_ok a0 true hx1 B _ g1 g2 A1 c1 A2 c2 hs1 w (St.cast (by kernel_rfl) hs)) (fun _ hx => ?_)
  refine t_L (L' := [.blk g1 [.pointer (some ⟨g2, 0, none⟩), .slice A2 a0.xbytes.length c2, .int .i64 a0.xbegin, .int .i64 a0.xn, .int .u32 a0.xlast, .bool a0.xkept] 50, .blk g2 [.bool a0.xBoard.xmade, .int .u32 a0.xBoard.xfirst, .slice A1 a0.xBoard.xruns.length c1] 76, .own A2 a0.xbytes.length c2 (rowOf (encI .u8) a0.xbytes) 1 5]) (by kernel_rfl) ?_
  refine o_run 1 [0, 1, 2, 15] (l := []) .nil (E' := [(0, .pointer (some ⟨g1, 0, none⟩)), (1, .int .u32 a1), (2, .slice A3 a2.length c3), (15, .bool false)]) (by kernel_rfl) ?_
  refine o_end (by kernel_rfl) ?_
  refine e_seq ?_
  refine w_cond_f (.tmp 15) 26 27 (by kernel_rfl) (by kernel_rfl) ?_
  refine w_skip (by kernel_rfl) ?_
  refine e_seq ?_
  refine w_seq 14 15 (by kernel_rfl) ?_
  refine w_region (by kernel_rfl) ?_
  refine o_run 3 [0, 17, 18, 19] (l := []) .nil (E' := [(0, .pointer (some ⟨g1, 0, none⟩)), (17, .pointer (some ⟨g1, 0, none⟩)), (18, .int .u32 a1), (19, .slice A3 a2.length c3)]) (by kernel_rfl) ?_
  obtain ⟨t2, hx2, hm⟩ := bind_some hm
  refine o_stp ?_ (by kernel_rfl)
  refine s_call 20 28 #[.pointer (some ⟨g1, 0, none⟩), .int .u32 a1, .slice A3 a2.length c3] [0, 1, 2] [] (by kernel_rfl) (by kernel_rfl) (fun w hs => rbuf_Buffer_within_ok a0 a1 a2 t2 hx2 B _ g1 g2 A1 c1 A2 c2 A3 c3 hs1 hs2 w (St.cast (by kernel_rfl) hs)) (fun x hx => ?_)
  obtain ⟨A4, c4⟩ := x
  have hs3 := hx
  refine t_L (L' := [.blk g1 [.pointer (some ⟨g2, 0, none⟩), .slice A2 a0.xbytes.length c2, .int .i64 a0.xbegin, .int .i64 a0.xn, .int .u32 a0.xlast, .bool a0.xkept] 50, .blk g2 [.bool a0.xBoard.xmade, .int .u32 a0.xBoard.xfirst, .slice A1 a0.xBoard.xruns.length c1] 76, .own A2 a0.xbytes.length c2 (rowOf (encI .u8) a0.xbytes) 1 5]) (by kernel_rfl) ?_
  refine o_run 5 [0, 1, 2] (l := []) .nil (E' := [(0, .pointer (some ⟨g1, 0, none⟩)), (1, .int .u32 t2.1), (2, .slice A4 t2.2.length c4)]) (by kernel_rfl) ?_
  refine o_end (by kernel_rfl) ?_
  refine e_seq ?_
  refine w_seq 30 31 (by kernel_rfl) ?_
  refine w_seq 60 61 (by kernel_rfl) ?_
  refine w_region (by kernel_rfl) ?_
  refine o_run 3 [0, 1, 2, 25] (l := []) .nil (E' := [(0, .pointer (some ⟨g1, 0, none⟩)), (1, .int .u32 t2.1), (2, .slice A4 t2.2.length c4), (25, .bool ((t2.2.length : Int) == 0))]) (by kernel_rfl) ?_
  refine o_end (by kernel_rfl) ?_
  refine e_seq ?_
  refine w_cond (.tmp 25) 122 123 ((t2.2.length : Int) == 0) (by kernel_rfl) (by kernel_rfl) (fun hb1 => ?_) (fun hb1 => ?_)
  · replace hm := ite_t hb1 hm
    refine w_seq 244 245 (by kernel_rfl) ?_
    refine w_region (by kernel_rfl) ?_
    refine o_run 1 [6] (l := []) .nil (E' := [(6, .int .i64 0)]) (by kernel_rfl) ?_
    refine o_end (by kernel_rfl) ?_
    refine e_seq ?_
    refine w_ret (by kernel_rfl) ?_
    obtain rfl := Option.some.inj hm
    exact e_retP (B, g2, A1, c1, A2, c2) (.int .i64 0) [0, 1, 2] (by kernel_rfl) (by kernel_rfl) rfl (by kernel_rfl) (by kernel_rfl) ⟨(Ext.refl _), hs1⟩
  · replace hm := ite_f hb1 hm
    refine w_skip (by kernel_rfl) ?_
    refine e_seq ?_
    refine w_seq 62 63 (by kernel_rfl) ?_
    refine w_seq 124 125 (by kernel_rfl) ?_
    refine w_region (by kernel_rfl) ?_
    refine o_run 3 [0, 1, 2, 26, 27, 28] (l := []) .nil (E' := [(0, .pointer (some ⟨g1, 0, none⟩)), (1, .int .u32 t2.1), (2, .slice A4 t2.2.length c4), (26, .slice A4 t2.2.length c4), (27, .int .i64 (t2.2.length : Int)), (28, .int .i64 0)]) (by kernel_rfl) ?_
    refine o_end (by kernel_rfl) ?_
    refine e_seq ?_
    refine w_block 0 250 (by kernel_rfl) ?_
    obtain ⟨t3, ht1, ho1⟩ := bind_some hm
    refine t_env [0, 1, 2, 26, 27, 28] (E' := [(0, .pointer (some ⟨g1, 0, none⟩)), (1, .int .u32 t2.1), (2, .slice A4 t2.2.length c4), (26, .slice A4 t2.2.length c4), (27, .int .i64 (t2.2.length : Int)), (28, .int .i64 0)]) (by kernel_rfl) ?_
    refine w_loopJ 500 0 (fun k a w => ∃ (p1 : Int) (p2 : T_rbuf_Buffer_o) (g3 : Nat) (A5 : Option Addr) (c5 : Nat) (A6 : Option Addr) (c6 : Nat), rbuf_Buffer_Insert.l1 k t2 p1 p2 = some t3 ∧ Sl kT_sack_run B A5 c5 p2.xBoard.xruns ∧ EnvOk [(0, .pointer (some ⟨g1, 0, none⟩)), (1, .int .u32 t2.1), (2, .slice A4 t2.2.length c4), (26, .slice A4 t2.2.length c4), (27, .int .i64 (t2.2.length : Int)), (28, .int .i64 p1)] Try.f12.ntmps a ∧ St B G [.blk g1 [.pointer (some ⟨g3, 0, none⟩), .slice A6 p2.xbytes.length c6, .int .i64 p2.xbegin, .int .i64 p2.xn, .int .u32 p2.xlast, .bool p2.xkept] 50, .blk g3 [.bool p2.xBoard.xmade, .int .u32 p2.xBoard.xfirst, .slice A5 p2.xBoard.xruns.length c5] 76, .own A6 p2.xbytes.length c6 (rowOf (encI .u8) p2.xbytes) 1 5] w) (fun a w => ∃ (g4 : Nat) (A7 : Option Addr) (c7 : Nat) (A8 : Option Addr) (c8 : Nat), Sl kT_sack_run B A7 c7 (((t3).xBoard).xruns) ∧ EnvOk [(0, .pointer (some ⟨g1, 0, none⟩)), (1, .int .u32 t2.1), (2, .slice A4 t2.2.length c4)] Try.f12.ntmps a ∧ St B G [.blk g1 [.pointer (some ⟨g4, 0, none⟩), .slice A8 (((t3).xbytes).length) c8, .int .i64 ((t3).xbegin), .int .i64 ((t3).xn), .int .u32 ((t3).xlast), .bool ((t3).xkept)] 50, .blk g4 [.bool (((t3).xBoard).xmade), .int .u32 (((t3).xBoard).xfirst), .slice A7 (((t3).xBoard).xruns).length c7] 76, .own A8 (((t3).xbytes).length) c8 (rowOf (encI .u8) ((t3).xbytes)) 1 5] w) (by kernel_rfl) ?_ ?_ k ?_
    · rintro a w ⟨g4, A7, c7, A8, c8, hs5, ha, hw⟩
      refine we_of (E := [(0, .pointer (some ⟨g1, 0, none⟩)), (1, .int .u32 t2.1), (2, .slice A4 t2.2.length c4)]) (B := B) (G := G) (L := [.blk g1 [.pointer (some ⟨g4, 0, none⟩), .slice A8 (((t3).xbytes).length) c8, .int .i64 ((t3).xbegin), .int .i64 ((t3).xn), .int .u32 ((t3).xlast), .bool ((t3).xkept)] 50, .blk g4 [.bool (((t3).xBoard).xmade), .int .u32 (((t3).xBoard).xfirst), .slice A7 (((t3).xBoard).xruns).length c7] 76, .own A8 (((t3).xbytes).length) c8 (rowOf (encI .u8) ((t3).xbytes)) 1 5]) ?_ ha hw
      have hm := ho1
      refine e_seq ?_
      refine w_seq 126 127 (by kernel_rfl) ?_
      refine w_region (by kernel_rfl) ?_
      refine o_run 6 [0, 1, 10] (l := []) .nil (E' := [(0, .pointer (some ⟨g1, 0, none⟩)), (1, .int .u32 t2.1), (10, .int .u32 (U32 (t2.1 + (U32 (t2.2.length : Int)))))]) (by kernel_rfl) ?_
      refine o_end (by kernel_rfl) ?_
      refine e_seq ?_
      refine w_seq 254 255 (by kernel_rfl) ?_
      refine w_region (by kernel_rfl) ?_
      refine o_run 8 [0, 10, 58, 59, 62] (l := [(⟨g1, 0, none⟩, .pointer (some ⟨g4, 0, none⟩))]) (.one (at_blk (j := 0) rfl rfl) .nil) (E' := [(0, .pointer (some ⟨g1, 0, none⟩)), (10, .int .u32 (U32 (t2.1 + (U32 (t2.2.length : Int))))), (58, .pointer (some ⟨g4, 0, none⟩)), (59, .int .u32 (U32 (t2.1 + (U32 (t2.2.length : Int))))), (62, .agg #[.int .u32 t2.1, .int .u32 (U32 (t2.1 + (U32 (t2.2.length : Int))))])]) (by kernel_rfl) ?_
      refine o_stp ?_ (by kernel_rfl)
      refine s_new 63 (fun g5 => .slice (some ⟨g5, 0, none⟩) 1 1) [.int .u32 t2.1, .int .u32 (U32 (t2.1 + (U32 (t2.2.length : Int))))] 57 (fun _ => by kernel_rfl) (fun g5 => ?_)
      refine t_blk_own (m := 1) (sz := 2) (by rfl) (by rfl) ?_
      refine t_L (L' := [.own (some ⟨g5, 0, none⟩) ([(⟨t2.1, U32 (t2.1 + (U32 (t2.2.length : Int)))⟩ : T_api_Block)].length) 1 (rowOf encT_api_Block [(⟨t2.1, U32 (t2.1 + (U32 (t2.2.length : Int)))⟩ : T_api_Block)]) 2 57, .blk g1 [.pointer (some ⟨g4, 0, none⟩), .slice A8 (((t3).xbytes).length) c8, .int .i64 ((t3).xbegin), .int .i64 ((t3).xn), .int .u32 ((t3).xlast), .bool ((t3).xkept)] 50, .blk g4 [.bool (((t3).xBoard).xmade), .int .u32 (((t3).xBoard).xfirst), .slice A7 (((t3).xBoard).xruns).length c7] 76, .own A8 (((t3).xbytes).length) c8 (rowOf (encI .u8) ((t3).xbytes)) 1 5]) (by kernel_rfl) ?_
      refine t_frozS kT_api_Block rfl rfl (fun B1 hx3 hs6 => ?_)
      obtain ⟨t4, hx4, hm⟩ := bind_some hm
      refine o_stp ?_ (by kernel_rfl)
      refine s_call 64 30 #[.pointer (some ⟨g4, 0, none⟩), .int .u32 (U32 (t2.1 + (U32 (t2.2.length : Int)))), .slice (some ⟨g5, 0, none⟩) [(⟨t2.1, U32 (t2.1 + (U32 (t2.2.length : Int)))⟩ : T_api_Block)].length 1] [1] [0, 2] (by kernel_rfl) (by kernel_rfl) (fun w hs => sack_Board_Add_ok k ((t3).xBoard) (U32 (t2.1 + (U32 (t2.2.length : Int)))) [(⟨t2.1, U32 (t2.1 + (U32 (t2.2.length : Int)))⟩ : T_api_Block)] t4 hx4 B1 _ g4 A7 c7 (some ⟨g5, 0, none⟩) 1 (hs5.up hx3) hs6 w (St.cast (by kernel_rfl) hs)) (fun x hx => ?_)
      obtain ⟨B2, A9, c9⟩ := x
      obtain ⟨hx5, hs7⟩ := hx
      refine t_L (L' := [.blk g4 [.bool t4.2.xmade, .int .u32 t4.2.xfirst, .slice A9 t4.2.xruns.length c9] 76, .blk g1 [.pointer (some ⟨g4, 0, none⟩), .slice A8 (((t3).xbytes).length) c8, .int .i64 ((t3).xbegin), .int .i64 ((t3).xn), .int .u32 ((t3).xlast), .bool ((t3).xkept)] 50, .own A8 (((t3).xbytes).length) c8 (rowOf (encI .u8) ((t3).xbytes)) 1 5]) (by kernel_rfl) ?_
      refine o_end (by kernel_rfl) ?_
      refine e_seq ?_
      refine w_seq 510 511 (by kernel_rfl) ?_
      refine w_region (by kernel_rfl) ?_
      refine o_run 6 [0, 66, 68, 70] (l := []) .nil (E' := [(0, .pointer (some ⟨g1, 0, none⟩)), (66, .pointer (some ⟨g1, 0, none⟩)), (68, .int .u32 (U32 ((U32 (t2.1 + (U32 (t2.2.length : Int)))) - 1))), (70, .pointer (some ⟨g1, 4, none⟩))]) (by kernel_rfl) ?_
      refine o_stp ?_ (by kernel_rfl)
      refine s_store 1 g1 [.pointer (some ⟨g4, 0, none⟩), .slice A8 (((t3).xbytes).length) c8, .int .i64 ((t3).xbegin), .int .i64 ((t3).xn), .int .u32 ((t3).xlast), .bool ((t3).xkept)] 50 [(4, .int .u32 (U32 ((U32 (t2.1 + (U32 (t2.2.length : Int)))) - 1)))] (by kernel_rfl) (by kernel_rfl) (by kernel_rfl) ?_
      refine t_L (L' := [.blk g4 [.bool t4.2.xmade, .int .u32 t4.2.xfirst, .slice A9 t4.2.xruns.length c9] 76, .blk g1 [.pointer (some ⟨g4, 0, none⟩), .slice A8 (((t3).xbytes).length) c8, .int .i64 ((t3).xbegin), .int .i64 ((t3).xn), .int .u32 (U32 ((U32 (t2.1 + (U32 (t2.2.length : Int)))) - 1)), .bool ((t3).xkept)] 50, .own A8 (((t3).xbytes).length) c8 (rowOf (encI .u8) ((t3).xbytes)) 1 5]) (by kernel_rfl) ?_
      refine o_run 2 [0, 72] (l := []) .nil (E' := [(0, .pointer (some ⟨g1, 0, none⟩)), (72, .pointer (some ⟨g1, 5, none⟩))]) (by kernel_rfl) ?_
      refine o_stp ?_ (by kernel_rfl)
      refine s_store 1 g1 [.pointer (some ⟨g4, 0, none⟩), .slice A8 (((t3).xbytes).length) c8, .int .i64 ((t3).xbegin), .int .i64 ((t3).xn), .int .u32 (U32 ((U32 (t2.1 + (U32 (t2.2.length : Int)))) - 1)), .bool ((t3).xkept)] 50 [(5, .bool true)] (by kernel_rfl) (by kernel_rfl) (by kernel_rfl) ?_
      refine t_L (L' := [.blk g4 [.bool t4.2.xmade, .int .u32 t4.2.xfirst, .slice A9 t4.2.xruns.length c9] 76, .blk g1 [.pointer (some ⟨g4, 0, none⟩), .slice A8 (((t3).xbytes).length) c8, .int .i64 ((t3).xbegin), .int .i64 ((t3).xn), .int .u32 (U32 ((U32 (t2.1 + (U32 (t2.2.length : Int)))) - 1)), .bool true] 50, .own A8 (((t3).xbytes).length) c8 (rowOf (encI .u8) ((t3).xbytes)) 1 5]) (by kernel_rfl) ?_
      refine o_end (by kernel_rfl) ?_
      refine e_seq ?_
      refine w_seq 1022 1023 (by kernel_rfl) ?_
      refine w_region (by kernel_rfl) ?_
      refine o_run 4 [0, 76] (l := [(⟨g1, 0, none⟩, .pointer (some ⟨g4, 0, none⟩))]) (.one (at_blk (j := 1) rfl rfl) .nil) (E' := [(0, .pointer (some ⟨g1, 0, none⟩)), (76, .pointer (some ⟨g4, 0, none⟩))]) (by kernel_rfl) ?_
      obtain ⟨t5, hx6, hm⟩ := bind_some hm
      refine o_stp ?_ (by kernel_rfl)
      refine s_call 77 31 #[.pointer (some ⟨g4, 0, none⟩)] [0] [1, 2] (by kernel_rfl) (by kernel_rfl) (fun w hs => sack_Board_Blocks_ok k t4.2 t5 hx6 B2 _ g4 A9 c9 hs7 w (St.cast (by kernel_rfl) hs)) (fun x hx => ?_)
      obtain ⟨A10, c10⟩ := x
      refine t_L (L' := [.own A10 t5.length c10 (rowOf encT_api_Block t5) 2 57, .blk g4 [.bool t4.2.xmade, .int .u32 t4.2.xfirst, .slice A9 t4.2.xruns.length c9] 76, .blk g1 [.pointer (some ⟨g4, 0, none⟩), .slice A8 (((t3).xbytes).length) c8, .int .i64 ((t3).xbegin), .int .i64 ((t3).xn), .int .u32 (U32 ((U32 (t2.1 + (U32 (t2.2.length : Int)))) - 1)), .bool true] 50, .own A8 (((t3).xbytes).length) c8 (rowOf (encI .u8) ((t3).xbytes)) 1 5]) (by kernel_rfl) ?_
      refine o_run 1 [0, 11] (l := []) .nil (E' := [(0, .pointer (some ⟨g1, 0, none⟩)), (11, .slice A10 t5.length c10)]) (by kernel_rfl) ?_
      refine o_end (by kernel_rfl) ?_
      refine e_seq ?_
      refine w_seq 2046 2047 (by kernel_rfl) ?_
      refine w_seq 4092 4093 (by kernel_rfl) ?_
      obtain ⟨e1, hx7, hm⟩ := bind_some hm
      obtain ⟨t6, hx8, hm⟩ := bind_some hm
      refine w_tail 6 [.own A10 t5.length c10 (rowOf encT_api_Block t5) 2 57, .blk g4 [.bool t4.2.xmade, .int .u32 t4.2.xfirst, .slice A9 t4.2.xruns.length c9] 76, .blk g1 [.pointer (some ⟨g4, 0, none⟩), .slice A8 (((t3).xbytes).length) c8, .int .i64 ((t3).xbegin), .int .i64 ((t3).xn), .int .u32 (U32 ((U32 (t2.1 + (U32 (t2.2.length : Int)))) - 1)), .bool true] 50, .own A8 (((t3).xbytes).length) c8 (rowOf (encI .u8) ((t3).xbytes)) 1 5] (by kernel_rfl) mixed (by kernel_rfl) ?_
      refine tt_run [0, 4] [0, 11, 78, 82] [0, 1, 2, 3] 4 (listed' := #[true, false, false, false, true, false, false]) (l := []) .nil (E' := [(0, .pointer (some ⟨g1, 0, none⟩)), (11, .slice A10 t5.length c10), (78, .slice A10 t5.length c10), (82, .pointer (some ⟨g1, 0, none⟩))]) (by kernel_rfl) (by kernel_rfl) (by kernel_rfl) (Ext.refl _) (by kernel_rfl) (by kernel_rfl) ?_
      obtain ⟨hi3, hi4, hg2⟩ := idx_some hx7
      refine tt_val 1 79 (.indexAddr 46 (.tmp 78) (.const (.int .i64 0))) (.pointer (some (adr A10 (Int.toNat 0 * 2)))) [0, 1, 2, 3] (by kernel_rfl) (v_index (k := .i64) (c := c10) (by kernel_rfl) (by kernel_rfl) (by kernel_rfl) hi3 hi4 (own_some (j := 0) rfl hi4 hi3)) (by kernel_rfl) (Ext.refl _) (by kernel_rfl) (by kernel_rfl) ?_
      refine tt_run [2, 3] [0, 11, 81, 82] [0, 1, 2, 3] 1 (listed' := #[true, true, true, true, true, false, false]) (l := [((adr A10 (Int.toNat 0 * 2)), .int .u32 e1.xLeft)]) (.one ((At.sub (l := encT_api_Block e1) 0 (at_own (j := 0) (off := Int.toNat 0 * 2) rfl (row_at (enc := encT_api_Block) (sz := 2) (fun _ => rfl) hg2)) rfl)) .nil) (E' := [(0, .pointer (some ⟨g1, 0, none⟩)), (11, .slice A10 t5.length c10), (81, .int .u32 e1.xLeft), (82, .pointer (some ⟨g1, 0, none⟩))]) (by kernel_rfl) (by kernel_rfl) (by kernel_rfl) (Ext.refl _) (by kernel_rfl) (by kernel_rfl) ?_
      refine tt_stp 5 [0, 1, 2, 3] (Ext.refl _) (by kernel_rfl) (by kernel_rfl) (by kernel_rfl) (by kernel_rfl) ?_
      refine s_call 83 13 #[.pointer (some ⟨g1, 0, none⟩)] [2, 1, 3] [0] (by kernel_rfl) (by kernel_rfl) (fun w hs => rbuf_Buffer_Next_ok (⟨t4.2, (t3).xbytes, (t3).xbegin, (t3).xn, U32 ((U32 (t2.1 + (U32 (t2.2.length : Int)))) - 1), true⟩ : T_rbuf_Buffer_o) t6 hx8 B2 _ g1 g4 A9 c9 A8 c8 hs7 w (St.cast (by kernel_rfl) hs)) (fun _ hx => ?_)
      refine t_L (L' := [.blk g1 [.pointer (some ⟨g4, 0, none⟩), .slice A8 (((t3).xbytes).length) c8, .int .i64 ((t3).xbegin), .int .i64 ((t3).xn), .int .u32 (U32 ((U32 (t2.1 + (U32 (t2.2.length : Int)))) - 1)), .bool true] 50, .blk g4 [.bool t4.2.xmade, .int .u32 t4.2.xfirst, .slice A9 t4.2.xruns.length c9] 76, .own A8 (((t3).xbytes).length) c8 (rowOf (encI .u8) ((t3).xbytes)) 1 5, .own A10 t5.length c10 (rowOf encT_api_Block t5) 2 57]) (by kernel_rfl) ?_
      refine tt_end [3, 1, 0, 2] (Ext.refl _) (by kernel_rfl) (by kernel_rfl) (by kernel_rfl) ?_
      refine o_run 1 [0, 11, 84] (l := []) .nil (E' := [(0, .pointer (some ⟨g1, 0, none⟩)), (11, .slice A10 t5.length c10), (84, .bool (e1.xLeft != t6))]) (by kernel_rfl) ?_
      refine o_end (by kernel_rfl) ?_
      refine e_seq ?_
      refine w_cond (.tmp 84) 8186 8187 (e1.xLeft != t6) (by kernel_rfl) (by kernel_rfl) (fun hb2 => ?_) (fun hb2 => ?_)
      · replace hm := ite_t hb2 hm
        refine w_seq 16372 16373 (by kernel_rfl) ?_
        refine w_region (by kernel_rfl) ?_
        refine o_run 1 [6] (l := []) .nil (E' := [(6, .int .i64 0)]) (by kernel_rfl) ?_
        refine o_end (by kernel_rfl) ?_
        refine e_seq ?_
        refine w_ret (by kernel_rfl) ?_
        obtain rfl := Option.some.inj hm
        exact e_retP (B2, g4, A9, c9, A8, c8) (.int .i64 0) [0, 1, 2] (by kernel_rfl) (by kernel_rfl) rfl (by kernel_rfl) (by kernel_rfl) ⟨(Ext.trans hx3 hx5), hs7⟩
      · replace hm := ite_f hb2 hm
        refine w_skip (by kernel_rfl) ?_
        refine e_seq ?_
        refine w_seq 4094 4095 (by kernel_rfl) ?_
        refine w_quiet (by kernel_rfl) mixed (by kernel_rfl) ?_
        refine q_run 1 [0, 11, 85] (l := []) .nil (E' := [(0, .pointer (some ⟨g1, 0, none⟩)), (11, .slice A10 t5.length c10), (85, .slice A10 t5.length c10)]) (by kernel_rfl) ?_
        obtain ⟨e2, hx9, hm⟩ := bind_some hm
        obtain ⟨hi5, hi6, hg3⟩ := idx_some hx9
        refine q_val 86 (.indexAddr 46 (.tmp 85) (.const (.int .i64 0))) (.pointer (some (adr A10 (Int.toNat 0 * 2)))) (by kernel_rfl) (v_index (k := .i64) (c := c10) (by kernel_rfl) (by kernel_rfl) (by kernel_rfl) hi5 hi6 (own_some (j := 3) rfl hi6 hi5)) ?_
        refine q_run 3 [0, 11, 88, 89] (l := [(((adr A10 (Int.toNat 0 * 2)).add 1), .int .u32 e2.xRight)]) (.one ((At.sub (l := encT_api_Block e2) 1 (at_own (j := 3) (off := Int.toNat 0 * 2) rfl (row_at (enc := encT_api_Block) (sz := 2) (fun _ => rfl) hg3)) rfl)) .nil) (E' := [(0, .pointer (some ⟨g1, 0, none⟩)), (11, .slice A10 t5.length c10), (88, .int .u32 e2.xRight), (89, .slice A10 t5.length c10)]) (by kernel_rfl) ?_
        obtain ⟨e3, hx10, hm⟩ := bind_some hm
        obtain ⟨hi7, hi8, hg4⟩ := idx_some hx10
        refine q_val 90 (.indexAddr 46 (.tmp 89) (.const (.int .i64 0))) (.pointer (some (adr A10 (Int.toNat 0 * 2)))) (by kernel_rfl) (v_index (k := .i64) (c := c10) (by kernel_rfl) (by kernel_rfl) (by kernel_rfl) hi7 hi8 (own_some (j := 3) rfl hi8 hi7)) ?_
        refine q_run 5 [0, 11, 12] (l := [((adr A10 (Int.toNat 0 * 2)), .int .u32 e3.xLeft)]) (.one ((At.sub (l := encT_api_Block e3) 0 (at_own (j := 3) (off := Int.toNat 0 * 2) rfl (row_at (enc := encT_api_Block) (sz := 2) (fun _ => rfl) hg4)) rfl)) .nil) (E' := [(0, .pointer (some ⟨g1, 0, none⟩)), (11, .slice A10 t5.length c10), (12, .int .i64 (I64 (U32 (e2.xRight - e3.xLeft))))]) (by kernel_rfl) ?_
        refine q_end (by kernel_rfl) ?_
        refine e_seq ?_
        refine w_seq 8190 8191 (by kernel_rfl) ?_
        obtain ⟨e4, hx11, hm⟩ := bind_some hm
        obtain ⟨t7, hx12, hm⟩ := bind_some hm
        refine w_tail 8 [.blk g1 [.pointer (some ⟨g4, 0, none⟩), .slice A8 (((t3).xbytes).length) c8, .int .i64 ((t3).xbegin), .int .i64 ((t3).xn), .int .u32 (U32 ((U32 (t2.1 + (U32 (t2.2.length : Int)))) - 1)), .bool true] 50, .blk g4 [.bool t4.2.xmade, .int .u32 t4.2.xfirst, .slice A9 t4.2.xruns.length c9] 76, .own A8 (((t3).xbytes).length) c8 (rowOf (encI .u8) ((t3).xbytes)) 1 5, .own A10 t5.length c10 (rowOf encT_api_Block t5) 2 57] (by kernel_rfl) mixed (by kernel_rfl) ?_
        refine tt_run [0, 1, 2, 3, 4] [0, 12, 98, 99] [0, 1, 2, 3] 3 (listed' := #[true, true, true, true, true, false, false, false, false]) (l := [(⟨g1, 0, none⟩, .pointer (some ⟨g4, 0, none⟩))]) (.one (at_blk (j := 0) rfl rfl) .nil) (E' := [(0, .pointer (some ⟨g1, 0, none⟩)), (12, .int .i64 (I64 (U32 (e2.xRight - e3.xLeft)))), (98, .pointer (some ⟨g4, 0, none⟩)), (99, .slice A10 t5.length c10)]) (by kernel_rfl) (by kernel_rfl) (by kernel_rfl) (Ext.refl _) (by kernel_rfl) (by kernel_rfl) ?_
        obtain ⟨hi11, hi12, hg6⟩ := idx_some hx11
        refine tt_val 5 100 (.indexAddr 46 (.tmp 99) (.const (.int .i64 0))) (.pointer (some (adr A10 (Int.toNat 0 * 2)))) [0, 1, 2, 3] (by kernel_rfl) (v_index (k := .i64) (c := c10) (by kernel_rfl) (by kernel_rfl) (by kernel_rfl) hi11 hi12 (own_some (j := 3) rfl hi12 hi11)) (by kernel_rfl) (Ext.refl _) (by kernel_rfl) (by kernel_rfl) ?_
        refine tt_run [6, 7] [0, 12, 98, 102] [0, 1, 2, 3] 0 (listed' := #[true, true, true, true, true, true, true, true, false]) (l := [(((adr A10 (Int.toNat 0 * 2)).add 1), .int .u32 e4.xRight)]) (.one ((At.sub (l := encT_api_Block e4) 1 (at_own (j := 3) (off := Int.toNat 0 * 2) rfl (row_at (enc := encT_api_Block) (sz := 2) (fun _ => rfl) hg6)) rfl)) .nil) (E' := [(0, .pointer (some ⟨g1, 0, none⟩)), (12, .int .i64 (I64 (U32 (e2.xRight - e3.xLeft)))), (98, .pointer (some ⟨g4, 0, none⟩)), (102, .int .u32 e4.xRight)]) (by kernel_rfl) (by kernel_rfl) (by kernel_rfl) (Ext.refl _) (by kernel_rfl) (by kernel_rfl) ?_
        refine tt_end [0, 1, 2, 3] (Ext.refl _) (by kernel_rfl) (by kernel_rfl) (by kernel_rfl) ?_
        refine o_stp ?_ (by kernel_rfl)
        refine s_call 103 32 #[.pointer (some ⟨g4, 0, none⟩), .int .u32 e4.xRight] [1] [0, 2, 3] (by kernel_rfl) (by kernel_rfl) (fun w hs => sack_Board_Advance_ok k t4.2 e4.xRight t7 hx12 B2 _ g4 A9 c9 hs7 w (St.cast (by kernel_rfl) hs)) (fun x hx => ?_)
        obtain ⟨B4, A12, c12⟩ := x
        obtain ⟨hx14, hs9⟩ := hx
        refine t_L (L' := [.blk g4 [.bool t7.2.xmade, .int .u32 t7.2.xfirst, .slice A12 t7.2.xruns.length c12] 76, .blk g1 [.pointer (some ⟨g4, 0, none⟩), .slice A8 (((t3).xbytes).length) c8, .int .i64 ((t3).xbegin), .int .i64 ((t3).xn), .int .u32 (U32 ((U32 (t2.1 + (U32 (t2.2.length : Int)))) - 1)), .bool true] 50, .own A8 (((t3).xbytes).length) c8 (rowOf (encI .u8) ((t3).xbytes)) 1 5, .own A10 t5.length c10 (rowOf encT_api_Block t5) 2 57]) (by kernel_rfl) ?_
        refine o_end (by kernel_rfl) ?_
        refine e_seq ?_
        refine w_seq 16382 16383 (by kernel_rfl) ?_
        refine w_region (by kernel_rfl) ?_
        refine o_run 8 [12, 109, 111] (l := [(⟨g1, 3, none⟩, .int .i64 ((t3).xn))]) (.one (at_blk (j := 1) rfl rfl) .nil) (E' := [(12, .int .i64 (I64 (U32 (e2.xRight - e3.xLeft)))), (109, .int .i64 (I64 (((t3).xn) + (I64 (U32 (e2.xRight - e3.xLeft)))))), (111, .pointer (some ⟨g1, 3, none⟩))]) (by kernel_rfl) ?_
        refine o_stp ?_ (by kernel_rfl)
        refine s_store 1 g1 [.pointer (some ⟨g4, 0, none⟩), .slice A8 (((t3).xbytes).length) c8, .int .i64 ((t3).xbegin), .int .i64 ((t3).xn), .int .u32 (U32 ((U32 (t2.1 + (U32 (t2.2.length : Int)))) - 1)), .bool true] 50 [(3, .int .i64 (I64 (((t3).xn) + (I64 (U32 (e2.xRight - e3.xLeft))))))] (by kernel_rfl) (by kernel_rfl) (by kernel_rfl) ?_
        refine t_L (L' := [.blk g4 [.bool t7.2.xmade, .int .u32 t7.2.xfirst, .slice A12 t7.2.xruns.length c12] 76, .blk g1 [.pointer (some ⟨g4, 0, none⟩), .slice A8 (((t3).xbytes).length) c8, .int .i64 ((t3).xbegin), .int .i64 (I64 (((t3).xn) + (I64 (U32 (e2.xRight - e3.xLeft))))), .int .u32 (U32 ((U32 (t2.1 + (U32 (t2.2.length : Int)))) - 1)), .bool true] 50, .own A8 (((t3).xbytes).length) c8 (rowOf (encI .u8) ((t3).xbytes)) 1 5, .own A10 t5.length c10 (rowOf encT_api_Block t5) 2 57]) (by kernel_rfl) ?_
        refine o_end (by kernel_rfl) ?_
        refine e_seq ?_
        refine w_seq 32766 32767 (by kernel_rfl) ?_
        refine w_region (by kernel_rfl) ?_
        refine o_run 2 [6] (l := []) .nil (E' := [(6, .int .i64 (I64 (U32 (e2.xRight - e3.xLeft))))]) (by kernel_rfl) ?_
        refine o_end (by kernel_rfl) ?_
        refine e_seq ?_
        refine w_ret (by kernel_rfl) ?_
        obtain rfl := Option.some.inj hm
        exact e_retP (B4, g4, A12, c12, A8, c8) (.int .i64 (I64 (U32 (e2.xRight - e3.xLeft)))) [1, 0, 2] (by kernel_rfl) (by kernel_rfl) rfl (by kernel_rfl) (by kernel_rfl) ⟨(Ext.trans (Ext.trans hx3 hx5) hx14), hs9⟩
    · rintro k a w ⟨p1, p2, g3, A5, c5, A6, c6, hm, hs4, ha, hw⟩
      cases k with
      | zero => exact absurd hm (by simp [rbuf_Buffer_Insert.l1])
      | succ k =>
        unfold rbuf_Buffer_Insert.l1 at hm
        refine wc_of (E := [(0, .pointer (some ⟨g1, 0, none⟩)), (1, .int .u32 t2.1), (2, .slice A4 t2.2.length c4), (26, .slice A4 t2.2.length c4), (27, .int .i64 (t2.2.length : Int)), (28, .int .i64 p1)]) (B := B) (G := G) (L := [.blk g1 [.pointer (some ⟨g3, 0, none⟩), .slice A6 p2.xbytes.length c6, .int .i64 p2.xbegin, .int .i64 p2.xn, .int .u32 p2.xlast, .bool p2.xkept] 50, .blk g3 [.bool p2.xBoard.xmade, .int .u32 p2.xBoard.xfirst, .slice A5 p2.xBoard.xruns.length c5] 76, .own A6 p2.xbytes.length c6 (rowOf (encI .u8) p2.xbytes) 1 5]) ?_ ha hw
        refine w_seq 1000 1001 (by kernel_rfl) ?_
        refine w_region (by kernel_rfl) ?_
        refine o_run 1 [0, 1, 2, 26, 27, 28, 29] (l := []) .nil (E' := [(0, .pointer (some ⟨g1, 0, none⟩)), (1, .int .u32 t2.1), (2, .slice A4 t2.2.length c4), (26, .slice A4 t2.2.length c4), (27, .int .i64 (t2.2.length : Int)), (28, .int .i64 p1), (29, .bool (decide (p1 < (t2.2.length : Int))))]) (by kernel_rfl) ?_
        refine o_end (by kernel_rfl) ?_
        refine e_seq ?_
        refine w_seq 2002 2003 (by kernel_rfl) ?_
        refine w_cond (.tmp 29) 4004 4005 (decide (p1 < (t2.2.length : Int))) (by kernel_rfl) (by kernel_rfl) (fun hb3 => ?_) (fun hb3 => ?_)
        · replace hm := ite_t hb3 hm
          refine w_skip (by kernel_rfl) ?_
          refine e_seq ?_
          refine w_seq 4006 4007 (by kernel_rfl) ?_
          refine w_block 1 8012 (by kernel_rfl) ?_
          refine w_seq 16024 16025 (by kernel_rfl) ?_
          refine w_region (by kernel_rfl) ?_
          refine o_run 1 [0, 1, 2, 26, 27, 28, 30] (l := []) .nil (E' := [(0, .pointer (some ⟨g1, 0, none⟩)), (1, .int .u32 t2.1), (2, .slice A4 t2.2.length c4), (26, .slice A4 t2.2.length c4), (27, .int .i64 (t2.2.length : Int)), (28, .int .i64 p1), (30, .int .i64 p1)]) (by kernel_rfl) ?_
          obtain ⟨e5, hx15, hm⟩ := bind_some hm
          obtain ⟨hi13, hi14, hg7⟩ := idx_some hx15
          obtain ⟨cs1, hk1, hc1⟩ := (hs3).at hg7
          obtain rfl := hk1
          refine o_val 31 (.indexAddr 32 (.tmp 26) (.tmp 28)) (.pointer (some (adr A4 (Int.toNat p1 * 1)))) (by kernel_rfl) (v_index (k := .i64) (c := c4) (by kernel_rfl) (by kernel_rfl) (by kernel_rfl) hi13 hi14 ((hs3).some hg7)) ?_
          refine o_run 3 [0, 1, 2, 7, 8, 26, 27, 28] (l := [((adr A4 (Int.toNat p1 * 1)), .int .u8 e5)]) (.one ((at_sl hc1).sub 0 rfl) .nil) (E' := [(0, .pointer (some ⟨g1, 0, none⟩)), (1, .int .u32 t2.1), (2, .slice A4 t2.2.length c4), (7, .int .i64 p1), (8, .int .u8 e5), (26, .slice A4 t2.2.length c4), (27, .int .i64 (t2.2.length : Int)), (28, .int .i64 p1)]) (by kernel_rfl) ?_
          refine o_end (by kernel_rfl) ?_
          refine e_seq ?_
          refine w_seq 32050 32051 (by kernel_rfl) ?_
          refine w_region (by kernel_rfl) ?_
          refine o_run 5 [0, 1, 2, 8, 9, 26, 27, 28] (l := []) .nil (E' := [(0, .pointer (some ⟨g1, 0, none⟩)), (1, .int .u32 t2.1), (2, .slice A4 t2.2.length c4), (8, .int .u8 e5), (9, .int .u32 (U32 (t2.1 + (U32 p1)))), (26, .slice A4 t2.2.length c4), (27, .int .i64 (t2.2.length : Int)), (28, .int .i64 p1)]) (by kernel_rfl) ?_
          refine o_end (by kernel_rfl) ?_
          refine e_seq ?_
          refine w_seq 64102 64103 (by kernel_rfl) ?_
          refine w_region (by kernel_rfl) ?_
          refine o_run 5 [0, 1, 2, 8, 9, 26, 27, 28, 40, 41] (l := [(⟨g1, 0, none⟩, .pointer (some ⟨g3, 0, none⟩))]) (.one (at_blk (j := 0) rfl rfl) .nil) (E' := [(0, .pointer (some ⟨g1, 0, none⟩)), (1, .int .u32 t2.1), (2, .slice A4 t2.2.length c4), (8, .int .u8 e5), (9, .int .u32 (U32 (t2.1 + (U32 p1)))), (26, .slice A4 t2.2.length c4), (27, .int .i64 (t2.2.length : Int)), (28, .int .i64 p1), (40, .pointer (some ⟨g3, 0, none⟩)), (41, .int .u32 (U32 (t2.1 + (U32 p1))))]) (by kernel_rfl) ?_
          obtain ⟨t8, hx16, hm⟩ := bind_some hm
          refine o_stp ?_ (by kernel_rfl)
          refine s_call 42 29 #[.pointer (some ⟨g3, 0, none⟩), .int .u32 (U32 (t2.1 + (U32 p1)))] [1] [0, 2] (by kernel_rfl) (by kernel_rfl) (fun w hs => sack_Board_Has_ok k p2.xBoard (U32 (t2.1 + (U32 p1))) t8 hx16 B _ g3 A5 c5 hs4 w (St.cast (by kernel_rfl) hs)) (fun _ hx => ?_)
          refine t_L (L' := [.blk g3 [.bool p2.xBoard.xmade, .int .u32 p2.xBoard.xfirst, .slice A5 p2.xBoard.xruns.length c5] 76, .blk g1 [.pointer (some ⟨g3, 0, none⟩), .slice A6 p2.xbytes.length c6, .int .i64 p2.xbegin, .int .i64 p2.xn, .int .u32 p2.xlast, .bool p2.xkept] 50, .own A6 p2.xbytes.length c6 (rowOf (encI .u8) p2.xbytes) 1 5]) (by kernel_rfl) ?_
          refine o_run 1 [0, 1, 2, 8, 9, 26, 27, 28, 43] (l := []) .nil (E' := [(0, .pointer (some ⟨g1, 0, none⟩)), (1, .int .u32 t2.1), (2, .slice A4 t2.2.length c4), (8, .int .u8 e5), (9, .int .u32 (U32 (t2.1 + (U32 p1)))), (26, .slice A4 t2.2.length c4), (27, .int .i64 (t2.2.length : Int)), (28, .int .i64 p1), (43, .bool (!t8))]) (by kernel_rfl) ?_
          refine o_end (by kernel_rfl) ?_
          refine e_seq ?_
          refine w_cond (.tmp 43) 128206 128207 (!t8) (by kernel_rfl) (by kernel_rfl) (fun hb4 => ?_) (fun hb4 => ?_)
          · replace hm := ite_t hb4 hm
            refine w_region (by kernel_rfl) ?_
            refine o_run 2 [0, 1, 2, 8, 26, 27, 28, 44, 45] (l := []) .nil (E' := [(0, .pointer (some ⟨g1, 0, none⟩)), (1, .int .u32 t2.1), (2, .slice A4 t2.2.length c4), (8, .int .u8 e5), (26, .slice A4 t2.2.length c4), (27, .int .i64 (t2.2.length : Int)), (28, .int .i64 p1), (44, .pointer (some ⟨g1, 0, none⟩)), (45, .int .u32 (U32 (t2.1 + (U32 p1))))]) (by kernel_rfl) ?_
            obtain ⟨t9, hx17, hm⟩ := bind_some hm
            refine o_stp ?_ (by kernel_rfl)
            refine s_call 46 26 #[.pointer (some ⟨g1, 0, none⟩), .int .u32 (U32 (t2.1 + (U32 p1)))] [1, 0, 2] [] (by kernel_rfl) (by kernel_rfl) (fun w hs => rbuf_Buffer_place_ok p2 (U32 (t2.1 + (U32 p1))) t9 hx17 B _ g1 g3 A5 c5 A6 c6 hs4 w (St.cast (by kernel_rfl) hs)) (fun _ hx => ?_)
            have hg8 := hx
            refine t_L (L' := [.blk g1 [.pointer (some ⟨g3, 0, none⟩), .slice A6 p2.xbytes.length c6, .int .i64 p2.xbegin, .int .i64 p2.xn, .int .u32 p2.xlast, .bool p2.xkept] 50, .blk g3 [.bool p2.xBoard.xmade, .int .u32 p2.xBoard.xfirst, .slice A5 p2.xBoard.xruns.length c5] 76, .own A6 p2.xbytes.length c6 (rowOf (encI .u8) p2.xbytes) 1 5]) (by kernel_rfl) ?_
            refine o_run 2 [0, 1, 2, 26, 27, 28, 47, 48] (l := []) .nil (E' := [(0, .pointer (some ⟨g1, 0, none⟩)), (1, .int .u32 t2.1), (2, .slice A4 t2.2.length c4), (26, .slice A4 t2.2.length c4), (27, .int .i64 (t2.2.length : Int)), (28, .int .i64 p1), (47, .int .u8 e5), (48, .pointer (some (adr A6 (Int.toNat t9.1 * 1))))]) (by kernel_rfl) ?_
            refine o_stp ?_ (by kernel_rfl)
            refine s_setE (enc := (encI .u8)) (v := .int .u8 e5) 5 (.tmp 48) (.tmp 47) 2 (x := e5) (by kernel_rfl) (by kernel_rfl) (by kernel_rfl) rfl (by kernel_rfl) rfl (fun _ => rfl) hg8 (fun u hu => by cases List.mem_singleton.1 hu; rfl) (by decide) ?_
            refine t_env [0, 1, 2, 26, 27, 28, 47, 48] (E' := [(0, .pointer (some ⟨g1, 0, none⟩)), (1, .int .u32 t2.1), (2, .slice A4 t2.2.length c4), (26, .slice A4 t2.2.length c4), (27, .int .i64 (t2.2.length : Int)), (28, .int .i64 p1), (47, .int .u8 e5), (48, .pointer (some (adr A6 (Int.toNat t9.1 * 1))))]) (by kernel_rfl) ?_
            refine t_EL (E' := [(0, .pointer (some ⟨g1, 0, none⟩)), (1, .int .u32 t2.1), (2, .slice A4 t2.2.length c4), (26, .slice A4 t2.2.length c4), (27, .int .i64 (t2.2.length : Int)), (28, .int .i64 p1), (47, .int .u8 e5), (48, .pointer (some (adr A6 (Int.toNat t9.1 * 1))))]) (L' := [.blk g1 [.pointer (some ⟨g3, 0, none⟩), .slice A6 ((p2.xbytes.set (Int.toNat t9.1) e5).length) c6, .int .i64 p2.xbegin, .int .i64 p2.xn, .int .u32 p2.xlast, .bool p2.xkept] 50, .blk g3 [.bool p2.xBoard.xmade, .int .u32 p2.xBoard.xfirst, .slice A5 p2.xBoard.xruns.length c5] 76, .own A6 ((p2.xbytes.set (Int.toNat t9.1) e5).length) c6 (rowOf (encI .u8) (p2.xbytes.set (Int.toNat t9.1) e5)) 1 5]) (eq_of_len List.length_set.symm (fun n => ([(0, .pointer (some ⟨g1, 0, none⟩)), (1, .int .u32 t2.1), (2, .slice A4 t2.2.length c4), (26, .slice A4 t2.2.length c4), (27, .int .i64 (t2.2.length : Int)), (28, .int .i64 p1), (47, .int .u8 e5), (48, .pointer (some (adr A6 (Int.toNat t9.1 * 1))))], [.blk g1 [.pointer (some ⟨g3, 0, none⟩), .slice A6 n c6, .int .i64 p2.xbegin, .int .i64 p2.xn, .int .u32 p2.xlast, .bool p2.xkept] 50, .blk g3 [.bool p2.xBoard.xmade, .int .u32 p2.xBoard.xfirst, .slice A5 p2.xBoard.xruns.length c5] 76, .own A6 n c6 (rowOf (encI .u8) (p2.xbytes.set (Int.toNat t9.1) e5)) 1 5])) rfl rfl) ?_
            refine o_end (by kernel_rfl) ?_
            refine e_blk ?_
            refine e_seq ?_
            refine w_region (by kernel_rfl) ?_
            refine o_run 2 [0, 1, 2, 26, 27, 28] (l := []) .nil (E' := [(0, .pointer (some ⟨g1, 0, none⟩)), (1, .int .u32 t2.1), (2, .slice A4 t2.2.length c4), (26, .slice A4 t2.2.length c4), (27, .int .i64 (t2.2.length : Int)), (28, .int .i64 (I64 (p1 + 1)))]) (by kernel_rfl) ?_
            refine o_end (by kernel_rfl) ?_
            refine t_drop [0, 1, 2] (by kernel_rfl) ?_
            refine t_L (L' := [.blk g1 [.pointer (some ⟨g3, 0, none⟩), .slice A6 ((p2.xbytes.set (Int.toNat t9.1) e5).length) c6, .int .i64 p2.xbegin, .int .i64 p2.xn, .int .u32 p2.xlast, .bool p2.xkept] 50, .blk g3 [.bool p2.xBoard.xmade, .int .u32 p2.xBoard.xfirst, .slice A5 p2.xBoard.xruns.length c5] 76, .own A6 ((p2.xbytes.set (Int.toNat t9.1) e5).length) c6 (rowOf (encI .u8) (p2.xbytes.set (Int.toNat t9.1) e5)) 1 5]) (by kernel_rfl) ?_
            refine t_env [0, 1, 2, 26, 27, 28] (E' := [(0, .pointer (some ⟨g1, 0, none⟩)), (1, .int .u32 t2.1), (2, .slice A4 t2.2.length c4), (26, .slice A4 t2.2.length c4), (27, .int .i64 (t2.2.length : Int)), (28, .int .i64 (I64 (p1 + 1)))]) (by kernel_rfl) ?_
            exact e_inv (fun a w ha hw => ⟨k, Nat.lt_succ_self k, (I64 (p1 + 1)), (⟨p2.xBoard, (p2.xbytes.set (Int.toNat t9.1) e5), p2.xbegin, p2.xn, p2.xlast, p2.xkept⟩ : T_rbuf_Buffer_o), g3, A5, c5, A6, c6, hm, hs4, ha, hw⟩)
          · replace hm := ite_f hb4 hm
            refine w_skip (by kernel_rfl) ?_
            refine e_blk ?_
            refine e_seq ?_
            refine w_region (by kernel_rfl) ?_
            refine o_run 2 [0, 1, 2, 26, 27, 28] (l := []) .nil (E' := [(0, .pointer (some ⟨g1, 0, none⟩)), (1, .int .u32 t2.1), (2, .slice A4 t2.2.length c4), (26, .slice A4 t2.2.length c4), (27, .int .i64 (t2.2.length : Int)), (28, .int .i64 (I64 (p1 + 1)))]) (by kernel_rfl) ?_
            refine o_end (by kernel_rfl) ?_
            refine t_drop [1, 0, 2] (by kernel_rfl) ?_
            refine t_L (L' := [.blk g1 [.pointer (some ⟨g3, 0, none⟩), .slice A6 p2.xbytes.length c6, .int .i64 p2.xbegin, .int .i64 p2.xn, .int .u32 p2.xlast, .bool p2.xkept] 50, .blk g3 [.bool p2.xBoard.xmade, .int .u32 p2.xBoard.xfirst, .slice A5 p2.xBoard.xruns.length c5] 76, .own A6 p2.xbytes.length c6 (rowOf (encI .u8) p2.xbytes) 1 5]) (by kernel_rfl) ?_
            refine t_env [0, 1, 2, 26, 27, 28] (E' := [(0, .pointer (some ⟨g1, 0, none⟩)), (1, .int .u32 t2.1), (2, .slice A4 t2.2.length c4), (26, .slice A4 t2.2.length c4), (27, .int .i64 (t2.2.length : Int)), (28, .int .i64 (I64 (p1 + 1)))]) (by kernel_rfl) ?_
            exact e_inv (fun a w ha hw => ⟨k, Nat.lt_succ_self k, (I64 (p1 + 1)), p2, g3, A5, c5, A6, c6, hm, hs4, ha, hw⟩)
        · replace hm := ite_f hb3 hm
          refine w_exit 0 (by kernel_rfl) ?_
          refine e_x_seq ?_
          refine e_x_inv ?_
          refine e_x_here ?_
          refine t_drop [0, 1, 2] (by kernel_rfl) ?_
          refine t_L (L' := [.blk g1 [.pointer (some ⟨g3, 0, none⟩), .slice A6 p2.xbytes.length c6, .int .i64 p2.xbegin, .int .i64 p2.xn, .int .u32 p2.xlast, .bool p2.xkept] 50, .blk g3 [.bool p2.xBoard.xmade, .int .u32 p2.xBoard.xfirst, .slice A5 p2.xBoard.xruns.length c5] 76, .own A6 p2.xbytes.length c6 (rowOf (encI .u8) p2.xbytes) 1 5]) (by kernel_rfl) ?_
          refine t_env [0, 1, 2] (E' := [(0, .pointer (some ⟨g1, 0, none⟩)), (1, .int .u32 t2.1), (2, .slice A4 t2.2.length c4)]) (by kernel_rfl) ?_
          obtain rfl := Option.some.inj hm
          exact e_inv (fun a w ha hw => ⟨g3, A5, c5, A6, c6, hs4, ha, hw⟩)
    · exact fun a w ha hw => ⟨0, a0, g2, A1, c1, A2, c2, ht1, hs1, ha, hw⟩
def rbuf_Buffer_Out.f (k : Nat) (a0 : T_rbuf_Buffer_o) : Option (Int) :=
  ((rbuf_Buffer_ok.f a0).bind fun t1 => ((sack_Board_Bytes.f k a0.xBoard).bind fun t2 => (some t2)))
theorem rbuf_Buffer_Out_ok (k : Nat) (a0 : T_rbuf_Buffer_o) (r : Int) (hm : rbuf_Buffer_Out.f k a0 = some r) (B G : Asn) (g1 : Nat) (g2 : Nat) (A1 : Option Addr) (c1 : Nat) (A2 : Option Addr) (c2 : Nat) (hs1 : Sl kT_sack_run B A1 c1 a0.xBoard.xruns) (w : World) (hs : St B G [.blk g1 [.pointer (some ⟨g2, 0, none⟩), .slice A2 a0.xbytes.length c2, .int .i64 a0.xbegin, .int .i64 a0.xn, .int .u32 a0.xlast, .bool a0.xkept] 50, .blk g2 [.bool a0.xBoard.xmade, .int .u32 a0.xBoard.xfirst, .slice A1 a0.xBoard.xruns.length c1] 76, .own A2 a0.xbytes.length c2 (rowOf (encI .u8) a0.xbytes) 1 5] w) :
    Calls Try.prog 20 #[.pointer (some ⟨g1, 0, none⟩)] w (Post (X := Unit) (fun x => .int .i64 r) (fun x => B) G (fun x => [.blk g1 [.pointer (some ⟨g2, 0, none⟩), .slice A2 a0.xbytes.length c2, .int .i64 a0.xbegin, .int .i64 a0.xn, .int .u32 a0.xlast, .bool a0.xkept] 50, .blk g2 [.bool a0.xBoard.xmade, .int .u32 a0.xBoard.xfirst, .slice A1 a0.xBoard.xruns.length c1] 76, .own A2 a0.xbytes.length c2 (rowOf (encI .u8) a0.xbytes) 1 5]) (fun x => True)) := by
  unfold rbuf_Buffer_Out.f at hm
  refine calls_W (F := Try.f20) Try.func20 rfl (by kernel_rfl) (L := [.blk g1 [.pointer (some ⟨g2, 0, none⟩), .slice A2 a0.xbytes.length c2, .int .i64 a0.xbegin, .int .i64 a0.xn, .int .u32 a0.xlast, .bool a0.xkept] 50, .blk g2 [.bool a0.xBoard.xmade, .int .u32 a0.xBoard.xfirst, .slice A1 a0.xBoard.xruns.length c1] 76, .own A2 a0.xbytes.length c2 (rowOf (encI .u8) a0.xbytes) 1 5]) ?_ hs
  refine w_seq 2 3 (by kernel_rfl) ?_
  refine w_region (by kernel_rfl) ?_
  refine o_run 1 [0] (l := []) .nil (E' := [(0, .pointer (some ⟨g1, 0, none⟩))]) (by kernel_rfl) ?_
  refine o_end (by kernel_rfl) ?_
  refine e_seq ?_
  refine w_seq 6 7 (by kernel_rfl) ?_
  refine w_seq 12 13 (by kernel_rfl) ?_
  refine w_region (by kernel_rfl) ?_
  refine o_run 1 [0, 3] (l := []) .nil (E' := [(0, .pointer (some ⟨g1, 0, none⟩)), (3, .pointer (some ⟨g1, 0, none⟩))]) (by kernel_rfl) ?_
  obtain ⟨t1, hx1, hm⟩ := bind_some hm
  obtain rfl : true = t1 := Option.some.inj (show some true = some t1 from hx1)
  refine o_stp ?_ (by kernel_rfl)
  refine s_call 4 27 #[.pointer (some ⟨g1, 0, none⟩)] [0, 1, 2] [] (by kernel_rfl) (by kernel_rfl) (fun w hs => rbuf_Buffer_ok_ok a0 true hx1 B _ g1 g2 A1 c1 A2 c2 hs1 w (St.cast (by kernel_rfl) hs)) (fun _ hx => ?_)
  refine t_L (L' := [.blk g1 [.pointer (some ⟨g2, 0, none⟩), .slice A2 a0.xbytes.length c2, .int .i64 a0.xbegin, .int .i64 a0.xn, .int .u32 a0.xlast, .bool a0.xkept] 50, .blk g2 [.bool a0.xBoard.xmade, .int .u32 a0.xBoard.xfirst, .slice A1 a0.xBoard.xruns.length c1] 76, .own A2 a0.xbytes.length c2 (rowOf (encI .u8) a0.xbytes) 1 5]) (by kernel_rfl) ?_
  refine o_run 1 [0, 5] (l := []) .nil (E' := [(0, .pointer (some ⟨g1, 0, none⟩)), (5, .bool false)]) (by kernel_rfl) ?_
  refine o_end (by kernel_rfl) ?_
  refine e_seq ?_
  refine w_cond_f (.tmp 5) 26 27 (by kernel_rfl) (by kernel_rfl) ?_
  refine w_skip (by kernel_rfl) ?_
  refine e_seq ?_
  refine w_seq 14 15 (by kernel_rfl) ?_
  refine w_region (by kernel_rfl) ?_
  refine o_run 4 [9] (l := [(⟨g1, 0, none⟩, .pointer (some ⟨g2, 0, none⟩))]) (.one (at_blk (j := 0) rfl rfl) .nil) (E' := [(9, .pointer (some ⟨g2, 0, none⟩))]) (by kernel_rfl) ?_
  obtain ⟨t2, hx2, hm⟩ := bind_some hm
  refine o_stp ?_ (by kernel_rfl)
  refine s_call 10 35 #[.pointer (some ⟨g2, 0, none⟩)] [1] [0, 2] (by kernel_rfl) (by kernel_rfl) (fun w hs => sack_Board_Bytes_ok k a0.xBoard t2 hx2 B _ g2 A1 c1 hs1 w (St.cast (by kernel_rfl) hs)) (fun _ hx => ?_)
  refine t_L (L' := [.blk g2 [.bool a0.xBoard.xmade, .int .u32 a0.xBoard.xfirst, .slice A1 a0.xBoard.xruns.length c1] 76, .blk g1 [.pointer (some ⟨g2, 0, none⟩), .slice A2 a0.xbytes.length c2, .int .i64 a0.xbegin, .int .i64 a0.xn, .int .u32 a0.xlast, .bool a0.xkept] 50, .own A2 a0.xbytes.length c2 (rowOf (encI .u8) a0.xbytes) 1 5]) (by kernel_rfl) ?_
  refine o_run 1 [2] (l := []) .nil (E' := [(2, .int .i64 t2)]) (by kernel_rfl) ?_
  refine o_end (by kernel_rfl) ?_
  refine e_seq ?_
  refine w_ret (by kernel_rfl) ?_
  obtain rfl := Option.some.inj hm
  exact e_retP () (.int .i64 t2) [1, 0, 2] (by kernel_rfl) (by kernel_rfl) rfl (by kernel_rfl) (by kernel_rfl) trivial
def rbuf_Buffer_Len.f (a0 : T_rbuf_Buffer_o) : Option (Int) :=
  ((rbuf_Buffer_ok.f a0).bind fun t1 => (some a0.xn))
theorem rbuf_Buffer_Len_ok (a0 : T_rbuf_Buffer_o) (r : Int) (hm : rbuf_Buffer_Len.f a0 = some r) (B G : Asn) (g1 : Nat) (g2 : Nat) (A1 : Option Addr) (c1 : Nat) (A2 : Option Addr) (c2 : Nat) (hs1 : Sl kT_sack_run B A1 c1 a0.xBoard.xruns) (w : World) (hs : St B G [.blk g1 [.pointer (some ⟨g2, 0, none⟩), .slice A2 a0.xbytes.length c2, .int .i64 a0.xbegin, .int .i64 a0.xn, .int .u32 a0.xlast, .bool a0.xkept] 50, .blk g2 [.bool a0.xBoard.xmade, .int .u32 a0.xBoard.xfirst, .slice A1 a0.xBoard.xruns.length c1] 76, .own A2 a0.xbytes.length c2 (rowOf (encI .u8) a0.xbytes) 1 5] w) :
    Calls Try.prog 14 #[.pointer (some ⟨g1, 0, none⟩)] w (Post (X := Unit) (fun x => .int .i64 r) (fun x => B) G (fun x => [.blk g1 [.pointer (some ⟨g2, 0, none⟩), .slice A2 a0.xbytes.length c2, .int .i64 a0.xbegin, .int .i64 a0.xn, .int .u32 a0.xlast, .bool a0.xkept] 50, .blk g2 [.bool a0.xBoard.xmade, .int .u32 a0.xBoard.xfirst, .slice A1 a0.xBoard.xruns.length c1] 76, .own A2 a0.xbytes.length c2 (rowOf (encI .u8) a0.xbytes) 1 5]) (fun x => True)) := by
  unfold rbuf_Buffer_Len.f at hm
  refine calls_W (F := Try.f14) Try.func14 rfl (by kernel_rfl) (L := [.blk g1 [.pointer (some ⟨g2, 0, none⟩), .slice A2 a0.xbytes.length c2, .int .i64 a0.xbegin, .int .i64 a0.xn, .int .u32 a0.xlast, .bool a0.xkept] 50, .blk g2 [.bool a0.xBoard.xmade, .int .u32 a0.xBoard.xfirst, .slice A1 a0.xBoard.xruns.length c1] 76, .own A2 a0.xbytes.length c2 (rowOf (encI .u8) a0.xbytes) 1 5]) ?_ hs
  refine w_seq 2 3 (by kernel_rfl) ?_
  refine w_region (by kernel_rfl) ?_
  refine o_run 1 [0] (l := []) .nil (E' := [(0, .pointer (some ⟨g1, 0, none⟩))]) (by kernel_rfl) ?_
  refine o_end (by kernel_rfl) ?_
  refine e_seq ?_
  refine w_seq 6 7 (by kernel_rfl) ?_
  refine w_seq 12 13 (by kernel_rfl) ?_
  refine w_region (by kernel_rfl) ?_
  refine o_run 1 [0, 3] (l := []) .nil (E' := [(0, .pointer (some ⟨g1, 0, none⟩)), (3, .pointer (some ⟨g1, 0, none⟩))]) (by kernel_rfl) ?_
  obtain ⟨t1, hx1, hm⟩ := bind_some hm
  obtain rfl : true = t1 := Option.some.inj (show some true = some t1 from hx1)
  refine o_stp ?_ (by kernel_rfl)
  refine s_call 4 27 #[.pointer (some ⟨g1, 0, none⟩)] [0, 1, 2] [] (by kernel_rfl) (by kernel_rfl) (fun w hs => rbuf_Buffer_ok_ok a0 true hx1 B _ g1 g2 A1 c1 A2 c2 hs1 w (St.cast (by kernel_rfl) hs)) (fun _ hx => ?_)
  refine t_L (L' := [.blk g1 [.pointer (some ⟨g2, 0, none⟩), .slice A2 a0.xbytes.length c2, .int .i64 a0.xbegin, .int .i64 a0.xn, .int .u32 a0.xlast, .bool a0.xkept] 50, .blk g2 [.bool a0.xBoard.xmade, .int .u32 a0.xBoard.xfirst, .slice A1 a0.xBoard.xruns.length c1] 76, .own A2 a0.xbytes.length c2 (rowOf (encI .u8) a0.xbytes) 1 5]) (by kernel_rfl) ?_
  refine o_run 1 [0, 5] (l := []) .nil (E' := [(0, .pointer (some ⟨g1, 0, none⟩)), (5, .bool false)]) (by kernel_rfl) ?_
  refine o_end (by kernel_rfl) ?_
  refine e_seq ?_
  refine w_cond_f (.tmp 5) 26 27 (by kernel_rfl) (by kernel_rfl) ?_
  refine w_skip (by kernel_rfl) ?_
  refine e_seq ?_
  refine w_seq 14 15 (by kernel_rfl) ?_
  refine w_region (by kernel_rfl) ?_
  refine o_run 5 [2] (l := [(⟨g1, 3, none⟩, .int .i64 a0.xn)]) (.one (at_blk (j := 0) rfl rfl) .nil) (E' := [(2, .int .i64 a0.xn)]) (by kernel_rfl) ?_
  refine o_end (by kernel_rfl) ?_
  refine e_seq ?_
  refine w_ret (by kernel_rfl) ?_
  obtain rfl := Option.some.inj hm
  exact e_retP () (.int .i64 a0.xn) [0, 1, 2] (by kernel_rfl) (by kernel_rfl) rfl (by kernel_rfl) (by kernel_rfl) trivial
def rbuf_Buffer_Read.l1 : Nat → T_rbuf_Buffer_o → (List Int) → Int → Int → (List Int) → Option ((List Int))
  | 0, _, _, _, _, _ => none
  | k + 1, a0, l1, t2, p1, p2 => (if decide (p1 < (l1.length : Int)) then ((rbuf_Buffer_place.f a0 (U32 ((U32 (t2 - (U32 a0.xn))) + (U32 p1)))).bind fun t4 => ((idx p2 p1).bind fun e2 => (rbuf_Buffer_Read.l1 k a0 l1 t2 (I64 (p1 + 1)) (p2.set (Int.toNat p1) t4.2)))) else (some p2))
def rbuf_Buffer_Read.f (k : Nat) (a0 : T_rbuf_Buffer_o) (a1 : Int) : Option ((List Int) × T_rbuf_Buffer_o) :=
  ((rbuf_Buffer_Len.f a0).bind fun t1 => (if (imin (imax a1 0) t1) == 0 then (some (([] : List Int), a0)) else ((mk (imin (imax a1 0) t1) (0 : Int)).bind fun l1 => ((rbuf_Buffer_Next.f a0).bind fun t2 => ((rbuf_Buffer_Read.l1 k a0 l1 t2 0 l1).bind fun t3 => ((divr (I64 (a0.xbegin + (imin (imax a1 0) t1))) (a0.xbytes.length : Int)).bind fun e1 => (some (t3, (⟨a0.xBoard, a0.xbytes, e1, I64 (a0.xn - (imin (imax a1 0) t1)), a0.xlast, a0.xkept⟩ : T_rbuf_Buffer_o)))))))))
theorem rbuf_Buffer_Read_ok (k : Nat) (a0 : T_rbuf_Buffer_o) (a1 : Int) (r : (List Int) × T_rbuf_Buffer_o) (hm : rbuf_Buffer_Read.f k a0 a1 = some r) (B G : Asn) (g1 : Nat) (g2 : Nat) (A1 : Option Addr) (c1 : Nat) (A2 : Option Addr) (c2 : Nat) (hs1 : Sl kT_sack_run B A1 c1 a0.xBoard.xruns) (w : World) (hs : St B G [.blk g1 [.pointer (some ⟨g2, 0, none⟩), .slice A2 a0.xbytes.length c2, .int .i64 a0.xbegin, .int .i64 a0.xn, .int .u32 a0.xlast, .bool a0.xkept] 50, .blk g2 [.bool a0.xBoard.xmade, .int .u32 a0.xBoard.xfirst, .slice A1 a0.xBoard.xruns.length c1] 76, .own A2 a0.xbytes.length c2 (rowOf (encI .u8) a0.xbytes) 1 5] w) :
    Calls Try.prog 11 #[.pointer (some ⟨g1, 0, none⟩), .int .i64 a1] w (Post (X := (Option Addr) × Nat × Nat × (Option Addr) × Nat × (Option Addr) × Nat) (fun x => .slice x.1 r.1.length x.2.1) (fun x => B) G (fun x => [.own x.1 r.1.length x.2.1 (rowOf (encI .u8) r.1) 1 5, .blk g1 [.pointer (some ⟨x.2.2.1, 0, none⟩), .slice x.2.2.2.2.2.1 r.2.xbytes.length x.2.2.2.2.2.2, .int .i64 r.2.xbegin, .int .i64 r.2.xn, .int .u32 r.2.xlast, .bool r.2.xkept] 50, .blk x.2.2.1 [.bool r.2.xBoard.xmade, .int .u32 r.2.xBoard.xfirst, .slice x.2.2.2.1 r.2.xBoard.xruns.length x.2.2.2.2.1] 76, .own x.2.2.2.2.2.1 r.2.xbytes.length x.2.2.2.2.2.2 (rowOf (encI .u8) r.2.xbytes) 1 5]) (fun x => (Sl kT_sack_run B x.2.2.2.1 x.2.2.2.2.1 r.2.xBoard.xruns))) := by
  unfold rbuf_Buffer_Read.f at hm
  refine calls_W (F := Try.f11) Try.func11 rfl (by kernel_rfl) (L := [.blk g1 [.pointer (some ⟨g2, 0, none⟩), .slice A2 a0.xbytes.length c2, .int .i64 a0.xbegin, .int .i64 a0.xn, .int .u32 a0.xlast, .bool a0.xkept] 50, .blk g2 [.bool a0.xBoard.xmade, .int .u32 a0.xBoard.xfirst, .slice A1 a0.xBoard.xruns.length c1] 76, .own A2 a0.xbytes.length c2 (rowOf (encI .u8) a0.xbytes) 1 5]) ?_ hs
  refine w_seq 2 3 (by kernel_rfl) ?_
  refine w_region (by kernel_rfl) ?_
  refine o_run 1 [0, 1] (l := []) .nil (E' := [(0, .pointer (some ⟨g1, 0, none⟩)), (1, .int .i64 a1)]) (by kernel_rfl) ?_
  refine o_end (by kernel_rfl) ?_
  refine e_seq ?_
  refine w_seq 6 7 (by kernel_rfl) ?_
  refine w_region (by kernel_rfl) ?_
  refine o_run 3 [0, 9, 10] (l := []) .nil (E' := [(0, .pointer (some ⟨g1, 0, none⟩)), (9, .int .i64 (imax a1 0)), (10, .pointer (some ⟨g1, 0, none⟩))]) (by kernel_rfl) ?_
  obtain ⟨t1, hx1, hm⟩ := bind_some hm
  refine o_stp ?_ (by kernel_rfl)
  refine s_call 11 14 #[.pointer (some ⟨g1, 0, none⟩)] [0, 1, 2] [] (by kernel_rfl) (by kernel_rfl) (fun w hs => rbuf_Buffer_Len_ok a0 t1 hx1 B _ g1 g2 A1 c1 A2 c2 hs1 w (St.cast (by kernel_rfl) hs)) (fun _ hx => ?_)
  refine t_L (L' := [.blk g1 [.pointer (some ⟨g2, 0, none⟩), .slice A2 a0.xbytes.length c2, .int .i64 a0.xbegin, .int .i64 a0.xn, .int .u32 a0.xlast, .bool a0.xkept] 50, .blk g2 [.bool a0.xBoard.xmade, .int .u32 a0.xBoard.xfirst, .slice A1 a0.xBoard.xruns.length c1] 76, .own A2 a0.xbytes.length c2 (rowOf (encI .u8) a0.xbytes) 1 5]) (by kernel_rfl) ?_
  refine o_run 2 [0, 1] (l := []) .nil (E' := [(0, .pointer (some ⟨g1, 0, none⟩)), (1, .int .i64 (imin (imax a1 0) t1))]) (by kernel_rfl) ?_
  refine o_end (by kernel_rfl) ?_
  refine e_seq ?_
  refine w_seq 14 15 (by kernel_rfl) ?_
  refine w_seq 28 29 (by kernel_rfl) ?_
  refine w_region (by kernel_rfl) ?_
  refine o_run 2 [0, 1, 14] (l := []) .nil (E' := [(0, .pointer (some ⟨g1, 0, none⟩)), (1, .int .i64 (imin (imax a1 0) t1)), (14, .bool ((imin (imax a1 0) t1) == 0))]) (by kernel_rfl) ?_
  refine o_end (by kernel_rfl) ?_
  refine e_seq ?_
  refine w_cond (.tmp 14) 58 59 ((imin (imax a1 0) t1) == 0) (by kernel_rfl) (by kernel_rfl) (fun hb1 => ?_) (fun hb1 => ?_)
  · replace hm := ite_t hb1 hm
    refine w_seq 116 117 (by kernel_rfl) ?_
    refine w_region (by kernel_rfl) ?_
    refine o_run 1 [4] (l := []) .nil (E' := [(4, .slice none 0 0)]) (by kernel_rfl) ?_
    refine o_end (by kernel_rfl) ?_
    refine e_seq ?_
    refine w_ret (by kernel_rfl) ?_
    refine t_nil 5 1 ?_
    refine t_L (L' := [.own none (([] : List Int).length) 0 (rowOf (encI .u8) ([] : List Int)) 1 5, .blk g1 [.pointer (some ⟨g2, 0, none⟩), .slice A2 a0.xbytes.length c2, .int .i64 a0.xbegin, .int .i64 a0.xn, .int .u32 a0.xlast, .bool a0.xkept] 50, .blk g2 [.bool a0.xBoard.xmade, .int .u32 a0.xBoard.xfirst, .slice A1 a0.xBoard.xruns.length c1] 76, .own A2 a0.xbytes.length c2 (rowOf (encI .u8) a0.xbytes) 1 5]) (by kernel_rfl) ?_
    obtain rfl := Option.some.inj hm
    exact e_retP (none, 0, g2, A1, c1, A2, c2) (.slice none (([] : List Int).length) 0) [0, 1, 2, 3] (by kernel_rfl) (by kernel_rfl) rfl (by kernel_rfl) (by kernel_rfl) hs1
  · replace hm := ite_f hb1 hm
    refine w_skip (by kernel_rfl) ?_
    refine e_seq ?_
    refine w_seq 30 31 (by kernel_rfl) ?_
    refine w_region (by kernel_rfl) ?_
    refine o_run 1 [0, 1, 15] (l := []) .nil (E' := [(0, .pointer (some ⟨g1, 0, none⟩)), (1, .int .i64 (imin (imax a1 0) t1)), (15, .int .i64 (imin (imax a1 0) t1))]) (by kernel_rfl) ?_
    obtain ⟨l1, hx2, hm⟩ := bind_some hm
    obtain ⟨n1, hn1, hn2, hn3⟩ := mk_some hx2
    refine o_stp ?_ (by kernel_rfl)
    refine s_make (α := Int) (kl := .i64) (kc := .i64) (bytes := 1) (e := 5) 16 32 (.tmp 15) (.tmp 15) (z := .int .u8 0) (zx := 0) (enc := (encI .u8)) hn3 (by kernel_rfl) (ev_int (by kernel_rfl) hn1) (ev_int (by kernel_rfl) hn1) (by kernel_rfl) (by kernel_rfl) rfl rfl (by omega) (by omega) rfl (fun A3 => ?_)
    refine o_run 1 [0, 1, 5] (l := []) .nil (E' := [(0, .pointer (some ⟨g1, 0, none⟩)), (1, .int .i64 (imin (imax a1 0) t1)), (5, .slice A3 l1.length l1.length)]) (by kernel_rfl) ?_
    refine o_end (by kernel_rfl) ?_
    refine e_seq ?_
    refine w_seq 62 63 (by kernel_rfl) ?_
    obtain ⟨t2, hx3, hm⟩ := bind_some hm
    refine w_tail 7 [.own A3 l1.length l1.length (rowOf (encI .u8) l1) 1 5, .blk g1 [.pointer (some ⟨g2, 0, none⟩), .slice A2 a0.xbytes.length c2, .int .i64 a0.xbegin, .int .i64 a0.xn, .int .u32 a0.xlast, .bool a0.xkept] 50, .blk g2 [.bool a0.xBoard.xmade, .int .u32 a0.xBoard.xfirst, .slice A1 a0.xBoard.xruns.length c1] 76, .own A2 a0.xbytes.length c2 (rowOf (encI .u8) a0.xbytes) 1 5] (by kernel_rfl) mixed (by kernel_rfl) ?_
    refine tt_run [0, 2, 3, 4, 5, 6] [0, 1, 5, 17, 23] [0, 1, 2, 3] 1 (listed' := #[true, false, true, true, true, true, true, false, false]) (l := [(⟨g1, 3, none⟩, .int .i64 a0.xn)]) (.one (at_blk (j := 1) rfl rfl) .nil) (E' := [(0, .pointer (some ⟨g1, 0, none⟩)), (1, .int .i64 (imin (imax a1 0) t1)), (5, .slice A3 l1.length l1.length), (17, .pointer (some ⟨g1, 0, none⟩)), (23, .int .u32 (U32 a0.xn))]) (by kernel_rfl) (by kernel_rfl) (by kernel_rfl) (Ext.refl _) (by kernel_rfl) (by kernel_rfl) ?_
    refine tt_stp 1 [0, 1, 2, 3] (Ext.refl _) (by kernel_rfl) (by kernel_rfl) (by kernel_rfl) (by kernel_rfl) ?_
    refine s_call 18 13 #[.pointer (some ⟨g1, 0, none⟩)] [1, 2, 3] [0] (by kernel_rfl) (by kernel_rfl) (fun w hs => rbuf_Buffer_Next_ok a0 t2 hx3 B _ g1 g2 A1 c1 A2 c2 hs1 w (St.cast (by kernel_rfl) hs)) (fun _ hx => ?_)
    refine t_L (L' := [.blk g1 [.pointer (some ⟨g2, 0, none⟩), .slice A2 a0.xbytes.length c2, .int .i64 a0.xbegin, .int .i64 a0.xn, .int .u32 a0.xlast, .bool a0.xkept] 50, .blk g2 [.bool a0.xBoard.xmade, .int .u32 a0.xBoard.xfirst, .slice A1 a0.xBoard.xruns.length c1] 76, .own A2 a0.xbytes.length c2 (rowOf (encI .u8) a0.xbytes) 1 5, .own A3 l1.length l1.length (rowOf (encI .u8) l1) 1 5]) (by kernel_rfl) ?_
    refine tt_end [3, 0, 1, 2] (Ext.refl _) (by kernel_rfl) (by kernel_rfl) (by kernel_rfl) ?_
    refine o_run 2 [0, 1, 5, 6] (l := []) .nil (E' := [(0, .pointer (some ⟨g1, 0, none⟩)), (1, .int .i64 (imin (imax a1 0) t1)), (5, .slice A3 l1.length l1.length), (6, .int .u32 (U32 (t2 - (U32 a0.xn))))]) (by kernel_rfl) ?_
    refine o_end (by kernel_rfl) ?_
    refine e_seq ?_
    refine w_seq 126 127 (by kernel_rfl) ?_
    refine w_seq 252 253 (by kernel_rfl) ?_
    refine w_region (by kernel_rfl) ?_
    refine o_run 3 [0, 1, 5, 6, 26, 27] (l := []) .nil (E' := [(0, .pointer (some ⟨g1, 0, none⟩)), (1, .int .i64 (imin (imax a1 0) t1)), (5, .slice A3 l1.length l1.length), (6, .int .u32 (U32 (t2 - (U32 a0.xn)))), (26, .int .i64 (l1.length : Int)), (27, .int .i64 0)]) (by kernel_rfl) ?_
    refine o_end (by kernel_rfl) ?_
    refine e_seq ?_
    refine w_block 0 506 (by kernel_rfl) ?_
    obtain ⟨t3, ht1, ho1⟩ := bind_some hm
    refine t_env [0, 1, 5, 6, 26, 27] (E' := [(0, .pointer (some ⟨g1, 0, none⟩)), (1, .int .i64 (imin (imax a1 0) t1)), (5, .slice A3 l1.length l1.length), (6, .int .u32 (U32 (t2 - (U32 a0.xn)))), (26, .int .i64 (l1.length : Int)), (27, .int .i64 0)]) (by kernel_rfl) ?_
    refine w_loopJ 1012 0 (fun k a w => ∃ (p1 : Int) (p2 : List Int), rbuf_Buffer_Read.l1 k a0 l1 t2 p1 p2 = some t3 ∧ l1.length = p2.length ∧ EnvOk [(0, .pointer (some ⟨g1, 0, none⟩)), (1, .int .i64 (imin (imax a1 0) t1)), (5, .slice A3 l1.length l1.length), (6, .int .u32 (U32 (t2 - (U32 a0.xn)))), (26, .int .i64 (l1.length : Int)), (27, .int .i64 p1)] Try.f11.ntmps a ∧ St B G [.blk g1 [.pointer (some ⟨g2, 0, none⟩), .slice A2 a0.xbytes.length c2, .int .i64 a0.xbegin, .int .i64 a0.xn, .int .u32 a0.xlast, .bool a0.xkept] 50, .blk g2 [.bool a0.xBoard.xmade, .int .u32 a0.xBoard.xfirst, .slice A1 a0.xBoard.xruns.length c1] 76, .own A2 a0.xbytes.length c2 (rowOf (encI .u8) a0.xbytes) 1 5, .own A3 l1.length l1.length (rowOf (encI .u8) p2) 1 5] w) (fun a w => l1.length = (t3).length ∧ EnvOk [(0, .pointer (some ⟨g1, 0, none⟩)), (1, .int .i64 (imin (imax a1 0) t1)), (5, .slice A3 l1.length l1.length)] Try.f11.ntmps a ∧ St B G [.blk g1 [.pointer (some ⟨g2, 0, none⟩), .slice A2 a0.xbytes.length c2, .int .i64 a0.xbegin, .int .i64 a0.xn, .int .u32 a0.xlast, .bool a0.xkept] 50, .blk g2 [.bool a0.xBoard.xmade, .int .u32 a0.xBoard.xfirst, .slice A1 a0.xBoard.xruns.length c1] 76, .own A2 a0.xbytes.length c2 (rowOf (encI .u8) a0.xbytes) 1 5, .own A3 l1.length l1.length (rowOf (encI .u8) t3) 1 5] w) (by kernel_rfl) ?_ ?_ k ?_
    · rintro a w ⟨hn5, ha, hw⟩
      refine we_of (E := [(0, .pointer (some ⟨g1, 0, none⟩)), (1, .int .i64 (imin (imax a1 0) t1)), (5, .slice A3 l1.length l1.length)]) (B := B) (G := G) (L := [.blk g1 [.pointer (some ⟨g2, 0, none⟩), .slice A2 a0.xbytes.length c2, .int .i64 a0.xbegin, .int .i64 a0.xn, .int .u32 a0.xlast, .bool a0.xkept] 50, .blk g2 [.bool a0.xBoard.xmade, .int .u32 a0.xBoard.xfirst, .slice A1 a0.xBoard.xruns.length c1] 76, .own A2 a0.xbytes.length c2 (rowOf (encI .u8) a0.xbytes) 1 5, .own A3 l1.length l1.length (rowOf (encI .u8) t3) 1 5]) ?_ ha hw
      have hm := ho1
      refine e_seq ?_
      refine w_seq 254 255 (by kernel_rfl) ?_
      refine w_region (by kernel_rfl) ?_
      refine o_run 8 [0, 1, 5, 47, 49] (l := [(⟨g1, 3, none⟩, .int .i64 a0.xn)]) (.one (at_blk (j := 0) rfl rfl) .nil) (E' := [(0, .pointer (some ⟨g1, 0, none⟩)), (1, .int .i64 (imin (imax a1 0) t1)), (5, .slice A3 l1.length l1.length), (47, .int .i64 (I64 (a0.xn - (imin (imax a1 0) t1)))), (49, .pointer (some ⟨g1, 3, none⟩))]) (by kernel_rfl) ?_
      refine o_stp ?_ (by kernel_rfl)
      refine s_store 0 g1 [.pointer (some ⟨g2, 0, none⟩), .slice A2 a0.xbytes.length c2, .int .i64 a0.xbegin, .int .i64 a0.xn, .int .u32 a0.xlast, .bool a0.xkept] 50 [(3, .int .i64 (I64 (a0.xn - (imin (imax a1 0) t1))))] (by kernel_rfl) (by kernel_rfl) (by kernel_rfl) ?_
      refine t_L (L' := [.blk g1 [.pointer (some ⟨g2, 0, none⟩), .slice A2 a0.xbytes.length c2, .int .i64 a0.xbegin, .int .i64 (I64 (a0.xn - (imin (imax a1 0) t1))), .int .u32 a0.xlast, .bool a0.xkept] 50, .blk g2 [.bool a0.xBoard.xmade, .int .u32 a0.xBoard.xfirst, .slice A1 a0.xBoard.xruns.length c1] 76, .own A2 a0.xbytes.length c2 (rowOf (encI .u8) a0.xbytes) 1 5, .own A3 l1.length l1.length (rowOf (encI .u8) t3) 1 5]) (by kernel_rfl) ?_
      refine o_end (by kernel_rfl) ?_
      refine e_seq ?_
      refine w_seq 510 511 (by kernel_rfl) ?_
      obtain ⟨e1, hx4, hm⟩ := bind_some hm
      refine w_tail 13 [.blk g1 [.pointer (some ⟨g2, 0, none⟩), .slice A2 a0.xbytes.length c2, .int .i64 a0.xbegin, .int .i64 (I64 (a0.xn - (imin (imax a1 0) t1))), .int .u32 a0.xlast, .bool a0.xkept] 50, .blk g2 [.bool a0.xBoard.xmade, .int .u32 a0.xBoard.xfirst, .slice A1 a0.xBoard.xruns.length c1] 76, .own A2 a0.xbytes.length c2 (rowOf (encI .u8) a0.xbytes) 1 5, .own A3 l1.length l1.length (rowOf (encI .u8) t3) 1 5] (by kernel_rfl) mixed (by kernel_rfl) ?_
      refine tt_run [0, 1, 2, 3, 4, 5, 6, 7, 8, 9, 10, 11] [5, 50, 56, 61] [0, 1, 2, 3] 1 (listed' := #[true, true, true, true, true, true, true, true, true, true, true, true, false, false, false, false]) (l := [(⟨g1, 2, none⟩, .int .i64 a0.xbegin), (⟨g1, 1, none⟩, .slice A2 a0.xbytes.length c2)]) (.one (at_blk (j := 0) rfl rfl) (.one (at_blk (j := 0) rfl rfl) .nil)) (E' := [(5, .slice A3 l1.length l1.length), (50, .pointer (some ⟨g1, 0, none⟩)), (56, .int .i64 (I64 (a0.xbegin + (imin (imax a1 0) t1)))), (61, .int .i64 (a0.xbytes.length : Int))]) (by kernel_rfl) (by kernel_rfl) (by kernel_rfl) (Ext.refl _) (by kernel_rfl) (by kernel_rfl) ?_
      refine tt_val 12 62 (.binOp .rem 3 (.tmp 56) (.tmp 61) 3) (.int .i64 e1) [0, 1, 2, 3] (by kernel_rfl) (v_rem hx4 (by kernel_rfl) (by kernel_rfl)) (by kernel_rfl) (Ext.refl _) (by kernel_rfl) (by kernel_rfl) ?_
      refine tt_end [0, 1, 2, 3] (Ext.refl _) (by kernel_rfl) (by kernel_rfl) (by kernel_rfl) ?_
      refine o_run 2 [5, 62, 64] (l := []) .nil (E' := [(5, .slice A3 l1.length l1.length), (62, .int .i64 e1), (64, .pointer (some ⟨g1, 2, none⟩))]) (by kernel_rfl) ?_
      refine o_stp ?_ (by kernel_rfl)
      refine s_store 0 g1 [.pointer (some ⟨g2, 0, none⟩), .slice A2 a0.xbytes.length c2, .int .i64 a0.xbegin, .int .i64 (I64 (a0.xn - (imin (imax a1 0) t1))), .int .u32 a0.xlast, .bool a0.xkept] 50 [(2, .int .i64 e1)] (by kernel_rfl) (by kernel_rfl) (by kernel_rfl) ?_
      refine t_L (L' := [.blk g1 [.pointer (some ⟨g2, 0, none⟩), .slice A2 a0.xbytes.length c2, .int .i64 e1, .int .i64 (I64 (a0.xn - (imin (imax a1 0) t1))), .int .u32 a0.xlast, .bool a0.xkept] 50, .blk g2 [.bool a0.xBoard.xmade, .int .u32 a0.xBoard.xfirst, .slice A1 a0.xBoard.xruns.length c1] 76, .own A2 a0.xbytes.length c2 (rowOf (encI .u8) a0.xbytes) 1 5, .own A3 l1.length l1.length (rowOf (encI .u8) t3) 1 5]) (by kernel_rfl) ?_
      refine o_end (by kernel_rfl) ?_
      refine e_seq ?_
      refine w_seq 1022 1023 (by kernel_rfl) ?_
      refine w_region (by kernel_rfl) ?_
      refine o_run 2 [4] (l := []) .nil (E' := [(4, .slice A3 l1.length l1.length)]) (by kernel_rfl) ?_
      refine o_end (by kernel_rfl) ?_
      refine e_seq ?_
      refine w_ret (by kernel_rfl) ?_
      refine t_env [4] (E' := [(4, .slice A3 l1.length l1.length)]) (by kernel_rfl) ?_
      refine t_EL (E' := [(4, .slice A3 t3.length l1.length)]) (L' := [.blk g1 [.pointer (some ⟨g2, 0, none⟩), .slice A2 a0.xbytes.length c2, .int .i64 e1, .int .i64 (I64 (a0.xn - (imin (imax a1 0) t1))), .int .u32 a0.xlast, .bool a0.xkept] 50, .blk g2 [.bool a0.xBoard.xmade, .int .u32 a0.xBoard.xfirst, .slice A1 a0.xBoard.xruns.length c1] 76, .own A2 a0.xbytes.length c2 (rowOf (encI .u8) a0.xbytes) 1 5, .own A3 t3.length l1.length (rowOf (encI .u8) t3) 1 5]) (eq_of_len hn5 (fun n => ([(4, .slice A3 n l1.length)], [.blk g1 [.pointer (some ⟨g2, 0, none⟩), .slice A2 a0.xbytes.length c2, .int .i64 e1, .int .i64 (I64 (a0.xn - (imin (imax a1 0) t1))), .int .u32 a0.xlast, .bool a0.xkept] 50, .blk g2 [.bool a0.xBoard.xmade, .int .u32 a0.xBoard.xfirst, .slice A1 a0.xBoard.xruns.length c1] 76, .own A2 a0.xbytes.length c2 (rowOf (encI .u8) a0.xbytes) 1 5, .own A3 n l1.length (rowOf (encI .u8) t3) 1 5])) rfl rfl) ?_
      obtain rfl := Option.some.inj hm
      exact e_retP (A3, l1.length, g2, A1, c1, A2, c2) (.slice A3 t3.length l1.length) [3, 0, 1, 2] (by kernel_rfl) (by kernel_rfl) rfl (by kernel_rfl) (by kernel_rfl) hs1
    · rintro k a w ⟨p1, p2, hm, hn4, ha, hw⟩
      cases k with
      | zero => exact absurd hm (by simp [rbuf_Buffer_Read.l1])
      | succ k =>
        unfold rbuf_Buffer_Read.l1 at hm
        refine wc_of (E := [(0, .pointer (some ⟨g1, 0, none⟩)), (1, .int .i64 (imin (imax a1 0) t1)), (5, .slice A3 l1.length l1.length), (6, .int .u32 (U32 (t2 - (U32 a0.xn)))), (26, .int .i64 (l1.length : Int)), (27, .int .i64 p1)]) (B := B) (G := G) (L := [.blk g1 [.pointer (some ⟨g2, 0, none⟩), .slice A2 a0.xbytes.length c2, .int .i64 a0.xbegin, .int .i64 a0.xn, .int .u32 a0.xlast, .bool a0.xkept] 50, .blk g2 [.bool a0.xBoard.xmade, .int .u32 a0.xBoard.xfirst, .slice A1 a0.xBoard.xruns.length c1] 76, .own A2 a0.xbytes.length c2 (rowOf (encI .u8) a0.xbytes) 1 5, .own A3 l1.length l1.length (rowOf (encI .u8) p2) 1 5]) ?_ ha hw
        refine w_seq 2024 2025 (by kernel_rfl) ?_
        refine w_region (by kernel_rfl) ?_
        refine o_run 1 [0, 1, 5, 6, 26, 27, 28] (l := []) .nil (E' := [(0, .pointer (some ⟨g1, 0, none⟩)), (1, .int .i64 (imin (imax a1 0) t1)), (5, .slice A3 l1.length l1.length), (6, .int .u32 (U32 (t2 - (U32 a0.xn)))), (26, .int .i64 (l1.length : Int)), (27, .int .i64 p1), (28, .bool (decide (p1 < (l1.length : Int))))]) (by kernel_rfl) ?_
        refine o_end (by kernel_rfl) ?_
        refine e_seq ?_
        refine w_seq 4050 4051 (by kernel_rfl) ?_
        refine w_cond (.tmp 28) 8100 8101 (decide (p1 < (l1.length : Int))) (by kernel_rfl) (by kernel_rfl) (fun hb2 => ?_) (fun hb2 => ?_)
        · replace hm := ite_t hb2 hm
          refine w_skip (by kernel_rfl) ?_
          refine e_seq ?_
          refine w_seq 8102 8103 (by kernel_rfl) ?_
          refine w_block 1 16204 (by kernel_rfl) ?_
          refine w_seq 32408 32409 (by kernel_rfl) ?_
          refine w_region (by kernel_rfl) ?_
          refine o_run 2 [0, 1, 5, 6, 7, 26, 27] (l := []) .nil (E' := [(0, .pointer (some ⟨g1, 0, none⟩)), (1, .int .i64 (imin (imax a1 0) t1)), (5, .slice A3 l1.length l1.length), (6, .int .u32 (U32 (t2 - (U32 a0.xn)))), (7, .int .i64 p1), (26, .int .i64 (l1.length : Int)), (27, .int .i64 p1)]) (by kernel_rfl) ?_
          refine o_end (by kernel_rfl) ?_
          refine e_seq ?_
          refine w_region (by kernel_rfl) ?_
          refine o_run 7 [0, 1, 5, 6, 26, 27, 30, 31, 32, 36] (l := []) .nil (E' := [(0, .pointer (some ⟨g1, 0, none⟩)), (1, .int .i64 (imin (imax a1 0) t1)), (5, .slice A3 l1.length l1.length), (6, .int .u32 (U32 (t2 - (U32 a0.xn)))), (26, .int .i64 (l1.length : Int)), (27, .int .i64 p1), (30, .slice A3 l1.length l1.length), (31, .int .i64 p1), (32, .pointer (some ⟨g1, 0, none⟩)), (36, .int .u32 (U32 ((U32 (t2 - (U32 a0.xn))) + (U32 p1))))]) (by kernel_rfl) ?_
          obtain ⟨t4, hx5, hm⟩ := bind_some hm
          refine o_stp ?_ (by kernel_rfl)
          refine s_call 37 26 #[.pointer (some ⟨g1, 0, none⟩), .int .u32 (U32 ((U32 (t2 - (U32 a0.xn))) + (U32 p1)))] [0, 1, 2] [3] (by kernel_rfl) (by kernel_rfl) (fun w hs => rbuf_Buffer_place_ok a0 (U32 ((U32 (t2 - (U32 a0.xn))) + (U32 p1))) t4 hx5 B _ g1 g2 A1 c1 A2 c2 hs1 w (St.cast (by kernel_rfl) hs)) (fun _ hx => ?_)
          have hg1 := hx
          refine t_L (L' := [.blk g1 [.pointer (some ⟨g2, 0, none⟩), .slice A2 a0.xbytes.length c2, .int .i64 a0.xbegin, .int .i64 a0.xn, .int .u32 a0.xlast, .bool a0.xkept] 50, .blk g2 [.bool a0.xBoard.xmade, .int .u32 a0.xBoard.xfirst, .slice A1 a0.xBoard.xruns.length c1] 76, .own A2 a0.xbytes.length c2 (rowOf (encI .u8) a0.xbytes) 1 5, .own A3 l1.length l1.length (rowOf (encI .u8) p2) 1 5]) (by kernel_rfl) ?_
          refine o_run 2 [0, 1, 5, 6, 26, 27, 30, 31, 39] (l := [((adr A2 (Int.toNat t4.1 * 1)), .int .u8 t4.2)]) (.one ((At.sub (l := (encI .u8) t4.2) 0 (at_own (j := 2) (off := Int.toNat t4.1 * 1) rfl (row_at (enc := (encI .u8)) (sz := 1) (fun _ => rfl) hg1)) rfl)) .nil) (E' := [(0, .pointer (some ⟨g1, 0, none⟩)), (1, .int .i64 (imin (imax a1 0) t1)), (5, .slice A3 l1.length l1.length), (6, .int .u32 (U32 (t2 - (U32 a0.xn)))), (26, .int .i64 (l1.length : Int)), (27, .int .i64 p1), (30, .slice A3 l1.length l1.length), (31, .int .i64 p1), (39, .int .u8 t4.2)]) (by kernel_rfl) ?_
          obtain ⟨e2, hx6, hm⟩ := bind_some hm
          obtain ⟨hi1, hi2, hg2⟩ := idx_some hx6
          refine o_val 40 (.indexAddr 32 (.tmp 30) (.tmp 31)) (.pointer (some (adr A3 (Int.toNat p1 * 1)))) (by kernel_rfl) (v_index (k := .i64) (c := l1.length) (by kernel_rfl) (by kernel_rfl) (by kernel_rfl) hi1 (len_lt hn4 hi2) (own_some (j := 3) rfl (len_lt hn4 hi2) hi1)) ?_
          refine o_stp ?_ (by kernel_rfl)
          refine s_setE (enc := (encI .u8)) (v := .int .u8 t4.2) 5 (.tmp 40) (.tmp 39) 3 (x := t4.2) (by kernel_rfl) (by kernel_rfl) (by kernel_rfl) rfl (by kernel_rfl) rfl (fun _ => rfl) hg2 (fun u hu => by cases List.mem_singleton.1 hu; rfl) (by decide) ?_
          have hl1 : l1.length = (p2.set (Int.toNat p1) t4.2).length := Eq.trans hn4 List.length_set.symm
          refine o_end (by kernel_rfl) ?_
          refine e_blk ?_
          refine e_seq ?_
          refine w_region (by kernel_rfl) ?_
          refine o_run 2 [0, 1, 5, 6, 26, 27] (l := []) .nil (E' := [(0, .pointer (some ⟨g1, 0, none⟩)), (1, .int .i64 (imin (imax a1 0) t1)), (5, .slice A3 l1.length l1.length), (6, .int .u32 (U32 (t2 - (U32 a0.xn)))), (26, .int .i64 (l1.length : Int)), (27, .int .i64 (I64 (p1 + 1)))]) (by kernel_rfl) ?_
          refine o_end (by kernel_rfl) ?_
          refine t_drop [0, 1, 2, 3] (by kernel_rfl) ?_
          refine t_L (L' := [.blk g1 [.pointer (some ⟨g2, 0, none⟩), .slice A2 a0.xbytes.length c2, .int .i64 a0.xbegin, .int .i64 a0.xn, .int .u32 a0.xlast, .bool a0.xkept] 50, .blk g2 [.bool a0.xBoard.xmade, .int .u32 a0.xBoard.xfirst, .slice A1 a0.xBoard.xruns.length c1] 76, .own A2 a0.xbytes.length c2 (rowOf (encI .u8) a0.xbytes) 1 5, .own A3 l1.length l1.length (rowOf (encI .u8) (p2.set (Int.toNat p1) t4.2)) 1 5]) (by kernel_rfl) ?_
          refine t_env [0, 1, 5, 6, 26, 27] (E' := [(0, .pointer (some ⟨g1, 0, none⟩)), (1, .int .i64 (imin (imax a1 0) t1)), (5, .slice A3 l1.length l1.length), (6, .int .u32 (U32 (t2 - (U32 a0.xn)))), (26, .int .i64 (l1.length : Int)), (27, .int .i64 (I64 (p1 + 1)))]) (by kernel_rfl) ?_
          exact e_inv (fun a w ha hw => ⟨k, Nat.lt_succ_self k, (I64 (p1 + 1)), (p2.set (Int.toNat p1) t4.2), hm, hl1, ha, hw⟩)
        · replace hm := ite_f hb2 hm
          refine w_exit 0 (by kernel_rfl) ?_
          refine e_x_seq ?_
          refine e_x_inv ?_
          refine e_x_here ?_
          refine t_drop [0, 1, 2, 3] (by kernel_rfl) ?_
          refine t_L (L' := [.blk g1 [.pointer (some ⟨g2, 0, none⟩), .slice A2 a0.xbytes.length c2, .int .i64 a0.xbegin, .int .i64 a0.xn, .int .u32 a0.xlast, .bool a0.xkept] 50, .blk g2 [.bool a0.xBoard.xmade, .int .u32 a0.xBoard.xfirst, .slice A1 a0.xBoard.xruns.length c1] 76, .own A2 a0.xbytes.length c2 (rowOf (encI .u8) a0.xbytes) 1 5, .own A3 l1.length l1.length (rowOf (encI .u8) p2) 1 5]) (by kernel_rfl) ?_
          refine t_env [0, 1, 5] (E' := [(0, .pointer (some ⟨g1, 0, none⟩)), (1, .int .i64 (imin (imax a1 0) t1)), (5, .slice A3 l1.length l1.length)]) (by kernel_rfl) ?_
          obtain rfl := Option.some.inj hm
          exact e_inv (fun a w ha hw => ⟨hn4, ha, hw⟩)
    · exact fun a w ha hw => ⟨0, l1, ht1, rfl, ha, hw⟩
def downhaullaw26_alive.f (k : Nat) : Option (Bool) :=
  ((rbuf_New.f 10 5).bind fun t1 => optE t1.1 (some false) (fun y1 => (if t1.2 == 0 then ((rbuf_Buffer_Insert.f k y1 7 [99, 100]).bind fun t2 => (if t2.1 == 0 then ((rbuf_Buffer_Out.f k t2.2).bind fun t3 => (if t3 == 2 then ((rbuf_Buffer_Insert.f k t2.2 5 [97, 98]).bind fun t4 => (if t4.1 == 4 then ((rbuf_Buffer_Read.f k t4.2 9).bind fun t5 => (if (strOf t5.1).toList == (⟨#[97, 98, 99, 100]⟩ : ByteArray).toList then ((rbuf_Buffer_Next.f t5.2).bind fun t6 => (some (t6 == 9))) else (some false))) else (some false))) else (some false))) else (some false))) else (some false))))
theorem downhaullaw26_alive_ok (k : Nat) (r : Bool) (hm : downhaullaw26_alive.f k = some r) (B G : Asn) (w : World) (hs : St B G [] w) :
    Calls Try.prog 9 #[] w (Post (X := Asn) (fun x => .bool r) (fun x => x) G (fun x => []) (fun x => (Ext B x))) := by
  unfold downhaullaw26_alive.f at hm
  refine calls_W (F := Try.f9) Try.func9 rfl (by kernel_rfl) (L := []) ?_ hs
  refine w_seq 2 3 (by kernel_rfl) ?_
  refine w_region (by kernel_rfl) ?_
  refine o_run 1 [] (l := []) .nil (E' := []) (by kernel_rfl) ?_
  refine o_end (by kernel_rfl) ?_
  refine e_seq ?_
  refine w_seq 6 7 (by kernel_rfl) ?_
  refine w_region (by kernel_rfl) ?_
  obtain ⟨t1, hx1, hm⟩ := bind_some hm
  refine t_env [] (E' := []) (by kernel_rfl) ?_
  refine o_stp ?_ (by kernel_rfl)
  refine s_call 4 7 #[.int .i64 10, .int .u32 5] [] [] (by kernel_rfl) (by kernel_rfl) (fun w hs => rbuf_New_ok 10 5 t1 hx1 B _ w (St.cast (by kernel_rfl) hs)) (fun x hx => ?_)
  obtain ⟨g1, g2, A1, c1, A2, c2⟩ := x
  have hs1 := hx
  rcases optE_cases hm with ⟨ho1, hm⟩ | ⟨y1, ho1, hm⟩
  · refine t_EL (E' := (4, .tuple #[.pointer none, .int .i64 t1.2]) :: []) (L' := []) (by rw [ho1]; kernel_rfl) ?_
    refine o_run 5 [1, 2] (l := []) .nil (E' := [(1, .pointer none), (2, .int .i64 t1.2)]) (by kernel_rfl) ?_
    refine o_end (by kernel_rfl) ?_
    refine e_seq ?_
    refine w_seq 14 15 (by kernel_rfl) ?_
    refine w_region (by kernel_rfl) ?_
    refine o_run 37 [0] (l := []) .nil (E' := [(0, .bool false)]) (by kernel_rfl) ?_
    refine o_end (by kernel_rfl) ?_
    refine e_seq ?_
    refine w_ret (by kernel_rfl) ?_
    obtain rfl := Option.some.inj hm
    exact e_retP B (.bool false) [] (by kernel_rfl) (by kernel_rfl) rfl (by kernel_rfl) (by kernel_rfl) (Ext.refl _)
  · replace hs1 := hs1 y1 ho1
    refine t_EL (E' := (4, .tuple #[.pointer (some ⟨g1, 0, none⟩), .int .i64 t1.2]) :: []) (L' := [.blk g1 [.pointer (some ⟨g2, 0, none⟩), .slice A2 y1.xbytes.length c2, .int .i64 y1.xbegin, .int .i64 y1.xn, .int .u32 y1.xlast, .bool y1.xkept] 50, .blk g2 [.bool y1.xBoard.xmade, .int .u32 y1.xBoard.xfirst, .slice A1 y1.xBoard.xruns.length c1] 76, .own A2 y1.xbytes.length c2 (rowOf (encI .u8) y1.xbytes) 1 5]) (by rw [ho1]; kernel_rfl) ?_
    refine o_run 5 [1, 2] (l := []) .nil (E' := [(1, .pointer (some ⟨g1, 0, none⟩)), (2, .int .i64 t1.2)]) (by kernel_rfl) ?_
    refine o_end (by kernel_rfl) ?_
    refine e_seq ?_
    refine w_seq 14 15 (by kernel_rfl) ?_
    refine w_region (by kernel_rfl) ?_
    refine o_run 7 [1, 13] (l := []) .nil (E' := [(1, .pointer (some ⟨g1, 0, none⟩)), (13, .bool (t1.2 == 0))]) (by kernel_rfl) ?_
    refine o_split 13 (t1.2 == 0) (by kernel_rfl) (fun hb1 => ?_) (fun hb1 => ?_)
    · replace hm := ite_t hb1 hm
      refine o_run 1 [1, 13, 14] (l := []) .nil (E' := [(1, .pointer (some ⟨g1, 0, none⟩)), (13, .bool true), (14, .pointer (some ⟨g1, 0, none⟩))]) (by kernel_rfl) ?_
      refine o_stp ?_ (by kernel_rfl)
      refine s_new 15 (fun g3 => .slice (some ⟨g3, 0, none⟩) 2 2) [.int .u8 99, .int .u8 100] 5 (fun _ => by kernel_rfl) (fun g3 => ?_)
      refine o_stp ?_ (by kernel_rfl)
      refine s_constB (t := 32) (x := (.tmp 15)) (xs := [99, 100]) 16 (by kernel_rfl) (by kernel_rfl) (by kernel_rfl) (by kernel_rfl) (fun B1 hx2 hs2 => ?_)
      obtain ⟨t2, hx3, hm⟩ := bind_some hm
      refine o_stp ?_ (by kernel_rfl)
      refine s_call 17 12 #[.pointer (some ⟨g1, 0, none⟩), .int .u32 7, .slice (some ⟨g3, 0, none⟩) [99, 100].length ([99, 100].length)] [0, 1, 2] [] (by kernel_rfl) (by kernel_rfl) (fun w hs => rbuf_Buffer_Insert_ok k y1 7 [99, 100] t2 hx3 B1 _ g1 g2 A1 c1 A2 c2 (some ⟨g3, 0, none⟩) ([99, 100].length) (hs1.up hx2) hs2 w (St.cast (by kernel_rfl) hs)) (fun x hx => ?_)
      obtain ⟨B2, g4, A3, c3, A4, c4⟩ := x
      obtain ⟨hx4, hs3⟩ := hx
      refine t_L (L' := [.blk g1 [.pointer (some ⟨g4, 0, none⟩), .slice A4 t2.2.xbytes.length c4, .int .i64 t2.2.xbegin, .int .i64 t2.2.xn, .int .u32 t2.2.xlast, .bool t2.2.xkept] 50, .blk g4 [.bool t2.2.xBoard.xmade, .int .u32 t2.2.xBoard.xfirst, .slice A3 t2.2.xBoard.xruns.length c3] 76, .own A4 t2.2.xbytes.length c4 (rowOf (encI .u8) t2.2.xbytes) 1 5]) (by kernel_rfl) ?_
      refine o_run 3 [1, 20] (l := []) .nil (E' := [(1, .pointer (some ⟨g1, 0, none⟩)), (20, .bool (t2.1 == 0))]) (by kernel_rfl) ?_
      refine o_split 20 (t2.1 == 0) (by kernel_rfl) (fun hb2 => ?_) (fun hb2 => ?_)
      · replace hm := ite_t hb2 hm
        refine o_run 1 [1, 20, 21] (l := []) .nil (E' := [(1, .pointer (some ⟨g1, 0, none⟩)), (20, .bool true), (21, .pointer (some ⟨g1, 0, none⟩))]) (by kernel_rfl) ?_
        obtain ⟨t3, hx5, hm⟩ := bind_some hm
        refine o_stp ?_ (by kernel_rfl)
        refine s_call 22 20 #[.pointer (some ⟨g1, 0, none⟩)] [0, 1, 2] [] (by kernel_rfl) (by kernel_rfl) (fun w hs => rbuf_Buffer_Out_ok k t2.2 t3 hx5 B2 _ g1 g4 A3 c3 A4 c4 hs3 w (St.cast (by kernel_rfl) hs)) (fun _ hx => ?_)
        refine t_L (L' := [.blk g1 [.pointer (some ⟨g4, 0, none⟩), .slice A4 t2.2.xbytes.length c4, .int .i64 t2.2.xbegin, .int .i64 t2.2.xn, .int .u32 t2.2.xlast, .bool t2.2.xkept] 50, .blk g4 [.bool t2.2.xBoard.xmade, .int .u32 t2.2.xBoard.xfirst, .slice A3 t2.2.xBoard.xruns.length c3] 76, .own A4 t2.2.xbytes.length c4 (rowOf (encI .u8) t2.2.xbytes) 1 5]) (by kernel_rfl) ?_
        refine o_run 3 [1, 25] (l := []) .nil (E' := [(1, .pointer (some ⟨g1, 0, none⟩)), (25, .bool (t3 == 2))]) (by kernel_rfl) ?_
        refine o_split 25 (t3 == 2) (by kernel_rfl) (fun hb3 => ?_) (fun hb3 => ?_)
        · replace hm := ite_t hb3 hm
          refine o_run 1 [1, 25, 26] (l := []) .nil (E' := [(1, .pointer (some ⟨g1, 0, none⟩)), (25, .bool true), (26, .pointer (some ⟨g1, 0, none⟩))]) (by kernel_rfl) ?_
          refine o_stp ?_ (by kernel_rfl)
          refine s_new 27 (fun g5 => .slice (some ⟨g5, 0, none⟩) 2 2) [.int .u8 97, .int .u8 98] 5 (fun _ => by kernel_rfl) (fun g5 => ?_)
          refine o_stp ?_ (by kernel_rfl)
          refine s_constB (t := 32) (x := (.tmp 27)) (xs := [97, 98]) 28 (by kernel_rfl) (by kernel_rfl) (by kernel_rfl) (by kernel_rfl) (fun B3 hx6 hs4 => ?_)
          obtain ⟨t4, hx7, hm⟩ := bind_some hm
          refine o_stp ?_ (by kernel_rfl)
          refine s_call 29 12 #[.pointer (some ⟨g1, 0, none⟩), .int .u32 5, .slice (some ⟨g5, 0, none⟩) [97, 98].length ([97, 98].length)] [0, 1, 2] [] (by kernel_rfl) (by kernel_rfl) (fun w hs => rbuf_Buffer_Insert_ok k t2.2 5 [97, 98] t4 hx7 B3 _ g1 g4 A3 c3 A4 c4 (some ⟨g5, 0, none⟩) ([97, 98].length) (hs3.up hx6) hs4 w (St.cast (by kernel_rfl) hs)) (fun x hx => ?_)
          obtain ⟨B4, g6, A5, c5, A6, c6⟩ := x
          obtain ⟨hx8, hs5⟩ := hx
          refine t_L (L' := [.blk g1 [.pointer (some ⟨g6, 0, none⟩), .slice A6 t4.2.xbytes.length c6, .int .i64 t4.2.xbegin, .int .i64 t4.2.xn, .int .u32 t4.2.xlast, .bool t4.2.xkept] 50, .blk g6 [.bool t4.2.xBoard.xmade, .int .u32 t4.2.xBoard.xfirst, .slice A5 t4.2.xBoard.xruns.length c5] 76, .own A6 t4.2.xbytes.length c6 (rowOf (encI .u8) t4.2.xbytes) 1 5]) (by kernel_rfl) ?_
          refine o_run 3 [1, 32] (l := []) .nil (E' := [(1, .pointer (some ⟨g1, 0, none⟩)), (32, .bool (t4.1 == 4))]) (by kernel_rfl) ?_
          refine o_split 32 (t4.1 == 4) (by kernel_rfl) (fun hb4 => ?_) (fun hb4 => ?_)
          · replace hm := ite_t hb4 hm
            refine o_run 1 [1, 32, 33] (l := []) .nil (E' := [(1, .pointer (some ⟨g1, 0, none⟩)), (32, .bool true), (33, .pointer (some ⟨g1, 0, none⟩))]) (by kernel_rfl) ?_
            obtain ⟨t5, hx9, hm⟩ := bind_some hm
            refine o_stp ?_ (by kernel_rfl)
            refine s_call 34 11 #[.pointer (some ⟨g1, 0, none⟩), .int .i64 9] [0, 1, 2] [] (by kernel_rfl) (by kernel_rfl) (fun w hs => rbuf_Buffer_Read_ok k t4.2 9 t5 hx9 B4 _ g1 g6 A5 c5 A6 c6 hs5 w (St.cast (by kernel_rfl) hs)) (fun x hx => ?_)
            obtain ⟨A7, c7, g7, A8, c8, A9, c9⟩ := x
            have hs6 := hx
            refine t_L (L' := [.own A7 t5.1.length c7 (rowOf (encI .u8) t5.1) 1 5, .blk g1 [.pointer (some ⟨g7, 0, none⟩), .slice A9 t5.2.xbytes.length c9, .int .i64 t5.2.xbegin, .int .i64 t5.2.xn, .int .u32 t5.2.xlast, .bool t5.2.xkept] 50, .blk g7 [.bool t5.2.xBoard.xmade, .int .u32 t5.2.xBoard.xfirst, .slice A8 t5.2.xBoard.xruns.length c8] 76, .own A9 t5.2.xbytes.length c9 (rowOf (encI .u8) t5.2.xbytes) 1 5]) (by kernel_rfl) ?_
            refine o_val 35 (.convert 32 9 (.tmp 34)) (.string (strOf t5.1)) (by kernel_rfl) (v_strO (j := 0) rfl rfl (by kernel_rfl) (by kernel_rfl)) ?_
            refine o_run 3 [1, 38] (l := []) .nil (E' := [(1, .pointer (some ⟨g1, 0, none⟩)), (38, .bool ((strOf t5.1).toList == (⟨#[97, 98, 99, 100]⟩ : ByteArray).toList))]) (by kernel_rfl) ?_
            refine o_split 38 ((strOf t5.1).toList == (⟨#[97, 98, 99, 100]⟩ : ByteArray).toList) (by kernel_rfl) (fun hb5 => ?_) (fun hb5 => ?_)
            · replace hm := ite_t hb5 hm
              refine o_run 1 [38, 39] (l := []) .nil (E' := [(38, .bool true), (39, .pointer (some ⟨g1, 0, none⟩))]) (by kernel_rfl) ?_
              obtain ⟨t6, hx10, hm⟩ := bind_some hm
              refine o_stp ?_ (by kernel_rfl)
              refine s_call 40 13 #[.pointer (some ⟨g1, 0, none⟩)] [1, 2, 3] [0] (by kernel_rfl) (by kernel_rfl) (fun w hs => rbuf_Buffer_Next_ok t5.2 t6 hx10 B4 _ g1 g7 A8 c8 A9 c9 hs6 w (St.cast (by kernel_rfl) hs)) (fun _ hx => ?_)
              refine t_L (L' := [.blk g1 [.pointer (some ⟨g7, 0, none⟩), .slice A9 t5.2.xbytes.length c9, .int .i64 t5.2.xbegin, .int .i64 t5.2.xn, .int .u32 t5.2.xlast, .bool t5.2.xkept] 50, .blk g7 [.bool t5.2.xBoard.xmade, .int .u32 t5.2.xBoard.xfirst, .slice A8 t5.2.xBoard.xruns.length c8] 76, .own A9 t5.2.xbytes.length c9 (rowOf (encI .u8) t5.2.xbytes) 1 5, .own A7 t5.1.length c7 (rowOf (encI .u8) t5.1) 1 5]) (by kernel_rfl) ?_
              refine o_run 3 [0] (l := []) .nil (E' := [(0, .bool (t6 == 9))]) (by kernel_rfl) ?_
              refine o_end (by kernel_rfl) ?_
              refine e_seq ?_
              refine w_ret (by kernel_rfl) ?_
              obtain rfl := Option.some.inj hm
              exact e_retP B4 (.bool (t6 == 9)) [] (by kernel_rfl) (by kernel_rfl) rfl (by kernel_rfl) (by kernel_rfl) (Ext.trans (Ext.trans (Ext.trans hx2 hx4) hx6) hx8)
            · replace hm := ite_f hb5 hm
              refine o_run 5 [0] (l := []) .nil (E' := [(0, .bool false)]) (by kernel_rfl) ?_
              refine o_end (by kernel_rfl) ?_
              refine e_seq ?_
              refine w_ret (by kernel_rfl) ?_
              obtain rfl := Option.some.inj hm
              exact e_retP B4 (.bool false) [] (by kernel_rfl) (by kernel_rfl) rfl (by kernel_rfl) (by kernel_rfl) (Ext.trans (Ext.trans (Ext.trans hx2 hx4) hx6) hx8)
          · replace hm := ite_f hb4 hm
            refine o_run 11 [0] (l := []) .nil (E' := [(0, .bool false)]) (by kernel_rfl) ?_
            refine o_end (by kernel_rfl) ?_
            refine e_seq ?_
            refine w_ret (by kernel_rfl) ?_
            obtain rfl := Option.some.inj hm
            exact e_retP B4 (.bool false) [] (by kernel_rfl) (by kernel_rfl) rfl (by kernel_rfl) (by kernel_rfl) (Ext.trans (Ext.trans (Ext.trans hx2 hx4) hx6) hx8)
        · replace hm := ite_f hb3 hm
          refine o_run 18 [0] (l := []) .nil (E' := [(0, .bool false)]) (by kernel_rfl) ?_
          refine o_end (by kernel_rfl) ?_
          refine e_seq ?_
          refine w_ret (by kernel_rfl) ?_
          obtain rfl := Option.some.inj hm
          exact e_retP B2 (.bool false) [] (by kernel_rfl) (by kernel_rfl) rfl (by kernel_rfl) (by kernel_rfl) (Ext.trans hx2 hx4)
      · replace hm := ite_f hb2 hm
        refine o_run 23 [0] (l := []) .nil (E' := [(0, .bool false)]) (by kernel_rfl) ?_
        refine o_end (by kernel_rfl) ?_
        refine e_seq ?_
        refine w_ret (by kernel_rfl) ?_
        obtain rfl := Option.some.inj hm
        exact e_retP B2 (.bool false) [] (by kernel_rfl) (by kernel_rfl) rfl (by kernel_rfl) (by kernel_rfl) (Ext.trans hx2 hx4)
    · replace hm := ite_f hb1 hm
      refine o_run 30 [0] (l := []) .nil (E' := [(0, .bool false)]) (by kernel_rfl) ?_
      refine o_end (by kernel_rfl) ?_
      refine e_seq ?_
      refine w_ret (by kernel_rfl) ?_
      obtain rfl := Option.some.inj hm
      exact e_retP B (.bool false) [] (by kernel_rfl) (by kernel_rfl) rfl (by kernel_rfl) (by kernel_rfl) (Ext.refl _)
def downhaullaw26_short.f (a0 : List T_downhaullaw26_Step) : Option ((List T_downhaullaw26_Step)) :=
  ((cut a0 0 (imin (a0.length : Int) 60)).bind fun l1 => (some l1))
theorem downhaullaw26_short_ok (a0 : List T_downhaullaw26_Step) (r : (List T_downhaullaw26_Step)) (hm : downhaullaw26_short.f a0 = some r) (B G : Asn) (A1 : Option Addr) (c1 : Nat) (hs1 : Sl kT_downhaullaw26_Step B A1 c1 a0) (w : World) (hs : St B G [] w) :
    Calls Try.prog 10 #[.slice A1 a0.length c1] w (Post (X := (Option Addr) × Nat) (fun x => .slice x.1 r.length x.2) (fun x => B) G (fun x => []) (fun x => (Sl kT_downhaullaw26_Step B x.1 x.2 r))) := by
  unfold downhaullaw26_short.f at hm
  refine calls_W (F := Try.f10) Try.func10 rfl (by kernel_rfl) (L := []) ?_ hs
  refine w_seq 2 3 (by kernel_rfl) ?_
  refine w_region (by kernel_rfl) ?_
  refine o_run 1 [0] (l := []) .nil (E' := [(0, .slice A1 a0.length c1)]) (by kernel_rfl) ?_
  refine o_end (by kernel_rfl) ?_
  refine e_seq ?_
  refine w_seq 6 7 (by kernel_rfl) ?_
  refine w_region (by kernel_rfl) ?_
  refine o_run 4 [3, 6] (l := []) .nil (E' := [(3, .slice A1 a0.length c1), (6, .int .i64 (imin (a0.length : Int) 60))]) (by kernel_rfl) ?_
  obtain ⟨l1, hx1, hm⟩ := bind_some hm
  refine o_val 7 (.slice 24 (.tmp 3) none (some (.tmp 6)) none) (.slice (cutA A1 (Int.toNat 0) c1 4) l1.length (c1 - Int.toNat 0)) (by kernel_rfl) (i_slice 24 (.tmp 3) none (some (.tmp 6)) hs1 hx1 (by kernel_rfl) (by kernel_rfl) (by kernel_rfl) (by kernel_rfl)) ?_
  have hs2 := sl_cut hs1 hx1
  refine o_run 1 [2] (l := []) .nil (E' := [(2, .slice (cutA A1 (Int.toNat 0) c1 4) l1.length (c1 - Int.toNat 0))]) (by kernel_rfl) ?_
  refine o_end (by kernel_rfl) ?_
  refine e_seq ?_
  refine w_ret (by kernel_rfl) ?_
  obtain rfl := Option.some.inj hm
  exact e_retP ((cutA A1 (Int.toNat 0) c1 4), (c1 - Int.toNat 0)) (.slice (cutA A1 (Int.toNat 0) c1 4) l1.length (c1 - Int.toNat 0)) [] (by kernel_rfl) (by kernel_rfl) rfl (by kernel_rfl) (by kernel_rfl) hs2
def downhaullaw26_far.l1 : Nat → (List T_downhaullaw26_Step) → Int → Int → Option (Int)
  | 0, _, _, _ => none
  | k + 1, t1, p1, p2 => (if decide (p2 < (t1.length : Int)) then ((idx t1 p2).bind fun e1 => (downhaullaw26_far.l1 k t1 (I64 (p1 + (imin (e1.xBytes.length : Int) 10000))) (I64 (p2 + 1)))) else (some p1))
def downhaullaw26_far.f (k : Nat) (a0 : List T_downhaullaw26_Step) : Option (Bool) :=
  ((downhaullaw26_short.f a0).bind fun t1 => ((downhaullaw26_far.l1 k t1 0 0).bind fun t2 => (some (decide (t2 > 3000)))))
theorem downhaullaw26_far_ok (k : Nat) (a0 : List T_downhaullaw26_Step) (r : Bool) (hm : downhaullaw26_far.f k a0 = some r) (B G : Asn) (A1 : Option Addr) (c1 : Nat) (hs1 : Sl kT_downhaullaw26_Step B A1 c1 a0) (w : World) (hs : St B G [] w) :
    Calls Try.prog 8 #[.slice A1 a0.length c1] w (Post (X := Unit) (fun x => .bool r) (fun x => B) G (fun x => []) (fun x => True)) := by
  unfold downhaullaw26_far.f at hm
  refine calls_W (F := Try.f8) Try.func8 rfl (by kernel_rfl) (L := []) ?_ hs
  refine w_seq 2 3 (by kernel_rfl) ?_
  refine w_region (by kernel_rfl) ?_
  refine o_run 1 [0] (l := []) .nil (E' := [(0, .slice A1 a0.length c1)]) (by kernel_rfl) ?_
  refine o_end (by kernel_rfl) ?_
  refine e_seq ?_
  refine w_seq 6 7 (by kernel_rfl) ?_
  refine w_region (by kernel_rfl) ?_
  refine o_run 1 [0, 3] (l := []) .nil (E' := [(0, .slice A1 a0.length c1), (3, .int .i64 0)]) (by kernel_rfl) ?_
  refine o_end (by kernel_rfl) ?_
  refine e_seq ?_
  refine w_seq 14 15 (by kernel_rfl) ?_
  refine w_seq 28 29 (by kernel_rfl) ?_
  refine w_region (by kernel_rfl) ?_
  refine o_run 1 [3, 6] (l := []) .nil (E' := [(3, .int .i64 0), (6, .slice A1 a0.length c1)]) (by kernel_rfl) ?_
  obtain ⟨t1, hx1, hm⟩ := bind_some hm
  refine o_stp ?_ (by kernel_rfl)
  refine s_call 7 10 #[.slice A1 a0.length c1] [] [] (by kernel_rfl) (by kernel_rfl) (fun w hs => downhaullaw26_short_ok a0 t1 hx1 B _ A1 c1 hs1 w (St.cast (by kernel_rfl) hs)) (fun x hx => ?_)
  obtain ⟨A2, c2⟩ := x
  have hs2 := hx
  refine t_L (L' := []) (by kernel_rfl) ?_
  refine o_run 2 [3, 7, 8, 9] (l := []) .nil (E' := [(3, .int .i64 0), (7, .slice A2 t1.length c2), (8, .int .i64 (t1.length : Int)), (9, .int .i64 0)]) (by kernel_rfl) ?_
  refine o_end (by kernel_rfl) ?_
  refine e_seq ?_
  refine w_block 0 58 (by kernel_rfl) ?_
  obtain ⟨t2, ht1, ho1⟩ := bind_some hm
  refine t_env [3, 7, 8, 9] (E' := [(3, .int .i64 0), (7, .slice A2 t1.length c2), (8, .int .i64 (t1.length : Int)), (9, .int .i64 0)]) (by kernel_rfl) ?_
  refine w_loopJ 116 0 (fun k a w => ∃ (p1 : Int) (p2 : Int), downhaullaw26_far.l1 k t1 p1 p2 = some t2 ∧ EnvOk [(3, .int .i64 p1), (7, .slice A2 t1.length c2), (8, .int .i64 (t1.length : Int)), (9, .int .i64 p2)] Try.f8.ntmps a ∧ St B G [] w) (fun a w => EnvOk [(3, .int .i64 t2)] Try.f8.ntmps a ∧ St B G [] w) (by kernel_rfl) ?_ ?_ k ?_
  · rintro a w ⟨ha, hw⟩
    refine we_of (E := [(3, .int .i64 t2)]) (B := B) (G := G) (L := []) ?_ ha hw
    have hm := ho1
    refine e_seq ?_
    refine w_seq 30 31 (by kernel_rfl) ?_
    refine w_region (by kernel_rfl) ?_
    refine o_run 3 [2] (l := []) .nil (E' := [(2, .bool (decide (t2 > 3000)))]) (by kernel_rfl) ?_
    refine o_end (by kernel_rfl) ?_
    refine e_seq ?_
    refine w_ret (by kernel_rfl) ?_
    obtain rfl := Option.some.inj hm
    exact e_retP () (.bool (decide (t2 > 3000))) [] (by kernel_rfl) (by kernel_rfl) rfl (by kernel_rfl) (by kernel_rfl) trivial
  · rintro k a w ⟨p1, p2, hm, ha, hw⟩
    cases k with
    | zero => exact absurd hm (by simp [downhaullaw26_far.l1])
    | succ k =>
      unfold downhaullaw26_far.l1 at hm
      refine wc_of (E := [(3, .int .i64 p1), (7, .slice A2 t1.length c2), (8, .int .i64 (t1.length : Int)), (9, .int .i64 p2)]) (B := B) (G := G) (L := []) ?_ ha hw
      refine w_seq 232 233 (by kernel_rfl) ?_
      refine w_region (by kernel_rfl) ?_
      refine o_run 1 [3, 7, 8, 9, 10] (l := []) .nil (E' := [(3, .int .i64 p1), (7, .slice A2 t1.length c2), (8, .int .i64 (t1.length : Int)), (9, .int .i64 p2), (10, .bool (decide (p2 < (t1.length : Int))))]) (by kernel_rfl) ?_
      refine o_end (by kernel_rfl) ?_
      refine e_seq ?_
      refine w_seq 466 467 (by kernel_rfl) ?_
      refine w_cond (.tmp 10) 932 933 (decide (p2 < (t1.length : Int))) (by kernel_rfl) (by kernel_rfl) (fun hb1 => ?_) (fun hb1 => ?_)
      · replace hm := ite_t hb1 hm
        refine w_skip (by kernel_rfl) ?_
        refine e_seq ?_
        refine w_seq 934 935 (by kernel_rfl) ?_
        refine w_block 1 1868 (by kernel_rfl) ?_
        refine w_seq 3736 3737 (by kernel_rfl) ?_
        refine w_region (by kernel_rfl) ?_
        obtain ⟨e1, hx2, hm⟩ := bind_some hm
        obtain ⟨hi1, hi2, hg1⟩ := idx_some hx2
        obtain ⟨cs1, hk1, hc1⟩ := (hs2).at hg1
        obtain ⟨A3, c3, hs3, rfl⟩ := hk1
        refine o_val 11 (.indexAddr 24 (.tmp 7) (.tmp 9)) (.pointer (some (adr A2 (Int.toNat p2 * 4)))) (by kernel_rfl) (v_index (k := .i64) (c := c2) (by kernel_rfl) (by kernel_rfl) (by kernel_rfl) hi1 hi2 ((hs2).some hg1)) ?_
        refine o_run 1 [3, 7, 8, 9, 12] (l := [((adr A2 (Int.toNat p2 * 4)), .bool e1.xRead), (((adr A2 (Int.toNat p2 * 4)).add 1), .int .i64 e1.xN), (((adr A2 (Int.toNat p2 * 4)).add 2), .int .i32 e1.xAhead), (((adr A2 (Int.toNat p2 * 4)).add 3), .slice A3 e1.xBytes.length c3)]) (.one ((at_sl hc1).sub 0 rfl) (.one ((at_sl hc1).sub 1 rfl) (.one ((at_sl hc1).sub 2 rfl) (.one ((at_sl hc1).sub 3 rfl) .nil)))) (E' := [(3, .int .i64 p1), (7, .slice A2 t1.length c2), (8, .int .i64 (t1.length : Int)), (9, .int .i64 p2), (12, .agg #[.bool e1.xRead, .int .i64 e1.xN, .int .i32 e1.xAhead, .slice A3 e1.xBytes.length c3])]) (by kernel_rfl) ?_
        refine o_stp ?_ (by kernel_rfl)
        refine s_new 5 (fun g1 => .pointer (some ⟨g1, 0, none⟩)) [.bool false, .int .i64 0, .int .i32 0, .slice none 0 0] 34 (fun _ => by kernel_rfl) (fun g1 => ?_)
        refine o_stp ?_ (by kernel_rfl)
        refine s_store 0 g1 [.bool false, .int .i64 0, .int .i32 0, .slice none 0 0] 34 [(0, .bool e1.xRead), (1, .int .i64 e1.xN), (2, .int .i32 e1.xAhead), (3, .slice A3 e1.xBytes.length c3)] (by kernel_rfl) (by kernel_rfl) (by kernel_rfl) ?_
        refine t_L (L' := [.blk g1 [.bool e1.xRead, .int .i64 e1.xN, .int .i32 e1.xAhead, .slice A3 e1.xBytes.length c3] 34]) (by kernel_rfl) ?_
        refine o_end (by kernel_rfl) ?_
        refine e_seq ?_
        refine w_region (by kernel_rfl) ?_
        refine o_run 7 [3, 7, 8, 9] (l := [(⟨g1, 3, none⟩, .slice A3 e1.xBytes.length c3)]) (.one (at_blk (j := 0) rfl rfl) .nil) (E' := [(3, .int .i64 (I64 (p1 + (imin (e1.xBytes.length : Int) 10000)))), (7, .slice A2 t1.length c2), (8, .int .i64 (t1.length : Int)), (9, .int .i64 p2)]) (by kernel_rfl) ?_
        refine o_end (by kernel_rfl) ?_
        refine e_blk ?_
        refine e_seq ?_
        refine w_region (by kernel_rfl) ?_
        refine o_run 2 [3, 7, 8, 9] (l := []) .nil (E' := [(3, .int .i64 (I64 (p1 + (imin (e1.xBytes.length : Int) 10000)))), (7, .slice A2 t1.length c2), (8, .int .i64 (t1.length : Int)), (9, .int .i64 (I64 (p2 + 1)))]) (by kernel_rfl) ?_
        refine o_end (by kernel_rfl) ?_
        refine t_drop [] (by kernel_rfl) ?_
        refine t_L (L' := []) (by kernel_rfl) ?_
        refine t_env [3, 7, 8, 9] (E' := [(3, .int .i64 (I64 (p1 + (imin (e1.xBytes.length : Int) 10000)))), (7, .slice A2 t1.length c2), (8, .int .i64 (t1.length : Int)), (9, .int .i64 (I64 (p2 + 1)))]) (by kernel_rfl) ?_
        exact e_inv (fun a w ha hw => ⟨k, Nat.lt_succ_self k, (I64 (p1 + (imin (e1.xBytes.length : Int) 10000))), (I64 (p2 + 1)), hm, ha, hw⟩)
      · replace hm := ite_f hb1 hm
        refine w_exit 0 (by kernel_rfl) ?_
        refine e_x_seq ?_
        refine e_x_inv ?_
        refine e_x_here ?_
        refine t_drop [] (by kernel_rfl) ?_
        refine t_L (L' := []) (by kernel_rfl) ?_
        refine t_env [3] (E' := [(3, .int .i64 p1)]) (by kernel_rfl) ?_
        obtain rfl := Option.some.inj hm
        exact e_inv (fun a w ha hw => ⟨ha, hw⟩)
  · exact fun a w ha hw => ⟨0, 0, ht1, ha, hw⟩
def rbuf_Buffer_ok_2.f : Option (Bool) :=
  (some false)
theorem rbuf_Buffer_ok_2_ok (r : Bool) (hm : rbuf_Buffer_ok_2.f = some r) (B G : Asn) (w : World) (hs : St B G [] w) :
    Calls Try.prog 27 #[.pointer none] w (Post (X := Unit) (fun x => .bool r) (fun x => B) G (fun x => []) (fun x => True)) := by
  unfold rbuf_Buffer_ok_2.f at hm
  refine calls_W (F := Try.f27) Try.func27 rfl (by kernel_rfl) (L := []) ?_ hs
  refine w_seq 2 3 (by kernel_rfl) ?_
  refine w_region (by kernel_rfl) ?_
  refine o_run 1 [0] (l := []) .nil (E' := [(0, .pointer none)]) (by kernel_rfl) ?_
  refine o_end (by kernel_rfl) ?_
  refine e_seq ?_
  refine w_seq 6 7 (by kernel_rfl) ?_
  refine w_region (by kernel_rfl) ?_
  refine o_run 10 [2] (l := []) .nil (E' := [(2, .bool false)]) (by kernel_rfl) ?_
  refine o_end (by kernel_rfl) ?_
  refine e_seq ?_
  refine w_ret (by kernel_rfl) ?_
  obtain rfl := Option.some.inj hm
  exact e_retP () (.bool false) [] (by kernel_rfl) (by kernel_rfl) rfl (by kernel_rfl) (by kernel_rfl) trivial
def rbuf_Buffer_Insert_2.f (a1 : Int) (a2 : List Int) : Option (Int) :=
  (rbuf_Buffer_ok_2.f.bind fun t1 => (some 0))
theorem rbuf_Buffer_Insert_2_ok (a1 : Int) (a2 : List Int) (r : Int) (hm : rbuf_Buffer_Insert_2.f a1 a2 = some r) (B G : Asn) (A1 : Option Addr) (c1 : Nat) (hs1 : Sl (kI .u8) B A1 c1 a2) (w : World) (hs : St B G [] w) :
    Calls Try.prog 12 #[.pointer none, .int .u32 a1, .slice A1 a2.length c1] w (Post (X := Unit) (fun x => .int .i64 r) (fun x => B) G (fun x => []) (fun x => True)) := by
  unfold rbuf_Buffer_Insert_2.f at hm
  refine calls_W (F := Try.f12) Try.func12 rfl (by kernel_rfl) (L := []) ?_ hs
  refine w_seq 2 3 (by kernel_rfl) ?_
  refine w_region (by kernel_rfl) ?_
  refine o_run 1 [0, 1, 2] (l := []) .nil (E' := [(0, .pointer none), (1, .int .u32 a1), (2, .slice A1 a2.length c1)]) (by kernel_rfl) ?_
  refine o_end (by kernel_rfl) ?_
  refine e_seq ?_
  refine w_seq 6 7 (by kernel_rfl) ?_
  refine w_seq 12 13 (by kernel_rfl) ?_
  refine w_region (by kernel_rfl) ?_
  refine o_run 1 [0, 1, 2, 13] (l := []) .nil (E' := [(0, .pointer none), (1, .int .u32 a1), (2, .slice A1 a2.length c1), (13, .pointer none)]) (by kernel_rfl) ?_
  obtain ⟨t1, hx1, hm⟩ := bind_some hm
  obtain rfl : false = t1 := Option.some.inj (show some false = some t1 from hx1)
  refine o_stp ?_ (by kernel_rfl)
  refine s_call 14 27 #[.pointer none] [] [] (by kernel_rfl) (by kernel_rfl) (fun w hs => rbuf_Buffer_ok_2_ok false hx1 B _ w (St.cast (by kernel_rfl) hs)) (fun _ hx => ?_)
  refine t_L (L' := []) (by kernel_rfl) ?_
  refine o_run 1 [0, 1, 2, 15] (l := []) .nil (E' := [(0, .pointer none), (1, .int .u32 a1), (2, .slice A1 a2.length c1), (15, .bool true)]) (by kernel_rfl) ?_
  refine o_end (by kernel_rfl) ?_
  refine e_seq ?_
  refine w_cond_t (.tmp 15) 26 27 (by kernel_rfl) (by kernel_rfl) ?_
  refine w_seq 52 53 (by kernel_rfl) ?_
  refine w_region (by kernel_rfl) ?_
  refine o_run 1 [6] (l := []) .nil (E' := [(6, .int .i64 0)]) (by kernel_rfl) ?_
  refine o_end (by kernel_rfl) ?_
  refine e_seq ?_
  refine w_ret (by kernel_rfl) ?_
  obtain rfl := Option.some.inj hm
  exact e_retP () (.int .i64 0) [] (by kernel_rfl) (by kernel_rfl) rfl (by kernel_rfl) (by kernel_rfl) trivial
def rbuf_Buffer_Len_2.f : Option (Int) :=
  (rbuf_Buffer_ok_2.f.bind fun t1 => (some 0))
theorem rbuf_Buffer_Len_2_ok (r : Int) (hm : rbuf_Buffer_Len_2.f = some r) (B G : Asn) (w : World) (hs : St B G [] w) :
    Calls Try.prog 14 #[.pointer none] w (Post (X := Unit) (fun x => .int .i64 r) (fun x => B) G (fun x => []) (fun x => True)) := by
  unfold rbuf_Buffer_Len_2.f at hm
  refine calls_W (F := Try.f14) Try.func14 rfl (by kernel_rfl) (L := []) ?_ hs
  refine w_seq 2 3 (by kernel_rfl) ?_
  refine w_region (by kernel_rfl) ?_
  refine o_run 1 [0] (l := []) .nil (E' := [(0, .pointer none)]) (by kernel_rfl) ?_
  refine o_end (by kernel_rfl) ?_
  refine e_seq ?_
  refine w_seq 6 7 (by kernel_rfl) ?_
  refine w_seq 12 13 (by kernel_rfl) ?_
  refine w_region (by kernel_rfl) ?_
  refine o_run 1 [0, 3] (l := []) .nil (E' := [(0, .pointer none), (3, .pointer none)]) (by kernel_rfl) ?_
  obtain ⟨t1, hx1, hm⟩ := bind_some hm
  obtain rfl : false = t1 := Option.some.inj (show some false = some t1 from hx1)
  refine o_stp ?_ (by kernel_rfl)
  refine s_call 4 27 #[.pointer none] [] [] (by kernel_rfl) (by kernel_rfl) (fun w hs => rbuf_Buffer_ok_2_ok false hx1 B _ w (St.cast (by kernel_rfl) hs)) (fun _ hx => ?_)
  refine t_L (L' := []) (by kernel_rfl) ?_
  refine o_run 1 [0, 5] (l := []) .nil (E' := [(0, .pointer none), (5, .bool true)]) (by kernel_rfl) ?_
  refine o_end (by kernel_rfl) ?_
  refine e_seq ?_
  refine w_cond_t (.tmp 5) 26 27 (by kernel_rfl) (by kernel_rfl) ?_
  refine w_seq 52 53 (by kernel_rfl) ?_
  refine w_region (by kernel_rfl) ?_
  refine o_run 1 [2] (l := []) .nil (E' := [(2, .int .i64 0)]) (by kernel_rfl) ?_
  refine o_end (by kernel_rfl) ?_
  refine e_seq ?_
  refine w_ret (by kernel_rfl) ?_
  obtain rfl := Option.some.inj hm
  exact e_retP () (.int .i64 0) [] (by kernel_rfl) (by kernel_rfl) rfl (by kernel_rfl) (by kernel_rfl) trivial
def rbuf_Buffer_Next_2.f : Option (Int) :=
  (rbuf_Buffer_ok_2.f.bind fun t1 => (some 0))
theorem rbuf_Buffer_Next_2_ok (r : Int) (hm : rbuf_Buffer_Next_2.f = some r) (B G : Asn) (w : World) (hs : St B G [] w) :
    Calls Try.prog 13 #[.pointer none] w (Post (X := Unit) (fun x => .int .u32 r) (fun x => B) G (fun x => []) (fun x => True)) := by
  unfold rbuf_Buffer_Next_2.f at hm
  refine calls_W (F := Try.f13) Try.func13 rfl (by kernel_rfl) (L := []) ?_ hs
  refine w_seq 2 3 (by kernel_rfl) ?_
  refine w_region (by kernel_rfl) ?_
  refine o_run 1 [0] (l := []) .nil (E' := [(0, .pointer none)]) (by kernel_rfl) ?_
  refine o_end (by kernel_rfl) ?_
  refine e_seq ?_
  refine w_seq 6 7 (by kernel_rfl) ?_
  refine w_seq 12 13 (by kernel_rfl) ?_
  refine w_region (by kernel_rfl) ?_
  refine o_run 1 [0, 3] (l := []) .nil (E' := [(0, .pointer none), (3, .pointer none)]) (by kernel_rfl) ?_
  obtain ⟨t1, hx1, hm⟩ := bind_some hm
  obtain rfl : false = t1 := Option.some.inj (show some false = some t1 from hx1)
  refine o_stp ?_ (by kernel_rfl)
  refine s_call 4 27 #[.pointer none] [] [] (by kernel_rfl) (by kernel_rfl) (fun w hs => rbuf_Buffer_ok_2_ok false hx1 B _ w (St.cast (by kernel_rfl) hs)) (fun _ hx => ?_)
  refine t_L (L' := []) (by kernel_rfl) ?_
  refine o_run 1 [0, 5] (l := []) .nil (E' := [(0, .pointer none), (5, .bool true)]) (by kernel_rfl) ?_
  refine o_end (by kernel_rfl) ?_
  refine e_seq ?_
  refine w_cond_t (.tmp 5) 26 27 (by kernel_rfl) (by kernel_rfl) ?_
  refine w_seq 52 53 (by kernel_rfl) ?_
  refine w_region (by kernel_rfl) ?_
  refine o_run 1 [2] (l := []) .nil (E' := [(2, .int .u32 0)]) (by kernel_rfl) ?_
  refine o_end (by kernel_rfl) ?_
  refine e_seq ?_
  refine w_ret (by kernel_rfl) ?_
  obtain rfl := Option.some.inj hm
  exact e_retP () (.int .u32 0) [] (by kernel_rfl) (by kernel_rfl) rfl (by kernel_rfl) (by kernel_rfl) trivial
def rbuf_Buffer_Read_2.f (a1 : Int) : Option ((List Int)) :=
  (rbuf_Buffer_Len_2.f.bind fun t1 => (if (imin (imax a1 0) 0) == 0 then (some ([] : List Int)) else ((mk (imin (imax a1 0) 0) (0 : Int)).bind fun l1 => none)))
theorem rbuf_Buffer_Read_2_ok (a1 : Int) (r : (List Int)) (hm : rbuf_Buffer_Read_2.f a1 = some r) (B G : Asn) (w : World) (hs : St B G [] w) :
    Calls Try.prog 11 #[.pointer none, .int .i64 a1] w (Post (X := (Option Addr) × Nat) (fun x => .slice x.1 r.length x.2) (fun x => B) G (fun x => []) (fun x => (Sl (kI .u8) B x.1 x.2 r))) := by
  unfold rbuf_Buffer_Read_2.f at hm
  refine calls_W (F := Try.f11) Try.func11 rfl (by kernel_rfl) (L := []) ?_ hs
  refine w_seq 2 3 (by kernel_rfl) ?_
  refine w_region (by kernel_rfl) ?_
  refine o_run 1 [0, 1] (l := []) .nil (E' := [(0, .pointer none), (1, .int .i64 a1)]) (by kernel_rfl) ?_
  refine o_end (by kernel_rfl) ?_
  refine e_seq ?_
  refine w_seq 6 7 (by kernel_rfl) ?_
  refine w_region (by kernel_rfl) ?_
  refine o_run 3 [0, 9, 10] (l := []) .nil (E' := [(0, .pointer none), (9, .int .i64 (imax a1 0)), (10, .pointer none)]) (by kernel_rfl) ?_
  obtain ⟨t1, hx1, hm⟩ := bind_some hm
  obtain rfl : 0 = t1 := Option.some.inj (show some 0 = some t1 from hx1)
  refine o_stp ?_ (by kernel_rfl)
  refine s_call 11 14 #[.pointer none] [] [] (by kernel_rfl) (by kernel_rfl) (fun w hs => rbuf_Buffer_Len_2_ok 0 hx1 B _ w (St.cast (by kernel_rfl) hs)) (fun _ hx => ?_)
  refine t_L (L' := []) (by kernel_rfl) ?_
  refine o_run 2 [0, 1] (l := []) .nil (E' := [(0, .pointer none), (1, .int .i64 (imin (imax a1 0) 0))]) (by kernel_rfl) ?_
  refine o_end (by kernel_rfl) ?_
  refine e_seq ?_
  refine w_seq 14 15 (by kernel_rfl) ?_
  refine w_seq 28 29 (by kernel_rfl) ?_
  refine w_region (by kernel_rfl) ?_
  refine o_run 2 [0, 1, 14] (l := []) .nil (E' := [(0, .pointer none), (1, .int .i64 (imin (imax a1 0) 0)), (14, .bool ((imin (imax a1 0) 0) == 0))]) (by kernel_rfl) ?_
  refine o_end (by kernel_rfl) ?_
  refine e_seq ?_
  refine w_cond (.tmp 14) 58 59 ((imin (imax a1 0) 0) == 0) (by kernel_rfl) (by kernel_rfl) (fun hb1 => ?_) (fun hb1 => ?_)
  · replace hm := ite_t hb1 hm
    refine w_seq 116 117 (by kernel_rfl) ?_
    refine w_region (by kernel_rfl) ?_
    refine o_run 1 [4] (l := []) .nil (E' := [(4, .slice none 0 0)]) (by kernel_rfl) ?_
    refine o_end (by kernel_rfl) ?_
    refine e_seq ?_
    refine w_ret (by kernel_rfl) ?_
    obtain rfl := Option.some.inj hm
    exact e_retP (none, 0) (.slice none ([] : List Int).length 0) [] (by kernel_rfl) (by kernel_rfl) rfl (by kernel_rfl) (by kernel_rfl) (Sl.nil (kI .u8) B none 0)
  · replace hm := ite_f hb1 hm
    refine w_skip (by kernel_rfl) ?_
    refine e_seq ?_
    refine w_seq 30 31 (by kernel_rfl) ?_
    refine w_region (by kernel_rfl) ?_
    refine o_run 1 [0, 1, 15] (l := []) .nil (E' := [(0, .pointer none), (1, .int .i64 (imin (imax a1 0) 0)), (15, .int .i64 (imin (imax a1 0) 0))]) (by kernel_rfl) ?_
    obtain ⟨l1, hx2, hm⟩ := bind_some hm
    obtain ⟨n1, hn1, hn2, hn3⟩ := mk_some hx2
    refine o_stp ?_ (by kernel_rfl)
    refine s_make (α := Int) (kl := .i64) (kc := .i64) (bytes := 1) (e := 5) 16 32 (.tmp 15) (.tmp 15) (z := .int .u8 0) (zx := 0) (enc := (encI .u8)) hn3 (by kernel_rfl) (ev_int (by kernel_rfl) hn1) (ev_int (by kernel_rfl) hn1) (by kernel_rfl) (by kernel_rfl) rfl rfl (by omega) (by omega) rfl (fun A1 => ?_)
    refine o_run 1 [0, 1, 5] (l := []) .nil (E' := [(0, .pointer none), (1, .int .i64 (imin (imax a1 0) 0)), (5, .slice A1 l1.length l1.length)]) (by kernel_rfl) ?_
    refine o_end (by kernel_rfl) ?_
    refine e_seq ?_
    refine w_seq 62 63 (by kernel_rfl) ?_
    cases hm
def rbuf_Buffer_Window_2.f : Option (Int) :=
  (rbuf_Buffer_ok_2.f.bind fun t1 => (some 0))
theorem rbuf_Buffer_Window_2_ok (r : Int) (hm : rbuf_Buffer_Window_2.f = some r) (B G : Asn) (w : World) (hs : St B G [] w) :
    Calls Try.prog 18 #[.pointer none] w (Post (X := Unit) (fun x => .int .i64 r) (fun x => B) G (fun x => []) (fun x => True)) := by
  unfold rbuf_Buffer_Window_2.f at hm
  refine calls_W (F := Try.f18) Try.func18 rfl (by kernel_rfl) (L := []) ?_ hs
  refine w_seq 2 3 (by kernel_rfl) ?_
  refine w_region (by kernel_rfl) ?_
  refine o_run 1 [0] (l := []) .nil (E' := [(0, .pointer none)]) (by kernel_rfl) ?_
  refine o_end (by kernel_rfl) ?_
  refine e_seq ?_
  refine w_seq 6 7 (by kernel_rfl) ?_
  refine w_seq 12 13 (by kernel_rfl) ?_
  refine w_region (by kernel_rfl) ?_
  refine o_run 1 [0, 3] (l := []) .nil (E' := [(0, .pointer none), (3, .pointer none)]) (by kernel_rfl) ?_
  obtain ⟨t1, hx1, hm⟩ := bind_some hm
  obtain rfl : false = t1 := Option.some.inj (show some false = some t1 from hx1)
  refine o_stp ?_ (by kernel_rfl)
  refine s_call 4 27 #[.pointer none] [] [] (by kernel_rfl) (by kernel_rfl) (fun w hs => rbuf_Buffer_ok_2_ok false hx1 B _ w (St.cast (by kernel_rfl) hs)) (fun _ hx => ?_)
  refine t_L (L' := []) (by kernel_rfl) ?_
  refine o_run 1 [0, 5] (l := []) .nil (E' := [(0, .pointer none), (5, .bool true)]) (by kernel_rfl) ?_
  refine o_end (by kernel_rfl) ?_
  refine e_seq ?_
  refine w_cond_t (.tmp 5) 26 27 (by kernel_rfl) (by kernel_rfl) ?_
  refine w_seq 52 53 (by kernel_rfl) ?_
  refine w_region (by kernel_rfl) ?_
  refine o_run 1 [2] (l := []) .nil (E' := [(2, .int .i64 0)]) (by kernel_rfl) ?_
  refine o_end (by kernel_rfl) ?_
  refine e_seq ?_
  refine w_ret (by kernel_rfl) ?_
  obtain rfl := Option.some.inj hm
  exact e_retP () (.int .i64 0) [] (by kernel_rfl) (by kernel_rfl) rfl (by kernel_rfl) (by kernel_rfl) trivial
def rbuf_Buffer_Out_2.f : Option (Int) :=
  (rbuf_Buffer_ok_2.f.bind fun t1 => (some 0))
theorem rbuf_Buffer_Out_2_ok (r : Int) (hm : rbuf_Buffer_Out_2.f = some r) (B G : Asn) (w : World) (hs : St B G [] w) :
    Calls Try.prog 20 #[.pointer none] w (Post (X := Unit) (fun x => .int .i64 r) (fun x => B) G (fun x => []) (fun x => True)) := by
  unfold rbuf_Buffer_Out_2.f at hm
  refine calls_W (F := Try.f20) Try.func20 rfl (by kernel_rfl) (L := []) ?_ hs
  refine w_seq 2 3 (by kernel_rfl) ?_
  refine w_region (by kernel_rfl) ?_
  refine o_run 1 [0] (l := []) .nil (E' := [(0, .pointer none)]) (by kernel_rfl) ?_
  refine o_end (by kernel_rfl) ?_
  refine e_seq ?_
  refine w_seq 6 7 (by kernel_rfl) ?_
  refine w_seq 12 13 (by kernel_rfl) ?_
  refine w_region (by kernel_rfl) ?_
  refine o_run 1 [0, 3] (l := []) .nil (E' := [(0, .pointer none), (3, .pointer none)]) (by kernel_rfl) ?_
  obtain ⟨t1, hx1, hm⟩ := bind_some hm
  obtain rfl : false = t1 := Option.some.inj (show some false = some t1 from hx1)
  refine o_stp ?_ (by kernel_rfl)
  refine s_call 4 27 #[.pointer none] [] [] (by kernel_rfl) (by kernel_rfl) (fun w hs => rbuf_Buffer_ok_2_ok false hx1 B _ w (St.cast (by kernel_rfl) hs)) (fun _ hx => ?_)
  refine t_L (L' := []) (by kernel_rfl) ?_
  refine o_run 1 [0, 5] (l := []) .nil (E' := [(0, .pointer none), (5, .bool true)]) (by kernel_rfl) ?_
  refine o_end (by kernel_rfl) ?_
  refine e_seq ?_
  refine w_cond_t (.tmp 5) 26 27 (by kernel_rfl) (by kernel_rfl) ?_
  refine w_seq 52 53 (by kernel_rfl) ?_
  refine w_region (by kernel_rfl) ?_
  refine o_run 1 [2] (l := []) .nil (E' := [(2, .int .i64 0)]) (by kernel_rfl) ?_
  refine o_end (by kernel_rfl) ?_
  refine e_seq ?_
  refine w_ret (by kernel_rfl) ?_
  obtain rfl := Option.some.inj hm
  exact e_retP () (.int .i64 0) [] (by kernel_rfl) (by kernel_rfl) rfl (by kernel_rfl) (by kernel_rfl) trivial
def rbuf_Buffer_Blocks.f (a1 : Int) : Option ((List T_api_Block)) :=
  (rbuf_Buffer_ok_2.f.bind fun t1 => (some ([] : List T_api_Block)))
theorem rbuf_Buffer_Blocks_ok (a1 : Int) (r : (List T_api_Block)) (hm : rbuf_Buffer_Blocks.f a1 = some r) (B G : Asn) (w : World) (hs : St B G [] w) :
    Calls Try.prog 23 #[.pointer none, .int .i64 a1] w (Post (X := (Option Addr) × Nat) (fun x => .slice x.1 r.length x.2) (fun x => B) G (fun x => []) (fun x => (Sl kT_api_Block B x.1 x.2 r))) := by
  unfold rbuf_Buffer_Blocks.f at hm
  refine calls_W (F := Try.f23) Try.func23 rfl (by kernel_rfl) (L := []) ?_ hs
  refine w_seq 2 3 (by kernel_rfl) ?_
  refine w_region (by kernel_rfl) ?_
  refine o_stp ?_ (by kernel_rfl)
  refine s_new 2 (fun g1 => .pointer (some ⟨g1, 0, none⟩)) [.pointer none] 25 (fun _ => by kernel_rfl) (fun g1 => ?_)
  refine o_run 1 [1, 2] (l := []) .nil (E' := [(1, .int .i64 a1), (2, .pointer (some ⟨g1, 0, none⟩))]) (by kernel_rfl) ?_
  refine o_end (by kernel_rfl) ?_
  refine e_seq ?_
  refine w_seq 6 7 (by kernel_rfl) ?_
  refine w_seq 12 13 (by kernel_rfl) ?_
  refine w_region (by kernel_rfl) ?_
  refine o_run 1 [1, 2, 9] (l := [(⟨g1, 0, none⟩, .pointer none)]) (.one (at_blk (j := 0) rfl rfl) .nil) (E' := [(1, .int .i64 a1), (2, .pointer (some ⟨g1, 0, none⟩)), (9, .pointer none)]) (by kernel_rfl) ?_
  obtain ⟨t1, hx1, hm⟩ := bind_some hm
  obtain rfl : false = t1 := Option.some.inj (show some false = some t1 from hx1)
  refine o_stp ?_ (by kernel_rfl)
  refine s_call 10 27 #[.pointer none] [] [0] (by kernel_rfl) (by kernel_rfl) (fun w hs => rbuf_Buffer_ok_2_ok false hx1 B _ w (St.cast (by kernel_rfl) hs)) (fun _ hx => ?_)
  refine t_L (L' := [.blk g1 [.pointer none] 25]) (by kernel_rfl) ?_
  refine o_run 5 [1, 2, 15] (l := []) .nil (E' := [(1, .int .i64 a1), (2, .pointer (some ⟨g1, 0, none⟩)), (15, .bool true)]) (by kernel_rfl) ?_
  refine o_end (by kernel_rfl) ?_
  refine e_seq ?_
  refine w_cond_t (.tmp 15) 26 27 (by kernel_rfl) (by kernel_rfl) ?_
  refine w_seq 52 53 (by kernel_rfl) ?_
  refine w_region (by kernel_rfl) ?_
  refine o_run 1 [4] (l := []) .nil (E' := [(4, .slice none 0 0)]) (by kernel_rfl) ?_
  refine o_end (by kernel_rfl) ?_
  refine e_seq ?_
  refine w_ret (by kernel_rfl) ?_
  obtain rfl := Option.some.inj hm
  exact e_retP (none, 0) (.slice none ([] : List T_api_Block).length 0) [] (by kernel_rfl) (by kernel_rfl) rfl (by kernel_rfl) (by kernel_rfl) (Sl.nil kT_api_Block B none 0)
def rbuf_Buffer_ok_3.f (a0 : T_rbuf_Buffer_o2) : Option (Bool) :=
  (some false)
theorem rbuf_Buffer_ok_3_ok (a0 : T_rbuf_Buffer_o2) (r : Bool) (hm : rbuf_Buffer_ok_3.f a0 = some r) (B G : Asn) (g1 : Nat) (w : World) (hs : St B G [.blk g1 [.pointer none, .slice none 0 0, .int .i64 a0.xbegin, .int .i64 a0.xn, .int .u32 a0.xlast, .bool a0.xkept] 50] w) :
    Calls Try.prog 27 #[.pointer (some ⟨g1, 0, none⟩)] w (Post (X := Unit) (fun x => .bool r) (fun x => B) G (fun x => [.blk g1 [.pointer none, .slice none 0 0, .int .i64 a0.xbegin, .int .i64 a0.xn, .int .u32 a0.xlast, .bool a0.xkept] 50]) (fun x => True)) := by
  unfold rbuf_Buffer_ok_3.f at hm
  refine calls_W (F := Try.f27) Try.func27 rfl (by kernel_rfl) (L := [.blk g1 [.pointer none, .slice none 0 0, .int .i64 a0.xbegin, .int .i64 a0.xn, .int .u32 a0.xlast, .bool a0.xkept] 50]) ?_ hs
  refine w_seq 2 3 (by kernel_rfl) ?_
  refine w_region (by kernel_rfl) ?_
  refine o_run 1 [0] (l := []) .nil (E' := [(0, .pointer (some ⟨g1, 0, none⟩))]) (by kernel_rfl) ?_
  refine o_end (by kernel_rfl) ?_
  refine e_seq ?_
  refine w_seq 6 7 (by kernel_rfl) ?_
  refine w_region (by kernel_rfl) ?_
  refine o_run 10 [2] (l := [(⟨g1, 0, none⟩, .pointer none)]) (.one (at_blk (j := 0) rfl rfl) .nil) (E' := [(2, .bool false)]) (by kernel_rfl) ?_
  refine o_end (by kernel_rfl) ?_
  refine e_seq ?_
  refine w_ret (by kernel_rfl) ?_
  obtain rfl := Option.some.inj hm
  exact e_retP () (.bool false) [0] (by kernel_rfl) (by kernel_rfl) rfl (by kernel_rfl) (by kernel_rfl) trivial
def rbuf_Buffer_Insert_3.f (a0 : T_rbuf_Buffer_o2) (a1 : Int) (a2 : List Int) : Option (Int) :=
  ((rbuf_Buffer_ok_3.f a0).bind fun t1 => (some 0))
theorem rbuf_Buffer_Insert_3_ok (a0 : T_rbuf_Buffer_o2) (a1 : Int) (a2 : List Int) (r : Int) (hm : rbuf_Buffer_Insert_3.f a0 a1 a2 = some r) (B G : Asn) (g1 : Nat) (A1 : Option Addr) (c1 : Nat) (hs1 : Sl (kI .u8) B A1 c1 a2) (w : World) (hs : St B G [.blk g1 [.pointer none, .slice none 0 0, .int .i64 a0.xbegin, .int .i64 a0.xn, .int .u32 a0.xlast, .bool a0.xkept] 50] w) :
    Calls Try.prog 12 #[.pointer (some ⟨g1, 0, none⟩), .int .u32 a1, .slice A1 a2.length c1] w (Post (X := Unit) (fun x => .int .i64 r) (fun x => B) G (fun x => [.blk g1 [.pointer none, .slice none 0 0, .int .i64 a0.xbegin, .int .i64 a0.xn, .int .u32 a0.xlast, .bool a0.xkept] 50]) (fun x => True)) := by
  unfold rbuf_Buffer_Insert_3.f at hm
  refine calls_W (F := Try.f12) Try.func12 rfl (by kernel_rfl) (L := [.blk g1 [.pointer none, .slice none 0 0, .int .i64 a0.xbegin, .int .i64 a0.xn, .int .u32 a0.xlast, .bool a0.xkept] 50]) ?_ hs
  refine w_seq 2 3 (by kernel_rfl) ?_
  refine w_region (by kernel_rfl) ?_
  refine o_run 1 [0, 1, 2] (l := []) .nil (E' := [(0, .pointer (some ⟨g1, 0, none⟩)), (1, .int .u32 a1), (2, .slice A1 a2.length c1)]) (by kernel_rfl) ?_
  refine o_end (by kernel_rfl) ?_
  refine e_seq ?_
  refine w_seq 6 7 (by kernel_rfl) ?_
  refine w_seq 12 13 (by kernel_rfl) ?_
  refine w_region (by kernel_rfl) ?_
  refine o_run 1 [0, 1, 2, 13] (l := []) .nil (E' := [(0, .pointer (some ⟨g1, 0, none⟩)), (1, .int .u32 a1), (2, .slice A1 a2.length c1), (13, .pointer (some ⟨g1, 0, none⟩))]) (by kernel_rfl) ?_
  obtain ⟨t1, hx1, hm⟩ := bind_some hm
  obtain rfl : false = t1 := Option.some.inj (show some false = some t1 from hx1)
  refine o_stp ?_ (by kernel_rfl)
  refine s_call 14 27 #[.pointer (some ⟨g1, 0, none⟩)] [0] [] (by kernel_rfl) (by kernel_rfl) (fun w hs => rbuf_Buffer_ok_3_ok a0 false hx1 B _ g1 w (St.cast (by kernel_rfl) hs)) (fun _ hx => ?_)
  refine t_L (L' := [.blk g1 [.pointer none, .slice none 0 0, .int .i64 a0.xbegin, .int .i64 a0.xn, .int .u32 a0.xlast, .bool a0.xkept] 50]) (by kernel_rfl) ?_
  refine o_run 1 [0, 1, 2, 15] (l := []) .nil (E' := [(0, .pointer (some ⟨g1, 0, none⟩)), (1, .int .u32 a1), (2, .slice A1 a2.length c1), (15, .bool true)]) (by kernel_rfl) ?_
  refine o_end (by kernel_rfl) ?_
  refine e_seq ?_
  refine w_cond_t (.tmp 15) 26 27 (by kernel_rfl) (by kernel_rfl) ?_
  refine w_seq 52 53 (by kernel_rfl) ?_
  refine w_region (by kernel_rfl) ?_
  refine o_run 1 [6] (l := []) .nil (E' := [(6, .int .i64 0)]) (by kernel_rfl) ?_
  refine o_end (by kernel_rfl) ?_
  refine e_seq ?_
  refine w_ret (by kernel_rfl) ?_
  obtain rfl := Option.some.inj hm
  exact e_retP () (.int .i64 0) [0] (by kernel_rfl) (by kernel_rfl) rfl (by kernel_rfl) (by kernel_rfl) trivial
def rbuf_Buffer_Len_3.f (a0 : T_rbuf_Buffer_o2) : Option (Int) :=
  ((rbuf_Buffer_ok_3.f a0).bind fun t1 => (some 0))
theorem rbuf_Buffer_Len_3_ok (a0 : T_rbuf_Buffer_o2) (r : Int) (hm : rbuf_Buffer_Len_3.f a0 = some r) (B G : Asn) (g1 : Nat) (w : World) (hs : St B G [.blk g1 [.pointer none, .slice none 0 0, .int .i64 a0.xbegin, .int .i64 a0.xn, .int .u32 a0.xlast, .bool a0.xkept] 50] w) :
    Calls Try.prog 14 #[.pointer (some ⟨g1, 0, none⟩)] w (Post (X := Unit) (fun x => .int .i64 r) (fun x => B) G (fun x => [.blk g1 [.pointer none, .slice none 0 0, .int .i64 a0.xbegin, .int .i64 a0.xn, .int .u32 a0.xlast, .bool a0.xkept] 50]) (fun x => True)) := by
  unfold rbuf_Buffer_Len_3.f at hm
  refine calls_W (F := Try.f14) Try.func14 rfl (by kernel_rfl) (L := [.blk g1 [.pointer none, .slice none 0 0, .int .i64 a0.xbegin, .int .i64 a0.xn, .int .u32 a0.xlast, .bool a0.xkept] 50]) ?_ hs
  refine w_seq 2 3 (by kernel_rfl) ?_
  refine w_region (by kernel_rfl) ?_
  refine o_run 1 [0] (l := []) .nil (E' := [(0, .pointer (some ⟨g1, 0, none⟩))]) (by kernel_rfl) ?_
  refine o_end (by kernel_rfl) ?_
  refine e_seq ?_
  refine w_seq 6 7 (by kernel_rfl) ?_
  refine w_seq 12 13 (by kernel_rfl) ?_
  refine w_region (by kernel_rfl) ?_
  refine o_run 1 [0, 3] (l := []) .nil (E' := [(0, .pointer (some ⟨g1, 0, none⟩)), (3, .pointer (some ⟨g1, 0, none⟩))]) (by kernel_rfl) ?_
  obtain ⟨t1, hx1, hm⟩ := bind_some hm
  obtain rfl : false = t1 := Option.some.inj (show some false = some t1 from hx1)
  refine o_stp ?_ (by kernel_rfl)
  refine s_call 4 27 #[.pointer (some ⟨g1, 0, none⟩)] [0] [] (by kernel_rfl) (by kernel_rfl) (fun w hs => rbuf_Buffer_ok_3_ok a0 false hx1 B _ g1 w (St.cast (by kernel_rfl) hs)) (fun _ hx => ?_)
  refine t_L (L' := [.blk g1 [.pointer none, .slice none 0 0, .int .i64 a0.xbegin, .int .i64 a0.xn, .int .u32 a0.xlast, .bool a0.xkept] 50]) (by kernel_rfl) ?_
  refine o_run 1 [0, 5] (l := []) .nil (E' := [(0, .pointer (some ⟨g1, 0, none⟩)), (5, .bool true)]) (by kernel_rfl) ?_
  refine o_end (by kernel_rfl) ?_
  refine e_seq ?_
  refine w_cond_t (.tmp 5) 26 27 (by kernel_rfl) (by kernel_rfl) ?_
  refine w_seq 52 53 (by kernel_rfl) ?_
  refine w_region (by kernel_rfl) ?_
  refine o_run 1 [2] (l := []) .nil (E' := [(2, .int .i64 0)]) (by kernel_rfl) ?_
  refine o_end (by kernel_rfl) ?_
  refine e_seq ?_
  refine w_ret (by kernel_rfl) ?_
  obtain rfl := Option.some.inj hm
  exact e_retP () (.int .i64 0) [0] (by kernel_rfl) (by kernel_rfl) rfl (by kernel_rfl) (by kernel_rfl) trivial
def rbuf_Buffer_Next_3.f (a0 : T_rbuf_Buffer_o2) : Option (Int) :=
  ((rbuf_Buffer_ok_3.f a0).bind fun t1 => (some 0))
theorem rbuf_Buffer_Next_3_ok (a0 : T_rbuf_Buffer_o2) (r : Int) (hm : rbuf_Buffer_Next_3.f a0 = some r) (B G : Asn) (g1 : Nat) (w : World) (hs : St B G [.blk g1 [.pointer none, .slice none 0 0, .int .i64 a0.xbegin, .int .i64 a0.xn, .int .u32 a0.xlast, .bool a0.xkept] 50] w) :
    Calls Try.prog 13 #[.pointer (some ⟨g1, 0, none⟩)] w (Post (X := Unit) (fun x => .int .u32 r) (fun x => B) G (fun x => [.blk g1 [.pointer none, .slice none 0 0, .int .i64 a0.xbegin, .int .i64 a0.xn, .int .u32 a0.xlast, .bool a0.xkept] 50]) (fun x => True)) := by
  unfold rbuf_Buffer_Next_3.f at hm
  refine calls_W (F := Try.f13) Try.func13 rfl (by kernel_rfl) (L := [.blk g1 [.pointer none, .slice none 0 0, .int .i64 a0.xbegin, .int .i64 a0.xn, .int .u32 a0.xlast, .bool a0.xkept] 50]) ?_ hs
  refine w_seq 2 3 (by kernel_rfl) ?_
  refine w_region (by kernel_rfl) ?_
  refine o_run 1 [0] (l := []) .nil (E' := [(0, .pointer (some ⟨g1, 0, none⟩))]) (by kernel_rfl) ?_
  refine o_end (by kernel_rfl) ?_
  refine e_seq ?_
  refine w_seq 6 7 (by kernel_rfl) ?_
  refine w_seq 12 13 (by kernel_rfl) ?_
  refine w_region (by kernel_rfl) ?_
  refine o_run 1 [0, 3] (l := []) .nil (E' := [(0, .pointer (some ⟨g1, 0, none⟩)), (3, .pointer (some ⟨g1, 0, none⟩))]) (by kernel_rfl) ?_
  obtain ⟨t1, hx1, hm⟩ := bind_some hm
  obtain rfl : false = t1 := Option.some.inj (show some false = some t1 from hx1)
  refine o_stp ?_ (by kernel_rfl)
  refine s_call 4 27 #[.pointer (some ⟨g1, 0, none⟩)] [0] [] (by kernel_rfl) (by kernel_rfl) (fun w hs => rbuf_Buffer_ok_3_ok a0 false hx1 B _ g1 w (St.cast (by kernel_rfl) hs)) (fun _ hx => ?_)
  refine t_L (L' := [.blk g1 [.pointer none, .slice none 0 0, .int .i64 a0.xbegin, .int .i64 a0.xn, .int .u32 a0.xlast, .bool a0.xkept] 50]) (by kernel_rfl) ?_
  refine o_run 1 [0, 5] (l := []) .nil (E' := [(0, .pointer (some ⟨g1, 0, none⟩)), (5, .bool true)]) (by kernel_rfl) ?_
  refine o_end (by kernel_rfl) ?_
  refine e_seq ?_
  refine w_cond_t (.tmp 5) 26 27 (by kernel_rfl) (by kernel_rfl) ?_
  refine w_seq 52 53 (by kernel_rfl) ?_
  refine w_region (by kernel_rfl) ?_
  refine o_run 1 [2] (l := []) .nil (E' := [(2, .int .u32 0)]) (by kernel_rfl) ?_
  refine o_end (by kernel_rfl) ?_
  refine e_seq ?_
  refine w_ret (by kernel_rfl) ?_
  obtain rfl := Option.some.inj hm
  exact e_retP () (.int .u32 0) [0] (by kernel_rfl) (by kernel_rfl) rfl (by kernel_rfl) (by kernel_rfl) trivial
def rbuf_Buffer_Read_3.l1 : Nat → (List Int) → Option (Unit)
  | 0, _ => none
  | k + 1, l1 => (if decide (0 < (l1.length : Int)) then none else (some ()))
def rbuf_Buffer_Read_3.f (k : Nat) (a0 : T_rbuf_Buffer_o2) (a1 : Int) : Option ((List Int)) :=
  ((rbuf_Buffer_Len_3.f a0).bind fun t1 => (if (imin (imax a1 0) 0) == 0 then (some ([] : List Int)) else ((mk (imin (imax a1 0) 0) (0 : Int)).bind fun l1 => ((rbuf_Buffer_Next_3.f a0).bind fun t2 => ((rbuf_Buffer_Read_3.l1 k l1).bind fun t3 => none)))))
theorem rbuf_Buffer_Read_3_ok (k : Nat) (a0 : T_rbuf_Buffer_o2) (a1 : Int) (r : (List Int)) (hm : rbuf_Buffer_Read_3.f k a0 a1 = some r) (B G : Asn) (g1 : Nat) (w : World) (hs : St B G [.blk g1 [.pointer none, .slice none 0 0, .int .i64 a0.xbegin, .int .i64 a0.xn, .int .u32 a0.xlast, .bool a0.xkept] 50] w) :
    Calls Try.prog 11 #[.pointer (some ⟨g1, 0, none⟩), .int .i64 a1] w (Post (X := (Option Addr) × Nat) (fun x => .slice x.1 r.length x.2) (fun x => B) G (fun x => [.blk g1 [.pointer none, .slice none 0 0, .int .i64 a0.xbegin, .int .i64 a0.xn, .int .u32 a0.xlast, .bool a0.xkept] 50]) (fun x => (Sl (kI .u8) B x.1 x.2 r))) := by
  unfold rbuf_Buffer_Read_3.f at hm
  refine calls_W (F := Try.f11) Try.func11 rfl (by kernel_rfl) (L := [.blk g1 [.pointer none, .slice none 0 0, .int .i64 a0.xbegin, .int .i64 a0.xn, .int .u32 a0.xlast, .bool a0.xkept] 50]) ?_ hs
  refine w_seq 2 3 (by kernel_rfl) ?_
  refine w_region (by kernel_rfl) ?_
  refine o_run 1 [0, 1] (l := []) .nil (E' := [(0, .pointer (some ⟨g1, 0, none⟩)), (1, .int .i64 a1)]) (by kernel_rfl) ?_
  refine o_end (by kernel_rfl) ?_
  refine e_seq ?_
  refine w_seq 6 7 (by kernel_rfl) ?_
  refine w_region (by kernel_rfl) ?_
  refine o_run 3 [0, 9, 10] (l := []) .nil (E' := [(0, .pointer (some ⟨g1, 0, none⟩)), (9, .int .i64 (imax a1 0)), (10, .pointer (some ⟨g1, 0, none⟩))]) (by kernel_rfl) ?_
  obtain ⟨t1, hx1, hm⟩ := bind_some hm
  obtain rfl : 0 = t1 := Option.some.inj (show some 0 = some t1 from hx1)
  refine o_stp ?_ (by kernel_rfl)
  refine s_call 11 14 #[.pointer (some ⟨g1, 0, none⟩)] [0] [] (by kernel_rfl) (by kernel_rfl) (fun w hs => rbuf_Buffer_Len_3_ok a0 0 hx1 B _ g1 w (St.cast (by kernel_rfl) hs)) (fun _ hx => ?_)
  refine t_L (L' := [.blk g1 [.pointer none, .slice none 0 0, .int .i64 a0.xbegin, .int .i64 a0.xn, .int .u32 a0.xlast, .bool a0.xkept] 50]) (by kernel_rfl) ?_
  refine o_run 2 [0, 1] (l := []) .nil (E' := [(0, .pointer (some ⟨g1, 0, none⟩)), (1, .int .i64 (imin (imax a1 0) 0))]) (by kernel_rfl) ?_
  refine o_end (by kernel_rfl) ?_
  refine e_seq ?_
  refine w_seq 14 15 (by kernel_rfl) ?_
  refine w_seq 28 29 (by kernel_rfl) ?_
  refine w_region (by kernel_rfl) ?_
  refine o_run 2 [0, 1, 14] (l := []) .nil (E' := [(0, .pointer (some ⟨g1, 0, none⟩)), (1, .int .i64 (imin (imax a1 0) 0)), (14, .bool ((imin (imax a1 0) 0) == 0))]) (by kernel_rfl) ?_
  refine o_end (by kernel_rfl) ?_
  refine e_seq ?_
  refine w_cond (.tmp 14) 58 59 ((imin (imax a1 0) 0) == 0) (by kernel_rfl) (by kernel_rfl) (fun hb1 => ?_) (fun hb1 => ?_)
  · replace hm := ite_t hb1 hm
    refine w_seq 116 117 (by kernel_rfl) ?_
    refine w_region (by kernel_rfl) ?_
    refine o_run 1 [4] (l := []) .nil (E' := [(4, .slice none 0 0)]) (by kernel_rfl) ?_
    refine o_end (by kernel_rfl) ?_
    refine e_seq ?_
    refine w_ret (by kernel_rfl) ?_
    obtain rfl := Option.some.inj hm
    exact e_retP (none, 0) (.slice none ([] : List Int).length 0) [0] (by kernel_rfl) (by kernel_rfl) rfl (by kernel_rfl) (by kernel_rfl) (Sl.nil (kI .u8) B none 0)
  · replace hm := ite_f hb1 hm
    refine w_skip (by kernel_rfl) ?_
    refine e_seq ?_
    refine w_seq 30 31 (by kernel_rfl) ?_
    refine w_region (by kernel_rfl) ?_
    refine o_run 1 [0, 1, 15] (l := []) .nil (E' := [(0, .pointer (some ⟨g1, 0, none⟩)), (1, .int .i64 (imin (imax a1 0) 0)), (15, .int .i64 (imin (imax a1 0) 0))]) (by kernel_rfl) ?_
    obtain ⟨l1, hx2, hm⟩ := bind_some hm
    obtain ⟨n1, hn1, hn2, hn3⟩ := mk_some hx2
    refine o_stp ?_ (by kernel_rfl)
    refine s_make (α := Int) (kl := .i64) (kc := .i64) (bytes := 1) (e := 5) 16 32 (.tmp 15) (.tmp 15) (z := .int .u8 0) (zx := 0) (enc := (encI .u8)) hn3 (by kernel_rfl) (ev_int (by kernel_rfl) hn1) (ev_int (by kernel_rfl) hn1) (by kernel_rfl) (by kernel_rfl) rfl rfl (by omega) (by omega) rfl (fun A1 => ?_)
    refine o_run 1 [0, 1, 5] (l := []) .nil (E' := [(0, .pointer (some ⟨g1, 0, none⟩)), (1, .int .i64 (imin (imax a1 0) 0)), (5, .slice A1 l1.length l1.length)]) (by kernel_rfl) ?_
    refine o_end (by kernel_rfl) ?_
    refine e_seq ?_
    refine w_seq 62 63 (by kernel_rfl) ?_
    obtain ⟨t2, hx3, hm⟩ := bind_some hm
    refine w_tail 7 [.own A1 l1.length l1.length (rowOf (encI .u8) l1) 1 5, .blk g1 [.pointer none, .slice none 0 0, .int .i64 a0.xbegin, .int .i64 a0.xn, .int .u32 a0.xlast, .bool a0.xkept] 50] (by kernel_rfl) mixed (by kernel_rfl) ?_
    refine tt_run [0, 2, 3, 4, 5, 6] [0, 1, 5, 17, 23] [0, 1] 1 (listed' := #[true, false, true, true, true, true, true, false, false]) (l := [(⟨g1, 3, none⟩, .int .i64 a0.xn)]) (.one (at_blk (j := 1) rfl rfl) .nil) (E' := [(0, .pointer (some ⟨g1, 0, none⟩)), (1, .int .i64 (imin (imax a1 0) 0)), (5, .slice A1 l1.length l1.length), (17, .pointer (some ⟨g1, 0, none⟩)), (23, .int .u32 (U32 a0.xn))]) (by kernel_rfl) (by kernel_rfl) (by kernel_rfl) (Ext.refl _) (by kernel_rfl) (by kernel_rfl) ?_
    refine tt_call 1 18 13 #[.pointer (some ⟨g1, 0, none⟩)] (.int .u32 t2) [1] [0, 1] (by kernel_rfl) (by kernel_rfl) (by kernel_rfl) (fun B' hx' G' w hs => post_same (rbuf_Buffer_Next_3_ok a0 t2 hx3 _ _ g1 w (St.cast (by kernel_rfl) hs))) (by kernel_rfl) (Ext.refl _) (by kernel_rfl) (by kernel_rfl) ?_
    refine tt_end [0, 1] (Ext.refl _) (by kernel_rfl) (by kernel_rfl) (by kernel_rfl) ?_
    refine o_run 2 [0, 1, 5, 6] (l := []) .nil (E' := [(0, .pointer (some ⟨g1, 0, none⟩)), (1, .int .i64 (imin (imax a1 0) 0)), (5, .slice A1 l1.length l1.length), (6, .int .u32 (U32 (t2 - (U32 a0.xn))))]) (by kernel_rfl) ?_
    refine o_end (by kernel_rfl) ?_
    refine e_seq ?_
    refine w_seq 126 127 (by kernel_rfl) ?_
    refine w_seq 252 253 (by kernel_rfl) ?_
    refine w_region (by kernel_rfl) ?_
    refine o_run 3 [0, 1, 5, 6, 26, 27] (l := []) .nil (E' := [(0, .pointer (some ⟨g1, 0, none⟩)), (1, .int .i64 (imin (imax a1 0) 0)), (5, .slice A1 l1.length l1.length), (6, .int .u32 (U32 (t2 - (U32 a0.xn)))), (26, .int .i64 (l1.length : Int)), (27, .int .i64 0)]) (by kernel_rfl) ?_
    refine o_end (by kernel_rfl) ?_
    refine e_seq ?_
    refine w_block 0 506 (by kernel_rfl) ?_
    obtain ⟨t3, ht1, ho1⟩ := bind_some hm
    refine t_env [0, 1, 5, 6, 26, 27] (E' := [(0, .pointer (some ⟨g1, 0, none⟩)), (1, .int .i64 (imin (imax a1 0) 0)), (5, .slice A1 l1.length l1.length), (6, .int .u32 (U32 (t2 - (U32 a0.xn)))), (26, .int .i64 (l1.length : Int)), (27, .int .i64 0)]) (by kernel_rfl) ?_
    refine w_loopJ 1012 0 (fun k a w => rbuf_Buffer_Read_3.l1 k l1 = some t3 ∧ EnvOk [(0, .pointer (some ⟨g1, 0, none⟩)), (1, .int .i64 (imin (imax a1 0) 0)), (5, .slice A1 l1.length l1.length), (6, .int .u32 (U32 (t2 - (U32 a0.xn)))), (26, .int .i64 (l1.length : Int)), (27, .int .i64 0)] Try.f11.ntmps a ∧ St B G [.own A1 l1.length l1.length (rowOf (encI .u8) l1) 1 5, .blk g1 [.pointer none, .slice none 0 0, .int .i64 a0.xbegin, .int .i64 a0.xn, .int .u32 a0.xlast, .bool a0.xkept] 50] w) (fun a w => EnvOk [(0, .pointer (some ⟨g1, 0, none⟩)), (1, .int .i64 (imin (imax a1 0) 0)), (5, .slice A1 l1.length l1.length)] Try.f11.ntmps a ∧ St B G [.own A1 l1.length l1.length (rowOf (encI .u8) l1) 1 5, .blk g1 [.pointer none, .slice none 0 0, .int .i64 a0.xbegin, .int .i64 a0.xn, .int .u32 a0.xlast, .bool a0.xkept] 50] w) (by kernel_rfl) ?_ ?_ k ?_
    · rintro a w ⟨ha, hw⟩
      refine we_of (E := [(0, .pointer (some ⟨g1, 0, none⟩)), (1, .int .i64 (imin (imax a1 0) 0)), (5, .slice A1 l1.length l1.length)]) (B := B) (G := G) (L := [.own A1 l1.length l1.length (rowOf (encI .u8) l1) 1 5, .blk g1 [.pointer none, .slice none 0 0, .int .i64 a0.xbegin, .int .i64 a0.xn, .int .u32 a0.xlast, .bool a0.xkept] 50]) ?_ ha hw
      have hm := ho1
      refine e_seq ?_
      refine w_seq 254 255 (by kernel_rfl) ?_
      refine w_region (by kernel_rfl) ?_
      refine o_run 8 [0, 1, 5, 47, 49] (l := [(⟨g1, 3, none⟩, .int .i64 a0.xn)]) (.one (at_blk (j := 1) rfl rfl) .nil) (E' := [(0, .pointer (some ⟨g1, 0, none⟩)), (1, .int .i64 (imin (imax a1 0) 0)), (5, .slice A1 l1.length l1.length), (47, .int .i64 (I64 (a0.xn - (imin (imax a1 0) 0)))), (49, .pointer (some ⟨g1, 3, none⟩))]) (by kernel_rfl) ?_
      refine o_stp ?_ (by kernel_rfl)
      refine s_store 1 g1 [.pointer none, .slice none 0 0, .int .i64 a0.xbegin, .int .i64 a0.xn, .int .u32 a0.xlast, .bool a0.xkept] 50 [(3, .int .i64 (I64 (a0.xn - (imin (imax a1 0) 0))))] (by kernel_rfl) (by kernel_rfl) (by kernel_rfl) ?_
      refine t_L (L' := [.own A1 l1.length l1.length (rowOf (encI .u8) l1) 1 5, .blk g1 [.pointer none, .slice none 0 0, .int .i64 a0.xbegin, .int .i64 (I64 (a0.xn - (imin (imax a1 0) 0))), .int .u32 a0.xlast, .bool a0.xkept] 50]) (by kernel_rfl) ?_
      refine o_end (by kernel_rfl) ?_
      refine e_seq ?_
      refine w_seq 510 511 (by kernel_rfl) ?_
      cases hm
    · rintro k a w ⟨hm, ha, hw⟩
      cases k with
      | zero => exact absurd hm (by simp [rbuf_Buffer_Read_3.l1])
      | succ k =>
        unfold rbuf_Buffer_Read_3.l1 at hm
        refine wc_of (E := [(0, .pointer (some ⟨g1, 0, none⟩)), (1, .int .i64 (imin (imax a1 0) 0)), (5, .slice A1 l1.length l1.length), (6, .int .u32 (U32 (t2 - (U32 a0.xn)))), (26, .int .i64 (l1.length : Int)), (27, .int .i64 0)]) (B := B) (G := G) (L := [.own A1 l1.length l1.length (rowOf (encI .u8) l1) 1 5, .blk g1 [.pointer none, .slice none 0 0, .int .i64 a0.xbegin, .int .i64 a0.xn, .int .u32 a0.xlast, .bool a0.xkept] 50]) ?_ ha hw
        refine w_seq 2024 2025 (by kernel_rfl) ?_
        refine w_region (by kernel_rfl) ?_
        refine o_run 1 [0, 1, 5, 6, 26, 27, 28] (l := []) .nil (E' := [(0, .pointer (some ⟨g1, 0, none⟩)), (1, .int .i64 (imin (imax a1 0) 0)), (5, .slice A1 l1.length l1.length), (6, .int .u32 (U32 (t2 - (U32 a0.xn)))), (26, .int .i64 (l1.length : Int)), (27, .int .i64 0), (28, .bool (decide (0 < (l1.length : Int))))]) (by kernel_rfl) ?_
        refine o_end (by kernel_rfl) ?_
        refine e_seq ?_
        refine w_seq 4050 4051 (by kernel_rfl) ?_
        refine w_cond (.tmp 28) 8100 8101 (decide (0 < (l1.length : Int))) (by kernel_rfl) (by kernel_rfl) (fun hb2 => ?_) (fun hb2 => ?_)
        · replace hm := ite_t hb2 hm
          refine w_skip (by kernel_rfl) ?_
          refine e_seq ?_
          refine w_seq 8102 8103 (by kernel_rfl) ?_
          refine w_block 1 16204 (by kernel_rfl) ?_
          refine w_seq 32408 32409 (by kernel_rfl) ?_
          refine w_region (by kernel_rfl) ?_
          refine o_run 2 [0, 1, 5, 6, 7, 26, 27] (l := []) .nil (E' := [(0, .pointer (some ⟨g1, 0, none⟩)), (1, .int .i64 (imin (imax a1 0) 0)), (5, .slice A1 l1.length l1.length), (6, .int .u32 (U32 (t2 - (U32 a0.xn)))), (7, .int .i64 0), (26, .int .i64 (l1.length : Int)), (27, .int .i64 0)]) (by kernel_rfl) ?_
          refine o_end (by kernel_rfl) ?_
          refine e_seq ?_
          refine w_region (by kernel_rfl) ?_
          refine o_run 7 [0, 1, 5, 6, 26, 27, 30, 31, 32, 36] (l := []) .nil (E' := [(0, .pointer (some ⟨g1, 0, none⟩)), (1, .int .i64 (imin (imax a1 0) 0)), (5, .slice A1 l1.length l1.length), (6, .int .u32 (U32 (t2 - (U32 a0.xn)))), (26, .int .i64 (l1.length : Int)), (27, .int .i64 0), (30, .slice A1 l1.length l1.length), (31, .int .i64 0), (32, .pointer (some ⟨g1, 0, none⟩)), (36, .int .u32 (U32 ((U32 (t2 - (U32 a0.xn))) + (U32 0))))]) (by kernel_rfl) ?_
          cases hm
        · replace hm := ite_f hb2 hm
          refine w_exit 0 (by kernel_rfl) ?_
          refine e_x_seq ?_
          refine e_x_inv ?_
          refine e_x_here ?_
          refine t_drop [0, 1] (by kernel_rfl) ?_
          refine t_L (L' := [.own A1 l1.length l1.length (rowOf (encI .u8) l1) 1 5, .blk g1 [.pointer none, .slice none 0 0, .int .i64 a0.xbegin, .int .i64 a0.xn, .int .u32 a0.xlast, .bool a0.xkept] 50]) (by kernel_rfl) ?_
          refine t_env [0, 1, 5] (E' := [(0, .pointer (some ⟨g1, 0, none⟩)), (1, .int .i64 (imin (imax a1 0) 0)), (5, .slice A1 l1.length l1.length)]) (by kernel_rfl) ?_
          obtain rfl := Option.some.inj hm
          exact e_inv (fun a w ha hw => ⟨ha, hw⟩)
    · exact fun a w ha hw => ⟨ht1, ha, hw⟩
def rbuf_Buffer_Window_3.f (a0 : T_rbuf_Buffer_o2) : Option (Int) :=
  ((rbuf_Buffer_ok_3.f a0).bind fun t1 => (some 0))
theorem rbuf_Buffer_Window_3_ok (a0 : T_rbuf_Buffer_o2) (r : Int) (hm : rbuf_Buffer_Window_3.f a0 = some r) (B G : Asn) (g1 : Nat) (w : World) (hs : St B G [.blk g1 [.pointer none, .slice none 0 0, .int .i64 a0.xbegin, .int .i64 a0.xn, .int .u32 a0.xlast, .bool a0.xkept] 50] w) :
    Calls Try.prog 18 #[.pointer (some ⟨g1, 0, none⟩)] w (Post (X := Unit) (fun x => .int .i64 r) (fun x => B) G (fun x => [.blk g1 [.pointer none, .slice none 0 0, .int .i64 a0.xbegin, .int .i64 a0.xn, .int .u32 a0.xlast, .bool a0.xkept] 50]) (fun x => True)) := by
  unfold rbuf_Buffer_Window_3.f at hm
  refine calls_W (F := Try.f18) Try.func18 rfl (by kernel_rfl) (L := [.blk g1 [.pointer none, .slice none 0 0, .int .i64 a0.xbegin, .int .i64 a0.xn, .int .u32 a0.xlast, .bool a0.xkept] 50]) ?_ hs
  refine w_seq 2 3 (by kernel_rfl) ?_
  refine w_region (by kernel_rfl) ?_
  refine o_run 1 [0] (l := []) .nil (E' := [(0, .pointer (some ⟨g1, 0, none⟩))]) (by kernel_rfl) ?_
  refine o_end (by kernel_rfl) ?_
  refine e_seq ?_
  refine w_seq 6 7 (by kernel_rfl) ?_
  refine w_seq 12 13 (by kernel_rfl) ?_
  refine w_region (by kernel_rfl) ?_
  refine o_run 1 [0, 3] (l := []) .nil (E' := [(0, .pointer (some ⟨g1, 0, none⟩)), (3, .pointer (some ⟨g1, 0, none⟩))]) (by kernel_rfl) ?_
  obtain ⟨t1, hx1, hm⟩ := bind_some hm
  obtain rfl : false = t1 := Option.some.inj (show some false = some t1 from hx1)
  refine o_stp ?_ (by kernel_rfl)
  refine s_call 4 27 #[.pointer (some ⟨g1, 0, none⟩)] [0] [] (by kernel_rfl) (by kernel_rfl) (fun w hs => rbuf_Buffer_ok_3_ok a0 false hx1 B _ g1 w (St.cast (by kernel_rfl) hs)) (fun _ hx => ?_)
  refine t_L (L' := [.blk g1 [.pointer none, .slice none 0 0, .int .i64 a0.xbegin, .int .i64 a0.xn, .int .u32 a0.xlast, .bool a0.xkept] 50]) (by kernel_rfl) ?_
  refine o_run 1 [0, 5] (l := []) .nil (E' := [(0, .pointer (some ⟨g1, 0, none⟩)), (5, .bool true)]) (by kernel_rfl) ?_
  refine o_end (by kernel_rfl) ?_
  refine e_seq ?_
  refine w_cond_t (.tmp 5) 26 27 (by kernel_rfl) (by kernel_rfl) ?_
  refine w_seq 52 53 (by kernel_rfl) ?_
  refine w_region (by kernel_rfl) ?_
  refine o_run 1 [2] (l := []) .nil (E' := [(2, .int .i64 0)]) (by kernel_rfl) ?_
  refine o_end (by kernel_rfl) ?_
  refine e_seq ?_
  refine w_ret (by kernel_rfl) ?_
  obtain rfl := Option.some.inj hm
  exact e_retP () (.int .i64 0) [0] (by kernel_rfl) (by kernel_rfl) rfl (by kernel_rfl) (by kernel_rfl) trivial
def rbuf_Buffer_Out_3.f (a0 : T_rbuf_Buffer_o2) : Option (Int) :=
  ((rbuf_Buffer_ok_3.f a0).bind fun t1 => (some 0))
theorem rbuf_Buffer_Out_3_ok (a0 : T_rbuf_Buffer_o2) (r : Int) (hm : rbuf_Buffer_Out_3.f a0 = some r) (B G : Asn) (g1 : Nat) (w : World) (hs : St B G [.blk g1 [.pointer none, .slice none 0 0, .int .i64 a0.xbegin, .int .i64 a0.xn, .int .u32 a0.xlast, .bool a0.xkept] 50] w) :
    Calls Try.prog 20 #[.pointer (some ⟨g1, 0, none⟩)] w (Post (X := Unit) (fun x => .int .i64 r) (fun x => B) G (fun x => [.blk g1 [.pointer none, .slice none 0 0, .int .i64 a0.xbegin, .int .i64 a0.xn, .int .u32 a0.xlast, .bool a0.xkept] 50]) (fun x => True)) := by
  unfold rbuf_Buffer_Out_3.f at hm
  refine calls_W (F := Try.f20) Try.func20 rfl (by kernel_rfl) (L := [.blk g1 [.pointer none, .slice none 0 0, .int .i64 a0.xbegin, .int .i64 a0.xn, .int .u32 a0.xlast, .bool a0.xkept] 50]) ?_ hs
  refine w_seq 2 3 (by kernel_rfl) ?_
  refine w_region (by kernel_rfl) ?_
  refine o_run 1 [0] (l := []) .nil (E' := [(0, .pointer (some ⟨g1, 0, none⟩))]) (by kernel_rfl) ?_
  refine o_end (by kernel_rfl) ?_
  refine e_seq ?_
  refine w_seq 6 7 (by kernel_rfl) ?_
  refine w_seq 12 13 (by kernel_rfl) ?_
  refine w_region (by kernel_rfl) ?_
  refine o_run 1 [0, 3] (l := []) .nil (E' := [(0, .pointer (some ⟨g1, 0, none⟩)), (3, .pointer (some ⟨g1, 0, none⟩))]) (by kernel_rfl) ?_
  obtain ⟨t1, hx1, hm⟩ := bind_some hm
  obtain rfl : false = t1 := Option.some.inj (show some false = some t1 from hx1)
  refine o_stp ?_ (by kernel_rfl)
  refine s_call 4 27 #[.pointer (some ⟨g1, 0, none⟩)] [0] [] (by kernel_rfl) (by kernel_rfl) (fun w hs => rbuf_Buffer_ok_3_ok a0 false hx1 B _ g1 w (St.cast (by kernel_rfl) hs)) (fun _ hx => ?_)
  refine t_L (L' := [.blk g1 [.pointer none, .slice none 0 0, .int .i64 a0.xbegin, .int .i64 a0.xn, .int .u32 a0.xlast, .bool a0.xkept] 50]) (by kernel_rfl) ?_
  refine o_run 1 [0, 5] (l := []) .nil (E' := [(0, .pointer (some ⟨g1, 0, none⟩)), (5, .bool true)]) (by kernel_rfl) ?_
  refine o_end (by kernel_rfl) ?_
  refine e_seq ?_
  refine w_cond_t (.tmp 5) 26 27 (by kernel_rfl) (by kernel_rfl) ?_
  refine w_seq 52 53 (by kernel_rfl) ?_
  refine w_region (by kernel_rfl) ?_
  refine o_run 1 [2] (l := []) .nil (E' := [(2, .int .i64 0)]) (by kernel_rfl) ?_
  refine o_end (by kernel_rfl) ?_
  refine e_seq ?_
  refine w_ret (by kernel_rfl) ?_
  obtain rfl := Option.some.inj hm
  exact e_retP () (.int .i64 0) [0] (by kernel_rfl) (by kernel_rfl) rfl (by kernel_rfl) (by kernel_rfl) trivial
def rbuf_Buffer_Blocks_2.f (a0 : T_rbuf_Buffer_o2) (a1 : Int) : Option ((List T_api_Block)) :=
  ((rbuf_Buffer_ok_3.f a0).bind fun t1 => (some ([] : List T_api_Block)))
theorem rbuf_Buffer_Blocks_2_ok (a0 : T_rbuf_Buffer_o2) (a1 : Int) (r : (List T_api_Block)) (hm : rbuf_Buffer_Blocks_2.f a0 a1 = some r) (B G : Asn) (g1 : Nat) (w : World) (hs : St B G [.blk g1 [.pointer none, .slice none 0 0, .int .i64 a0.xbegin, .int .i64 a0.xn, .int .u32 a0.xlast, .bool a0.xkept] 50] w) :
    Calls Try.prog 23 #[.pointer (some ⟨g1, 0, none⟩), .int .i64 a1] w (Post (X := (Option Addr) × Nat) (fun x => .slice x.1 r.length x.2) (fun x => B) G (fun x => [.blk g1 [.pointer none, .slice none 0 0, .int .i64 a0.xbegin, .int .i64 a0.xn, .int .u32 a0.xlast, .bool a0.xkept] 50]) (fun x => (Sl kT_api_Block B x.1 x.2 r))) := by
  unfold rbuf_Buffer_Blocks_2.f at hm
  refine calls_W (F := Try.f23) Try.func23 rfl (by kernel_rfl) (L := [.blk g1 [.pointer none, .slice none 0 0, .int .i64 a0.xbegin, .int .i64 a0.xn, .int .u32 a0.xlast, .bool a0.xkept] 50]) ?_ hs
  refine w_seq 2 3 (by kernel_rfl) ?_
  refine w_region (by kernel_rfl) ?_
  refine o_stp ?_ (by kernel_rfl)
  refine s_new 2 (fun g2 => .pointer (some ⟨g2, 0, none⟩)) [.pointer (some ⟨g1, 0, none⟩)] 25 (fun _ => by kernel_rfl) (fun g2 => ?_)
  refine o_run 1 [1, 2] (l := []) .nil (E' := [(1, .int .i64 a1), (2, .pointer (some ⟨g2, 0, none⟩))]) (by kernel_rfl) ?_
  refine o_end (by kernel_rfl) ?_
  refine e_seq ?_
  refine w_seq 6 7 (by kernel_rfl) ?_
  refine w_seq 12 13 (by kernel_rfl) ?_
  refine w_region (by kernel_rfl) ?_
  refine o_run 1 [1, 2, 9] (l := [(⟨g2, 0, none⟩, .pointer (some ⟨g1, 0, none⟩))]) (.one (at_blk (j := 0) rfl rfl) .nil) (E' := [(1, .int .i64 a1), (2, .pointer (some ⟨g2, 0, none⟩)), (9, .pointer (some ⟨g1, 0, none⟩))]) (by kernel_rfl) ?_
  obtain ⟨t1, hx1, hm⟩ := bind_some hm
  obtain rfl : false = t1 := Option.some.inj (show some false = some t1 from hx1)
  refine o_stp ?_ (by kernel_rfl)
  refine s_call 10 27 #[.pointer (some ⟨g1, 0, none⟩)] [1] [0] (by kernel_rfl) (by kernel_rfl) (fun w hs => rbuf_Buffer_ok_3_ok a0 false hx1 B _ g1 w (St.cast (by kernel_rfl) hs)) (fun _ hx => ?_)
  refine t_L (L' := [.blk g1 [.pointer none, .slice none 0 0, .int .i64 a0.xbegin, .int .i64 a0.xn, .int .u32 a0.xlast, .bool a0.xkept] 50, .blk g2 [.pointer (some ⟨g1, 0, none⟩)] 25]) (by kernel_rfl) ?_
  refine o_run 5 [1, 2, 15] (l := []) .nil (E' := [(1, .int .i64 a1), (2, .pointer (some ⟨g2, 0, none⟩)), (15, .bool true)]) (by kernel_rfl) ?_
  refine o_end (by kernel_rfl) ?_
  refine e_seq ?_
  refine w_cond_t (.tmp 15) 26 27 (by kernel_rfl) (by kernel_rfl) ?_
  refine w_seq 52 53 (by kernel_rfl) ?_
  refine w_region (by kernel_rfl) ?_
  refine o_run 1 [4] (l := []) .nil (E' := [(4, .slice none 0 0)]) (by kernel_rfl) ?_
  refine o_end (by kernel_rfl) ?_
  refine e_seq ?_
  refine w_ret (by kernel_rfl) ?_
  obtain rfl := Option.some.inj hm
  exact e_retP (none, 0) (.slice none ([] : List T_api_Block).length 0) [0] (by kernel_rfl) (by kernel_rfl) rfl (by kernel_rfl) (by kernel_rfl) (Sl.nil kT_api_Block B none 0)
end Go.V
