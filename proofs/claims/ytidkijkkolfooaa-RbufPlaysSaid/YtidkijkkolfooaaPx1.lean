/- Printed by a program of this work: Go functions as Lean functions, and that the machine comes to the same. -/
import Derived.Test.YtidkijkkolfooaaPx0
set_option maxRecDepth 100000
set_option linter.unusedVariables false
namespace Go.V
open Go Go.Proofs
def rbuf_Buffer_Insert.l1 : Nat → (Int × (List Int)) → Int → T_rbuf_Buffer_o → Option (T_rbuf_Buffer_o)
  | 0, _, _, _ => none
  | k + 1, t2, p1, p2 => (if decide (p1 < (t2.2.length : Int)) then ((idx t2.2 p1).bind fun e5 => ((sack_Board_Has.f k p2.xBoard (U32 (t2.1 + (U32 p1)))).bind fun t8 => (if !t8 then ((rbuf_Buffer_place.f p2 (U32 (t2.1 + (U32 p1)))).bind fun t9 => (rbuf_Buffer_Insert.l1 k t2 (I64 (p1 + 1)) (⟨p2.xBoard, (p2.xbytes.set (Int.toNat t9.1) e5), p2.xbegin, p2.xn, p2.xlast, p2.xkept⟩ : T_rbuf_Buffer_o))) else (rbuf_Buffer_Insert.l1 k t2 (I64 (p1 + 1)) p2)))) else (some p2))
def rbuf_Buffer_Insert.f (k : Nat) (a0 : T_rbuf_Buffer_o) (a1 : Int) (a2 : List Int) : Option (Int × T_rbuf_Buffer_o) :=
  ((rbuf_Buffer_ok.f a0).bind fun t1 => (if !t1 then (some (0, a0)) else ((rbuf_Buffer_within.f a0 a1 a2).bind fun t2 => (if (t2.2.length : Int) == 0 then (some (0, a0)) else ((rbuf_Buffer_Insert.l1 k t2 0 a0).bind fun t3 => ((sack_Board_Add.f k ((t3).xBoard) (U32 (t2.1 + (U32 (t2.2.length : Int)))) [(⟨t2.1, U32 (t2.1 + (U32 (t2.2.length : Int)))⟩ : T_api_Block)]).bind fun t4 => ((sack_Board_Blocks.f k t4.2).bind fun t5 => ((idx t5 0).bind fun e1 => ((rbuf_Buffer_Next.f (⟨t4.2, (t3).xbytes, (t3).xbegin, (t3).xn, U32 ((U32 (t2.1 + (U32 (t2.2.length : Int)))) - 1), true⟩ : T_rbuf_Buffer_o)).bind fun t6 => (if e1.xLeft != t6 then (some (0, (⟨t4.2, (t3).xbytes, (t3).xbegin, (t3).xn, U32 ((U32 (t2.1 + (U32 (t2.2.length : Int)))) - 1), true⟩ : T_rbuf_Buffer_o))) else ((idx t5 0).bind fun e2 => ((idx t5 0).bind fun e3 => ((idx t5 0).bind fun e4 => ((sack_Board_Advance.f k t4.2 e4.xRight).bind fun t7 => (some (I64 (U32 (e2.xRight - e3.xLeft)), (⟨t7.2, (t3).xbytes, (t3).xbegin, I64 (((t3).xn) + (I64 (U32 (e2.xRight - e3.xLeft)))), U32 ((U32 (t2.1 + (U32 (t2.2.length : Int)))) - 1), true⟩ : T_rbuf_Buffer_o)))))))))))))))))
theorem rbuf_Buffer_Insert_ok (k : Nat) (a0 : T_rbuf_Buffer_o) (a1 : Int) (a2 : List Int) (r : Int × T_rbuf_Buffer_o) (hm : rbuf_Buffer_Insert.f k a0 a1 a2 = some r) (B G : Asn) (g1 : Nat) (g2 : Nat) (A1 : Option Addr) (c1 : Nat) (A2 : Option Addr) (c2 : Nat) (A3 : Option Addr) (c3 : Nat) (hs1 : Sl kT_sack_run B A1 c1 a0.xBoard.xruns) (hs2 : Sl (kI .u8) B A3 c3 a2) (w : World) (hs : St B G [.blk g1 [.pointer (some ⟨g2, 0, none⟩), .slice A2 a0.xbytes.length c2, .int .i64 a0.xbegin, .int .i64 a0.xn, .int .u32 a0.xlast, .bool a0.xkept] 50, .blk g2 [.bool a0.xBoard.xmade, .int .u32 a0.xBoard.xfirst, .slice A1 a0.xBoard.xruns.length c1] 76, .own A2 a0.xbytes.length c2 (rowOf (encI .u8) a0.xbytes) 1 5] w) :
    Calls Try.prog 12 #[.pointer (some ⟨g1, 0, none⟩), .int .u32 a1, .slice A3 a2.length c3] w (Post (X := Asn × Nat × (Option Addr) × Nat × (Option Addr) × Nat) (fun x => .int .i64 r.1) (fun x => x.1) G (fun x => [.blk g1 [.pointer (some ⟨x.2.1, 0, none⟩), .slice x.2.2.2.2.1 r.2.xbytes.length x.2.2.2.2.2, .int .i64 r.2.xbegin, .int .i64 r.2.xn, .int .u32 r.2.xlast, .bool r.2.xkept] 50, .blk x.2.1 [.bool r.2.xBoard.xmade, .int .u32 r.2.xBoard.xfirst, .slice x.2.2.1 r.2.xBoard.xruns.length x.2.2.2.1] 76, .own x.2.2.2.2.1 r.2.xbytes.length x.2.2.2.2.2 (rowOf (encI .u8) r.2.xbytes) 1 5]) (fun x => (Ext B x.1) ∧ (Sl kT_sack_run x.1 x.2.2.1 x.2.2.2.1 r.2.xBoard.xruns))) := by
  unfold rbuf_Buffer_Insert.f at hm
  refine calls_W (F := Try.f12) Try.func12 rfl (by kernel_rfl) (L := [.blk g1 [.pointer (some ⟨g2, 0, none⟩), .slice A2 a0.xbytes.length c2, .int .i64 a0.xbegin, .int .i64 a0.xn, .int .u32 a0.xlast, .bool a0.xkept] 50, .blk g2 [.bool a0.xBoard.xmade, .int .u32 a0.xBoard.xfirst, .slice A1 a0.xBoard.xruns.length c1] 76, .own A2 a0.xbytes.length c2 (rowOf (encI .u8) a0.xbytes) 1 5]) ?_ hs
  refine w_seq 2 3 (by kernel_rfl) ?_
  refine w_region (by kernel_rfl) ?_
  refine o_run 1 [0, 1, 2] (l := []) .nil (E' := [(0, .pointer (some ⟨g1, 0, none⟩)), (1, .int .u32 a1), (2, .slice A3 a2.length c3)]) (by kernel_rfl) ?_
  refine o_end (by kernel_rfl) ?_
  refine e_seq ?_
  refine w_seq 6 7 (by kernel_rfl) ?_
  refine w_seq 12 13 (by kernel_rfl) ?_
  refine w_region (by kernel_rfl) ?_
  refine o_run 1 [0, 1, 2, 13] (l := []) .nil (E' := [(0, .pointer (some ⟨g1, 0, none⟩)), (1, .int .u32 a1), (2, .slice A3 a2.length c3), (13, .pointer (some ⟨g1, 0, none⟩))]) (by kernel_rfl) ?_
  obtain ⟨t1, hx1, hm⟩ := bind_some hm
  refine o_stp ?_ (by kernel_rfl)
  refine s_call 14 27 #[.pointer (some ⟨g1, 0, none⟩)] [0, 1, 2] [] (by kernel_rfl) (by kernel_rfl) (fun w hs => rbuf_Buffer_ok_ok a0 t1 hx1 B _ g1 g2 A1 c1 A2 c2 hs1 w (St.cast (by kernel_rfl) hs)) (fun _ hx => ?_)
  refine t_L (L' := [.blk g1 [.pointer (some ⟨g2, 0, none⟩), .slice A2 a0.xbytes.length c2, .int .i64 a0.xbegin, .int .i64 a0.xn, .int .u32 a0.xlast, .bool a0.xkept] 50, .blk g2 [.bool a0.xBoard.xmade, .int .u32 a0.xBoard.xfirst, .slice A1 a0.xBoard.xruns.length c1] 76, .own A2 a0.xbytes.length c2 (rowOf (encI .u8) a0.xbytes) 1 5]) (by kernel_rfl) ?_
  refine o_run 1 [0, 1, 2, 15] (l := []) .nil (E' := [(0, .pointer (some ⟨g1, 0, none⟩)), (1, .int .u32 a1), (2, .slice A3 a2.length c3), (15, .bool (!t1))]) (by kernel_rfl) ?_
  refine o_end (by kernel_rfl) ?_
  refine e_seq ?_
  refine w_cond (.tmp 15) 26 27 (!t1) (by kernel_rfl) (by kernel_rfl) (fun hb1 => ?_) (fun hb1 => ?_)
  · replace hm := ite_t hb1 hm
    refine w_seq 52 53 (by kernel_rfl) ?_
    refine w_region (by kernel_rfl) ?_
    refine o_run 1 [6] (l := []) .nil (E' := [(6, .int .i64 0)]) (by kernel_rfl) ?_
    refine o_end (by kernel_rfl) ?_
    refine e_seq ?_
    refine w_ret (by kernel_rfl) ?_
    obtain rfl := Option.some.inj hm
    exact e_retP (B, g2, A1, c1, A2, c2) (.int .i64 0) [0, 1, 2] (by kernel_rfl) (by kernel_rfl) rfl (by kernel_rfl) (by kernel_rfl) ⟨(Ext.refl _), hs1⟩
  · replace hm := ite_f hb1 hm
    refine w_skip (by kernel_rfl) ?_
    refine e_seq ?_
    refine w_seq 14 15 (by kernel_rfl) ?_
    refine w_region (by kernel_rfl) ?_
    refine o_run 3 [0, 17, 18, 19] (l := []) .nil (E' := [(0, .pointer (some ⟨g1, 0, none⟩)), (17, .pointer (some ⟨g1, 0, none⟩)), (18, .int .u32 a1), (19, .slice A3 a2.length c3)]) (by kernel_rfl) ?_
    obtain ⟨t2, hx2, hm⟩ := bind_some hm
    refine o_stp ?_ (by kernel_rfl)
    refine s_call 20 28 #[.pointer (some ⟨g1, 0, none⟩), .int .u32 a1, .slice A3 a2.length c3] [0, 1, 2] [] (by kernel_rfl) (by kernel_rfl) (fun w hs => rbuf_Buffer_within_ok a0 a1 a2 t2 hx2 B _ g1 g2 A1 c1 A2 c2 A3 c3 hs1 hs2 w (St.cast (by kernel_rfl) hs)) (fun x hx => ?_)
    obtain ⟨A4, c4⟩ := x
    have hs3 := hx
    refine t_L (L' := [.blk g1 [.pointer (some ⟨g2, 0, none⟩), .slice A2 a0.xbytes.length c2, .int .i64 a0.xbegin, .int .i64 a0.xn, .int .u32 a0.xlast, .bool a0.xkept] 50, .blk g2 [.bool a0.xBoard.xmade, .int .u32 a0.xBoard.xfirst, .slice A1 a0.xBoard.xruns.length c1] 76, .own A2 a0.xbytes.length c2 (rowOf (encI .u8) a0.xbytes) 1 5]) (by kernel_rfl) ?_
    refine o_run 5 [0, 1, 2] (l := []) .nil (E' := [(0, .pointer (some ⟨g1, 0, none⟩)), (1, .int .u32 t2.1), (2, .slice A4 t2.2.length c4)]) (by kernel_rfl) ?_
    refine o_end (by kernel_rfl) ?_
    refine e_seq ?_
    refine w_seq 30 31 (by kernel_rfl) ?_
    refine w_seq 60 61 (by kernel_rfl) ?_
    refine w_region (by kernel_rfl) ?_
    refine o_run 3 [0, 1, 2, 25] (l := []) .nil (E' := [(0, .pointer (some ⟨g1, 0, none⟩)), (1, .int .u32 t2.1), (2, .slice A4 t2.2.length c4), (25, .bool ((t2.2.length : Int) == 0))]) (by kernel_rfl) ?_
    refine o_end (by kernel_rfl) ?_
    refine e_seq ?_
    refine w_cond (.tmp 25) 122 123 ((t2.2.length : Int) == 0) (by kernel_rfl) (by kernel_rfl) (fun hb2 => ?_) (fun hb2 => ?_)
    · replace hm := ite_t hb2 hm
      refine w_seq 244 245 (by kernel_rfl) ?_
      refine w_region (by kernel_rfl) ?_
      refine o_run 1 [6] (l := []) .nil (E' := [(6, .int .i64 0)]) (by kernel_rfl) ?_
      refine o_end (by kernel_rfl) ?_
      refine e_seq ?_
      refine w_ret (by kernel_rfl) ?_
      obtain rfl := Option.some.inj hm
      exact e_retP (B, g2, A1, c1, A2, c2) (.int .i64 0) [0, 1, 2] (by kernel_rfl) (by kernel_rfl) rfl (by kernel_rfl) (by kernel_rfl) ⟨(Ext.refl _), hs1⟩
    · replace hm := ite_f hb2 hm
      refine w_skip (by kernel_rfl) ?_
      refine e_seq ?_
      refine w_seq 62 63 (by kernel_rfl) ?_
      refine w_seq 124 125 (by kernel_rfl) ?_
      refine w_region (by kernel_rfl) ?_
      refine o_run 3 [0, 1, 2, 26, 27, 28] (l := []) .nil (E' := [(0, .pointer (some ⟨g1, 0, none⟩)), (1, .int .u32 t2.1), (2, .slice A4 t2.2.length c4), (26, .slice A4 t2.2.length c4), (27, .int .i64 (t2.2.length : Int)), (28, .int .i64 0)]) (by kernel_rfl) ?_
      refine o_end (by kernel_rfl) ?_
      refine e_seq ?_
      refine w_block 0 250 (by kernel_rfl) ?_
      obtain ⟨t3, ht1, ho1⟩ := bind_some hm
      refine t_env [0, 1, 2, 26, 27, 28] (E' := [(0, .pointer (some ⟨g1, 0, none⟩)), (1, .int .u32 t2.1), (2, .slice A4 t2.2.length c4), (26, .slice A4 t2.2.length c4), (27, .int .i64 (t2.2.length : Int)), (28, .int .i64 0)]) (by kernel_rfl) ?_
      refine w_loopJ 500 0 (fun k a w => ∃ (p1 : Int) (p2 : T_rbuf_Buffer_o) (g3 : Nat) (A5 : Option Addr) (c5 : Nat) (A6 : Option Addr) (c6 : Nat), rbuf_Buffer_Insert.l1 k t2 p1 p2 = some t3 ∧ Sl kT_sack_run B A5 c5 p2.xBoard.xruns ∧ EnvOk [(0, .pointer (some ⟨g1, 0, none⟩)), (1, .int .u32 t2.1), (2, .slice A4 t2.2.length c4), (26, .slice A4 t2.2.length c4), (27, .int .i64 (t2.2.length : Int)), (28, .int .i64 p1)] Try.f12.ntmps a ∧ St B G [.blk g1 [.pointer (some ⟨g3, 0, none⟩), .slice A6 p2.xbytes.length c6, .int .i64 p2.xbegin, .int .i64 p2.xn, .int .u32 p2.xlast, .bool p2.xkept] 50, .blk g3 [.bool p2.xBoard.xmade, .int .u32 p2.xBoard.xfirst, .slice A5 p2.xBoard.xruns.length c5] 76, .own A6 p2.xbytes.length c6 (rowOf (encI .u8) p2.xbytes) 1 5] w) (fun a w => ∃ (g4 : Nat) (A7 : Option Addr) (c7 : Nat) (A8 : Option Addr) (c8 : Nat), Sl kT_sack_run B A7 c7 (((t3).xBoard).xruns) ∧ EnvOk [(0, .pointer (some ⟨g1, 0, none⟩)), (1, .int .u32 t2.1), (2, .slice A4 t2.2.length c4)] Try.f12.ntmps a ∧ St B G [.blk g1 [.pointer (some ⟨g4, 0, none⟩), .slice A8 (((t3).xbytes).length) c8, .int .i64 ((t3).xbegin), .int .i64 ((t3).xn), .int .u32 ((t3).xlast), .bool ((t3).xkept)] 50, .blk g4 [.bool (((t3).xBoard).xmade), .int .u32 (((t3).xBoard).xfirst), .slice A7 (((t3).xBoard).xruns).length c7] 76, .own A8 (((t3).xbytes).length) c8 (rowOf (encI .u8) ((t3).xbytes)) 1 5] w) (by kernel_rfl) ?_ ?_ k ?_
      · rintro a w ⟨g4, A7, c7, A8, c8, hs5, ha, hw⟩
        refine we_of (E := [(0, .pointer (some ⟨g1, 0, none⟩)), (1, .int .u32 t2.1), (2, .slice A4 t2.2.length c4)]) (B := B) (G := G) (L := [.blk g1 [.pointer (some ⟨g4, 0, none⟩), .slice A8 (((t3).xbytes).length) c8, .int .i64 ((t3).xbegin), .int .i64 ((t3).xn), .int .u32 ((t3).xlast), .bool ((t3).xkept)] 50, .blk g4 [.bool (((t3).xBoard).xmade), .int .u32 (((t3).xBoard).xfirst), .slice A7 (((t3).xBoard).xruns).length c7] 76, .own A8 (((t3).xbytes).length) c8 (rowOf (encI .u8) ((t3).xbytes)) 1 5]) ?_ ha hw
        have hm := ho1
        refine e_seq ?_
        refine w_seq 126 127 (by kernel_rfl) ?_
        refine w_region (by kernel_rfl) ?_
        refine o_run 6 [0, 1, 10] (l := []) .nil (E' := [(0, .pointer (some ⟨g1, 0, none⟩)), (1, .int .u32 t2.1), (10, .int .u32 (U32 (t2.1 + (U32 (t2.2.length : Int)))))]) (by kernel_rfl) ?_
        refine o_end (by kernel_rfl) ?_
        refine e_seq ?_
        refine w_seq 254 255 (by kernel_rfl) ?_
        refine w_region (by kernel_rfl) ?_
        refine o_run 8 [0, 10, 58, 59, 62] (l := [(⟨g1, 0, none⟩, .pointer (some ⟨g4, 0, none⟩))]) (.one (at_blk (j := 0) rfl rfl) .nil) (E' := [(0, .pointer (some ⟨g1, 0, none⟩)), (10, .int .u32 (U32 (t2.1 + (U32 (t2.2.length : Int))))), (58, .pointer (some ⟨g4, 0, none⟩)), (59, .int .u32 (U32 (t2.1 + (U32 (t2.2.length : Int))))), (62, .agg #[.int .u32 t2.1, .int .u32 (U32 (t2.1 + (U32 (t2.2.length : Int))))])]) (by kernel_rfl) ?_
        refine o_stp ?_ (by kernel_rfl)
        refine s_new 63 (fun g5 => .slice (some ⟨g5, 0, none⟩) 1 1) [.int .u32 t2.1, .int .u32 (U32 (t2.1 + (U32 (t2.2.length : Int))))] 57 (fun _ => by kernel_rfl) (fun g5 => ?_)
        refine t_blk_own (m := 1) (sz := 2) (by rfl) (by rfl) ?_
        refine t_L (L' := [.own (some ⟨g5, 0, none⟩) ([(⟨t2.1, U32 (t2.1 + (U32 (t2.2.length : Int)))⟩ : T_api_Block)].length) 1 (rowOf encT_api_Block [(⟨t2.1, U32 (t2.1 + (U32 (t2.2.length : Int)))⟩ : T_api_Block)]) 2 57, .blk g1 [.pointer (some ⟨g4, 0, none⟩), .slice A8 (((t3).xbytes).length) c8, .int .i64 ((t3).xbegin), .int .i64 ((t3).xn), .int .u32 ((t3).xlast), .bool ((t3).xkept)] 50, .blk g4 [.bool (((t3).xBoard).xmade), .int .u32 (((t3).xBoard).xfirst), .slice A7 (((t3).xBoard).xruns).length c7] 76, .own A8 (((t3).xbytes).length) c8 (rowOf (encI .u8) ((t3).xbytes)) 1 5]) (by kernel_rfl) ?_
        refine t_frozS kT_api_Block rfl rfl (fun B1 hx3 hs6 => ?_)
        obtain ⟨t4, hx4, hm⟩ := bind_some hm
        refine o_stp ?_ (by kernel_rfl)
        refine s_call 64 30 #[.pointer (some ⟨g4, 0, none⟩), .int .u32 (U32 (t2.1 + (U32 (t2.2.length : Int)))), .slice (some ⟨g5, 0, none⟩) [(⟨t2.1, U32 (t2.1 + (U32 (t2.2.length : Int)))⟩ : T_api_Block)].length 1] [1] [0, 2] (by kernel_rfl) (by kernel_rfl) (fun w hs => sack_Board_Add_ok k ((t3).xBoard) (U32 (t2.1 + (U32 (t2.2.length : Int)))) [(⟨t2.1, U32 (t2.1 + (U32 (t2.2.length : Int)))⟩ : T_api_Block)] t4 hx4 B1 _ g4 A7 c7 (some ⟨g5, 0, none⟩) 1 (hs5.up hx3) hs6 w (St.cast (by kernel_rfl) hs)) (fun x hx => ?_)
        obtain ⟨B2, A9, c9⟩ := x
        obtain ⟨hx5, hs7⟩ := hx
        refine t_L (L' := [.blk g4 [.bool t4.2.xmade, .int .u32 t4.2.xfirst, .slice A9 t4.2.xruns.length c9] 76, .blk g1 [.pointer (some ⟨g4, 0, none⟩), .slice A8 (((t3).xbytes).length) c8, .int .i64 ((t3).xbegin), .int .i64 ((t3).xn), .int .u32 ((t3).xlast), .bool ((t3).xkept)] 50, .own A8 (((t3).xbytes).length) c8 (rowOf (encI .u8) ((t3).xbytes)) 1 5]) (by kernel_rfl) ?_
        refine o_end (by kernel_rfl) ?_
        refine e_seq ?_
        refine w_seq 510 511 (by kernel_rfl) ?_
        refine w_region (by kernel_rfl) ?_
        refine o_run 6 [0, 66, 68, 70] (l := []) .nil (E' := [(0, .pointer (some ⟨g1, 0, none⟩)), (66, .pointer (some ⟨g1, 0, none⟩)), (68, .int .u32 (U32 ((U32 (t2.1 + (U32 (t2.2.length : Int)))) - 1))), (70, .pointer (some ⟨g1, 4, none⟩))]) (by kernel_rfl) ?_
        refine o_stp ?_ (by kernel_rfl)
        refine s_store 1 g1 [.pointer (some ⟨g4, 0, none⟩), .slice A8 (((t3).xbytes).length) c8, .int .i64 ((t3).xbegin), .int .i64 ((t3).xn), .int .u32 ((t3).xlast), .bool ((t3).xkept)] 50 [(4, .int .u32 (U32 ((U32 (t2.1 + (U32 (t2.2.length : Int)))) - 1)))] (by kernel_rfl) (by kernel_rfl) (by kernel_rfl) ?_
        refine t_L (L' := [.blk g4 [.bool t4.2.xmade, .int .u32 t4.2.xfirst, .slice A9 t4.2.xruns.length c9] 76, .blk g1 [.pointer (some ⟨g4, 0, none⟩), .slice A8 (((t3).xbytes).length) c8, .int .i64 ((t3).xbegin), .int .i64 ((t3).xn), .int .u32 (U32 ((U32 (t2.1 + (U32 (t2.2.length : Int)))) - 1)), .bool ((t3).xkept)] 50, .own A8 (((t3).xbytes).length) c8 (rowOf (encI .u8) ((t3).xbytes)) 1 5]) (by kernel_rfl) ?_
        refine o_run 2 [0, 72] (l := []) .nil (E' := [(0, .pointer (some ⟨g1, 0, none⟩)), (72, .pointer (some ⟨g1, 5, none⟩))]) (by kernel_rfl) ?_
        refine o_stp ?_ (by kernel_rfl)
        refine s_store 1 g1 [.pointer (some ⟨g4, 0, none⟩), .slice A8 (((t3).xbytes).length) c8, .int .i64 ((t3).xbegin), .int .i64 ((t3).xn), .int .u32 (U32 ((U32 (t2.1 + (U32 (t2.2.length : Int)))) - 1)), .bool ((t3).xkept)] 50 [(5, .bool true)] (by kernel_rfl) (by kernel_rfl) (by kernel_rfl) ?_
        refine t_L (L' := [.blk g4 [.bool t4.2.xmade, .int .u32 t4.2.xfirst, .slice A9 t4.2.xruns.length c9] 76, .blk g1 [.pointer (some ⟨g4, 0, none⟩), .slice A8 (((t3).xbytes).length) c8, .int .i64 ((t3).xbegin), .int .i64 ((t3).xn), .int .u32 (U32 ((U32 (t2.1 + (U32 (t2.2.length : Int)))) - 1)), .bool true] 50, .own A8 (((t3).xbytes).length) c8 (rowOf (encI .u8) ((t3).xbytes)) 1 5]) (by kernel_rfl) ?_
        refine o_end (by kernel_rfl) ?_
        refine e_seq ?_
        refine w_seq 1022 1023 (by kernel_rfl) ?_
        refine w_region (by kernel_rfl) ?_
        refine o_run 4 [0, 76] (l := [(⟨g1, 0, none⟩, .pointer (some ⟨g4, 0, none⟩))]) (.one (at_blk (j := 1) rfl rfl) .nil) (E' := [(0, .pointer (some ⟨g1, 0, none⟩)), (76, .pointer (some ⟨g4, 0, none⟩))]) (by kernel_rfl) ?_
        obtain ⟨t5, hx6, hm⟩ := bind_some hm
        refine o_stp ?_ (by kernel_rfl)
        refine s_call 77 31 #[.pointer (some ⟨g4, 0, none⟩)] [0] [1, 2] (by kernel_rfl) (by kernel_rfl) (fun w hs => sack_Board_Blocks_ok k t4.2 t5 hx6 B2 _ g4 A9 c9 hs7 w (St.cast (by kernel_rfl) hs)) (fun x hx => ?_)
        obtain ⟨A10, c10⟩ := x
        refine t_L (L' := [.own A10 t5.length c10 (rowOf encT_api_Block t5) 2 57, .blk g4 [.bool t4.2.xmade, .int .u32 t4.2.xfirst, .slice A9 t4.2.xruns.length c9] 76, .blk g1 [.pointer (some ⟨g4, 0, none⟩), .slice A8 (((t3).xbytes).length) c8, .int .i64 ((t3).xbegin), .int .i64 ((t3).xn), .int .u32 (U32 ((U32 (t2.1 + (U32 (t2.2.length : Int)))) - 1)), .bool true] 50, .own A8 (((t3).xbytes).length) c8 (rowOf (encI .u8) ((t3).xbytes)) 1 5]) (by kernel_rfl) ?_
        refine o_run 1 [0, 11] (l := []) .nil (E' := [(0, .pointer (some ⟨g1, 0, none⟩)), (11, .slice A10 t5.length c10)]) (by kernel_rfl) ?_
        refine o_end (by kernel_rfl) ?_
        refine e_seq ?_
        refine w_seq 2046 2047 (by kernel_rfl) ?_
        refine w_seq 4092 4093 (by kernel_rfl) ?_
        obtain ⟨e1, hx7, hm⟩ := bind_some hm
        obtain ⟨t6, hx8, hm⟩ := bind_some hm
        refine w_tail 6 [.own A10 t5.length c10 (rowOf encT_api_Block t5) 2 57, .blk g4 [.bool t4.2.xmade, .int .u32 t4.2.xfirst, .slice A9 t4.2.xruns.length c9] 76, .blk g1 [.pointer (some ⟨g4, 0, none⟩), .slice A8 (((t3).xbytes).length) c8, .int .i64 ((t3).xbegin), .int .i64 ((t3).xn), .int .u32 (U32 ((U32 (t2.1 + (U32 (t2.2.length : Int)))) - 1)), .bool true] 50, .own A8 (((t3).xbytes).length) c8 (rowOf (encI .u8) ((t3).xbytes)) 1 5] (by kernel_rfl) mixed (by kernel_rfl) ?_
        refine tt_run [0, 4] [0, 11, 78, 82] [0, 1, 2, 3] 4 (listed' := #[true, false, false, false, true, false, false]) (l := []) .nil (E' := [(0, .pointer (some ⟨g1, 0, none⟩)), (11, .slice A10 t5.length c10), (78, .slice A10 t5.length c10), (82, .pointer (some ⟨g1, 0, none⟩))]) (by kernel_rfl) (by kernel_rfl) (by kernel_rfl) (Ext.refl _) (by kernel_rfl) (by kernel_rfl) ?_
        obtain ⟨hi3, hi4, hg2⟩ := idx_some hx7
        refine tt_val 1 79 (.indexAddr 46 (.tmp 78) (.const (.int .i64 0))) (.pointer (some (adr A10 (Int.toNat 0 * 2)))) [0, 1, 2, 3] (by kernel_rfl) (v_index (k := .i64) (c := c10) (by kernel_rfl) (by kernel_rfl) (by kernel_rfl) hi3 hi4 (own_some (j := 0) rfl hi4 hi3)) (by kernel_rfl) (Ext.refl _) (by kernel_rfl) (by kernel_rfl) ?_
        refine tt_run [2, 3] [0, 11, 81, 82] [0, 1, 2, 3] 1 (listed' := #[true, true, true, true, true, false, false]) (l := [((adr A10 (Int.toNat 0 * 2)), .int .u32 e1.xLeft)]) (.one ((At.sub (l := encT_api_Block e1) 0 (at_own (j := 0) (off := Int.toNat 0 * 2) rfl (row_at (enc := encT_api_Block) (sz := 2) (fun _ => rfl) hg2)) rfl)) .nil) (E' := [(0, .pointer (some ⟨g1, 0, none⟩)), (11, .slice A10 t5.length c10), (81, .int .u32 e1.xLeft), (82, .pointer (some ⟨g1, 0, none⟩))]) (by kernel_rfl) (by kernel_rfl) (by kernel_rfl) (Ext.refl _) (by kernel_rfl) (by kernel_rfl) ?_
        refine tt_stp 5 [0, 1, 2, 3] (Ext.refl _) (by kernel_rfl) (by kernel_rfl) (by kernel_rfl) (by kernel_rfl) ?_
        refine s_call 83 13 #[.pointer (some ⟨g1, 0, none⟩)] [2, 1, 3] [0] (by kernel_rfl) (by kernel_rfl) (fun w hs => rbuf_Buffer_Next_ok (⟨t4.2, (t3).xbytes, (t3).xbegin, (t3).xn, U32 ((U32 (t2.1 + (U32 (t2.2.length : Int)))) - 1), true⟩ : T_rbuf_Buffer_o) t6 hx8 B2 _ g1 g4 A9 c9 A8 c8 hs7 w (St.cast (by kernel_rfl) hs)) (fun _ hx => ?_)
        refine t_L (L' := [.blk g1 [.pointer (some ⟨g4, 0, none⟩), .slice A8 (((t3).xbytes).length) c8, .int .i64 ((t3).xbegin), .int .i64 ((t3).xn), .int .u32 (U32 ((U32 (t2.1 + (U32 (t2.2.length : Int)))) - 1)), .bool true] 50, .blk g4 [.bool t4.2.xmade, .int .u32 t4.2.xfirst, .slice A9 t4.2.xruns.length c9] 76, .own A8 (((t3).xbytes).length) c8 (rowOf (encI .u8) ((t3).xbytes)) 1 5, .own A10 t5.length c10 (rowOf encT_api_Block t5) 2 57]) (by kernel_rfl) ?_
        refine tt_end [3, 1, 0, 2] (Ext.refl _) (by kernel_rfl) (by kernel_rfl) (by kernel_rfl) ?_
        refine o_run 1 [0, 11, 84] (l := []) .nil (E' := [(0, .pointer (some ⟨g1, 0, none⟩)), (11, .slice A10 t5.length c10), (84, .bool (e1.xLeft != t6))]) (by kernel_rfl) ?_
        refine o_end (by kernel_rfl) ?_
        refine e_seq ?_
        refine w_cond (.tmp 84) 8186 8187 (e1.xLeft != t6) (by kernel_rfl) (by kernel_rfl) (fun hb3 => ?_) (fun hb3 => ?_)
        · replace hm := ite_t hb3 hm
          refine w_seq 16372 16373 (by kernel_rfl) ?_
          refine w_region (by kernel_rfl) ?_
          refine o_run 1 [6] (l := []) .nil (E' := [(6, .int .i64 0)]) (by kernel_rfl) ?_
          refine o_end (by kernel_rfl) ?_
          refine e_seq ?_
          refine w_ret (by kernel_rfl) ?_
          obtain rfl := Option.some.inj hm
          exact e_retP (B2, g4, A9, c9, A8, c8) (.int .i64 0) [0, 1, 2] (by kernel_rfl) (by kernel_rfl) rfl (by kernel_rfl) (by kernel_rfl) ⟨(Ext.trans hx3 hx5), hs7⟩
        · replace hm := ite_f hb3 hm
          refine w_skip (by kernel_rfl) ?_
          refine e_seq ?_
          refine w_seq 4094 4095 (by kernel_rfl) ?_
          refine w_quiet (by kernel_rfl) mixed (by kernel_rfl) ?_
          refine q_run 1 [0, 11, 85] (l := []) .nil (E' := [(0, .pointer (some ⟨g1, 0, none⟩)), (11, .slice A10 t5.length c10), (85, .slice A10 t5.length c10)]) (by kernel_rfl) ?_
          obtain ⟨e2, hx9, hm⟩ := bind_some hm
          obtain ⟨hi5, hi6, hg3⟩ := idx_some hx9
          refine q_val 86 (.indexAddr 46 (.tmp 85) (.const (.int .i64 0))) (.pointer (some (adr A10 (Int.toNat 0 * 2)))) (by kernel_rfl) (v_index (k := .i64) (c := c10) (by kernel_rfl) (by kernel_rfl) (by kernel_rfl) hi5 hi6 (own_some (j := 3) rfl hi6 hi5)) ?_
          refine q_run 3 [0, 11, 88, 89] (l := [(((adr A10 (Int.toNat 0 * 2)).add 1), .int .u32 e2.xRight)]) (.one ((At.sub (l := encT_api_Block e2) 1 (at_own (j := 3) (off := Int.toNat 0 * 2) rfl (row_at (enc := encT_api_Block) (sz := 2) (fun _ => rfl) hg3)) rfl)) .nil) (E' := [(0, .pointer (some ⟨g1, 0, none⟩)), (11, .slice A10 t5.length c10), (88, .int .u32 e2.xRight), (89, .slice A10 t5.length c10)]) (by kernel_rfl) ?_
          obtain ⟨e3, hx10, hm⟩ := bind_some hm
          obtain ⟨hi7, hi8, hg4⟩ := idx_some hx10
          refine q_val 90 (.indexAddr 46 (.tmp 89) (.const (.int .i64 0))) (.pointer (some (adr A10 (Int.toNat 0 * 2)))) (by kernel_rfl) (v_index (k := .i64) (c := c10) (by kernel_rfl) (by kernel_rfl) (by kernel_rfl) hi7 hi8 (own_some (j := 3) rfl hi8 hi7)) ?_
          refine q_run 5 [0, 11, 12] (l := [((adr A10 (Int.toNat 0 * 2)), .int .u32 e3.xLeft)]) (.one ((At.sub (l := encT_api_Block e3) 0 (at_own (j := 3) (off := Int.toNat 0 * 2) rfl (row_at (enc := encT_api_Block) (sz := 2) (fun _ => rfl) hg4)) rfl)) .nil) (E' := [(0, .pointer (some ⟨g1, 0, none⟩)), (11, .slice A10 t5.length c10), (12, .int .i64 (I64 (U32 (e2.xRight - e3.xLeft))))]) (by kernel_rfl) ?_
          refine q_end (by kernel_rfl) ?_
          refine e_seq ?_
          refine w_seq 8190 8191 (by kernel_rfl) ?_
          obtain ⟨e4, hx11, hm⟩ := bind_some hm
          obtain ⟨t7, hx12, hm⟩ := bind_some hm
          refine w_tail 8 [.blk g1 [.pointer (some ⟨g4, 0, none⟩), .slice A8 (((t3).xbytes).length) c8, .int .i64 ((t3).xbegin), .int .i64 ((t3).xn), .int .u32 (U32 ((U32 (t2.1 + (U32 (t2.2.length : Int)))) - 1)), .bool true] 50, .blk g4 [.bool t4.2.xmade, .int .u32 t4.2.xfirst, .slice A9 t4.2.xruns.length c9] 76, .own A8 (((t3).xbytes).length) c8 (rowOf (encI .u8) ((t3).xbytes)) 1 5, .own A10 t5.length c10 (rowOf encT_api_Block t5) 2 57] (by kernel_rfl) mixed (by kernel_rfl) ?_
          refine tt_run [0, 1, 2, 3, 4] [0, 12, 98, 99] [0, 1, 2, 3] 3 (listed' := #[true, true, true, true, true, false, false, false, false]) (l := [(⟨g1, 0, none⟩, .pointer (some ⟨g4, 0, none⟩))]) (.one (at_blk (j := 0) rfl rfl) .nil) (E' := [(0, .pointer (some ⟨g1, 0, none⟩)), (12, .int .i64 (I64 (U32 (e2.xRight - e3.xLeft)))), (98, .pointer (some ⟨g4, 0, none⟩)), (99, .slice A10 t5.length c10)]) (by kernel_rfl) (by kernel_rfl) (by kernel_rfl) (Ext.refl _) (by kernel_rfl) (by kernel_rfl) ?_
          obtain ⟨hi11, hi12, hg6⟩ := idx_some hx11
          refine tt_val 5 100 (.indexAddr 46 (.tmp 99) (.const (.int .i64 0))) (.pointer (some (adr A10 (Int.toNat 0 * 2)))) [0, 1, 2, 3] (by kernel_rfl) (v_index (k := .i64) (c := c10) (by kernel_rfl) (by kernel_rfl) (by kernel_rfl) hi11 hi12 (own_some (j := 3) rfl hi12 hi11)) (by kernel_rfl) (Ext.refl _) (by kernel_rfl) (by kernel_rfl) ?_
          refine tt_run [6, 7] [0, 12, 98, 102] [0, 1, 2, 3] 0 (listed' := #[true, true, true, true, true, true, true, true, false]) (l := [(((adr A10 (Int.toNat 0 * 2)).add 1), .int .u32 e4.xRight)]) (.one ((At.sub (l := encT_api_Block e4) 1 (at_own (j := 3) (off := Int.toNat 0 * 2) rfl (row_at (enc := encT_api_Block) (sz := 2) (fun _ => rfl) hg6)) rfl)) .nil) (E' := [(0, .pointer (some ⟨g1, 0, none⟩)), (12, .int .i64 (I64 (U32 (e2.xRight - e3.xLeft)))), (98, .pointer (some ⟨g4, 0, none⟩)), (102, .int .u32 e4.xRight)]) (by kernel_rfl) (by kernel_rfl) (by kernel_rfl) (Ext.refl _) (by kernel_rfl) (by kernel_rfl) ?_
          refine tt_end [0, 1, 2, 3] (Ext.refl _) (by kernel_rfl) (by kernel_rfl) (by kernel_rfl) ?_
          refine o_stp ?_ (by kernel_rfl)
          refine s_call 103 32 #[.pointer (some ⟨g4, 0, none⟩), .int .u32 e4.xRight] [1] [0, 2, 3] (by kernel_rfl) (by kernel_rfl) (fun w hs => sack_Board_Advance_ok k t4.2 e4.xRight t7 hx12 B2 _ g4 A9 c9 hs7 w (St.cast (by kernel_rfl) hs)) (fun x hx => ?_)
          obtain ⟨B4, A12, c12⟩ := x
          obtain ⟨hx14, hs9⟩ := hx
          refine t_L (L' := [.blk g4 [.bool t7.2.xmade, .int .u32 t7.2.xfirst, .slice A12 t7.2.xruns.length c12] 76, .blk g1 [.pointer (some ⟨g4, 0, none⟩), .slice A8 (((t3).xbytes).length) c8, .int .i64 ((t3).xbegin), .int .i64 ((t3).xn), .int .u32 (U32 ((U32 (t2.1 + (U32 (t2.2.length : Int)))) - 1)), .bool true] 50, .own A8 (((t3).xbytes).length) c8 (rowOf (encI .u8) ((t3).xbytes)) 1 5, .own A10 t5.length c10 (rowOf encT_api_Block t5) 2 57]) (by kernel_rfl) ?_
          refine o_end (by kernel_rfl) ?_
          refine e_seq ?_
          refine w_seq 16382 16383 (by kernel_rfl) ?_
          refine w_region (by kernel_rfl) ?_
          refine o_run 8 [12, 109, 111] (l := [(⟨g1, 3, none⟩, .int .i64 ((t3).xn))]) (.one (at_blk (j := 1) rfl rfl) .nil) (E' := [(12, .int .i64 (I64 (U32 (e2.xRight - e3.xLeft)))), (109, .int .i64 (I64 (((t3).xn) + (I64 (U32 (e2.xRight - e3.xLeft)))))), (111, .pointer (some ⟨g1, 3, none⟩))]) (by kernel_rfl) ?_
          refine o_stp ?_ (by kernel_rfl)
          refine s_store 1 g1 [.pointer (some ⟨g4, 0, none⟩), .slice A8 (((t3).xbytes).length) c8, .int .i64 ((t3).xbegin), .int .i64 ((t3).xn), .int .u32 (U32 ((U32 (t2.1 + (U32 (t2.2.length : Int)))) - 1)), .bool true] 50 [(3, .int .i64 (I64 (((t3).xn) + (I64 (U32 (e2.xRight - e3.xLeft))))))] (by kernel_rfl) (by kernel_rfl) (by kernel_rfl) ?_
          refine t_L (L' := [.blk g4 [.bool t7.2.xmade, .int .u32 t7.2.xfirst, .slice A12 t7.2.xruns.length c12] 76, .blk g1 [.pointer (some ⟨g4, 0, none⟩), .slice A8 (((t3).xbytes).length) c8, .int .i64 ((t3).xbegin), .int .i64 (I64 (((t3).xn) + (I64 (U32 (e2.xRight - e3.xLeft))))), .int .u32 (U32 ((U32 (t2.1 + (U32 (t2.2.length : Int)))) - 1)), .bool true] 50, .own A8 (((t3).xbytes).length) c8 (rowOf (encI .u8) ((t3).xbytes)) 1 5, .own A10 t5.length c10 (rowOf encT_api_Block t5) 2 57]) (by kernel_rfl) ?_
          refine o_end (by kernel_rfl) ?_
          refine e_seq ?_
          refine w_seq 32766 32767 (by kernel_rfl) ?_
          refine w_region (by kernel_rfl) ?_
          refine o_run 2 [6] (l := []) .nil (E' := [(6, .int .i64 (I64 (U32 (e2.xRight - e3.xLeft))))]) (by kernel_rfl) ?_
          refine o_end (by kernel_rfl) ?_
          refine e_seq ?_
          refine w_ret (by kernel_rfl) ?_
          obtain rfl := Option.some.inj hm
          exact e_retP (B4, g4, A12, c12, A8, c8) (.int .i64 (I64 (U32 (e2.xRight - e3.xLeft)))) [1, 0, 2] (by kernel_rfl) (by kernel_rfl) rfl (by kernel_rfl) (by kernel_rfl) ⟨(Ext.trans (Ext.trans hx3 hx5) hx14), hs9⟩
      · rintro k a w ⟨p1, p2, g3, A5, c5, A6, c6, hm, hs4, ha, hw⟩
        cases k with
        | zero => exact absurd hm (by simp [rbuf_Buffer_Insert.l1])
        | succ k =>
          unfold rbuf_Buffer_Insert.l1 at hm
          refine wc_of (E := [(0, .pointer (some ⟨g1, 0, none⟩)), (1, .int .u32 t2.1), (2, .slice A4 t2.2.length c4), (26, .slice A4 t2.2.length c4), (27, .int .i64 (t2.2.length : Int)), (28, .int .i64 p1)]) (B := B) (G := G) (L := [.blk g1 [.pointer (some ⟨g3, 0, none⟩), .slice A6 p2.xbytes.length c6, .int .i64 p2.xbegin, .int .i64 p2.xn, .int .u32 p2.xlast, .bool p2.xkept] 50, .blk g3 [.bool p2.xBoard.xmade, .int .u32 p2.xBoard.xfirst, .slice A5 p2.xBoard.xruns.length c5] 76, .own A6 p2.xbytes.length c6 (rowOf (encI .u8) p2.xbytes) 1 5]) ?_ ha hw
          refine w_seq 1000 1001 (by kernel_rfl) ?_
          refine w_region (by kernel_rfl) ?_
          refine o_run 1 [0, 1, 2, 26, 27, 28, 29] (l := []) .nil (E' := [(0, .pointer (some ⟨g1, 0, none⟩)), (1, .int .u32 t2.1), (2, .slice A4 t2.2.length c4), (26, .slice A4 t2.2.length c4), (27, .int .i64 (t2.2.length : Int)), (28, .int .i64 p1), (29, .bool (decide (p1 < (t2.2.length : Int))))]) (by kernel_rfl) ?_
          refine o_end (by kernel_rfl) ?_
          refine e_seq ?_
          refine w_seq 2002 2003 (by kernel_rfl) ?_
          refine w_cond (.tmp 29) 4004 4005 (decide (p1 < (t2.2.length : Int))) (by kernel_rfl) (by kernel_rfl) (fun hb4 => ?_) (fun hb4 => ?_)
          · replace hm := ite_t hb4 hm
            refine w_skip (by kernel_rfl) ?_
            refine e_seq ?_
            refine w_seq 4006 4007 (by kernel_rfl) ?_
            refine w_block 1 8012 (by kernel_rfl) ?_
            refine w_seq 16024 16025 (by kernel_rfl) ?_
            refine w_region (by kernel_rfl) ?_
            refine o_run 1 [0, 1, 2, 26, 27, 28, 30] (l := []) .nil (E' := [(0, .pointer (some ⟨g1, 0, none⟩)), (1, .int .u32 t2.1), (2, .slice A4 t2.2.length c4), (26, .slice A4 t2.2.length c4), (27, .int .i64 (t2.2.length : Int)), (28, .int .i64 p1), (30, .int .i64 p1)]) (by kernel_rfl) ?_
            obtain ⟨e5, hx15, hm⟩ := bind_some hm
            obtain ⟨hi13, hi14, hg7⟩ := idx_some hx15
            obtain ⟨cs1, hk1, hc1⟩ := (hs3).at hg7
            obtain rfl := hk1
            refine o_val 31 (.indexAddr 32 (.tmp 26) (.tmp 28)) (.pointer (some (adr A4 (Int.toNat p1 * 1)))) (by kernel_rfl) (v_index (k := .i64) (c := c4) (by kernel_rfl) (by kernel_rfl) (by kernel_rfl) hi13 hi14 ((hs3).some hg7)) ?_
            refine o_run 3 [0, 1, 2, 7, 8, 26, 27, 28] (l := [((adr A4 (Int.toNat p1 * 1)), .int .u8 e5)]) (.one ((at_sl hc1).sub 0 rfl) .nil) (E' := [(0, .pointer (some ⟨g1, 0, none⟩)), (1, .int .u32 t2.1), (2, .slice A4 t2.2.length c4), (7, .int .i64 p1), (8, .int .u8 e5), (26, .slice A4 t2.2.length c4), (27, .int .i64 (t2.2.length : Int)), (28, .int .i64 p1)]) (by kernel_rfl) ?_
            refine o_end (by kernel_rfl) ?_
            refine e_seq ?_
            refine w_seq 32050 32051 (by kernel_rfl) ?_
            refine w_region (by kernel_rfl) ?_
            refine o_run 5 [0, 1, 2, 8, 9, 26, 27, 28] (l := []) .nil (E' := [(0, .pointer (some ⟨g1, 0, none⟩)), (1, .int .u32 t2.1), (2, .slice A4 t2.2.length c4), (8, .int .u8 e5), (9, .int .u32 (U32 (t2.1 + (U32 p1)))), (26, .slice A4 t2.2.length c4), (27, .int .i64 (t2.2.length : Int)), (28, .int .i64 p1)]) (by kernel_rfl) ?_
            refine o_end (by kernel_rfl) ?_
            refine e_seq ?_
            refine w_seq 64102 64103 (by kernel_rfl) ?_
            refine w_region (by kernel_rfl) ?_
            refine o_run 5 [0, 1, 2, 8, 9, 26, 27, 28, 40, 41] (l := [(⟨g1, 0, none⟩, .pointer (some ⟨g3, 0, none⟩))]) (.one (at_blk (j := 0) rfl rfl) .nil) (E' := [(0, .pointer (some ⟨g1, 0, none⟩)), (1, .int .u32 t2.1), (2, .slice A4 t2.2.length c4), (8, .int .u8 e5), (9, .int .u32 (U32 (t2.1 + (U32 p1)))), (26, .slice A4 t2.2.length c4), (27, .int .i64 (t2.2.length : Int)), (28, .int .i64 p1), (40, .pointer (some ⟨g3, 0, none⟩)), (41, .int .u32 (U32 (t2.1 + (U32 p1))))]) (by kernel_rfl) ?_
            obtain ⟨t8, hx16, hm⟩ := bind_some hm
            refine o_stp ?_ (by kernel_rfl)
            refine s_call 42 29 #[.pointer (some ⟨g3, 0, none⟩), .int .u32 (U32 (t2.1 + (U32 p1)))] [1] [0, 2] (by kernel_rfl) (by kernel_rfl) (fun w hs => sack_Board_Has_ok k p2.xBoard (U32 (t2.1 + (U32 p1))) t8 hx16 B _ g3 A5 c5 hs4 w (St.cast (by kernel_rfl) hs)) (fun _ hx => ?_)
            refine t_L (L' := [.blk g3 [.bool p2.xBoard.xmade, .int .u32 p2.xBoard.xfirst, .slice A5 p2.xBoard.xruns.length c5] 76, .blk g1 [.pointer (some ⟨g3, 0, none⟩), .slice A6 p2.xbytes.length c6, .int .i64 p2.xbegin, .int .i64 p2.xn, .int .u32 p2.xlast, .bool p2.xkept] 50, .own A6 p2.xbytes.length c6 (rowOf (encI .u8) p2.xbytes) 1 5]) (by kernel_rfl) ?_
            refine o_run 1 [0, 1, 2, 8, 9, 26, 27, 28, 43] (l := []) .nil (E' := [(0, .pointer (some ⟨g1, 0, none⟩)), (1, .int .u32 t2.1), (2, .slice A4 t2.2.length c4), (8, .int .u8 e5), (9, .int .u32 (U32 (t2.1 + (U32 p1)))), (26, .slice A4 t2.2.length c4), (27, .int .i64 (t2.2.length : Int)), (28, .int .i64 p1), (43, .bool (!t8))]) (by kernel_rfl) ?_
            refine o_end (by kernel_rfl) ?_
            refine e_seq ?_
            refine w_cond (.tmp 43) 128206 128207 (!t8) (by kernel_rfl) (by kernel_rfl) (fun hb5 => ?_) (fun hb5 => ?_)
            · replace hm := ite_t hb5 hm
              refine w_region (by kernel_rfl) ?_
              refine o_run 2 [0, 1, 2, 8, 26, 27, 28, 44, 45] (l := []) .nil (E' := [(0, .pointer (some ⟨g1, 0, none⟩)), (1, .int .u32 t2.1), (2, .slice A4 t2.2.length c4), (8, .int .u8 e5), (26, .slice A4 t2.2.length c4), (27, .int .i64 (t2.2.length : Int)), (28, .int .i64 p1), (44, .pointer (some ⟨g1, 0, none⟩)), (45, .int .u32 (U32 (t2.1 + (U32 p1))))]) (by kernel_rfl) ?_
              obtain ⟨t9, hx17, hm⟩ := bind_some hm
              refine o_stp ?_ (by kernel_rfl)
              refine s_call 46 26 #[.pointer (some ⟨g1, 0, none⟩), .int .u32 (U32 (t2.1 + (U32 p1)))] [1, 0, 2] [] (by kernel_rfl) (by kernel_rfl) (fun w hs => rbuf_Buffer_place_ok p2 (U32 (t2.1 + (U32 p1))) t9 hx17 B _ g1 g3 A5 c5 A6 c6 hs4 w (St.cast (by kernel_rfl) hs)) (fun _ hx => ?_)
              have hg8 := hx
              refine t_L (L' := [.blk g1 [.pointer (some ⟨g3, 0, none⟩), .slice A6 p2.xbytes.length c6, .int .i64 p2.xbegin, .int .i64 p2.xn, .int .u32 p2.xlast, .bool p2.xkept] 50, .blk g3 [.bool p2.xBoard.xmade, .int .u32 p2.xBoard.xfirst, .slice A5 p2.xBoard.xruns.length c5] 76, .own A6 p2.xbytes.length c6 (rowOf (encI .u8) p2.xbytes) 1 5]) (by kernel_rfl) ?_
              refine o_run 2 [0, 1, 2, 26, 27, 28, 47, 48] (l := []) .nil (E' := [(0, .pointer (some ⟨g1, 0, none⟩)), (1, .int .u32 t2.1), (2, .slice A4 t2.2.length c4), (26, .slice A4 t2.2.length c4), (27, .int .i64 (t2.2.length : Int)), (28, .int .i64 p1), (47, .int .u8 e5), (48, .pointer (some (adr A6 (Int.toNat t9.1 * 1))))]) (by kernel_rfl) ?_
              refine o_stp ?_ (by kernel_rfl)
              refine s_setE (enc := (encI .u8)) (v := .int .u8 e5) 5 (.tmp 48) (.tmp 47) 2 (x := e5) (by kernel_rfl) (by kernel_rfl) (by kernel_rfl) rfl (by kernel_rfl) rfl (fun _ => rfl) hg8 (fun u hu => by cases List.mem_singleton.1 hu; rfl) (by decide) ?_
              refine t_env [0, 1, 2, 26, 27, 28, 47, 48] (E' := [(0, .pointer (some ⟨g1, 0, none⟩)), (1, .int .u32 t2.1), (2, .slice A4 t2.2.length c4), (26, .slice A4 t2.2.length c4), (27, .int .i64 (t2.2.length : Int)), (28, .int .i64 p1), (47, .int .u8 e5), (48, .pointer (some (adr A6 (Int.toNat t9.1 * 1))))]) (by kernel_rfl) ?_
              refine t_EL (E' := [(0, .pointer (some ⟨g1, 0, none⟩)), (1, .int .u32 t2.1), (2, .slice A4 t2.2.length c4), (26, .slice A4 t2.2.length c4), (27, .int .i64 (t2.2.length : Int)), (28, .int .i64 p1), (47, .int .u8 e5), (48, .pointer (some (adr A6 (Int.toNat t9.1 * 1))))]) (L' := [.blk g1 [.pointer (some ⟨g3, 0, none⟩), .slice A6 ((p2.xbytes.set (Int.toNat t9.1) e5).length) c6, .int .i64 p2.xbegin, .int .i64 p2.xn, .int .u32 p2.xlast, .bool p2.xkept] 50, .blk g3 [.bool p2.xBoard.xmade, .int .u32 p2.xBoard.xfirst, .slice A5 p2.xBoard.xruns.length c5] 76, .own A6 ((p2.xbytes.set (Int.toNat t9.1) e5).length) c6 (rowOf (encI .u8) (p2.xbytes.set (Int.toNat t9.1) e5)) 1 5]) (eq_of_len List.length_set.symm (fun n => ([(0, .pointer (some ⟨g1, 0, none⟩)), (1, .int .u32 t2.1), (2, .slice A4 t2.2.length c4), (26, .slice A4 t2.2.length c4), (27, .int .i64 (t2.2.length : Int)), (28, .int .i64 p1), (47, .int .u8 e5), (48, .pointer (some (adr A6 (Int.toNat t9.1 * 1))))], [.blk g1 [.pointer (some ⟨g3, 0, none⟩), .slice A6 n c6, .int .i64 p2.xbegin, .int .i64 p2.xn, .int .u32 p2.xlast, .bool p2.xkept] 50, .blk g3 [.bool p2.xBoard.xmade, .int .u32 p2.xBoard.xfirst, .slice A5 p2.xBoard.xruns.length c5] 76, .own A6 n c6 (rowOf (encI .u8) (p2.xbytes.set (Int.toNat t9.1) e5)) 1 5])) rfl rfl) ?_
              refine o_end (by kernel_rfl) ?_
              refine e_blk ?_
              refine e_seq ?_
              refine w_region (by kernel_rfl) ?_
              refine o_run 2 [0, 1, 2, 26, 27, 28] (l := []) .nil (E' := [(0, .pointer (some ⟨g1, 0, none⟩)), (1, .int .u32 t2.1), (2, .slice A4 t2.2.length c4), (26, .slice A4 t2.2.length c4), (27, .int .i64 (t2.2.length : Int)), (28, .int .i64 (I64 (p1 + 1)))]) (by kernel_rfl) ?_
              refine o_end (by kernel_rfl) ?_
              refine t_drop [0, 1, 2] (by kernel_rfl) ?_
              refine t_L (L' := [.blk g1 [.pointer (some ⟨g3, 0, none⟩), .slice A6 ((p2.xbytes.set (Int.toNat t9.1) e5).length) c6, .int .i64 p2.xbegin, .int .i64 p2.xn, .int .u32 p2.xlast, .bool p2.xkept] 50, .blk g3 [.bool p2.xBoard.xmade, .int .u32 p2.xBoard.xfirst, .slice A5 p2.xBoard.xruns.length c5] 76, .own A6 ((p2.xbytes.set (Int.toNat t9.1) e5).length) c6 (rowOf (encI .u8) (p2.xbytes.set (Int.toNat t9.1) e5)) 1 5]) (by kernel_rfl) ?_
              refine t_env [0, 1, 2, 26, 27, 28] (E' := [(0, .pointer (some ⟨g1, 0, none⟩)), (1, .int .u32 t2.1), (2, .slice A4 t2.2.length c4), (26, .slice A4 t2.2.length c4), (27, .int .i64 (t2.2.length : Int)), (28, .int .i64 (I64 (p1 + 1)))]) (by kernel_rfl) ?_
              exact e_inv (fun a w ha hw => ⟨k, Nat.lt_succ_self k, (I64 (p1 + 1)), (⟨p2.xBoard, (p2.xbytes.set (Int.toNat t9.1) e5), p2.xbegin, p2.xn, p2.xlast, p2.xkept⟩ : T_rbuf_Buffer_o), g3, A5, c5, A6, c6, hm, hs4, ha, hw⟩)
            · replace hm := ite_f hb5 hm
              refine w_skip (by kernel_rfl) ?_
              refine e_blk ?_
              refine e_seq ?_
              refine w_region (by kernel_rfl) ?_
              refine o_run 2 [0, 1, 2, 26, 27, 28] (l := []) .nil (E' := [(0, .pointer (some ⟨g1, 0, none⟩)), (1, .int .u32 t2.1), (2, .slice A4 t2.2.length c4), (26, .slice A4 t2.2.length c4), (27, .int .i64 (t2.2.length : Int)), (28, .int .i64 (I64 (p1 + 1)))]) (by kernel_rfl) ?_
              refine o_end (by kernel_rfl) ?_
              refine t_drop [1, 0, 2] (by kernel_rfl) ?_
              refine t_L (L' := [.blk g1 [.pointer (some ⟨g3, 0, none⟩), .slice A6 p2.xbytes.length c6, .int .i64 p2.xbegin, .int .i64 p2.xn, .int .u32 p2.xlast, .bool p2.xkept] 50, .blk g3 [.bool p2.xBoard.xmade, .int .u32 p2.xBoard.xfirst, .slice A5 p2.xBoard.xruns.length c5] 76, .own A6 p2.xbytes.length c6 (rowOf (encI .u8) p2.xbytes) 1 5]) (by kernel_rfl) ?_
              refine t_env [0, 1, 2, 26, 27, 28] (E' := [(0, .pointer (some ⟨g1, 0, none⟩)), (1, .int .u32 t2.1), (2, .slice A4 t2.2.length c4), (26, .slice A4 t2.2.length c4), (27, .int .i64 (t2.2.length : Int)), (28, .int .i64 (I64 (p1 + 1)))]) (by kernel_rfl) ?_
              exact e_inv (fun a w ha hw => ⟨k, Nat.lt_succ_self k, (I64 (p1 + 1)), p2, g3, A5, c5, A6, c6, hm, hs4, ha, hw⟩)
          · replace hm := ite_f hb4 hm
            refine w_exit 0 (by kernel_rfl) ?_
            refine e_x_seq ?_
            refine e_x_inv ?_
            refine e_x_here ?_
            refine t_drop [0, 1, 2] (by kernel_rfl) ?_
            refine t_L (L' := [.blk g1 [.pointer (some ⟨g3, 0, none⟩), .slice A6 p2.xbytes.length c6, .int .i64 p2.xbegin, .int .i64 p2.xn, .int .u32 p2.xlast, .bool p2.xkept] 50, .blk g3 [.bool p2.xBoard.xmade, .int .u32 p2.xBoard.xfirst, .slice A5 p2.xBoard.xruns.length c5] 76, .own A6 p2.xbytes.length c6 (rowOf (encI .u8) p2.xbytes) 1 5]) (by kernel_rfl) ?_
            refine t_env [0, 1, 2] (E' := [(0, .pointer (some ⟨g1, 0, none⟩)), (1, .int .u32 t2.1), (2, .slice A4 t2.2.length c4)]) (by kernel_rfl) ?_
            obtain rfl := Option.some.inj hm
            exact e_inv (fun a w ha hw => ⟨g3, A5, c5, A6, c6, hs4, ha, hw⟩)
      · exact fun a w ha hw => ⟨0, a0, g2, A1, c1, A2, c2, ht1, hs1, ha, hw⟩
def rbuf_Buffer_Out.f (k : Nat) (a0 : T_rbuf_Buffer_o) : Option (Int) :=
  ((rbuf_Buffer_ok.f a0).bind fun t1 => (if !t1 then (some 0) else ((sack_Board_Bytes.f k a0.xBoard).bind fun t2 => (some t2))))
theorem rbuf_Buffer_Out_ok (k : Nat) (a0 : T_rbuf_Buffer_o) (r : Int) (hm : rbuf_Buffer_Out.f k a0 = some r) (B G : Asn) (g1 : Nat) (g2 : Nat) (A1 : Option Addr) (c1 : Nat) (A2 : Option Addr) (c2 : Nat) (hs1 : Sl kT_sack_run B A1 c1 a0.xBoard.xruns) (w : World) (hs : St B G [.blk g1 [.pointer (some ⟨g2, 0, none⟩), .slice A2 a0.xbytes.length c2, .int .i64 a0.xbegin, .int .i64 a0.xn, .int .u32 a0.xlast, .bool a0.xkept] 50, .blk g2 [.bool a0.xBoard.xmade, .int .u32 a0.xBoard.xfirst, .slice A1 a0.xBoard.xruns.length c1] 76, .own A2 a0.xbytes.length c2 (rowOf (encI .u8) a0.xbytes) 1 5] w) :
    Calls Try.prog 20 #[.pointer (some ⟨g1, 0, none⟩)] w (Post (X := Unit) (fun x => .int .i64 r) (fun x => B) G (fun x => [.blk g1 [.pointer (some ⟨g2, 0, none⟩), .slice A2 a0.xbytes.length c2, .int .i64 a0.xbegin, .int .i64 a0.xn, .int .u32 a0.xlast, .bool a0.xkept] 50, .blk g2 [.bool a0.xBoard.xmade, .int .u32 a0.xBoard.xfirst, .slice A1 a0.xBoard.xruns.length c1] 76, .own A2 a0.xbytes.length c2 (rowOf (encI .u8) a0.xbytes) 1 5]) (fun x => True)) := by
  unfold rbuf_Buffer_Out.f at hm
  refine calls_W (F := Try.f20) Try.func20 rfl (by kernel_rfl) (L := [.blk g1 [.pointer (some ⟨g2, 0, none⟩), .slice A2 a0.xbytes.length c2, .int .i64 a0.xbegin, .int .i64 a0.xn, .int .u32 a0.xlast, .bool a0.xkept] 50, .blk g2 [.bool a0.xBoard.xmade, .int .u32 a0.xBoard.xfirst, .slice A1 a0.xBoard.xruns.length c1] 76, .own A2 a0.xbytes.length c2 (rowOf (encI .u8) a0.xbytes) 1 5]) ?_ hs
  refine w_seq 2 3 (by kernel_rfl) ?_
  refine w_region (by kernel_rfl) ?_
  refine o_run 1 [0] (l := []) .nil (E' := [(0, .pointer (some ⟨g1, 0, none⟩))]) (by kernel_rfl) ?_
  refine o_end (by kernel_rfl) ?_
  refine e_seq ?_
  refine w_seq 6 7 (by kernel_rfl) ?_
  refine w_seq 12 13 (by kernel_rfl) ?_
  refine w_region (by kernel_rfl) ?_
  refine o_run 1 [0, 3] (l := []) .nil (E' := [(0, .pointer (some ⟨g1, 0, none⟩)), (3, .pointer (some ⟨g1, 0, none⟩))]) (by kernel_rfl) ?_
  obtain ⟨t1, hx1, hm⟩ := bind_some hm
  refine o_stp ?_ (by kernel_rfl)
  refine s_call 4 27 #[.pointer (some ⟨g1, 0, none⟩)] [0, 1, 2] [] (by kernel_rfl) (by kernel_rfl) (fun w hs => rbuf_Buffer_ok_ok a0 t1 hx1 B _ g1 g2 A1 c1 A2 c2 hs1 w (St.cast (by kernel_rfl) hs)) (fun _ hx => ?_)
  refine t_L (L' := [.blk g1 [.pointer (some ⟨g2, 0, none⟩), .slice A2 a0.xbytes.length c2, .int .i64 a0.xbegin, .int .i64 a0.xn, .int .u32 a0.xlast, .bool a0.xkept] 50, .blk g2 [.bool a0.xBoard.xmade, .int .u32 a0.xBoard.xfirst, .slice A1 a0.xBoard.xruns.length c1] 76, .own A2 a0.xbytes.length c2 (rowOf (encI .u8) a0.xbytes) 1 5]) (by kernel_rfl) ?_
  refine o_run 1 [0, 5] (l := []) .nil (E' := [(0, .pointer (some ⟨g1, 0, none⟩)), (5, .bool (!t1))]) (by kernel_rfl) ?_
  refine o_end (by kernel_rfl) ?_
  refine e_seq ?_
  refine w_cond (.tmp 5) 26 27 (!t1) (by kernel_rfl) (by kernel_rfl) (fun hb1 => ?_) (fun hb1 => ?_)
  · replace hm := ite_t hb1 hm
    refine w_seq 52 53 (by kernel_rfl) ?_
    refine w_region (by kernel_rfl) ?_
    refine o_run 1 [2] (l := []) .nil (E' := [(2, .int .i64 0)]) (by kernel_rfl) ?_
    refine o_end (by kernel_rfl) ?_
    refine e_seq ?_
    refine w_ret (by kernel_rfl) ?_
    obtain rfl := Option.some.inj hm
    exact e_retP () (.int .i64 0) [0, 1, 2] (by kernel_rfl) (by kernel_rfl) rfl (by kernel_rfl) (by kernel_rfl) trivial
  · replace hm := ite_f hb1 hm
    refine w_skip (by kernel_rfl) ?_
    refine e_seq ?_
    refine w_seq 14 15 (by kernel_rfl) ?_
    refine w_region (by kernel_rfl) ?_
    refine o_run 4 [9] (l := [(⟨g1, 0, none⟩, .pointer (some ⟨g2, 0, none⟩))]) (.one (at_blk (j := 0) rfl rfl) .nil) (E' := [(9, .pointer (some ⟨g2, 0, none⟩))]) (by kernel_rfl) ?_
    obtain ⟨t2, hx2, hm⟩ := bind_some hm
    refine o_stp ?_ (by kernel_rfl)
    refine s_call 10 35 #[.pointer (some ⟨g2, 0, none⟩)] [1] [0, 2] (by kernel_rfl) (by kernel_rfl) (fun w hs => sack_Board_Bytes_ok k a0.xBoard t2 hx2 B _ g2 A1 c1 hs1 w (St.cast (by kernel_rfl) hs)) (fun _ hx => ?_)
    refine t_L (L' := [.blk g2 [.bool a0.xBoard.xmade, .int .u32 a0.xBoard.xfirst, .slice A1 a0.xBoard.xruns.length c1] 76, .blk g1 [.pointer (some ⟨g2, 0, none⟩), .slice A2 a0.xbytes.length c2, .int .i64 a0.xbegin, .int .i64 a0.xn, .int .u32 a0.xlast, .bool a0.xkept] 50, .own A2 a0.xbytes.length c2 (rowOf (encI .u8) a0.xbytes) 1 5]) (by kernel_rfl) ?_
    refine o_run 1 [2] (l := []) .nil (E' := [(2, .int .i64 t2)]) (by kernel_rfl) ?_
    refine o_end (by kernel_rfl) ?_
    refine e_seq ?_
    refine w_ret (by kernel_rfl) ?_
    obtain rfl := Option.some.inj hm
    exact e_retP () (.int .i64 t2) [1, 0, 2] (by kernel_rfl) (by kernel_rfl) rfl (by kernel_rfl) (by kernel_rfl) trivial
def rbuf_Buffer_Len.f (a0 : T_rbuf_Buffer_o) : Option (Int) :=
  ((rbuf_Buffer_ok.f a0).bind fun t1 => (if !t1 then (some 0) else (some a0.xn)))
theorem rbuf_Buffer_Len_ok (a0 : T_rbuf_Buffer_o) (r : Int) (hm : rbuf_Buffer_Len.f a0 = some r) (B G : Asn) (g1 : Nat) (g2 : Nat) (A1 : Option Addr) (c1 : Nat) (A2 : Option Addr) (c2 : Nat) (hs1 : Sl kT_sack_run B A1 c1 a0.xBoard.xruns) (w : World) (hs : St B G [.blk g1 [.pointer (some ⟨g2, 0, none⟩), .slice A2 a0.xbytes.length c2, .int .i64 a0.xbegin, .int .i64 a0.xn, .int .u32 a0.xlast, .bool a0.xkept] 50, .blk g2 [.bool a0.xBoard.xmade, .int .u32 a0.xBoard.xfirst, .slice A1 a0.xBoard.xruns.length c1] 76, .own A2 a0.xbytes.length c2 (rowOf (encI .u8) a0.xbytes) 1 5] w) :
    Calls Try.prog 14 #[.pointer (some ⟨g1, 0, none⟩)] w (Post (X := Unit) (fun x => .int .i64 r) (fun x => B) G (fun x => [.blk g1 [.pointer (some ⟨g2, 0, none⟩), .slice A2 a0.xbytes.length c2, .int .i64 a0.xbegin, .int .i64 a0.xn, .int .u32 a0.xlast, .bool a0.xkept] 50, .blk g2 [.bool a0.xBoard.xmade, .int .u32 a0.xBoard.xfirst, .slice A1 a0.xBoard.xruns.length c1] 76, .own A2 a0.xbytes.length c2 (rowOf (encI .u8) a0.xbytes) 1 5]) (fun x => True)) := by
  unfold rbuf_Buffer_Len.f at hm
  refine calls_W (F := Try.f14) Try.func14 rfl (by kernel_rfl) (L := [.blk g1 [.pointer (some ⟨g2, 0, none⟩), .slice A2 a0.xbytes.length c2, .int .i64 a0.xbegin, .int .i64 a0.xn, .int .u32 a0.xlast, .bool a0.xkept] 50, .blk g2 [.bool a0.xBoard.xmade, .int .u32 a0.xBoard.xfirst, .slice A1 a0.xBoard.xruns.length c1] 76, .own A2 a0.xbytes.length c2 (rowOf (encI .u8) a0.xbytes) 1 5]) ?_ hs
  refine w_seq 2 3 (by kernel_rfl) ?_
  refine w_region (by kernel_rfl) ?_
  refine o_run 1 [0] (l := []) .nil (E' := [(0, .pointer (some ⟨g1, 0, none⟩))]) (by kernel_rfl) ?_
  refine o_end (by kernel_rfl) ?_
  refine e_seq ?_
  refine w_seq 6 7 (by kernel_rfl) ?_
  refine w_seq 12 13 (by kernel_rfl) ?_
  refine w_region (by kernel_rfl) ?_
  refine o_run 1 [0, 3] (l := []) .nil (E' := [(0, .pointer (some ⟨g1, 0, none⟩)), (3, .pointer (some ⟨g1, 0, none⟩))]) (by kernel_rfl) ?_
  obtain ⟨t1, hx1, hm⟩ := bind_some hm
  refine o_stp ?_ (by kernel_rfl)
  refine s_call 4 27 #[.pointer (some ⟨g1, 0, none⟩)] [0, 1, 2] [] (by kernel_rfl) (by kernel_rfl) (fun w hs => rbuf_Buffer_ok_ok a0 t1 hx1 B _ g1 g2 A1 c1 A2 c2 hs1 w (St.cast (by kernel_rfl) hs)) (fun _ hx => ?_)
  refine t_L (L' := [.blk g1 [.pointer (some ⟨g2, 0, none⟩), .slice A2 a0.xbytes.length c2, .int .i64 a0.xbegin, .int .i64 a0.xn, .int .u32 a0.xlast, .bool a0.xkept] 50, .blk g2 [.bool a0.xBoard.xmade, .int .u32 a0.xBoard.xfirst, .slice A1 a0.xBoard.xruns.length c1] 76, .own A2 a0.xbytes.length c2 (rowOf (encI .u8) a0.xbytes) 1 5]) (by kernel_rfl) ?_
  refine o_run 1 [0, 5] (l := []) .nil (E' := [(0, .pointer (some ⟨g1, 0, none⟩)), (5, .bool (!t1))]) (by kernel_rfl) ?_
  refine o_end (by kernel_rfl) ?_
  refine e_seq ?_
  refine w_cond (.tmp 5) 26 27 (!t1) (by kernel_rfl) (by kernel_rfl) (fun hb1 => ?_) (fun hb1 => ?_)
  · replace hm := ite_t hb1 hm
    refine w_seq 52 53 (by kernel_rfl) ?_
    refine w_region (by kernel_rfl) ?_
    refine o_run 1 [2] (l := []) .nil (E' := [(2, .int .i64 0)]) (by kernel_rfl) ?_
    refine o_end (by kernel_rfl) ?_
    refine e_seq ?_
    refine w_ret (by kernel_rfl) ?_
    obtain rfl := Option.some.inj hm
    exact e_retP () (.int .i64 0) [0, 1, 2] (by kernel_rfl) (by kernel_rfl) rfl (by kernel_rfl) (by kernel_rfl) trivial
  · replace hm := ite_f hb1 hm
    refine w_skip (by kernel_rfl) ?_
    refine e_seq ?_
    refine w_seq 14 15 (by kernel_rfl) ?_
    refine w_region (by kernel_rfl) ?_
    refine o_run 5 [2] (l := [(⟨g1, 3, none⟩, .int .i64 a0.xn)]) (.one (at_blk (j := 0) rfl rfl) .nil) (E' := [(2, .int .i64 a0.xn)]) (by kernel_rfl) ?_
    refine o_end (by kernel_rfl) ?_
    refine e_seq ?_
    refine w_ret (by kernel_rfl) ?_
    obtain rfl := Option.some.inj hm
    exact e_retP () (.int .i64 a0.xn) [0, 1, 2] (by kernel_rfl) (by kernel_rfl) rfl (by kernel_rfl) (by kernel_rfl) trivial
def rbuf_Buffer_Read.l1 : Nat → T_rbuf_Buffer_o → (List Int) → Int → Int → (List Int) → Option ((List Int))
  | 0, _, _, _, _, _ => none
  | k + 1, a0, l1, t2, p1, p2 => (if decide (p1 < (l1.length : Int)) then ((rbuf_Buffer_place.f a0 (U32 ((U32 (t2 - (U32 a0.xn))) + (U32 p1)))).bind fun t4 => ((idx p2 p1).bind fun e2 => (rbuf_Buffer_Read.l1 k a0 l1 t2 (I64 (p1 + 1)) (p2.set (Int.toNat p1) t4.2)))) else (some p2))
def rbuf_Buffer_Read.f (k : Nat) (a0 : T_rbuf_Buffer_o) (a1 : Int) : Option ((List Int) × T_rbuf_Buffer_o) :=
  ((rbuf_Buffer_Len.f a0).bind fun t1 => (if (imin (imax a1 0) t1) == 0 then (some (([] : List Int), a0)) else ((mk (imin (imax a1 0) t1) 0).bind fun l1 => ((rbuf_Buffer_Next.f a0).bind fun t2 => ((rbuf_Buffer_Read.l1 k a0 l1 t2 0 l1).bind fun t3 => ((divr (I64 (a0.xbegin + (imin (imax a1 0) t1))) (a0.xbytes.length : Int)).bind fun e1 => (some (t3, (⟨a0.xBoard, a0.xbytes, e1, I64 (a0.xn - (imin (imax a1 0) t1)), a0.xlast, a0.xkept⟩ : T_rbuf_Buffer_o)))))))))
theorem rbuf_Buffer_Read_ok (k : Nat) (a0 : T_rbuf_Buffer_o) (a1 : Int) (r : (List Int) × T_rbuf_Buffer_o) (hm : rbuf_Buffer_Read.f k a0 a1 = some r) (B G : Asn) (g1 : Nat) (g2 : Nat) (A1 : Option Addr) (c1 : Nat) (A2 : Option Addr) (c2 : Nat) (hs1 : Sl kT_sack_run B A1 c1 a0.xBoard.xruns) (w : World) (hs : St B G [.blk g1 [.pointer (some ⟨g2, 0, none⟩), .slice A2 a0.xbytes.length c2, .int .i64 a0.xbegin, .int .i64 a0.xn, .int .u32 a0.xlast, .bool a0.xkept] 50, .blk g2 [.bool a0.xBoard.xmade, .int .u32 a0.xBoard.xfirst, .slice A1 a0.xBoard.xruns.length c1] 76, .own A2 a0.xbytes.length c2 (rowOf (encI .u8) a0.xbytes) 1 5] w) :
    Calls Try.prog 11 #[.pointer (some ⟨g1, 0, none⟩), .int .i64 a1] w (Post (X := (Option Addr) × Nat × Nat × (Option Addr) × Nat × (Option Addr) × Nat) (fun x => .slice x.1 r.1.length x.2.1) (fun x => B) G (fun x => [.own x.1 r.1.length x.2.1 (rowOf (encI .u8) r.1) 1 5, .blk g1 [.pointer (some ⟨x.2.2.1, 0, none⟩), .slice x.2.2.2.2.2.1 r.2.xbytes.length x.2.2.2.2.2.2, .int .i64 r.2.xbegin, .int .i64 r.2.xn, .int .u32 r.2.xlast, .bool r.2.xkept] 50, .blk x.2.2.1 [.bool r.2.xBoard.xmade, .int .u32 r.2.xBoard.xfirst, .slice x.2.2.2.1 r.2.xBoard.xruns.length x.2.2.2.2.1] 76, .own x.2.2.2.2.2.1 r.2.xbytes.length x.2.2.2.2.2.2 (rowOf (encI .u8) r.2.xbytes) 1 5]) (fun x => (Sl kT_sack_run B x.2.2.2.1 x.2.2.2.2.1 r.2.xBoard.xruns))) := by
  unfold rbuf_Buffer_Read.f at hm
  refine calls_W (F := Try.f11) Try.func11 rfl (by kernel_rfl) (L := [.blk g1 [.pointer (some ⟨g2, 0, none⟩), .slice A2 a0.xbytes.length c2, .int .i64 a0.xbegin, .int .i64 a0.xn, .int .u32 a0.xlast, .bool a0.xkept] 50, .blk g2 [.bool a0.xBoard.xmade, .int .u32 a0.xBoard.xfirst, .slice A1 a0.xBoard.xruns.length c1] 76, .own A2 a0.xbytes.length c2 (rowOf (encI .u8) a0.xbytes) 1 5]) ?_ hs
  refine w_seq 2 3 (by kernel_rfl) ?_
  refine w_region (by kernel_rfl) ?_
  refine o_run 1 [0, 1] (l := []) .nil (E' := [(0, .pointer (some ⟨g1, 0, none⟩)), (1, .int .i64 a1)]) (by kernel_rfl) ?_
  refine o_end (by kernel_rfl) ?_
  refine e_seq ?_
  refine w_seq 6 7 (by kernel_rfl) ?_
  refine w_region (by kernel_rfl) ?_
  refine o_run 3 [0, 9, 10] (l := []) .nil (E' := [(0, .pointer (some ⟨g1, 0, none⟩)), (9, .int .i64 (imax a1 0)), (10, .pointer (some ⟨g1, 0, none⟩))]) (by kernel_rfl) ?_
  obtain ⟨t1, hx1, hm⟩ := bind_some hm
  refine o_stp ?_ (by kernel_rfl)
  refine s_call 11 14 #[.pointer (some ⟨g1, 0, none⟩)] [0, 1, 2] [] (by kernel_rfl) (by kernel_rfl) (fun w hs => rbuf_Buffer_Len_ok a0 t1 hx1 B _ g1 g2 A1 c1 A2 c2 hs1 w (St.cast (by kernel_rfl) hs)) (fun _ hx => ?_)
  refine t_L (L' := [.blk g1 [.pointer (some ⟨g2, 0, none⟩), .slice A2 a0.xbytes.length c2, .int .i64 a0.xbegin, .int .i64 a0.xn, .int .u32 a0.xlast, .bool a0.xkept] 50, .blk g2 [.bool a0.xBoard.xmade, .int .u32 a0.xBoard.xfirst, .slice A1 a0.xBoard.xruns.length c1] 76, .own A2 a0.xbytes.length c2 (rowOf (encI .u8) a0.xbytes) 1 5]) (by kernel_rfl) ?_
  refine o_run 2 [0, 1] (l := []) .nil (E' := [(0, .pointer (some ⟨g1, 0, none⟩)), (1, .int .i64 (imin (imax a1 0) t1))]) (by kernel_rfl) ?_
  refine o_end (by kernel_rfl) ?_
  refine e_seq ?_
  refine w_seq 14 15 (by kernel_rfl) ?_
  refine w_seq 28 29 (by kernel_rfl) ?_
  refine w_region (by kernel_rfl) ?_
  refine o_run 2 [0, 1, 14] (l := []) .nil (E' := [(0, .pointer (some ⟨g1, 0, none⟩)), (1, .int .i64 (imin (imax a1 0) t1)), (14, .bool ((imin (imax a1 0) t1) == 0))]) (by kernel_rfl) ?_
  refine o_end (by kernel_rfl) ?_
  refine e_seq ?_
  refine w_cond (.tmp 14) 58 59 ((imin (imax a1 0) t1) == 0) (by kernel_rfl) (by kernel_rfl) (fun hb1 => ?_) (fun hb1 => ?_)
  · replace hm := ite_t hb1 hm
    refine w_seq 116 117 (by kernel_rfl) ?_
    refine w_region (by kernel_rfl) ?_
    refine o_run 1 [4] (l := []) .nil (E' := [(4, .slice none 0 0)]) (by kernel_rfl) ?_
    refine o_end (by kernel_rfl) ?_
    refine e_seq ?_
    refine w_ret (by kernel_rfl) ?_
    refine t_nil 5 1 ?_
    refine t_L (L' := [.own none (([] : List Int).length) 0 (rowOf (encI .u8) ([] : List Int)) 1 5, .blk g1 [.pointer (some ⟨g2, 0, none⟩), .slice A2 a0.xbytes.length c2, .int .i64 a0.xbegin, .int .i64 a0.xn, .int .u32 a0.xlast, .bool a0.xkept] 50, .blk g2 [.bool a0.xBoard.xmade, .int .u32 a0.xBoard.xfirst, .slice A1 a0.xBoard.xruns.length c1] 76, .own A2 a0.xbytes.length c2 (rowOf (encI .u8) a0.xbytes) 1 5]) (by kernel_rfl) ?_
    obtain rfl := Option.some.inj hm
    exact e_retP (none, 0, g2, A1, c1, A2, c2) (.slice none (([] : List Int).length) 0) [0, 1, 2, 3] (by kernel_rfl) (by kernel_rfl) rfl (by kernel_rfl) (by kernel_rfl) hs1
  · replace hm := ite_f hb1 hm
    refine w_skip (by kernel_rfl) ?_
    refine e_seq ?_
    refine w_seq 30 31 (by kernel_rfl) ?_
    refine w_region (by kernel_rfl) ?_
    refine o_run 1 [0, 1, 15] (l := []) .nil (E' := [(0, .pointer (some ⟨g1, 0, none⟩)), (1, .int .i64 (imin (imax a1 0) t1)), (15, .int .i64 (imin (imax a1 0) t1))]) (by kernel_rfl) ?_
    obtain ⟨l1, hx2, hm⟩ := bind_some hm
    obtain ⟨n1, hn1, hn2, hn3⟩ := mk_some hx2
    refine o_stp ?_ (by kernel_rfl)
    refine s_make (kl := .i64) (kc := .i64) (bytes := 1) (e := 5) 16 32 (.tmp 15) (.tmp 15) (z := .int .u8 0) (zx := 0) (enc := (encI .u8)) hn3 (by kernel_rfl) (ev_int (by kernel_rfl) hn1) (ev_int (by kernel_rfl) hn1) (by kernel_rfl) (by kernel_rfl) rfl rfl (by omega) (by omega) rfl (fun A3 => ?_)
    refine o_run 1 [0, 1, 5] (l := []) .nil (E' := [(0, .pointer (some ⟨g1, 0, none⟩)), (1, .int .i64 (imin (imax a1 0) t1)), (5, .slice A3 l1.length l1.length)]) (by kernel_rfl) ?_
    refine o_end (by kernel_rfl) ?_
    refine e_seq ?_
    refine w_seq 62 63 (by kernel_rfl) ?_
    obtain ⟨t2, hx3, hm⟩ := bind_some hm
    refine w_tail 7 [.own A3 l1.length l1.length (rowOf (encI .u8) l1) 1 5, .blk g1 [.pointer (some ⟨g2, 0, none⟩), .slice A2 a0.xbytes.length c2, .int .i64 a0.xbegin, .int .i64 a0.xn, .int .u32 a0.xlast, .bool a0.xkept] 50, .blk g2 [.bool a0.xBoard.xmade, .int .u32 a0.xBoard.xfirst, .slice A1 a0.xBoard.xruns.length c1] 76, .own A2 a0.xbytes.length c2 (rowOf (encI .u8) a0.xbytes) 1 5] (by kernel_rfl) mixed (by kernel_rfl) ?_
    refine tt_run [0, 2, 3, 4, 5, 6] [0, 1, 5, 17, 23] [0, 1, 2, 3] 1 (listed' := #[true, false, true, true, true, true, true, false, false]) (l := [(⟨g1, 3, none⟩, .int .i64 a0.xn)]) (.one (at_blk (j := 1) rfl rfl) .nil) (E' := [(0, .pointer (some ⟨g1, 0, none⟩)), (1, .int .i64 (imin (imax a1 0) t1)), (5, .slice A3 l1.length l1.length), (17, .pointer (some ⟨g1, 0, none⟩)), (23, .int .u32 (U32 a0.xn))]) (by kernel_rfl) (by kernel_rfl) (by kernel_rfl) (Ext.refl _) (by kernel_rfl) (by kernel_rfl) ?_
    refine tt_stp 1 [0, 1, 2, 3] (Ext.refl _) (by kernel_rfl) (by kernel_rfl) (by kernel_rfl) (by kernel_rfl) ?_
    refine s_call 18 13 #[.pointer (some ⟨g1, 0, none⟩)] [1, 2, 3] [0] (by kernel_rfl) (by kernel_rfl) (fun w hs => rbuf_Buffer_Next_ok a0 t2 hx3 B _ g1 g2 A1 c1 A2 c2 hs1 w (St.cast (by kernel_rfl) hs)) (fun _ hx => ?_)
    refine t_L (L' := [.blk g1 [.pointer (some ⟨g2, 0, none⟩), .slice A2 a0.xbytes.length c2, .int .i64 a0.xbegin, .int .i64 a0.xn, .int .u32 a0.xlast, .bool a0.xkept] 50, .blk g2 [.bool a0.xBoard.xmade, .int .u32 a0.xBoard.xfirst, .slice A1 a0.xBoard.xruns.length c1] 76, .own A2 a0.xbytes.length c2 (rowOf (encI .u8) a0.xbytes) 1 5, .own A3 l1.length l1.length (rowOf (encI .u8) l1) 1 5]) (by kernel_rfl) ?_
    refine tt_end [3, 0, 1, 2] (Ext.refl _) (by kernel_rfl) (by kernel_rfl) (by kernel_rfl) ?_
    refine o_run 2 [0, 1, 5, 6] (l := []) .nil (E' := [(0, .pointer (some ⟨g1, 0, none⟩)), (1, .int .i64 (imin (imax a1 0) t1)), (5, .slice A3 l1.length l1.length), (6, .int .u32 (U32 (t2 - (U32 a0.xn))))]) (by kernel_rfl) ?_
    refine o_end (by kernel_rfl) ?_
    refine e_seq ?_
    refine w_seq 126 127 (by kernel_rfl) ?_
    refine w_seq 252 253 (by kernel_rfl) ?_
    refine w_region (by kernel_rfl) ?_
    refine o_run 3 [0, 1, 5, 6, 26, 27] (l := []) .nil (E' := [(0, .pointer (some ⟨g1, 0, none⟩)), (1, .int .i64 (imin (imax a1 0) t1)), (5, .slice A3 l1.length l1.length), (6, .int .u32 (U32 (t2 - (U32 a0.xn)))), (26, .int .i64 (l1.length : Int)), (27, .int .i64 0)]) (by kernel_rfl) ?_
    refine o_end (by kernel_rfl) ?_
    refine e_seq ?_
    refine w_block 0 506 (by kernel_rfl) ?_
    obtain ⟨t3, ht1, ho1⟩ := bind_some hm
    refine t_env [0, 1, 5, 6, 26, 27] (E' := [(0, .pointer (some ⟨g1, 0, none⟩)), (1, .int .i64 (imin (imax a1 0) t1)), (5, .slice A3 l1.length l1.length), (6, .int .u32 (U32 (t2 - (U32 a0.xn)))), (26, .int .i64 (l1.length : Int)), (27, .int .i64 0)]) (by kernel_rfl) ?_
    refine w_loopJ 1012 0 (fun k a w => ∃ (p1 : Int) (p2 : List Int), rbuf_Buffer_Read.l1 k a0 l1 t2 p1 p2 = some t3 ∧ l1.length = p2.length ∧ EnvOk [(0, .pointer (some ⟨g1, 0, none⟩)), (1, .int .i64 (imin (imax a1 0) t1)), (5, .slice A3 l1.length l1.length), (6, .int .u32 (U32 (t2 - (U32 a0.xn)))), (26, .int .i64 (l1.length : Int)), (27, .int .i64 p1)] Try.f11.ntmps a ∧ St B G [.blk g1 [.pointer (some ⟨g2, 0, none⟩), .slice A2 a0.xbytes.length c2, .int .i64 a0.xbegin, .int .i64 a0.xn, .int .u32 a0.xlast, .bool a0.xkept] 50, .blk g2 [.bool a0.xBoard.xmade, .int .u32 a0.xBoard.xfirst, .slice A1 a0.xBoard.xruns.length c1] 76, .own A2 a0.xbytes.length c2 (rowOf (encI .u8) a0.xbytes) 1 5, .own A3 l1.length l1.length (rowOf (encI .u8) p2) 1 5] w) (fun a w => l1.length = (t3).length ∧ EnvOk [(0, .pointer (some ⟨g1, 0, none⟩)), (1, .int .i64 (imin (imax a1 0) t1)), (5, .slice A3 l1.length l1.length)] Try.f11.ntmps a ∧ St B G [.blk g1 [.pointer (some ⟨g2, 0, none⟩), .slice A2 a0.xbytes.length c2, .int .i64 a0.xbegin, .int .i64 a0.xn, .int .u32 a0.xlast, .bool a0.xkept] 50, .blk g2 [.bool a0.xBoard.xmade, .int .u32 a0.xBoard.xfirst, .slice A1 a0.xBoard.xruns.length c1] 76, .own A2 a0.xbytes.length c2 (rowOf (encI .u8) a0.xbytes) 1 5, .own A3 l1.length l1.length (rowOf (encI .u8) t3) 1 5] w) (by kernel_rfl) ?_ ?_ k ?_
    · rintro a w ⟨hn5, ha, hw⟩
      refine we_of (E := [(0, .pointer (some ⟨g1, 0, none⟩)), (1, .int .i64 (imin (imax a1 0) t1)), (5, .slice A3 l1.length l1.length)]) (B := B) (G := G) (L := [.blk g1 [.pointer (some ⟨g2, 0, none⟩), .slice A2 a0.xbytes.length c2, .int .i64 a0.xbegin, .int .i64 a0.xn, .int .u32 a0.xlast, .bool a0.xkept] 50, .blk g2 [.bool a0.xBoard.xmade, .int .u32 a0.xBoard.xfirst, .slice A1 a0.xBoard.xruns.length c1] 76, .own A2 a0.xbytes.length c2 (rowOf (encI .u8) a0.xbytes) 1 5, .own A3 l1.length l1.length (rowOf (encI .u8) t3) 1 5]) ?_ ha hw
      have hm := ho1
      refine e_seq ?_
      refine w_seq 254 255 (by kernel_rfl) ?_
      refine w_region (by kernel_rfl) ?_
      refine o_run 8 [0, 1, 5, 47, 49] (l := [(⟨g1, 3, none⟩, .int .i64 a0.xn)]) (.one (at_blk (j := 0) rfl rfl) .nil) (E' := [(0, .pointer (some ⟨g1, 0, none⟩)), (1, .int .i64 (imin (imax a1 0) t1)), (5, .slice A3 l1.length l1.length), (47, .int .i64 (I64 (a0.xn - (imin (imax a1 0) t1)))), (49, .pointer (some ⟨g1, 3, none⟩))]) (by kernel_rfl) ?_
      refine o_stp ?_ (by kernel_rfl)
      refine s_store 0 g1 [.pointer (some ⟨g2, 0, none⟩), .slice A2 a0.xbytes.length c2, .int .i64 a0.xbegin, .int .i64 a0.xn, .int .u32 a0.xlast, .bool a0.xkept] 50 [(3, .int .i64 (I64 (a0.xn - (imin (imax a1 0) t1))))] (by kernel_rfl) (by kernel_rfl) (by kernel_rfl) ?_
      refine t_L (L' := [.blk g1 [.pointer (some ⟨g2, 0, none⟩), .slice A2 a0.xbytes.length c2, .int .i64 a0.xbegin, .int .i64 (I64 (a0.xn - (imin (imax a1 0) t1))), .int .u32 a0.xlast, .bool a0.xkept] 50, .blk g2 [.bool a0.xBoard.xmade, .int .u32 a0.xBoard.xfirst, .slice A1 a0.xBoard.xruns.length c1] 76, .own A2 a0.xbytes.length c2 (rowOf (encI .u8) a0.xbytes) 1 5, .own A3 l1.length l1.length (rowOf (encI .u8) t3) 1 5]) (by kernel_rfl) ?_
      refine o_end (by kernel_rfl) ?_
      refine e_seq ?_
      refine w_seq 510 511 (by kernel_rfl) ?_
      obtain ⟨e1, hx4, hm⟩ := bind_some hm
      refine w_tail 13 [.blk g1 [.pointer (some ⟨g2, 0, none⟩), .slice A2 a0.xbytes.length c2, .int .i64 a0.xbegin, .int .i64 (I64 (a0.xn - (imin (imax a1 0) t1))), .int .u32 a0.xlast, .bool a0.xkept] 50, .blk g2 [.bool a0.xBoard.xmade, .int .u32 a0.xBoard.xfirst, .slice A1 a0.xBoard.xruns.length c1] 76, .own A2 a0.xbytes.length c2 (rowOf (encI .u8) a0.xbytes) 1 5, .own A3 l1.length l1.length (rowOf (encI .u8) t3) 1 5] (by kernel_rfl) mixed (by kernel_rfl) ?_
      refine tt_run [0, 1, 2, 3, 4, 5, 6, 7, 8, 9, 10, 11] [5, 50, 56, 61] [0, 1, 2, 3] 1 (listed' := #[true, true, true, true, true, true, true, true, true, true, true, true, false, false, false, false]) (l := [(⟨g1, 2, none⟩, .int .i64 a0.xbegin), (⟨g1, 1, none⟩, .slice A2 a0.xbytes.length c2)]) (.one (at_blk (j := 0) rfl rfl) (.one (at_blk (j := 0) rfl rfl) .nil)) (E' := [(5, .slice A3 l1.length l1.length), (50, .pointer (some ⟨g1, 0, none⟩)), (56, .int .i64 (I64 (a0.xbegin + (imin (imax a1 0) t1)))), (61, .int .i64 (a0.xbytes.length : Int))]) (by kernel_rfl) (by kernel_rfl) (by kernel_rfl) (Ext.refl _) (by kernel_rfl) (by kernel_rfl) ?_
      refine tt_val 12 62 (.binOp .rem 3 (.tmp 56) (.tmp 61) 3) (.int .i64 e1) [0, 1, 2, 3] (by kernel_rfl) (v_rem hx4 (by kernel_rfl) (by kernel_rfl)) (by kernel_rfl) (Ext.refl _) (by kernel_rfl) (by kernel_rfl) ?_
      refine tt_end [0, 1, 2, 3] (Ext.refl _) (by kernel_rfl) (by kernel_rfl) (by kernel_rfl) ?_
      refine o_run 2 [5, 62, 64] (l := []) .nil (E' := [(5, .slice A3 l1.length l1.length), (62, .int .i64 e1), (64, .pointer (some ⟨g1, 2, none⟩))]) (by kernel_rfl) ?_
      refine o_stp ?_ (by kernel_rfl)
      refine s_store 0 g1 [.pointer (some ⟨g2, 0, none⟩), .slice A2 a0.xbytes.length c2, .int .i64 a0.xbegin, .int .i64 (I64 (a0.xn - (imin (imax a1 0) t1))), .int .u32 a0.xlast, .bool a0.xkept] 50 [(2, .int .i64 e1)] (by kernel_rfl) (by kernel_rfl) (by kernel_rfl) ?_
      refine t_L (L' := [.blk g1 [.pointer (some ⟨g2, 0, none⟩), .slice A2 a0.xbytes.length c2, .int .i64 e1, .int .i64 (I64 (a0.xn - (imin (imax a1 0) t1))), .int .u32 a0.xlast, .bool a0.xkept] 50, .blk g2 [.bool a0.xBoard.xmade, .int .u32 a0.xBoard.xfirst, .slice A1 a0.xBoard.xruns.length c1] 76, .own A2 a0.xbytes.length c2 (rowOf (encI .u8) a0.xbytes) 1 5, .own A3 l1.length l1.length (rowOf (encI .u8) t3) 1 5]) (by kernel_rfl) ?_
      refine o_end (by kernel_rfl) ?_
      refine e_seq ?_
      refine w_seq 1022 1023 (by kernel_rfl) ?_
      refine w_region (by kernel_rfl) ?_
      refine o_run 2 [4] (l := []) .nil (E' := [(4, .slice A3 l1.length l1.length)]) (by kernel_rfl) ?_
      refine o_end (by kernel_rfl) ?_
      refine e_seq ?_
      refine w_ret (by kernel_rfl) ?_
      refine t_env [4] (E' := [(4, .slice A3 l1.length l1.length)]) (by kernel_rfl) ?_
      refine t_EL (E' := [(4, .slice A3 t3.length l1.length)]) (L' := [.blk g1 [.pointer (some ⟨g2, 0, none⟩), .slice A2 a0.xbytes.length c2, .int .i64 e1, .int .i64 (I64 (a0.xn - (imin (imax a1 0) t1))), .int .u32 a0.xlast, .bool a0.xkept] 50, .blk g2 [.bool a0.xBoard.xmade, .int .u32 a0.xBoard.xfirst, .slice A1 a0.xBoard.xruns.length c1] 76, .own A2 a0.xbytes.length c2 (rowOf (encI .u8) a0.xbytes) 1 5, .own A3 t3.length l1.length (rowOf (encI .u8) t3) 1 5]) (eq_of_len hn5 (fun n => ([(4, .slice A3 n l1.length)], [.blk g1 [.pointer (some ⟨g2, 0, none⟩), .slice A2 a0.xbytes.length c2, .int .i64 e1, .int .i64 (I64 (a0.xn - (imin (imax a1 0) t1))), .int .u32 a0.xlast, .bool a0.xkept] 50, .blk g2 [.bool a0.xBoard.xmade, .int .u32 a0.xBoard.xfirst, .slice A1 a0.xBoard.xruns.length c1] 76, .own A2 a0.xbytes.length c2 (rowOf (encI .u8) a0.xbytes) 1 5, .own A3 n l1.length (rowOf (encI .u8) t3) 1 5])) rfl rfl) ?_
      obtain rfl := Option.some.inj hm
      exact e_retP (A3, l1.length, g2, A1, c1, A2, c2) (.slice A3 t3.length l1.length) [3, 0, 1, 2] (by kernel_rfl) (by kernel_rfl) rfl (by kernel_rfl) (by kernel_rfl) hs1
    · rintro k a w ⟨p1, p2, hm, hn4, ha, hw⟩
      cases k with
      | zero => exact absurd hm (by simp [rbuf_Buffer_Read.l1])
      | succ k =>
        unfold rbuf_Buffer_Read.l1 at hm
        refine wc_of (E := [(0, .pointer (some ⟨g1, 0, none⟩)), (1, .int .i64 (imin (imax a1 0) t1)), (5, .slice A3 l1.length l1.length), (6, .int .u32 (U32 (t2 - (U32 a0.xn)))), (26, .int .i64 (l1.length : Int)), (27, .int .i64 p1)]) (B := B) (G := G) (L := [.blk g1 [.pointer (some ⟨g2, 0, none⟩), .slice A2 a0.xbytes.length c2, .int .i64 a0.xbegin, .int .i64 a0.xn, .int .u32 a0.xlast, .bool a0.xkept] 50, .blk g2 [.bool a0.xBoard.xmade, .int .u32 a0.xBoard.xfirst, .slice A1 a0.xBoard.xruns.length c1] 76, .own A2 a0.xbytes.length c2 (rowOf (encI .u8) a0.xbytes) 1 5, .own A3 l1.length l1.length (rowOf (encI .u8) p2) 1 5]) ?_ ha hw
        refine w_seq 2024 2025 (by kernel_rfl) ?_
        refine w_region (by kernel_rfl) ?_
        refine o_run 1 [0, 1, 5, 6, 26, 27, 28] (l := []) .nil (E' := [(0, .pointer (some ⟨g1, 0, none⟩)), (1, .int .i64 (imin (imax a1 0) t1)), (5, .slice A3 l1.length l1.length), (6, .int .u32 (U32 (t2 - (U32 a0.xn)))), (26, .int .i64 (l1.length : Int)), (27, .int .i64 p1), (28, .bool (decide (p1 < (l1.length : Int))))]) (by kernel_rfl) ?_
        refine o_end (by kernel_rfl) ?_
        refine e_seq ?_
        refine w_seq 4050 4051 (by kernel_rfl) ?_
        refine w_cond (.tmp 28) 8100 8101 (decide (p1 < (l1.length : Int))) (by kernel_rfl) (by kernel_rfl) (fun hb2 => ?_) (fun hb2 => ?_)
        · replace hm := ite_t hb2 hm
          refine w_skip (by kernel_rfl) ?_
          refine e_seq ?_
          refine w_seq 8102 8103 (by kernel_rfl) ?_
          refine w_block 1 16204 (by kernel_rfl) ?_
          refine w_seq 32408 32409 (by kernel_rfl) ?_
          refine w_region (by kernel_rfl) ?_
          refine o_run 2 [0, 1, 5, 6, 7, 26, 27] (l := []) .nil (E' := [(0, .pointer (some ⟨g1, 0, none⟩)), (1, .int .i64 (imin (imax a1 0) t1)), (5, .slice A3 l1.length l1.length), (6, .int .u32 (U32 (t2 - (U32 a0.xn)))), (7, .int .i64 p1), (26, .int .i64 (l1.length : Int)), (27, .int .i64 p1)]) (by kernel_rfl) ?_
          refine o_end (by kernel_rfl) ?_
          refine e_seq ?_
          refine w_region (by kernel_rfl) ?_
          refine o_run 7 [0, 1, 5, 6, 26, 27, 30, 31, 32, 36] (l := []) .nil (E' := [(0, .pointer (some ⟨g1, 0, none⟩)), (1, .int .i64 (imin (imax a1 0) t1)), (5, .slice A3 l1.length l1.length), (6, .int .u32 (U32 (t2 - (U32 a0.xn)))), (26, .int .i64 (l1.length : Int)), (27, .int .i64 p1), (30, .slice A3 l1.length l1.length), (31, .int .i64 p1), (32, .pointer (some ⟨g1, 0, none⟩)), (36, .int .u32 (U32 ((U32 (t2 - (U32 a0.xn))) + (U32 p1))))]) (by kernel_rfl) ?_
          obtain ⟨t4, hx5, hm⟩ := bind_some hm
          refine o_stp ?_ (by kernel_rfl)
          refine s_call 37 26 #[.pointer (some ⟨g1, 0, none⟩), .int .u32 (U32 ((U32 (t2 - (U32 a0.xn))) + (U32 p1)))] [0, 1, 2] [3] (by kernel_rfl) (by kernel_rfl) (fun w hs => rbuf_Buffer_place_ok a0 (U32 ((U32 (t2 - (U32 a0.xn))) + (U32 p1))) t4 hx5 B _ g1 g2 A1 c1 A2 c2 hs1 w (St.cast (by kernel_rfl) hs)) (fun _ hx => ?_)
          have hg1 := hx
          refine t_L (L' := [.blk g1 [.pointer (some ⟨g2, 0, none⟩), .slice A2 a0.xbytes.length c2, .int .i64 a0.xbegin, .int .i64 a0.xn, .int .u32 a0.xlast, .bool a0.xkept] 50, .blk g2 [.bool a0.xBoard.xmade, .int .u32 a0.xBoard.xfirst, .slice A1 a0.xBoard.xruns.length c1] 76, .own A2 a0.xbytes.length c2 (rowOf (encI .u8) a0.xbytes) 1 5, .own A3 l1.length l1.length (rowOf (encI .u8) p2) 1 5]) (by kernel_rfl) ?_
          refine o_run 2 [0, 1, 5, 6, 26, 27, 30, 31, 39] (l := [((adr A2 (Int.toNat t4.1 * 1)), .int .u8 t4.2)]) (.one ((At.sub (l := (encI .u8) t4.2) 0 (at_own (j := 2) (off := Int.toNat t4.1 * 1) rfl (row_at (enc := (encI .u8)) (sz := 1) (fun _ => rfl) hg1)) rfl)) .nil) (E' := [(0, .pointer (some ⟨g1, 0, none⟩)), (1, .int .i64 (imin (imax a1 0) t1)), (5, .slice A3 l1.length l1.length), (6, .int .u32 (U32 (t2 - (U32 a0.xn)))), (26, .int .i64 (l1.length : Int)), (27, .int .i64 p1), (30, .slice A3 l1.length l1.length), (31, .int .i64 p1), (39, .int .u8 t4.2)]) (by kernel_rfl) ?_
          obtain ⟨e2, hx6, hm⟩ := bind_some hm
          obtain ⟨hi1, hi2, hg2⟩ := idx_some hx6
          refine o_val 40 (.indexAddr 32 (.tmp 30) (.tmp 31)) (.pointer (some (adr A3 (Int.toNat p1 * 1)))) (by kernel_rfl) (v_index (k := .i64) (c := l1.length) (by kernel_rfl) (by kernel_rfl) (by kernel_rfl) hi1 (len_lt hn4 hi2) (own_some (j := 3) rfl (len_lt hn4 hi2) hi1)) ?_
          refine o_stp ?_ (by kernel_rfl)
          refine s_setE (enc := (encI .u8)) (v := .int .u8 t4.2) 5 (.tmp 40) (.tmp 39) 3 (x := t4.2) (by kernel_rfl) (by kernel_rfl) (by kernel_rfl) rfl (by kernel_rfl) rfl (fun _ => rfl) hg2 (fun u hu => by cases List.mem_singleton.1 hu; rfl) (by decide) ?_
          have hl1 : l1.length = (p2.set (Int.toNat p1) t4.2).length := Eq.trans hn4 List.length_set.symm
          refine o_end (by kernel_rfl) ?_
          refine e_blk ?_
          refine e_seq ?_
          refine w_region (by kernel_rfl) ?_
          refine o_run 2 [0, 1, 5, 6, 26, 27] (l := []) .nil (E' := [(0, .pointer (some ⟨g1, 0, none⟩)), (1, .int .i64 (imin (imax a1 0) t1)), (5, .slice A3 l1.length l1.length), (6, .int .u32 (U32 (t2 - (U32 a0.xn)))), (26, .int .i64 (l1.length : Int)), (27, .int .i64 (I64 (p1 + 1)))]) (by kernel_rfl) ?_
          refine o_end (by kernel_rfl) ?_
          refine t_drop [0, 1, 2, 3] (by kernel_rfl) ?_
          refine t_L (L' := [.blk g1 [.pointer (some ⟨g2, 0, none⟩), .slice A2 a0.xbytes.length c2, .int .i64 a0.xbegin, .int .i64 a0.xn, .int .u32 a0.xlast, .bool a0.xkept] 50, .blk g2 [.bool a0.xBoard.xmade, .int .u32 a0.xBoard.xfirst, .slice A1 a0.xBoard.xruns.length c1] 76, .own A2 a0.xbytes.length c2 (rowOf (encI .u8) a0.xbytes) 1 5, .own A3 l1.length l1.length (rowOf (encI .u8) (p2.set (Int.toNat p1) t4.2)) 1 5]) (by kernel_rfl) ?_
          refine t_env [0, 1, 5, 6, 26, 27] (E' := [(0, .pointer (some ⟨g1, 0, none⟩)), (1, .int .i64 (imin (imax a1 0) t1)), (5, .slice A3 l1.length l1.length), (6, .int .u32 (U32 (t2 - (U32 a0.xn)))), (26, .int .i64 (l1.length : Int)), (27, .int .i64 (I64 (p1 + 1)))]) (by kernel_rfl) ?_
          exact e_inv (fun a w ha hw => ⟨k, Nat.lt_succ_self k, (I64 (p1 + 1)), (p2.set (Int.toNat p1) t4.2), hm, hl1, ha, hw⟩)
        · replace hm := ite_f hb2 hm
          refine w_exit 0 (by kernel_rfl) ?_
          refine e_x_seq ?_
          refine e_x_inv ?_
          refine e_x_here ?_
          refine t_drop [0, 1, 2, 3] (by kernel_rfl) ?_
          refine t_L (L' := [.blk g1 [.pointer (some ⟨g2, 0, none⟩), .slice A2 a0.xbytes.length c2, .int .i64 a0.xbegin, .int .i64 a0.xn, .int .u32 a0.xlast, .bool a0.xkept] 50, .blk g2 [.bool a0.xBoard.xmade, .int .u32 a0.xBoard.xfirst, .slice A1 a0.xBoard.xruns.length c1] 76, .own A2 a0.xbytes.length c2 (rowOf (encI .u8) a0.xbytes) 1 5, .own A3 l1.length l1.length (rowOf (encI .u8) p2) 1 5]) (by kernel_rfl) ?_
          refine t_env [0, 1, 5] (E' := [(0, .pointer (some ⟨g1, 0, none⟩)), (1, .int .i64 (imin (imax a1 0) t1)), (5, .slice A3 l1.length l1.length)]) (by kernel_rfl) ?_
          obtain rfl := Option.some.inj hm
          exact e_inv (fun a w ha hw => ⟨hn4, ha, hw⟩)
    · exact fun a w ha hw => ⟨0, l1, ht1, rfl, ha, hw⟩
def downhaullaw26_alive.f (k : Nat) : Option (Bool) :=
  ((rbuf_New.f 10 5).bind fun t1 => optE t1.1 (some false) (fun y1 => (if t1.2 == 0 then ((rbuf_Buffer_Insert.f k y1 7 [99, 100]).bind fun t2 => (if t2.1 == 0 then ((rbuf_Buffer_Out.f k t2.2).bind fun t3 => (if t3 == 2 then ((rbuf_Buffer_Insert.f k t2.2 5 [97, 98]).bind fun t4 => (if t4.1 == 4 then ((rbuf_Buffer_Read.f k t4.2 9).bind fun t5 => (if (strOf t5.1).toList == (⟨#[97, 98, 99, 100]⟩ : ByteArray).toList then ((rbuf_Buffer_Next.f t5.2).bind fun t6 => (some (t6 == 9))) else (some false))) else (some false))) else (some false))) else (some false))) else (some false))))
theorem downhaullaw26_alive_ok (k : Nat) (r : Bool) (hm : downhaullaw26_alive.f k = some r) (B G : Asn) (w : World) (hs : St B G [] w) :
    Calls Try.prog 9 #[] w (Post (X := Asn) (fun x => .bool r) (fun x => x) G (fun x => []) (fun x => (Ext B x))) := by
  unfold downhaullaw26_alive.f at hm
  refine calls_W (F := Try.f9) Try.func9 rfl (by kernel_rfl) (L := []) ?_ hs
  refine w_seq 2 3 (by kernel_rfl) ?_
  refine w_region (by kernel_rfl) ?_
  refine o_run 1 [] (l := []) .nil (E' := []) (by kernel_rfl) ?_
  refine o_end (by kernel_rfl) ?_
  refine e_seq ?_
  refine w_seq 6 7 (by kernel_rfl) ?_
  refine w_region (by kernel_rfl) ?_
  obtain ⟨t1, hx1, hm⟩ := bind_some hm
  refine t_env [] (E' := []) (by kernel_rfl) ?_
  refine o_stp ?_ (by kernel_rfl)
  refine s_call 4 7 #[.int .i64 10, .int .u32 5] [] [] (by kernel_rfl) (by kernel_rfl) (fun w hs => rbuf_New_ok 10 5 t1 hx1 B _ w (St.cast (by kernel_rfl) hs)) (fun x hx => ?_)
  obtain ⟨g1, g2, A1, c1, A2, c2⟩ := x
  have hs1 := hx
  rcases optE_cases hm with ⟨ho1, hm⟩ | ⟨y1, ho1, hm⟩
  · refine t_EL (E' := (4, .tuple #[.pointer none, .int .i64 t1.2]) :: []) (L' := []) (by rw [ho1]; kernel_rfl) ?_
    refine o_run 5 [1, 2] (l := []) .nil (E' := [(1, .pointer none), (2, .int .i64 t1.2)]) (by kernel_rfl) ?_
    refine o_end (by kernel_rfl) ?_
    refine e_seq ?_
    refine w_seq 14 15 (by kernel_rfl) ?_
    refine w_region (by kernel_rfl) ?_
    refine o_run 37 [0] (l := []) .nil (E' := [(0, .bool false)]) (by kernel_rfl) ?_
    refine o_end (by kernel_rfl) ?_
    refine e_seq ?_
    refine w_ret (by kernel_rfl) ?_
    obtain rfl := Option.some.inj hm
    exact e_retP B (.bool false) [] (by kernel_rfl) (by kernel_rfl) rfl (by kernel_rfl) (by kernel_rfl) (Ext.refl _)
  · replace hs1 := hs1 y1 ho1
    refine t_EL (E' := (4, .tuple #[.pointer (some ⟨g1, 0, none⟩), .int .i64 t1.2]) :: []) (L' := [.blk g1 [.pointer (some ⟨g2, 0, none⟩), .slice A2 y1.xbytes.length c2, .int .i64 y1.xbegin, .int .i64 y1.xn, .int .u32 y1.xlast, .bool y1.xkept] 50, .blk g2 [.bool y1.xBoard.xmade, .int .u32 y1.xBoard.xfirst, .slice A1 y1.xBoard.xruns.length c1] 76, .own A2 y1.xbytes.length c2 (rowOf (encI .u8) y1.xbytes) 1 5]) (by rw [ho1]; kernel_rfl) ?_
    refine o_run 5 [1, 2] (l := []) .nil (E' := [(1, .pointer (some ⟨g1, 0, none⟩)), (2, .int .i64 t1.2)]) (by kernel_rfl) ?_
    refine o_end (by kernel_rfl) ?_
    refine e_seq ?_
    refine w_seq 14 15 (by kernel_rfl) ?_
    refine w_region (by kernel_rfl) ?_
    refine o_run 7 [1, 13] (l := []) .nil (E' := [(1, .pointer (some ⟨g1, 0, none⟩)), (13, .bool (t1.2 == 0))]) (by kernel_rfl) ?_
    refine o_split 13 (t1.2 == 0) (by kernel_rfl) (fun hb1 => ?_) (fun hb1 => ?_)
    · replace hm := ite_t hb1 hm
      refine o_run 1 [1, 13, 14] (l := []) .nil (E' := [(1, .pointer (some ⟨g1, 0, none⟩)), (13, .bool true), (14, .pointer (some ⟨g1, 0, none⟩))]) (by kernel_rfl) ?_
      refine o_stp ?_ (by kernel_rfl)
      refine s_new 15 (fun g3 => .slice (some ⟨g3, 0, none⟩) 2 2) [.int .u8 99, .int .u8 100] 5 (fun _ => by kernel_rfl) (fun g3 => ?_)
      refine o_stp ?_ (by kernel_rfl)
      refine s_constB (t := 32) (x := (.tmp 15)) (xs := [99, 100]) 16 (by kernel_rfl) (by kernel_rfl) (by kernel_rfl) (by kernel_rfl) (fun B1 hx2 hs2 => ?_)
      obtain ⟨t2, hx3, hm⟩ := bind_some hm
      refine o_stp ?_ (by kernel_rfl)
      refine s_call 17 12 #[.pointer (some ⟨g1, 0, none⟩), .int .u32 7, .slice (some ⟨g3, 0, none⟩) [99, 100].length ([99, 100].length)] [0, 1, 2] [] (by kernel_rfl) (by kernel_rfl) (fun w hs => rbuf_Buffer_Insert_ok k y1 7 [99, 100] t2 hx3 B1 _ g1 g2 A1 c1 A2 c2 (some ⟨g3, 0, none⟩) ([99, 100].length) (hs1.up hx2) hs2 w (St.cast (by kernel_rfl) hs)) (fun x hx => ?_)
      obtain ⟨B2, g4, A3, c3, A4, c4⟩ := x
      obtain ⟨hx4, hs3⟩ := hx
      refine t_L (L' := [.blk g1 [.pointer (some ⟨g4, 0, none⟩), .slice A4 t2.2.xbytes.length c4, .int .i64 t2.2.xbegin, .int .i64 t2.2.xn, .int .u32 t2.2.xlast, .bool t2.2.xkept] 50, .blk g4 [.bool t2.2.xBoard.xmade, .int .u32 t2.2.xBoard.xfirst, .slice A3 t2.2.xBoard.xruns.length c3] 76, .own A4 t2.2.xbytes.length c4 (rowOf (encI .u8) t2.2.xbytes) 1 5]) (by kernel_rfl) ?_
      refine o_run 3 [1, 20] (l := []) .nil (E' := [(1, .pointer (some ⟨g1, 0, none⟩)), (20, .bool (t2.1 == 0))]) (by kernel_rfl) ?_
      refine o_split 20 (t2.1 == 0) (by kernel_rfl) (fun hb2 => ?_) (fun hb2 => ?_)
      · replace hm := ite_t hb2 hm
        refine o_run 1 [1, 20, 21] (l := []) .nil (E' := [(1, .pointer (some ⟨g1, 0, none⟩)), (20, .bool true), (21, .pointer (some ⟨g1, 0, none⟩))]) (by kernel_rfl) ?_
        obtain ⟨t3, hx5, hm⟩ := bind_some hm
        refine o_stp ?_ (by kernel_rfl)
        refine s_call 22 20 #[.pointer (some ⟨g1, 0, none⟩)] [0, 1, 2] [] (by kernel_rfl) (by kernel_rfl) (fun w hs => rbuf_Buffer_Out_ok k t2.2 t3 hx5 B2 _ g1 g4 A3 c3 A4 c4 hs3 w (St.cast (by kernel_rfl) hs)) (fun _ hx => ?_)
        refine t_L (L' := [.blk g1 [.pointer (some ⟨g4, 0, none⟩), .slice A4 t2.2.xbytes.length c4, .int .i64 t2.2.xbegin, .int .i64 t2.2.xn, .int .u32 t2.2.xlast, .bool t2.2.xkept] 50, .blk g4 [.bool t2.2.xBoard.xmade, .int .u32 t2.2.xBoard.xfirst, .slice A3 t2.2.xBoard.xruns.length c3] 76, .own A4 t2.2.xbytes.length c4 (rowOf (encI .u8) t2.2.xbytes) 1 5]) (by kernel_rfl) ?_
        refine o_run 3 [1, 25] (l := []) .nil (E' := [(1, .pointer (some ⟨g1, 0, none⟩)), (25, .bool (t3 == 2))]) (by kernel_rfl) ?_
        refine o_split 25 (t3 == 2) (by kernel_rfl) (fun hb3 => ?_) (fun hb3 => ?_)
        · replace hm := ite_t hb3 hm
          refine o_run 1 [1, 25, 26] (l := []) .nil (E' := [(1, .pointer (some ⟨g1, 0, none⟩)), (25, .bool true), (26, .pointer (some ⟨g1, 0, none⟩))]) (by kernel_rfl) ?_
          refine o_stp ?_ (by kernel_rfl)
          refine s_new 27 (fun g5 => .slice (some ⟨g5, 0, none⟩) 2 2) [.int .u8 97, .int .u8 98] 5 (fun _ => by kernel_rfl) (fun g5 => ?_)
          refine o_stp ?_ (by kernel_rfl)
          refine s_constB (t := 32) (x := (.tmp 27)) (xs := [97, 98]) 28 (by kernel_rfl) (by kernel_rfl) (by kernel_rfl) (by kernel_rfl) (fun B3 hx6 hs4 => ?_)
          obtain ⟨t4, hx7, hm⟩ := bind_some hm
          refine o_stp ?_ (by kernel_rfl)
          refine s_call 29 12 #[.pointer (some ⟨g1, 0, none⟩), .int .u32 5, .slice (some ⟨g5, 0, none⟩) [97, 98].length ([97, 98].length)] [0, 1, 2] [] (by kernel_rfl) (by kernel_rfl) (fun w hs => rbuf_Buffer_Insert_ok k t2.2 5 [97, 98] t4 hx7 B3 _ g1 g4 A3 c3 A4 c4 (some ⟨g5, 0, none⟩) ([97, 98].length) (hs3.up hx6) hs4 w (St.cast (by kernel_rfl) hs)) (fun x hx => ?_)
          obtain ⟨B4, g6, A5, c5, A6, c6⟩ := x
          obtain ⟨hx8, hs5⟩ := hx
          refine t_L (L' := [.blk g1 [.pointer (some ⟨g6, 0, none⟩), .slice A6 t4.2.xbytes.length c6, .int .i64 t4.2.xbegin, .int .i64 t4.2.xn, .int .u32 t4.2.xlast, .bool t4.2.xkept] 50, .blk g6 [.bool t4.2.xBoard.xmade, .int .u32 t4.2.xBoard.xfirst, .slice A5 t4.2.xBoard.xruns.length c5] 76, .own A6 t4.2.xbytes.length c6 (rowOf (encI .u8) t4.2.xbytes) 1 5]) (by kernel_rfl) ?_
          refine o_run 3 [1, 32] (l := []) .nil (E' := [(1, .pointer (some ⟨g1, 0, none⟩)), (32, .bool (t4.1 == 4))]) (by kernel_rfl) ?_
          refine o_split 32 (t4.1 == 4) (by kernel_rfl) (fun hb4 => ?_) (fun hb4 => ?_)
          · replace hm := ite_t hb4 hm
            refine o_run 1 [1, 32, 33] (l := []) .nil (E' := [(1, .pointer (some ⟨g1, 0, none⟩)), (32, .bool true), (33, .pointer (some ⟨g1, 0, none⟩))]) (by kernel_rfl) ?_
            obtain ⟨t5, hx9, hm⟩ := bind_some hm
            refine o_stp ?_ (by kernel_rfl)
            refine s_call 34 11 #[.pointer (some ⟨g1, 0, none⟩), .int .i64 9] [0, 1, 2] [] (by kernel_rfl) (by kernel_rfl) (fun w hs => rbuf_Buffer_Read_ok k t4.2 9 t5 hx9 B4 _ g1 g6 A5 c5 A6 c6 hs5 w (St.cast (by kernel_rfl) hs)) (fun x hx => ?_)
            obtain ⟨A7, c7, g7, A8, c8, A9, c9⟩ := x
            have hs6 := hx
            refine t_L (L' := [.own A7 t5.1.length c7 (rowOf (encI .u8) t5.1) 1 5, .blk g1 [.pointer (some ⟨g7, 0, none⟩), .slice A9 t5.2.xbytes.length c9, .int .i64 t5.2.xbegin, .int .i64 t5.2.xn, .int .u32 t5.2.xlast, .bool t5.2.xkept] 50, .blk g7 [.bool t5.2.xBoard.xmade, .int .u32 t5.2.xBoard.xfirst, .slice A8 t5.2.xBoard.xruns.length c8] 76, .own A9 t5.2.xbytes.length c9 (rowOf (encI .u8) t5.2.xbytes) 1 5]) (by kernel_rfl) ?_
            refine o_val 35 (.convert 32 9 (.tmp 34)) (.string (strOf t5.1)) (by kernel_rfl) (v_strO (j := 0) rfl rfl (by kernel_rfl) (by kernel_rfl)) ?_
            refine o_run 3 [1, 38] (l := []) .nil (E' := [(1, .pointer (some ⟨g1, 0, none⟩)), (38, .bool ((strOf t5.1).toList == (⟨#[97, 98, 99, 100]⟩ : ByteArray).toList))]) (by kernel_rfl) ?_
            refine o_split 38 ((strOf t5.1).toList == (⟨#[97, 98, 99, 100]⟩ : ByteArray).toList) (by kernel_rfl) (fun hb5 => ?_) (fun hb5 => ?_)
            · replace hm := ite_t hb5 hm
              refine o_run 1 [38, 39] (l := []) .nil (E' := [(38, .bool true), (39, .pointer (some ⟨g1, 0, none⟩))]) (by kernel_rfl) ?_
              obtain ⟨t6, hx10, hm⟩ := bind_some hm
              refine o_stp ?_ (by kernel_rfl)
              refine s_call 40 13 #[.pointer (some ⟨g1, 0, none⟩)] [1, 2, 3] [0] (by kernel_rfl) (by kernel_rfl) (fun w hs => rbuf_Buffer_Next_ok t5.2 t6 hx10 B4 _ g1 g7 A8 c8 A9 c9 hs6 w (St.cast (by kernel_rfl) hs)) (fun _ hx => ?_)
              refine t_L (L' := [.blk g1 [.pointer (some ⟨g7, 0, none⟩), .slice A9 t5.2.xbytes.length c9, .int .i64 t5.2.xbegin, .int .i64 t5.2.xn, .int .u32 t5.2.xlast, .bool t5.2.xkept] 50, .blk g7 [.bool t5.2.xBoard.xmade, .int .u32 t5.2.xBoard.xfirst, .slice A8 t5.2.xBoard.xruns.length c8] 76, .own A9 t5.2.xbytes.length c9 (rowOf (encI .u8) t5.2.xbytes) 1 5, .own A7 t5.1.length c7 (rowOf (encI .u8) t5.1) 1 5]) (by kernel_rfl) ?_
              refine o_run 3 [0] (l := []) .nil (E' := [(0, .bool (t6 == 9))]) (by kernel_rfl) ?_
              refine o_end (by kernel_rfl) ?_
              refine e_seq ?_
              refine w_ret (by kernel_rfl) ?_
              obtain rfl := Option.some.inj hm
              exact e_retP B4 (.bool (t6 == 9)) [] (by kernel_rfl) (by kernel_rfl) rfl (by kernel_rfl) (by kernel_rfl) (Ext.trans (Ext.trans (Ext.trans hx2 hx4) hx6) hx8)
            · replace hm := ite_f hb5 hm
              refine o_run 5 [0] (l := []) .nil (E' := [(0, .bool false)]) (by kernel_rfl) ?_
              refine o_end (by kernel_rfl) ?_
              refine e_seq ?_
              refine w_ret (by kernel_rfl) ?_
              obtain rfl := Option.some.inj hm
              exact e_retP B4 (.bool false) [] (by kernel_rfl) (by kernel_rfl) rfl (by kernel_rfl) (by kernel_rfl) (Ext.trans (Ext.trans (Ext.trans hx2 hx4) hx6) hx8)
          · replace hm := ite_f hb4 hm
            refine o_run 11 [0] (l := []) .nil (E' := [(0, .bool false)]) (by kernel_rfl) ?_
            refine o_end (by kernel_rfl) ?_
            refine e_seq ?_
            refine w_ret (by kernel_rfl) ?_
            obtain rfl := Option.some.inj hm
            exact e_retP B4 (.bool false) [] (by kernel_rfl) (by kernel_rfl) rfl (by kernel_rfl) (by kernel_rfl) (Ext.trans (Ext.trans (Ext.trans hx2 hx4) hx6) hx8)
        · replace hm := ite_f hb3 hm
          refine o_run 18 [0] (l := []) .nil (E' := [(0, .bool false)]) (by kernel_rfl) ?_
          refine o_end (by kernel_rfl) ?_
          refine e_seq ?_
          refine w_ret (by kernel_rfl) ?_
          obtain rfl := Option.some.inj hm
          exact e_retP B2 (.bool false) [] (by kernel_rfl) (by kernel_rfl) rfl (by kernel_rfl) (by kernel_rfl) (Ext.trans hx2 hx4)
      · replace hm := ite_f hb2 hm
        refine o_run 23 [0] (l := []) .nil (E' := [(0, .bool false)]) (by kernel_rfl) ?_
        refine o_end (by kernel_rfl) ?_
        refine e_seq ?_
        refine w_ret (by kernel_rfl) ?_
        obtain rfl := Option.some.inj hm
        exact e_retP B2 (.bool false) [] (by kernel_rfl) (by kernel_rfl) rfl (by kernel_rfl) (by kernel_rfl) (Ext.trans hx2 hx4)
    · replace hm := ite_f hb1 hm
      refine o_run 30 [0] (l := []) .nil (E' := [(0, .bool false)]) (by kernel_rfl) ?_
      refine o_end (by kernel_rfl) ?_
      refine e_seq ?_
      refine w_ret (by kernel_rfl) ?_
      obtain rfl := Option.some.inj hm
      exact e_retP B (.bool false) [] (by kernel_rfl) (by kernel_rfl) rfl (by kernel_rfl) (by kernel_rfl) (Ext.refl _)
def downhaullaw26_short.f (a0 : List T_downhaullaw26_Step) : Option ((List T_downhaullaw26_Step)) :=
  ((cut a0 0 (imin (a0.length : Int) 60)).bind fun l1 => (some l1))
theorem downhaullaw26_short_ok (a0 : List T_downhaullaw26_Step) (r : (List T_downhaullaw26_Step)) (hm : downhaullaw26_short.f a0 = some r) (B G : Asn) (A1 : Option Addr) (c1 : Nat) (hs1 : Sl kT_downhaullaw26_Step B A1 c1 a0) (w : World) (hs : St B G [] w) :
    Calls Try.prog 10 #[.slice A1 a0.length c1] w (Post (X := (Option Addr) × Nat) (fun x => .slice x.1 r.length x.2) (fun x => B) G (fun x => []) (fun x => (Sl kT_downhaullaw26_Step B x.1 x.2 r))) := by
  unfold downhaullaw26_short.f at hm
  refine calls_W (F := Try.f10) Try.func10 rfl (by kernel_rfl) (L := []) ?_ hs
  refine w_seq 2 3 (by kernel_rfl) ?_
  refine w_region (by kernel_rfl) ?_
  refine o_run 1 [0] (l := []) .nil (E' := [(0, .slice A1 a0.length c1)]) (by kernel_rfl) ?_
  refine o_end (by kernel_rfl) ?_
  refine e_seq ?_
  refine w_seq 6 7 (by kernel_rfl) ?_
  refine w_region (by kernel_rfl) ?_
  refine o_run 4 [3, 6] (l := []) .nil (E' := [(3, .slice A1 a0.length c1), (6, .int .i64 (imin (a0.length : Int) 60))]) (by kernel_rfl) ?_
  obtain ⟨l1, hx1, hm⟩ := bind_some hm
  refine o_val 7 (.slice 24 (.tmp 3) none (some (.tmp 6)) none) (.slice (cutA A1 (Int.toNat 0) c1 4) l1.length (c1 - Int.toNat 0)) (by kernel_rfl) (i_slice 24 (.tmp 3) none (some (.tmp 6)) hs1 hx1 (by kernel_rfl) (by kernel_rfl) (by kernel_rfl) (by kernel_rfl)) ?_
  have hs2 := sl_cut hs1 hx1
  refine o_run 1 [2] (l := []) .nil (E' := [(2, .slice (cutA A1 (Int.toNat 0) c1 4) l1.length (c1 - Int.toNat 0))]) (by kernel_rfl) ?_
  refine o_end (by kernel_rfl) ?_
  refine e_seq ?_
  refine w_ret (by kernel_rfl) ?_
  obtain rfl := Option.some.inj hm
  exact e_retP ((cutA A1 (Int.toNat 0) c1 4), (c1 - Int.toNat 0)) (.slice (cutA A1 (Int.toNat 0) c1 4) l1.length (c1 - Int.toNat 0)) [] (by kernel_rfl) (by kernel_rfl) rfl (by kernel_rfl) (by kernel_rfl) hs2
def downhaullaw26_far.l1 : Nat → (List T_downhaullaw26_Step) → Int → Int → Option (Int)
  | 0, _, _, _ => none
  | k + 1, t1, p1, p2 => (if decide (p2 < (t1.length : Int)) then ((idx t1 p2).bind fun e1 => (downhaullaw26_far.l1 k t1 (I64 (p1 + (imin (e1.xBytes.length : Int) 10000))) (I64 (p2 + 1)))) else (some p1))
def downhaullaw26_far.f (k : Nat) (a0 : List T_downhaullaw26_Step) : Option (Bool) :=
  ((downhaullaw26_short.f a0).bind fun t1 => ((downhaullaw26_far.l1 k t1 0 0).bind fun t2 => (some (decide (t2 > 3000)))))
theorem downhaullaw26_far_ok (k : Nat) (a0 : List T_downhaullaw26_Step) (r : Bool) (hm : downhaullaw26_far.f k a0 = some r) (B G : Asn) (A1 : Option Addr) (c1 : Nat) (hs1 : Sl kT_downhaullaw26_Step B A1 c1 a0) (w : World) (hs : St B G [] w) :
    Calls Try.prog 8 #[.slice A1 a0.length c1] w (Post (X := Unit) (fun x => .bool r) (fun x => B) G (fun x => []) (fun x => True)) := by
  unfold downhaullaw26_far.f at hm
  refine calls_W (F := Try.f8) Try.func8 rfl (by kernel_rfl) (L := []) ?_ hs
  refine w_seq 2 3 (by kernel_rfl) ?_
  refine w_region (by kernel_rfl) ?_
  refine o_run 1 [0] (l := []) .nil (E' := [(0, .slice A1 a0.length c1)]) (by kernel_rfl) ?_
  refine o_end (by kernel_rfl) ?_
  refine e_seq ?_
  refine w_seq 6 7 (by kernel_rfl) ?_
  refine w_region (by kernel_rfl) ?_
  refine o_run 1 [0, 3] (l := []) .nil (E' := [(0, .slice A1 a0.length c1), (3, .int .i64 0)]) (by kernel_rfl) ?_
  refine o_end (by kernel_rfl) ?_
  refine e_seq ?_
  refine w_seq 14 15 (by kernel_rfl) ?_
  refine w_seq 28 29 (by kernel_rfl) ?_
  refine w_region (by kernel_rfl) ?_
  refine o_run 1 [3, 6] (l := []) .nil (E' := [(3, .int .i64 0), (6, .slice A1 a0.length c1)]) (by kernel_rfl) ?_
  obtain ⟨t1, hx1, hm⟩ := bind_some hm
  refine o_stp ?_ (by kernel_rfl)
  refine s_call 7 10 #[.slice A1 a0.length c1] [] [] (by kernel_rfl) (by kernel_rfl) (fun w hs => downhaullaw26_short_ok a0 t1 hx1 B _ A1 c1 hs1 w (St.cast (by kernel_rfl) hs)) (fun x hx => ?_)
  obtain ⟨A2, c2⟩ := x
  have hs2 := hx
  refine t_L (L' := []) (by kernel_rfl) ?_
  refine o_run 2 [3, 7, 8, 9] (l := []) .nil (E' := [(3, .int .i64 0), (7, .slice A2 t1.length c2), (8, .int .i64 (t1.length : Int)), (9, .int .i64 0)]) (by kernel_rfl) ?_
  refine o_end (by kernel_rfl) ?_
  refine e_seq ?_
  refine w_block 0 58 (by kernel_rfl) ?_
  obtain ⟨t2, ht1, ho1⟩ := bind_some hm
  refine t_env [3, 7, 8, 9] (E' := [(3, .int .i64 0), (7, .slice A2 t1.length c2), (8, .int .i64 (t1.length : Int)), (9, .int .i64 0)]) (by kernel_rfl) ?_
  refine w_loopJ 116 0 (fun k a w => ∃ (p1 : Int) (p2 : Int), downhaullaw26_far.l1 k t1 p1 p2 = some t2 ∧ EnvOk [(3, .int .i64 p1), (7, .slice A2 t1.length c2), (8, .int .i64 (t1.length : Int)), (9, .int .i64 p2)] Try.f8.ntmps a ∧ St B G [] w) (fun a w => EnvOk [(3, .int .i64 t2)] Try.f8.ntmps a ∧ St B G [] w) (by kernel_rfl) ?_ ?_ k ?_
  · rintro a w ⟨ha, hw⟩
    refine we_of (E := [(3, .int .i64 t2)]) (B := B) (G := G) (L := []) ?_ ha hw
    have hm := ho1
    refine e_seq ?_
    refine w_seq 30 31 (by kernel_rfl) ?_
    refine w_region (by kernel_rfl) ?_
    refine o_run 3 [2] (l := []) .nil (E' := [(2, .bool (decide (t2 > 3000)))]) (by kernel_rfl) ?_
    refine o_end (by kernel_rfl) ?_
    refine e_seq ?_
    refine w_ret (by kernel_rfl) ?_
    obtain rfl := Option.some.inj hm
    exact e_retP () (.bool (decide (t2 > 3000))) [] (by kernel_rfl) (by kernel_rfl) rfl (by kernel_rfl) (by kernel_rfl) trivial
  · rintro k a w ⟨p1, p2, hm, ha, hw⟩
    cases k with
    | zero => exact absurd hm (by simp [downhaullaw26_far.l1])
    | succ k =>
      unfold downhaullaw26_far.l1 at hm
      refine wc_of (E := [(3, .int .i64 p1), (7, .slice A2 t1.length c2), (8, .int .i64 (t1.length : Int)), (9, .int .i64 p2)]) (B := B) (G := G) (L := []) ?_ ha hw
      refine w_seq 232 233 (by kernel_rfl) ?_
      refine w_region (by kernel_rfl) ?_
      refine o_run 1 [3, 7, 8, 9, 10] (l := []) .nil (E' := [(3, .int .i64 p1), (7, .slice A2 t1.length c2), (8, .int .i64 (t1.length : Int)), (9, .int .i64 p2), (10, .bool (decide (p2 < (t1.length : Int))))]) (by kernel_rfl) ?_
      refine o_end (by kernel_rfl) ?_
      refine e_seq ?_
      refine w_seq 466 467 (by kernel_rfl) ?_
      refine w_cond (.tmp 10) 932 933 (decide (p2 < (t1.length : Int))) (by kernel_rfl) (by kernel_rfl) (fun hb1 => ?_) (fun hb1 => ?_)
      · replace hm := ite_t hb1 hm
        refine w_skip (by kernel_rfl) ?_
        refine e_seq ?_
        refine w_seq 934 935 (by kernel_rfl) ?_
        refine w_block 1 1868 (by kernel_rfl) ?_
        refine w_seq 3736 3737 (by kernel_rfl) ?_
        refine w_region (by kernel_rfl) ?_
        obtain ⟨e1, hx2, hm⟩ := bind_some hm
        obtain ⟨hi1, hi2, hg1⟩ := idx_some hx2
        obtain ⟨cs1, hk1, hc1⟩ := (hs2).at hg1
        obtain ⟨A3, c3, hs3, rfl⟩ := hk1
        refine o_val 11 (.indexAddr 24 (.tmp 7) (.tmp 9)) (.pointer (some (adr A2 (Int.toNat p2 * 4)))) (by kernel_rfl) (v_index (k := .i64) (c := c2) (by kernel_rfl) (by kernel_rfl) (by kernel_rfl) hi1 hi2 ((hs2).some hg1)) ?_
        refine o_run 1 [3, 7, 8, 9, 12] (l := [((adr A2 (Int.toNat p2 * 4)), .bool e1.xRead), (((adr A2 (Int.toNat p2 * 4)).add 1), .int .i64 e1.xN), (((adr A2 (Int.toNat p2 * 4)).add 2), .int .i32 e1.xAhead), (((adr A2 (Int.toNat p2 * 4)).add 3), .slice A3 e1.xBytes.length c3)]) (.one ((at_sl hc1).sub 0 rfl) (.one ((at_sl hc1).sub 1 rfl) (.one ((at_sl hc1).sub 2 rfl) (.one ((at_sl hc1).sub 3 rfl) .nil)))) (E' := [(3, .int .i64 p1), (7, .slice A2 t1.length c2), (8, .int .i64 (t1.length : Int)), (9, .int .i64 p2), (12, .agg #[.bool e1.xRead, .int .i64 e1.xN, .int .i32 e1.xAhead, .slice A3 e1.xBytes.length c3])]) (by kernel_rfl) ?_
        refine o_stp ?_ (by kernel_rfl)
        refine s_new 5 (fun g1 => .pointer (some ⟨g1, 0, none⟩)) [.bool false, .int .i64 0, .int .i32 0, .slice none 0 0] 34 (fun _ => by kernel_rfl) (fun g1 => ?_)
        refine o_stp ?_ (by kernel_rfl)
        refine s_store 0 g1 [.bool false, .int .i64 0, .int .i32 0, .slice none 0 0] 34 [(0, .bool e1.xRead), (1, .int .i64 e1.xN), (2, .int .i32 e1.xAhead), (3, .slice A3 e1.xBytes.length c3)] (by kernel_rfl) (by kernel_rfl) (by kernel_rfl) ?_
        refine t_L (L' := [.blk g1 [.bool e1.xRead, .int .i64 e1.xN, .int .i32 e1.xAhead, .slice A3 e1.xBytes.length c3] 34]) (by kernel_rfl) ?_
        refine o_end (by kernel_rfl) ?_
        refine e_seq ?_
        refine w_region (by kernel_rfl) ?_
        refine o_run 7 [3, 7, 8, 9] (l := [(⟨g1, 3, none⟩, .slice A3 e1.xBytes.length c3)]) (.one (at_blk (j := 0) rfl rfl) .nil) (E' := [(3, .int .i64 (I64 (p1 + (imin (e1.xBytes.length : Int) 10000)))), (7, .slice A2 t1.length c2), (8, .int .i64 (t1.length : Int)), (9, .int .i64 p2)]) (by kernel_rfl) ?_
        refine o_end (by kernel_rfl) ?_
        refine e_blk ?_
        refine e_seq ?_
        refine w_region (by kernel_rfl) ?_
        refine o_run 2 [3, 7, 8, 9] (l := []) .nil (E' := [(3, .int .i64 (I64 (p1 + (imin (e1.xBytes.length : Int) 10000)))), (7, .slice A2 t1.length c2), (8, .int .i64 (t1.length : Int)), (9, .int .i64 (I64 (p2 + 1)))]) (by kernel_rfl) ?_
        refine o_end (by kernel_rfl) ?_
        refine t_drop [] (by kernel_rfl) ?_
        refine t_L (L' := []) (by kernel_rfl) ?_
        refine t_env [3, 7, 8, 9] (E' := [(3, .int .i64 (I64 (p1 + (imin (e1.xBytes.length : Int) 10000)))), (7, .slice A2 t1.length c2), (8, .int .i64 (t1.length : Int)), (9, .int .i64 (I64 (p2 + 1)))]) (by kernel_rfl) ?_
        exact e_inv (fun a w ha hw => ⟨k, Nat.lt_succ_self k, (I64 (p1 + (imin (e1.xBytes.length : Int) 10000))), (I64 (p2 + 1)), hm, ha, hw⟩)
      · replace hm := ite_f hb1 hm
        refine w_exit 0 (by kernel_rfl) ?_
        refine e_x_seq ?_
        refine e_x_inv ?_
        refine e_x_here ?_
        refine t_drop [] (by kernel_rfl) ?_
        refine t_L (L' := []) (by kernel_rfl) ?_
        refine t_env [3] (E' := [(3, .int .i64 p1)]) (by kernel_rfl) ?_
        obtain rfl := Option.some.inj hm
        exact e_inv (fun a w ha hw => ⟨ha, hw⟩)
  · exact fun a w ha hw => ⟨0, 0, ht1, ha, hw⟩
def downhaulref26_Buffer_Read.f (a0 : T_downhaulref26_Buffer) (a1 : Int) : Option ((List Int) × T_downhaulref26_Buffer) :=
  ((cut a0.xIn 0 (imin (imax a1 0) (a0.xIn.length : Int))).bind fun l1 => ((app ([] : List Int) l1).bind fun l2 => ((cut a0.xIn (imin (imax a1 0) (a0.xIn.length : Int)) (a0.xIn.length : Int)).bind fun l3 => (some (l2, (⟨a0.xRoom, a0.xNext, l3, a0.xCame, a0.xOut, a0.xLast, a0.xHas⟩ : T_downhaulref26_Buffer))))))
theorem downhaulref26_Buffer_Read_ok (a0 : T_downhaulref26_Buffer) (a1 : Int) (r : (List Int) × T_downhaulref26_Buffer) (hm : downhaulref26_Buffer_Read.f a0 a1 = some r) (B G : Asn) (g1 : Nat) (A1 : Option Addr) (c1 : Nat) (A2 : Option Addr) (c2 : Nat) (A3 : Option Addr) (c3 : Nat) (hs1 : Sl (kI .u8) B A1 c1 a0.xIn) (w : World) (hs : St B G [.blk g1 [.int .i64 a0.xRoom, .int .u32 a0.xNext, .slice A1 a0.xIn.length c1, .slice A2 a0.xCame.length c2, .slice A3 a0.xOut.length c3, .int .u32 a0.xLast, .bool a0.xHas] 42, .own A2 a0.xCame.length c2 (rowOf encB a0.xCame) 1 4, .own A3 a0.xOut.length c3 (rowOf (encI .u8) a0.xOut) 1 5] w) :
    Calls Try.prog 16 #[.pointer (some ⟨g1, 0, none⟩), .int .i64 a1] w (Post (X := (Option Addr) × Nat × (Option Addr) × Nat × (Option Addr) × Nat × (Option Addr) × Nat) (fun x => .slice x.1 r.1.length x.2.1) (fun x => B) G (fun x => [.own x.1 r.1.length x.2.1 (rowOf (encI .u8) r.1) 1 5, .blk g1 [.int .i64 r.2.xRoom, .int .u32 r.2.xNext, .slice x.2.2.1 r.2.xIn.length x.2.2.2.1, .slice x.2.2.2.2.1 r.2.xCame.length x.2.2.2.2.2.1, .slice x.2.2.2.2.2.2.1 r.2.xOut.length x.2.2.2.2.2.2.2, .int .u32 r.2.xLast, .bool r.2.xHas] 42, .own x.2.2.2.2.1 r.2.xCame.length x.2.2.2.2.2.1 (rowOf encB r.2.xCame) 1 4, .own x.2.2.2.2.2.2.1 r.2.xOut.length x.2.2.2.2.2.2.2 (rowOf (encI .u8) r.2.xOut) 1 5]) (fun x => (Sl (kI .u8) B x.2.2.1 x.2.2.2.1 r.2.xIn))) := by
  unfold downhaulref26_Buffer_Read.f at hm
  refine calls_W (F := Try.f16) Try.func16 rfl (by kernel_rfl) (L := [.blk g1 [.int .i64 a0.xRoom, .int .u32 a0.xNext, .slice A1 a0.xIn.length c1, .slice A2 a0.xCame.length c2, .slice A3 a0.xOut.length c3, .int .u32 a0.xLast, .bool a0.xHas] 42, .own A2 a0.xCame.length c2 (rowOf encB a0.xCame) 1 4, .own A3 a0.xOut.length c3 (rowOf (encI .u8) a0.xOut) 1 5]) ?_ hs
  refine w_seq 2 3 (by kernel_rfl) ?_
  refine w_region (by kernel_rfl) ?_
  refine o_run 1 [0, 1] (l := []) .nil (E' := [(0, .pointer (some ⟨g1, 0, none⟩)), (1, .int .i64 a1)]) (by kernel_rfl) ?_
  refine o_end (by kernel_rfl) ?_
  refine e_seq ?_
  refine w_seq 6 7 (by kernel_rfl) ?_
  refine w_region (by kernel_rfl) ?_
  refine o_run 9 [0, 1] (l := [(⟨g1, 2, none⟩, .slice A1 a0.xIn.length c1)]) (.one (at_blk (j := 0) rfl rfl) .nil) (E' := [(0, .pointer (some ⟨g1, 0, none⟩)), (1, .int .i64 (imin (imax a1 0) (a0.xIn.length : Int)))]) (by kernel_rfl) ?_
  refine o_end (by kernel_rfl) ?_
  refine e_seq ?_
  refine w_seq 14 15 (by kernel_rfl) ?_
  refine w_region (by kernel_rfl) ?_
  refine o_run 5 [0, 1, 17, 18] (l := [(⟨g1, 2, none⟩, .slice A1 a0.xIn.length c1)]) (.one (at_blk (j := 0) rfl rfl) .nil) (E' := [(0, .pointer (some ⟨g1, 0, none⟩)), (1, .int .i64 (imin (imax a1 0) (a0.xIn.length : Int))), (17, .slice A1 a0.xIn.length c1), (18, .int .i64 (imin (imax a1 0) (a0.xIn.length : Int)))]) (by kernel_rfl) ?_
  obtain ⟨l1, hx1, hm⟩ := bind_some hm
  refine o_val 19 (.slice 32 (.tmp 17) none (some (.tmp 18)) none) (.slice (cutA A1 (Int.toNat 0) c1 1) l1.length (c1 - Int.toNat 0)) (by kernel_rfl) (i_slice 32 (.tmp 17) none (some (.tmp 18)) hs1 hx1 (by kernel_rfl) (by kernel_rfl) (by kernel_rfl) (by kernel_rfl)) ?_
  have hs2 := sl_cut hs1 hx1
  refine t_nil 5 1 ?_
  refine t_L (L' := [.own none (([] : List Int).length) 0 (rowOf (encI .u8) ([] : List Int)) 1 5, .blk g1 [.int .i64 a0.xRoom, .int .u32 a0.xNext, .slice A1 a0.xIn.length c1, .slice A2 a0.xCame.length c2, .slice A3 a0.xOut.length c3, .int .u32 a0.xLast, .bool a0.xHas] 42, .own A2 a0.xCame.length c2 (rowOf encB a0.xCame) 1 4, .own A3 a0.xOut.length c3 (rowOf (encI .u8) a0.xOut) 1 5]) (by kernel_rfl) ?_
  obtain ⟨l2, hx2, hm⟩ := bind_some hm
  refine o_stp ?_ (by kernel_rfl)
  refine s_app (z := .int .u8 0) (enc := (encI .u8)) (ys := l1) (k := l1.length) (bytes := 1) 20 32 32 (.const (.slice none 0 0)) (.tmp 19) 0 hx2 rfl rfl (by kernel_rfl) (by kernel_rfl) (by kernel_rfl) (by kernel_rfl) (by kernel_rfl) (by kernel_rfl) rfl (src_sl (e := 5) rfl (by kernel_rfl) hs2) (by decide) (fun A4 c4 => ?_)
  refine t_L (L' := [.own A4 l2.length c4 (rowOf (encI .u8) l2) 1 5, .blk g1 [.int .i64 a0.xRoom, .int .u32 a0.xNext, .slice A1 a0.xIn.length c1, .slice A2 a0.xCame.length c2, .slice A3 a0.xOut.length c3, .int .u32 a0.xLast, .bool a0.xHas] 42, .own A2 a0.xCame.length c2 (rowOf encB a0.xCame) 1 4, .own A3 a0.xOut.length c3 (rowOf (encI .u8) a0.xOut) 1 5]) (by kernel_rfl) ?_
  refine o_run 1 [0, 1, 5] (l := []) .nil (E' := [(0, .pointer (some ⟨g1, 0, none⟩)), (1, .int .i64 (imin (imax a1 0) (a0.xIn.length : Int))), (5, .slice A4 l2.length c4)]) (by kernel_rfl) ?_
  refine o_end (by kernel_rfl) ?_
  refine e_seq ?_
  refine w_seq 30 31 (by kernel_rfl) ?_
  refine w_region (by kernel_rfl) ?_
  refine o_run 6 [5, 21, 25, 26] (l := [(⟨g1, 2, none⟩, .slice A1 a0.xIn.length c1)]) (.one (at_blk (j := 1) rfl rfl) .nil) (E' := [(5, .slice A4 l2.length c4), (21, .pointer (some ⟨g1, 0, none⟩)), (25, .slice A1 a0.xIn.length c1), (26, .int .i64 (imin (imax a1 0) (a0.xIn.length : Int)))]) (by kernel_rfl) ?_
  obtain ⟨l3, hx3, hm⟩ := bind_some hm
  refine o_val 27 (.slice 32 (.tmp 25) (some (.tmp 26)) none none) (.slice (cutA A1 (Int.toNat (imin (imax a1 0) (a0.xIn.length : Int))) c1 1) l3.length (c1 - Int.toNat (imin (imax a1 0) (a0.xIn.length : Int)))) (by kernel_rfl) (i_slice 32 (.tmp 25) (some (.tmp 26)) none hs1 hx3 (by kernel_rfl) (by kernel_rfl) (by kernel_rfl) (by kernel_rfl)) ?_
  have hs3 := sl_cut hs1 hx3
  refine o_run 2 [5, 27, 29] (l := []) .nil (E' := [(5, .slice A4 l2.length c4), (27, .slice (cutA A1 (Int.toNat (imin (imax a1 0) (a0.xIn.length : Int))) c1 1) l3.length (c1 - Int.toNat (imin (imax a1 0) (a0.xIn.length : Int)))), (29, .pointer (some ⟨g1, 2, none⟩))]) (by kernel_rfl) ?_
  refine o_stp ?_ (by kernel_rfl)
  refine s_store 1 g1 [.int .i64 a0.xRoom, .int .u32 a0.xNext, .slice A1 a0.xIn.length c1, .slice A2 a0.xCame.length c2, .slice A3 a0.xOut.length c3, .int .u32 a0.xLast, .bool a0.xHas] 42 [(2, .slice (cutA A1 (Int.toNat (imin (imax a1 0) (a0.xIn.length : Int))) c1 1) l3.length (c1 - Int.toNat (imin (imax a1 0) (a0.xIn.length : Int))))] (by kernel_rfl) (by kernel_rfl) (by kernel_rfl) ?_
  refine t_L (L' := [.own A4 l2.length c4 (rowOf (encI .u8) l2) 1 5, .blk g1 [.int .i64 a0.xRoom, .int .u32 a0.xNext, .slice (cutA A1 (Int.toNat (imin (imax a1 0) (a0.xIn.length : Int))) c1 1) l3.length (c1 - Int.toNat (imin (imax a1 0) (a0.xIn.length : Int))), .slice A2 a0.xCame.length c2, .slice A3 a0.xOut.length c3, .int .u32 a0.xLast, .bool a0.xHas] 42, .own A2 a0.xCame.length c2 (rowOf encB a0.xCame) 1 4, .own A3 a0.xOut.length c3 (rowOf (encI .u8) a0.xOut) 1 5]) (by kernel_rfl) ?_
  refine o_end (by kernel_rfl) ?_
  refine e_seq ?_
  refine w_seq 62 63 (by kernel_rfl) ?_
  refine w_region (by kernel_rfl) ?_
  refine o_run 2 [4] (l := []) .nil (E' := [(4, .slice A4 l2.length c4)]) (by kernel_rfl) ?_
  refine o_end (by kernel_rfl) ?_
  refine e_seq ?_
  refine w_ret (by kernel_rfl) ?_
  obtain rfl := Option.some.inj hm
  exact e_retP (A4, c4, (cutA A1 (Int.toNat (imin (imax a1 0) (a0.xIn.length : Int))) c1 1), (c1 - Int.toNat (imin (imax a1 0) (a0.xIn.length : Int))), A2, c2, A3, c3) (.slice A4 l2.length c4) [0, 1, 2, 3] (by kernel_rfl) (by kernel_rfl) rfl (by kernel_rfl) (by kernel_rfl) hs3
def downhaulref26_Buffer_Window.f (a0 : T_downhaulref26_Buffer) : Option (Int) :=
  (some (I64 (a0.xRoom - (a0.xIn.length : Int))))
theorem downhaulref26_Buffer_Window_ok (a0 : T_downhaulref26_Buffer) (r : Int) (hm : downhaulref26_Buffer_Window.f a0 = some r) (B G : Asn) (g1 : Nat) (A1 : Option Addr) (c1 : Nat) (A2 : Option Addr) (c2 : Nat) (A3 : Option Addr) (c3 : Nat) (hs1 : Sl (kI .u8) B A1 c1 a0.xIn) (w : World) (hs : St B G [.blk g1 [.int .i64 a0.xRoom, .int .u32 a0.xNext, .slice A1 a0.xIn.length c1, .slice A2 a0.xCame.length c2, .slice A3 a0.xOut.length c3, .int .u32 a0.xLast, .bool a0.xHas] 42, .own A2 a0.xCame.length c2 (rowOf encB a0.xCame) 1 4, .own A3 a0.xOut.length c3 (rowOf (encI .u8) a0.xOut) 1 5] w) :
    Calls Try.prog 19 #[.pointer (some ⟨g1, 0, none⟩)] w (Post (X := Unit) (fun x => .int .i64 r) (fun x => B) G (fun x => [.blk g1 [.int .i64 a0.xRoom, .int .u32 a0.xNext, .slice A1 a0.xIn.length c1, .slice A2 a0.xCame.length c2, .slice A3 a0.xOut.length c3, .int .u32 a0.xLast, .bool a0.xHas] 42, .own A2 a0.xCame.length c2 (rowOf encB a0.xCame) 1 4, .own A3 a0.xOut.length c3 (rowOf (encI .u8) a0.xOut) 1 5]) (fun x => True)) := by
  unfold downhaulref26_Buffer_Window.f at hm
  refine calls_W (F := Try.f19) Try.func19 rfl (by kernel_rfl) (L := [.blk g1 [.int .i64 a0.xRoom, .int .u32 a0.xNext, .slice A1 a0.xIn.length c1, .slice A2 a0.xCame.length c2, .slice A3 a0.xOut.length c3, .int .u32 a0.xLast, .bool a0.xHas] 42, .own A2 a0.xCame.length c2 (rowOf encB a0.xCame) 1 4, .own A3 a0.xOut.length c3 (rowOf (encI .u8) a0.xOut) 1 5]) ?_ hs
  refine w_seq 2 3 (by kernel_rfl) ?_
  refine w_region (by kernel_rfl) ?_
  refine o_run 1 [0] (l := []) .nil (E' := [(0, .pointer (some ⟨g1, 0, none⟩))]) (by kernel_rfl) ?_
  refine o_end (by kernel_rfl) ?_
  refine e_seq ?_
  refine w_seq 6 7 (by kernel_rfl) ?_
  refine w_quiet (by kernel_rfl) mixed (by kernel_rfl) ?_
  refine q_run 11 [2] (l := [(⟨g1, 0, none⟩, .int .i64 a0.xRoom), (⟨g1, 2, none⟩, .slice A1 a0.xIn.length c1)]) (.one (at_blk (j := 0) rfl rfl) (.one (at_blk (j := 0) rfl rfl) .nil)) (E' := [(2, .int .i64 (I64 (a0.xRoom - (a0.xIn.length : Int))))]) (by kernel_rfl) ?_
  refine q_end (by kernel_rfl) ?_
  refine e_seq ?_
  refine w_ret (by kernel_rfl) ?_
  obtain rfl := Option.some.inj hm
  exact e_retP () (.int .i64 (I64 (a0.xRoom - (a0.xIn.length : Int)))) [0, 1, 2] (by kernel_rfl) (by kernel_rfl) rfl (by kernel_rfl) (by kernel_rfl) trivial
def downhaulref26_Buffer_Count.l1 : Nat → T_downhaulref26_Buffer → Int → Int → Option (Int)
  | 0, _, _, _ => none
  | k + 1, a0, p1, p2 => (if decide (p2 ≤ a0.xRoom) then ((idx a0.xCame p2).bind fun e1 => (if e1 then (downhaulref26_Buffer_Count.l1 k a0 (I64 (p1 + 1)) (I64 (p2 + 1))) else (downhaulref26_Buffer_Count.l1 k a0 p1 (I64 (p2 + 1))))) else (some p1))
def downhaulref26_Buffer_Count.f (k : Nat) (a0 : T_downhaulref26_Buffer) : Option (Int) :=
  ((downhaulref26_Buffer_Count.l1 k a0 0 0).bind fun t1 => (some t1))
theorem downhaulref26_Buffer_Count_ok (k : Nat) (a0 : T_downhaulref26_Buffer) (r : Int) (hm : downhaulref26_Buffer_Count.f k a0 = some r) (B G : Asn) (g1 : Nat) (A1 : Option Addr) (c1 : Nat) (A2 : Option Addr) (c2 : Nat) (A3 : Option Addr) (c3 : Nat) (hs1 : Sl (kI .u8) B A1 c1 a0.xIn) (w : World) (hs : St B G [.blk g1 [.int .i64 a0.xRoom, .int .u32 a0.xNext, .slice A1 a0.xIn.length c1, .slice A2 a0.xCame.length c2, .slice A3 a0.xOut.length c3, .int .u32 a0.xLast, .bool a0.xHas] 42, .own A2 a0.xCame.length c2 (rowOf encB a0.xCame) 1 4, .own A3 a0.xOut.length c3 (rowOf (encI .u8) a0.xOut) 1 5] w) :
    Calls Try.prog 21 #[.pointer (some ⟨g1, 0, none⟩)] w (Post (X := Unit) (fun x => .int .i64 r) (fun x => B) G (fun x => [.blk g1 [.int .i64 a0.xRoom, .int .u32 a0.xNext, .slice A1 a0.xIn.length c1, .slice A2 a0.xCame.length c2, .slice A3 a0.xOut.length c3, .int .u32 a0.xLast, .bool a0.xHas] 42, .own A2 a0.xCame.length c2 (rowOf encB a0.xCame) 1 4, .own A3 a0.xOut.length c3 (rowOf (encI .u8) a0.xOut) 1 5]) (fun x => True)) := by
  unfold downhaulref26_Buffer_Count.f at hm
  refine calls_W (F := Try.f21) Try.func21 rfl (by kernel_rfl) (L := [.blk g1 [.int .i64 a0.xRoom, .int .u32 a0.xNext, .slice A1 a0.xIn.length c1, .slice A2 a0.xCame.length c2, .slice A3 a0.xOut.length c3, .int .u32 a0.xLast, .bool a0.xHas] 42, .own A2 a0.xCame.length c2 (rowOf encB a0.xCame) 1 4, .own A3 a0.xOut.length c3 (rowOf (encI .u8) a0.xOut) 1 5]) ?_ hs
  refine w_seq 2 3 (by kernel_rfl) ?_
  refine w_region (by kernel_rfl) ?_
  refine o_run 1 [0] (l := []) .nil (E' := [(0, .pointer (some ⟨g1, 0, none⟩))]) (by kernel_rfl) ?_
  refine o_end (by kernel_rfl) ?_
  refine e_seq ?_
  refine w_seq 6 7 (by kernel_rfl) ?_
  refine w_region (by kernel_rfl) ?_
  refine o_run 1 [0, 3] (l := []) .nil (E' := [(0, .pointer (some ⟨g1, 0, none⟩)), (3, .int .i64 0)]) (by kernel_rfl) ?_
  refine o_end (by kernel_rfl) ?_
  refine e_seq ?_
  refine w_seq 14 15 (by kernel_rfl) ?_
  refine w_seq 28 29 (by kernel_rfl) ?_
  refine w_region (by kernel_rfl) ?_
  refine o_run 1 [0, 3, 4] (l := []) .nil (E' := [(0, .pointer (some ⟨g1, 0, none⟩)), (3, .int .i64 0), (4, .int .i64 0)]) (by kernel_rfl) ?_
  refine o_end (by kernel_rfl) ?_
  refine e_seq ?_
  refine w_block 0 58 (by kernel_rfl) ?_
  obtain ⟨t1, ht1, ho1⟩ := bind_some hm
  refine t_env [0, 3, 4] (E' := [(0, .pointer (some ⟨g1, 0, none⟩)), (3, .int .i64 0), (4, .int .i64 0)]) (by kernel_rfl) ?_
  refine w_loopJ 116 0 (fun k a w => ∃ (p1 : Int) (p2 : Int), downhaulref26_Buffer_Count.l1 k a0 p1 p2 = some t1 ∧ EnvOk [(0, .pointer (some ⟨g1, 0, none⟩)), (3, .int .i64 p1), (4, .int .i64 p2)] Try.f21.ntmps a ∧ St B G [.blk g1 [.int .i64 a0.xRoom, .int .u32 a0.xNext, .slice A1 a0.xIn.length c1, .slice A2 a0.xCame.length c2, .slice A3 a0.xOut.length c3, .int .u32 a0.xLast, .bool a0.xHas] 42, .own A2 a0.xCame.length c2 (rowOf encB a0.xCame) 1 4, .own A3 a0.xOut.length c3 (rowOf (encI .u8) a0.xOut) 1 5] w) (fun a w => EnvOk [(3, .int .i64 t1)] Try.f21.ntmps a ∧ St B G [.blk g1 [.int .i64 a0.xRoom, .int .u32 a0.xNext, .slice A1 a0.xIn.length c1, .slice A2 a0.xCame.length c2, .slice A3 a0.xOut.length c3, .int .u32 a0.xLast, .bool a0.xHas] 42, .own A2 a0.xCame.length c2 (rowOf encB a0.xCame) 1 4, .own A3 a0.xOut.length c3 (rowOf (encI .u8) a0.xOut) 1 5] w) (by kernel_rfl) ?_ ?_ k ?_
  · rintro a w ⟨ha, hw⟩
    refine we_of (E := [(3, .int .i64 t1)]) (B := B) (G := G) (L := [.blk g1 [.int .i64 a0.xRoom, .int .u32 a0.xNext, .slice A1 a0.xIn.length c1, .slice A2 a0.xCame.length c2, .slice A3 a0.xOut.length c3, .int .u32 a0.xLast, .bool a0.xHas] 42, .own A2 a0.xCame.length c2 (rowOf encB a0.xCame) 1 4, .own A3 a0.xOut.length c3 (rowOf (encI .u8) a0.xOut) 1 5]) ?_ ha hw
    have hm := ho1
    refine e_seq ?_
    refine w_seq 30 31 (by kernel_rfl) ?_
    refine w_region (by kernel_rfl) ?_
    refine o_run 2 [2] (l := []) .nil (E' := [(2, .int .i64 t1)]) (by kernel_rfl) ?_
    refine o_end (by kernel_rfl) ?_
    refine e_seq ?_
    refine w_ret (by kernel_rfl) ?_
    obtain rfl := Option.some.inj hm
    exact e_retP () (.int .i64 t1) [0, 1, 2] (by kernel_rfl) (by kernel_rfl) rfl (by kernel_rfl) (by kernel_rfl) trivial
  · rintro k a w ⟨p1, p2, hm, ha, hw⟩
    cases k with
    | zero => exact absurd hm (by simp [downhaulref26_Buffer_Count.l1])
    | succ k =>
      unfold downhaulref26_Buffer_Count.l1 at hm
      refine wc_of (E := [(0, .pointer (some ⟨g1, 0, none⟩)), (3, .int .i64 p1), (4, .int .i64 p2)]) (B := B) (G := G) (L := [.blk g1 [.int .i64 a0.xRoom, .int .u32 a0.xNext, .slice A1 a0.xIn.length c1, .slice A2 a0.xCame.length c2, .slice A3 a0.xOut.length c3, .int .u32 a0.xLast, .bool a0.xHas] 42, .own A2 a0.xCame.length c2 (rowOf encB a0.xCame) 1 4, .own A3 a0.xOut.length c3 (rowOf (encI .u8) a0.xOut) 1 5]) ?_ ha hw
      refine w_seq 232 233 (by kernel_rfl) ?_
      refine w_seq 464 465 (by kernel_rfl) ?_
      refine w_region (by kernel_rfl) ?_
      refine o_run 6 [0, 3, 4, 10] (l := [(⟨g1, 0, none⟩, .int .i64 a0.xRoom)]) (.one (at_blk (j := 0) rfl rfl) .nil) (E' := [(0, .pointer (some ⟨g1, 0, none⟩)), (3, .int .i64 p1), (4, .int .i64 p2), (10, .bool (decide (p2 ≤ a0.xRoom)))]) (by kernel_rfl) ?_
      refine o_end (by kernel_rfl) ?_
      refine e_seq ?_
      refine w_cond (.tmp 10) 930 931 (decide (p2 ≤ a0.xRoom)) (by kernel_rfl) (by kernel_rfl) (fun hb1 => ?_) (fun hb1 => ?_)
      · replace hm := ite_t hb1 hm
        refine w_skip (by kernel_rfl) ?_
        refine e_seq ?_
        refine w_seq 466 467 (by kernel_rfl) ?_
        refine w_block 1 932 (by kernel_rfl) ?_
        refine w_seq 1864 1865 (by kernel_rfl) ?_
        refine w_region (by kernel_rfl) ?_
        refine o_run 5 [0, 3, 4, 16, 17] (l := [(⟨g1, 3, none⟩, .slice A2 a0.xCame.length c2)]) (.one (at_blk (j := 0) rfl rfl) .nil) (E' := [(0, .pointer (some ⟨g1, 0, none⟩)), (3, .int .i64 p1), (4, .int .i64 p2), (16, .slice A2 a0.xCame.length c2), (17, .int .i64 p2)]) (by kernel_rfl) ?_
        obtain ⟨e1, hx1, hm⟩ := bind_some hm
        obtain ⟨hi1, hi2, hg1⟩ := idx_some hx1
        refine o_val 18 (.indexAddr 40 (.tmp 16) (.tmp 17)) (.pointer (some (adr A2 (Int.toNat p2 * 1)))) (by kernel_rfl) (v_index (k := .i64) (c := c2) (by kernel_rfl) (by kernel_rfl) (by kernel_rfl) hi1 hi2 (own_some (j := 1) rfl hi2 hi1)) ?_
        refine o_run 1 [0, 3, 4, 19] (l := [((adr A2 (Int.toNat p2 * 1)), .bool e1)]) (.one ((At.sub (l := encB e1) 0 (at_own (j := 1) (off := Int.toNat p2 * 1) rfl (row_at (enc := encB) (sz := 1) (fun _ => rfl) hg1)) rfl)) .nil) (E' := [(0, .pointer (some ⟨g1, 0, none⟩)), (3, .int .i64 p1), (4, .int .i64 p2), (19, .bool e1)]) (by kernel_rfl) ?_
        refine o_end (by kernel_rfl) ?_
        refine e_seq ?_
        refine w_cond (.tmp 19) 3730 3731 e1 (by kernel_rfl) (by kernel_rfl) (fun hb2 => ?_) (fun hb2 => ?_)
        · replace hm := ite_t hb2 hm
          refine w_region (by kernel_rfl) ?_
          refine o_run 3 [0, 3, 4] (l := []) .nil (E' := [(0, .pointer (some ⟨g1, 0, none⟩)), (3, .int .i64 (I64 (p1 + 1))), (4, .int .i64 p2)]) (by kernel_rfl) ?_
          refine o_end (by kernel_rfl) ?_
          refine e_blk ?_
          refine e_seq ?_
          refine w_region (by kernel_rfl) ?_
          refine o_run 3 [0, 3, 4] (l := []) .nil (E' := [(0, .pointer (some ⟨g1, 0, none⟩)), (3, .int .i64 (I64 (p1 + 1))), (4, .int .i64 (I64 (p2 + 1)))]) (by kernel_rfl) ?_
          refine o_end (by kernel_rfl) ?_
          refine t_drop [0, 1, 2] (by kernel_rfl) ?_
          refine t_L (L' := [.blk g1 [.int .i64 a0.xRoom, .int .u32 a0.xNext, .slice A1 a0.xIn.length c1, .slice A2 a0.xCame.length c2, .slice A3 a0.xOut.length c3, .int .u32 a0.xLast, .bool a0.xHas] 42, .own A2 a0.xCame.length c2 (rowOf encB a0.xCame) 1 4, .own A3 a0.xOut.length c3 (rowOf (encI .u8) a0.xOut) 1 5]) (by kernel_rfl) ?_
          refine t_env [0, 3, 4] (E' := [(0, .pointer (some ⟨g1, 0, none⟩)), (3, .int .i64 (I64 (p1 + 1))), (4, .int .i64 (I64 (p2 + 1)))]) (by kernel_rfl) ?_
          exact e_inv (fun a w ha hw => ⟨k, Nat.lt_succ_self k, (I64 (p1 + 1)), (I64 (p2 + 1)), hm, ha, hw⟩)
        · replace hm := ite_f hb2 hm
          refine w_skip (by kernel_rfl) ?_
          refine e_blk ?_
          refine e_seq ?_
          refine w_region (by kernel_rfl) ?_
          refine o_run 3 [0, 3, 4] (l := []) .nil (E' := [(0, .pointer (some ⟨g1, 0, none⟩)), (3, .int .i64 p1), (4, .int .i64 (I64 (p2 + 1)))]) (by kernel_rfl) ?_
          refine o_end (by kernel_rfl) ?_
          refine t_drop [0, 1, 2] (by kernel_rfl) ?_
          refine t_L (L' := [.blk g1 [.int .i64 a0.xRoom, .int .u32 a0.xNext, .slice A1 a0.xIn.length c1, .slice A2 a0.xCame.length c2, .slice A3 a0.xOut.length c3, .int .u32 a0.xLast, .bool a0.xHas] 42, .own A2 a0.xCame.length c2 (rowOf encB a0.xCame) 1 4, .own A3 a0.xOut.length c3 (rowOf (encI .u8) a0.xOut) 1 5]) (by kernel_rfl) ?_
          refine t_env [0, 3, 4] (E' := [(0, .pointer (some ⟨g1, 0, none⟩)), (3, .int .i64 p1), (4, .int .i64 (I64 (p2 + 1)))]) (by kernel_rfl) ?_
          exact e_inv (fun a w ha hw => ⟨k, Nat.lt_succ_self k, p1, (I64 (p2 + 1)), hm, ha, hw⟩)
      · replace hm := ite_f hb1 hm
        refine w_exit 0 (by kernel_rfl) ?_
        refine e_x_seq ?_
        refine e_x_inv ?_
        refine e_x_here ?_
        refine t_drop [0, 1, 2] (by kernel_rfl) ?_
        refine t_L (L' := [.blk g1 [.int .i64 a0.xRoom, .int .u32 a0.xNext, .slice A1 a0.xIn.length c1, .slice A2 a0.xCame.length c2, .slice A3 a0.xOut.length c3, .int .u32 a0.xLast, .bool a0.xHas] 42, .own A2 a0.xCame.length c2 (rowOf encB a0.xCame) 1 4, .own A3 a0.xOut.length c3 (rowOf (encI .u8) a0.xOut) 1 5]) (by kernel_rfl) ?_
        refine t_env [3] (E' := [(3, .int .i64 p1)]) (by kernel_rfl) ?_
        obtain rfl := Option.some.inj hm
        exact e_inv (fun a w ha hw => ⟨ha, hw⟩)
  · exact fun a w ha hw => ⟨0, 0, ht1, ha, hw⟩
def slices_Reverse_api_Block.l1 : Nat → Int → Int → (List T_api_Block) → Option ((List T_api_Block))
  | 0, _, _, _ => none
  | k + 1, p1, p2, p3 => (if decide (p1 < p2) then ((idx p3 p2).bind fun e1 => ((idx p3 p1).bind fun e2 => ((idx p3 p1).bind fun e3 => ((idx (p3.set (Int.toNat p1) e1) p2).bind fun e4 => (slices_Reverse_api_Block.l1 k (I64 (p1 + 1)) (I64 (p2 - 1)) ((p3.set (Int.toNat p1) e1).set (Int.toNat p2) e2)))))) else (some p3))
def slices_Reverse_api_Block.f (k : Nat) (a0 : List T_api_Block) : Option ((List T_api_Block)) :=
  ((slices_Reverse_api_Block.l1 k 0 (I64 ((a0.length : Int) - 1)) a0).bind fun t1 => (some t1))
theorem slices_Reverse_api_Block_ok (k : Nat) (a0 : List T_api_Block) (r : (List T_api_Block)) (hm : slices_Reverse_api_Block.f k a0 = some r) (B G : Asn) (A1 : Option Addr) (c1 : Nat) (w : World) (hs : St B G [.own A1 a0.length c1 (rowOf encT_api_Block a0) 2 57] w) :
    Calls Try.prog 36 #[.slice A1 a0.length c1] w (Post (X := Unit) (fun x => .tuple #[]) (fun x => B) G (fun x => [.own A1 a0.length c1 (rowOf encT_api_Block r) 2 57]) (fun x => (a0.length = r.length))) := by
  unfold slices_Reverse_api_Block.f at hm
  refine calls_W (F := Try.f36) Try.func36 rfl (by kernel_rfl) (L := [.own A1 a0.length c1 (rowOf encT_api_Block a0) 2 57]) ?_ hs
  refine w_seq 2 3 (by kernel_rfl) ?_
  refine w_region (by kernel_rfl) ?_
  refine o_run 5 [0, 2, 3] (l := []) .nil (E' := [(0, .slice A1 a0.length c1), (2, .int .i64 0), (3, .int .i64 (I64 ((a0.length : Int) - 1)))]) (by kernel_rfl) ?_
  refine o_end (by kernel_rfl) ?_
  refine e_seq ?_
  refine w_block 0 6 (by kernel_rfl) ?_
  obtain ⟨t1, ht1, ho1⟩ := bind_some hm
  refine t_env [0, 2, 3] (E' := [(0, .slice A1 a0.length c1), (2, .int .i64 0), (3, .int .i64 (I64 ((a0.length : Int) - 1)))]) (by kernel_rfl) ?_
  refine w_loopJ 12 0 (fun k a w => ∃ (p1 : Int) (p2 : Int) (p3 : List T_api_Block), slices_Reverse_api_Block.l1 k p1 p2 p3 = some t1 ∧ a0.length = p3.length ∧ EnvOk [(0, .slice A1 a0.length c1), (2, .int .i64 p1), (3, .int .i64 p2)] Try.f36.ntmps a ∧ St B G [.own A1 a0.length c1 (rowOf encT_api_Block p3) 2 57] w) (fun a w => a0.length = (t1).length ∧ EnvOk [] Try.f36.ntmps a ∧ St B G [.own A1 a0.length c1 (rowOf encT_api_Block t1) 2 57] w) (by kernel_rfl) ?_ ?_ k ?_
  · rintro a w ⟨hn2, ha, hw⟩
    refine we_of (E := []) (B := B) (G := G) (L := [.own A1 a0.length c1 (rowOf encT_api_Block t1) 2 57]) ?_ ha hw
    have hm := ho1
    obtain rfl := Option.some.inj hm
    exact e_endP () (.tuple #[]) [0] (by kernel_rfl) (by kernel_rfl) rfl (by kernel_rfl) (by kernel_rfl) hn2
  · rintro k a w ⟨p1, p2, p3, hm, hn1, ha, hw⟩
    cases k with
    | zero => exact absurd hm (by simp [slices_Reverse_api_Block.l1])
    | succ k =>
      unfold slices_Reverse_api_Block.l1 at hm
      refine wc_of (E := [(0, .slice A1 a0.length c1), (2, .int .i64 p1), (3, .int .i64 p2)]) (B := B) (G := G) (L := [.own A1 a0.length c1 (rowOf encT_api_Block p3) 2 57]) ?_ ha hw
      refine w_seq 24 25 (by kernel_rfl) ?_
      refine w_seq 48 49 (by kernel_rfl) ?_
      refine w_region (by kernel_rfl) ?_
      refine o_run 3 [0, 2, 3, 9] (l := []) .nil (E' := [(0, .slice A1 a0.length c1), (2, .int .i64 p1), (3, .int .i64 p2), (9, .bool (decide (p1 < p2)))]) (by kernel_rfl) ?_
      refine o_end (by kernel_rfl) ?_
      refine e_seq ?_
      refine w_cond (.tmp 9) 98 99 (decide (p1 < p2)) (by kernel_rfl) (by kernel_rfl) (fun hb1 => ?_) (fun hb1 => ?_)
      · replace hm := ite_t hb1 hm
        refine w_skip (by kernel_rfl) ?_
        refine e_seq ?_
        refine w_seq 50 51 (by kernel_rfl) ?_
        refine w_block 1 100 (by kernel_rfl) ?_
        obtain ⟨e1, hx1, hm⟩ := bind_some hm
        obtain ⟨e2, hx2, hm⟩ := bind_some hm
        obtain ⟨e3, hx3, hm⟩ := bind_some hm
        obtain ⟨e4, hx4, hm⟩ := bind_some hm
        refine w_joinJ (fun a w => a0.length = ((p3.set (Int.toNat p1) e1).set (Int.toNat p2) e2).length ∧ EnvOk [(0, .slice A1 a0.length c1), (2, .int .i64 p1), (3, .int .i64 p2)] Try.f36.ntmps a ∧ St B G [.own A1 a0.length c1 (rowOf encT_api_Block ((p3.set (Int.toNat p1) e1).set (Int.toNat p2) e2)) 2 57] w) ?_ ?_
        · rintro a w ⟨hn3, ha, hw⟩
          refine we_of (E := [(0, .slice A1 a0.length c1), (2, .int .i64 p1), (3, .int .i64 p2)]) (B := B) (G := G) (L := [.own A1 a0.length c1 (rowOf encT_api_Block ((p3.set (Int.toNat p1) e1).set (Int.toNat p2) e2)) 2 57]) ?_ ha hw
          refine e_blk ?_
          refine e_seq ?_
          refine w_region (by kernel_rfl) ?_
          refine o_run 6 [0, 2, 3] (l := []) .nil (E' := [(0, .slice A1 a0.length c1), (2, .int .i64 (I64 (p1 + 1))), (3, .int .i64 (I64 (p2 - 1)))]) (by kernel_rfl) ?_
          refine o_end (by kernel_rfl) ?_
          refine t_drop [0] (by kernel_rfl) ?_
          refine t_L (L' := [.own A1 a0.length c1 (rowOf encT_api_Block ((p3.set (Int.toNat p1) e1).set (Int.toNat p2) e2)) 2 57]) (by kernel_rfl) ?_
          refine t_env [0, 2, 3] (E' := [(0, .slice A1 a0.length c1), (2, .int .i64 (I64 (p1 + 1))), (3, .int .i64 (I64 (p2 - 1)))]) (by kernel_rfl) ?_
          exact e_inv (fun a w ha hw => ⟨k, Nat.lt_succ_self k, (I64 (p1 + 1)), (I64 (p2 - 1)), ((p3.set (Int.toNat p1) e1).set (Int.toNat p2) e2), hm, hn3, ha, hw⟩)
        · refine w_tail 14 [] (by kernel_rfl) mixed (by kernel_rfl) ?_
          refine tt_run [0, 1, 2, 3, 4, 5, 8, 9] [0, 2, 3, 14, 15, 16, 17, 18, 19, 22, 23] [] 6 (listed' := #[true, true, true, true, true, true, false, false, true, true, false, false, false, false, false, false]) (l := []) .nil (E' := [(0, .slice A1 a0.length c1), (2, .int .i64 p1), (3, .int .i64 p2), (14, .slice A1 a0.length c1), (15, .int .i64 p1), (16, .slice A1 a0.length c1), (17, .int .i64 p2), (18, .slice A1 a0.length c1), (19, .int .i64 p2), (22, .slice A1 a0.length c1), (23, .int .i64 p1)]) (by kernel_rfl) (by kernel_rfl) (by kernel_rfl) (Ext.refl _) (by kernel_rfl) (by kernel_rfl) ?_
          refine tt_all [6, 10] [] (Ext.refl _) (by kernel_rfl) (by kernel_rfl) (by kernel_rfl) (by kernel_rfl) ⟨?_, ?_, trivial⟩
          · obtain ⟨hi9, hi10, hg5⟩ := idx_some hx1
            refine s_val 20 (.indexAddr 46 (.tmp 18) (.tmp 19)) (.pointer (some (adr A1 (Int.toNat p2 * 2)))) (by kernel_rfl) (v_index (k := .i64) (c := c1) (by kernel_rfl) (by kernel_rfl) (by kernel_rfl) hi9 (len_lt hn1 hi10) (own_some (j := 0) rfl (len_lt hn1 hi10) hi9)) ?_
            refine tt_all [7, 10] [] (Ext.refl _) (by kernel_rfl) (by kernel_rfl) (by kernel_rfl) (by kernel_rfl) ⟨?_, ?_, trivial⟩
            · refine t_env [0, 2, 3, 14, 15, 16, 17, 18, 19, 20, 22, 23] (E' := [(0, .slice A1 a0.length c1), (2, .int .i64 p1), (3, .int .i64 p2), (14, .slice A1 a0.length c1), (15, .int .i64 p1), (16, .slice A1 a0.length c1), (17, .int .i64 p2), (18, .slice A1 a0.length c1), (19, .int .i64 p2), (20, .pointer (some (adr A1 (Int.toNat p2 * 2)))), (22, .slice A1 a0.length c1), (23, .int .i64 p1)]) (by kernel_rfl) ?_
              refine s_one (l := [((adr A1 (Int.toNat p2 * 2)), .int .u32 e1.xLeft), (((adr A1 (Int.toNat p2 * 2)).add 1), .int .u32 e1.xRight)]) (.one ((At.sub (l := encT_api_Block e1) 0 (at_own (j := 0) (off := Int.toNat p2 * 2) rfl (row_at (enc := encT_api_Block) (sz := 2) (fun _ => rfl) hg5)) rfl)) (.one ((At.sub (l := encT_api_Block e1) 1 (at_own (j := 0) (off := Int.toNat p2 * 2) rfl (row_at (enc := encT_api_Block) (sz := 2) (fun _ => rfl) hg5)) rfl)) .nil)) (E' := (21, .agg #[.int .u32 e1.xLeft, .int .u32 e1.xRight]) :: [(0, .slice A1 a0.length c1), (2, .int .i64 p1), (3, .int .i64 p2), (14, .slice A1 a0.length c1), (15, .int .i64 p1), (16, .slice A1 a0.length c1), (17, .int .i64 p2), (18, .slice A1 a0.length c1), (19, .int .i64 p2), (20, .pointer (some (adr A1 (Int.toNat p2 * 2)))), (22, .slice A1 a0.length c1), (23, .int .i64 p1)]) (by kernel_rfl) ?_
              obtain ⟨hi11, hi12, hg6⟩ := idx_some hx2
              refine tt_stp 10 [] (Ext.refl _) (by kernel_rfl) (by kernel_rfl) (by kernel_rfl) (by kernel_rfl) ?_
              refine s_val 24 (.indexAddr 46 (.tmp 22) (.tmp 23)) (.pointer (some (adr A1 (Int.toNat p1 * 2)))) (by kernel_rfl) (v_index (k := .i64) (c := c1) (by kernel_rfl) (by kernel_rfl) (by kernel_rfl) hi11 (len_lt hn1 hi12) (own_some (j := 0) rfl (len_lt hn1 hi12) hi11)) ?_
              refine t_env [0, 2, 3, 14, 15, 16, 17, 18, 19, 20, 21, 22, 23, 24] (E' := [(0, .slice A1 a0.length c1), (2, .int .i64 p1), (3, .int .i64 p2), (14, .slice A1 a0.length c1), (15, .int .i64 p1), (16, .slice A1 a0.length c1), (17, .int .i64 p2), (18, .slice A1 a0.length c1), (19, .int .i64 p2), (20, .pointer (some (adr A1 (Int.toNat p2 * 2)))), (21, .agg #[.int .u32 e1.xLeft, .int .u32 e1.xRight]), (22, .slice A1 a0.length c1), (23, .int .i64 p1), (24, .pointer (some (adr A1 (Int.toNat p1 * 2))))]) (by kernel_rfl) ?_
              refine tt_stp 11 [] (Ext.refl _) (by kernel_rfl) (by kernel_rfl) (by kernel_rfl) (by kernel_rfl) ?_
              refine s_one (l := [((adr A1 (Int.toNat p1 * 2)), .int .u32 e2.xLeft), (((adr A1 (Int.toNat p1 * 2)).add 1), .int .u32 e2.xRight)]) (.one ((At.sub (l := encT_api_Block e2) 0 (at_own (j := 0) (off := Int.toNat p1 * 2) rfl (row_at (enc := encT_api_Block) (sz := 2) (fun _ => rfl) hg6)) rfl)) (.one ((At.sub (l := encT_api_Block e2) 1 (at_own (j := 0) (off := Int.toNat p1 * 2) rfl (row_at (enc := encT_api_Block) (sz := 2) (fun _ => rfl) hg6)) rfl)) .nil)) (E' := (25, .agg #[.int .u32 e2.xLeft, .int .u32 e2.xRight]) :: [(0, .slice A1 a0.length c1), (2, .int .i64 p1), (3, .int .i64 p2), (14, .slice A1 a0.length c1), (15, .int .i64 p1), (16, .slice A1 a0.length c1), (17, .int .i64 p2), (18, .slice A1 a0.length c1), (19, .int .i64 p2), (20, .pointer (some (adr A1 (Int.toNat p2 * 2)))), (21, .agg #[.int .u32 e1.xLeft, .int .u32 e1.xRight]), (22, .slice A1 a0.length c1), (23, .int .i64 p1), (24, .pointer (some (adr A1 (Int.toNat p1 * 2))))]) (by kernel_rfl) ?_
              obtain ⟨hi13, hi14, hg7⟩ := idx_some hx3
              refine tt_stp 12 [] (Ext.refl _) (by kernel_rfl) (by kernel_rfl) (by kernel_rfl) (by kernel_rfl) ?_
              refine s_val 26 (.indexAddr 46 (.tmp 14) (.tmp 15)) (.pointer (some (adr A1 (Int.toNat p1 * 2)))) (by kernel_rfl) (v_index (k := .i64) (c := c1) (by kernel_rfl) (by kernel_rfl) (by kernel_rfl) hi13 (len_lt hn1 hi14) (own_some (j := 0) rfl (len_lt hn1 hi14) hi13)) ?_
              refine tt_stp 13 [] (Ext.refl _) (by kernel_rfl) (by kernel_rfl) (by kernel_rfl) (by kernel_rfl) ?_
              refine s_setE (enc := encT_api_Block) (v := .agg #[.int .u32 e1.xLeft, .int .u32 e1.xRight]) 57 (.tmp 26) (.tmp 21) 0 (x := e1) (by kernel_rfl) (by kernel_rfl) (by kernel_rfl) rfl (by kernel_rfl) rfl (fun _ => rfl) hg7 (encT_api_Block_one e1) (by decide) ?_
              have hl3 : a0.length = (p3.set (Int.toNat p1) e1).length := Eq.trans hn1 List.length_set.symm
              refine tt_end [] (Ext.refl _) (by kernel_rfl) (by kernel_rfl) (by kernel_rfl) ?_
              obtain ⟨hi15, hi16, hg8⟩ := idx_some hx4
              refine o_val 27 (.indexAddr 46 (.tmp 16) (.tmp 17)) (.pointer (some (adr A1 (Int.toNat p2 * 2)))) (by kernel_rfl) (v_index (k := .i64) (c := c1) (by kernel_rfl) (by kernel_rfl) (by kernel_rfl) hi15 (len_lt hl3 hi16) (own_some (j := 0) rfl (len_lt hl3 hi16) hi15)) ?_
              refine o_stp ?_ (by kernel_rfl)
              refine s_setE (enc := encT_api_Block) (v := .agg #[.int .u32 e2.xLeft, .int .u32 e2.xRight]) 57 (.tmp 27) (.tmp 25) 0 (x := e2) (by kernel_rfl) (by kernel_rfl) (by kernel_rfl) rfl (by kernel_rfl) rfl (fun _ => rfl) hg8 (encT_api_Block_one e2) (by decide) ?_
              have hl4 : a0.length = ((p3.set (Int.toNat p1) e1).set (Int.toNat p2) e2).length := Eq.trans hl3 List.length_set.symm
              refine o_end (by kernel_rfl) ?_
              refine t_drop [0] (by kernel_rfl) ?_
              refine t_L (L' := [.own A1 a0.length c1 (rowOf encT_api_Block ((p3.set (Int.toNat p1) e1).set (Int.toNat p2) e2)) 2 57]) (by kernel_rfl) ?_
              refine t_env [0, 2, 3] (E' := [(0, .slice A1 a0.length c1), (2, .int .i64 p1), (3, .int .i64 p2)]) (by kernel_rfl) ?_
              exact e_inv (fun a w ha hw => ⟨hl4, ha, hw⟩)
            · obtain ⟨hi17, hi18, hg9⟩ := idx_some hx2
              refine s_val 24 (.indexAddr 46 (.tmp 22) (.tmp 23)) (.pointer (some (adr A1 (Int.toNat p1 * 2)))) (by kernel_rfl) (v_index (k := .i64) (c := c1) (by kernel_rfl) (by kernel_rfl) (by kernel_rfl) hi17 (len_lt hn1 hi18) (own_some (j := 0) rfl (len_lt hn1 hi18) hi17)) ?_
              refine tt_all [7, 11] [] (Ext.refl _) (by kernel_rfl) (by kernel_rfl) (by kernel_rfl) (by kernel_rfl) ⟨?_, ?_, trivial⟩
              · refine t_env [0, 2, 3, 14, 15, 16, 17, 18, 19, 20, 22, 23, 24] (E' := [(0, .slice A1 a0.length c1), (2, .int .i64 p1), (3, .int .i64 p2), (14, .slice A1 a0.length c1), (15, .int .i64 p1), (16, .slice A1 a0.length c1), (17, .int .i64 p2), (18, .slice A1 a0.length c1), (19, .int .i64 p2), (20, .pointer (some (adr A1 (Int.toNat p2 * 2)))), (22, .slice A1 a0.length c1), (23, .int .i64 p1), (24, .pointer (some (adr A1 (Int.toNat p1 * 2))))]) (by kernel_rfl) ?_
                refine s_one (l := [((adr A1 (Int.toNat p2 * 2)), .int .u32 e1.xLeft), (((adr A1 (Int.toNat p2 * 2)).add 1), .int .u32 e1.xRight)]) (.one ((At.sub (l := encT_api_Block e1) 0 (at_own (j := 0) (off := Int.toNat p2 * 2) rfl (row_at (enc := encT_api_Block) (sz := 2) (fun _ => rfl) hg5)) rfl)) (.one ((At.sub (l := encT_api_Block e1) 1 (at_own (j := 0) (off := Int.toNat p2 * 2) rfl (row_at (enc := encT_api_Block) (sz := 2) (fun _ => rfl) hg5)) rfl)) .nil)) (E' := (21, .agg #[.int .u32 e1.xLeft, .int .u32 e1.xRight]) :: [(0, .slice A1 a0.length c1), (2, .int .i64 p1), (3, .int .i64 p2), (14, .slice A1 a0.length c1), (15, .int .i64 p1), (16, .slice A1 a0.length c1), (17, .int .i64 p2), (18, .slice A1 a0.length c1), (19, .int .i64 p2), (20, .pointer (some (adr A1 (Int.toNat p2 * 2)))), (22, .slice A1 a0.length c1), (23, .int .i64 p1), (24, .pointer (some (adr A1 (Int.toNat p1 * 2))))]) (by kernel_rfl) ?_
                refine t_env [0, 2, 3, 14, 15, 16, 17, 18, 19, 20, 21, 22, 23, 24] (E' := [(0, .slice A1 a0.length c1), (2, .int .i64 p1), (3, .int .i64 p2), (14, .slice A1 a0.length c1), (15, .int .i64 p1), (16, .slice A1 a0.length c1), (17, .int .i64 p2), (18, .slice A1 a0.length c1), (19, .int .i64 p2), (20, .pointer (some (adr A1 (Int.toNat p2 * 2)))), (21, .agg #[.int .u32 e1.xLeft, .int .u32 e1.xRight]), (22, .slice A1 a0.length c1), (23, .int .i64 p1), (24, .pointer (some (adr A1 (Int.toNat p1 * 2))))]) (by kernel_rfl) ?_
                refine tt_stp 11 [] (Ext.refl _) (by kernel_rfl) (by kernel_rfl) (by kernel_rfl) (by kernel_rfl) ?_
                refine s_one (l := [((adr A1 (Int.toNat p1 * 2)), .int .u32 e2.xLeft), (((adr A1 (Int.toNat p1 * 2)).add 1), .int .u32 e2.xRight)]) (.one ((At.sub (l := encT_api_Block e2) 0 (at_own (j := 0) (off := Int.toNat p1 * 2) rfl (row_at (enc := encT_api_Block) (sz := 2) (fun _ => rfl) hg9)) rfl)) (.one ((At.sub (l := encT_api_Block e2) 1 (at_own (j := 0) (off := Int.toNat p1 * 2) rfl (row_at (enc := encT_api_Block) (sz := 2) (fun _ => rfl) hg9)) rfl)) .nil)) (E' := (25, .agg #[.int .u32 e2.xLeft, .int .u32 e2.xRight]) :: [(0, .slice A1 a0.length c1), (2, .int .i64 p1), (3, .int .i64 p2), (14, .slice A1 a0.length c1), (15, .int .i64 p1), (16, .slice A1 a0.length c1), (17, .int .i64 p2), (18, .slice A1 a0.length c1), (19, .int .i64 p2), (20, .pointer (some (adr A1 (Int.toNat p2 * 2)))), (21, .agg #[.int .u32 e1.xLeft, .int .u32 e1.xRight]), (22, .slice A1 a0.length c1), (23, .int .i64 p1), (24, .pointer (some (adr A1 (Int.toNat p1 * 2))))]) (by kernel_rfl) ?_
                obtain ⟨hi19, hi20, hg10⟩ := idx_some hx3
                refine tt_stp 12 [] (Ext.refl _) (by kernel_rfl) (by kernel_rfl) (by kernel_rfl) (by kernel_rfl) ?_
                refine s_val 26 (.indexAddr 46 (.tmp 14) (.tmp 15)) (.pointer (some (adr A1 (Int.toNat p1 * 2)))) (by kernel_rfl) (v_index (k := .i64) (c := c1) (by kernel_rfl) (by kernel_rfl) (by kernel_rfl) hi19 (len_lt hn1 hi20) (own_some (j := 0) rfl (len_lt hn1 hi20) hi19)) ?_
                refine tt_stp 13 [] (Ext.refl _) (by kernel_rfl) (by kernel_rfl) (by kernel_rfl) (by kernel_rfl) ?_
                refine s_setE (enc := encT_api_Block) (v := .agg #[.int .u32 e1.xLeft, .int .u32 e1.xRight]) 57 (.tmp 26) (.tmp 21) 0 (x := e1) (by kernel_rfl) (by kernel_rfl) (by kernel_rfl) rfl (by kernel_rfl) rfl (fun _ => rfl) hg10 (encT_api_Block_one e1) (by decide) ?_
                have hl5 : a0.length = (p3.set (Int.toNat p1) e1).length := Eq.trans hn1 List.length_set.symm
                refine tt_end [] (Ext.refl _) (by kernel_rfl) (by kernel_rfl) (by kernel_rfl) ?_
                obtain ⟨hi21, hi22, hg11⟩ := idx_some hx4
                refine o_val 27 (.indexAddr 46 (.tmp 16) (.tmp 17)) (.pointer (some (adr A1 (Int.toNat p2 * 2)))) (by kernel_rfl) (v_index (k := .i64) (c := c1) (by kernel_rfl) (by kernel_rfl) (by kernel_rfl) hi21 (len_lt hl5 hi22) (own_some (j := 0) rfl (len_lt hl5 hi22) hi21)) ?_
                refine o_stp ?_ (by kernel_rfl)
                refine s_setE (enc := encT_api_Block) (v := .agg #[.int .u32 e2.xLeft, .int .u32 e2.xRight]) 57 (.tmp 27) (.tmp 25) 0 (x := e2) (by kernel_rfl) (by kernel_rfl) (by kernel_rfl) rfl (by kernel_rfl) rfl (fun _ => rfl) hg11 (encT_api_Block_one e2) (by decide) ?_
                have hl6 : a0.length = ((p3.set (Int.toNat p1) e1).set (Int.toNat p2) e2).length := Eq.trans hl5 List.length_set.symm
                refine o_end (by kernel_rfl) ?_
                refine t_drop [0] (by kernel_rfl) ?_
                refine t_L (L' := [.own A1 a0.length c1 (rowOf encT_api_Block ((p3.set (Int.toNat p1) e1).set (Int.toNat p2) e2)) 2 57]) (by kernel_rfl) ?_
                refine t_env [0, 2, 3] (E' := [(0, .slice A1 a0.length c1), (2, .int .i64 p1), (3, .int .i64 p2)]) (by kernel_rfl) ?_
                exact e_inv (fun a w ha hw => ⟨hl6, ha, hw⟩)
              · refine t_env [0, 2, 3, 14, 15, 16, 17, 18, 19, 20, 22, 23, 24] (E' := [(0, .slice A1 a0.length c1), (2, .int .i64 p1), (3, .int .i64 p2), (14, .slice A1 a0.length c1), (15, .int .i64 p1), (16, .slice A1 a0.length c1), (17, .int .i64 p2), (18, .slice A1 a0.length c1), (19, .int .i64 p2), (20, .pointer (some (adr A1 (Int.toNat p2 * 2)))), (22, .slice A1 a0.length c1), (23, .int .i64 p1), (24, .pointer (some (adr A1 (Int.toNat p1 * 2))))]) (by kernel_rfl) ?_
                refine s_one (l := [((adr A1 (Int.toNat p1 * 2)), .int .u32 e2.xLeft), (((adr A1 (Int.toNat p1 * 2)).add 1), .int .u32 e2.xRight)]) (.one ((At.sub (l := encT_api_Block e2) 0 (at_own (j := 0) (off := Int.toNat p1 * 2) rfl (row_at (enc := encT_api_Block) (sz := 2) (fun _ => rfl) hg9)) rfl)) (.one ((At.sub (l := encT_api_Block e2) 1 (at_own (j := 0) (off := Int.toNat p1 * 2) rfl (row_at (enc := encT_api_Block) (sz := 2) (fun _ => rfl) hg9)) rfl)) .nil)) (E' := (25, .agg #[.int .u32 e2.xLeft, .int .u32 e2.xRight]) :: [(0, .slice A1 a0.length c1), (2, .int .i64 p1), (3, .int .i64 p2), (14, .slice A1 a0.length c1), (15, .int .i64 p1), (16, .slice A1 a0.length c1), (17, .int .i64 p2), (18, .slice A1 a0.length c1), (19, .int .i64 p2), (20, .pointer (some (adr A1 (Int.toNat p2 * 2)))), (22, .slice A1 a0.length c1), (23, .int .i64 p1), (24, .pointer (some (adr A1 (Int.toNat p1 * 2))))]) (by kernel_rfl) ?_
                refine t_env [0, 2, 3, 14, 15, 16, 17, 18, 19, 20, 22, 23, 24, 25] (E' := [(0, .slice A1 a0.length c1), (2, .int .i64 p1), (3, .int .i64 p2), (14, .slice A1 a0.length c1), (15, .int .i64 p1), (16, .slice A1 a0.length c1), (17, .int .i64 p2), (18, .slice A1 a0.length c1), (19, .int .i64 p2), (20, .pointer (some (adr A1 (Int.toNat p2 * 2)))), (22, .slice A1 a0.length c1), (23, .int .i64 p1), (24, .pointer (some (adr A1 (Int.toNat p1 * 2)))), (25, .agg #[.int .u32 e2.xLeft, .int .u32 e2.xRight])]) (by kernel_rfl) ?_
                refine tt_stp 7 [] (Ext.refl _) (by kernel_rfl) (by kernel_rfl) (by kernel_rfl) (by kernel_rfl) ?_
                refine s_one (l := [((adr A1 (Int.toNat p2 * 2)), .int .u32 e1.xLeft), (((adr A1 (Int.toNat p2 * 2)).add 1), .int .u32 e1.xRight)]) (.one ((At.sub (l := encT_api_Block e1) 0 (at_own (j := 0) (off := Int.toNat p2 * 2) rfl (row_at (enc := encT_api_Block) (sz := 2) (fun _ => rfl) hg5)) rfl)) (.one ((At.sub (l := encT_api_Block e1) 1 (at_own (j := 0) (off := Int.toNat p2 * 2) rfl (row_at (enc := encT_api_Block) (sz := 2) (fun _ => rfl) hg5)) rfl)) .nil)) (E' := (21, .agg #[.int .u32 e1.xLeft, .int .u32 e1.xRight]) :: [(0, .slice A1 a0.length c1), (2, .int .i64 p1), (3, .int .i64 p2), (14, .slice A1 a0.length c1), (15, .int .i64 p1), (16, .slice A1 a0.length c1), (17, .int .i64 p2), (18, .slice A1 a0.length c1), (19, .int .i64 p2), (20, .pointer (some (adr A1 (Int.toNat p2 * 2)))), (22, .slice A1 a0.length c1), (23, .int .i64 p1), (24, .pointer (some (adr A1 (Int.toNat p1 * 2)))), (25, .agg #[.int .u32 e2.xLeft, .int .u32 e2.xRight])]) (by kernel_rfl) ?_
                obtain ⟨hi23, hi24, hg12⟩ := idx_some hx3
                refine tt_stp 12 [] (Ext.refl _) (by kernel_rfl) (by kernel_rfl) (by kernel_rfl) (by kernel_rfl) ?_
                refine s_val 26 (.indexAddr 46 (.tmp 14) (.tmp 15)) (.pointer (some (adr A1 (Int.toNat p1 * 2)))) (by kernel_rfl) (v_index (k := .i64) (c := c1) (by kernel_rfl) (by kernel_rfl) (by kernel_rfl) hi23 (len_lt hn1 hi24) (own_some (j := 0) rfl (len_lt hn1 hi24) hi23)) ?_
                refine tt_stp 13 [] (Ext.refl _) (by kernel_rfl) (by kernel_rfl) (by kernel_rfl) (by kernel_rfl) ?_
                refine s_setE (enc := encT_api_Block) (v := .agg #[.int .u32 e1.xLeft, .int .u32 e1.xRight]) 57 (.tmp 26) (.tmp 21) 0 (x := e1) (by kernel_rfl) (by kernel_rfl) (by kernel_rfl) rfl (by kernel_rfl) rfl (fun _ => rfl) hg12 (encT_api_Block_one e1) (by decide) ?_
                have hl7 : a0.length = (p3.set (Int.toNat p1) e1).length := Eq.trans hn1 List.length_set.symm
                refine tt_end [] (Ext.refl _) (by kernel_rfl) (by kernel_rfl) (by kernel_rfl) ?_
                obtain ⟨hi25, hi26, hg13⟩ := idx_some hx4
                refine o_val 27 (.indexAddr 46 (.tmp 16) (.tmp 17)) (.pointer (some (adr A1 (Int.toNat p2 * 2)))) (by kernel_rfl) (v_index (k := .i64) (c := c1) (by kernel_rfl) (by kernel_rfl) (by kernel_rfl) hi25 (len_lt hl7 hi26) (own_some (j := 0) rfl (len_lt hl7 hi26) hi25)) ?_
                refine o_stp ?_ (by kernel_rfl)
                refine s_setE (enc := encT_api_Block) (v := .agg #[.int .u32 e2.xLeft, .int .u32 e2.xRight]) 57 (.tmp 27) (.tmp 25) 0 (x := e2) (by kernel_rfl) (by kernel_rfl) (by kernel_rfl) rfl (by kernel_rfl) rfl (fun _ => rfl) hg13 (encT_api_Block_one e2) (by decide) ?_
                have hl8 : a0.length = ((p3.set (Int.toNat p1) e1).set (Int.toNat p2) e2).length := Eq.trans hl7 List.length_set.symm
                refine o_end (by kernel_rfl) ?_
                refine t_drop [0] (by kernel_rfl) ?_
                refine t_L (L' := [.own A1 a0.length c1 (rowOf encT_api_Block ((p3.set (Int.toNat p1) e1).set (Int.toNat p2) e2)) 2 57]) (by kernel_rfl) ?_
                refine t_env [0, 2, 3] (E' := [(0, .slice A1 a0.length c1), (2, .int .i64 p1), (3, .int .i64 p2)]) (by kernel_rfl) ?_
                exact e_inv (fun a w ha hw => ⟨hl8, ha, hw⟩)
          · obtain ⟨hi27, hi28, hg14⟩ := idx_some hx2
            refine s_val 24 (.indexAddr 46 (.tmp 22) (.tmp 23)) (.pointer (some (adr A1 (Int.toNat p1 * 2)))) (by kernel_rfl) (v_index (k := .i64) (c := c1) (by kernel_rfl) (by kernel_rfl) (by kernel_rfl) hi27 (len_lt hn1 hi28) (own_some (j := 0) rfl (len_lt hn1 hi28) hi27)) ?_
            refine tt_all [6, 11] [] (Ext.refl _) (by kernel_rfl) (by kernel_rfl) (by kernel_rfl) (by kernel_rfl) ⟨?_, ?_, trivial⟩
            · obtain ⟨hi29, hi30, hg15⟩ := idx_some hx1
              refine s_val 20 (.indexAddr 46 (.tmp 18) (.tmp 19)) (.pointer (some (adr A1 (Int.toNat p2 * 2)))) (by kernel_rfl) (v_index (k := .i64) (c := c1) (by kernel_rfl) (by kernel_rfl) (by kernel_rfl) hi29 (len_lt hn1 hi30) (own_some (j := 0) rfl (len_lt hn1 hi30) hi29)) ?_
              refine tt_all [7, 11] [] (Ext.refl _) (by kernel_rfl) (by kernel_rfl) (by kernel_rfl) (by kernel_rfl) ⟨?_, ?_, trivial⟩
              · refine t_env [0, 2, 3, 14, 15, 16, 17, 18, 19, 20, 22, 23, 24] (E' := [(0, .slice A1 a0.length c1), (2, .int .i64 p1), (3, .int .i64 p2), (14, .slice A1 a0.length c1), (15, .int .i64 p1), (16, .slice A1 a0.length c1), (17, .int .i64 p2), (18, .slice A1 a0.length c1), (19, .int .i64 p2), (20, .pointer (some (adr A1 (Int.toNat p2 * 2)))), (22, .slice A1 a0.length c1), (23, .int .i64 p1), (24, .pointer (some (adr A1 (Int.toNat p1 * 2))))]) (by kernel_rfl) ?_
                refine s_one (l := [((adr A1 (Int.toNat p2 * 2)), .int .u32 e1.xLeft), (((adr A1 (Int.toNat p2 * 2)).add 1), .int .u32 e1.xRight)]) (.one ((At.sub (l := encT_api_Block e1) 0 (at_own (j := 0) (off := Int.toNat p2 * 2) rfl (row_at (enc := encT_api_Block) (sz := 2) (fun _ => rfl) hg15)) rfl)) (.one ((At.sub (l := encT_api_Block e1) 1 (at_own (j := 0) (off := Int.toNat p2 * 2) rfl (row_at (enc := encT_api_Block) (sz := 2) (fun _ => rfl) hg15)) rfl)) .nil)) (E' := (21, .agg #[.int .u32 e1.xLeft, .int .u32 e1.xRight]) :: [(0, .slice A1 a0.length c1), (2, .int .i64 p1), (3, .int .i64 p2), (14, .slice A1 a0.length c1), (15, .int .i64 p1), (16, .slice A1 a0.length c1), (17, .int .i64 p2), (18, .slice A1 a0.length c1), (19, .int .i64 p2), (20, .pointer (some (adr A1 (Int.toNat p2 * 2)))), (22, .slice A1 a0.length c1), (23, .int .i64 p1), (24, .pointer (some (adr A1 (Int.toNat p1 * 2))))]) (by kernel_rfl) ?_
                refine t_env [0, 2, 3, 14, 15, 16, 17, 18, 19, 20, 21, 22, 23, 24] (E' := [(0, .slice A1 a0.length c1), (2, .int .i64 p1), (3, .int .i64 p2), (14, .slice A1 a0.length c1), (15, .int .i64 p1), (16, .slice A1 a0.length c1), (17, .int .i64 p2), (18, .slice A1 a0.length c1), (19, .int .i64 p2), (20, .pointer (some (adr A1 (Int.toNat p2 * 2)))), (21, .agg #[.int .u32 e1.xLeft, .int .u32 e1.xRight]), (22, .slice A1 a0.length c1), (23, .int .i64 p1), (24, .pointer (some (adr A1 (Int.toNat p1 * 2))))]) (by kernel_rfl) ?_
                refine tt_stp 11 [] (Ext.refl _) (by kernel_rfl) (by kernel_rfl) (by kernel_rfl) (by kernel_rfl) ?_
                refine s_one (l := [((adr A1 (Int.toNat p1 * 2)), .int .u32 e2.xLeft), (((adr A1 (Int.toNat p1 * 2)).add 1), .int .u32 e2.xRight)]) (.one ((At.sub (l := encT_api_Block e2) 0 (at_own (j := 0) (off := Int.toNat p1 * 2) rfl (row_at (enc := encT_api_Block) (sz := 2) (fun _ => rfl) hg14)) rfl)) (.one ((At.sub (l := encT_api_Block e2) 1 (at_own (j := 0) (off := Int.toNat p1 * 2) rfl (row_at (enc := encT_api_Block) (sz := 2) (fun _ => rfl) hg14)) rfl)) .nil)) (E' := (25, .agg #[.int .u32 e2.xLeft, .int .u32 e2.xRight]) :: [(0, .slice A1 a0.length c1), (2, .int .i64 p1), (3, .int .i64 p2), (14, .slice A1 a0.length c1), (15, .int .i64 p1), (16, .slice A1 a0.length c1), (17, .int .i64 p2), (18, .slice A1 a0.length c1), (19, .int .i64 p2), (20, .pointer (some (adr A1 (Int.toNat p2 * 2)))), (21, .agg #[.int .u32 e1.xLeft, .int .u32 e1.xRight]), (22, .slice A1 a0.length c1), (23, .int .i64 p1), (24, .pointer (some (adr A1 (Int.toNat p1 * 2))))]) (by kernel_rfl) ?_
                obtain ⟨hi31, hi32, hg16⟩ := idx_some hx3
                refine tt_stp 12 [] (Ext.refl _) (by kernel_rfl) (by kernel_rfl) (by kernel_rfl) (by kernel_rfl) ?_
                refine s_val 26 (.indexAddr 46 (.tmp 14) (.tmp 15)) (.pointer (some (adr A1 (Int.toNat p1 * 2)))) (by kernel_rfl) (v_index (k := .i64) (c := c1) (by kernel_rfl) (by kernel_rfl) (by kernel_rfl) hi31 (len_lt hn1 hi32) (own_some (j := 0) rfl (len_lt hn1 hi32) hi31)) ?_
                refine tt_stp 13 [] (Ext.refl _) (by kernel_rfl) (by kernel_rfl) (by kernel_rfl) (by kernel_rfl) ?_
                refine s_setE (enc := encT_api_Block) (v := .agg #[.int .u32 e1.xLeft, .int .u32 e1.xRight]) 57 (.tmp 26) (.tmp 21) 0 (x := e1) (by kernel_rfl) (by kernel_rfl) (by kernel_rfl) rfl (by kernel_rfl) rfl (fun _ => rfl) hg16 (encT_api_Block_one e1) (by decide) ?_
                have hl9 : a0.length = (p3.set (Int.toNat p1) e1).length := Eq.trans hn1 List.length_set.symm
                refine tt_end [] (Ext.refl _) (by kernel_rfl) (by kernel_rfl) (by kernel_rfl) ?_
                obtain ⟨hi33, hi34, hg17⟩ := idx_some hx4
                refine o_val 27 (.indexAddr 46 (.tmp 16) (.tmp 17)) (.pointer (some (adr A1 (Int.toNat p2 * 2)))) (by kernel_rfl) (v_index (k := .i64) (c := c1) (by kernel_rfl) (by kernel_rfl) (by kernel_rfl) hi33 (len_lt hl9 hi34) (own_some (j := 0) rfl (len_lt hl9 hi34) hi33)) ?_
                refine o_stp ?_ (by kernel_rfl)
                refine s_setE (enc := encT_api_Block) (v := .agg #[.int .u32 e2.xLeft, .int .u32 e2.xRight]) 57 (.tmp 27) (.tmp 25) 0 (x := e2) (by kernel_rfl) (by kernel_rfl) (by kernel_rfl) rfl (by kernel_rfl) rfl (fun _ => rfl) hg17 (encT_api_Block_one e2) (by decide) ?_
                have hl10 : a0.length = ((p3.set (Int.toNat p1) e1).set (Int.toNat p2) e2).length := Eq.trans hl9 List.length_set.symm
                refine o_end (by kernel_rfl) ?_
                refine t_drop [0] (by kernel_rfl) ?_
                refine t_L (L' := [.own A1 a0.length c1 (rowOf encT_api_Block ((p3.set (Int.toNat p1) e1).set (Int.toNat p2) e2)) 2 57]) (by kernel_rfl) ?_
                refine t_env [0, 2, 3] (E' := [(0, .slice A1 a0.length c1), (2, .int .i64 p1), (3, .int .i64 p2)]) (by kernel_rfl) ?_
                exact e_inv (fun a w ha hw => ⟨hl10, ha, hw⟩)
              · refine t_env [0, 2, 3, 14, 15, 16, 17, 18, 19, 20, 22, 23, 24] (E' := [(0, .slice A1 a0.length c1), (2, .int .i64 p1), (3, .int .i64 p2), (14, .slice A1 a0.length c1), (15, .int .i64 p1), (16, .slice A1 a0.length c1), (17, .int .i64 p2), (18, .slice A1 a0.length c1), (19, .int .i64 p2), (20, .pointer (some (adr A1 (Int.toNat p2 * 2)))), (22, .slice A1 a0.length c1), (23, .int .i64 p1), (24, .pointer (some (adr A1 (Int.toNat p1 * 2))))]) (by kernel_rfl) ?_
                refine s_one (l := [((adr A1 (Int.toNat p1 * 2)), .int .u32 e2.xLeft), (((adr A1 (Int.toNat p1 * 2)).add 1), .int .u32 e2.xRight)]) (.one ((At.sub (l := encT_api_Block e2) 0 (at_own (j := 0) (off := Int.toNat p1 * 2) rfl (row_at (enc := encT_api_Block) (sz := 2) (fun _ => rfl) hg14)) rfl)) (.one ((At.sub (l := encT_api_Block e2) 1 (at_own (j := 0) (off := Int.toNat p1 * 2) rfl (row_at (enc := encT_api_Block) (sz := 2) (fun _ => rfl) hg14)) rfl)) .nil)) (E' := (25, .agg #[.int .u32 e2.xLeft, .int .u32 e2.xRight]) :: [(0, .slice A1 a0.length c1), (2, .int .i64 p1), (3, .int .i64 p2), (14, .slice A1 a0.length c1), (15, .int .i64 p1), (16, .slice A1 a0.length c1), (17, .int .i64 p2), (18, .slice A1 a0.length c1), (19, .int .i64 p2), (20, .pointer (some (adr A1 (Int.toNat p2 * 2)))), (22, .slice A1 a0.length c1), (23, .int .i64 p1), (24, .pointer (some (adr A1 (Int.toNat p1 * 2))))]) (by kernel_rfl) ?_
                refine t_env [0, 2, 3, 14, 15, 16, 17, 18, 19, 20, 22, 23, 24, 25] (E' := [(0, .slice A1 a0.length c1), (2, .int .i64 p1), (3, .int .i64 p2), (14, .slice A1 a0.length c1), (15, .int .i64 p1), (16, .slice A1 a0.length c1), (17, .int .i64 p2), (18, .slice A1 a0.length c1), (19, .int .i64 p2), (20, .pointer (some (adr A1 (Int.toNat p2 * 2)))), (22, .slice A1 a0.length c1), (23, .int .i64 p1), (24, .pointer (some (adr A1 (Int.toNat p1 * 2)))), (25, .agg #[.int .u32 e2.xLeft, .int .u32 e2.xRight])]) (by kernel_rfl) ?_
                refine tt_stp 7 [] (Ext.refl _) (by kernel_rfl) (by kernel_rfl) (by kernel_rfl) (by kernel_rfl) ?_
                refine s_one (l := [((adr A1 (Int.toNat p2 * 2)), .int .u32 e1.xLeft), (((adr A1 (Int.toNat p2 * 2)).add 1), .int .u32 e1.xRight)]) (.one ((At.sub (l := encT_api_Block e1) 0 (at_own (j := 0) (off := Int.toNat p2 * 2) rfl (row_at (enc := encT_api_Block) (sz := 2) (fun _ => rfl) hg15)) rfl)) (.one ((At.sub (l := encT_api_Block e1) 1 (at_own (j := 0) (off := Int.toNat p2 * 2) rfl (row_at (enc := encT_api_Block) (sz := 2) (fun _ => rfl) hg15)) rfl)) .nil)) (E' := (21, .agg #[.int .u32 e1.xLeft, .int .u32 e1.xRight]) :: [(0, .slice A1 a0.length c1), (2, .int .i64 p1), (3, .int .i64 p2), (14, .slice A1 a0.length c1), (15, .int .i64 p1), (16, .slice A1 a0.length c1), (17, .int .i64 p2), (18, .slice A1 a0.length c1), (19, .int .i64 p2), (20, .pointer (some (adr A1 (Int.toNat p2 * 2)))), (22, .slice A1 a0.length c1), (23, .int .i64 p1), (24, .pointer (some (adr A1 (Int.toNat p1 * 2)))), (25, .agg #[.int .u32 e2.xLeft, .int .u32 e2.xRight])]) (by kernel_rfl) ?_
                obtain ⟨hi35, hi36, hg18⟩ := idx_some hx3
                refine tt_stp 12 [] (Ext.refl _) (by kernel_rfl) (by kernel_rfl) (by kernel_rfl) (by kernel_rfl) ?_
                refine s_val 26 (.indexAddr 46 (.tmp 14) (.tmp 15)) (.pointer (some (adr A1 (Int.toNat p1 * 2)))) (by kernel_rfl) (v_index (k := .i64) (c := c1) (by kernel_rfl) (by kernel_rfl) (by kernel_rfl) hi35 (len_lt hn1 hi36) (own_some (j := 0) rfl (len_lt hn1 hi36) hi35)) ?_
                refine tt_stp 13 [] (Ext.refl _) (by kernel_rfl) (by kernel_rfl) (by kernel_rfl) (by kernel_rfl) ?_
                refine s_setE (enc := encT_api_Block) (v := .agg #[.int .u32 e1.xLeft, .int .u32 e1.xRight]) 57 (.tmp 26) (.tmp 21) 0 (x := e1) (by kernel_rfl) (by kernel_rfl) (by kernel_rfl) rfl (by kernel_rfl) rfl (fun _ => rfl) hg18 (encT_api_Block_one e1) (by decide) ?_
                have hl11 : a0.length = (p3.set (Int.toNat p1) e1).length := Eq.trans hn1 List.length_set.symm
                refine tt_end [] (Ext.refl _) (by kernel_rfl) (by kernel_rfl) (by kernel_rfl) ?_
                obtain ⟨hi37, hi38, hg19⟩ := idx_some hx4
                refine o_val 27 (.indexAddr 46 (.tmp 16) (.tmp 17)) (.pointer (some (adr A1 (Int.toNat p2 * 2)))) (by kernel_rfl) (v_index (k := .i64) (c := c1) (by kernel_rfl) (by kernel_rfl) (by kernel_rfl) hi37 (len_lt hl11 hi38) (own_some (j := 0) rfl (len_lt hl11 hi38) hi37)) ?_
                refine o_stp ?_ (by kernel_rfl)
                refine s_setE (enc := encT_api_Block) (v := .agg #[.int .u32 e2.xLeft, .int .u32 e2.xRight]) 57 (.tmp 27) (.tmp 25) 0 (x := e2) (by kernel_rfl) (by kernel_rfl) (by kernel_rfl) rfl (by kernel_rfl) rfl (fun _ => rfl) hg19 (encT_api_Block_one e2) (by decide) ?_
                have hl12 : a0.length = ((p3.set (Int.toNat p1) e1).set (Int.toNat p2) e2).length := Eq.trans hl11 List.length_set.symm
                refine o_end (by kernel_rfl) ?_
                refine t_drop [0] (by kernel_rfl) ?_
                refine t_L (L' := [.own A1 a0.length c1 (rowOf encT_api_Block ((p3.set (Int.toNat p1) e1).set (Int.toNat p2) e2)) 2 57]) (by kernel_rfl) ?_
                refine t_env [0, 2, 3] (E' := [(0, .slice A1 a0.length c1), (2, .int .i64 p1), (3, .int .i64 p2)]) (by kernel_rfl) ?_
                exact e_inv (fun a w ha hw => ⟨hl12, ha, hw⟩)
            · refine t_env [0, 2, 3, 14, 15, 16, 17, 18, 19, 22, 23, 24] (E' := [(0, .slice A1 a0.length c1), (2, .int .i64 p1), (3, .int .i64 p2), (14, .slice A1 a0.length c1), (15, .int .i64 p1), (16, .slice A1 a0.length c1), (17, .int .i64 p2), (18, .slice A1 a0.length c1), (19, .int .i64 p2), (22, .slice A1 a0.length c1), (23, .int .i64 p1), (24, .pointer (some (adr A1 (Int.toNat p1 * 2))))]) (by kernel_rfl) ?_
              refine s_one (l := [((adr A1 (Int.toNat p1 * 2)), .int .u32 e2.xLeft), (((adr A1 (Int.toNat p1 * 2)).add 1), .int .u32 e2.xRight)]) (.one ((At.sub (l := encT_api_Block e2) 0 (at_own (j := 0) (off := Int.toNat p1 * 2) rfl (row_at (enc := encT_api_Block) (sz := 2) (fun _ => rfl) hg14)) rfl)) (.one ((At.sub (l := encT_api_Block e2) 1 (at_own (j := 0) (off := Int.toNat p1 * 2) rfl (row_at (enc := encT_api_Block) (sz := 2) (fun _ => rfl) hg14)) rfl)) .nil)) (E' := (25, .agg #[.int .u32 e2.xLeft, .int .u32 e2.xRight]) :: [(0, .slice A1 a0.length c1), (2, .int .i64 p1), (3, .int .i64 p2), (14, .slice A1 a0.length c1), (15, .int .i64 p1), (16, .slice A1 a0.length c1), (17, .int .i64 p2), (18, .slice A1 a0.length c1), (19, .int .i64 p2), (22, .slice A1 a0.length c1), (23, .int .i64 p1), (24, .pointer (some (adr A1 (Int.toNat p1 * 2))))]) (by kernel_rfl) ?_
              obtain ⟨hi39, hi40, hg20⟩ := idx_some hx1
              refine tt_stp 6 [] (Ext.refl _) (by kernel_rfl) (by kernel_rfl) (by kernel_rfl) (by kernel_rfl) ?_
              refine s_val 20 (.indexAddr 46 (.tmp 18) (.tmp 19)) (.pointer (some (adr A1 (Int.toNat p2 * 2)))) (by kernel_rfl) (v_index (k := .i64) (c := c1) (by kernel_rfl) (by kernel_rfl) (by kernel_rfl) hi39 (len_lt hn1 hi40) (own_some (j := 0) rfl (len_lt hn1 hi40) hi39)) ?_
              refine t_env [0, 2, 3, 14, 15, 16, 17, 18, 19, 20, 22, 23, 24, 25] (E' := [(0, .slice A1 a0.length c1), (2, .int .i64 p1), (3, .int .i64 p2), (14, .slice A1 a0.length c1), (15, .int .i64 p1), (16, .slice A1 a0.length c1), (17, .int .i64 p2), (18, .slice A1 a0.length c1), (19, .int .i64 p2), (20, .pointer (some (adr A1 (Int.toNat p2 * 2)))), (22, .slice A1 a0.length c1), (23, .int .i64 p1), (24, .pointer (some (adr A1 (Int.toNat p1 * 2)))), (25, .agg #[.int .u32 e2.xLeft, .int .u32 e2.xRight])]) (by kernel_rfl) ?_
              refine tt_stp 7 [] (Ext.refl _) (by kernel_rfl) (by kernel_rfl) (by kernel_rfl) (by kernel_rfl) ?_
              refine s_one (l := [((adr A1 (Int.toNat p2 * 2)), .int .u32 e1.xLeft), (((adr A1 (Int.toNat p2 * 2)).add 1), .int .u32 e1.xRight)]) (.one ((At.sub (l := encT_api_Block e1) 0 (at_own (j := 0) (off := Int.toNat p2 * 2) rfl (row_at (enc := encT_api_Block) (sz := 2) (fun _ => rfl) hg20)) rfl)) (.one ((At.sub (l := encT_api_Block e1) 1 (at_own (j := 0) (off := Int.toNat p2 * 2) rfl (row_at (enc := encT_api_Block) (sz := 2) (fun _ => rfl) hg20)) rfl)) .nil)) (E' := (21, .agg #[.int .u32 e1.xLeft, .int .u32 e1.xRight]) :: [(0, .slice A1 a0.length c1), (2, .int .i64 p1), (3, .int .i64 p2), (14, .slice A1 a0.length c1), (15, .int .i64 p1), (16, .slice A1 a0.length c1), (17, .int .i64 p2), (18, .slice A1 a0.length c1), (19, .int .i64 p2), (20, .pointer (some (adr A1 (Int.toNat p2 * 2)))), (22, .slice A1 a0.length c1), (23, .int .i64 p1), (24, .pointer (some (adr A1 (Int.toNat p1 * 2)))), (25, .agg #[.int .u32 e2.xLeft, .int .u32 e2.xRight])]) (by kernel_rfl) ?_
              obtain ⟨hi41, hi42, hg21⟩ := idx_some hx3
              refine tt_stp 12 [] (Ext.refl _) (by kernel_rfl) (by kernel_rfl) (by kernel_rfl) (by kernel_rfl) ?_
              refine s_val 26 (.indexAddr 46 (.tmp 14) (.tmp 15)) (.pointer (some (adr A1 (Int.toNat p1 * 2)))) (by kernel_rfl) (v_index (k := .i64) (c := c1) (by kernel_rfl) (by kernel_rfl) (by kernel_rfl) hi41 (len_lt hn1 hi42) (own_some (j := 0) rfl (len_lt hn1 hi42) hi41)) ?_
              refine tt_stp 13 [] (Ext.refl _) (by kernel_rfl) (by kernel_rfl) (by kernel_rfl) (by kernel_rfl) ?_
              refine s_setE (enc := encT_api_Block) (v := .agg #[.int .u32 e1.xLeft, .int .u32 e1.xRight]) 57 (.tmp 26) (.tmp 21) 0 (x := e1) (by kernel_rfl) (by kernel_rfl) (by kernel_rfl) rfl (by kernel_rfl) rfl (fun _ => rfl) hg21 (encT_api_Block_one e1) (by decide) ?_
              have hl13 : a0.length = (p3.set (Int.toNat p1) e1).length := Eq.trans hn1 List.length_set.symm
              refine tt_end [] (Ext.refl _) (by kernel_rfl) (by kernel_rfl) (by kernel_rfl) ?_
              obtain ⟨hi43, hi44, hg22⟩ := idx_some hx4
              refine o_val 27 (.indexAddr 46 (.tmp 16) (.tmp 17)) (.pointer (some (adr A1 (Int.toNat p2 * 2)))) (by kernel_rfl) (v_index (k := .i64) (c := c1) (by kernel_rfl) (by kernel_rfl) (by kernel_rfl) hi43 (len_lt hl13 hi44) (own_some (j := 0) rfl (len_lt hl13 hi44) hi43)) ?_
              refine o_stp ?_ (by kernel_rfl)
              refine s_setE (enc := encT_api_Block) (v := .agg #[.int .u32 e2.xLeft, .int .u32 e2.xRight]) 57 (.tmp 27) (.tmp 25) 0 (x := e2) (by kernel_rfl) (by kernel_rfl) (by kernel_rfl) rfl (by kernel_rfl) rfl (fun _ => rfl) hg22 (encT_api_Block_one e2) (by decide) ?_
              have hl14 : a0.length = ((p3.set (Int.toNat p1) e1).set (Int.toNat p2) e2).length := Eq.trans hl13 List.length_set.symm
              refine o_end (by kernel_rfl) ?_
              refine t_drop [0] (by kernel_rfl) ?_
              refine t_L (L' := [.own A1 a0.length c1 (rowOf encT_api_Block ((p3.set (Int.toNat p1) e1).set (Int.toNat p2) e2)) 2 57]) (by kernel_rfl) ?_
              refine t_env [0, 2, 3] (E' := [(0, .slice A1 a0.length c1), (2, .int .i64 p1), (3, .int .i64 p2)]) (by kernel_rfl) ?_
              exact e_inv (fun a w ha hw => ⟨hl14, ha, hw⟩)
      · replace hm := ite_f hb1 hm
        refine w_exit 0 (by kernel_rfl) ?_
        refine e_x_seq ?_
        refine e_x_inv ?_
        refine e_x_here ?_
        refine t_drop [0] (by kernel_rfl) ?_
        refine t_L (L' := [.own A1 a0.length c1 (rowOf encT_api_Block p3) 2 57]) (by kernel_rfl) ?_
        refine t_env [] (E' := []) (by kernel_rfl) ?_
        obtain rfl := Option.some.inj hm
        exact e_inv (fun a w ha hw => ⟨hn1, ha, hw⟩)
  · exact fun a w ha hw => ⟨0, (I64 ((a0.length : Int) - 1)), a0, ht1, rfl, ha, hw⟩
def ring_In.f (a0 : Int) (a1 : Int) (a2 : Int) : Option (Bool) :=
  (some (decide ((U32 (a0 - a1)) < a2)))
theorem ring_In_ok (a0 : Int) (a1 : Int) (a2 : Int) (r : Bool) (hm : ring_In.f a0 a1 a2 = some r) (B G : Asn) (w : World) (hs : St B G [] w) :
    Calls Try.prog 38 #[.int .u32 a0, .int .u32 a1, .int .u32 a2] w (Post (X := Unit) (fun x => .bool r) (fun x => B) G (fun x => []) (fun x => True)) := by
  unfold ring_In.f at hm
  refine calls_W (F := Try.f38) Try.func38 rfl (by kernel_rfl) (L := []) ?_ hs
  refine w_seq 2 3 (by kernel_rfl) ?_
  refine w_region (by kernel_rfl) ?_
  refine o_run 1 [0, 1, 2] (l := []) .nil (E' := [(0, .int .u32 a0), (1, .int .u32 a1), (2, .int .u32 a2)]) (by kernel_rfl) ?_
  refine o_end (by kernel_rfl) ?_
  refine e_seq ?_
  refine w_seq 6 7 (by kernel_rfl) ?_
  refine w_region (by kernel_rfl) ?_
  refine o_run 6 [6] (l := []) .nil (E' := [(6, .bool (decide ((U32 (a0 - a1)) < a2)))]) (by kernel_rfl) ?_
  refine o_end (by kernel_rfl) ?_
  refine e_seq ?_
  refine w_ret (by kernel_rfl) ?_
  obtain rfl := Option.some.inj hm
  exact e_retP () (.bool (decide ((U32 (a0 - a1)) < a2))) [] (by kernel_rfl) (by kernel_rfl) rfl (by kernel_rfl) (by kernel_rfl) trivial
def rbuf_Buffer_Blocks_1.f (a0 : T_api_Block) (a1 : T_rbuf_Buffer_o) : Option (Bool) :=
  (if a1.xkept then ((ring_In.f a1.xlast a0.xLeft (U32 (a0.xRight - a0.xLeft))).bind fun t1 => (some t1)) else (some false))
theorem rbuf_Buffer_Blocks_1_ok (a0 : T_api_Block) (a1 : T_rbuf_Buffer_o) (r : Bool) (hm : rbuf_Buffer_Blocks_1.f a0 a1 = some r) (B G : Asn) (g1 : Nat) (g2 : Nat) (g3 : Nat) (A1 : Option Addr) (c1 : Nat) (A2 : Option Addr) (c2 : Nat) (hs1 : Sl kT_sack_run B A1 c1 a1.xBoard.xruns) (w : World) (hs : St B G [.blk g1 [.pointer (some ⟨g2, 0, none⟩)] 25, .blk g2 [.pointer (some ⟨g3, 0, none⟩), .slice A2 a1.xbytes.length c2, .int .i64 a1.xbegin, .int .i64 a1.xn, .int .u32 a1.xlast, .bool a1.xkept] 50, .blk g3 [.bool a1.xBoard.xmade, .int .u32 a1.xBoard.xfirst, .slice A1 a1.xBoard.xruns.length c1] 76, .own A2 a1.xbytes.length c2 (rowOf (encI .u8) a1.xbytes) 1 5] w) :
    Calls Try.prog 37 #[.agg #[.int .u32 a0.xLeft, .int .u32 a0.xRight], .pointer (some ⟨g1, 0, none⟩)] w (Post (X := Unit) (fun x => .bool r) (fun x => B) G (fun x => [.blk g1 [.pointer (some ⟨g2, 0, none⟩)] 25, .blk g2 [.pointer (some ⟨g3, 0, none⟩), .slice A2 a1.xbytes.length c2, .int .i64 a1.xbegin, .int .i64 a1.xn, .int .u32 a1.xlast, .bool a1.xkept] 50, .blk g3 [.bool a1.xBoard.xmade, .int .u32 a1.xBoard.xfirst, .slice A1 a1.xBoard.xruns.length c1] 76, .own A2 a1.xbytes.length c2 (rowOf (encI .u8) a1.xbytes) 1 5]) (fun x => True)) := by
  unfold rbuf_Buffer_Blocks_1.f at hm
  refine calls_W (F := Try.f37) Try.func37 rfl (by kernel_rfl) (L := [.blk g1 [.pointer (some ⟨g2, 0, none⟩)] 25, .blk g2 [.pointer (some ⟨g3, 0, none⟩), .slice A2 a1.xbytes.length c2, .int .i64 a1.xbegin, .int .i64 a1.xn, .int .u32 a1.xlast, .bool a1.xkept] 50, .blk g3 [.bool a1.xBoard.xmade, .int .u32 a1.xBoard.xfirst, .slice A1 a1.xBoard.xruns.length c1] 76, .own A2 a1.xbytes.length c2 (rowOf (encI .u8) a1.xbytes) 1 5]) ?_ hs
  refine w_seq 2 3 (by kernel_rfl) ?_
  refine w_region (by kernel_rfl) ?_
  refine o_stp ?_ (by kernel_rfl)
  refine s_new 2 (fun g4 => .pointer (some ⟨g4, 0, none⟩)) [.int .u32 a0.xLeft, .int .u32 a0.xRight] 57 (fun _ => by kernel_rfl) (fun g4 => ?_)
  refine o_run 1 [1, 2] (l := []) .nil (E' := [(1, .pointer (some ⟨g1, 0, none⟩)), (2, .pointer (some ⟨g4, 0, none⟩))]) (by kernel_rfl) ?_
  refine o_end (by kernel_rfl) ?_
  refine e_seq ?_
  refine w_seq 6 7 (by kernel_rfl) ?_
  refine w_tail 16 [.blk g4 [.int .u32 a0.xLeft, .int .u32 a0.xRight] 57, .blk g1 [.pointer (some ⟨g2, 0, none⟩)] 25, .blk g2 [.pointer (some ⟨g3, 0, none⟩), .slice A2 a1.xbytes.length c2, .int .i64 a1.xbegin, .int .i64 a1.xn, .int .u32 a1.xlast, .bool a1.xkept] 50, .blk g3 [.bool a1.xBoard.xmade, .int .u32 a1.xBoard.xfirst, .slice A1 a1.xBoard.xruns.length c1] 76, .own A2 a1.xbytes.length c2 (rowOf (encI .u8) a1.xbytes) 1 5] (by kernel_rfl) mixed (by kernel_rfl) ?_
  refine tt_run [0, 1, 2, 3, 4] [1, 2, 8] [0, 1, 2, 3, 4] 11 (listed' := #[true, true, true, true, true, false, false, false, false, false, false, false, false, false, false, false, false, false, false]) (l := [(⟨g1, 0, none⟩, .pointer (some ⟨g2, 0, none⟩)), (⟨g2, 5, none⟩, .bool a1.xkept)]) (.one (at_blk (j := 1) rfl rfl) (.one (at_blk (j := 2) rfl rfl) .nil)) (E' := [(1, .pointer (some ⟨g1, 0, none⟩)), (2, .pointer (some ⟨g4, 0, none⟩)), (8, .bool a1.xkept)]) (by kernel_rfl) (by kernel_rfl) (by kernel_rfl) (Ext.refl _) (by kernel_rfl) (by kernel_rfl) ?_
  refine t_split 8 a1.xkept (by kernel_rfl) (fun hb1 => ?_) (fun hb1 => ?_)
  · replace hm := ite_t hb1 hm
    refine tt_run [5, 6, 7, 8, 9, 10, 11, 12, 13, 14, 15] [8, 12, 14, 19] [0, 1, 2, 3, 4] 0 (listed' := #[true, true, true, true, true, true, true, true, true, true, true, true, true, true, true, true, false, false, false]) (l := [(⟨g1, 0, none⟩, .pointer (some ⟨g2, 0, none⟩)), (⟨g2, 4, none⟩, .int .u32 a1.xlast), (⟨g4, 0, none⟩, .int .u32 a0.xLeft), (⟨g4, 1, none⟩, .int .u32 a0.xRight), (⟨g4, 0, none⟩, .int .u32 a0.xLeft)]) (.one (at_blk (j := 1) rfl rfl) (.one (at_blk (j := 2) rfl rfl) (.one (at_blk (j := 0) rfl rfl) (.one (at_blk (j := 0) rfl rfl) (.one (at_blk (j := 0) rfl rfl) .nil))))) (E' := [(8, .bool true), (12, .int .u32 a1.xlast), (14, .int .u32 a0.xLeft), (19, .int .u32 (U32 (a0.xRight - a0.xLeft)))]) (by kernel_rfl) (by kernel_rfl) (by kernel_rfl) (Ext.refl _) (by kernel_rfl) (by kernel_rfl) ?_
    refine tt_end [0, 1, 2, 3, 4] (Ext.refl _) (by kernel_rfl) (by kernel_rfl) (by kernel_rfl) ?_
    obtain ⟨t1, hx1, hm⟩ := bind_some hm
    refine o_stp ?_ (by kernel_rfl)
    refine s_call 20 38 #[.int .u32 a1.xlast, .int .u32 a0.xLeft, .int .u32 (U32 (a0.xRight - a0.xLeft))] [] [0, 1, 2, 3, 4] (by kernel_rfl) (by kernel_rfl) (fun w hs => ring_In_ok a1.xlast a0.xLeft (U32 (a0.xRight - a0.xLeft)) t1 hx1 B _ w (St.cast (by kernel_rfl) hs)) (fun _ hx => ?_)
    refine t_L (L' := [.blk g4 [.int .u32 a0.xLeft, .int .u32 a0.xRight] 57, .blk g1 [.pointer (some ⟨g2, 0, none⟩)] 25, .blk g2 [.pointer (some ⟨g3, 0, none⟩), .slice A2 a1.xbytes.length c2, .int .i64 a1.xbegin, .int .i64 a1.xn, .int .u32 a1.xlast, .bool a1.xkept] 50, .blk g3 [.bool a1.xBoard.xmade, .int .u32 a1.xBoard.xfirst, .slice A1 a1.xBoard.xruns.length c1] 76, .own A2 a1.xbytes.length c2 (rowOf (encI .u8) a1.xbytes) 1 5]) (by kernel_rfl) ?_
    refine o_run 2 [3] (l := []) .nil (E' := [(3, .bool t1)]) (by kernel_rfl) ?_
    refine o_end (by kernel_rfl) ?_
    refine e_seq ?_
    refine w_ret (by kernel_rfl) ?_
    obtain rfl := Option.some.inj hm
    exact e_retP () (.bool t1) [1, 2, 3, 4] (by kernel_rfl) (by kernel_rfl) rfl (by kernel_rfl) (by kernel_rfl) trivial
  · replace hm := ite_f hb1 hm
    refine tt_run [5, 6, 7, 8, 9, 10, 11, 12, 13, 14, 15] [8, 12, 14, 19] [0, 1, 2, 3, 4] 0 (listed' := #[true, true, true, true, true, true, true, true, true, true, true, true, true, true, true, true, false, false, false]) (l := []) .nil (E' := [(8, .bool false), (12, undef), (14, undef), (19, undef)]) (by kernel_rfl) (by kernel_rfl) (by kernel_rfl) (Ext.refl _) (by kernel_rfl) (by kernel_rfl) ?_
    refine tt_end [0, 1, 2, 3, 4] (Ext.refl _) (by kernel_rfl) (by kernel_rfl) (by kernel_rfl) ?_
    refine o_run 3 [3] (l := []) .nil (E' := [(3, .bool false)]) (by kernel_rfl) ?_
    refine o_end (by kernel_rfl) ?_
    refine e_seq ?_
    refine w_ret (by kernel_rfl) ?_
    obtain rfl := Option.some.inj hm
    exact e_retP () (.bool false) [1, 2, 3, 4] (by kernel_rfl) (by kernel_rfl) rfl (by kernel_rfl) (by kernel_rfl) trivial
def slices_IndexFunc_api_Block.l1 : Nat → (List T_api_Block) → T_rbuf_Buffer_o → Int → Option ((Int) ⊕ (Unit))
  | 0, _, _, _ => none
  | k + 1, a0, a1, p1 => (if decide (p1 < (a0.length : Int)) then ((idx a0 p1).bind fun e1 => ((rbuf_Buffer_Blocks_1.f e1 a1).bind fun t2 => (if t2 then (some (.inl p1)) else (slices_IndexFunc_api_Block.l1 k a0 a1 (I64 (p1 + 1)))))) else (some (.inr ())))
def slices_IndexFunc_api_Block.f (k : Nat) (a0 : List T_api_Block) (a1 : T_rbuf_Buffer_o) : Option (Int) :=
  ((slices_IndexFunc_api_Block.l1 k a0 a1 0).bind fun t1 => brk t1 (fun r => some r) (fun u1 => (some (-1))))
theorem slices_IndexFunc_api_Block_ok (k : Nat) (a0 : List T_api_Block) (a1 : T_rbuf_Buffer_o) (r : Int) (hm : slices_IndexFunc_api_Block.f k a0 a1 = some r) (B G : Asn) (A1 : Option Addr) (c1 : Nat) (g1 : Nat) (g2 : Nat) (g3 : Nat) (A2 : Option Addr) (c2 : Nat) (A3 : Option Addr) (c3 : Nat) (hs1 : Sl kT_sack_run B A2 c2 a1.xBoard.xruns) (w : World) (hs : St B G [.own A1 a0.length c1 (rowOf encT_api_Block a0) 2 57, .blk g1 [.pointer (some ⟨g2, 0, none⟩)] 25, .blk g2 [.pointer (some ⟨g3, 0, none⟩), .slice A3 a1.xbytes.length c3, .int .i64 a1.xbegin, .int .i64 a1.xn, .int .u32 a1.xlast, .bool a1.xkept] 50, .blk g3 [.bool a1.xBoard.xmade, .int .u32 a1.xBoard.xfirst, .slice A2 a1.xBoard.xruns.length c2] 76, .own A3 a1.xbytes.length c3 (rowOf (encI .u8) a1.xbytes) 1 5] w) :
    Calls Try.prog 39 #[.slice A1 a0.length c1, .func (.func 37) #[] #[.pointer (some ⟨g1, 0, none⟩)]] w (Post (X := Unit) (fun x => .int .i64 r) (fun x => B) G (fun x => [.own A1 a0.length c1 (rowOf encT_api_Block a0) 2 57, .blk g1 [.pointer (some ⟨g2, 0, none⟩)] 25, .blk g2 [.pointer (some ⟨g3, 0, none⟩), .slice A3 a1.xbytes.length c3, .int .i64 a1.xbegin, .int .i64 a1.xn, .int .u32 a1.xlast, .bool a1.xkept] 50, .blk g3 [.bool a1.xBoard.xmade, .int .u32 a1.xBoard.xfirst, .slice A2 a1.xBoard.xruns.length c2] 76, .own A3 a1.xbytes.length c3 (rowOf (encI .u8) a1.xbytes) 1 5]) (fun x => True)) := by
  unfold slices_IndexFunc_api_Block.f at hm
  refine calls_W (F := Try.f39) Try.func39 rfl (by kernel_rfl) (L := [.own A1 a0.length c1 (rowOf encT_api_Block a0) 2 57, .blk g1 [.pointer (some ⟨g2, 0, none⟩)] 25, .blk g2 [.pointer (some ⟨g3, 0, none⟩), .slice A3 a1.xbytes.length c3, .int .i64 a1.xbegin, .int .i64 a1.xn, .int .u32 a1.xlast, .bool a1.xkept] 50, .blk g3 [.bool a1.xBoard.xmade, .int .u32 a1.xBoard.xfirst, .slice A2 a1.xBoard.xruns.length c2] 76, .own A3 a1.xbytes.length c3 (rowOf (encI .u8) a1.xbytes) 1 5]) ?_ hs
  refine w_seq 2 3 (by kernel_rfl) ?_
  refine w_region (by kernel_rfl) ?_
  refine o_run 1 [0, 1] (l := []) .nil (E' := [(0, .slice A1 a0.length c1), (1, .func (.func 37) #[] #[.pointer (some ⟨g1, 0, none⟩)])]) (by kernel_rfl) ?_
  refine o_end (by kernel_rfl) ?_
  refine e_seq ?_
  refine w_seq 6 7 (by kernel_rfl) ?_
  refine w_seq 12 13 (by kernel_rfl) ?_
  refine w_region (by kernel_rfl) ?_
  refine o_run 3 [0, 1, 7, 8] (l := []) .nil (E' := [(0, .slice A1 a0.length c1), (1, .func (.func 37) #[] #[.pointer (some ⟨g1, 0, none⟩)]), (7, .int .i64 (a0.length : Int)), (8, .int .i64 0)]) (by kernel_rfl) ?_
  refine o_end (by kernel_rfl) ?_
  refine e_seq ?_
  refine w_block 0 26 (by kernel_rfl) ?_
  obtain ⟨t1, ht1, ho1⟩ := bind_some hm
  refine t_env [0, 1, 7, 8] (E' := [(0, .slice A1 a0.length c1), (1, .func (.func 37) #[] #[.pointer (some ⟨g1, 0, none⟩)]), (7, .int .i64 (a0.length : Int)), (8, .int .i64 0)]) (by kernel_rfl) ?_
  refine w_loopJ 52 0 (fun k a w => ∃ (p1 : Int), slices_IndexFunc_api_Block.l1 k a0 a1 p1 = some t1 ∧ EnvOk [(0, .slice A1 a0.length c1), (1, .func (.func 37) #[] #[.pointer (some ⟨g1, 0, none⟩)]), (7, .int .i64 (a0.length : Int)), (8, .int .i64 p1)] Try.f39.ntmps a ∧ St B G [.own A1 a0.length c1 (rowOf encT_api_Block a0) 2 57, .blk g1 [.pointer (some ⟨g2, 0, none⟩)] 25, .blk g2 [.pointer (some ⟨g3, 0, none⟩), .slice A3 a1.xbytes.length c3, .int .i64 a1.xbegin, .int .i64 a1.xn, .int .u32 a1.xlast, .bool a1.xkept] 50, .blk g3 [.bool a1.xBoard.xmade, .int .u32 a1.xBoard.xfirst, .slice A2 a1.xBoard.xruns.length c2] 76, .own A3 a1.xbytes.length c3 (rowOf (encI .u8) a1.xbytes) 1 5] w) (fun a w => ∃ (u1 : Unit), t1 = .inr u1 ∧ EnvOk [] Try.f39.ntmps a ∧ St B G [.own A1 a0.length c1 (rowOf encT_api_Block a0) 2 57, .blk g1 [.pointer (some ⟨g2, 0, none⟩)] 25, .blk g2 [.pointer (some ⟨g3, 0, none⟩), .slice A3 a1.xbytes.length c3, .int .i64 a1.xbegin, .int .i64 a1.xn, .int .u32 a1.xlast, .bool a1.xkept] 50, .blk g3 [.bool a1.xBoard.xmade, .int .u32 a1.xBoard.xfirst, .slice A2 a1.xBoard.xruns.length c2] 76, .own A3 a1.xbytes.length c3 (rowOf (encI .u8) a1.xbytes) 1 5] w) (by kernel_rfl) ?_ ?_ k ?_
  · rintro a w ⟨u1, hu, ha, hw⟩
    refine we_of (E := []) (B := B) (G := G) (L := [.own A1 a0.length c1 (rowOf encT_api_Block a0) 2 57, .blk g1 [.pointer (some ⟨g2, 0, none⟩)] 25, .blk g2 [.pointer (some ⟨g3, 0, none⟩), .slice A3 a1.xbytes.length c3, .int .i64 a1.xbegin, .int .i64 a1.xn, .int .u32 a1.xlast, .bool a1.xkept] 50, .blk g3 [.bool a1.xBoard.xmade, .int .u32 a1.xBoard.xfirst, .slice A2 a1.xBoard.xruns.length c2] 76, .own A3 a1.xbytes.length c3 (rowOf (encI .u8) a1.xbytes) 1 5]) ?_ ha hw
    subst hu
    replace hm := brk_inr ho1
    refine e_seq ?_
    refine w_seq 14 15 (by kernel_rfl) ?_
    refine w_region (by kernel_rfl) ?_
    refine o_run 1 [4] (l := []) .nil (E' := [(4, .int .i64 (-1))]) (by kernel_rfl) ?_
    refine o_end (by kernel_rfl) ?_
    refine e_seq ?_
    refine w_ret (by kernel_rfl) ?_
    obtain rfl := Option.some.inj hm
    exact e_retP () (.int .i64 (-1)) [0, 1, 2, 3, 4] (by kernel_rfl) (by kernel_rfl) rfl (by kernel_rfl) (by kernel_rfl) trivial
  · rintro k a w ⟨p1, hm, ha, hw⟩
    cases k with
    | zero => exact absurd hm (by simp [slices_IndexFunc_api_Block.l1])
    | succ k =>
      unfold slices_IndexFunc_api_Block.l1 at hm
      refine wc_of (E := [(0, .slice A1 a0.length c1), (1, .func (.func 37) #[] #[.pointer (some ⟨g1, 0, none⟩)]), (7, .int .i64 (a0.length : Int)), (8, .int .i64 p1)]) (B := B) (G := G) (L := [.own A1 a0.length c1 (rowOf encT_api_Block a0) 2 57, .blk g1 [.pointer (some ⟨g2, 0, none⟩)] 25, .blk g2 [.pointer (some ⟨g3, 0, none⟩), .slice A3 a1.xbytes.length c3, .int .i64 a1.xbegin, .int .i64 a1.xn, .int .u32 a1.xlast, .bool a1.xkept] 50, .blk g3 [.bool a1.xBoard.xmade, .int .u32 a1.xBoard.xfirst, .slice A2 a1.xBoard.xruns.length c2] 76, .own A3 a1.xbytes.length c3 (rowOf (encI .u8) a1.xbytes) 1 5]) ?_ ha hw
      refine w_seq 104 105 (by kernel_rfl) ?_
      refine w_region (by kernel_rfl) ?_
      refine o_run 1 [0, 1, 7, 8, 9] (l := []) .nil (E' := [(0, .slice A1 a0.length c1), (1, .func (.func 37) #[] #[.pointer (some ⟨g1, 0, none⟩)]), (7, .int .i64 (a0.length : Int)), (8, .int .i64 p1), (9, .bool (decide (p1 < (a0.length : Int))))]) (by kernel_rfl) ?_
      refine o_end (by kernel_rfl) ?_
      refine e_seq ?_
      refine w_seq 210 211 (by kernel_rfl) ?_
      refine w_cond (.tmp 9) 420 421 (decide (p1 < (a0.length : Int))) (by kernel_rfl) (by kernel_rfl) (fun hb1 => ?_) (fun hb1 => ?_)
      · replace hm := ite_t hb1 hm
        refine w_skip (by kernel_rfl) ?_
        refine e_seq ?_
        refine w_seq 422 423 (by kernel_rfl) ?_
        refine w_block 1 844 (by kernel_rfl) ?_
        refine w_seq 1688 1689 (by kernel_rfl) ?_
        refine w_region (by kernel_rfl) ?_
        refine o_run 2 [0, 1, 5, 7, 8] (l := []) .nil (E' := [(0, .slice A1 a0.length c1), (1, .func (.func 37) #[] #[.pointer (some ⟨g1, 0, none⟩)]), (5, .int .i64 p1), (7, .int .i64 (a0.length : Int)), (8, .int .i64 p1)]) (by kernel_rfl) ?_
        refine o_end (by kernel_rfl) ?_
        refine e_seq ?_
        refine w_seq 3378 3379 (by kernel_rfl) ?_
        refine w_region (by kernel_rfl) ?_
        refine o_run 3 [0, 1, 5, 7, 8, 11, 12, 13] (l := []) .nil (E' := [(0, .slice A1 a0.length c1), (1, .func (.func 37) #[] #[.pointer (some ⟨g1, 0, none⟩)]), (5, .int .i64 p1), (7, .int .i64 (a0.length : Int)), (8, .int .i64 p1), (11, .func (.func 37) #[] #[.pointer (some ⟨g1, 0, none⟩)]), (12, .slice A1 a0.length c1), (13, .int .i64 p1)]) (by kernel_rfl) ?_
        obtain ⟨e1, hx1, hm⟩ := bind_some hm
        obtain ⟨hi1, hi2, hg1⟩ := idx_some hx1
        refine o_val 14 (.indexAddr 46 (.tmp 12) (.tmp 13)) (.pointer (some (adr A1 (Int.toNat p1 * 2)))) (by kernel_rfl) (v_index (k := .i64) (c := c1) (by kernel_rfl) (by kernel_rfl) (by kernel_rfl) hi1 hi2 (own_some (j := 0) rfl hi2 hi1)) ?_
        refine o_run 1 [0, 1, 5, 7, 8, 11, 15] (l := [((adr A1 (Int.toNat p1 * 2)), .int .u32 e1.xLeft), (((adr A1 (Int.toNat p1 * 2)).add 1), .int .u32 e1.xRight)]) (.one ((At.sub (l := encT_api_Block e1) 0 (at_own (j := 0) (off := Int.toNat p1 * 2) rfl (row_at (enc := encT_api_Block) (sz := 2) (fun _ => rfl) hg1)) rfl)) (.one ((At.sub (l := encT_api_Block e1) 1 (at_own (j := 0) (off := Int.toNat p1 * 2) rfl (row_at (enc := encT_api_Block) (sz := 2) (fun _ => rfl) hg1)) rfl)) .nil)) (E' := [(0, .slice A1 a0.length c1), (1, .func (.func 37) #[] #[.pointer (some ⟨g1, 0, none⟩)]), (5, .int .i64 p1), (7, .int .i64 (a0.length : Int)), (8, .int .i64 p1), (11, .func (.func 37) #[] #[.pointer (some ⟨g1, 0, none⟩)]), (15, .agg #[.int .u32 e1.xLeft, .int .u32 e1.xRight])]) (by kernel_rfl) ?_
        obtain ⟨t2, hx2, hm⟩ := bind_some hm
        refine o_stp ?_ (by kernel_rfl)
        refine s_call 16 37 #[.agg #[.int .u32 e1.xLeft, .int .u32 e1.xRight], .pointer (some ⟨g1, 0, none⟩)] [1, 2, 3, 4] [0] (by kernel_rfl) (by kernel_rfl) (fun w hs => rbuf_Buffer_Blocks_1_ok e1 a1 t2 hx2 B _ g1 g2 g3 A2 c2 A3 c3 hs1 w (St.cast (by kernel_rfl) hs)) (fun _ hx => ?_)
        refine t_L (L' := [.blk g1 [.pointer (some ⟨g2, 0, none⟩)] 25, .blk g2 [.pointer (some ⟨g3, 0, none⟩), .slice A3 a1.xbytes.length c3, .int .i64 a1.xbegin, .int .i64 a1.xn, .int .u32 a1.xlast, .bool a1.xkept] 50, .blk g3 [.bool a1.xBoard.xmade, .int .u32 a1.xBoard.xfirst, .slice A2 a1.xBoard.xruns.length c2] 76, .own A3 a1.xbytes.length c3 (rowOf (encI .u8) a1.xbytes) 1 5, .own A1 a0.length c1 (rowOf encT_api_Block a0) 2 57]) (by kernel_rfl) ?_
        refine o_end (by kernel_rfl) ?_
        refine e_seq ?_
        refine w_cond (.tmp 16) 6758 6759 t2 (by kernel_rfl) (by kernel_rfl) (fun hb2 => ?_) (fun hb2 => ?_)
        · replace hm := ite_t hb2 hm
          refine w_seq 13516 13517 (by kernel_rfl) ?_
          refine w_region (by kernel_rfl) ?_
          refine o_run 2 [4] (l := []) .nil (E' := [(4, .int .i64 p1)]) (by kernel_rfl) ?_
          refine o_end (by kernel_rfl) ?_
          refine e_seq ?_
          refine w_ret (by kernel_rfl) ?_
          obtain rfl := Option.some.inj hm
          replace hm := brk_inl ho1
          obtain rfl := Option.some.inj hm
          exact e_retP () (.int .i64 p1) [4, 0, 1, 2, 3] (by kernel_rfl) (by kernel_rfl) rfl (by kernel_rfl) (by kernel_rfl) trivial
        · replace hm := ite_f hb2 hm
          refine w_skip (by kernel_rfl) ?_
          refine e_blk ?_
          refine e_seq ?_
          refine w_region (by kernel_rfl) ?_
          refine o_run 2 [0, 1, 7, 8] (l := []) .nil (E' := [(0, .slice A1 a0.length c1), (1, .func (.func 37) #[] #[.pointer (some ⟨g1, 0, none⟩)]), (7, .int .i64 (a0.length : Int)), (8, .int .i64 (I64 (p1 + 1)))]) (by kernel_rfl) ?_
          refine o_end (by kernel_rfl) ?_
          refine t_drop [4, 0, 1, 2, 3] (by kernel_rfl) ?_
          refine t_L (L' := [.own A1 a0.length c1 (rowOf encT_api_Block a0) 2 57, .blk g1 [.pointer (some ⟨g2, 0, none⟩)] 25, .blk g2 [.pointer (some ⟨g3, 0, none⟩), .slice A3 a1.xbytes.length c3, .int .i64 a1.xbegin, .int .i64 a1.xn, .int .u32 a1.xlast, .bool a1.xkept] 50, .blk g3 [.bool a1.xBoard.xmade, .int .u32 a1.xBoard.xfirst, .slice A2 a1.xBoard.xruns.length c2] 76, .own A3 a1.xbytes.length c3 (rowOf (encI .u8) a1.xbytes) 1 5]) (by kernel_rfl) ?_
          refine t_env [0, 1, 7, 8] (E' := [(0, .slice A1 a0.length c1), (1, .func (.func 37) #[] #[.pointer (some ⟨g1, 0, none⟩)]), (7, .int .i64 (a0.length : Int)), (8, .int .i64 (I64 (p1 + 1)))]) (by kernel_rfl) ?_
          exact e_inv (fun a w ha hw => ⟨k, Nat.lt_succ_self k, (I64 (p1 + 1)), hm, ha, hw⟩)
      · replace hm := ite_f hb1 hm
        refine w_exit 0 (by kernel_rfl) ?_
        refine e_x_seq ?_
        refine e_x_inv ?_
        refine e_x_here ?_
        refine t_drop [0, 1, 2, 3, 4] (by kernel_rfl) ?_
        refine t_L (L' := [.own A1 a0.length c1 (rowOf encT_api_Block a0) 2 57, .blk g1 [.pointer (some ⟨g2, 0, none⟩)] 25, .blk g2 [.pointer (some ⟨g3, 0, none⟩), .slice A3 a1.xbytes.length c3, .int .i64 a1.xbegin, .int .i64 a1.xn, .int .u32 a1.xlast, .bool a1.xkept] 50, .blk g3 [.bool a1.xBoard.xmade, .int .u32 a1.xBoard.xfirst, .slice A2 a1.xBoard.xruns.length c2] 76, .own A3 a1.xbytes.length c3 (rowOf (encI .u8) a1.xbytes) 1 5]) (by kernel_rfl) ?_
        refine t_env [] (E' := []) (by kernel_rfl) ?_
        obtain rfl := Option.some.inj hm
        exact e_inv (fun a w ha hw => ⟨(), rfl, ha, hw⟩)
  · exact fun a w ha hw => ⟨0, ht1, ha, hw⟩
def slices_Delete_api_Block.f (a0 : List T_api_Block) (a1 : Int) (a2 : Int) : Option (List T_api_Block) := delM a0 a1 a2
theorem slices_Delete_api_Block_ok (a0 : List T_api_Block) (a1 : Int) (a2 : Int) (r : List T_api_Block) (hm : slices_Delete_api_Block.f a0 a1 a2 = some r) (B G : Asn) (A1 : Option Addr) (c1 : Nat) (w : World) (hs : St B G [.own A1 a0.length c1 (rowOf encT_api_Block a0) 2 57] w) :
    Calls Try.prog 41 #[.slice A1 a0.length c1, .int .i64 a1, .int .i64 a2] w (Post (X := (Option Addr) × Nat) (fun x => .slice x.1 r.length x.2) (fun x => B) G (fun x => [.own x.1 r.length x.2 (rowOf encT_api_Block r) 2 57]) (fun x => True)) := by
  obtain ⟨p, q, rfl, rfl, hpq, hq, hr, hrl⟩ := delM_some hm
  refine calls_W (F := Try.f41) Try.func41 rfl (by kernel_rfl) (L := [.own A1 a0.length c1 (rowOf encT_api_Block a0) 2 57]) ?_ hs
  refine t_own_le 0 rfl (fun hc1 => ?_)
  refine w_seq 2 3 (by kernel_rfl) ?_
  refine w_region (by kernel_rfl) ?_
  refine o_run 1 [0, 1, 2] (l := []) .nil (E' := [(0, .slice A1 a0.length c1), (1, .int .i64 (p : Nat)), (2, .int .i64 (q : Nat))]) (by kernel_rfl) ?_
  refine o_end (by kernel_rfl) ?_
  refine e_seq ?_
  refine w_seq 6 7 (by kernel_rfl) ?_
  refine w_region (by kernel_rfl) ?_
  refine o_run 5 [0, 1, 2, 8, 9, 10, 12] (l := []) .nil (E' := [(0, .slice A1 a0.length c1), (1, .int .i64 (p : Nat)), (2, .int .i64 (q : Nat)), (8, .slice A1 a0.length c1), (9, .int .i64 (p : Nat)), (10, .int .i64 (q : Nat)), (12, .int .i64 (a0.length : Nat))]) (by kernel_rfl) ?_
  refine o_val 13 (.slice 46 (.tmp 8) (some (.tmp 9)) (some (.tmp 10)) (some (.tmp 12))) (.slice (cutA A1 p a0.length 2) (q - p) (a0.length - p)) (by kernel_rfl) (v_slice (l := some (p : Int)) (h := some (q : Int)) (k := some (a0.length : Int)) (l' := p) (h' := q) (k' := a0.length) (A := A1) (m := a0.length) (c := c1) (sz := 2) (by kernel_rfl) (by kernel_rfl) (by kernel_rfl) (by kernel_rfl) (by kernel_rfl) (fun h => by rfl) rfl rfl rfl hpq hq hc1 rfl rfl) ?_
  refine t_env [0, 1, 2] (E' := [(0, .slice A1 a0.length c1), (1, .int .i64 (p : Nat)), (2, .int .i64 (q : Nat))]) (by kernel_rfl) ?_
  refine o_end (by kernel_rfl) ?_
  refine e_seq ?_
  refine w_seq 14 15 (by kernel_rfl) ?_
  refine w_seq 28 29 (by kernel_rfl) ?_
  refine w_region (by kernel_rfl) ?_
  refine o_run 3 [0, 1, 2, 16] (l := []) .nil (E' := [(0, .slice A1 a0.length c1), (1, .int .i64 (p : Nat)), (2, .int .i64 (q : Nat)), (16, .bool ((p : Int) == (q : Int)))]) (by kernel_rfl) ?_
  refine o_end (by kernel_rfl) ?_
  refine e_seq ?_
  refine w_cond (.tmp 16) 58 59 ((p : Int) == (q : Int)) (by kernel_rfl) (by kernel_rfl) (fun hb => ?_) (fun hb => ?_)
  · have hz : p = q := by
      have : (p : Int) = q := by simpa using hb
      omega
    have hr0 : r = a0 := by rw [hr, hz, List.take_append_drop]
    subst hr0
    refine w_seq 116 117 (by kernel_rfl) ?_
    refine w_region (by kernel_rfl) ?_
    refine o_run 2 [6] (l := []) .nil (E' := [(6, .slice A1 r.length c1)]) (by kernel_rfl) ?_
    refine o_end (by kernel_rfl) ?_
    refine e_seq ?_
    refine w_ret (by kernel_rfl) ?_
    exact e_retP (A1, c1) (.slice A1 r.length c1) [0] (by kernel_rfl) (by kernel_rfl) rfl (by kernel_rfl) (by kernel_rfl) trivial
  have hlt : p < q := by
    have : ¬ (p : Int) = q := by simpa using hb
    omega
  refine w_skip (by kernel_rfl) ?_
  refine e_seq ?_
  have hX : (rowOf encT_api_Block (a0.take p)).length = p * 2 := by rw [row_len (enc := encT_api_Block) (sz := 2) (fun _ => rfl), List.length_take, Nat.min_eq_left (by omega)]
  have hD : (rowOf encT_api_Block (a0.drop q)).length = (a0.length - q) * 2 := by rw [row_len (enc := encT_api_Block) (sz := 2) (fun _ => rfl), List.length_drop]
  have h0l : (rowOf encT_api_Block a0).length = a0.length * 2 := row_len (enc := encT_api_Block) (sz := 2) (fun _ => rfl) a0
  have hXt : (rowOf encT_api_Block a0).take (p * 2) = rowOf encT_api_Block (a0.take p) := row_take (enc := encT_api_Block) (sz := 2) (fun _ => rfl) a0 p
  have hDd : (rowOf encT_api_Block a0).drop (q * 2) = rowOf encT_api_Block (a0.drop q) := row_drop (enc := encT_api_Block) (sz := 2) (fun _ => rfl) a0 q
  have hR : rowOf encT_api_Block r = rowOf encT_api_Block (a0.take p) ++ rowOf encT_api_Block (a0.drop q) := by rw [hr, row_app]
  have hRl : (rowOf encT_api_Block r).length = r.length * 2 := row_len (enc := encT_api_Block) (sz := 2) (fun _ => rfl) r
  have h1c : ∀ (l : List T_api_Block), ∀ u ∈ rowOf encT_api_Block l, u.oneCell' = true := row_cells encT_api_Block_one
  have hpq2 : p * 2 ≤ q * 2 := Nat.mul_le_mul_right _ hpq
  have hqn2 : q * 2 ≤ a0.length * 2 := Nat.mul_le_mul_right _ hq
  have hnc2 : a0.length * 2 ≤ c1 * 2 := Nat.mul_le_mul_right _ hc1
  have hr2 : r.length * 2 = p * 2 + (a0.length - q) * 2 := by rw [hrl, Nat.add_mul]
  have hq2 : (a0.length - q) * 2 = a0.length * 2 - q * 2 := Nat.sub_mul _ _ _
  refine t_own_blk (by omega) (fun g sp hA hsp => ?_)
  subst hA
  have hsp2 : sp.length = c1 * 2 - a0.length * 2 := by rw [hsp, Nat.sub_mul]
  refine w_seq 30 31 (by kernel_rfl) ?_
  refine w_region (by kernel_rfl) ?_
  refine o_run 3 [0, 1, 2, 7] (l := []) .nil (E' := [(0, .slice (some ⟨g, 0, none⟩) a0.length c1), (1, .int .i64 (p : Nat)), (2, .int .i64 (q : Nat)), (7, .int .i64 (a0.length : Nat))]) (by kernel_rfl) ?_
  refine o_end (by kernel_rfl) ?_
  refine e_seq ?_
  refine w_seq 62 63 (by kernel_rfl) ?_
  refine w_tail 6 [] (by kernel_rfl) mixed (by kernel_rfl) ?_
  refine tt_run [0, 1] [0, 2, 7, 20, 21] [] 4 (listed' := #[true, true, false, false, false, false, false, false]) (l := []) .nil (E' := [(0, .slice (some ⟨g, 0, none⟩) a0.length c1), (2, .int .i64 (q : Nat)), (7, .int .i64 (a0.length : Nat)), (20, .slice (some ⟨g, 0, none⟩) a0.length c1), (21, .int .i64 (p : Nat))]) (by kernel_rfl) (by kernel_rfl) (by kernel_rfl) (Ext.refl _) (by kernel_rfl) (by kernel_rfl) ?_
  have hcA0 : cutA (some ⟨g, 0, none⟩) 0 c1 2 = some ⟨g, 0 * 2, none⟩ := cutA_at (by omega)
  refine tt_val 2 22 (.slice 46 (.tmp 20) none (some (.tmp 21)) none) (.slice (cutA (some ⟨g, 0, none⟩) 0 c1 2) p c1) [] (by kernel_rfl) (v_slice (l := none) (h := (some (p : Int))) (k := none) (l' := 0) (h' := p) (k' := c1) (A := (some ⟨g, 0, none⟩)) (m := a0.length) (c := c1) (sz := 2) (by kernel_rfl) (by kernel_rfl) (by kernel_rfl) (by kernel_rfl) (by kernel_rfl) (fun h => by cases h) rfl rfl rfl (Nat.zero_le _) (by omega) (Nat.le_refl _) rfl rfl) (by kernel_rfl) (Ext.refl _) (by kernel_rfl) (by kernel_rfl) ?_
  rw [hcA0]
  refine tt_run [3, 4] [7, 22, 23, 24] [] 1 (listed' := #[true, true, true, true, true, false, false, false]) (l := []) .nil (E' := [(7, .int .i64 (a0.length : Nat)), (22, .slice (some ⟨g, 0 * 2, none⟩) p c1), (23, .slice (some ⟨g, 0, none⟩) a0.length c1), (24, .int .i64 (q : Nat))]) (by kernel_rfl) (by kernel_rfl) (by kernel_rfl) (Ext.refl _) (by kernel_rfl) (by kernel_rfl) ?_
  have hsv : ∃ a, cutA (some ⟨g, 0, none⟩) q c1 2 = some a ∧ SrcAt Try.prog B G [.blk g (rowOf encT_api_Block a0 ++ sp) 57] 46 (.slice (some a) (a0.length - q) (c1 - q)) (a0.length - q) (rowOf encT_api_Block (a0.drop q)) 2 := by
    by_cases hqc : q < c1
    · exact ⟨_, cutA_at hqc, src_within (e := 57) (j := 0) (by kernel_rfl) rfl hD (by rw [List.drop_append_of_le_length (by omega), hDd, List.take_left' rfl]) (h1c _)⟩
    · refine ⟨⟨g, 0, none⟩, by unfold cutA; rw [if_pos (by omega)], ?_⟩
      rw [List.drop_of_length_le (by omega), show a0.length - q = 0 by omega]
      exact src_empty (e := 57) (by kernel_rfl)
  obtain ⟨a25, ha25, hsrc⟩ := hsv
  refine tt_val 5 25 (.slice 46 (.tmp 23) (some (.tmp 24)) none none) (.slice (cutA (some ⟨g, 0, none⟩) q c1 2) (a0.length - q) (c1 - q)) [] (by kernel_rfl) (v_slice (l := (some (q : Int))) (h := none) (k := none) (l' := q) (h' := a0.length) (k' := c1) (A := (some ⟨g, 0, none⟩)) (m := a0.length) (c := c1) (sz := 2) (by kernel_rfl) (by kernel_rfl) (by kernel_rfl) (by kernel_rfl) (by kernel_rfl) (fun h => by cases h) rfl rfl rfl hq hc1 (Nat.le_refl _) rfl rfl) (by kernel_rfl) (Ext.refl _) (by kernel_rfl) (by kernel_rfl) ?_
  rw [ha25]
  refine tt_end [] (Ext.refl _) (by kernel_rfl) (by kernel_rfl) (by kernel_rfl) ?_
  refine o_stp ?_ (by kernel_rfl)
  refine s_eff 26 (.call { callee := .builtin .append, args := #[.tmp 22, .tmp 25], argTypes := #[46, 46] }) (by kernel_rfl) (e_appB (e := 57) (t := 57) (j := 0) (g := g) (q := p) (k := a0.length - q) (c := c1) (sz := 2) (cur := rowOf encT_api_Block a0 ++ sp) (l := rowOf encT_api_Block (a0.drop q)) (by rw [Nat.zero_mul]; kernel_rfl) (by kernel_rfl) (by kernel_rfl) (by kernel_rfl) rfl hsrc (by omega) (by rw [List.length_append, h0l, hsp2]; omega)) (fun _ _ => ?_)
  dsimp only [List.set]
  refine o_run 1 [0, 7] (l := []) .nil (E' := [(0, .slice (some ⟨g, 0, none⟩) (p + (a0.length - q)) c1), (7, .int .i64 (a0.length : Nat))]) (by kernel_rfl) ?_
  refine o_end (by kernel_rfl) ?_
  refine e_seq ?_
  refine w_seq 126 127 (by kernel_rfl) ?_
  refine w_region (by kernel_rfl) ?_
  refine o_run 4 [0, 27, 29, 30] (l := []) .nil (E' := [(0, .slice (some ⟨g, 0, none⟩) (p + (a0.length - q)) c1), (27, .slice (some ⟨g, 0, none⟩) (p + (a0.length - q)) c1), (29, .int .i64 ((p + (a0.length - q) : Nat) : Int)), (30, .int .i64 (a0.length : Nat))]) (by kernel_rfl) ?_
  have hcM : cutA (some ⟨g, 0, none⟩) (p + (a0.length - q)) c1 2 = some ⟨g, (p + (a0.length - q)) * 2, none⟩ := cutA_at (by omega)
  refine o_val 31 (.slice 46 (.tmp 27) (some (.tmp 29)) (some (.tmp 30)) none) (.slice (cutA (some ⟨g, 0, none⟩) (p + (a0.length - q)) c1 2) (a0.length - (p + (a0.length - q))) (c1 - (p + (a0.length - q)))) (by kernel_rfl) (v_slice (l := some ((p + (a0.length - q) : Nat) : Int)) (h := some (a0.length : Int)) (k := none) (l' := p + (a0.length - q)) (h' := a0.length) (k' := c1) (A := (some ⟨g, 0, none⟩)) (m := p + (a0.length - q)) (c := c1) (sz := 2) (by kernel_rfl) (by kernel_rfl) (by kernel_rfl) (by kernel_rfl) (by kernel_rfl) (fun h => by cases h) rfl rfl rfl (by omega) hc1 (Nat.le_refl _) rfl rfl) ?_
  rw [hcM]
  refine o_stp ?_ (by kernel_rfl)
  have hcur : c1 * 2 ≤ ((rowOf encT_api_Block a0 ++ sp).take (p * 2) ++ rowOf encT_api_Block (a0.drop q) ++ (rowOf encT_api_Block a0 ++ sp).drop (p * 2 + (rowOf encT_api_Block (a0.drop q)).length)).length := by
    simp only [List.length_append, List.length_take, List.length_drop, h0l, hsp2, hD]
    omega
  have hMle : (p + (a0.length - q)) * 2 + (a0.length - (p + (a0.length - q))) * 2 ≤ c1 * 2 := by
    rw [← Nat.add_mul]; exact Nat.mul_le_mul_right _ (by omega)
  refine s_effN (.call { callee := .builtin .clear, args := #[.tmp 31], argTypes := #[46] }) (by kernel_rfl) (e_clearB (e := 57) (t := 57) (j := 0) (g := g) (o := (p + (a0.length - q)) * 2) (k := a0.length - (p + (a0.length - q))) (c := c1 - (p + (a0.length - q))) (sz := 2) (z := .agg #[.int .u32 0, .int .u32 0]) (by kernel_rfl) (by kernel_rfl) (by kernel_rfl) (by kernel_rfl) (by kernel_rfl) (by omega) rfl (by omega)) (fun _ _ => ?_)
  dsimp only [List.set]
  refine t_env [0] (E' := [(0, .slice (some ⟨g, 0, none⟩) (p + (a0.length - q)) c1)]) (by kernel_rfl) ?_
  refine o_end (by kernel_rfl) ?_
  refine e_seq ?_
  have hZ : (Builtin.zeroCells (Value.cells (.agg #[.int .u32 0, .int .u32 0])) (a0.length - (p + (a0.length - q)))).toList.length = (a0.length - (p + (a0.length - q))) * 2 := by rw [toList_zeros]; rfl
  generalize (Builtin.zeroCells (Value.cells (.agg #[.int .u32 0, .int .u32 0])) (a0.length - (p + (a0.length - q)))).toList = zs at hZ ⊢
  have hfin := list_del (N := rowOf encT_api_Block a0) (S := sp) (X := rowOf encT_api_Block (a0.take p)) (D := rowOf encT_api_Block (a0.drop q)) (Z := zs) (by rw [hX]; exact hXt) (by rw [hX, h0l]; omega)
  rw [hX] at hfin
  have hMM : (p + (a0.length - q)) * 2 = p * 2 + (rowOf encT_api_Block (a0.drop q)).length := by rw [hD, Nat.add_mul]
  rw [hMM, hfin, ← hR]
  refine t_blk_row (m := r.length) (c := c1) (sz := 2) rfl hRl (by simp only [List.length_append, List.length_take, List.length_drop, h0l, hsp2, hD, hZ, hrl]; omega) (by omega) (h1c _) ?_
  refine w_seq 254 255 (by kernel_rfl) ?_
  refine w_region (by kernel_rfl) ?_
  rw [← hrl]
  refine o_run 2 [6] (l := []) .nil (E' := [(6, .slice (some ⟨g, 0, none⟩) r.length c1)]) (by kernel_rfl) ?_
  refine o_end (by kernel_rfl) ?_
  refine e_seq ?_
  refine w_ret (by kernel_rfl) ?_
  exact e_retP (some ⟨g, 0, none⟩, c1) (.slice (some ⟨g, 0, none⟩) r.length c1) [0] (by kernel_rfl) (by kernel_rfl) rfl (by kernel_rfl) (by kernel_rfl) trivial
def slices_Insert_api_Block.f (a0 : List T_api_Block) (a1 : Int) (a2 : List T_api_Block) : Option (List T_api_Block) := insM a0 a1 a2
theorem slices_Insert_api_Block_ok (a0 : List T_api_Block) (a1 : Int) (a2 : List T_api_Block) (r : List T_api_Block) (hm : slices_Insert_api_Block.f a0 a1 a2 = some r) (B G : Asn) (A1 : Option Addr) (c1 : Nat) (A2 : Option Addr) (c2 : Nat) (w : World) (hs : St B G [.own A1 a0.length c1 (rowOf encT_api_Block a0) 2 57, .own A2 a2.length c2 (rowOf encT_api_Block a2) 2 57] w) :
    Calls Try.prog 40 #[.slice A1 a0.length c1, .int .i64 a1, .slice A2 a2.length c2] w (Post (X := (Option Addr) × Nat) (fun x => .slice x.1 r.length x.2) (fun x => B) G (fun x => [.own x.1 r.length x.2 (rowOf encT_api_Block r) 2 57, .own A2 a2.length c2 (rowOf encT_api_Block a2) 2 57]) (fun x => True)) := by
  obtain ⟨q, rfl, hq, hsum, hr, hrl⟩ := insM_some hm
  refine calls_W (F := Try.f40) Try.func40 rfl (by kernel_rfl) (L := [.own A1 a0.length c1 (rowOf encT_api_Block a0) 2 57, .own A2 a2.length c2 (rowOf encT_api_Block a2) 2 57]) ?_ hs
  refine t_own_le 0 rfl (fun hc1 => ?_)
  refine w_seq 2 3 (by kernel_rfl) ?_
  refine w_region (by kernel_rfl) ?_
  refine o_run 1 [0, 1, 2] (l := []) .nil (E' := [(0, .slice A1 a0.length c1), (1, .int .i64 (q : Nat)), (2, .slice A2 a2.length c2)]) (by kernel_rfl) ?_
  refine o_end (by kernel_rfl) ?_
  refine e_seq ?_
  refine w_seq 6 7 (by kernel_rfl) ?_
  refine w_region (by kernel_rfl) ?_
  refine o_run 2 [0, 1, 2, 10, 11] (l := []) .nil (E' := [(0, .slice A1 a0.length c1), (1, .int .i64 (q : Nat)), (2, .slice A2 a2.length c2), (10, .slice A1 a0.length c1), (11, .int .i64 (q : Nat))]) (by kernel_rfl) ?_
  refine o_val 12 (.slice 46 (.tmp 10) (some (.tmp 11)) none none) (.slice (cutA A1 q c1 2) (a0.length - q) (c1 - q)) (by kernel_rfl) (v_slice (l := some (q : Int)) (h := none) (k := none) (l' := q) (h' := a0.length) (k' := c1) (A := A1) (m := a0.length) (c := c1) (sz := 2) (by kernel_rfl) (by kernel_rfl) (by kernel_rfl) (by kernel_rfl) (by kernel_rfl) (fun h => by cases h) rfl rfl rfl hq hc1 (Nat.le_refl _) rfl rfl) ?_
  refine o_end (by kernel_rfl) ?_
  refine e_seq ?_
  refine w_seq 14 15 (by kernel_rfl) ?_
  refine w_region (by kernel_rfl) ?_
  refine o_run 3 [0, 1, 2, 7] (l := []) .nil (E' := [(0, .slice A1 a0.length c1), (1, .int .i64 (q : Nat)), (2, .slice A2 a2.length c2), (7, .int .i64 (a2.length : Nat))]) (by kernel_rfl) ?_
  refine o_end (by kernel_rfl) ?_
  refine e_seq ?_
  refine w_seq 30 31 (by kernel_rfl) ?_
  refine w_seq 60 61 (by kernel_rfl) ?_
  refine w_region (by kernel_rfl) ?_
  refine o_run 2 [0, 1, 2, 7, 16] (l := []) .nil (E' := [(0, .slice A1 a0.length c1), (1, .int .i64 (q : Nat)), (2, .slice A2 a2.length c2), (7, .int .i64 (a2.length : Nat)), (16, .bool ((a2.length : Int) == 0))]) (by kernel_rfl) ?_
  refine o_end (by kernel_rfl) ?_
  refine e_seq ?_
  refine w_cond (.tmp 16) 122 123 ((a2.length : Int) == 0) (by kernel_rfl) (by kernel_rfl) (fun hb => ?_) (fun hb => ?_)
  · have hz : a2 = [] := List.length_eq_zero_iff.1 (by simpa using hb)
    have hr0 : r = a0 := by rw [hr, hz]; simp
    subst hr0
    refine w_seq 244 245 (by kernel_rfl) ?_
    refine w_region (by kernel_rfl) ?_
    refine o_run 2 [6] (l := []) .nil (E' := [(6, .slice A1 r.length c1)]) (by kernel_rfl) ?_
    refine o_end (by kernel_rfl) ?_
    refine e_seq ?_
    refine w_ret (by kernel_rfl) ?_
    exact e_retP (A1, c1) (.slice A1 r.length c1) [0, 1] (by kernel_rfl) (by kernel_rfl) rfl (by kernel_rfl) (by kernel_rfl) trivial
  have hm0 : 0 < a2.length := by
    have : ¬ (a2.length : Int) = 0 := by simpa using hb
    omega
  refine w_skip (by kernel_rfl) ?_
  refine e_seq ?_
  refine w_seq 62 63 (by kernel_rfl) ?_
  refine w_region (by kernel_rfl) ?_
  refine o_run 3 [0, 1, 2, 7, 8] (l := []) .nil (E' := [(0, .slice A1 a0.length c1), (1, .int .i64 (q : Nat)), (2, .slice A2 a2.length c2), (7, .int .i64 (a2.length : Nat)), (8, .int .i64 (a0.length : Nat))]) (by kernel_rfl) ?_
  refine o_end (by kernel_rfl) ?_
  refine e_seq ?_
  refine w_seq 126 127 (by kernel_rfl) ?_
  refine w_seq 252 253 (by kernel_rfl) ?_
  refine w_region (by kernel_rfl) ?_
  refine o_run 3 [0, 1, 2, 7, 8, 22] (l := []) .nil (E' := [(0, .slice A1 a0.length c1), (1, .int .i64 (q : Nat)), (2, .slice A2 a2.length c2), (7, .int .i64 (a2.length : Nat)), (8, .int .i64 (a0.length : Nat)), (22, .bool ((q : Int) == (a0.length : Int)))]) (by kernel_rfl) ?_
  refine o_end (by kernel_rfl) ?_
  refine e_seq ?_
  refine w_cond (.tmp 22) 506 507 ((q : Int) == (a0.length : Int)) (by kernel_rfl) (by kernel_rfl) (fun hb2 => ?_) (fun hb2 => ?_)
  · have hqe : q = a0.length := by
      have : (q : Int) = a0.length := by simpa using hb2
      omega
    have happ : app a0 a2 = some r := by
      unfold app lim; rw [if_pos hsum, hr, hqe]; simp
    refine w_seq 1012 1013 (by kernel_rfl) ?_
    refine w_region (by kernel_rfl) ?_
    refine o_run 2 [23, 24] (l := []) .nil (E' := [(23, .slice A1 a0.length c1), (24, .slice A2 a2.length c2)]) (by kernel_rfl) ?_
    refine o_stp ?_ (by kernel_rfl)
    refine s_app (z := .agg #[.int .u32 0, .int .u32 0]) (enc := encT_api_Block) (ys := a2) (k := a2.length) (bytes := 8) 25 46 46 (.tmp 23) (.tmp 24) 0 happ rfl rfl (by kernel_rfl) (by kernel_rfl) (by kernel_rfl) (by kernel_rfl) (by kernel_rfl) (by kernel_rfl) rfl (src_own (e := 57) (j := 1) (by kernel_rfl) rfl) (by decide) (fun A3 c3 => ?_)
    refine o_run 1 [6] (l := []) .nil (E' := [(6, .slice A3 r.length c3)]) (by kernel_rfl) ?_
    refine o_end (by kernel_rfl) ?_
    refine e_seq ?_
    refine w_ret (by kernel_rfl) ?_
    exact e_retP (A3, c3) (.slice A3 r.length c3) [0, 1] (by kernel_rfl) (by kernel_rfl) rfl (by kernel_rfl) (by kernel_rfl) trivial
  have hqn : q < a0.length := by
    have : ¬ (q : Int) = a0.length := by simpa using hb2
    omega
  refine w_skip (by kernel_rfl) ?_
  refine e_seq ?_
  have hX : (rowOf encT_api_Block (a0.take q)).length = q * 2 := by rw [row_len (enc := encT_api_Block) (sz := 2) (fun _ => rfl), List.length_take, Nat.min_eq_left hq]
  have hD : (rowOf encT_api_Block (a0.drop q)).length = (a0.length - q) * 2 := by rw [row_len (enc := encT_api_Block) (sz := 2) (fun _ => rfl), List.length_drop]
  have hV : (rowOf encT_api_Block a2).length = a2.length * 2 := row_len (enc := encT_api_Block) (sz := 2) (fun _ => rfl) a2
  have hXD : rowOf encT_api_Block a0 = rowOf encT_api_Block (a0.take q) ++ rowOf encT_api_Block (a0.drop q) := by rw [← row_app, List.take_append_drop]
  have hR : rowOf encT_api_Block r = rowOf encT_api_Block (a0.take q) ++ rowOf encT_api_Block a2 ++ rowOf encT_api_Block (a0.drop q) := by rw [hr, row_app, row_app]
  have h1c : ∀ (l : List T_api_Block), ∀ u ∈ rowOf encT_api_Block l, u.oneCell' = true := row_cells encT_api_Block_one
  refine t_own_blk (by omega) (fun g sp hA hsp => ?_)
  subst hA
  refine t_own_some 1 rfl hm0 (fun gv hA => ?_)
  subst hA
  have hw1 : (I64 ((a0.length : Int) + (a2.length : Int))) = ((a0.length + a2.length : Nat) : Int) := i64_add hsum
  refine w_seq 254 255 (by kernel_rfl) ?_
  refine w_seq 508 509 (by kernel_rfl) ?_
  refine w_region (by kernel_rfl) ?_
  refine o_run 6 [0, 1, 2, 7, 8, 31] (l := []) .nil (E' := [(0, .slice (some ⟨g, 0, none⟩) a0.length c1), (1, .int .i64 (q : Nat)), (2, .slice (some ⟨gv, 0, none⟩) a2.length c2), (7, .int .i64 (a2.length : Nat)), (8, .int .i64 (a0.length : Nat)), (31, .bool (decide ((I64 ((a0.length : Int) + (a2.length : Int))) > (c1 : Int))))]) (by kernel_rfl) ?_
  refine o_end (by kernel_rfl) ?_
  refine e_seq ?_
  refine w_cond (.tmp 31) 1018 1019 (decide ((I64 ((a0.length : Int) + (a2.length : Int))) > (c1 : Int))) (by kernel_rfl) (by kernel_rfl) (fun hb3 => ?_) (fun hb3 => ?_)
  · have hg : c1 < a0.length + a2.length := by
      have := of_decide_eq_true hb3
      rw [hw1] at this
      omega
    have hw2 : I64 ((I64 ((a0.length : Int) + (a2.length : Int))) - (q : Int)) = ((a0.length + a2.length - q : Nat) : Int) := by rw [hw1]; exact i64_sub hsum (by omega)
    have hqk : q + (a0.length + a2.length - q) = a0.length + a2.length := by omega
    refine w_seq 2036 2037 (by kernel_rfl) ?_
    refine w_region (by kernel_rfl) ?_
    refine o_run 2 [0, 1, 2, 7, 8, 32, 33] (l := []) .nil (E' := [(0, .slice (some ⟨g, 0, none⟩) a0.length c1), (1, .int .i64 (q : Nat)), (2, .slice (some ⟨gv, 0, none⟩) a2.length c2), (7, .int .i64 (a2.length : Nat)), (8, .int .i64 (a0.length : Nat)), (32, .slice (some ⟨g, 0, none⟩) a0.length c1), (33, .int .i64 (q : Nat))]) (by kernel_rfl) ?_
    have hcA0 : cutA (some ⟨g, 0, none⟩) 0 c1 2 = some ⟨g, 0 * 2, none⟩ := cutA_at (by omega)
    refine o_val 34 (.slice 46 (.tmp 32) none (some (.tmp 33)) none) (.slice (cutA (some ⟨g, 0, none⟩) 0 c1 2) q c1) (by kernel_rfl) (v_slice (l := none) (h := (some (q : Int))) (k := none) (l' := 0) (h' := q) (k' := c1) (A := (some ⟨g, 0, none⟩)) (m := a0.length) (c := c1) (sz := 2) (by kernel_rfl) (by kernel_rfl) (by kernel_rfl) (by kernel_rfl) (by kernel_rfl) (fun h => by cases h) rfl rfl rfl (Nat.zero_le _) (by omega) (Nat.le_refl _) rfl rfl) ?_
    rw [hcA0]
    refine o_run 5 [1, 0, 2, 7, 34, 39] (l := []) .nil (E' := [(1, .int .i64 (q : Nat)), (0, .slice (some ⟨g, 0, none⟩) a0.length c1), (2, .slice (some ⟨gv, 0, none⟩) a2.length c2), (7, .int .i64 (a2.length : Nat)), (34, .slice (some ⟨g, 0, none⟩) q c1), (39, .int .i64 (I64 ((I64 ((a0.length : Int) + (a2.length : Int))) - (q : Int))))]) (by kernel_rfl) ?_
    refine o_stp ?_ (by kernel_rfl)
    refine s_eff 40 (.call { callee := .builtin .append, args := #[.tmp 34, .tmp 39], argTypes := #[46, 3] }) (by kernel_rfl) (e_appZ (e := 57) (q := q) (k := a0.length + a2.length - q) (c := c1) (sz := 2) (bytes := 8) (z := .agg #[.int .u32 0, .int .u32 0]) (a := ⟨g, 0, none⟩) (olds := rowOf encT_api_Block (a0.take q)) (kq := .i64) (kn := .i64) (by kernel_rfl) (ev_int (by kernel_rfl) hw2) (by kernel_rfl) (by kernel_rfl) (by kernel_rfl) (by kernel_rfl) (at_blk (j := 0) rfl (by rw [hXD, List.drop_zero, List.append_assoc, List.take_left' rfl])) hX (by omega) (by decide) (by omega) (by rw [hqk]; have := Nat.mul_le_mul_right 8 hsum; omega) (by omega)) (fun p hp => ?_)
    obtain ⟨g2, c3, zs, sp2⟩ := p
    obtain ⟨hz1, hz2, hz3⟩ := hp
    dsimp only at hz1 hz2 hz3 ⊢
    rw [hqk] at hz2 hz3
    rw [hqk]
    refine o_run 1 [1, 0, 2, 7, 9] (l := []) .nil (E' := [(1, .int .i64 (q : Nat)), (0, .slice (some ⟨g, 0, none⟩) a0.length c1), (2, .slice (some ⟨gv, 0, none⟩) a2.length c2), (7, .int .i64 (a2.length : Nat)), (9, .slice (some ⟨g2, 0, none⟩) (a0.length + a2.length) c3)]) (by kernel_rfl) ?_
    refine o_end (by kernel_rfl) ?_
    refine e_seq ?_
    refine w_seq 4074 4075 (by kernel_rfl) ?_
    refine w_region (by kernel_rfl) ?_
    refine o_run 2 [1, 0, 2, 7, 9, 41, 42] (l := []) .nil (E' := [(1, .int .i64 (q : Nat)), (0, .slice (some ⟨g, 0, none⟩) a0.length c1), (2, .slice (some ⟨gv, 0, none⟩) a2.length c2), (7, .int .i64 (a2.length : Nat)), (9, .slice (some ⟨g2, 0, none⟩) (a0.length + a2.length) c3), (41, .slice (some ⟨g2, 0, none⟩) (a0.length + a2.length) c3), (42, .int .i64 (q : Nat))]) (by kernel_rfl) ?_
    have hcA1 : cutA (some ⟨g2, 0, none⟩) q c3 2 = some ⟨g2, q * 2, none⟩ := cutA_at (by omega)
    refine o_val 43 (.slice 46 (.tmp 41) (some (.tmp 42)) none none) (.slice (cutA (some ⟨g2, 0, none⟩) q c3 2) (a0.length + a2.length - q) (c3 - q)) (by kernel_rfl) (v_slice (l := (some (q : Int))) (h := none) (k := none) (l' := q) (h' := (a0.length + a2.length)) (k' := c3) (A := (some ⟨g2, 0, none⟩)) (m := (a0.length + a2.length)) (c := c3) (sz := 2) (by kernel_rfl) (by kernel_rfl) (by kernel_rfl) (by kernel_rfl) (by kernel_rfl) (fun h => by cases h) rfl rfl rfl (by omega) hz3 (Nat.le_refl _) rfl rfl) ?_
    rw [hcA1]
    refine o_run 1 [1, 0, 2, 7, 9, 43, 44] (l := []) .nil (E' := [(1, .int .i64 (q : Nat)), (0, .slice (some ⟨g, 0, none⟩) a0.length c1), (2, .slice (some ⟨gv, 0, none⟩) a2.length c2), (7, .int .i64 (a2.length : Nat)), (9, .slice (some ⟨g2, 0, none⟩) (a0.length + a2.length) c3), (43, .slice (some ⟨g2, q * 2, none⟩) (a0.length + a2.length - q) (c3 - q)), (44, .slice (some ⟨gv, 0, none⟩) a2.length c2)]) (by kernel_rfl) ?_
    refine o_stp ?_ (by kernel_rfl)
    refine s_eff 45 (.call { callee := .builtin .copy, args := #[.tmp 43, .tmp 44], argTypes := #[46, 46] }) (by kernel_rfl) (e_copyB (j := 0) (l := rowOf encT_api_Block a2) (a := ⟨gv, 0, none⟩) (g := g2) (o := q * 2) (dl := a0.length + a2.length - q) (dc := c3 - q) (sl := a2.length) (sc := c2) (elem := 57) (sz := 2) (by kernel_rfl) (by kernel_rfl) (by kernel_rfl) (by kernel_rfl) rfl (by rw [hV]; congr 1; exact (Nat.min_eq_left (by omega)).symm) (at_own (j := 2) (off := 0) (A := some ⟨gv, 0, none⟩) (m := a2.length) (c := c2) (cs := rowOf encT_api_Block a2) rfl (by rw [List.drop_zero, List.take_length])) (by rw [hV]; simp only [List.length_append, hX, hz1, Nat.sub_mul, Nat.add_mul] at *; have := Nat.mul_le_mul_right 2 hq; omega) (h1c _)) (fun _ _ => ?_)
    dsimp only [List.set]
    refine t_env [1, 0, 2, 7, 9] (E' := [(1, .int .i64 (q : Nat)), (0, .slice (some ⟨g, 0, none⟩) a0.length c1), (2, .slice (some ⟨gv, 0, none⟩) a2.length c2), (7, .int .i64 (a2.length : Nat)), (9, .slice (some ⟨g2, 0, none⟩) (a0.length + a2.length) c3)]) (by kernel_rfl) ?_
    refine o_end (by kernel_rfl) ?_
    refine e_seq ?_
    refine w_seq 8150 8151 (by kernel_rfl) ?_
    have hw3 : (I64 ((q : Int) + (a2.length : Int))) = ((q + a2.length : Nat) : Int) := i64_add (by omega)
    refine w_tail 8 [] (by kernel_rfl) mixed (by kernel_rfl) ?_
    refine tt_run [0, 1, 2, 3] [1, 0, 9, 46, 49] [] 4 (listed' := #[true, true, true, true, false, false, false, false, false]) (l := []) .nil (E' := [(1, .int .i64 (q : Nat)), (0, .slice (some ⟨g, 0, none⟩) a0.length c1), (9, .slice (some ⟨g2, 0, none⟩) (a0.length + a2.length) c3), (46, .slice (some ⟨g2, 0, none⟩) (a0.length + a2.length) c3), (49, .int .i64 (I64 ((q : Int) + (a2.length : Int))))]) (by kernel_rfl) (by kernel_rfl) (by kernel_rfl) (Ext.refl _) (by kernel_rfl) (by kernel_rfl) ?_
    have hcA2 : cutA (some ⟨g2, 0, none⟩) (q + a2.length) c3 2 = some ⟨g2, (q + a2.length) * 2, none⟩ := cutA_at (by omega)
    refine tt_val 4 50 (.slice 46 (.tmp 46) (some (.tmp 49)) none none) (.slice (cutA (some ⟨g2, 0, none⟩) (q + a2.length) c3 2) (a0.length + a2.length - (q + a2.length)) (c3 - (q + a2.length))) [] (by kernel_rfl) (v_slice (l := (some (I64 ((q : Int) + (a2.length : Int))))) (h := none) (k := none) (l' := (q + a2.length)) (h' := (a0.length + a2.length)) (k' := c3) (A := (some ⟨g2, 0, none⟩)) (m := (a0.length + a2.length)) (c := c3) (sz := 2) (by kernel_rfl) (by kernel_rfl) (by kernel_rfl) (by kernel_rfl) (by kernel_rfl) (fun h => by cases h) hw3 rfl rfl (by omega) hz3 (Nat.le_refl _) rfl rfl) (by kernel_rfl) (Ext.refl _) (by kernel_rfl) (by kernel_rfl) ?_
    rw [hcA2]
    refine tt_run [5, 6] [9, 50, 51, 52] [] 1 (listed' := #[true, true, true, true, true, true, true, false, false]) (l := []) .nil (E' := [(9, .slice (some ⟨g2, 0, none⟩) (a0.length + a2.length) c3), (50, .slice (some ⟨g2, (q + a2.length) * 2, none⟩) (a0.length + a2.length - (q + a2.length)) (c3 - (q + a2.length))), (51, .slice (some ⟨g, 0, none⟩) a0.length c1), (52, .int .i64 (q : Nat))]) (by kernel_rfl) (by kernel_rfl) (by kernel_rfl) (Ext.refl _) (by kernel_rfl) (by kernel_rfl) ?_
    have hcA3 : cutA (some ⟨g, 0, none⟩) q c1 2 = some ⟨g, q * 2, none⟩ := cutA_at (by omega)
    refine tt_val 7 53 (.slice 46 (.tmp 51) (some (.tmp 52)) none none) (.slice (cutA (some ⟨g, 0, none⟩) q c1 2) (a0.length - q) (c1 - q)) [] (by kernel_rfl) (v_slice (l := (some (q : Int))) (h := none) (k := none) (l' := q) (h' := a0.length) (k' := c1) (A := (some ⟨g, 0, none⟩)) (m := a0.length) (c := c1) (sz := 2) (by kernel_rfl) (by kernel_rfl) (by kernel_rfl) (by kernel_rfl) (by kernel_rfl) (fun h => by cases h) rfl rfl rfl hq hc1 (Nat.le_refl _) rfl rfl) (by kernel_rfl) (Ext.refl _) (by kernel_rfl) (by kernel_rfl) ?_
    rw [hcA3]
    refine tt_end [] (Ext.refl _) (by kernel_rfl) (by kernel_rfl) (by kernel_rfl) ?_
    refine o_stp ?_ (by kernel_rfl)
    refine s_eff 54 (.call { callee := .builtin .copy, args := #[.tmp 50, .tmp 53], argTypes := #[46, 46] }) (by kernel_rfl) (e_copyB (j := 0) (l := rowOf encT_api_Block (a0.drop q)) (a := ⟨g, q * 2, none⟩) (g := g2) (o := (q + a2.length) * 2) (dl := a0.length + a2.length - (q + a2.length)) (dc := c3 - (q + a2.length)) (sl := a0.length - q) (sc := c1 - q) (elem := 57) (sz := 2) (by kernel_rfl) (by kernel_rfl) (by kernel_rfl) (by kernel_rfl) rfl (by rw [hD]; congr 1; simp only [Nat.min_def]; split <;> omega) (at_blk (j := 1) rfl (by rw [hXD, ← hX, List.append_assoc, List.drop_left' rfl, List.take_left' rfl])) (by rw [hD]; simp only [List.length_append, List.length_take, List.length_drop, hX, hV, hz1, Nat.sub_mul, Nat.add_mul] at *; have := Nat.mul_le_mul_right 2 hq; omega) (h1c _)) (fun _ _ => ?_)
    dsimp only [List.set]
    refine t_env [9] (E' := [(9, .slice (some ⟨g2, 0, none⟩) (a0.length + a2.length) c3)]) (by kernel_rfl) ?_
    refine o_end (by kernel_rfl) ?_
    refine e_seq ?_
    have hfin := list_two (P := rowOf encT_api_Block (a0.take q)) (Z := zs) (S := sp2) (V := rowOf encT_api_Block a2) (D := rowOf encT_api_Block (a0.drop q)) (by rw [hz1, hV, hD, ← Nat.add_mul]; congr 1; omega)
    rw [hX, hV, ← Nat.add_mul, ← hR] at hfin
    rw [hV, ← Nat.add_mul, hfin]
    refine t_blk_row (m := r.length) (c := c3) (sz := 2) rfl (row_len (enc := encT_api_Block) (sz := 2) (fun _ => rfl) r) (by rw [hz2, hrl]) (by omega) (h1c _) ?_
    refine t_drop [0, 2] (by kernel_rfl) ?_
    refine w_seq 16302 16303 (by kernel_rfl) ?_
    refine w_region (by kernel_rfl) ?_
    rw [← hrl]
    refine o_run 2 [6] (l := []) .nil (E' := [(6, .slice (some ⟨g2, 0, none⟩) r.length c3)]) (by kernel_rfl) ?_
    refine o_end (by kernel_rfl) ?_
    refine e_seq ?_
    refine w_ret (by kernel_rfl) ?_
    exact e_retP (some ⟨g2, 0, none⟩, c3) (.slice (some ⟨g2, 0, none⟩) r.length c3) [0, 1] (by kernel_rfl) (by kernel_rfl) rfl (by kernel_rfl) (by kernel_rfl) trivial
  have hg : a0.length + a2.length ≤ c1 := by
    have := of_decide_eq_false hb3
    rw [hw1] at this
    omega
  refine w_skip (by kernel_rfl) ?_
  refine e_seq ?_
  have hsp2 : a2.length * 2 ≤ sp.length := by rw [hsp]; exact Nat.mul_le_mul_right _ (by omega)
  have hcA0 : cutA (some ⟨g, 0, none⟩) 0 c1 2 = some ⟨g, 0 * 2, none⟩ := cutA_at (by omega)
  refine w_seq 510 511 (by kernel_rfl) ?_
  refine w_region (by kernel_rfl) ?_
  refine o_run 4 [0, 1, 2, 7, 8, 56, 59] (l := []) .nil (E' := [(0, .slice (some ⟨g, 0, none⟩) a0.length c1), (1, .int .i64 (q : Nat)), (2, .slice (some ⟨gv, 0, none⟩) a2.length c2), (7, .int .i64 (a2.length : Nat)), (8, .int .i64 (a0.length : Nat)), (56, .slice (some ⟨g, 0, none⟩) a0.length c1), (59, .int .i64 (I64 ((a0.length : Int) + (a2.length : Int))))]) (by kernel_rfl) ?_
  refine o_val 60 (.slice 46 (.tmp 56) none (some (.tmp 59)) none) (.slice (cutA (some ⟨g, 0, none⟩) 0 c1 2) (a0.length + a2.length) c1) (by kernel_rfl) (v_slice (l := none) (h := (some (I64 ((a0.length : Int) + (a2.length : Int))))) (k := none) (l' := 0) (h' := (a0.length + a2.length)) (k' := c1) (A := (some ⟨g, 0, none⟩)) (m := a0.length) (c := c1) (sz := 2) (by kernel_rfl) (by kernel_rfl) (by kernel_rfl) (by kernel_rfl) (by kernel_rfl) (fun h => by cases h) rfl hw1 rfl (Nat.zero_le _) hg (Nat.le_refl _) rfl rfl) ?_
  rw [hcA0]
  refine o_run 1 [0, 1, 2, 7] (l := []) .nil (E' := [(0, .slice (some ⟨g, 0, none⟩) (a0.length + a2.length) c1), (1, .int .i64 (q : Nat)), (2, .slice (some ⟨gv, 0, none⟩) a2.length c2), (7, .int .i64 (a2.length : Nat))]) (by kernel_rfl) ?_
  refine o_end (by kernel_rfl) ?_
  refine e_seq ?_
  refine w_seq 1022 1023 (by kernel_rfl) ?_
  refine w_seq 2044 2045 (by kernel_rfl) ?_
  refine w_region (by kernel_rfl) ?_
  refine o_run 5 [0, 1, 2, 7, 61, 62, 65] (l := []) .nil (E' := [(0, .slice (some ⟨g, 0, none⟩) (a0.length + a2.length) c1), (1, .int .i64 (q : Nat)), (2, .slice (some ⟨gv, 0, none⟩) a2.length c2), (7, .int .i64 (a2.length : Nat)), (61, .slice (some ⟨gv, 0, none⟩) a2.length c2), (62, .slice (some ⟨g, 0, none⟩) (a0.length + a2.length) c1), (65, .int .i64 (I64 ((q : Int) + (a2.length : Int))))]) (by kernel_rfl) ?_
  have hw3 : (I64 ((q : Int) + (a2.length : Int))) = ((q + a2.length : Nat) : Int) := i64_add (by omega)
  have hcA4 : cutA (some ⟨g, 0, none⟩) (q + a2.length) c1 2 = some ⟨g, (q + a2.length) * 2, none⟩ := cutA_at (by omega)
  refine o_val 66 (.slice 46 (.tmp 62) (some (.tmp 65)) none none) (.slice (cutA (some ⟨g, 0, none⟩) (q + a2.length) c1 2) (a0.length + a2.length - (q + a2.length)) (c1 - (q + a2.length))) (by kernel_rfl) (v_slice (l := (some (I64 ((q : Int) + (a2.length : Int))))) (h := none) (k := none) (l' := (q + a2.length)) (h' := (a0.length + a2.length)) (k' := c1) (A := (some ⟨g, 0, none⟩)) (m := (a0.length + a2.length)) (c := c1) (sz := 2) (by kernel_rfl) (by kernel_rfl) (by kernel_rfl) (by kernel_rfl) (by kernel_rfl) (fun h => by cases h) hw3 rfl rfl (by omega) hg (Nat.le_refl _) rfl rfl) ?_
  rw [hcA4]
  refine o_val 67 (.call { callee := .value (.func 48), args := #[.tmp 61, .tmp 66], argTypes := #[46, 46] }) (.bool false) (by kernel_rfl) (v_over (fn := Try.f48) (tS := 46) (tR := 4) (e := 57) (ja := 1) (jb := 0) (sz := 2) (gb := g) (ob := (q + a2.length) * 2) (A := some ⟨gv, 0, none⟩) (la := a2.length) (ca := c2) (lb := a0.length + a2.length - (q + a2.length)) (cb := c1 - (q + a2.length)) Try.func48 (by kernel_rfl) (by kernel_rfl) (by kernel_rfl) (by kernel_rfl) (by kernel_rfl) (by kernel_rfl) (by kernel_rfl) (by kernel_rfl) rfl hm0 rfl (by rw [List.length_append, row_len (enc := encT_api_Block) (sz := 2) (fun _ => rfl)]; have : 0 < a0.length * 2 := Nat.mul_pos (by omega) (by decide); omega) rfl) ?_
  refine o_run 1 [0, 1, 2, 7, 68] (l := []) .nil (E' := [(0, .slice (some ⟨g, 0, none⟩) (a0.length + a2.length) c1), (1, .int .i64 (q : Nat)), (2, .slice (some ⟨gv, 0, none⟩) a2.length c2), (7, .int .i64 (a2.length : Nat)), (68, .bool true)]) (by kernel_rfl) ?_
  refine o_end (by kernel_rfl) ?_
  refine e_seq ?_
  refine w_cond_t (.tmp 68) 4090 4091 (by kernel_rfl) (by kernel_rfl) ?_
  refine w_seq 8180 8181 (by kernel_rfl) ?_
  refine w_tail 8 [] (by kernel_rfl) mixed (by kernel_rfl) ?_
  refine tt_run [0, 1, 2, 3] [0, 1, 2, 7, 69, 72] [] 4 (listed' := #[true, true, true, true, false, false, false, false, false]) (l := []) .nil (E' := [(0, .slice (some ⟨g, 0, none⟩) (a0.length + a2.length) c1), (1, .int .i64 (q : Nat)), (2, .slice (some ⟨gv, 0, none⟩) a2.length c2), (7, .int .i64 (a2.length : Nat)), (69, .slice (some ⟨g, 0, none⟩) (a0.length + a2.length) c1), (72, .int .i64 (I64 ((q : Int) + (a2.length : Int))))]) (by kernel_rfl) (by kernel_rfl) (by kernel_rfl) (Ext.refl _) (by kernel_rfl) (by kernel_rfl) ?_
  refine tt_val 4 73 (.slice 46 (.tmp 69) (some (.tmp 72)) none none) (.slice (cutA (some ⟨g, 0, none⟩) (q + a2.length) c1 2) (a0.length + a2.length - (q + a2.length)) (c1 - (q + a2.length))) [] (by kernel_rfl) (v_slice (l := (some (I64 ((q : Int) + (a2.length : Int))))) (h := none) (k := none) (l' := (q + a2.length)) (h' := (a0.length + a2.length)) (k' := c1) (A := (some ⟨g, 0, none⟩)) (m := (a0.length + a2.length)) (c := c1) (sz := 2) (by kernel_rfl) (by kernel_rfl) (by kernel_rfl) (by kernel_rfl) (by kernel_rfl) (fun h => by cases h) hw3 rfl rfl (by omega) hg (Nat.le_refl _) rfl rfl) (by kernel_rfl) (Ext.refl _) (by kernel_rfl) (by kernel_rfl) ?_
  rw [hcA4]
  refine tt_run [5, 6] [0, 1, 2, 7, 73, 74, 75] [] 1 (listed' := #[true, true, true, true, true, true, true, false, false]) (l := []) .nil (E' := [(0, .slice (some ⟨g, 0, none⟩) (a0.length + a2.length) c1), (1, .int .i64 (q : Nat)), (2, .slice (some ⟨gv, 0, none⟩) a2.length c2), (7, .int .i64 (a2.length : Nat)), (73, .slice (some ⟨g, (q + a2.length) * 2, none⟩) (a0.length + a2.length - (q + a2.length)) (c1 - (q + a2.length))), (74, .slice (some ⟨g, 0, none⟩) (a0.length + a2.length) c1), (75, .int .i64 (q : Nat))]) (by kernel_rfl) (by kernel_rfl) (by kernel_rfl) (Ext.refl _) (by kernel_rfl) (by kernel_rfl) ?_
  have hcA3 : cutA (some ⟨g, 0, none⟩) q c1 2 = some ⟨g, q * 2, none⟩ := cutA_at (by omega)
  refine tt_val 7 76 (.slice 46 (.tmp 74) (some (.tmp 75)) none none) (.slice (cutA (some ⟨g, 0, none⟩) q c1 2) (a0.length + a2.length - q) (c1 - q)) [] (by kernel_rfl) (v_slice (l := (some (q : Int))) (h := none) (k := none) (l' := q) (h' := (a0.length + a2.length)) (k' := c1) (A := (some ⟨g, 0, none⟩)) (m := (a0.length + a2.length)) (c := c1) (sz := 2) (by kernel_rfl) (by kernel_rfl) (by kernel_rfl) (by kernel_rfl) (by kernel_rfl) (fun h => by cases h) rfl rfl rfl (by omega) hg (Nat.le_refl _) rfl rfl) (by kernel_rfl) (Ext.refl _) (by kernel_rfl) (by kernel_rfl) ?_
  rw [hcA3]
  refine tt_end [] (Ext.refl _) (by kernel_rfl) (by kernel_rfl) (by kernel_rfl) ?_
  refine o_stp ?_ (by kernel_rfl)
  refine s_eff 77 (.call { callee := .builtin .copy, args := #[.tmp 73, .tmp 76], argTypes := #[46, 46] }) (by kernel_rfl) (e_copyB (j := 0) (l := rowOf encT_api_Block (a0.drop q)) (a := ⟨g, q * 2, none⟩) (g := g) (o := (q + a2.length) * 2) (dl := a0.length + a2.length - (q + a2.length)) (dc := c1 - (q + a2.length)) (sl := a0.length + a2.length - q) (sc := c1 - q) (elem := 57) (sz := 2) (by kernel_rfl) (by kernel_rfl) (by kernel_rfl) (by kernel_rfl) rfl (by rw [hD]; congr 1; simp only [Nat.min_def]; split <;> omega) (at_blk (j := 0) rfl (by rw [hXD, ← hX, List.append_assoc, List.drop_left' rfl, List.take_left' rfl])) (by rw [hD, List.length_append, hXD, List.length_append, hX, hD]; simp only [Nat.sub_mul, Nat.add_mul] at *; have := Nat.mul_le_mul_right 2 hq; omega) (h1c _)) (fun _ _ => ?_)
  dsimp only [List.set]
  refine t_env [0, 1, 2] (E' := [(0, .slice (some ⟨g, 0, none⟩) (a0.length + a2.length) c1), (1, .int .i64 (q : Nat)), (2, .slice (some ⟨gv, 0, none⟩) a2.length c2)]) (by kernel_rfl) ?_
  refine o_end (by kernel_rfl) ?_
  refine e_seq ?_
  refine w_seq 16362 16363 (by kernel_rfl) ?_
  refine w_region (by kernel_rfl) ?_
  refine o_run 2 [0, 1, 2, 78, 79] (l := []) .nil (E' := [(0, .slice (some ⟨g, 0, none⟩) (a0.length + a2.length) c1), (1, .int .i64 (q : Nat)), (2, .slice (some ⟨gv, 0, none⟩) a2.length c2), (78, .slice (some ⟨g, 0, none⟩) (a0.length + a2.length) c1), (79, .int .i64 (q : Nat))]) (by kernel_rfl) ?_
  refine o_val 80 (.slice 46 (.tmp 78) (some (.tmp 79)) none none) (.slice (cutA (some ⟨g, 0, none⟩) q c1 2) (a0.length + a2.length - q) (c1 - q)) (by kernel_rfl) (v_slice (l := (some (q : Int))) (h := none) (k := none) (l' := q) (h' := (a0.length + a2.length)) (k' := c1) (A := (some ⟨g, 0, none⟩)) (m := (a0.length + a2.length)) (c := c1) (sz := 2) (by kernel_rfl) (by kernel_rfl) (by kernel_rfl) (by kernel_rfl) (by kernel_rfl) (fun h => by cases h) rfl rfl rfl (by omega) hg (Nat.le_refl _) rfl rfl) ?_
  rw [hcA3]
  refine o_run 1 [0, 80, 81] (l := []) .nil (E' := [(0, .slice (some ⟨g, 0, none⟩) (a0.length + a2.length) c1), (80, .slice (some ⟨g, q * 2, none⟩) (a0.length + a2.length - q) (c1 - q)), (81, .slice (some ⟨gv, 0, none⟩) a2.length c2)]) (by kernel_rfl) ?_
  refine o_stp ?_ (by kernel_rfl)
  refine s_eff 82 (.call { callee := .builtin .copy, args := #[.tmp 80, .tmp 81], argTypes := #[46, 46] }) (by kernel_rfl) (e_copyB (j := 0) (l := rowOf encT_api_Block a2) (a := ⟨gv, 0, none⟩) (g := g) (o := q * 2) (dl := a0.length + a2.length - q) (dc := c1 - q) (sl := a2.length) (sc := c2) (elem := 57) (sz := 2) (by kernel_rfl) (by kernel_rfl) (by kernel_rfl) (by kernel_rfl) rfl (by rw [hV]; congr 1; exact (Nat.min_eq_left (by omega)).symm) (at_own (j := 1) (off := 0) (A := some ⟨gv, 0, none⟩) (m := a2.length) (c := c2) (cs := rowOf encT_api_Block a2) rfl (by rw [List.drop_zero, List.take_length])) (by rw [hV]; simp only [List.length_append, List.length_take, List.length_drop, hXD, hX, hD, Nat.sub_mul, Nat.add_mul] at *; have := Nat.mul_le_mul_right 2 hq; omega) (h1c _)) (fun _ _ => ?_)
  dsimp only [List.set]
  refine t_env [0] (E' := [(0, .slice (some ⟨g, 0, none⟩) (a0.length + a2.length) c1)]) (by kernel_rfl) ?_
  refine o_end (by kernel_rfl) ?_
  refine e_seq ?_
  have hfin := list_three (X := rowOf encT_api_Block (a0.take q)) (D := rowOf encT_api_Block (a0.drop q)) (S := sp) (V := rowOf encT_api_Block a2) (by rw [hV]; exact hsp2)
  rw [← hXD, hX, hV, ← Nat.add_mul, ← hR] at hfin
  rw [hV, ← Nat.add_mul, hfin]
  refine t_blk_row (m := r.length) (c := c1) (sz := 2) rfl (row_len (enc := encT_api_Block) (sz := 2) (fun _ => rfl) r) (by rw [List.length_drop, hsp, hrl, ← Nat.sub_mul]; congr 1; omega) (by omega) (h1c _) ?_
  refine w_seq 32726 32727 (by kernel_rfl) ?_
  refine w_region (by kernel_rfl) ?_
  rw [← hrl]
  refine o_run 2 [6] (l := []) .nil (E' := [(6, .slice (some ⟨g, 0, none⟩) r.length c1)]) (by kernel_rfl) ?_
  refine o_end (by kernel_rfl) ?_
  refine e_seq ?_
  refine w_ret (by kernel_rfl) ?_
  exact e_retP (some ⟨g, 0, none⟩, c1) (.slice (some ⟨g, 0, none⟩) r.length c1) [0, 1] (by kernel_rfl) (by kernel_rfl) rfl (by kernel_rfl) (by kernel_rfl) trivial
end Go.V
