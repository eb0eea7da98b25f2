/- Printed by a program of this work: Go functions as Lean functions, and that the machine comes to the same. -/
import Derived.Test.YtidkijkkolfooaaPx1
set_option maxRecDepth 100000
set_option linter.unusedVariables false
namespace Go.V
open Go Go.Proofs
def rbuf_Buffer_Blocks.f (k : Nat) (a0 : T_rbuf_Buffer_o) (a1 : Int) : Option ((List T_api_Block)) :=
  ((rbuf_Buffer_ok.f a0).bind fun t1 => (if !t1 then (some ([] : List T_api_Block)) else (if decide (a1 < 1) then (some ([] : List T_api_Block)) else ((sack_Board_Blocks.f k a0.xBoard).bind fun t2 => ((slices_Reverse_api_Block.f k t2).bind fun t3 => ((slices_IndexFunc_api_Block.f k t3 a0).bind fun t4 => (if decide (t4 > 0) then ((idx t3 t4).bind fun e1 => ((slices_Delete_api_Block.f t3 t4 (I64 (t4 + 1))).bind fun t5 => ((slices_Insert_api_Block.f t5 0 [e1]).bind fun t6 => ((cut t6 0 (imin a1 (t6.length : Int))).bind fun l1 => (some l1))))) else ((cut t3 0 (imin a1 (t3.length : Int))).bind fun l2 => (some l2)))))))))
theorem rbuf_Buffer_Blocks_ok (k : Nat) (a0 : T_rbuf_Buffer_o) (a1 : Int) (r : (List T_api_Block)) (hm : rbuf_Buffer_Blocks.f k a0 a1 = some r) (B G : Asn) (g1 : Nat) (g2 : Nat) (A1 : Option Addr) (c1 : Nat) (A2 : Option Addr) (c2 : Nat) (hs1 : Sl kT_sack_run B A1 c1 a0.xBoard.xruns) (w : World) (hs : St B G [.blk g1 [.pointer (some ⟨g2, 0, none⟩), .slice A2 a0.xbytes.length c2, .int .i64 a0.xbegin, .int .i64 a0.xn, .int .u32 a0.xlast, .bool a0.xkept] 50, .blk g2 [.bool a0.xBoard.xmade, .int .u32 a0.xBoard.xfirst, .slice A1 a0.xBoard.xruns.length c1] 76, .own A2 a0.xbytes.length c2 (rowOf (encI .u8) a0.xbytes) 1 5] w) :
    Calls Try.prog 23 #[.pointer (some ⟨g1, 0, none⟩), .int .i64 a1] w (Post (X := Asn × (Option Addr) × Nat) (fun x => .slice x.2.1 r.length x.2.2) (fun x => x.1) G (fun x => [.blk g1 [.pointer (some ⟨g2, 0, none⟩), .slice A2 a0.xbytes.length c2, .int .i64 a0.xbegin, .int .i64 a0.xn, .int .u32 a0.xlast, .bool a0.xkept] 50, .blk g2 [.bool a0.xBoard.xmade, .int .u32 a0.xBoard.xfirst, .slice A1 a0.xBoard.xruns.length c1] 76, .own A2 a0.xbytes.length c2 (rowOf (encI .u8) a0.xbytes) 1 5]) (fun x => (Ext B x.1) ∧ (Sl kT_api_Block x.1 x.2.1 x.2.2 r))) := by
  unfold rbuf_Buffer_Blocks.f at hm
  refine calls_W (F := Try.f23) Try.func23 rfl (by kernel_rfl) (L := [.blk g1 [.pointer (some ⟨g2, 0, none⟩), .slice A2 a0.xbytes.length c2, .int .i64 a0.xbegin, .int .i64 a0.xn, .int .u32 a0.xlast, .bool a0.xkept] 50, .blk g2 [.bool a0.xBoard.xmade, .int .u32 a0.xBoard.xfirst, .slice A1 a0.xBoard.xruns.length c1] 76, .own A2 a0.xbytes.length c2 (rowOf (encI .u8) a0.xbytes) 1 5]) ?_ hs
  refine w_seq 2 3 (by kernel_rfl) ?_
  refine w_region (by kernel_rfl) ?_
  refine o_stp ?_ (by kernel_rfl)
  refine s_new 2 (fun g3 => .pointer (some ⟨g3, 0, none⟩)) [.pointer (some ⟨g1, 0, none⟩)] 25 (fun _ => by kernel_rfl) (fun g3 => ?_)
  refine o_run 1 [1, 2] (l := []) .nil (E' := [(1, .int .i64 a1), (2, .pointer (some ⟨g3, 0, none⟩))]) (by kernel_rfl) ?_
  refine o_end (by kernel_rfl) ?_
  refine e_seq ?_
  refine w_seq 6 7 (by kernel_rfl) ?_
  refine w_seq 12 13 (by kernel_rfl) ?_
  refine w_region (by kernel_rfl) ?_
  refine o_run 1 [1, 2, 9] (l := [(⟨g3, 0, none⟩, .pointer (some ⟨g1, 0, none⟩))]) (.one (at_blk (j := 0) rfl rfl) .nil) (E' := [(1, .int .i64 a1), (2, .pointer (some ⟨g3, 0, none⟩)), (9, .pointer (some ⟨g1, 0, none⟩))]) (by kernel_rfl) ?_
  obtain ⟨t1, hx1, hm⟩ := bind_some hm
  refine o_stp ?_ (by kernel_rfl)
  refine s_call 10 27 #[.pointer (some ⟨g1, 0, none⟩)] [1, 2, 3] [0] (by kernel_rfl) (by kernel_rfl) (fun w hs => rbuf_Buffer_ok_ok a0 t1 hx1 B _ g1 g2 A1 c1 A2 c2 hs1 w (St.cast (by kernel_rfl) hs)) (fun _ hx => ?_)
  refine t_L (L' := [.blk g1 [.pointer (some ⟨g2, 0, none⟩), .slice A2 a0.xbytes.length c2, .int .i64 a0.xbegin, .int .i64 a0.xn, .int .u32 a0.xlast, .bool a0.xkept] 50, .blk g2 [.bool a0.xBoard.xmade, .int .u32 a0.xBoard.xfirst, .slice A1 a0.xBoard.xruns.length c1] 76, .own A2 a0.xbytes.length c2 (rowOf (encI .u8) a0.xbytes) 1 5, .blk g3 [.pointer (some ⟨g1, 0, none⟩)] 25]) (by kernel_rfl) ?_
  refine o_run 2 [1, 2, 12] (l := []) .nil (E' := [(1, .int .i64 a1), (2, .pointer (some ⟨g3, 0, none⟩)), (12, .bool (!t1))]) (by kernel_rfl) ?_
  refine o_split 12 (!t1) (by kernel_rfl) (fun hb1 => ?_) (fun hb1 => ?_)
  · replace hm := ite_t hb1 hm
    refine o_run 3 [1, 2, 15] (l := []) .nil (E' := [(1, .int .i64 a1), (2, .pointer (some ⟨g3, 0, none⟩)), (15, .bool true)]) (by kernel_rfl) ?_
    refine o_end (by kernel_rfl) ?_
    refine e_seq ?_
    refine w_cond_t (.tmp 15) 26 27 (by kernel_rfl) (by kernel_rfl) ?_
    refine w_seq 52 53 (by kernel_rfl) ?_
    refine w_region (by kernel_rfl) ?_
    refine o_run 1 [4] (l := []) .nil (E' := [(4, .slice none 0 0)]) (by kernel_rfl) ?_
    refine o_end (by kernel_rfl) ?_
    refine e_seq ?_
    refine w_ret (by kernel_rfl) ?_
    obtain rfl := Option.some.inj hm
    exact e_retP (B, none, 0) (.slice none ([] : List T_api_Block).length 0) [0, 1, 2] (by kernel_rfl) (by kernel_rfl) rfl (by kernel_rfl) (by kernel_rfl) ⟨(Ext.refl _), (Sl.nil kT_api_Block B none 0)⟩
  · replace hm := ite_f hb1 hm
    refine o_run 3 [1, 2, 15] (l := []) .nil (E' := [(1, .int .i64 a1), (2, .pointer (some ⟨g3, 0, none⟩)), (15, .bool (decide (a1 < 1)))]) (by kernel_rfl) ?_
    refine o_end (by kernel_rfl) ?_
    refine e_seq ?_
    refine w_cond (.tmp 15) 26 27 (decide (a1 < 1)) (by kernel_rfl) (by kernel_rfl) (fun hb2 => ?_) (fun hb2 => ?_)
    · replace hm := ite_t hb2 hm
      refine w_seq 52 53 (by kernel_rfl) ?_
      refine w_region (by kernel_rfl) ?_
      refine o_run 1 [4] (l := []) .nil (E' := [(4, .slice none 0 0)]) (by kernel_rfl) ?_
      refine o_end (by kernel_rfl) ?_
      refine e_seq ?_
      refine w_ret (by kernel_rfl) ?_
      obtain rfl := Option.some.inj hm
      exact e_retP (B, none, 0) (.slice none ([] : List T_api_Block).length 0) [0, 1, 2] (by kernel_rfl) (by kernel_rfl) rfl (by kernel_rfl) (by kernel_rfl) ⟨(Ext.refl _), (Sl.nil kT_api_Block B none 0)⟩
    · replace hm := ite_f hb2 hm
      refine w_skip (by kernel_rfl) ?_
      refine e_seq ?_
      refine w_seq 14 15 (by kernel_rfl) ?_
      refine w_region (by kernel_rfl) ?_
      refine o_run 4 [1, 2, 19] (l := [(⟨g3, 0, none⟩, .pointer (some ⟨g1, 0, none⟩)), (⟨g1, 0, none⟩, .pointer (some ⟨g2, 0, none⟩))]) (.one (at_blk (j := 3) rfl rfl) (.one (at_blk (j := 0) rfl rfl) .nil)) (E' := [(1, .int .i64 a1), (2, .pointer (some ⟨g3, 0, none⟩)), (19, .pointer (some ⟨g2, 0, none⟩))]) (by kernel_rfl) ?_
      obtain ⟨t2, hx2, hm⟩ := bind_some hm
      refine o_stp ?_ (by kernel_rfl)
      refine s_call 20 31 #[.pointer (some ⟨g2, 0, none⟩)] [1] [0, 2, 3] (by kernel_rfl) (by kernel_rfl) (fun w hs => sack_Board_Blocks_ok k a0.xBoard t2 hx2 B _ g2 A1 c1 hs1 w (St.cast (by kernel_rfl) hs)) (fun x hx => ?_)
      obtain ⟨A3, c3⟩ := x
      refine t_L (L' := [.own A3 t2.length c3 (rowOf encT_api_Block t2) 2 57, .blk g2 [.bool a0.xBoard.xmade, .int .u32 a0.xBoard.xfirst, .slice A1 a0.xBoard.xruns.length c1] 76, .blk g1 [.pointer (some ⟨g2, 0, none⟩), .slice A2 a0.xbytes.length c2, .int .i64 a0.xbegin, .int .i64 a0.xn, .int .u32 a0.xlast, .bool a0.xkept] 50, .own A2 a0.xbytes.length c2 (rowOf (encI .u8) a0.xbytes) 1 5, .blk g3 [.pointer (some ⟨g1, 0, none⟩)] 25]) (by kernel_rfl) ?_
      refine o_run 1 [1, 2, 5] (l := []) .nil (E' := [(1, .int .i64 a1), (2, .pointer (some ⟨g3, 0, none⟩)), (5, .slice A3 t2.length c3)]) (by kernel_rfl) ?_
      refine o_end (by kernel_rfl) ?_
      refine e_seq ?_
      refine w_seq 30 31 (by kernel_rfl) ?_
      refine w_region (by kernel_rfl) ?_
      refine o_run 1 [1, 2, 5, 21] (l := []) .nil (E' := [(1, .int .i64 a1), (2, .pointer (some ⟨g3, 0, none⟩)), (5, .slice A3 t2.length c3), (21, .slice A3 t2.length c3)]) (by kernel_rfl) ?_
      obtain ⟨t3, hx3, hm⟩ := bind_some hm
      refine o_stp ?_ (by kernel_rfl)
      refine s_call 22 36 #[.slice A3 t2.length c3] [0] [1, 2, 3, 4] (by kernel_rfl) (by kernel_rfl) (fun w hs => slices_Reverse_api_Block_ok k t2 t3 hx3 B _ A3 c3 w (St.cast (by kernel_rfl) hs)) (fun _ hx => ?_)
      have hn1 := hx
      refine t_L (L' := [.own A3 t2.length c3 (rowOf encT_api_Block t3) 2 57, .blk g2 [.bool a0.xBoard.xmade, .int .u32 a0.xBoard.xfirst, .slice A1 a0.xBoard.xruns.length c1] 76, .blk g1 [.pointer (some ⟨g2, 0, none⟩), .slice A2 a0.xbytes.length c2, .int .i64 a0.xbegin, .int .i64 a0.xn, .int .u32 a0.xlast, .bool a0.xkept] 50, .own A2 a0.xbytes.length c2 (rowOf (encI .u8) a0.xbytes) 1 5, .blk g3 [.pointer (some ⟨g1, 0, none⟩)] 25]) (by kernel_rfl) ?_
      refine o_end (by kernel_rfl) ?_
      refine e_seq ?_
      refine w_seq 62 63 (by kernel_rfl) ?_
      refine w_region (by kernel_rfl) ?_
      refine o_run 2 [1, 5, 6] (l := []) .nil (E' := [(1, .int .i64 a1), (5, .slice A3 t2.length c3), (6, .func (.func 37) #[] #[.pointer (some ⟨g3, 0, none⟩)])]) (by kernel_rfl) ?_
      refine o_end (by kernel_rfl) ?_
      refine e_seq ?_
      refine w_seq 126 127 (by kernel_rfl) ?_
      refine w_seq 252 253 (by kernel_rfl) ?_
      refine w_region (by kernel_rfl) ?_
      refine o_run 2 [1, 5, 24, 25] (l := []) .nil (E' := [(1, .int .i64 a1), (5, .slice A3 t2.length c3), (24, .slice A3 t2.length c3), (25, .func (.func 37) #[] #[.pointer (some ⟨g3, 0, none⟩)])]) (by kernel_rfl) ?_
      refine t_env [1, 5, 24, 25] (E' := [(1, .int .i64 a1), (5, .slice A3 t2.length c3), (24, .slice A3 t2.length c3), (25, .func (.func 37) #[] #[.pointer (some ⟨g3, 0, none⟩)])]) (by kernel_rfl) ?_
      refine t_EL (E' := [(1, .int .i64 a1), (5, .slice A3 t3.length c3), (24, .slice A3 t3.length c3), (25, .func (.func 37) #[] #[.pointer (some ⟨g3, 0, none⟩)])]) (L' := [.own A3 t3.length c3 (rowOf encT_api_Block t3) 2 57, .blk g2 [.bool a0.xBoard.xmade, .int .u32 a0.xBoard.xfirst, .slice A1 a0.xBoard.xruns.length c1] 76, .blk g1 [.pointer (some ⟨g2, 0, none⟩), .slice A2 a0.xbytes.length c2, .int .i64 a0.xbegin, .int .i64 a0.xn, .int .u32 a0.xlast, .bool a0.xkept] 50, .own A2 a0.xbytes.length c2 (rowOf (encI .u8) a0.xbytes) 1 5, .blk g3 [.pointer (some ⟨g1, 0, none⟩)] 25]) (eq_of_len hn1 (fun n => ([(1, .int .i64 a1), (5, .slice A3 n c3), (24, .slice A3 n c3), (25, .func (.func 37) #[] #[.pointer (some ⟨g3, 0, none⟩)])], [.own A3 n c3 (rowOf encT_api_Block t3) 2 57, .blk g2 [.bool a0.xBoard.xmade, .int .u32 a0.xBoard.xfirst, .slice A1 a0.xBoard.xruns.length c1] 76, .blk g1 [.pointer (some ⟨g2, 0, none⟩), .slice A2 a0.xbytes.length c2, .int .i64 a0.xbegin, .int .i64 a0.xn, .int .u32 a0.xlast, .bool a0.xkept] 50, .own A2 a0.xbytes.length c2 (rowOf (encI .u8) a0.xbytes) 1 5, .blk g3 [.pointer (some ⟨g1, 0, none⟩)] 25])) rfl rfl) ?_
      obtain ⟨t4, hx4, hm⟩ := bind_some hm
      refine o_stp ?_ (by kernel_rfl)
      refine s_call 26 39 #[.slice A3 t3.length c3, .func (.func 37) #[] #[.pointer (some ⟨g3, 0, none⟩)]] [0, 4, 2, 1, 3] [] (by kernel_rfl) (by kernel_rfl) (fun w hs => slices_IndexFunc_api_Block_ok k t3 a0 t4 hx4 B _ A3 c3 g3 g1 g2 A1 c1 A2 c2 hs1 w (St.cast (by kernel_rfl) hs)) (fun _ hx => ?_)
      refine t_L (L' := [.own A3 t3.length c3 (rowOf encT_api_Block t3) 2 57, .blk g3 [.pointer (some ⟨g1, 0, none⟩)] 25, .blk g1 [.pointer (some ⟨g2, 0, none⟩), .slice A2 a0.xbytes.length c2, .int .i64 a0.xbegin, .int .i64 a0.xn, .int .u32 a0.xlast, .bool a0.xkept] 50, .blk g2 [.bool a0.xBoard.xmade, .int .u32 a0.xBoard.xfirst, .slice A1 a0.xBoard.xruns.length c1] 76, .own A2 a0.xbytes.length c2 (rowOf (encI .u8) a0.xbytes) 1 5]) (by kernel_rfl) ?_
      refine o_run 1 [1, 5, 7] (l := []) .nil (E' := [(1, .int .i64 a1), (5, .slice A3 t3.length c3), (7, .int .i64 t4)]) (by kernel_rfl) ?_
      refine o_end (by kernel_rfl) ?_
      refine e_seq ?_
      refine w_seq 506 507 (by kernel_rfl) ?_
      refine w_region (by kernel_rfl) ?_
      refine o_run 2 [1, 5, 7, 28] (l := []) .nil (E' := [(1, .int .i64 a1), (5, .slice A3 t3.length c3), (7, .int .i64 t4), (28, .bool (decide (t4 > 0)))]) (by kernel_rfl) ?_
      refine o_end (by kernel_rfl) ?_
      refine e_seq ?_
      refine w_cond (.tmp 28) 1014 1015 (decide (t4 > 0)) (by kernel_rfl) (by kernel_rfl) (fun hb3 => ?_) (fun hb3 => ?_)
      · replace hm := ite_t hb3 hm
        refine w_seq 2028 2029 (by kernel_rfl) ?_
        refine w_region (by kernel_rfl) ?_
        refine o_run 2 [1, 5, 7, 29, 30] (l := []) .nil (E' := [(1, .int .i64 a1), (5, .slice A3 t3.length c3), (7, .int .i64 t4), (29, .slice A3 t3.length c3), (30, .int .i64 t4)]) (by kernel_rfl) ?_
        obtain ⟨e1, hx5, hm⟩ := bind_some hm
        obtain ⟨hi1, hi2, hg1⟩ := idx_some hx5
        refine o_val 31 (.indexAddr 46 (.tmp 29) (.tmp 30)) (.pointer (some (adr A3 (Int.toNat t4 * 2)))) (by kernel_rfl) (v_index (k := .i64) (c := c3) (by kernel_rfl) (by kernel_rfl) (by kernel_rfl) hi1 hi2 (own_some (j := 0) rfl hi2 hi1)) ?_
        refine o_run 1 [1, 5, 7, 32] (l := [((adr A3 (Int.toNat t4 * 2)), .int .u32 e1.xLeft), (((adr A3 (Int.toNat t4 * 2)).add 1), .int .u32 e1.xRight)]) (.one ((At.sub (l := encT_api_Block e1) 0 (at_own (j := 0) (off := Int.toNat t4 * 2) rfl (row_at (enc := encT_api_Block) (sz := 2) (fun _ => rfl) hg1)) rfl)) (.one ((At.sub (l := encT_api_Block e1) 1 (at_own (j := 0) (off := Int.toNat t4 * 2) rfl (row_at (enc := encT_api_Block) (sz := 2) (fun _ => rfl) hg1)) rfl)) .nil)) (E' := [(1, .int .i64 a1), (5, .slice A3 t3.length c3), (7, .int .i64 t4), (32, .agg #[.int .u32 e1.xLeft, .int .u32 e1.xRight])]) (by kernel_rfl) ?_
        refine o_stp ?_ (by kernel_rfl)
        refine s_new 8 (fun g4 => .pointer (some ⟨g4, 0, none⟩)) [.int .u32 0, .int .u32 0] 57 (fun _ => by kernel_rfl) (fun g4 => ?_)
        refine o_stp ?_ (by kernel_rfl)
        refine s_store 0 g4 [.int .u32 0, .int .u32 0] 57 [(0, .int .u32 e1.xLeft), (1, .int .u32 e1.xRight)] (by kernel_rfl) (by kernel_rfl) (by kernel_rfl) ?_
        refine t_L (L' := [.blk g4 [.int .u32 e1.xLeft, .int .u32 e1.xRight] 57, .own A3 t3.length c3 (rowOf encT_api_Block t3) 2 57, .blk g3 [.pointer (some ⟨g1, 0, none⟩)] 25, .blk g1 [.pointer (some ⟨g2, 0, none⟩), .slice A2 a0.xbytes.length c2, .int .i64 a0.xbegin, .int .i64 a0.xn, .int .u32 a0.xlast, .bool a0.xkept] 50, .blk g2 [.bool a0.xBoard.xmade, .int .u32 a0.xBoard.xfirst, .slice A1 a0.xBoard.xruns.length c1] 76, .own A2 a0.xbytes.length c2 (rowOf (encI .u8) a0.xbytes) 1 5]) (by kernel_rfl) ?_
        refine o_end (by kernel_rfl) ?_
        refine e_seq ?_
        obtain ⟨t5, hx6, hm⟩ := bind_some hm
        obtain ⟨t6, hx7, hm⟩ := bind_some hm
        refine w_joinJ (fun a w => ∃ (A6 : Option Addr) (c6 : Nat) (A7 : Option Addr) (c7 : Nat), EnvOk [(1, .int .i64 a1), (5, .slice A6 t6.length c6)] Try.f23.ntmps a ∧ St B G [.own A6 t6.length c6 (rowOf encT_api_Block t6) 2 57, .own A7 ([e1].length) c7 (rowOf encT_api_Block [e1]) 2 57, .blk g4 [.int .u32 e1.xLeft, .int .u32 e1.xRight] 57, .blk g3 [.pointer (some ⟨g1, 0, none⟩)] 25, .blk g1 [.pointer (some ⟨g2, 0, none⟩), .slice A2 a0.xbytes.length c2, .int .i64 a0.xbegin, .int .i64 a0.xn, .int .u32 a0.xlast, .bool a0.xkept] 50, .blk g2 [.bool a0.xBoard.xmade, .int .u32 a0.xBoard.xfirst, .slice A1 a0.xBoard.xruns.length c1] 76, .own A2 a0.xbytes.length c2 (rowOf (encI .u8) a0.xbytes) 1 5] w) ?_ ?_
        · rintro a w ⟨A6, c6, A7, c7, ha, hw⟩
          refine we_of (E := [(1, .int .i64 a1), (5, .slice A6 t6.length c6)]) (B := B) (G := G) (L := [.own A6 t6.length c6 (rowOf encT_api_Block t6) 2 57, .own A7 ([e1].length) c7 (rowOf encT_api_Block [e1]) 2 57, .blk g4 [.int .u32 e1.xLeft, .int .u32 e1.xRight] 57, .blk g3 [.pointer (some ⟨g1, 0, none⟩)] 25, .blk g1 [.pointer (some ⟨g2, 0, none⟩), .slice A2 a0.xbytes.length c2, .int .i64 a0.xbegin, .int .i64 a0.xn, .int .u32 a0.xlast, .bool a0.xkept] 50, .blk g2 [.bool a0.xBoard.xmade, .int .u32 a0.xBoard.xfirst, .slice A1 a0.xBoard.xruns.length c1] 76, .own A2 a0.xbytes.length c2 (rowOf (encI .u8) a0.xbytes) 1 5]) ?_ ha hw
          refine e_seq ?_
          refine w_seq 254 255 (by kernel_rfl) ?_
          refine w_region (by kernel_rfl) ?_
          refine o_run 5 [41, 45] (l := []) .nil (E' := [(41, .slice A6 t6.length c6), (45, .int .i64 (imin a1 (t6.length : Int)))]) (by kernel_rfl) ?_
          refine t_frozS kT_api_Block rfl rfl (fun B1 hx8 hs2 => ?_)
          obtain ⟨l1, hx9, hm⟩ := bind_some hm
          refine o_val 46 (.slice 46 (.tmp 41) none (some (.tmp 45)) none) (.slice (cutA A6 (Int.toNat 0) c6 2) l1.length (c6 - Int.toNat 0)) (by kernel_rfl) (i_slice 46 (.tmp 41) none (some (.tmp 45)) hs2 hx9 (by kernel_rfl) (by kernel_rfl) (by kernel_rfl) (by kernel_rfl)) ?_
          have hs3 := sl_cut hs2 hx9
          refine o_run 1 [4] (l := []) .nil (E' := [(4, .slice (cutA A6 (Int.toNat 0) c6 2) l1.length (c6 - Int.toNat 0))]) (by kernel_rfl) ?_
          refine o_end (by kernel_rfl) ?_
          refine e_seq ?_
          refine w_ret (by kernel_rfl) ?_
          obtain rfl := Option.some.inj hm
          exact e_retP (B1, (cutA A6 (Int.toNat 0) c6 2), (c6 - Int.toNat 0)) (.slice (cutA A6 (Int.toNat 0) c6 2) l1.length (c6 - Int.toNat 0)) [3, 4, 5] (by kernel_rfl) (by kernel_rfl) rfl (by kernel_rfl) (by kernel_rfl) ⟨hx8, hs3⟩
        · refine w_tail 7 [.blk g4 [.int .u32 e1.xLeft, .int .u32 e1.xRight] 57, .blk g3 [.pointer (some ⟨g1, 0, none⟩)] 25, .blk g1 [.pointer (some ⟨g2, 0, none⟩), .slice A2 a0.xbytes.length c2, .int .i64 a0.xbegin, .int .i64 a0.xn, .int .u32 a0.xlast, .bool a0.xkept] 50, .blk g2 [.bool a0.xBoard.xmade, .int .u32 a0.xBoard.xfirst, .slice A1 a0.xBoard.xruns.length c1] 76, .own A2 a0.xbytes.length c2 (rowOf (encI .u8) a0.xbytes) 1 5] (by kernel_rfl) mixed (by kernel_rfl) ?_
          refine tt_run [0, 1, 2, 3, 5] [1, 5, 33, 34, 36, 38] [0, 2, 3, 4, 5] 2 (listed' := #[true, true, true, true, false, true, false, false, false]) (l := [(⟨g4, 0, none⟩, .int .u32 e1.xLeft), (⟨g4, 1, none⟩, .int .u32 e1.xRight)]) (.one (at_blk (j := 0) rfl rfl) (.one (at_blk (j := 0) rfl rfl) .nil)) (E' := [(1, .int .i64 a1), (5, .slice A3 t3.length c3), (33, .slice A3 t3.length c3), (34, .int .i64 t4), (36, .int .i64 (I64 (t4 + 1))), (38, .agg #[.int .u32 e1.xLeft, .int .u32 e1.xRight])]) (by kernel_rfl) (by kernel_rfl) (by kernel_rfl) (Ext.refl _) (by kernel_rfl) (by kernel_rfl) ?_
          refine tt_all [4, 6] [0, 2, 3, 4, 5] (Ext.refl _) (by kernel_rfl) (by kernel_rfl) (by kernel_rfl) (by kernel_rfl) ⟨?_, ?_, trivial⟩
          · refine s_call 37 41 #[.slice A3 t3.length c3, .int .i64 t4, .int .i64 (I64 (t4 + 1))] [1] [0, 2, 3, 4, 5] (by kernel_rfl) (by kernel_rfl) (fun w hs => slices_Delete_api_Block_ok t3 t4 (I64 (t4 + 1)) t5 hx6 B _ A3 c3 w (St.cast (by kernel_rfl) hs)) (fun x hx => ?_)
            obtain ⟨A8, c8⟩ := x
            refine t_L (L' := [.own A8 t5.length c8 (rowOf encT_api_Block t5) 2 57, .blk g4 [.int .u32 e1.xLeft, .int .u32 e1.xRight] 57, .blk g3 [.pointer (some ⟨g1, 0, none⟩)] 25, .blk g1 [.pointer (some ⟨g2, 0, none⟩), .slice A2 a0.xbytes.length c2, .int .i64 a0.xbegin, .int .i64 a0.xn, .int .u32 a0.xlast, .bool a0.xkept] 50, .blk g2 [.bool a0.xBoard.xmade, .int .u32 a0.xBoard.xfirst, .slice A1 a0.xBoard.xruns.length c1] 76, .own A2 a0.xbytes.length c2 (rowOf (encI .u8) a0.xbytes) 1 5]) (by kernel_rfl) ?_
            refine tt_stp 6 [1, 2, 3, 4, 5] (Ext.refl _) (by kernel_rfl) (by kernel_rfl) (by kernel_rfl) (by kernel_rfl) ?_
            refine s_new 39 (fun g6 => .slice (some ⟨g6, 0, none⟩) 1 1) [.int .u32 e1.xLeft, .int .u32 e1.xRight] 57 (fun _ => by kernel_rfl) (fun g6 => ?_)
            refine tt_end [2, 3, 4, 5, 6] (Ext.refl _) (by kernel_rfl) (by kernel_rfl) (by kernel_rfl) ?_
            refine t_blk_own (m := 1) (sz := 2) (by rfl) (by rfl) ?_
            refine t_L (L' := [.own (some ⟨g6, 0, none⟩) ([e1].length) 1 (rowOf encT_api_Block [e1]) 2 57, .own A8 t5.length c8 (rowOf encT_api_Block t5) 2 57, .blk g4 [.int .u32 e1.xLeft, .int .u32 e1.xRight] 57, .blk g3 [.pointer (some ⟨g1, 0, none⟩)] 25, .blk g1 [.pointer (some ⟨g2, 0, none⟩), .slice A2 a0.xbytes.length c2, .int .i64 a0.xbegin, .int .i64 a0.xn, .int .u32 a0.xlast, .bool a0.xkept] 50, .blk g2 [.bool a0.xBoard.xmade, .int .u32 a0.xBoard.xfirst, .slice A1 a0.xBoard.xruns.length c1] 76, .own A2 a0.xbytes.length c2 (rowOf (encI .u8) a0.xbytes) 1 5]) (by kernel_rfl) ?_
            refine o_stp ?_ (by kernel_rfl)
            refine s_call 40 40 #[.slice A8 t5.length c8, .int .i64 0, .slice (some ⟨g6, 0, none⟩) ([e1].length) 1] [1, 0] [2, 3, 4, 5, 6] (by kernel_rfl) (by kernel_rfl) (fun w hs => slices_Insert_api_Block_ok t5 0 [e1] t6 hx7 B _ A8 c8 (some ⟨g6, 0, none⟩) 1 w (St.cast (by kernel_rfl) hs)) (fun x hx => ?_)
            obtain ⟨A9, c9⟩ := x
            refine t_L (L' := [.own A9 t6.length c9 (rowOf encT_api_Block t6) 2 57, .own (some ⟨g6, 0, none⟩) ([e1].length) 1 (rowOf encT_api_Block [e1]) 2 57, .blk g4 [.int .u32 e1.xLeft, .int .u32 e1.xRight] 57, .blk g3 [.pointer (some ⟨g1, 0, none⟩)] 25, .blk g1 [.pointer (some ⟨g2, 0, none⟩), .slice A2 a0.xbytes.length c2, .int .i64 a0.xbegin, .int .i64 a0.xn, .int .u32 a0.xlast, .bool a0.xkept] 50, .blk g2 [.bool a0.xBoard.xmade, .int .u32 a0.xBoard.xfirst, .slice A1 a0.xBoard.xruns.length c1] 76, .own A2 a0.xbytes.length c2 (rowOf (encI .u8) a0.xbytes) 1 5]) (by kernel_rfl) ?_
            refine o_run 1 [1, 5] (l := []) .nil (E' := [(1, .int .i64 a1), (5, .slice A9 t6.length c9)]) (by kernel_rfl) ?_
            refine o_end (by kernel_rfl) ?_
            refine t_drop [0, 1, 2, 3, 4, 5, 6] (by kernel_rfl) ?_
            refine t_L (L' := [.own A9 t6.length c9 (rowOf encT_api_Block t6) 2 57, .own (some ⟨g6, 0, none⟩) ([e1].length) 1 (rowOf encT_api_Block [e1]) 2 57, .blk g4 [.int .u32 e1.xLeft, .int .u32 e1.xRight] 57, .blk g3 [.pointer (some ⟨g1, 0, none⟩)] 25, .blk g1 [.pointer (some ⟨g2, 0, none⟩), .slice A2 a0.xbytes.length c2, .int .i64 a0.xbegin, .int .i64 a0.xn, .int .u32 a0.xlast, .bool a0.xkept] 50, .blk g2 [.bool a0.xBoard.xmade, .int .u32 a0.xBoard.xfirst, .slice A1 a0.xBoard.xruns.length c1] 76, .own A2 a0.xbytes.length c2 (rowOf (encI .u8) a0.xbytes) 1 5]) (by kernel_rfl) ?_
            refine t_env [1, 5] (E' := [(1, .int .i64 a1), (5, .slice A9 t6.length c9)]) (by kernel_rfl) ?_
            exact e_inv (fun a w ha hw => ⟨A9, c9, (some ⟨g6, 0, none⟩), 1, ha, hw⟩)
          · refine s_new 39 (fun g7 => .slice (some ⟨g7, 0, none⟩) 1 1) [.int .u32 e1.xLeft, .int .u32 e1.xRight] 57 (fun _ => by kernel_rfl) (fun g7 => ?_)
            refine tt_stp 4 [1, 3, 4, 5, 6] (Ext.refl _) (by kernel_rfl) (by kernel_rfl) (by kernel_rfl) (by kernel_rfl) ?_
            refine s_call 37 41 #[.slice A3 t3.length c3, .int .i64 t4, .int .i64 (I64 (t4 + 1))] [2] [0, 1, 3, 4, 5, 6] (by kernel_rfl) (by kernel_rfl) (fun w hs => slices_Delete_api_Block_ok t3 t4 (I64 (t4 + 1)) t5 hx6 B _ A3 c3 w (St.cast (by kernel_rfl) hs)) (fun x hx => ?_)
            obtain ⟨A10, c10⟩ := x
            refine t_L (L' := [.own A10 t5.length c10 (rowOf encT_api_Block t5) 2 57, .blk g7 [.int .u32 e1.xLeft, .int .u32 e1.xRight] 57, .blk g4 [.int .u32 e1.xLeft, .int .u32 e1.xRight] 57, .blk g3 [.pointer (some ⟨g1, 0, none⟩)] 25, .blk g1 [.pointer (some ⟨g2, 0, none⟩), .slice A2 a0.xbytes.length c2, .int .i64 a0.xbegin, .int .i64 a0.xn, .int .u32 a0.xlast, .bool a0.xkept] 50, .blk g2 [.bool a0.xBoard.xmade, .int .u32 a0.xBoard.xfirst, .slice A1 a0.xBoard.xruns.length c1] 76, .own A2 a0.xbytes.length c2 (rowOf (encI .u8) a0.xbytes) 1 5]) (by kernel_rfl) ?_
            refine tt_end [2, 3, 4, 5, 6] (Ext.refl _) (by kernel_rfl) (by kernel_rfl) (by kernel_rfl) ?_
            refine t_drop [1, 0, 2, 3, 4, 5, 6] (by kernel_rfl) ?_
            refine t_L (L' := [.blk g7 [.int .u32 e1.xLeft, .int .u32 e1.xRight] 57, .own A10 t5.length c10 (rowOf encT_api_Block t5) 2 57, .blk g4 [.int .u32 e1.xLeft, .int .u32 e1.xRight] 57, .blk g3 [.pointer (some ⟨g1, 0, none⟩)] 25, .blk g1 [.pointer (some ⟨g2, 0, none⟩), .slice A2 a0.xbytes.length c2, .int .i64 a0.xbegin, .int .i64 a0.xn, .int .u32 a0.xlast, .bool a0.xkept] 50, .blk g2 [.bool a0.xBoard.xmade, .int .u32 a0.xBoard.xfirst, .slice A1 a0.xBoard.xruns.length c1] 76, .own A2 a0.xbytes.length c2 (rowOf (encI .u8) a0.xbytes) 1 5]) (by kernel_rfl) ?_
            refine t_blk_own (m := 1) (sz := 2) (by rfl) (by rfl) ?_
            refine t_L (L' := [.own (some ⟨g7, 0, none⟩) ([e1].length) 1 (rowOf encT_api_Block [e1]) 2 57, .own A10 t5.length c10 (rowOf encT_api_Block t5) 2 57, .blk g4 [.int .u32 e1.xLeft, .int .u32 e1.xRight] 57, .blk g3 [.pointer (some ⟨g1, 0, none⟩)] 25, .blk g1 [.pointer (some ⟨g2, 0, none⟩), .slice A2 a0.xbytes.length c2, .int .i64 a0.xbegin, .int .i64 a0.xn, .int .u32 a0.xlast, .bool a0.xkept] 50, .blk g2 [.bool a0.xBoard.xmade, .int .u32 a0.xBoard.xfirst, .slice A1 a0.xBoard.xruns.length c1] 76, .own A2 a0.xbytes.length c2 (rowOf (encI .u8) a0.xbytes) 1 5]) (by kernel_rfl) ?_
            refine o_stp ?_ (by kernel_rfl)
            refine s_call 40 40 #[.slice A10 t5.length c10, .int .i64 0, .slice (some ⟨g7, 0, none⟩) ([e1].length) 1] [1, 0] [2, 3, 4, 5, 6] (by kernel_rfl) (by kernel_rfl) (fun w hs => slices_Insert_api_Block_ok t5 0 [e1] t6 hx7 B _ A10 c10 (some ⟨g7, 0, none⟩) 1 w (St.cast (by kernel_rfl) hs)) (fun x hx => ?_)
            obtain ⟨A11, c11⟩ := x
            refine t_L (L' := [.own A11 t6.length c11 (rowOf encT_api_Block t6) 2 57, .own (some ⟨g7, 0, none⟩) ([e1].length) 1 (rowOf encT_api_Block [e1]) 2 57, .blk g4 [.int .u32 e1.xLeft, .int .u32 e1.xRight] 57, .blk g3 [.pointer (some ⟨g1, 0, none⟩)] 25, .blk g1 [.pointer (some ⟨g2, 0, none⟩), .slice A2 a0.xbytes.length c2, .int .i64 a0.xbegin, .int .i64 a0.xn, .int .u32 a0.xlast, .bool a0.xkept] 50, .blk g2 [.bool a0.xBoard.xmade, .int .u32 a0.xBoard.xfirst, .slice A1 a0.xBoard.xruns.length c1] 76, .own A2 a0.xbytes.length c2 (rowOf (encI .u8) a0.xbytes) 1 5]) (by kernel_rfl) ?_
            refine o_run 1 [1, 5] (l := []) .nil (E' := [(1, .int .i64 a1), (5, .slice A11 t6.length c11)]) (by kernel_rfl) ?_
            refine o_end (by kernel_rfl) ?_
            refine t_drop [0, 1, 2, 3, 4, 5, 6] (by kernel_rfl) ?_
            refine t_L (L' := [.own A11 t6.length c11 (rowOf encT_api_Block t6) 2 57, .own (some ⟨g7, 0, none⟩) ([e1].length) 1 (rowOf encT_api_Block [e1]) 2 57, .blk g4 [.int .u32 e1.xLeft, .int .u32 e1.xRight] 57, .blk g3 [.pointer (some ⟨g1, 0, none⟩)] 25, .blk g1 [.pointer (some ⟨g2, 0, none⟩), .slice A2 a0.xbytes.length c2, .int .i64 a0.xbegin, .int .i64 a0.xn, .int .u32 a0.xlast, .bool a0.xkept] 50, .blk g2 [.bool a0.xBoard.xmade, .int .u32 a0.xBoard.xfirst, .slice A1 a0.xBoard.xruns.length c1] 76, .own A2 a0.xbytes.length c2 (rowOf (encI .u8) a0.xbytes) 1 5]) (by kernel_rfl) ?_
            refine t_env [1, 5] (E' := [(1, .int .i64 a1), (5, .slice A11 t6.length c11)]) (by kernel_rfl) ?_
            exact e_inv (fun a w ha hw => ⟨A11, c11, (some ⟨g7, 0, none⟩), 1, ha, hw⟩)
      · replace hm := ite_f hb3 hm
        refine w_skip (by kernel_rfl) ?_
        refine e_seq ?_
        refine w_seq 254 255 (by kernel_rfl) ?_
        refine w_region (by kernel_rfl) ?_
        refine o_run 5 [41, 45] (l := []) .nil (E' := [(41, .slice A3 t3.length c3), (45, .int .i64 (imin a1 (t3.length : Int)))]) (by kernel_rfl) ?_
        refine t_frozS kT_api_Block rfl rfl (fun B2 hx10 hs4 => ?_)
        obtain ⟨l2, hx11, hm⟩ := bind_some hm
        refine o_val 46 (.slice 46 (.tmp 41) none (some (.tmp 45)) none) (.slice (cutA A3 (Int.toNat 0) c3 2) l2.length (c3 - Int.toNat 0)) (by kernel_rfl) (i_slice 46 (.tmp 41) none (some (.tmp 45)) hs4 hx11 (by kernel_rfl) (by kernel_rfl) (by kernel_rfl) (by kernel_rfl)) ?_
        have hs5 := sl_cut hs4 hx11
        refine o_run 1 [4] (l := []) .nil (E' := [(4, .slice (cutA A3 (Int.toNat 0) c3 2) l2.length (c3 - Int.toNat 0))]) (by kernel_rfl) ?_
        refine o_end (by kernel_rfl) ?_
        refine e_seq ?_
        refine w_ret (by kernel_rfl) ?_
        obtain rfl := Option.some.inj hm
        exact e_retP (B2, (cutA A3 (Int.toNat 0) c3 2), (c3 - Int.toNat 0)) (.slice (cutA A3 (Int.toNat 0) c3 2) l2.length (c3 - Int.toNat 0)) [1, 2, 3] (by kernel_rfl) (by kernel_rfl) rfl (by kernel_rfl) (by kernel_rfl) ⟨hx10, hs5⟩
def downhaulref26_Buffer_Blocks.l3 : Nat → (List T_api_Block) → Int → (List T_api_Block) → Option ((List T_api_Block))
  | 0, _, _, _ => none
  | k + 1, t1, p5, p6 => (if decide (p5 < ((t1).length : Int)) then (if (p6.length : Int) == 0 then ((idx t1 p5).bind fun e1 => ((app p6 [e1]).bind fun l2 => (downhaulref26_Buffer_Blocks.l3 k t1 (I64 (p5 + 1)) l2))) else ((idx t1 p5).bind fun e2 => ((idx p6 0).bind fun e3 => (if !((e2.xLeft == e3.xLeft) && (e2.xRight == e3.xRight)) then ((idx t1 p5).bind fun e4 => ((app p6 [e4]).bind fun l3 => (downhaulref26_Buffer_Blocks.l3 k t1 (I64 (p5 + 1)) l3))) else (downhaulref26_Buffer_Blocks.l3 k t1 (I64 (p5 + 1)) p6))))) else (some p6))
def downhaulref26_Buffer_Blocks.l2 : Nat → T_downhaulref26_Buffer → (List T_api_Block) → Int → (List T_api_Block) → Option ((List T_api_Block))
  | 0, _, _, _, _ => none
  | k + 1, a0, t1, p3, p4 => (if decide (p3 < ((t1).length : Int)) then (if a0.xHas then ((idx t1 p3).bind fun e5 => ((idx t1 p3).bind fun e6 => ((idx t1 p3).bind fun e7 => (if decide ((U32 (a0.xLast - e5.xLeft)) < (U32 (e6.xRight - e7.xLeft))) then ((idx t1 p3).bind fun e8 => ((app p4 [e8]).bind fun l4 => (downhaulref26_Buffer_Blocks.l2 k a0 t1 (I64 (p3 + 1)) l4))) else (downhaulref26_Buffer_Blocks.l2 k a0 t1 (I64 (p3 + 1)) p4))))) else (downhaulref26_Buffer_Blocks.l2 k a0 t1 (I64 (p3 + 1)) p4)) else (some p4))
def downhaulref26_Buffer_Blocks.l1 : Nat → T_downhaulref26_Buffer → Int → (List T_api_Block) → Option ((List T_api_Block))
  | 0, _, _, _ => none
  | k + 1, a0, p1, p2 => (if decide (p1 ≥ 0) then ((idx a0.xCame p1).bind fun e9 => (if !e9 then (downhaulref26_Buffer_Blocks.l1 k a0 (I64 (p1 - 1)) p2) else (if decide ((p2.length : Int) > 0) then ((idx p2 (I64 ((p2.length : Int) - 1))).bind fun e10 => (if e10.xLeft == (U32 ((U32 (a0.xNext + (U32 p1))) + 1)) then ((idx p2 (I64 ((p2.length : Int) - 1))).bind fun e11 => (downhaulref26_Buffer_Blocks.l1 k a0 (I64 (p1 - 1)) (p2.set (Int.toNat (I64 ((p2.length : Int) - 1))) (⟨U32 (a0.xNext + (U32 p1)), e11.xRight⟩ : T_api_Block)))) else ((app p2 [(⟨U32 (a0.xNext + (U32 p1)), U32 ((U32 (a0.xNext + (U32 p1))) + 1)⟩ : T_api_Block)]).bind fun l5 => (downhaulref26_Buffer_Blocks.l1 k a0 (I64 (p1 - 1)) l5)))) else ((app p2 [(⟨U32 (a0.xNext + (U32 p1)), U32 ((U32 (a0.xNext + (U32 p1))) + 1)⟩ : T_api_Block)]).bind fun l6 => (downhaulref26_Buffer_Blocks.l1 k a0 (I64 (p1 - 1)) l6))))) else (some p2))
def downhaulref26_Buffer_Blocks.f (k : Nat) (a0 : T_downhaulref26_Buffer) (a1 : Int) : Option ((List T_api_Block)) :=
  ((downhaulref26_Buffer_Blocks.l1 k a0 a0.xRoom ([] : List T_api_Block)).bind fun t1 => ((downhaulref26_Buffer_Blocks.l2 k a0 t1 0 ([] : List T_api_Block)).bind fun t2 => ((downhaulref26_Buffer_Blocks.l3 k t1 0 t2).bind fun t3 => ((cut t3 0 (imin (imax a1 0) ((t3).length : Int))).bind fun l1 => (some l1)))))
theorem downhaulref26_Buffer_Blocks_ok (k : Nat) (a0 : T_downhaulref26_Buffer) (a1 : Int) (r : (List T_api_Block)) (hm : downhaulref26_Buffer_Blocks.f k a0 a1 = some r) (B G : Asn) (g1 : Nat) (A1 : Option Addr) (c1 : Nat) (A2 : Option Addr) (c2 : Nat) (A3 : Option Addr) (c3 : Nat) (hs1 : Sl (kI .u8) B A1 c1 a0.xIn) (w : World) (hs : St B G [.blk g1 [.int .i64 a0.xRoom, .int .u32 a0.xNext, .slice A1 a0.xIn.length c1, .slice A2 a0.xCame.length c2, .slice A3 a0.xOut.length c3, .int .u32 a0.xLast, .bool a0.xHas] 42, .own A2 a0.xCame.length c2 (rowOf encB a0.xCame) 1 4, .own A3 a0.xOut.length c3 (rowOf (encI .u8) a0.xOut) 1 5] w) :
    Calls Try.prog 24 #[.pointer (some ⟨g1, 0, none⟩), .int .i64 a1] w (Post (X := Asn × (Option Addr) × Nat) (fun x => .slice x.2.1 r.length x.2.2) (fun x => x.1) G (fun x => [.blk g1 [.int .i64 a0.xRoom, .int .u32 a0.xNext, .slice A1 a0.xIn.length c1, .slice A2 a0.xCame.length c2, .slice A3 a0.xOut.length c3, .int .u32 a0.xLast, .bool a0.xHas] 42, .own A2 a0.xCame.length c2 (rowOf encB a0.xCame) 1 4, .own A3 a0.xOut.length c3 (rowOf (encI .u8) a0.xOut) 1 5]) (fun x => (Ext B x.1) ∧ (Sl kT_api_Block x.1 x.2.1 x.2.2 r))) := by
  unfold downhaulref26_Buffer_Blocks.f at hm
  refine calls_W (F := Try.f24) Try.func24 rfl (by kernel_rfl) (L := [.blk g1 [.int .i64 a0.xRoom, .int .u32 a0.xNext, .slice A1 a0.xIn.length c1, .slice A2 a0.xCame.length c2, .slice A3 a0.xOut.length c3, .int .u32 a0.xLast, .bool a0.xHas] 42, .own A2 a0.xCame.length c2 (rowOf encB a0.xCame) 1 4, .own A3 a0.xOut.length c3 (rowOf (encI .u8) a0.xOut) 1 5]) ?_ hs
  refine w_seq 2 3 (by kernel_rfl) ?_
  refine w_region (by kernel_rfl) ?_
  refine o_run 1 [0, 1] (l := []) .nil (E' := [(0, .pointer (some ⟨g1, 0, none⟩)), (1, .int .i64 a1)]) (by kernel_rfl) ?_
  refine o_end (by kernel_rfl) ?_
  refine e_seq ?_
  refine w_seq 6 7 (by kernel_rfl) ?_
  refine w_region (by kernel_rfl) ?_
  refine o_run 1 [0, 1, 5] (l := []) .nil (E' := [(0, .pointer (some ⟨g1, 0, none⟩)), (1, .int .i64 a1), (5, .slice none 0 0)]) (by kernel_rfl) ?_
  refine o_end (by kernel_rfl) ?_
  refine e_seq ?_
  refine w_seq 14 15 (by kernel_rfl) ?_
  refine w_seq 28 29 (by kernel_rfl) ?_
  refine w_region (by kernel_rfl) ?_
  refine o_run 5 [0, 1, 5, 6] (l := [(⟨g1, 0, none⟩, .int .i64 a0.xRoom)]) (.one (at_blk (j := 0) rfl rfl) .nil) (E' := [(0, .pointer (some ⟨g1, 0, none⟩)), (1, .int .i64 a1), (5, .slice none 0 0), (6, .int .i64 a0.xRoom)]) (by kernel_rfl) ?_
  refine o_end (by kernel_rfl) ?_
  refine e_seq ?_
  refine w_block 0 58 (by kernel_rfl) ?_
  refine t_nil 57 2 ?_
  refine t_L (L' := [.own none (([] : List T_api_Block).length) 0 (rowOf encT_api_Block ([] : List T_api_Block)) 2 57, .blk g1 [.int .i64 a0.xRoom, .int .u32 a0.xNext, .slice A1 a0.xIn.length c1, .slice A2 a0.xCame.length c2, .slice A3 a0.xOut.length c3, .int .u32 a0.xLast, .bool a0.xHas] 42, .own A2 a0.xCame.length c2 (rowOf encB a0.xCame) 1 4, .own A3 a0.xOut.length c3 (rowOf (encI .u8) a0.xOut) 1 5]) (by kernel_rfl) ?_
  obtain ⟨t1, ht1, ho1⟩ := bind_some hm
  refine t_env [0, 1, 5, 6] (E' := [(0, .pointer (some ⟨g1, 0, none⟩)), (1, .int .i64 a1), (5, .slice none (([] : List T_api_Block).length) 0), (6, .int .i64 a0.xRoom)]) (by kernel_rfl) ?_
  refine w_loopJ 116 0 (fun k a w => ∃ (p1 : Int) (p2 : List T_api_Block) (A4 : Option Addr) (c4 : Nat), downhaulref26_Buffer_Blocks.l1 k a0 p1 p2 = some t1 ∧ EnvOk [(0, .pointer (some ⟨g1, 0, none⟩)), (1, .int .i64 a1), (5, .slice A4 p2.length c4), (6, .int .i64 p1)] Try.f24.ntmps a ∧ St B G [.own A4 p2.length c4 (rowOf encT_api_Block p2) 2 57, .blk g1 [.int .i64 a0.xRoom, .int .u32 a0.xNext, .slice A1 a0.xIn.length c1, .slice A2 a0.xCame.length c2, .slice A3 a0.xOut.length c3, .int .u32 a0.xLast, .bool a0.xHas] 42, .own A2 a0.xCame.length c2 (rowOf encB a0.xCame) 1 4, .own A3 a0.xOut.length c3 (rowOf (encI .u8) a0.xOut) 1 5] w) (fun a w => ∃ (A5 : Option Addr) (c5 : Nat), EnvOk [(0, .pointer (some ⟨g1, 0, none⟩)), (1, .int .i64 a1), (5, .slice A5 ((t1).length) c5)] Try.f24.ntmps a ∧ St B G [.own A5 ((t1).length) c5 (rowOf encT_api_Block t1) 2 57, .blk g1 [.int .i64 a0.xRoom, .int .u32 a0.xNext, .slice A1 a0.xIn.length c1, .slice A2 a0.xCame.length c2, .slice A3 a0.xOut.length c3, .int .u32 a0.xLast, .bool a0.xHas] 42, .own A2 a0.xCame.length c2 (rowOf encB a0.xCame) 1 4, .own A3 a0.xOut.length c3 (rowOf (encI .u8) a0.xOut) 1 5] w) (by kernel_rfl) ?_ ?_ k ?_
  · rintro a w ⟨A5, c5, ha, hw⟩
    refine we_of (E := [(0, .pointer (some ⟨g1, 0, none⟩)), (1, .int .i64 a1), (5, .slice A5 ((t1).length) c5)]) (B := B) (G := G) (L := [.own A5 ((t1).length) c5 (rowOf encT_api_Block t1) 2 57, .blk g1 [.int .i64 a0.xRoom, .int .u32 a0.xNext, .slice A1 a0.xIn.length c1, .slice A2 a0.xCame.length c2, .slice A3 a0.xOut.length c3, .int .u32 a0.xLast, .bool a0.xHas] 42, .own A2 a0.xCame.length c2 (rowOf encB a0.xCame) 1 4, .own A3 a0.xOut.length c3 (rowOf (encI .u8) a0.xOut) 1 5]) ?_ ha hw
    have hm := ho1
    refine e_seq ?_
    refine w_seq 30 31 (by kernel_rfl) ?_
    refine w_region (by kernel_rfl) ?_
    refine o_run 1 [0, 1, 5, 8] (l := []) .nil (E' := [(0, .pointer (some ⟨g1, 0, none⟩)), (1, .int .i64 a1), (5, .slice A5 ((t1).length) c5), (8, .slice none 0 0)]) (by kernel_rfl) ?_
    refine o_end (by kernel_rfl) ?_
    refine e_seq ?_
    refine w_seq 62 63 (by kernel_rfl) ?_
    refine w_seq 124 125 (by kernel_rfl) ?_
    refine w_region (by kernel_rfl) ?_
    refine o_run 1 [0, 1, 5, 8, 9] (l := []) .nil (E' := [(0, .pointer (some ⟨g1, 0, none⟩)), (1, .int .i64 a1), (5, .slice A5 ((t1).length) c5), (8, .slice none 0 0), (9, .int .i64 0)]) (by kernel_rfl) ?_
    refine o_end (by kernel_rfl) ?_
    refine e_seq ?_
    refine w_block 2 250 (by kernel_rfl) ?_
    refine t_nil 57 2 ?_
    refine t_L (L' := [.own none (([] : List T_api_Block).length) 0 (rowOf encT_api_Block ([] : List T_api_Block)) 2 57, .own A5 ((t1).length) c5 (rowOf encT_api_Block t1) 2 57, .blk g1 [.int .i64 a0.xRoom, .int .u32 a0.xNext, .slice A1 a0.xIn.length c1, .slice A2 a0.xCame.length c2, .slice A3 a0.xOut.length c3, .int .u32 a0.xLast, .bool a0.xHas] 42, .own A2 a0.xCame.length c2 (rowOf encB a0.xCame) 1 4, .own A3 a0.xOut.length c3 (rowOf (encI .u8) a0.xOut) 1 5]) (by kernel_rfl) ?_
    obtain ⟨t2, ht2, ho2⟩ := bind_some hm
    refine t_env [0, 1, 5, 8, 9] (E' := [(0, .pointer (some ⟨g1, 0, none⟩)), (1, .int .i64 a1), (5, .slice A5 ((t1).length) c5), (8, .slice none (([] : List T_api_Block).length) 0), (9, .int .i64 0)]) (by kernel_rfl) ?_
    refine w_loopJ 500 2 (fun k a w => ∃ (p3 : Int) (p4 : List T_api_Block) (A6 : Option Addr) (c6 : Nat), downhaulref26_Buffer_Blocks.l2 k a0 t1 p3 p4 = some t2 ∧ EnvOk [(0, .pointer (some ⟨g1, 0, none⟩)), (1, .int .i64 a1), (5, .slice A5 ((t1).length) c5), (8, .slice A6 p4.length c6), (9, .int .i64 p3)] Try.f24.ntmps a ∧ St B G [.own A6 p4.length c6 (rowOf encT_api_Block p4) 2 57, .own A5 ((t1).length) c5 (rowOf encT_api_Block t1) 2 57, .blk g1 [.int .i64 a0.xRoom, .int .u32 a0.xNext, .slice A1 a0.xIn.length c1, .slice A2 a0.xCame.length c2, .slice A3 a0.xOut.length c3, .int .u32 a0.xLast, .bool a0.xHas] 42, .own A2 a0.xCame.length c2 (rowOf encB a0.xCame) 1 4, .own A3 a0.xOut.length c3 (rowOf (encI .u8) a0.xOut) 1 5] w) (fun a w => ∃ (A7 : Option Addr) (c7 : Nat), EnvOk [(1, .int .i64 a1), (5, .slice A5 ((t1).length) c5), (8, .slice A7 ((t2).length) c7)] Try.f24.ntmps a ∧ St B G [.own A7 ((t2).length) c7 (rowOf encT_api_Block t2) 2 57, .own A5 ((t1).length) c5 (rowOf encT_api_Block t1) 2 57, .blk g1 [.int .i64 a0.xRoom, .int .u32 a0.xNext, .slice A1 a0.xIn.length c1, .slice A2 a0.xCame.length c2, .slice A3 a0.xOut.length c3, .int .u32 a0.xLast, .bool a0.xHas] 42, .own A2 a0.xCame.length c2 (rowOf encB a0.xCame) 1 4, .own A3 a0.xOut.length c3 (rowOf (encI .u8) a0.xOut) 1 5] w) (by kernel_rfl) ?_ ?_ k ?_
    · rintro a w ⟨A7, c7, ha, hw⟩
      refine we_of (E := [(1, .int .i64 a1), (5, .slice A5 ((t1).length) c5), (8, .slice A7 ((t2).length) c7)]) (B := B) (G := G) (L := [.own A7 ((t2).length) c7 (rowOf encT_api_Block t2) 2 57, .own A5 ((t1).length) c5 (rowOf encT_api_Block t1) 2 57, .blk g1 [.int .i64 a0.xRoom, .int .u32 a0.xNext, .slice A1 a0.xIn.length c1, .slice A2 a0.xCame.length c2, .slice A3 a0.xOut.length c3, .int .u32 a0.xLast, .bool a0.xHas] 42, .own A2 a0.xCame.length c2 (rowOf encB a0.xCame) 1 4, .own A3 a0.xOut.length c3 (rowOf (encI .u8) a0.xOut) 1 5]) ?_ ha hw
      have hm := ho2
      refine e_seq ?_
      refine w_seq 126 127 (by kernel_rfl) ?_
      refine w_seq 252 253 (by kernel_rfl) ?_
      refine w_region (by kernel_rfl) ?_
      refine o_run 1 [1, 5, 8, 10] (l := []) .nil (E' := [(1, .int .i64 a1), (5, .slice A5 ((t1).length) c5), (8, .slice A7 ((t2).length) c7), (10, .int .i64 0)]) (by kernel_rfl) ?_
      refine o_end (by kernel_rfl) ?_
      refine e_seq ?_
      refine w_block 4 506 (by kernel_rfl) ?_
      refine t_env [1, 5, 8, 10] (E' := [(1, .int .i64 a1), (5, .slice A5 ((t1).length) c5), (8, .slice A7 ((t2).length) c7), (10, .int .i64 0)]) (by kernel_rfl) ?_
      refine t_EL (E' := [(1, .int .i64 a1), (5, .slice A5 ((t1).length) c5), (8, .slice A7 t2.length c7), (10, .int .i64 0)]) (L' := [.own A7 t2.length c7 (rowOf encT_api_Block t2) 2 57, .own A5 ((t1).length) c5 (rowOf encT_api_Block t1) 2 57, .blk g1 [.int .i64 a0.xRoom, .int .u32 a0.xNext, .slice A1 a0.xIn.length c1, .slice A2 a0.xCame.length c2, .slice A3 a0.xOut.length c3, .int .u32 a0.xLast, .bool a0.xHas] 42, .own A2 a0.xCame.length c2 (rowOf encB a0.xCame) 1 4, .own A3 a0.xOut.length c3 (rowOf (encI .u8) a0.xOut) 1 5]) (eq_of_len rfl (fun n => ([(1, .int .i64 a1), (5, .slice A5 ((t1).length) c5), (8, .slice A7 n c7), (10, .int .i64 0)], [.own A7 n c7 (rowOf encT_api_Block t2) 2 57, .own A5 ((t1).length) c5 (rowOf encT_api_Block t1) 2 57, .blk g1 [.int .i64 a0.xRoom, .int .u32 a0.xNext, .slice A1 a0.xIn.length c1, .slice A2 a0.xCame.length c2, .slice A3 a0.xOut.length c3, .int .u32 a0.xLast, .bool a0.xHas] 42, .own A2 a0.xCame.length c2 (rowOf encB a0.xCame) 1 4, .own A3 a0.xOut.length c3 (rowOf (encI .u8) a0.xOut) 1 5])) rfl rfl) ?_
      obtain ⟨t3, ht3, ho3⟩ := bind_some hm
      refine t_env [1, 5, 8, 10] (E' := [(1, .int .i64 a1), (5, .slice A5 ((t1).length) c5), (8, .slice A7 t2.length c7), (10, .int .i64 0)]) (by kernel_rfl) ?_
      refine w_loopJ 1012 4 (fun k a w => ∃ (p5 : Int) (p6 : List T_api_Block) (A8 : Option Addr) (c8 : Nat), downhaulref26_Buffer_Blocks.l3 k t1 p5 p6 = some t3 ∧ EnvOk [(1, .int .i64 a1), (5, .slice A5 ((t1).length) c5), (8, .slice A8 p6.length c8), (10, .int .i64 p5)] Try.f24.ntmps a ∧ St B G [.own A8 p6.length c8 (rowOf encT_api_Block p6) 2 57, .own A5 ((t1).length) c5 (rowOf encT_api_Block t1) 2 57, .blk g1 [.int .i64 a0.xRoom, .int .u32 a0.xNext, .slice A1 a0.xIn.length c1, .slice A2 a0.xCame.length c2, .slice A3 a0.xOut.length c3, .int .u32 a0.xLast, .bool a0.xHas] 42, .own A2 a0.xCame.length c2 (rowOf encB a0.xCame) 1 4, .own A3 a0.xOut.length c3 (rowOf (encI .u8) a0.xOut) 1 5] w) (fun a w => ∃ (A9 : Option Addr) (c9 : Nat), EnvOk [(1, .int .i64 a1), (8, .slice A9 ((t3).length) c9)] Try.f24.ntmps a ∧ St B G [.own A9 ((t3).length) c9 (rowOf encT_api_Block t3) 2 57, .own A5 ((t1).length) c5 (rowOf encT_api_Block t1) 2 57, .blk g1 [.int .i64 a0.xRoom, .int .u32 a0.xNext, .slice A1 a0.xIn.length c1, .slice A2 a0.xCame.length c2, .slice A3 a0.xOut.length c3, .int .u32 a0.xLast, .bool a0.xHas] 42, .own A2 a0.xCame.length c2 (rowOf encB a0.xCame) 1 4, .own A3 a0.xOut.length c3 (rowOf (encI .u8) a0.xOut) 1 5] w) (by kernel_rfl) ?_ ?_ k ?_
      · rintro a w ⟨A9, c9, ha, hw⟩
        refine we_of (E := [(1, .int .i64 a1), (8, .slice A9 ((t3).length) c9)]) (B := B) (G := G) (L := [.own A9 ((t3).length) c9 (rowOf encT_api_Block t3) 2 57, .own A5 ((t1).length) c5 (rowOf encT_api_Block t1) 2 57, .blk g1 [.int .i64 a0.xRoom, .int .u32 a0.xNext, .slice A1 a0.xIn.length c1, .slice A2 a0.xCame.length c2, .slice A3 a0.xOut.length c3, .int .u32 a0.xLast, .bool a0.xHas] 42, .own A2 a0.xCame.length c2 (rowOf encB a0.xCame) 1 4, .own A3 a0.xOut.length c3 (rowOf (encI .u8) a0.xOut) 1 5]) ?_ ha hw
        have hm := ho3
        refine e_seq ?_
        refine w_seq 254 255 (by kernel_rfl) ?_
        refine w_region (by kernel_rfl) ?_
        refine o_run 6 [130, 135] (l := []) .nil (E' := [(130, .slice A9 ((t3).length) c9), (135, .int .i64 (imin (imax a1 0) ((t3).length : Int)))]) (by kernel_rfl) ?_
        refine t_frozS kT_api_Block rfl rfl (fun B1 hx1 hs2 => ?_)
        obtain ⟨l1, hx2, hm⟩ := bind_some hm
        refine o_val 136 (.slice 46 (.tmp 130) none (some (.tmp 135)) none) (.slice (cutA A9 (Int.toNat 0) c9 2) l1.length (c9 - Int.toNat 0)) (by kernel_rfl) (i_slice 46 (.tmp 130) none (some (.tmp 135)) hs2 hx2 (by kernel_rfl) (by kernel_rfl) (by kernel_rfl) (by kernel_rfl)) ?_
        have hs3 := sl_cut hs2 hx2
        refine o_run 1 [4] (l := []) .nil (E' := [(4, .slice (cutA A9 (Int.toNat 0) c9 2) l1.length (c9 - Int.toNat 0))]) (by kernel_rfl) ?_
        refine o_end (by kernel_rfl) ?_
        refine e_seq ?_
        refine w_ret (by kernel_rfl) ?_
        obtain rfl := Option.some.inj hm
        exact e_retP (B1, (cutA A9 (Int.toNat 0) c9 2), (c9 - Int.toNat 0)) (.slice (cutA A9 (Int.toNat 0) c9 2) l1.length (c9 - Int.toNat 0)) [1, 2, 3] (by kernel_rfl) (by kernel_rfl) rfl (by kernel_rfl) (by kernel_rfl) ⟨hx1, hs3⟩
      · rintro k a w ⟨p5, p6, A8, c8, hm, ha, hw⟩
        cases k with
        | zero => exact absurd hm (by simp [downhaulref26_Buffer_Blocks.l3])
        | succ k =>
          unfold downhaulref26_Buffer_Blocks.l3 at hm
          refine wc_of (E := [(1, .int .i64 a1), (5, .slice A5 ((t1).length) c5), (8, .slice A8 p6.length c8), (10, .int .i64 p5)]) (B := B) (G := G) (L := [.own A8 p6.length c8 (rowOf encT_api_Block p6) 2 57, .own A5 ((t1).length) c5 (rowOf encT_api_Block t1) 2 57, .blk g1 [.int .i64 a0.xRoom, .int .u32 a0.xNext, .slice A1 a0.xIn.length c1, .slice A2 a0.xCame.length c2, .slice A3 a0.xOut.length c3, .int .u32 a0.xLast, .bool a0.xHas] 42, .own A2 a0.xCame.length c2 (rowOf encB a0.xCame) 1 4, .own A3 a0.xOut.length c3 (rowOf (encI .u8) a0.xOut) 1 5]) ?_ ha hw
          refine w_seq 2024 2025 (by kernel_rfl) ?_
          refine w_seq 4048 4049 (by kernel_rfl) ?_
          refine w_region (by kernel_rfl) ?_
          refine o_run 4 [1, 5, 8, 10, 107] (l := []) .nil (E' := [(1, .int .i64 a1), (5, .slice A5 ((t1).length) c5), (8, .slice A8 p6.length c8), (10, .int .i64 p5), (107, .bool (decide (p5 < ((t1).length : Int))))]) (by kernel_rfl) ?_
          refine o_end (by kernel_rfl) ?_
          refine e_seq ?_
          refine w_cond (.tmp 107) 8098 8099 (decide (p5 < ((t1).length : Int))) (by kernel_rfl) (by kernel_rfl) (fun hb1 => ?_) (fun hb1 => ?_)
          · replace hm := ite_t hb1 hm
            refine w_skip (by kernel_rfl) ?_
            refine e_seq ?_
            refine w_seq 4050 4051 (by kernel_rfl) ?_
            refine w_block 5 8100 (by kernel_rfl) ?_
            refine w_seq 16200 16201 (by kernel_rfl) ?_
            refine w_quiet (by kernel_rfl) mixed (by kernel_rfl) ?_
            refine q_run 4 [1, 5, 8, 10, 113] (l := []) .nil (E' := [(1, .int .i64 a1), (5, .slice A5 ((t1).length) c5), (8, .slice A8 p6.length c8), (10, .int .i64 p5), (113, .bool ((p6.length : Int) == 0))]) (by kernel_rfl) ?_
            refine q_split 113 ((p6.length : Int) == 0) (by kernel_rfl) (fun hb2 => ?_) (fun hb2 => ?_)
            · replace hm := ite_t hb2 hm
              refine q_run 9 [1, 5, 8, 10, 122] (l := []) .nil (E' := [(1, .int .i64 a1), (5, .slice A5 ((t1).length) c5), (8, .slice A8 p6.length c8), (10, .int .i64 p5), (122, .bool true)]) (by kernel_rfl) ?_
              refine q_end (by kernel_rfl) ?_
              refine e_seq ?_
              refine w_cond_t (.tmp 122) 32402 32403 (by kernel_rfl) (by kernel_rfl) ?_
              refine w_region (by kernel_rfl) ?_
              refine o_run 3 [1, 5, 10, 123, 124, 125] (l := []) .nil (E' := [(1, .int .i64 a1), (5, .slice A5 ((t1).length) c5), (10, .int .i64 p5), (123, .slice A8 p6.length c8), (124, .slice A5 ((t1).length) c5), (125, .int .i64 p5)]) (by kernel_rfl) ?_
              obtain ⟨e1, hx3, hm⟩ := bind_some hm
              obtain ⟨hi1, hi2, hg1⟩ := idx_some hx3
              refine o_val 126 (.indexAddr 46 (.tmp 124) (.tmp 125)) (.pointer (some (adr A5 (Int.toNat p5 * 2)))) (by kernel_rfl) (v_index (k := .i64) (c := c5) (by kernel_rfl) (by kernel_rfl) (by kernel_rfl) hi1 hi2 (own_some (j := 1) rfl hi2 hi1)) ?_
              refine o_run 1 [1, 5, 10, 123, 127] (l := [((adr A5 (Int.toNat p5 * 2)), .int .u32 e1.xLeft), (((adr A5 (Int.toNat p5 * 2)).add 1), .int .u32 e1.xRight)]) (.one ((At.sub (l := encT_api_Block e1) 0 (at_own (j := 1) (off := Int.toNat p5 * 2) rfl (row_at (enc := encT_api_Block) (sz := 2) (fun _ => rfl) hg1)) rfl)) (.one ((At.sub (l := encT_api_Block e1) 1 (at_own (j := 1) (off := Int.toNat p5 * 2) rfl (row_at (enc := encT_api_Block) (sz := 2) (fun _ => rfl) hg1)) rfl)) .nil)) (E' := [(1, .int .i64 a1), (5, .slice A5 ((t1).length) c5), (10, .int .i64 p5), (123, .slice A8 p6.length c8), (127, .agg #[.int .u32 e1.xLeft, .int .u32 e1.xRight])]) (by kernel_rfl) ?_
              refine o_stp ?_ (by kernel_rfl)
              refine s_new 128 (fun g2 => .slice (some ⟨g2, 0, none⟩) 1 1) [.int .u32 e1.xLeft, .int .u32 e1.xRight] 57 (fun _ => by kernel_rfl) (fun g2 => ?_)
              obtain ⟨l2, hx4, hm⟩ := bind_some hm
              refine o_stp ?_ (by kernel_rfl)
              refine s_app (z := .agg #[.int .u32 0, .int .u32 0]) (enc := encT_api_Block) (ys := [e1]) (k := 1) (bytes := 8) 129 46 46 (.tmp 123) (.tmp 128) 1 hx4 rfl rfl (by kernel_rfl) (by kernel_rfl) (by kernel_rfl) (by kernel_rfl) (by kernel_rfl) (by kernel_rfl) rfl (src_blk (e := 57) (j := 0) (by kernel_rfl) rfl (by kernel_rfl) rfl (by kernel_rfl)) (by decide) (fun A10 c10 => ?_)
              refine t_L (L' := [.blk g2 [.int .u32 e1.xLeft, .int .u32 e1.xRight] 57, .own A10 l2.length c10 (rowOf encT_api_Block l2) 2 57, .own A5 ((t1).length) c5 (rowOf encT_api_Block t1) 2 57, .blk g1 [.int .i64 a0.xRoom, .int .u32 a0.xNext, .slice A1 a0.xIn.length c1, .slice A2 a0.xCame.length c2, .slice A3 a0.xOut.length c3, .int .u32 a0.xLast, .bool a0.xHas] 42, .own A2 a0.xCame.length c2 (rowOf encB a0.xCame) 1 4, .own A3 a0.xOut.length c3 (rowOf (encI .u8) a0.xOut) 1 5]) (by kernel_rfl) ?_
              refine o_run 1 [1, 5, 8, 10] (l := []) .nil (E' := [(1, .int .i64 a1), (5, .slice A5 ((t1).length) c5), (8, .slice A10 l2.length c10), (10, .int .i64 p5)]) (by kernel_rfl) ?_
              refine o_end (by kernel_rfl) ?_
              refine e_blk ?_
              refine e_seq ?_
              refine w_region (by kernel_rfl) ?_
              refine o_run 3 [1, 5, 8, 10] (l := []) .nil (E' := [(1, .int .i64 a1), (5, .slice A5 ((t1).length) c5), (8, .slice A10 l2.length c10), (10, .int .i64 (I64 (p5 + 1)))]) (by kernel_rfl) ?_
              refine o_end (by kernel_rfl) ?_
              refine t_drop [1, 2, 3, 4, 5] (by kernel_rfl) ?_
              refine t_L (L' := [.own A10 l2.length c10 (rowOf encT_api_Block l2) 2 57, .own A5 ((t1).length) c5 (rowOf encT_api_Block t1) 2 57, .blk g1 [.int .i64 a0.xRoom, .int .u32 a0.xNext, .slice A1 a0.xIn.length c1, .slice A2 a0.xCame.length c2, .slice A3 a0.xOut.length c3, .int .u32 a0.xLast, .bool a0.xHas] 42, .own A2 a0.xCame.length c2 (rowOf encB a0.xCame) 1 4, .own A3 a0.xOut.length c3 (rowOf (encI .u8) a0.xOut) 1 5]) (by kernel_rfl) ?_
              refine t_env [1, 5, 8, 10] (E' := [(1, .int .i64 a1), (5, .slice A5 ((t1).length) c5), (8, .slice A10 l2.length c10), (10, .int .i64 (I64 (p5 + 1)))]) (by kernel_rfl) ?_
              exact e_inv (fun a w ha hw => ⟨k, Nat.lt_succ_self k, (I64 (p5 + 1)), l2, A10, c10, hm, ha, hw⟩)
            · replace hm := ite_f hb2 hm
              refine q_run 2 [1, 5, 8, 10, 113, 114, 115] (l := []) .nil (E' := [(1, .int .i64 a1), (5, .slice A5 ((t1).length) c5), (8, .slice A8 p6.length c8), (10, .int .i64 p5), (113, .bool false), (114, .slice A5 ((t1).length) c5), (115, .int .i64 p5)]) (by kernel_rfl) ?_
              obtain ⟨e2, hx5, hm⟩ := bind_some hm
              obtain ⟨hi3, hi4, hg2⟩ := idx_some hx5
              refine q_val 116 (.indexAddr 46 (.tmp 114) (.tmp 115)) (.pointer (some (adr A5 (Int.toNat p5 * 2)))) (by kernel_rfl) (v_index (k := .i64) (c := c5) (by kernel_rfl) (by kernel_rfl) (by kernel_rfl) hi3 hi4 (own_some (j := 1) rfl hi4 hi3)) ?_
              refine q_run 2 [1, 5, 8, 10, 113, 117, 118] (l := [((adr A5 (Int.toNat p5 * 2)), .int .u32 e2.xLeft), (((adr A5 (Int.toNat p5 * 2)).add 1), .int .u32 e2.xRight)]) (.one ((At.sub (l := encT_api_Block e2) 0 (at_own (j := 1) (off := Int.toNat p5 * 2) rfl (row_at (enc := encT_api_Block) (sz := 2) (fun _ => rfl) hg2)) rfl)) (.one ((At.sub (l := encT_api_Block e2) 1 (at_own (j := 1) (off := Int.toNat p5 * 2) rfl (row_at (enc := encT_api_Block) (sz := 2) (fun _ => rfl) hg2)) rfl)) .nil)) (E' := [(1, .int .i64 a1), (5, .slice A5 ((t1).length) c5), (8, .slice A8 p6.length c8), (10, .int .i64 p5), (113, .bool false), (117, .agg #[.int .u32 e2.xLeft, .int .u32 e2.xRight]), (118, .slice A8 p6.length c8)]) (by kernel_rfl) ?_
              obtain ⟨e3, hx6, hm⟩ := bind_some hm
              obtain ⟨hi5, hi6, hg3⟩ := idx_some hx6
              refine q_val 119 (.indexAddr 46 (.tmp 118) (.const (.int .i64 0))) (.pointer (some (adr A8 (Int.toNat 0 * 2)))) (by kernel_rfl) (v_index (k := .i64) (c := c8) (by kernel_rfl) (by kernel_rfl) (by kernel_rfl) hi5 hi6 (own_some (j := 0) rfl hi6 hi5)) ?_
              refine q_run 1 [1, 5, 8, 10, 113, 117, 120] (l := [((adr A8 (Int.toNat 0 * 2)), .int .u32 e3.xLeft), (((adr A8 (Int.toNat 0 * 2)).add 1), .int .u32 e3.xRight)]) (.one ((At.sub (l := encT_api_Block e3) 0 (at_own (j := 0) (off := Int.toNat 0 * 2) rfl (row_at (enc := encT_api_Block) (sz := 2) (fun _ => rfl) hg3)) rfl)) (.one ((At.sub (l := encT_api_Block e3) 1 (at_own (j := 0) (off := Int.toNat 0 * 2) rfl (row_at (enc := encT_api_Block) (sz := 2) (fun _ => rfl) hg3)) rfl)) .nil)) (E' := [(1, .int .i64 a1), (5, .slice A5 ((t1).length) c5), (8, .slice A8 p6.length c8), (10, .int .i64 p5), (113, .bool false), (117, .agg #[.int .u32 e2.xLeft, .int .u32 e2.xRight]), (120, .agg #[.int .u32 e3.xLeft, .int .u32 e3.xRight])]) (by kernel_rfl) ?_
              refine q_val 121 (.binOp .neq 57 (.tmp 117) (.tmp 120) 57) (.bool (!((e2.xLeft == e3.xLeft) && (e2.xRight == e3.xRight)))) (by kernel_rfl) (v_neS (xs := #[.int .u32 e2.xLeft, .int .u32 e2.xRight]) (ys := #[.int .u32 e3.xLeft, .int .u32 e3.xRight]) (b := ((e2.xLeft == e3.xLeft) && (e2.xRight == e3.xRight))) (by kernel_rfl) (by kernel_rfl) (by kernel_rfl) (by kernel_rfl)) ?_
              refine q_run 1 [1, 5, 8, 10, 122] (l := []) .nil (E' := [(1, .int .i64 a1), (5, .slice A5 ((t1).length) c5), (8, .slice A8 p6.length c8), (10, .int .i64 p5), (122, .bool (!((e2.xLeft == e3.xLeft) && (e2.xRight == e3.xRight))))]) (by kernel_rfl) ?_
              refine q_end (by kernel_rfl) ?_
              refine e_seq ?_
              refine w_cond (.tmp 122) 32402 32403 (!((e2.xLeft == e3.xLeft) && (e2.xRight == e3.xRight))) (by kernel_rfl) (by kernel_rfl) (fun hb3 => ?_) (fun hb3 => ?_)
              · replace hm := ite_t hb3 hm
                refine w_region (by kernel_rfl) ?_
                refine o_run 3 [1, 5, 10, 123, 124, 125] (l := []) .nil (E' := [(1, .int .i64 a1), (5, .slice A5 ((t1).length) c5), (10, .int .i64 p5), (123, .slice A8 p6.length c8), (124, .slice A5 ((t1).length) c5), (125, .int .i64 p5)]) (by kernel_rfl) ?_
                obtain ⟨e4, hx7, hm⟩ := bind_some hm
                obtain ⟨hi7, hi8, hg4⟩ := idx_some hx7
                refine o_val 126 (.indexAddr 46 (.tmp 124) (.tmp 125)) (.pointer (some (adr A5 (Int.toNat p5 * 2)))) (by kernel_rfl) (v_index (k := .i64) (c := c5) (by kernel_rfl) (by kernel_rfl) (by kernel_rfl) hi7 hi8 (own_some (j := 1) rfl hi8 hi7)) ?_
                refine o_run 1 [1, 5, 10, 123, 127] (l := [((adr A5 (Int.toNat p5 * 2)), .int .u32 e4.xLeft), (((adr A5 (Int.toNat p5 * 2)).add 1), .int .u32 e4.xRight)]) (.one ((At.sub (l := encT_api_Block e4) 0 (at_own (j := 1) (off := Int.toNat p5 * 2) rfl (row_at (enc := encT_api_Block) (sz := 2) (fun _ => rfl) hg4)) rfl)) (.one ((At.sub (l := encT_api_Block e4) 1 (at_own (j := 1) (off := Int.toNat p5 * 2) rfl (row_at (enc := encT_api_Block) (sz := 2) (fun _ => rfl) hg4)) rfl)) .nil)) (E' := [(1, .int .i64 a1), (5, .slice A5 ((t1).length) c5), (10, .int .i64 p5), (123, .slice A8 p6.length c8), (127, .agg #[.int .u32 e4.xLeft, .int .u32 e4.xRight])]) (by kernel_rfl) ?_
                refine o_stp ?_ (by kernel_rfl)
                refine s_new 128 (fun g3 => .slice (some ⟨g3, 0, none⟩) 1 1) [.int .u32 e4.xLeft, .int .u32 e4.xRight] 57 (fun _ => by kernel_rfl) (fun g3 => ?_)
                obtain ⟨l3, hx8, hm⟩ := bind_some hm
                refine o_stp ?_ (by kernel_rfl)
                refine s_app (z := .agg #[.int .u32 0, .int .u32 0]) (enc := encT_api_Block) (ys := [e4]) (k := 1) (bytes := 8) 129 46 46 (.tmp 123) (.tmp 128) 1 hx8 rfl rfl (by kernel_rfl) (by kernel_rfl) (by kernel_rfl) (by kernel_rfl) (by kernel_rfl) (by kernel_rfl) rfl (src_blk (e := 57) (j := 0) (by kernel_rfl) rfl (by kernel_rfl) rfl (by kernel_rfl)) (by decide) (fun A11 c11 => ?_)
                refine t_L (L' := [.blk g3 [.int .u32 e4.xLeft, .int .u32 e4.xRight] 57, .own A11 l3.length c11 (rowOf encT_api_Block l3) 2 57, .own A5 ((t1).length) c5 (rowOf encT_api_Block t1) 2 57, .blk g1 [.int .i64 a0.xRoom, .int .u32 a0.xNext, .slice A1 a0.xIn.length c1, .slice A2 a0.xCame.length c2, .slice A3 a0.xOut.length c3, .int .u32 a0.xLast, .bool a0.xHas] 42, .own A2 a0.xCame.length c2 (rowOf encB a0.xCame) 1 4, .own A3 a0.xOut.length c3 (rowOf (encI .u8) a0.xOut) 1 5]) (by kernel_rfl) ?_
                refine o_run 1 [1, 5, 8, 10] (l := []) .nil (E' := [(1, .int .i64 a1), (5, .slice A5 ((t1).length) c5), (8, .slice A11 l3.length c11), (10, .int .i64 p5)]) (by kernel_rfl) ?_
                refine o_end (by kernel_rfl) ?_
                refine e_blk ?_
                refine e_seq ?_
                refine w_region (by kernel_rfl) ?_
                refine o_run 3 [1, 5, 8, 10] (l := []) .nil (E' := [(1, .int .i64 a1), (5, .slice A5 ((t1).length) c5), (8, .slice A11 l3.length c11), (10, .int .i64 (I64 (p5 + 1)))]) (by kernel_rfl) ?_
                refine o_end (by kernel_rfl) ?_
                refine t_drop [1, 2, 3, 4, 5] (by kernel_rfl) ?_
                refine t_L (L' := [.own A11 l3.length c11 (rowOf encT_api_Block l3) 2 57, .own A5 ((t1).length) c5 (rowOf encT_api_Block t1) 2 57, .blk g1 [.int .i64 a0.xRoom, .int .u32 a0.xNext, .slice A1 a0.xIn.length c1, .slice A2 a0.xCame.length c2, .slice A3 a0.xOut.length c3, .int .u32 a0.xLast, .bool a0.xHas] 42, .own A2 a0.xCame.length c2 (rowOf encB a0.xCame) 1 4, .own A3 a0.xOut.length c3 (rowOf (encI .u8) a0.xOut) 1 5]) (by kernel_rfl) ?_
                refine t_env [1, 5, 8, 10] (E' := [(1, .int .i64 a1), (5, .slice A5 ((t1).length) c5), (8, .slice A11 l3.length c11), (10, .int .i64 (I64 (p5 + 1)))]) (by kernel_rfl) ?_
                exact e_inv (fun a w ha hw => ⟨k, Nat.lt_succ_self k, (I64 (p5 + 1)), l3, A11, c11, hm, ha, hw⟩)
              · replace hm := ite_f hb3 hm
                refine w_skip (by kernel_rfl) ?_
                refine e_blk ?_
                refine e_seq ?_
                refine w_region (by kernel_rfl) ?_
                refine o_run 3 [1, 5, 8, 10] (l := []) .nil (E' := [(1, .int .i64 a1), (5, .slice A5 ((t1).length) c5), (8, .slice A8 p6.length c8), (10, .int .i64 (I64 (p5 + 1)))]) (by kernel_rfl) ?_
                refine o_end (by kernel_rfl) ?_
                refine t_drop [0, 1, 2, 3, 4] (by kernel_rfl) ?_
                refine t_L (L' := [.own A8 p6.length c8 (rowOf encT_api_Block p6) 2 57, .own A5 ((t1).length) c5 (rowOf encT_api_Block t1) 2 57, .blk g1 [.int .i64 a0.xRoom, .int .u32 a0.xNext, .slice A1 a0.xIn.length c1, .slice A2 a0.xCame.length c2, .slice A3 a0.xOut.length c3, .int .u32 a0.xLast, .bool a0.xHas] 42, .own A2 a0.xCame.length c2 (rowOf encB a0.xCame) 1 4, .own A3 a0.xOut.length c3 (rowOf (encI .u8) a0.xOut) 1 5]) (by kernel_rfl) ?_
                refine t_env [1, 5, 8, 10] (E' := [(1, .int .i64 a1), (5, .slice A5 ((t1).length) c5), (8, .slice A8 p6.length c8), (10, .int .i64 (I64 (p5 + 1)))]) (by kernel_rfl) ?_
                exact e_inv (fun a w ha hw => ⟨k, Nat.lt_succ_self k, (I64 (p5 + 1)), p6, A8, c8, hm, ha, hw⟩)
          · replace hm := ite_f hb1 hm
            refine w_exit 4 (by kernel_rfl) ?_
            refine e_x_seq ?_
            refine e_x_inv ?_
            refine e_x_here ?_
            refine t_drop [0, 1, 2, 3, 4] (by kernel_rfl) ?_
            refine t_L (L' := [.own A8 p6.length c8 (rowOf encT_api_Block p6) 2 57, .own A5 ((t1).length) c5 (rowOf encT_api_Block t1) 2 57, .blk g1 [.int .i64 a0.xRoom, .int .u32 a0.xNext, .slice A1 a0.xIn.length c1, .slice A2 a0.xCame.length c2, .slice A3 a0.xOut.length c3, .int .u32 a0.xLast, .bool a0.xHas] 42, .own A2 a0.xCame.length c2 (rowOf encB a0.xCame) 1 4, .own A3 a0.xOut.length c3 (rowOf (encI .u8) a0.xOut) 1 5]) (by kernel_rfl) ?_
            refine t_env [1, 8] (E' := [(1, .int .i64 a1), (8, .slice A8 p6.length c8)]) (by kernel_rfl) ?_
            obtain rfl := Option.some.inj hm
            exact e_inv (fun a w ha hw => ⟨A8, c8, ha, hw⟩)
      · exact fun a w ha hw => ⟨0, t2, A7, c7, ht3, ha, hw⟩
    · rintro k a w ⟨p3, p4, A6, c6, hm, ha, hw⟩
      cases k with
      | zero => exact absurd hm (by simp [downhaulref26_Buffer_Blocks.l2])
      | succ k =>
        unfold downhaulref26_Buffer_Blocks.l2 at hm
        refine wc_of (E := [(0, .pointer (some ⟨g1, 0, none⟩)), (1, .int .i64 a1), (5, .slice A5 ((t1).length) c5), (8, .slice A6 p4.length c6), (9, .int .i64 p3)]) (B := B) (G := G) (L := [.own A6 p4.length c6 (rowOf encT_api_Block p4) 2 57, .own A5 ((t1).length) c5 (rowOf encT_api_Block t1) 2 57, .blk g1 [.int .i64 a0.xRoom, .int .u32 a0.xNext, .slice A1 a0.xIn.length c1, .slice A2 a0.xCame.length c2, .slice A3 a0.xOut.length c3, .int .u32 a0.xLast, .bool a0.xHas] 42, .own A2 a0.xCame.length c2 (rowOf encB a0.xCame) 1 4, .own A3 a0.xOut.length c3 (rowOf (encI .u8) a0.xOut) 1 5]) ?_ ha hw
        refine w_seq 1000 1001 (by kernel_rfl) ?_
        refine w_seq 2000 2001 (by kernel_rfl) ?_
        refine w_region (by kernel_rfl) ?_
        refine o_run 4 [0, 1, 5, 8, 9, 66] (l := []) .nil (E' := [(0, .pointer (some ⟨g1, 0, none⟩)), (1, .int .i64 a1), (5, .slice A5 ((t1).length) c5), (8, .slice A6 p4.length c6), (9, .int .i64 p3), (66, .bool (decide (p3 < ((t1).length : Int))))]) (by kernel_rfl) ?_
        refine o_end (by kernel_rfl) ?_
        refine e_seq ?_
        refine w_cond (.tmp 66) 4002 4003 (decide (p3 < ((t1).length : Int))) (by kernel_rfl) (by kernel_rfl) (fun hb4 => ?_) (fun hb4 => ?_)
        · replace hm := ite_t hb4 hm
          refine w_skip (by kernel_rfl) ?_
          refine e_seq ?_
          refine w_seq 2002 2003 (by kernel_rfl) ?_
          refine w_block 3 4004 (by kernel_rfl) ?_
          refine w_seq 8008 8009 (by kernel_rfl) ?_
          refine w_quiet (by kernel_rfl) mixed (by kernel_rfl) ?_
          refine q_run 5 [0, 1, 5, 8, 9, 73] (l := [(⟨g1, 6, none⟩, .bool a0.xHas)]) (.one (at_blk (j := 2) rfl rfl) .nil) (E' := [(0, .pointer (some ⟨g1, 0, none⟩)), (1, .int .i64 a1), (5, .slice A5 ((t1).length) c5), (8, .slice A6 p4.length c6), (9, .int .i64 p3), (73, .bool a0.xHas)]) (by kernel_rfl) ?_
          refine q_split 73 a0.xHas (by kernel_rfl) (fun hb5 => ?_) (fun hb5 => ?_)
          · replace hm := ite_t hb5 hm
            refine q_run 6 [0, 1, 5, 8, 9, 73, 77, 78, 79] (l := [(⟨g1, 5, none⟩, .int .u32 a0.xLast)]) (.one (at_blk (j := 2) rfl rfl) .nil) (E' := [(0, .pointer (some ⟨g1, 0, none⟩)), (1, .int .i64 a1), (5, .slice A5 ((t1).length) c5), (8, .slice A6 p4.length c6), (9, .int .i64 p3), (73, .bool true), (77, .int .u32 a0.xLast), (78, .slice A5 ((t1).length) c5), (79, .int .i64 p3)]) (by kernel_rfl) ?_
            obtain ⟨e5, hx9, hm⟩ := bind_some hm
            obtain ⟨hi9, hi10, hg5⟩ := idx_some hx9
            refine q_val 80 (.indexAddr 46 (.tmp 78) (.tmp 79)) (.pointer (some (adr A5 (Int.toNat p3 * 2)))) (by kernel_rfl) (v_index (k := .i64) (c := c5) (by kernel_rfl) (by kernel_rfl) (by kernel_rfl) hi9 hi10 (own_some (j := 1) rfl hi10 hi9)) ?_
            refine q_run 5 [0, 1, 5, 8, 9, 73, 83, 84, 85] (l := [((adr A5 (Int.toNat p3 * 2)), .int .u32 e5.xLeft)]) (.one ((At.sub (l := encT_api_Block e5) 0 (at_own (j := 1) (off := Int.toNat p3 * 2) rfl (row_at (enc := encT_api_Block) (sz := 2) (fun _ => rfl) hg5)) rfl)) .nil) (E' := [(0, .pointer (some ⟨g1, 0, none⟩)), (1, .int .i64 a1), (5, .slice A5 ((t1).length) c5), (8, .slice A6 p4.length c6), (9, .int .i64 p3), (73, .bool true), (83, .int .u32 (U32 (a0.xLast - e5.xLeft))), (84, .slice A5 ((t1).length) c5), (85, .int .i64 p3)]) (by kernel_rfl) ?_
            obtain ⟨e6, hx10, hm⟩ := bind_some hm
            obtain ⟨hi11, hi12, hg6⟩ := idx_some hx10
            refine q_val 86 (.indexAddr 46 (.tmp 84) (.tmp 85)) (.pointer (some (adr A5 (Int.toNat p3 * 2)))) (by kernel_rfl) (v_index (k := .i64) (c := c5) (by kernel_rfl) (by kernel_rfl) (by kernel_rfl) hi11 hi12 (own_some (j := 1) rfl hi12 hi11)) ?_
            refine q_run 4 [0, 1, 5, 8, 9, 73, 83, 88, 89, 90] (l := [(((adr A5 (Int.toNat p3 * 2)).add 1), .int .u32 e6.xRight)]) (.one ((At.sub (l := encT_api_Block e6) 1 (at_own (j := 1) (off := Int.toNat p3 * 2) rfl (row_at (enc := encT_api_Block) (sz := 2) (fun _ => rfl) hg6)) rfl)) .nil) (E' := [(0, .pointer (some ⟨g1, 0, none⟩)), (1, .int .i64 a1), (5, .slice A5 ((t1).length) c5), (8, .slice A6 p4.length c6), (9, .int .i64 p3), (73, .bool true), (83, .int .u32 (U32 (a0.xLast - e5.xLeft))), (88, .int .u32 e6.xRight), (89, .slice A5 ((t1).length) c5), (90, .int .i64 p3)]) (by kernel_rfl) ?_
            obtain ⟨e7, hx11, hm⟩ := bind_some hm
            obtain ⟨hi13, hi14, hg7⟩ := idx_some hx11
            refine q_val 91 (.indexAddr 46 (.tmp 89) (.tmp 90)) (.pointer (some (adr A5 (Int.toNat p3 * 2)))) (by kernel_rfl) (v_index (k := .i64) (c := c5) (by kernel_rfl) (by kernel_rfl) (by kernel_rfl) hi13 hi14 (own_some (j := 1) rfl hi14 hi13)) ?_
            refine q_run 5 [0, 1, 5, 8, 9, 96] (l := [((adr A5 (Int.toNat p3 * 2)), .int .u32 e7.xLeft)]) (.one ((At.sub (l := encT_api_Block e7) 0 (at_own (j := 1) (off := Int.toNat p3 * 2) rfl (row_at (enc := encT_api_Block) (sz := 2) (fun _ => rfl) hg7)) rfl)) .nil) (E' := [(0, .pointer (some ⟨g1, 0, none⟩)), (1, .int .i64 a1), (5, .slice A5 ((t1).length) c5), (8, .slice A6 p4.length c6), (9, .int .i64 p3), (96, .bool (decide ((U32 (a0.xLast - e5.xLeft)) < (U32 (e6.xRight - e7.xLeft)))))]) (by kernel_rfl) ?_
            refine q_end (by kernel_rfl) ?_
            refine e_seq ?_
            refine w_cond (.tmp 96) 16018 16019 (decide ((U32 (a0.xLast - e5.xLeft)) < (U32 (e6.xRight - e7.xLeft)))) (by kernel_rfl) (by kernel_rfl) (fun hb6 => ?_) (fun hb6 => ?_)
            · replace hm := ite_t hb6 hm
              refine w_region (by kernel_rfl) ?_
              refine o_run 3 [0, 1, 5, 9, 97, 98, 99] (l := []) .nil (E' := [(0, .pointer (some ⟨g1, 0, none⟩)), (1, .int .i64 a1), (5, .slice A5 ((t1).length) c5), (9, .int .i64 p3), (97, .slice A6 p4.length c6), (98, .slice A5 ((t1).length) c5), (99, .int .i64 p3)]) (by kernel_rfl) ?_
              obtain ⟨e8, hx12, hm⟩ := bind_some hm
              obtain ⟨hi15, hi16, hg8⟩ := idx_some hx12
              refine o_val 100 (.indexAddr 46 (.tmp 98) (.tmp 99)) (.pointer (some (adr A5 (Int.toNat p3 * 2)))) (by kernel_rfl) (v_index (k := .i64) (c := c5) (by kernel_rfl) (by kernel_rfl) (by kernel_rfl) hi15 hi16 (own_some (j := 1) rfl hi16 hi15)) ?_
              refine o_run 1 [0, 1, 5, 9, 97, 101] (l := [((adr A5 (Int.toNat p3 * 2)), .int .u32 e8.xLeft), (((adr A5 (Int.toNat p3 * 2)).add 1), .int .u32 e8.xRight)]) (.one ((At.sub (l := encT_api_Block e8) 0 (at_own (j := 1) (off := Int.toNat p3 * 2) rfl (row_at (enc := encT_api_Block) (sz := 2) (fun _ => rfl) hg8)) rfl)) (.one ((At.sub (l := encT_api_Block e8) 1 (at_own (j := 1) (off := Int.toNat p3 * 2) rfl (row_at (enc := encT_api_Block) (sz := 2) (fun _ => rfl) hg8)) rfl)) .nil)) (E' := [(0, .pointer (some ⟨g1, 0, none⟩)), (1, .int .i64 a1), (5, .slice A5 ((t1).length) c5), (9, .int .i64 p3), (97, .slice A6 p4.length c6), (101, .agg #[.int .u32 e8.xLeft, .int .u32 e8.xRight])]) (by kernel_rfl) ?_
              refine o_stp ?_ (by kernel_rfl)
              refine s_new 102 (fun g4 => .slice (some ⟨g4, 0, none⟩) 1 1) [.int .u32 e8.xLeft, .int .u32 e8.xRight] 57 (fun _ => by kernel_rfl) (fun g4 => ?_)
              obtain ⟨l4, hx13, hm⟩ := bind_some hm
              refine o_stp ?_ (by kernel_rfl)
              refine s_app (z := .agg #[.int .u32 0, .int .u32 0]) (enc := encT_api_Block) (ys := [e8]) (k := 1) (bytes := 8) 103 46 46 (.tmp 97) (.tmp 102) 1 hx13 rfl rfl (by kernel_rfl) (by kernel_rfl) (by kernel_rfl) (by kernel_rfl) (by kernel_rfl) (by kernel_rfl) rfl (src_blk (e := 57) (j := 0) (by kernel_rfl) rfl (by kernel_rfl) rfl (by kernel_rfl)) (by decide) (fun A12 c12 => ?_)
              refine t_L (L' := [.blk g4 [.int .u32 e8.xLeft, .int .u32 e8.xRight] 57, .own A12 l4.length c12 (rowOf encT_api_Block l4) 2 57, .own A5 ((t1).length) c5 (rowOf encT_api_Block t1) 2 57, .blk g1 [.int .i64 a0.xRoom, .int .u32 a0.xNext, .slice A1 a0.xIn.length c1, .slice A2 a0.xCame.length c2, .slice A3 a0.xOut.length c3, .int .u32 a0.xLast, .bool a0.xHas] 42, .own A2 a0.xCame.length c2 (rowOf encB a0.xCame) 1 4, .own A3 a0.xOut.length c3 (rowOf (encI .u8) a0.xOut) 1 5]) (by kernel_rfl) ?_
              refine o_run 1 [0, 1, 5, 8, 9] (l := []) .nil (E' := [(0, .pointer (some ⟨g1, 0, none⟩)), (1, .int .i64 a1), (5, .slice A5 ((t1).length) c5), (8, .slice A12 l4.length c12), (9, .int .i64 p3)]) (by kernel_rfl) ?_
              refine o_end (by kernel_rfl) ?_
              refine e_blk ?_
              refine e_seq ?_
              refine w_region (by kernel_rfl) ?_
              refine o_run 3 [0, 1, 5, 8, 9] (l := []) .nil (E' := [(0, .pointer (some ⟨g1, 0, none⟩)), (1, .int .i64 a1), (5, .slice A5 ((t1).length) c5), (8, .slice A12 l4.length c12), (9, .int .i64 (I64 (p3 + 1)))]) (by kernel_rfl) ?_
              refine o_end (by kernel_rfl) ?_
              refine t_drop [1, 2, 3, 4, 5] (by kernel_rfl) ?_
              refine t_L (L' := [.own A12 l4.length c12 (rowOf encT_api_Block l4) 2 57, .own A5 ((t1).length) c5 (rowOf encT_api_Block t1) 2 57, .blk g1 [.int .i64 a0.xRoom, .int .u32 a0.xNext, .slice A1 a0.xIn.length c1, .slice A2 a0.xCame.length c2, .slice A3 a0.xOut.length c3, .int .u32 a0.xLast, .bool a0.xHas] 42, .own A2 a0.xCame.length c2 (rowOf encB a0.xCame) 1 4, .own A3 a0.xOut.length c3 (rowOf (encI .u8) a0.xOut) 1 5]) (by kernel_rfl) ?_
              refine t_env [0, 1, 5, 8, 9] (E' := [(0, .pointer (some ⟨g1, 0, none⟩)), (1, .int .i64 a1), (5, .slice A5 ((t1).length) c5), (8, .slice A12 l4.length c12), (9, .int .i64 (I64 (p3 + 1)))]) (by kernel_rfl) ?_
              exact e_inv (fun a w ha hw => ⟨k, Nat.lt_succ_self k, (I64 (p3 + 1)), l4, A12, c12, hm, ha, hw⟩)
            · replace hm := ite_f hb6 hm
              refine w_skip (by kernel_rfl) ?_
              refine e_blk ?_
              refine e_seq ?_
              refine w_region (by kernel_rfl) ?_
              refine o_run 3 [0, 1, 5, 8, 9] (l := []) .nil (E' := [(0, .pointer (some ⟨g1, 0, none⟩)), (1, .int .i64 a1), (5, .slice A5 ((t1).length) c5), (8, .slice A6 p4.length c6), (9, .int .i64 (I64 (p3 + 1)))]) (by kernel_rfl) ?_
              refine o_end (by kernel_rfl) ?_
              refine t_drop [0, 1, 2, 3, 4] (by kernel_rfl) ?_
              refine t_L (L' := [.own A6 p4.length c6 (rowOf encT_api_Block p4) 2 57, .own A5 ((t1).length) c5 (rowOf encT_api_Block t1) 2 57, .blk g1 [.int .i64 a0.xRoom, .int .u32 a0.xNext, .slice A1 a0.xIn.length c1, .slice A2 a0.xCame.length c2, .slice A3 a0.xOut.length c3, .int .u32 a0.xLast, .bool a0.xHas] 42, .own A2 a0.xCame.length c2 (rowOf encB a0.xCame) 1 4, .own A3 a0.xOut.length c3 (rowOf (encI .u8) a0.xOut) 1 5]) (by kernel_rfl) ?_
              refine t_env [0, 1, 5, 8, 9] (E' := [(0, .pointer (some ⟨g1, 0, none⟩)), (1, .int .i64 a1), (5, .slice A5 ((t1).length) c5), (8, .slice A6 p4.length c6), (9, .int .i64 (I64 (p3 + 1)))]) (by kernel_rfl) ?_
              exact e_inv (fun a w ha hw => ⟨k, Nat.lt_succ_self k, (I64 (p3 + 1)), p4, A6, c6, hm, ha, hw⟩)
          · replace hm := ite_f hb5 hm
            refine q_run 23 [0, 1, 5, 8, 9, 96] (l := []) .nil (E' := [(0, .pointer (some ⟨g1, 0, none⟩)), (1, .int .i64 a1), (5, .slice A5 ((t1).length) c5), (8, .slice A6 p4.length c6), (9, .int .i64 p3), (96, .bool false)]) (by kernel_rfl) ?_
            refine q_end (by kernel_rfl) ?_
            refine e_seq ?_
            refine w_cond_f (.tmp 96) 16018 16019 (by kernel_rfl) (by kernel_rfl) ?_
            refine w_skip (by kernel_rfl) ?_
            refine e_blk ?_
            refine e_seq ?_
            refine w_region (by kernel_rfl) ?_
            refine o_run 3 [0, 1, 5, 8, 9] (l := []) .nil (E' := [(0, .pointer (some ⟨g1, 0, none⟩)), (1, .int .i64 a1), (5, .slice A5 ((t1).length) c5), (8, .slice A6 p4.length c6), (9, .int .i64 (I64 (p3 + 1)))]) (by kernel_rfl) ?_
            refine o_end (by kernel_rfl) ?_
            refine t_drop [0, 1, 2, 3, 4] (by kernel_rfl) ?_
            refine t_L (L' := [.own A6 p4.length c6 (rowOf encT_api_Block p4) 2 57, .own A5 ((t1).length) c5 (rowOf encT_api_Block t1) 2 57, .blk g1 [.int .i64 a0.xRoom, .int .u32 a0.xNext, .slice A1 a0.xIn.length c1, .slice A2 a0.xCame.length c2, .slice A3 a0.xOut.length c3, .int .u32 a0.xLast, .bool a0.xHas] 42, .own A2 a0.xCame.length c2 (rowOf encB a0.xCame) 1 4, .own A3 a0.xOut.length c3 (rowOf (encI .u8) a0.xOut) 1 5]) (by kernel_rfl) ?_
            refine t_env [0, 1, 5, 8, 9] (E' := [(0, .pointer (some ⟨g1, 0, none⟩)), (1, .int .i64 a1), (5, .slice A5 ((t1).length) c5), (8, .slice A6 p4.length c6), (9, .int .i64 (I64 (p3 + 1)))]) (by kernel_rfl) ?_
            exact e_inv (fun a w ha hw => ⟨k, Nat.lt_succ_self k, (I64 (p3 + 1)), p4, A6, c6, hm, ha, hw⟩)
        · replace hm := ite_f hb4 hm
          refine w_exit 2 (by kernel_rfl) ?_
          refine e_x_seq ?_
          refine e_x_inv ?_
          refine e_x_here ?_
          refine t_drop [0, 1, 2, 3, 4] (by kernel_rfl) ?_
          refine t_L (L' := [.own A6 p4.length c6 (rowOf encT_api_Block p4) 2 57, .own A5 ((t1).length) c5 (rowOf encT_api_Block t1) 2 57, .blk g1 [.int .i64 a0.xRoom, .int .u32 a0.xNext, .slice A1 a0.xIn.length c1, .slice A2 a0.xCame.length c2, .slice A3 a0.xOut.length c3, .int .u32 a0.xLast, .bool a0.xHas] 42, .own A2 a0.xCame.length c2 (rowOf encB a0.xCame) 1 4, .own A3 a0.xOut.length c3 (rowOf (encI .u8) a0.xOut) 1 5]) (by kernel_rfl) ?_
          refine t_env [1, 5, 8] (E' := [(1, .int .i64 a1), (5, .slice A5 ((t1).length) c5), (8, .slice A6 p4.length c6)]) (by kernel_rfl) ?_
          obtain rfl := Option.some.inj hm
          exact e_inv (fun a w ha hw => ⟨A6, c6, ha, hw⟩)
    · exact fun a w ha hw => ⟨0, ([] : List T_api_Block), none, 0, ht2, ha, hw⟩
  · rintro k a w ⟨p1, p2, A4, c4, hm, ha, hw⟩
    cases k with
    | zero => exact absurd hm (by simp [downhaulref26_Buffer_Blocks.l1])
    | succ k =>
      unfold downhaulref26_Buffer_Blocks.l1 at hm
      refine wc_of (E := [(0, .pointer (some ⟨g1, 0, none⟩)), (1, .int .i64 a1), (5, .slice A4 p2.length c4), (6, .int .i64 p1)]) (B := B) (G := G) (L := [.own A4 p2.length c4 (rowOf encT_api_Block p2) 2 57, .blk g1 [.int .i64 a0.xRoom, .int .u32 a0.xNext, .slice A1 a0.xIn.length c1, .slice A2 a0.xCame.length c2, .slice A3 a0.xOut.length c3, .int .u32 a0.xLast, .bool a0.xHas] 42, .own A2 a0.xCame.length c2 (rowOf encB a0.xCame) 1 4, .own A3 a0.xOut.length c3 (rowOf (encI .u8) a0.xOut) 1 5]) ?_ ha hw
      refine w_seq 232 233 (by kernel_rfl) ?_
      refine w_seq 464 465 (by kernel_rfl) ?_
      refine w_region (by kernel_rfl) ?_
      refine o_run 2 [0, 1, 5, 6, 16] (l := []) .nil (E' := [(0, .pointer (some ⟨g1, 0, none⟩)), (1, .int .i64 a1), (5, .slice A4 p2.length c4), (6, .int .i64 p1), (16, .bool (decide (p1 ≥ 0)))]) (by kernel_rfl) ?_
      refine o_end (by kernel_rfl) ?_
      refine e_seq ?_
      refine w_cond (.tmp 16) 930 931 (decide (p1 ≥ 0)) (by kernel_rfl) (by kernel_rfl) (fun hb7 => ?_) (fun hb7 => ?_)
      · replace hm := ite_t hb7 hm
        refine w_skip (by kernel_rfl) ?_
        refine e_seq ?_
        refine w_seq 466 467 (by kernel_rfl) ?_
        refine w_block 1 932 (by kernel_rfl) ?_
        refine w_seq 1864 1865 (by kernel_rfl) ?_
        refine w_seq 3728 3729 (by kernel_rfl) ?_
        refine w_region (by kernel_rfl) ?_
        refine o_run 5 [0, 1, 5, 6, 22, 23] (l := [(⟨g1, 3, none⟩, .slice A2 a0.xCame.length c2)]) (.one (at_blk (j := 1) rfl rfl) .nil) (E' := [(0, .pointer (some ⟨g1, 0, none⟩)), (1, .int .i64 a1), (5, .slice A4 p2.length c4), (6, .int .i64 p1), (22, .slice A2 a0.xCame.length c2), (23, .int .i64 p1)]) (by kernel_rfl) ?_
        obtain ⟨e9, hx14, hm⟩ := bind_some hm
        obtain ⟨hi17, hi18, hg9⟩ := idx_some hx14
        refine o_val 24 (.indexAddr 40 (.tmp 22) (.tmp 23)) (.pointer (some (adr A2 (Int.toNat p1 * 1)))) (by kernel_rfl) (v_index (k := .i64) (c := c2) (by kernel_rfl) (by kernel_rfl) (by kernel_rfl) hi17 hi18 (own_some (j := 2) rfl hi18 hi17)) ?_
        refine o_run 2 [0, 1, 5, 6, 26] (l := [((adr A2 (Int.toNat p1 * 1)), .bool e9)]) (.one ((At.sub (l := encB e9) 0 (at_own (j := 2) (off := Int.toNat p1 * 1) rfl (row_at (enc := encB) (sz := 1) (fun _ => rfl) hg9)) rfl)) .nil) (E' := [(0, .pointer (some ⟨g1, 0, none⟩)), (1, .int .i64 a1), (5, .slice A4 p2.length c4), (6, .int .i64 p1), (26, .bool (!e9))]) (by kernel_rfl) ?_
        refine o_end (by kernel_rfl) ?_
        refine e_seq ?_
        refine w_cond (.tmp 26) 7458 7459 (!e9) (by kernel_rfl) (by kernel_rfl) (fun hb8 => ?_) (fun hb8 => ?_)
        · replace hm := ite_t hb8 hm
          refine w_exit 1 (by kernel_rfl) ?_
          refine e_x_seq ?_
          refine e_x_here ?_
          refine e_seq ?_
          refine w_region (by kernel_rfl) ?_
          refine o_run 3 [0, 1, 5, 6] (l := []) .nil (E' := [(0, .pointer (some ⟨g1, 0, none⟩)), (1, .int .i64 a1), (5, .slice A4 p2.length c4), (6, .int .i64 (I64 (p1 - 1)))]) (by kernel_rfl) ?_
          refine o_end (by kernel_rfl) ?_
          refine t_drop [0, 1, 2, 3] (by kernel_rfl) ?_
          refine t_L (L' := [.own A4 p2.length c4 (rowOf encT_api_Block p2) 2 57, .blk g1 [.int .i64 a0.xRoom, .int .u32 a0.xNext, .slice A1 a0.xIn.length c1, .slice A2 a0.xCame.length c2, .slice A3 a0.xOut.length c3, .int .u32 a0.xLast, .bool a0.xHas] 42, .own A2 a0.xCame.length c2 (rowOf encB a0.xCame) 1 4, .own A3 a0.xOut.length c3 (rowOf (encI .u8) a0.xOut) 1 5]) (by kernel_rfl) ?_
          refine t_env [0, 1, 5, 6] (E' := [(0, .pointer (some ⟨g1, 0, none⟩)), (1, .int .i64 a1), (5, .slice A4 p2.length c4), (6, .int .i64 (I64 (p1 - 1)))]) (by kernel_rfl) ?_
          exact e_inv (fun a w ha hw => ⟨k, Nat.lt_succ_self k, (I64 (p1 - 1)), p2, A4, c4, hm, ha, hw⟩)
        · replace hm := ite_f hb8 hm
          refine w_skip (by kernel_rfl) ?_
          refine e_seq ?_
          refine w_seq 3730 3731 (by kernel_rfl) ?_
          refine w_region (by kernel_rfl) ?_
          refine o_run 8 [0, 1, 5, 6, 7] (l := [(⟨g1, 1, none⟩, .int .u32 a0.xNext)]) (.one (at_blk (j := 1) rfl rfl) .nil) (E' := [(0, .pointer (some ⟨g1, 0, none⟩)), (1, .int .i64 a1), (5, .slice A4 p2.length c4), (6, .int .i64 p1), (7, .int .u32 (U32 (a0.xNext + (U32 p1))))]) (by kernel_rfl) ?_
          refine o_end (by kernel_rfl) ?_
          refine e_seq ?_
          refine w_seq 7462 7463 (by kernel_rfl) ?_
          refine w_region (by kernel_rfl) ?_
          refine o_run 4 [0, 1, 5, 6, 7, 37] (l := []) .nil (E' := [(0, .pointer (some ⟨g1, 0, none⟩)), (1, .int .i64 a1), (5, .slice A4 p2.length c4), (6, .int .i64 p1), (7, .int .u32 (U32 (a0.xNext + (U32 p1)))), (37, .bool (decide ((p2.length : Int) > 0)))]) (by kernel_rfl) ?_
          refine o_split 37 (decide ((p2.length : Int) > 0)) (by kernel_rfl) (fun hb9 => ?_) (fun hb9 => ?_)
          · replace hm := ite_t hb9 hm
            refine o_run 4 [0, 1, 5, 6, 7, 37, 38, 41] (l := []) .nil (E' := [(0, .pointer (some ⟨g1, 0, none⟩)), (1, .int .i64 a1), (5, .slice A4 p2.length c4), (6, .int .i64 p1), (7, .int .u32 (U32 (a0.xNext + (U32 p1)))), (37, .bool true), (38, .slice A4 p2.length c4), (41, .int .i64 (I64 ((p2.length : Int) - 1)))]) (by kernel_rfl) ?_
            obtain ⟨e10, hx15, hm⟩ := bind_some hm
            obtain ⟨hi19, hi20, hg10⟩ := idx_some hx15
            refine o_val 42 (.indexAddr 46 (.tmp 38) (.tmp 41)) (.pointer (some (adr A4 (Int.toNat (I64 ((p2.length : Int) - 1)) * 2)))) (by kernel_rfl) (v_index (k := .i64) (c := c4) (by kernel_rfl) (by kernel_rfl) (by kernel_rfl) hi19 hi20 (own_some (j := 0) rfl hi20 hi19)) ?_
            refine o_run 6 [0, 1, 5, 6, 7, 48] (l := [((adr A4 (Int.toNat (I64 ((p2.length : Int) - 1)) * 2)), .int .u32 e10.xLeft)]) (.one ((At.sub (l := encT_api_Block e10) 0 (at_own (j := 0) (off := Int.toNat (I64 ((p2.length : Int) - 1)) * 2) rfl (row_at (enc := encT_api_Block) (sz := 2) (fun _ => rfl) hg10)) rfl)) .nil) (E' := [(0, .pointer (some ⟨g1, 0, none⟩)), (1, .int .i64 a1), (5, .slice A4 p2.length c4), (6, .int .i64 p1), (7, .int .u32 (U32 (a0.xNext + (U32 p1)))), (48, .bool (e10.xLeft == (U32 ((U32 (a0.xNext + (U32 p1))) + 1))))]) (by kernel_rfl) ?_
            refine o_end (by kernel_rfl) ?_
            refine e_seq ?_
            refine w_cond (.tmp 48) 14926 14927 (e10.xLeft == (U32 ((U32 (a0.xNext + (U32 p1))) + 1))) (by kernel_rfl) (by kernel_rfl) (fun hb10 => ?_) (fun hb10 => ?_)
            · replace hm := ite_t hb10 hm
              refine w_region (by kernel_rfl) ?_
              refine o_run 5 [0, 1, 5, 6, 49, 52, 53] (l := []) .nil (E' := [(0, .pointer (some ⟨g1, 0, none⟩)), (1, .int .i64 a1), (5, .slice A4 p2.length c4), (6, .int .i64 p1), (49, .slice A4 p2.length c4), (52, .int .i64 (I64 ((p2.length : Int) - 1))), (53, .int .u32 (U32 (a0.xNext + (U32 p1))))]) (by kernel_rfl) ?_
              obtain ⟨e11, hx16, hm⟩ := bind_some hm
              obtain ⟨hi21, hi22, hg11⟩ := idx_some hx16
              refine o_val 54 (.indexAddr 46 (.tmp 49) (.tmp 52)) (.pointer (some (adr A4 (Int.toNat (I64 ((p2.length : Int) - 1)) * 2)))) (by kernel_rfl) (v_index (k := .i64) (c := c4) (by kernel_rfl) (by kernel_rfl) (by kernel_rfl) hi21 hi22 (own_some (j := 0) rfl hi22 hi21)) ?_
              refine o_run 1 [0, 1, 5, 6, 53, 55] (l := []) .nil (E' := [(0, .pointer (some ⟨g1, 0, none⟩)), (1, .int .i64 a1), (5, .slice A4 p2.length c4), (6, .int .i64 p1), (53, .int .u32 (U32 (a0.xNext + (U32 p1)))), (55, .pointer (some (adr A4 (Int.toNat (I64 ((p2.length : Int) - 1)) * 2))))]) (by kernel_rfl) ?_
              refine o_stp ?_ (by kernel_rfl)
              refine s_setF (enc := encT_api_Block) (v := .int .u32 (U32 (a0.xNext + (U32 p1)))) (q := Int.toNat (I64 ((p2.length : Int) - 1))) (o := 0) 23 (.tmp 55) (.tmp 53) 0 (l := [.int .u32 (U32 (a0.xNext + (U32 p1)))]) (x' := (⟨U32 (a0.xNext + (U32 p1)), e11.xRight⟩ : T_api_Block)) (by kernel_rfl) (by kernel_rfl) (by kernel_rfl) rfl (by kernel_rfl) rfl (fun _ => rfl) hg11 (Nat.le_of_ble_eq_true rfl) rfl rfl (Nat.le_of_ble_eq_true rfl) ?_
              have hl1 : p2.length = (p2.set (Int.toNat (I64 ((p2.length : Int) - 1))) (⟨U32 (a0.xNext + (U32 p1)), e11.xRight⟩ : T_api_Block)).length := Eq.trans rfl List.length_set.symm
              refine o_end (by kernel_rfl) ?_
              refine e_blk ?_
              refine e_seq ?_
              refine w_region (by kernel_rfl) ?_
              refine o_run 3 [0, 1, 5, 6] (l := []) .nil (E' := [(0, .pointer (some ⟨g1, 0, none⟩)), (1, .int .i64 a1), (5, .slice A4 p2.length c4), (6, .int .i64 (I64 (p1 - 1)))]) (by kernel_rfl) ?_
              refine o_end (by kernel_rfl) ?_
              refine t_env [0, 1, 5, 6] (E' := [(0, .pointer (some ⟨g1, 0, none⟩)), (1, .int .i64 a1), (5, .slice A4 p2.length c4), (6, .int .i64 (I64 (p1 - 1)))]) (by kernel_rfl) ?_
              refine t_EL (E' := [(0, .pointer (some ⟨g1, 0, none⟩)), (1, .int .i64 a1), (5, .slice A4 ((p2.set (Int.toNat (I64 ((p2.length : Int) - 1))) (⟨U32 (a0.xNext + (U32 p1)), e11.xRight⟩ : T_api_Block)).length) c4), (6, .int .i64 (I64 (p1 - 1)))]) (L' := [.own A4 ((p2.set (Int.toNat (I64 ((p2.length : Int) - 1))) (⟨U32 (a0.xNext + (U32 p1)), e11.xRight⟩ : T_api_Block)).length) c4 (rowOf encT_api_Block (p2.set (Int.toNat (I64 ((p2.length : Int) - 1))) (⟨U32 (a0.xNext + (U32 p1)), e11.xRight⟩ : T_api_Block))) 2 57, .blk g1 [.int .i64 a0.xRoom, .int .u32 a0.xNext, .slice A1 a0.xIn.length c1, .slice A2 a0.xCame.length c2, .slice A3 a0.xOut.length c3, .int .u32 a0.xLast, .bool a0.xHas] 42, .own A2 a0.xCame.length c2 (rowOf encB a0.xCame) 1 4, .own A3 a0.xOut.length c3 (rowOf (encI .u8) a0.xOut) 1 5]) (eq_of_len hl1 (fun n => ([(0, .pointer (some ⟨g1, 0, none⟩)), (1, .int .i64 a1), (5, .slice A4 n c4), (6, .int .i64 (I64 (p1 - 1)))], [.own A4 n c4 (rowOf encT_api_Block (p2.set (Int.toNat (I64 ((p2.length : Int) - 1))) (⟨U32 (a0.xNext + (U32 p1)), e11.xRight⟩ : T_api_Block))) 2 57, .blk g1 [.int .i64 a0.xRoom, .int .u32 a0.xNext, .slice A1 a0.xIn.length c1, .slice A2 a0.xCame.length c2, .slice A3 a0.xOut.length c3, .int .u32 a0.xLast, .bool a0.xHas] 42, .own A2 a0.xCame.length c2 (rowOf encB a0.xCame) 1 4, .own A3 a0.xOut.length c3 (rowOf (encI .u8) a0.xOut) 1 5])) rfl rfl) ?_
              refine t_drop [0, 1, 2, 3] (by kernel_rfl) ?_
              refine t_L (L' := [.own A4 ((p2.set (Int.toNat (I64 ((p2.length : Int) - 1))) (⟨U32 (a0.xNext + (U32 p1)), e11.xRight⟩ : T_api_Block)).length) c4 (rowOf encT_api_Block (p2.set (Int.toNat (I64 ((p2.length : Int) - 1))) (⟨U32 (a0.xNext + (U32 p1)), e11.xRight⟩ : T_api_Block))) 2 57, .blk g1 [.int .i64 a0.xRoom, .int .u32 a0.xNext, .slice A1 a0.xIn.length c1, .slice A2 a0.xCame.length c2, .slice A3 a0.xOut.length c3, .int .u32 a0.xLast, .bool a0.xHas] 42, .own A2 a0.xCame.length c2 (rowOf encB a0.xCame) 1 4, .own A3 a0.xOut.length c3 (rowOf (encI .u8) a0.xOut) 1 5]) (by kernel_rfl) ?_
              refine t_env [0, 1, 5, 6] (E' := [(0, .pointer (some ⟨g1, 0, none⟩)), (1, .int .i64 a1), (5, .slice A4 ((p2.set (Int.toNat (I64 ((p2.length : Int) - 1))) (⟨U32 (a0.xNext + (U32 p1)), e11.xRight⟩ : T_api_Block)).length) c4), (6, .int .i64 (I64 (p1 - 1)))]) (by kernel_rfl) ?_
              exact e_inv (fun a w ha hw => ⟨k, Nat.lt_succ_self k, (I64 (p1 - 1)), (p2.set (Int.toNat (I64 ((p2.length : Int) - 1))) (⟨U32 (a0.xNext + (U32 p1)), e11.xRight⟩ : T_api_Block)), A4, c4, hm, ha, hw⟩)
            · replace hm := ite_f hb10 hm
              refine w_region (by kernel_rfl) ?_
              refine o_run 5 [0, 1, 6, 56, 60] (l := []) .nil (E' := [(0, .pointer (some ⟨g1, 0, none⟩)), (1, .int .i64 a1), (6, .int .i64 p1), (56, .slice A4 p2.length c4), (60, .agg #[.int .u32 (U32 (a0.xNext + (U32 p1))), .int .u32 (U32 ((U32 (a0.xNext + (U32 p1))) + 1))])]) (by kernel_rfl) ?_
              refine o_stp ?_ (by kernel_rfl)
              refine s_new 61 (fun g5 => .slice (some ⟨g5, 0, none⟩) 1 1) [.int .u32 (U32 (a0.xNext + (U32 p1))), .int .u32 (U32 ((U32 (a0.xNext + (U32 p1))) + 1))] 57 (fun _ => by kernel_rfl) (fun g5 => ?_)
              obtain ⟨l5, hx17, hm⟩ := bind_some hm
              refine o_stp ?_ (by kernel_rfl)
              refine s_app (z := .agg #[.int .u32 0, .int .u32 0]) (enc := encT_api_Block) (ys := [(⟨U32 (a0.xNext + (U32 p1)), U32 ((U32 (a0.xNext + (U32 p1))) + 1)⟩ : T_api_Block)]) (k := 1) (bytes := 8) 62 46 46 (.tmp 56) (.tmp 61) 1 hx17 rfl rfl (by kernel_rfl) (by kernel_rfl) (by kernel_rfl) (by kernel_rfl) (by kernel_rfl) (by kernel_rfl) rfl (src_blk (e := 57) (j := 0) (by kernel_rfl) rfl (by kernel_rfl) rfl (by kernel_rfl)) (by decide) (fun A13 c13 => ?_)
              refine t_L (L' := [.blk g5 [.int .u32 (U32 (a0.xNext + (U32 p1))), .int .u32 (U32 ((U32 (a0.xNext + (U32 p1))) + 1))] 57, .own A13 l5.length c13 (rowOf encT_api_Block l5) 2 57, .blk g1 [.int .i64 a0.xRoom, .int .u32 a0.xNext, .slice A1 a0.xIn.length c1, .slice A2 a0.xCame.length c2, .slice A3 a0.xOut.length c3, .int .u32 a0.xLast, .bool a0.xHas] 42, .own A2 a0.xCame.length c2 (rowOf encB a0.xCame) 1 4, .own A3 a0.xOut.length c3 (rowOf (encI .u8) a0.xOut) 1 5]) (by kernel_rfl) ?_
              refine o_run 1 [0, 1, 5, 6] (l := []) .nil (E' := [(0, .pointer (some ⟨g1, 0, none⟩)), (1, .int .i64 a1), (5, .slice A13 l5.length c13), (6, .int .i64 p1)]) (by kernel_rfl) ?_
              refine o_end (by kernel_rfl) ?_
              refine e_blk ?_
              refine e_seq ?_
              refine w_region (by kernel_rfl) ?_
              refine o_run 3 [0, 1, 5, 6] (l := []) .nil (E' := [(0, .pointer (some ⟨g1, 0, none⟩)), (1, .int .i64 a1), (5, .slice A13 l5.length c13), (6, .int .i64 (I64 (p1 - 1)))]) (by kernel_rfl) ?_
              refine o_end (by kernel_rfl) ?_
              refine t_drop [1, 2, 3, 4] (by kernel_rfl) ?_
              refine t_L (L' := [.own A13 l5.length c13 (rowOf encT_api_Block l5) 2 57, .blk g1 [.int .i64 a0.xRoom, .int .u32 a0.xNext, .slice A1 a0.xIn.length c1, .slice A2 a0.xCame.length c2, .slice A3 a0.xOut.length c3, .int .u32 a0.xLast, .bool a0.xHas] 42, .own A2 a0.xCame.length c2 (rowOf encB a0.xCame) 1 4, .own A3 a0.xOut.length c3 (rowOf (encI .u8) a0.xOut) 1 5]) (by kernel_rfl) ?_
              refine t_env [0, 1, 5, 6] (E' := [(0, .pointer (some ⟨g1, 0, none⟩)), (1, .int .i64 a1), (5, .slice A13 l5.length c13), (6, .int .i64 (I64 (p1 - 1)))]) (by kernel_rfl) ?_
              exact e_inv (fun a w ha hw => ⟨k, Nat.lt_succ_self k, (I64 (p1 - 1)), l5, A13, c13, hm, ha, hw⟩)
          · replace hm := ite_f hb9 hm
            refine o_run 11 [0, 1, 5, 6, 7, 48] (l := []) .nil (E' := [(0, .pointer (some ⟨g1, 0, none⟩)), (1, .int .i64 a1), (5, .slice A4 p2.length c4), (6, .int .i64 p1), (7, .int .u32 (U32 (a0.xNext + (U32 p1)))), (48, .bool false)]) (by kernel_rfl) ?_
            refine o_end (by kernel_rfl) ?_
            refine e_seq ?_
            refine w_cond_f (.tmp 48) 14926 14927 (by kernel_rfl) (by kernel_rfl) ?_
            refine w_region (by kernel_rfl) ?_
            refine o_run 5 [0, 1, 6, 56, 60] (l := []) .nil (E' := [(0, .pointer (some ⟨g1, 0, none⟩)), (1, .int .i64 a1), (6, .int .i64 p1), (56, .slice A4 p2.length c4), (60, .agg #[.int .u32 (U32 (a0.xNext + (U32 p1))), .int .u32 (U32 ((U32 (a0.xNext + (U32 p1))) + 1))])]) (by kernel_rfl) ?_
            refine o_stp ?_ (by kernel_rfl)
            refine s_new 61 (fun g6 => .slice (some ⟨g6, 0, none⟩) 1 1) [.int .u32 (U32 (a0.xNext + (U32 p1))), .int .u32 (U32 ((U32 (a0.xNext + (U32 p1))) + 1))] 57 (fun _ => by kernel_rfl) (fun g6 => ?_)
            obtain ⟨l6, hx18, hm⟩ := bind_some hm
            refine o_stp ?_ (by kernel_rfl)
            refine s_app (z := .agg #[.int .u32 0, .int .u32 0]) (enc := encT_api_Block) (ys := [(⟨U32 (a0.xNext + (U32 p1)), U32 ((U32 (a0.xNext + (U32 p1))) + 1)⟩ : T_api_Block)]) (k := 1) (bytes := 8) 62 46 46 (.tmp 56) (.tmp 61) 1 hx18 rfl rfl (by kernel_rfl) (by kernel_rfl) (by kernel_rfl) (by kernel_rfl) (by kernel_rfl) (by kernel_rfl) rfl (src_blk (e := 57) (j := 0) (by kernel_rfl) rfl (by kernel_rfl) rfl (by kernel_rfl)) (by decide) (fun A14 c14 => ?_)
            refine t_L (L' := [.blk g6 [.int .u32 (U32 (a0.xNext + (U32 p1))), .int .u32 (U32 ((U32 (a0.xNext + (U32 p1))) + 1))] 57, .own A14 l6.length c14 (rowOf encT_api_Block l6) 2 57, .blk g1 [.int .i64 a0.xRoom, .int .u32 a0.xNext, .slice A1 a0.xIn.length c1, .slice A2 a0.xCame.length c2, .slice A3 a0.xOut.length c3, .int .u32 a0.xLast, .bool a0.xHas] 42, .own A2 a0.xCame.length c2 (rowOf encB a0.xCame) 1 4, .own A3 a0.xOut.length c3 (rowOf (encI .u8) a0.xOut) 1 5]) (by kernel_rfl) ?_
            refine o_run 1 [0, 1, 5, 6] (l := []) .nil (E' := [(0, .pointer (some ⟨g1, 0, none⟩)), (1, .int .i64 a1), (5, .slice A14 l6.length c14), (6, .int .i64 p1)]) (by kernel_rfl) ?_
            refine o_end (by kernel_rfl) ?_
            refine e_blk ?_
            refine e_seq ?_
            refine w_region (by kernel_rfl) ?_
            refine o_run 3 [0, 1, 5, 6] (l := []) .nil (E' := [(0, .pointer (some ⟨g1, 0, none⟩)), (1, .int .i64 a1), (5, .slice A14 l6.length c14), (6, .int .i64 (I64 (p1 - 1)))]) (by kernel_rfl) ?_
            refine o_end (by kernel_rfl) ?_
            refine t_drop [1, 2, 3, 4] (by kernel_rfl) ?_
            refine t_L (L' := [.own A14 l6.length c14 (rowOf encT_api_Block l6) 2 57, .blk g1 [.int .i64 a0.xRoom, .int .u32 a0.xNext, .slice A1 a0.xIn.length c1, .slice A2 a0.xCame.length c2, .slice A3 a0.xOut.length c3, .int .u32 a0.xLast, .bool a0.xHas] 42, .own A2 a0.xCame.length c2 (rowOf encB a0.xCame) 1 4, .own A3 a0.xOut.length c3 (rowOf (encI .u8) a0.xOut) 1 5]) (by kernel_rfl) ?_
            refine t_env [0, 1, 5, 6] (E' := [(0, .pointer (some ⟨g1, 0, none⟩)), (1, .int .i64 a1), (5, .slice A14 l6.length c14), (6, .int .i64 (I64 (p1 - 1)))]) (by kernel_rfl) ?_
            exact e_inv (fun a w ha hw => ⟨k, Nat.lt_succ_self k, (I64 (p1 - 1)), l6, A14, c14, hm, ha, hw⟩)
      · replace hm := ite_f hb7 hm
        refine w_exit 0 (by kernel_rfl) ?_
        refine e_x_seq ?_
        refine e_x_inv ?_
        refine e_x_here ?_
        refine t_drop [0, 1, 2, 3] (by kernel_rfl) ?_
        refine t_L (L' := [.own A4 p2.length c4 (rowOf encT_api_Block p2) 2 57, .blk g1 [.int .i64 a0.xRoom, .int .u32 a0.xNext, .slice A1 a0.xIn.length c1, .slice A2 a0.xCame.length c2, .slice A3 a0.xOut.length c3, .int .u32 a0.xLast, .bool a0.xHas] 42, .own A2 a0.xCame.length c2 (rowOf encB a0.xCame) 1 4, .own A3 a0.xOut.length c3 (rowOf (encI .u8) a0.xOut) 1 5]) (by kernel_rfl) ?_
        refine t_env [0, 1, 5] (E' := [(0, .pointer (some ⟨g1, 0, none⟩)), (1, .int .i64 a1), (5, .slice A4 p2.length c4)]) (by kernel_rfl) ?_
        obtain rfl := Option.some.inj hm
        exact e_inv (fun a w ha hw => ⟨A4, c4, ha, hw⟩)
  · exact fun a w ha hw => ⟨a0.xRoom, ([] : List T_api_Block), none, 0, ht1, ha, hw⟩
def downhaullaw26_same.l1 : Nat → (List T_api_Block) → (List T_api_Block) → Int → Option ((Bool) ⊕ (Unit))
  | 0, _, _, _ => none
  | k + 1, a0, a1, p1 => (if decide (p1 < (a0.length : Int)) then ((idx a0 p1).bind fun e1 => ((idx a1 p1).bind fun e2 => (if !((e1.xLeft == e2.xLeft) && (e1.xRight == e2.xRight)) then (some (.inl false)) else (downhaullaw26_same.l1 k a0 a1 (I64 (p1 + 1)))))) else (some (.inr ())))
def downhaullaw26_same.f (k : Nat) (a0 : List T_api_Block) (a1 : List T_api_Block) : Option (Bool) :=
  (if (a0.length : Int) != (a1.length : Int) then (some false) else ((downhaullaw26_same.l1 k a0 a1 0).bind fun t1 => brk t1 (fun r => some r) (fun u1 => (some true))))
theorem downhaullaw26_same_ok (k : Nat) (a0 : List T_api_Block) (a1 : List T_api_Block) (r : Bool) (hm : downhaullaw26_same.f k a0 a1 = some r) (B G : Asn) (A1 : Option Addr) (c1 : Nat) (A2 : Option Addr) (c2 : Nat) (hs1 : Sl kT_api_Block B A1 c1 a0) (hs2 : Sl kT_api_Block B A2 c2 a1) (w : World) (hs : St B G [] w) :
    Calls Try.prog 22 #[.slice A1 a0.length c1, .slice A2 a1.length c2] w (Post (X := Unit) (fun x => .bool r) (fun x => B) G (fun x => []) (fun x => True)) := by
  unfold downhaullaw26_same.f at hm
  refine calls_W (F := Try.f22) Try.func22 rfl (by kernel_rfl) (L := []) ?_ hs
  refine w_seq 2 3 (by kernel_rfl) ?_
  refine w_region (by kernel_rfl) ?_
  refine o_run 1 [0, 1] (l := []) .nil (E' := [(0, .slice A1 a0.length c1), (1, .slice A2 a1.length c2)]) (by kernel_rfl) ?_
  refine o_end (by kernel_rfl) ?_
  refine e_seq ?_
  refine w_seq 6 7 (by kernel_rfl) ?_
  refine w_seq 12 13 (by kernel_rfl) ?_
  refine w_region (by kernel_rfl) ?_
  refine o_run 5 [0, 1, 10] (l := []) .nil (E' := [(0, .slice A1 a0.length c1), (1, .slice A2 a1.length c2), (10, .bool ((a0.length : Int) != (a1.length : Int)))]) (by kernel_rfl) ?_
  refine o_end (by kernel_rfl) ?_
  refine e_seq ?_
  refine w_cond (.tmp 10) 26 27 ((a0.length : Int) != (a1.length : Int)) (by kernel_rfl) (by kernel_rfl) (fun hb1 => ?_) (fun hb1 => ?_)
  · replace hm := ite_t hb1 hm
    refine w_seq 52 53 (by kernel_rfl) ?_
    refine w_region (by kernel_rfl) ?_
    refine o_run 1 [4] (l := []) .nil (E' := [(4, .bool false)]) (by kernel_rfl) ?_
    refine o_end (by kernel_rfl) ?_
    refine e_seq ?_
    refine w_ret (by kernel_rfl) ?_
    obtain rfl := Option.some.inj hm
    exact e_retP () (.bool false) [] (by kernel_rfl) (by kernel_rfl) rfl (by kernel_rfl) (by kernel_rfl) trivial
  · replace hm := ite_f hb1 hm
    refine w_skip (by kernel_rfl) ?_
    refine e_seq ?_
    refine w_seq 14 15 (by kernel_rfl) ?_
    refine w_seq 28 29 (by kernel_rfl) ?_
    refine w_region (by kernel_rfl) ?_
    refine o_run 3 [0, 1, 12, 13] (l := []) .nil (E' := [(0, .slice A1 a0.length c1), (1, .slice A2 a1.length c2), (12, .int .i64 (a0.length : Int)), (13, .int .i64 0)]) (by kernel_rfl) ?_
    refine o_end (by kernel_rfl) ?_
    refine e_seq ?_
    refine w_block 0 58 (by kernel_rfl) ?_
    obtain ⟨t1, ht1, ho1⟩ := bind_some hm
    refine t_env [0, 1, 12, 13] (E' := [(0, .slice A1 a0.length c1), (1, .slice A2 a1.length c2), (12, .int .i64 (a0.length : Int)), (13, .int .i64 0)]) (by kernel_rfl) ?_
    refine w_loopJ 116 0 (fun k a w => ∃ (p1 : Int), downhaullaw26_same.l1 k a0 a1 p1 = some t1 ∧ EnvOk [(0, .slice A1 a0.length c1), (1, .slice A2 a1.length c2), (12, .int .i64 (a0.length : Int)), (13, .int .i64 p1)] Try.f22.ntmps a ∧ St B G [] w) (fun a w => ∃ (u1 : Unit), t1 = .inr u1 ∧ EnvOk [] Try.f22.ntmps a ∧ St B G [] w) (by kernel_rfl) ?_ ?_ k ?_
    · rintro a w ⟨u1, hu, ha, hw⟩
      refine we_of (E := []) (B := B) (G := G) (L := []) ?_ ha hw
      subst hu
      replace hm := brk_inr ho1
      refine e_seq ?_
      refine w_seq 30 31 (by kernel_rfl) ?_
      refine w_region (by kernel_rfl) ?_
      refine o_run 1 [4] (l := []) .nil (E' := [(4, .bool true)]) (by kernel_rfl) ?_
      refine o_end (by kernel_rfl) ?_
      refine e_seq ?_
      refine w_ret (by kernel_rfl) ?_
      obtain rfl := Option.some.inj hm
      exact e_retP () (.bool true) [] (by kernel_rfl) (by kernel_rfl) rfl (by kernel_rfl) (by kernel_rfl) trivial
    · rintro k a w ⟨p1, hm, ha, hw⟩
      cases k with
      | zero => exact absurd hm (by simp [downhaullaw26_same.l1])
      | succ k =>
        unfold downhaullaw26_same.l1 at hm
        refine wc_of (E := [(0, .slice A1 a0.length c1), (1, .slice A2 a1.length c2), (12, .int .i64 (a0.length : Int)), (13, .int .i64 p1)]) (B := B) (G := G) (L := []) ?_ ha hw
        refine w_seq 232 233 (by kernel_rfl) ?_
        refine w_region (by kernel_rfl) ?_
        refine o_run 1 [0, 1, 12, 13, 14] (l := []) .nil (E' := [(0, .slice A1 a0.length c1), (1, .slice A2 a1.length c2), (12, .int .i64 (a0.length : Int)), (13, .int .i64 p1), (14, .bool (decide (p1 < (a0.length : Int))))]) (by kernel_rfl) ?_
        refine o_end (by kernel_rfl) ?_
        refine e_seq ?_
        refine w_seq 466 467 (by kernel_rfl) ?_
        refine w_cond (.tmp 14) 932 933 (decide (p1 < (a0.length : Int))) (by kernel_rfl) (by kernel_rfl) (fun hb2 => ?_) (fun hb2 => ?_)
        · replace hm := ite_t hb2 hm
          refine w_skip (by kernel_rfl) ?_
          refine e_seq ?_
          refine w_seq 934 935 (by kernel_rfl) ?_
          refine w_block 1 1868 (by kernel_rfl) ?_
          refine w_seq 3736 3737 (by kernel_rfl) ?_
          refine w_region (by kernel_rfl) ?_
          refine o_run 2 [0, 1, 5, 12, 13] (l := []) .nil (E' := [(0, .slice A1 a0.length c1), (1, .slice A2 a1.length c2), (5, .int .i64 p1), (12, .int .i64 (a0.length : Int)), (13, .int .i64 p1)]) (by kernel_rfl) ?_
          refine o_end (by kernel_rfl) ?_
          refine e_seq ?_
          refine w_seq 7474 7475 (by kernel_rfl) ?_
          refine w_quiet (by kernel_rfl) mixed (by kernel_rfl) ?_
          refine q_run 2 [0, 1, 5, 12, 13, 16, 17] (l := []) .nil (E' := [(0, .slice A1 a0.length c1), (1, .slice A2 a1.length c2), (5, .int .i64 p1), (12, .int .i64 (a0.length : Int)), (13, .int .i64 p1), (16, .slice A1 a0.length c1), (17, .int .i64 p1)]) (by kernel_rfl) ?_
          obtain ⟨e1, hx1, hm⟩ := bind_some hm
          obtain ⟨hi1, hi2, hg1⟩ := idx_some hx1
          obtain ⟨cs1, hk1, hc1⟩ := (hs1).at hg1
          obtain rfl := hk1
          refine q_val 18 (.indexAddr 46 (.tmp 16) (.tmp 17)) (.pointer (some (adr A1 (Int.toNat p1 * 2)))) (by kernel_rfl) (v_index (k := .i64) (c := c1) (by kernel_rfl) (by kernel_rfl) (by kernel_rfl) hi1 hi2 ((hs1).some hg1)) ?_
          refine q_run 3 [0, 1, 12, 13, 19, 20, 21] (l := [((adr A1 (Int.toNat p1 * 2)), .int .u32 e1.xLeft), (((adr A1 (Int.toNat p1 * 2)).add 1), .int .u32 e1.xRight)]) (.one ((at_sl hc1).sub 0 rfl) (.one ((at_sl hc1).sub 1 rfl) .nil)) (E' := [(0, .slice A1 a0.length c1), (1, .slice A2 a1.length c2), (12, .int .i64 (a0.length : Int)), (13, .int .i64 p1), (19, .agg #[.int .u32 e1.xLeft, .int .u32 e1.xRight]), (20, .slice A2 a1.length c2), (21, .int .i64 p1)]) (by kernel_rfl) ?_
          obtain ⟨e2, hx2, hm⟩ := bind_some hm
          obtain ⟨hi3, hi4, hg2⟩ := idx_some hx2
          obtain ⟨cs2, hk2, hc2⟩ := (hs2).at hg2
          obtain rfl := hk2
          refine q_val 22 (.indexAddr 46 (.tmp 20) (.tmp 21)) (.pointer (some (adr A2 (Int.toNat p1 * 2)))) (by kernel_rfl) (v_index (k := .i64) (c := c2) (by kernel_rfl) (by kernel_rfl) (by kernel_rfl) hi3 hi4 ((hs2).some hg2)) ?_
          refine q_run 1 [0, 1, 12, 13, 19, 23] (l := [((adr A2 (Int.toNat p1 * 2)), .int .u32 e2.xLeft), (((adr A2 (Int.toNat p1 * 2)).add 1), .int .u32 e2.xRight)]) (.one ((at_sl hc2).sub 0 rfl) (.one ((at_sl hc2).sub 1 rfl) .nil)) (E' := [(0, .slice A1 a0.length c1), (1, .slice A2 a1.length c2), (12, .int .i64 (a0.length : Int)), (13, .int .i64 p1), (19, .agg #[.int .u32 e1.xLeft, .int .u32 e1.xRight]), (23, .agg #[.int .u32 e2.xLeft, .int .u32 e2.xRight])]) (by kernel_rfl) ?_
          refine q_val 24 (.binOp .neq 57 (.tmp 19) (.tmp 23) 57) (.bool (!((e1.xLeft == e2.xLeft) && (e1.xRight == e2.xRight)))) (by kernel_rfl) (v_neS (xs := #[.int .u32 e1.xLeft, .int .u32 e1.xRight]) (ys := #[.int .u32 e2.xLeft, .int .u32 e2.xRight]) (b := ((e1.xLeft == e2.xLeft) && (e1.xRight == e2.xRight))) (by kernel_rfl) (by kernel_rfl) (by kernel_rfl) (by kernel_rfl)) ?_
          refine q_end (by kernel_rfl) ?_
          refine e_seq ?_
          refine w_cond (.tmp 24) 14950 14951 (!((e1.xLeft == e2.xLeft) && (e1.xRight == e2.xRight))) (by kernel_rfl) (by kernel_rfl) (fun hb3 => ?_) (fun hb3 => ?_)
          · replace hm := ite_t hb3 hm
            refine w_seq 29900 29901 (by kernel_rfl) ?_
            refine w_region (by kernel_rfl) ?_
            refine o_run 1 [4] (l := []) .nil (E' := [(4, .bool false)]) (by kernel_rfl) ?_
            refine o_end (by kernel_rfl) ?_
            refine e_seq ?_
            refine w_ret (by kernel_rfl) ?_
            obtain rfl := Option.some.inj hm
            replace hm := brk_inl ho1
            obtain rfl := Option.some.inj hm
            exact e_retP () (.bool false) [] (by kernel_rfl) (by kernel_rfl) rfl (by kernel_rfl) (by kernel_rfl) trivial
          · replace hm := ite_f hb3 hm
            refine w_skip (by kernel_rfl) ?_
            refine e_blk ?_
            refine e_seq ?_
            refine w_region (by kernel_rfl) ?_
            refine o_run 2 [0, 1, 12, 13] (l := []) .nil (E' := [(0, .slice A1 a0.length c1), (1, .slice A2 a1.length c2), (12, .int .i64 (a0.length : Int)), (13, .int .i64 (I64 (p1 + 1)))]) (by kernel_rfl) ?_
            refine o_end (by kernel_rfl) ?_
            refine t_drop [] (by kernel_rfl) ?_
            refine t_L (L' := []) (by kernel_rfl) ?_
            refine t_env [0, 1, 12, 13] (E' := [(0, .slice A1 a0.length c1), (1, .slice A2 a1.length c2), (12, .int .i64 (a0.length : Int)), (13, .int .i64 (I64 (p1 + 1)))]) (by kernel_rfl) ?_
            exact e_inv (fun a w ha hw => ⟨k, Nat.lt_succ_self k, (I64 (p1 + 1)), hm, ha, hw⟩)
        · replace hm := ite_f hb2 hm
          refine w_exit 0 (by kernel_rfl) ?_
          refine e_x_seq ?_
          refine e_x_inv ?_
          refine e_x_here ?_
          refine t_drop [] (by kernel_rfl) ?_
          refine t_L (L' := []) (by kernel_rfl) ?_
          refine t_env [] (E' := []) (by kernel_rfl) ?_
          obtain rfl := Option.some.inj hm
          exact e_inv (fun a w ha hw => ⟨(), rfl, ha, hw⟩)
    · exact fun a w ha hw => ⟨0, ht1, ha, hw⟩
def downhaulref26_Buffer_shift.l1 : Nat → T_downhaulref26_Buffer → Int → (List Int) → (List Bool) → Option ((List Int) × (List Bool))
  | 0, _, _, _, _ => none
  | k + 1, a0, p1, p2, p3 => (if decide (p1 ≤ a0.xRoom) then ((idx a0.xCame p1).bind fun e2 => ((idx a0.xOut p1).bind fun e3 => ((idx p3 (I64 (p1 - 1))).bind fun e4 => ((idx p2 (I64 (p1 - 1))).bind fun e5 => (downhaulref26_Buffer_shift.l1 k a0 (I64 (p1 + 1)) (p2.set (Int.toNat (I64 (p1 - 1))) e3) (p3.set (Int.toNat (I64 (p1 - 1))) e2)))))) else (some (p2, p3)))
def downhaulref26_Buffer_shift.f (k : Nat) (a0 : T_downhaulref26_Buffer) : Option (T_downhaulref26_Buffer) :=
  ((mk (I64 (a0.xRoom + 1)) false).bind fun l1 => ((mk (I64 (a0.xRoom + 1)) 0).bind fun l2 => ((downhaulref26_Buffer_shift.l1 k a0 1 l2 l1).bind fun t1 => ((app ([] : List Int) a0.xIn).bind fun l3 => ((idx a0.xOut 0).bind fun e1 => ((app l3 [e1]).bind fun l4 => (some (⟨a0.xRoom, U32 (a0.xNext + 1), l4, t1.2, t1.1, a0.xLast, a0.xHas⟩ : T_downhaulref26_Buffer))))))))
theorem downhaulref26_Buffer_shift_ok (k : Nat) (a0 : T_downhaulref26_Buffer) (r : T_downhaulref26_Buffer) (hm : downhaulref26_Buffer_shift.f k a0 = some r) (B G : Asn) (g1 : Nat) (A1 : Option Addr) (c1 : Nat) (A2 : Option Addr) (c2 : Nat) (A3 : Option Addr) (c3 : Nat) (hs1 : Sl (kI .u8) B A1 c1 a0.xIn) (w : World) (hs : St B G [.blk g1 [.int .i64 a0.xRoom, .int .u32 a0.xNext, .slice A1 a0.xIn.length c1, .slice A2 a0.xCame.length c2, .slice A3 a0.xOut.length c3, .int .u32 a0.xLast, .bool a0.xHas] 42, .own A2 a0.xCame.length c2 (rowOf encB a0.xCame) 1 4, .own A3 a0.xOut.length c3 (rowOf (encI .u8) a0.xOut) 1 5] w) :
    Calls Try.prog 34 #[.pointer (some ⟨g1, 0, none⟩)] w (Post (X := (Option Addr) × Nat × (Option Addr) × Nat × (Option Addr) × Nat) (fun x => .tuple #[]) (fun x => B) G (fun x => [.blk g1 [.int .i64 r.xRoom, .int .u32 r.xNext, .slice x.1 r.xIn.length x.2.1, .slice x.2.2.1 r.xCame.length x.2.2.2.1, .slice x.2.2.2.2.1 r.xOut.length x.2.2.2.2.2, .int .u32 r.xLast, .bool r.xHas] 42, .own x.1 r.xIn.length x.2.1 (rowOf (encI .u8) r.xIn) 1 5, .own x.2.2.1 r.xCame.length x.2.2.2.1 (rowOf encB r.xCame) 1 4, .own x.2.2.2.2.1 r.xOut.length x.2.2.2.2.2 (rowOf (encI .u8) r.xOut) 1 5]) (fun x => True)) := by
  unfold downhaulref26_Buffer_shift.f at hm
  refine calls_W (F := Try.f34) Try.func34 rfl (by kernel_rfl) (L := [.blk g1 [.int .i64 a0.xRoom, .int .u32 a0.xNext, .slice A1 a0.xIn.length c1, .slice A2 a0.xCame.length c2, .slice A3 a0.xOut.length c3, .int .u32 a0.xLast, .bool a0.xHas] 42, .own A2 a0.xCame.length c2 (rowOf encB a0.xCame) 1 4, .own A3 a0.xOut.length c3 (rowOf (encI .u8) a0.xOut) 1 5]) ?_ hs
  refine w_seq 2 3 (by kernel_rfl) ?_
  obtain ⟨l1, hx1, hm⟩ := bind_some hm
  obtain ⟨l2, hx2, hm⟩ := bind_some hm
  refine w_joinJ (fun a w => ∃ (A6 : Option Addr) (c4 : Nat) (A7 : Option Addr) (c5 : Nat), EnvOk [(0, .pointer (some ⟨g1, 0, none⟩)), (2, .slice A7 l1.length c5), (3, .slice A6 l2.length c4)] Try.f34.ntmps a ∧ St B G [.own A6 l2.length c4 (rowOf (encI .u8) l2) 1 5, .own A7 l1.length c5 (rowOf encB l1) 1 4, .blk g1 [.int .i64 a0.xRoom, .int .u32 a0.xNext, .slice A1 a0.xIn.length c1, .slice A2 a0.xCame.length c2, .slice A3 a0.xOut.length c3, .int .u32 a0.xLast, .bool a0.xHas] 42, .own A2 a0.xCame.length c2 (rowOf encB a0.xCame) 1 4, .own A3 a0.xOut.length c3 (rowOf (encI .u8) a0.xOut) 1 5] w) ?_ ?_
  · rintro a w ⟨A6, c4, A7, c5, ha, hw⟩
    refine we_of (E := [(0, .pointer (some ⟨g1, 0, none⟩)), (2, .slice A7 l1.length c5), (3, .slice A6 l2.length c4)]) (B := B) (G := G) (L := [.own A6 l2.length c4 (rowOf (encI .u8) l2) 1 5, .own A7 l1.length c5 (rowOf encB l1) 1 4, .blk g1 [.int .i64 a0.xRoom, .int .u32 a0.xNext, .slice A1 a0.xIn.length c1, .slice A2 a0.xCame.length c2, .slice A3 a0.xOut.length c3, .int .u32 a0.xLast, .bool a0.xHas] 42, .own A2 a0.xCame.length c2 (rowOf encB a0.xCame) 1 4, .own A3 a0.xOut.length c3 (rowOf (encI .u8) a0.xOut) 1 5]) ?_ ha hw
    refine e_seq ?_
    refine w_seq 6 7 (by kernel_rfl) ?_
    refine w_seq 12 13 (by kernel_rfl) ?_
    refine w_region (by kernel_rfl) ?_
    refine o_run 1 [0, 2, 3, 4] (l := []) .nil (E' := [(0, .pointer (some ⟨g1, 0, none⟩)), (2, .slice A7 l1.length c5), (3, .slice A6 l2.length c4), (4, .int .i64 1)]) (by kernel_rfl) ?_
    refine o_end (by kernel_rfl) ?_
    refine e_seq ?_
    refine w_block 0 26 (by kernel_rfl) ?_
    obtain ⟨t1, ht1, ho1⟩ := bind_some hm
    refine t_env [0, 2, 3, 4] (E' := [(0, .pointer (some ⟨g1, 0, none⟩)), (2, .slice A7 l1.length c5), (3, .slice A6 l2.length c4), (4, .int .i64 1)]) (by kernel_rfl) ?_
    refine w_loopJ 52 0 (fun k a w => ∃ (p1 : Int) (p2 : List Int) (p3 : List Bool), downhaulref26_Buffer_shift.l1 k a0 p1 p2 p3 = some t1 ∧ l2.length = p2.length ∧ l1.length = p3.length ∧ EnvOk [(0, .pointer (some ⟨g1, 0, none⟩)), (2, .slice A7 l1.length c5), (3, .slice A6 l2.length c4), (4, .int .i64 p1)] Try.f34.ntmps a ∧ St B G [.own A6 l2.length c4 (rowOf (encI .u8) p2) 1 5, .own A7 l1.length c5 (rowOf encB p3) 1 4, .blk g1 [.int .i64 a0.xRoom, .int .u32 a0.xNext, .slice A1 a0.xIn.length c1, .slice A2 a0.xCame.length c2, .slice A3 a0.xOut.length c3, .int .u32 a0.xLast, .bool a0.xHas] 42, .own A2 a0.xCame.length c2 (rowOf encB a0.xCame) 1 4, .own A3 a0.xOut.length c3 (rowOf (encI .u8) a0.xOut) 1 5] w) (fun a w => l2.length = (t1.1).length ∧ l1.length = (t1.2).length ∧ EnvOk [(0, .pointer (some ⟨g1, 0, none⟩)), (2, .slice A7 l1.length c5), (3, .slice A6 l2.length c4)] Try.f34.ntmps a ∧ St B G [.own A6 l2.length c4 (rowOf (encI .u8) t1.1) 1 5, .own A7 l1.length c5 (rowOf encB t1.2) 1 4, .blk g1 [.int .i64 a0.xRoom, .int .u32 a0.xNext, .slice A1 a0.xIn.length c1, .slice A2 a0.xCame.length c2, .slice A3 a0.xOut.length c3, .int .u32 a0.xLast, .bool a0.xHas] 42, .own A2 a0.xCame.length c2 (rowOf encB a0.xCame) 1 4, .own A3 a0.xOut.length c3 (rowOf (encI .u8) a0.xOut) 1 5] w) (by kernel_rfl) ?_ ?_ k ?_
    · rintro a w ⟨hn9, hn10, ha, hw⟩
      refine we_of (E := [(0, .pointer (some ⟨g1, 0, none⟩)), (2, .slice A7 l1.length c5), (3, .slice A6 l2.length c4)]) (B := B) (G := G) (L := [.own A6 l2.length c4 (rowOf (encI .u8) t1.1) 1 5, .own A7 l1.length c5 (rowOf encB t1.2) 1 4, .blk g1 [.int .i64 a0.xRoom, .int .u32 a0.xNext, .slice A1 a0.xIn.length c1, .slice A2 a0.xCame.length c2, .slice A3 a0.xOut.length c3, .int .u32 a0.xLast, .bool a0.xHas] 42, .own A2 a0.xCame.length c2 (rowOf encB a0.xCame) 1 4, .own A3 a0.xOut.length c3 (rowOf (encI .u8) a0.xOut) 1 5]) ?_ ha hw
      have hm := ho1
      refine e_seq ?_
      refine w_seq 14 15 (by kernel_rfl) ?_
      obtain ⟨l3, hx3, hm⟩ := bind_some hm
      obtain ⟨e1, hx4, hm⟩ := bind_some hm
      obtain ⟨l4, hx5, hm⟩ := bind_some hm
      refine w_joinJ (fun a w => ∃ (g3 : Nat) (A10 : Option Addr) (c8 : Nat), EnvOk [(0, .pointer (some ⟨g1, 0, none⟩)), (2, .slice A7 l1.length c5), (3, .slice A6 l2.length c4)] Try.f34.ntmps a ∧ St B G [.blk g3 [.int .u8 e1] 5, .own A10 l4.length c8 (rowOf (encI .u8) l4) 1 5, .own A6 l2.length c4 (rowOf (encI .u8) t1.1) 1 5, .own A7 l1.length c5 (rowOf encB t1.2) 1 4, .blk g1 [.int .i64 a0.xRoom, .int .u32 a0.xNext, .slice A10 l4.length c8, .slice A2 a0.xCame.length c2, .slice A3 a0.xOut.length c3, .int .u32 a0.xLast, .bool a0.xHas] 42, .own A2 a0.xCame.length c2 (rowOf encB a0.xCame) 1 4, .own A3 a0.xOut.length c3 (rowOf (encI .u8) a0.xOut) 1 5] w) ?_ ?_
      · rintro a w ⟨g3, A10, c8, ha, hw⟩
        refine we_of (E := [(0, .pointer (some ⟨g1, 0, none⟩)), (2, .slice A7 l1.length c5), (3, .slice A6 l2.length c4)]) (B := B) (G := G) (L := [.blk g3 [.int .u8 e1] 5, .own A10 l4.length c8 (rowOf (encI .u8) l4) 1 5, .own A6 l2.length c4 (rowOf (encI .u8) t1.1) 1 5, .own A7 l1.length c5 (rowOf encB t1.2) 1 4, .blk g1 [.int .i64 a0.xRoom, .int .u32 a0.xNext, .slice A10 l4.length c8, .slice A2 a0.xCame.length c2, .slice A3 a0.xOut.length c3, .int .u32 a0.xLast, .bool a0.xHas] 42, .own A2 a0.xCame.length c2 (rowOf encB a0.xCame) 1 4, .own A3 a0.xOut.length c3 (rowOf (encI .u8) a0.xOut) 1 5]) ?_ ha hw
        refine e_seq ?_
        refine w_seq 30 31 (by kernel_rfl) ?_
        refine w_region (by kernel_rfl) ?_
        refine o_run 6 [0, 64, 65, 66, 68] (l := []) .nil (E' := [(0, .pointer (some ⟨g1, 0, none⟩)), (64, .pointer (some ⟨g1, 0, none⟩)), (65, .slice A7 l1.length c5), (66, .slice A6 l2.length c4), (68, .pointer (some ⟨g1, 3, none⟩))]) (by kernel_rfl) ?_
        refine o_stp ?_ (by kernel_rfl)
        refine s_store 4 g1 [.int .i64 a0.xRoom, .int .u32 a0.xNext, .slice A10 l4.length c8, .slice A2 a0.xCame.length c2, .slice A3 a0.xOut.length c3, .int .u32 a0.xLast, .bool a0.xHas] 42 [(3, .slice A7 l1.length c5)] (by kernel_rfl) (by kernel_rfl) (by kernel_rfl) ?_
        refine t_L (L' := [.blk g3 [.int .u8 e1] 5, .own A10 l4.length c8 (rowOf (encI .u8) l4) 1 5, .own A6 l2.length c4 (rowOf (encI .u8) t1.1) 1 5, .own A7 l1.length c5 (rowOf encB t1.2) 1 4, .blk g1 [.int .i64 a0.xRoom, .int .u32 a0.xNext, .slice A10 l4.length c8, .slice A7 l1.length c5, .slice A3 a0.xOut.length c3, .int .u32 a0.xLast, .bool a0.xHas] 42, .own A2 a0.xCame.length c2 (rowOf encB a0.xCame) 1 4, .own A3 a0.xOut.length c3 (rowOf (encI .u8) a0.xOut) 1 5]) (by kernel_rfl) ?_
        refine o_run 2 [0, 66, 70] (l := []) .nil (E' := [(0, .pointer (some ⟨g1, 0, none⟩)), (66, .slice A6 l2.length c4), (70, .pointer (some ⟨g1, 4, none⟩))]) (by kernel_rfl) ?_
        refine o_stp ?_ (by kernel_rfl)
        refine s_store 4 g1 [.int .i64 a0.xRoom, .int .u32 a0.xNext, .slice A10 l4.length c8, .slice A7 l1.length c5, .slice A3 a0.xOut.length c3, .int .u32 a0.xLast, .bool a0.xHas] 42 [(4, .slice A6 l2.length c4)] (by kernel_rfl) (by kernel_rfl) (by kernel_rfl) ?_
        refine t_L (L' := [.blk g3 [.int .u8 e1] 5, .own A10 l4.length c8 (rowOf (encI .u8) l4) 1 5, .own A6 l2.length c4 (rowOf (encI .u8) t1.1) 1 5, .own A7 l1.length c5 (rowOf encB t1.2) 1 4, .blk g1 [.int .i64 a0.xRoom, .int .u32 a0.xNext, .slice A10 l4.length c8, .slice A7 l1.length c5, .slice A6 l2.length c4, .int .u32 a0.xLast, .bool a0.xHas] 42, .own A2 a0.xCame.length c2 (rowOf encB a0.xCame) 1 4, .own A3 a0.xOut.length c3 (rowOf (encI .u8) a0.xOut) 1 5]) (by kernel_rfl) ?_
        refine o_end (by kernel_rfl) ?_
        refine e_seq ?_
        refine w_region (by kernel_rfl) ?_
        refine o_run 7 [75, 77] (l := [(⟨g1, 1, none⟩, .int .u32 a0.xNext)]) (.one (at_blk (j := 4) rfl rfl) .nil) (E' := [(75, .int .u32 (U32 (a0.xNext + 1))), (77, .pointer (some ⟨g1, 1, none⟩))]) (by kernel_rfl) ?_
        refine o_stp ?_ (by kernel_rfl)
        refine s_store 4 g1 [.int .i64 a0.xRoom, .int .u32 a0.xNext, .slice A10 l4.length c8, .slice A7 l1.length c5, .slice A6 l2.length c4, .int .u32 a0.xLast, .bool a0.xHas] 42 [(1, .int .u32 (U32 (a0.xNext + 1)))] (by kernel_rfl) (by kernel_rfl) (by kernel_rfl) ?_
        refine t_L (L' := [.blk g3 [.int .u8 e1] 5, .own A10 l4.length c8 (rowOf (encI .u8) l4) 1 5, .own A6 l2.length c4 (rowOf (encI .u8) t1.1) 1 5, .own A7 l1.length c5 (rowOf encB t1.2) 1 4, .blk g1 [.int .i64 a0.xRoom, .int .u32 (U32 (a0.xNext + 1)), .slice A10 l4.length c8, .slice A7 l1.length c5, .slice A6 l2.length c4, .int .u32 a0.xLast, .bool a0.xHas] 42, .own A2 a0.xCame.length c2 (rowOf encB a0.xCame) 1 4, .own A3 a0.xOut.length c3 (rowOf (encI .u8) a0.xOut) 1 5]) (by kernel_rfl) ?_
        refine o_end (by kernel_rfl) ?_
        refine t_env [75, 77] (E' := [(75, .int .u32 (U32 (a0.xNext + 1))), (77, .pointer (some ⟨g1, 1, none⟩))]) (by kernel_rfl) ?_
        refine t_EL (E' := [(75, .int .u32 (U32 (a0.xNext + 1))), (77, .pointer (some ⟨g1, 1, none⟩))]) (L' := [.blk g3 [.int .u8 e1] 5, .own A10 l4.length c8 (rowOf (encI .u8) l4) 1 5, .own A6 l2.length c4 (rowOf (encI .u8) t1.1) 1 5, .own A7 t1.2.length c5 (rowOf encB t1.2) 1 4, .blk g1 [.int .i64 a0.xRoom, .int .u32 (U32 (a0.xNext + 1)), .slice A10 l4.length c8, .slice A7 t1.2.length c5, .slice A6 l2.length c4, .int .u32 a0.xLast, .bool a0.xHas] 42, .own A2 a0.xCame.length c2 (rowOf encB a0.xCame) 1 4, .own A3 a0.xOut.length c3 (rowOf (encI .u8) a0.xOut) 1 5]) (eq_of_len hn10 (fun n => ([(75, .int .u32 (U32 (a0.xNext + 1))), (77, .pointer (some ⟨g1, 1, none⟩))], [.blk g3 [.int .u8 e1] 5, .own A10 l4.length c8 (rowOf (encI .u8) l4) 1 5, .own A6 l2.length c4 (rowOf (encI .u8) t1.1) 1 5, .own A7 n c5 (rowOf encB t1.2) 1 4, .blk g1 [.int .i64 a0.xRoom, .int .u32 (U32 (a0.xNext + 1)), .slice A10 l4.length c8, .slice A7 n c5, .slice A6 l2.length c4, .int .u32 a0.xLast, .bool a0.xHas] 42, .own A2 a0.xCame.length c2 (rowOf encB a0.xCame) 1 4, .own A3 a0.xOut.length c3 (rowOf (encI .u8) a0.xOut) 1 5])) rfl rfl) ?_
        refine t_env [75, 77] (E' := [(75, .int .u32 (U32 (a0.xNext + 1))), (77, .pointer (some ⟨g1, 1, none⟩))]) (by kernel_rfl) ?_
        refine t_EL (E' := [(75, .int .u32 (U32 (a0.xNext + 1))), (77, .pointer (some ⟨g1, 1, none⟩))]) (L' := [.blk g3 [.int .u8 e1] 5, .own A10 l4.length c8 (rowOf (encI .u8) l4) 1 5, .own A6 t1.1.length c4 (rowOf (encI .u8) t1.1) 1 5, .own A7 t1.2.length c5 (rowOf encB t1.2) 1 4, .blk g1 [.int .i64 a0.xRoom, .int .u32 (U32 (a0.xNext + 1)), .slice A10 l4.length c8, .slice A7 t1.2.length c5, .slice A6 t1.1.length c4, .int .u32 a0.xLast, .bool a0.xHas] 42, .own A2 a0.xCame.length c2 (rowOf encB a0.xCame) 1 4, .own A3 a0.xOut.length c3 (rowOf (encI .u8) a0.xOut) 1 5]) (eq_of_len hn9 (fun n => ([(75, .int .u32 (U32 (a0.xNext + 1))), (77, .pointer (some ⟨g1, 1, none⟩))], [.blk g3 [.int .u8 e1] 5, .own A10 l4.length c8 (rowOf (encI .u8) l4) 1 5, .own A6 n c4 (rowOf (encI .u8) t1.1) 1 5, .own A7 t1.2.length c5 (rowOf encB t1.2) 1 4, .blk g1 [.int .i64 a0.xRoom, .int .u32 (U32 (a0.xNext + 1)), .slice A10 l4.length c8, .slice A7 t1.2.length c5, .slice A6 n c4, .int .u32 a0.xLast, .bool a0.xHas] 42, .own A2 a0.xCame.length c2 (rowOf encB a0.xCame) 1 4, .own A3 a0.xOut.length c3 (rowOf (encI .u8) a0.xOut) 1 5])) rfl rfl) ?_
        obtain rfl := Option.some.inj hm
        exact e_endP (A10, c8, A7, c5, A6, c4) (.tuple #[]) [4, 1, 3, 2] (by kernel_rfl) (by kernel_rfl) rfl (by kernel_rfl) (by kernel_rfl) trivial
      · refine w_tail 14 [.own A6 l2.length c4 (rowOf (encI .u8) t1.1) 1 5, .own A7 l1.length c5 (rowOf encB t1.2) 1 4, .blk g1 [.int .i64 a0.xRoom, .int .u32 a0.xNext, .slice A1 a0.xIn.length c1, .slice A2 a0.xCame.length c2, .slice A3 a0.xOut.length c3, .int .u32 a0.xLast, .bool a0.xHas] 42, .own A2 a0.xCame.length c2 (rowOf encB a0.xCame) 1 4, .own A3 a0.xOut.length c3 (rowOf (encI .u8) a0.xOut) 1 5] (by kernel_rfl) mixed (by kernel_rfl) ?_
        refine tt_run [0, 1, 2, 3, 4, 6, 7, 8, 9] [0, 2, 3, 47, 51, 56] [0, 1, 2, 3, 4] 5 (listed' := #[true, true, true, true, true, false, true, true, true, true, false, false, false, false, false, false, false]) (l := [(⟨g1, 2, none⟩, .slice A1 a0.xIn.length c1), (⟨g1, 4, none⟩, .slice A3 a0.xOut.length c3)]) (.one (at_blk (j := 2) rfl rfl) (.one (at_blk (j := 2) rfl rfl) .nil)) (E' := [(0, .pointer (some ⟨g1, 0, none⟩)), (2, .slice A7 l1.length c5), (3, .slice A6 l2.length c4), (47, .pointer (some ⟨g1, 0, none⟩)), (51, .slice A1 a0.xIn.length c1), (56, .slice A3 a0.xOut.length c3)]) (by kernel_rfl) (by kernel_rfl) (by kernel_rfl) (Ext.refl _) (by kernel_rfl) (by kernel_rfl) ?_
        obtain ⟨hi3, hi4, hg2⟩ := idx_some hx4
        refine tt_val 10 57 (.indexAddr 32 (.tmp 56) (.const (.int .i64 0))) (.pointer (some (adr A3 (Int.toNat 0 * 1)))) [0, 1, 2, 3, 4] (by kernel_rfl) (v_index (k := .i64) (c := c3) (by kernel_rfl) (by kernel_rfl) (by kernel_rfl) hi3 hi4 (own_some (j := 4) rfl hi4 hi3)) (by kernel_rfl) (Ext.refl _) (by kernel_rfl) (by kernel_rfl) ?_
        refine tt_run [11] [0, 2, 3, 47, 51, 58] [0, 1, 2, 3, 4] 3 (listed' := #[true, true, true, true, true, false, true, true, true, true, true, true, false, false, false, false, false]) (l := [((adr A3 (Int.toNat 0 * 1)), .int .u8 e1)]) (.one ((At.sub (l := (encI .u8) e1) 0 (at_own (j := 4) (off := Int.toNat 0 * 1) rfl (row_at (enc := (encI .u8)) (sz := 1) (fun _ => rfl) hg2)) rfl)) .nil) (E' := [(0, .pointer (some ⟨g1, 0, none⟩)), (2, .slice A7 l1.length c5), (3, .slice A6 l2.length c4), (47, .pointer (some ⟨g1, 0, none⟩)), (51, .slice A1 a0.xIn.length c1), (58, .int .u8 e1)]) (by kernel_rfl) (by kernel_rfl) (by kernel_rfl) (Ext.refl _) (by kernel_rfl) (by kernel_rfl) ?_
        refine tt_all [5, 12] [0, 1, 2, 3, 4] (Ext.refl _) (by kernel_rfl) (by kernel_rfl) (by kernel_rfl) (by kernel_rfl) ⟨?_, ?_, trivial⟩
        · refine t_nil 5 1 ?_
          refine t_L (L' := [.own none (([] : List Int).length) 0 (rowOf (encI .u8) ([] : List Int)) 1 5, .own A6 l2.length c4 (rowOf (encI .u8) t1.1) 1 5, .own A7 l1.length c5 (rowOf encB t1.2) 1 4, .blk g1 [.int .i64 a0.xRoom, .int .u32 a0.xNext, .slice A1 a0.xIn.length c1, .slice A2 a0.xCame.length c2, .slice A3 a0.xOut.length c3, .int .u32 a0.xLast, .bool a0.xHas] 42, .own A2 a0.xCame.length c2 (rowOf encB a0.xCame) 1 4, .own A3 a0.xOut.length c3 (rowOf (encI .u8) a0.xOut) 1 5]) (by kernel_rfl) ?_
          refine s_app (z := .int .u8 0) (enc := (encI .u8)) (ys := a0.xIn) (k := a0.xIn.length) (bytes := 1) 52 32 32 (.const (.slice none 0 0)) (.tmp 51) 0 hx3 rfl rfl (by kernel_rfl) (by kernel_rfl) (by kernel_rfl) (by kernel_rfl) (by kernel_rfl) (by kernel_rfl) rfl (src_sl (e := 5) rfl (by kernel_rfl) hs1) (by decide) (fun A11 c9 => ?_)
          refine t_L (L' := [.own A11 l3.length c9 (rowOf (encI .u8) l3) 1 5, .own A6 l2.length c4 (rowOf (encI .u8) t1.1) 1 5, .own A7 l1.length c5 (rowOf encB t1.2) 1 4, .blk g1 [.int .i64 a0.xRoom, .int .u32 a0.xNext, .slice A1 a0.xIn.length c1, .slice A2 a0.xCame.length c2, .slice A3 a0.xOut.length c3, .int .u32 a0.xLast, .bool a0.xHas] 42, .own A2 a0.xCame.length c2 (rowOf encB a0.xCame) 1 4, .own A3 a0.xOut.length c3 (rowOf (encI .u8) a0.xOut) 1 5]) (by kernel_rfl) ?_
          refine tt_stp 12 [1, 2, 3, 4, 5] (Ext.refl _) (by kernel_rfl) (by kernel_rfl) (by kernel_rfl) (by kernel_rfl) ?_
          refine s_new 59 (fun g4 => .slice (some ⟨g4, 0, none⟩) 1 1) [.int .u8 e1] 5 (fun _ => by kernel_rfl) (fun g4 => ?_)
          refine tt_stp 13 [2, 3, 4, 5, 6] (Ext.refl _) (by kernel_rfl) (by kernel_rfl) (by kernel_rfl) (by kernel_rfl) ?_
          refine s_app (z := .int .u8 0) (enc := (encI .u8)) (ys := [e1]) (k := 1) (bytes := 1) 60 32 32 (.tmp 52) (.tmp 59) 1 hx5 rfl rfl (by kernel_rfl) (by kernel_rfl) (by kernel_rfl) (by kernel_rfl) (by kernel_rfl) (by kernel_rfl) rfl (src_blk (e := 5) (j := 0) (by kernel_rfl) rfl (by kernel_rfl) rfl (by kernel_rfl)) (by decide) (fun A12 c10 => ?_)
          refine t_L (L' := [.blk g4 [.int .u8 e1] 5, .own A12 l4.length c10 (rowOf (encI .u8) l4) 1 5, .own A6 l2.length c4 (rowOf (encI .u8) t1.1) 1 5, .own A7 l1.length c5 (rowOf encB t1.2) 1 4, .blk g1 [.int .i64 a0.xRoom, .int .u32 a0.xNext, .slice A1 a0.xIn.length c1, .slice A2 a0.xCame.length c2, .slice A3 a0.xOut.length c3, .int .u32 a0.xLast, .bool a0.xHas] 42, .own A2 a0.xCame.length c2 (rowOf encB a0.xCame) 1 4, .own A3 a0.xOut.length c3 (rowOf (encI .u8) a0.xOut) 1 5]) (by kernel_rfl) ?_
          refine tt_end [2, 3, 4, 5, 6] (Ext.refl _) (by kernel_rfl) (by kernel_rfl) (by kernel_rfl) ?_
          refine o_run 2 [0, 2, 3, 60, 62] (l := []) .nil (E' := [(0, .pointer (some ⟨g1, 0, none⟩)), (2, .slice A7 l1.length c5), (3, .slice A6 l2.length c4), (60, .slice A12 l4.length c10), (62, .pointer (some ⟨g1, 2, none⟩))]) (by kernel_rfl) ?_
          refine o_stp ?_ (by kernel_rfl)
          refine s_store 4 g1 [.int .i64 a0.xRoom, .int .u32 a0.xNext, .slice A1 a0.xIn.length c1, .slice A2 a0.xCame.length c2, .slice A3 a0.xOut.length c3, .int .u32 a0.xLast, .bool a0.xHas] 42 [(2, .slice A12 l4.length c10)] (by kernel_rfl) (by kernel_rfl) (by kernel_rfl) ?_
          refine t_L (L' := [.blk g4 [.int .u8 e1] 5, .own A12 l4.length c10 (rowOf (encI .u8) l4) 1 5, .own A6 l2.length c4 (rowOf (encI .u8) t1.1) 1 5, .own A7 l1.length c5 (rowOf encB t1.2) 1 4, .blk g1 [.int .i64 a0.xRoom, .int .u32 a0.xNext, .slice A12 l4.length c10, .slice A2 a0.xCame.length c2, .slice A3 a0.xOut.length c3, .int .u32 a0.xLast, .bool a0.xHas] 42, .own A2 a0.xCame.length c2 (rowOf encB a0.xCame) 1 4, .own A3 a0.xOut.length c3 (rowOf (encI .u8) a0.xOut) 1 5]) (by kernel_rfl) ?_
          refine o_end (by kernel_rfl) ?_
          refine t_drop [0, 1, 2, 3, 4, 5, 6] (by kernel_rfl) ?_
          refine t_L (L' := [.blk g4 [.int .u8 e1] 5, .own A12 l4.length c10 (rowOf (encI .u8) l4) 1 5, .own A6 l2.length c4 (rowOf (encI .u8) t1.1) 1 5, .own A7 l1.length c5 (rowOf encB t1.2) 1 4, .blk g1 [.int .i64 a0.xRoom, .int .u32 a0.xNext, .slice A12 l4.length c10, .slice A2 a0.xCame.length c2, .slice A3 a0.xOut.length c3, .int .u32 a0.xLast, .bool a0.xHas] 42, .own A2 a0.xCame.length c2 (rowOf encB a0.xCame) 1 4, .own A3 a0.xOut.length c3 (rowOf (encI .u8) a0.xOut) 1 5]) (by kernel_rfl) ?_
          refine t_env [0, 2, 3] (E' := [(0, .pointer (some ⟨g1, 0, none⟩)), (2, .slice A7 l1.length c5), (3, .slice A6 l2.length c4)]) (by kernel_rfl) ?_
          exact e_inv (fun a w ha hw => ⟨g4, A12, c10, ha, hw⟩)
        · refine s_new 59 (fun g5 => .slice (some ⟨g5, 0, none⟩) 1 1) [.int .u8 e1] 5 (fun _ => by kernel_rfl) (fun g5 => ?_)
          refine t_nil 5 1 ?_
          refine t_L (L' := [.own none (([] : List Int).length) 0 (rowOf (encI .u8) ([] : List Int)) 1 5, .blk g5 [.int .u8 e1] 5, .own A6 l2.length c4 (rowOf (encI .u8) t1.1) 1 5, .own A7 l1.length c5 (rowOf encB t1.2) 1 4, .blk g1 [.int .i64 a0.xRoom, .int .u32 a0.xNext, .slice A1 a0.xIn.length c1, .slice A2 a0.xCame.length c2, .slice A3 a0.xOut.length c3, .int .u32 a0.xLast, .bool a0.xHas] 42, .own A2 a0.xCame.length c2 (rowOf encB a0.xCame) 1 4, .own A3 a0.xOut.length c3 (rowOf (encI .u8) a0.xOut) 1 5]) (by kernel_rfl) ?_
          refine tt_stp 5 [2, 3, 4, 5, 6] (Ext.refl _) (by kernel_rfl) (by kernel_rfl) (by kernel_rfl) (by kernel_rfl) ?_
          refine s_app (z := .int .u8 0) (enc := (encI .u8)) (ys := a0.xIn) (k := a0.xIn.length) (bytes := 1) 52 32 32 (.const (.slice none 0 0)) (.tmp 51) 0 hx3 rfl rfl (by kernel_rfl) (by kernel_rfl) (by kernel_rfl) (by kernel_rfl) (by kernel_rfl) (by kernel_rfl) rfl (src_sl (e := 5) rfl (by kernel_rfl) hs1) (by decide) (fun A13 c11 => ?_)
          refine t_L (L' := [.own A13 l3.length c11 (rowOf (encI .u8) l3) 1 5, .blk g5 [.int .u8 e1] 5, .own A6 l2.length c4 (rowOf (encI .u8) t1.1) 1 5, .own A7 l1.length c5 (rowOf encB t1.2) 1 4, .blk g1 [.int .i64 a0.xRoom, .int .u32 a0.xNext, .slice A1 a0.xIn.length c1, .slice A2 a0.xCame.length c2, .slice A3 a0.xOut.length c3, .int .u32 a0.xLast, .bool a0.xHas] 42, .own A2 a0.xCame.length c2 (rowOf encB a0.xCame) 1 4, .own A3 a0.xOut.length c3 (rowOf (encI .u8) a0.xOut) 1 5]) (by kernel_rfl) ?_
          refine tt_stp 13 [2, 3, 4, 5, 6] (Ext.refl _) (by kernel_rfl) (by kernel_rfl) (by kernel_rfl) (by kernel_rfl) ?_
          refine s_app (z := .int .u8 0) (enc := (encI .u8)) (ys := [e1]) (k := 1) (bytes := 1) 60 32 32 (.tmp 52) (.tmp 59) 0 hx5 rfl rfl (by kernel_rfl) (by kernel_rfl) (by kernel_rfl) (by kernel_rfl) (by kernel_rfl) (by kernel_rfl) rfl (src_blk (e := 5) (j := 1) (by kernel_rfl) rfl (by kernel_rfl) rfl (by kernel_rfl)) (by decide) (fun A14 c12 => ?_)
          refine t_L (L' := [.own A14 l4.length c12 (rowOf (encI .u8) l4) 1 5, .blk g5 [.int .u8 e1] 5, .own A6 l2.length c4 (rowOf (encI .u8) t1.1) 1 5, .own A7 l1.length c5 (rowOf encB t1.2) 1 4, .blk g1 [.int .i64 a0.xRoom, .int .u32 a0.xNext, .slice A1 a0.xIn.length c1, .slice A2 a0.xCame.length c2, .slice A3 a0.xOut.length c3, .int .u32 a0.xLast, .bool a0.xHas] 42, .own A2 a0.xCame.length c2 (rowOf encB a0.xCame) 1 4, .own A3 a0.xOut.length c3 (rowOf (encI .u8) a0.xOut) 1 5]) (by kernel_rfl) ?_
          refine tt_end [2, 3, 4, 5, 6] (Ext.refl _) (by kernel_rfl) (by kernel_rfl) (by kernel_rfl) ?_
          refine o_run 2 [0, 2, 3, 60, 62] (l := []) .nil (E' := [(0, .pointer (some ⟨g1, 0, none⟩)), (2, .slice A7 l1.length c5), (3, .slice A6 l2.length c4), (60, .slice A14 l4.length c12), (62, .pointer (some ⟨g1, 2, none⟩))]) (by kernel_rfl) ?_
          refine o_stp ?_ (by kernel_rfl)
          refine s_store 4 g1 [.int .i64 a0.xRoom, .int .u32 a0.xNext, .slice A1 a0.xIn.length c1, .slice A2 a0.xCame.length c2, .slice A3 a0.xOut.length c3, .int .u32 a0.xLast, .bool a0.xHas] 42 [(2, .slice A14 l4.length c12)] (by kernel_rfl) (by kernel_rfl) (by kernel_rfl) ?_
          refine t_L (L' := [.own A14 l4.length c12 (rowOf (encI .u8) l4) 1 5, .blk g5 [.int .u8 e1] 5, .own A6 l2.length c4 (rowOf (encI .u8) t1.1) 1 5, .own A7 l1.length c5 (rowOf encB t1.2) 1 4, .blk g1 [.int .i64 a0.xRoom, .int .u32 a0.xNext, .slice A14 l4.length c12, .slice A2 a0.xCame.length c2, .slice A3 a0.xOut.length c3, .int .u32 a0.xLast, .bool a0.xHas] 42, .own A2 a0.xCame.length c2 (rowOf encB a0.xCame) 1 4, .own A3 a0.xOut.length c3 (rowOf (encI .u8) a0.xOut) 1 5]) (by kernel_rfl) ?_
          refine o_end (by kernel_rfl) ?_
          refine t_drop [1, 0, 2, 3, 4, 5, 6] (by kernel_rfl) ?_
          refine t_L (L' := [.blk g5 [.int .u8 e1] 5, .own A14 l4.length c12 (rowOf (encI .u8) l4) 1 5, .own A6 l2.length c4 (rowOf (encI .u8) t1.1) 1 5, .own A7 l1.length c5 (rowOf encB t1.2) 1 4, .blk g1 [.int .i64 a0.xRoom, .int .u32 a0.xNext, .slice A14 l4.length c12, .slice A2 a0.xCame.length c2, .slice A3 a0.xOut.length c3, .int .u32 a0.xLast, .bool a0.xHas] 42, .own A2 a0.xCame.length c2 (rowOf encB a0.xCame) 1 4, .own A3 a0.xOut.length c3 (rowOf (encI .u8) a0.xOut) 1 5]) (by kernel_rfl) ?_
          refine t_env [0, 2, 3] (E' := [(0, .pointer (some ⟨g1, 0, none⟩)), (2, .slice A7 l1.length c5), (3, .slice A6 l2.length c4)]) (by kernel_rfl) ?_
          exact e_inv (fun a w ha hw => ⟨g5, A14, c12, ha, hw⟩)
    · rintro k a w ⟨p1, p2, p3, hm, hn7, hn8, ha, hw⟩
      cases k with
      | zero => exact absurd hm (by simp [downhaulref26_Buffer_shift.l1])
      | succ k =>
        unfold downhaulref26_Buffer_shift.l1 at hm
        refine wc_of (E := [(0, .pointer (some ⟨g1, 0, none⟩)), (2, .slice A7 l1.length c5), (3, .slice A6 l2.length c4), (4, .int .i64 p1)]) (B := B) (G := G) (L := [.own A6 l2.length c4 (rowOf (encI .u8) p2) 1 5, .own A7 l1.length c5 (rowOf encB p3) 1 4, .blk g1 [.int .i64 a0.xRoom, .int .u32 a0.xNext, .slice A1 a0.xIn.length c1, .slice A2 a0.xCame.length c2, .slice A3 a0.xOut.length c3, .int .u32 a0.xLast, .bool a0.xHas] 42, .own A2 a0.xCame.length c2 (rowOf encB a0.xCame) 1 4, .own A3 a0.xOut.length c3 (rowOf (encI .u8) a0.xOut) 1 5]) ?_ ha hw
        refine w_seq 104 105 (by kernel_rfl) ?_
        refine w_seq 208 209 (by kernel_rfl) ?_
        refine w_region (by kernel_rfl) ?_
        refine o_run 6 [0, 2, 3, 4, 22] (l := [(⟨g1, 0, none⟩, .int .i64 a0.xRoom)]) (.one (at_blk (j := 2) rfl rfl) .nil) (E' := [(0, .pointer (some ⟨g1, 0, none⟩)), (2, .slice A7 l1.length c5), (3, .slice A6 l2.length c4), (4, .int .i64 p1), (22, .bool (decide (p1 ≤ a0.xRoom)))]) (by kernel_rfl) ?_
        refine o_end (by kernel_rfl) ?_
        refine e_seq ?_
        refine w_cond (.tmp 22) 418 419 (decide (p1 ≤ a0.xRoom)) (by kernel_rfl) (by kernel_rfl) (fun hb1 => ?_) (fun hb1 => ?_)
        · replace hm := ite_t hb1 hm
          refine w_skip (by kernel_rfl) ?_
          refine e_seq ?_
          refine w_seq 210 211 (by kernel_rfl) ?_
          refine w_block 1 420 (by kernel_rfl) ?_
          obtain ⟨e2, hx6, hm⟩ := bind_some hm
          obtain ⟨e3, hx7, hm⟩ := bind_some hm
          obtain ⟨e4, hx8, hm⟩ := bind_some hm
          obtain ⟨e5, hx9, hm⟩ := bind_some hm
          refine w_tail 22 [.own A6 l2.length c4 (rowOf (encI .u8) p2) 1 5, .blk g1 [.int .i64 a0.xRoom, .int .u32 a0.xNext, .slice A1 a0.xIn.length c1, .slice A2 a0.xCame.length c2, .slice A3 a0.xOut.length c3, .int .u32 a0.xLast, .bool a0.xHas] 42, .own A2 a0.xCame.length c2 (rowOf encB a0.xCame) 1 4, .own A3 a0.xOut.length c3 (rowOf (encI .u8) a0.xOut) 1 5] (by kernel_rfl) mixed (by kernel_rfl) ?_
          refine tt_run [0, 1, 2, 3, 4, 5, 6, 7, 8, 9, 10, 13, 14, 15, 16, 17] [0, 2, 3, 4, 25, 27, 28, 30, 34, 35, 41, 42] [0, 2, 3, 4] 6 (listed' := #[true, true, true, true, true, true, true, true, true, true, true, false, false, true, true, true, true, true, false, false, false, false, false, false]) (l := [(⟨g1, 3, none⟩, .slice A2 a0.xCame.length c2), (⟨g1, 4, none⟩, .slice A3 a0.xOut.length c3)]) (.one (at_blk (j := 1) rfl rfl) (.one (at_blk (j := 1) rfl rfl) .nil)) (E' := [(0, .pointer (some ⟨g1, 0, none⟩)), (2, .slice A7 l1.length c5), (3, .slice A6 l2.length c4), (4, .int .i64 p1), (25, .slice A7 l1.length c5), (27, .int .i64 (I64 (p1 - 1))), (28, .slice A6 l2.length c4), (30, .int .i64 (I64 (p1 - 1))), (34, .slice A2 a0.xCame.length c2), (35, .int .i64 p1), (41, .slice A3 a0.xOut.length c3), (42, .int .i64 p1)]) (by kernel_rfl) (by kernel_rfl) (by kernel_rfl) (Ext.refl _) (by kernel_rfl) (by kernel_rfl) ?_
          obtain ⟨hi13, hi14, hg7⟩ := idx_some hx6
          refine tt_val 11 36 (.indexAddr 40 (.tmp 34) (.tmp 35)) (.pointer (some (adr A2 (Int.toNat p1 * 1)))) [0, 2, 3, 4] (by kernel_rfl) (v_index (k := .i64) (c := c2) (by kernel_rfl) (by kernel_rfl) (by kernel_rfl) hi13 hi14 (own_some (j := 2) rfl hi14 hi13)) (by kernel_rfl) (Ext.refl _) (by kernel_rfl) (by kernel_rfl) ?_
          refine tt_run [12] [0, 2, 3, 4, 25, 27, 28, 30, 37, 41, 42] [0, 2, 3, 4] 4 (listed' := #[true, true, true, true, true, true, true, true, true, true, true, true, true, true, true, true, true, true, false, false, false, false, false, false]) (l := [((adr A2 (Int.toNat p1 * 1)), .bool e2)]) (.one ((At.sub (l := encB e2) 0 (at_own (j := 2) (off := Int.toNat p1 * 1) rfl (row_at (enc := encB) (sz := 1) (fun _ => rfl) hg7)) rfl)) .nil) (E' := [(0, .pointer (some ⟨g1, 0, none⟩)), (2, .slice A7 l1.length c5), (3, .slice A6 l2.length c4), (4, .int .i64 p1), (25, .slice A7 l1.length c5), (27, .int .i64 (I64 (p1 - 1))), (28, .slice A6 l2.length c4), (30, .int .i64 (I64 (p1 - 1))), (37, .bool e2), (41, .slice A3 a0.xOut.length c3), (42, .int .i64 p1)]) (by kernel_rfl) (by kernel_rfl) (by kernel_rfl) (Ext.refl _) (by kernel_rfl) (by kernel_rfl) ?_
          obtain ⟨hi15, hi16, hg8⟩ := idx_some hx7
          refine tt_val 18 43 (.indexAddr 32 (.tmp 41) (.tmp 42)) (.pointer (some (adr A3 (Int.toNat p1 * 1)))) [0, 2, 3, 4] (by kernel_rfl) (v_index (k := .i64) (c := c3) (by kernel_rfl) (by kernel_rfl) (by kernel_rfl) hi15 hi16 (own_some (j := 3) rfl hi16 hi15)) (by kernel_rfl) (Ext.refl _) (by kernel_rfl) (by kernel_rfl) ?_
          refine tt_run [19] [0, 2, 3, 4, 25, 27, 28, 30, 37, 44] [0, 2, 3, 4] 2 (listed' := #[true, true, true, true, true, true, true, true, true, true, true, true, true, true, true, true, true, true, true, true, false, false, false, false]) (l := [((adr A3 (Int.toNat p1 * 1)), .int .u8 e3)]) (.one ((At.sub (l := (encI .u8) e3) 0 (at_own (j := 3) (off := Int.toNat p1 * 1) rfl (row_at (enc := (encI .u8)) (sz := 1) (fun _ => rfl) hg8)) rfl)) .nil) (E' := [(0, .pointer (some ⟨g1, 0, none⟩)), (2, .slice A7 l1.length c5), (3, .slice A6 l2.length c4), (4, .int .i64 p1), (25, .slice A7 l1.length c5), (27, .int .i64 (I64 (p1 - 1))), (28, .slice A6 l2.length c4), (30, .int .i64 (I64 (p1 - 1))), (37, .bool e2), (44, .int .u8 e3)]) (by kernel_rfl) (by kernel_rfl) (by kernel_rfl) (Ext.refl _) (by kernel_rfl) (by kernel_rfl) ?_
          obtain ⟨hi17, hi18, hg9⟩ := idx_some hx8
          refine tt_stp 20 [0, 2, 3, 4] (Ext.refl _) (by kernel_rfl) (by kernel_rfl) (by kernel_rfl) (by kernel_rfl) ?_
          refine s_val 45 (.indexAddr 40 (.tmp 25) (.tmp 27)) (.pointer (some (adr A7 (Int.toNat (I64 (p1 - 1)) * 1)))) (by kernel_rfl) (v_index (k := .i64) (c := c5) (by kernel_rfl) (by kernel_rfl) (by kernel_rfl) hi17 (len_lt hn8 hi18) (own_some (j := 1) rfl (len_lt hn8 hi18) hi17)) ?_
          refine tt_stp 21 [0, 2, 3, 4] (Ext.refl _) (by kernel_rfl) (by kernel_rfl) (by kernel_rfl) (by kernel_rfl) ?_
          refine s_setE (enc := encB) (v := .bool e2) 4 (.tmp 45) (.tmp 37) 1 (x := e2) (by kernel_rfl) (by kernel_rfl) (by kernel_rfl) rfl (by kernel_rfl) rfl (fun _ => rfl) hg9 (fun u hu => by cases List.mem_singleton.1 hu; rfl) (by decide) ?_
          have hl3 : l1.length = (p3.set (Int.toNat (I64 (p1 - 1))) e2).length := Eq.trans hn8 List.length_set.symm
          refine tt_end [0, 2, 3, 4] (Ext.refl _) (by kernel_rfl) (by kernel_rfl) (by kernel_rfl) ?_
          obtain ⟨hi19, hi20, hg10⟩ := idx_some hx9
          refine o_val 46 (.indexAddr 32 (.tmp 28) (.tmp 30)) (.pointer (some (adr A6 (Int.toNat (I64 (p1 - 1)) * 1)))) (by kernel_rfl) (v_index (k := .i64) (c := c4) (by kernel_rfl) (by kernel_rfl) (by kernel_rfl) hi19 (len_lt hn7 hi20) (own_some (j := 0) rfl (len_lt hn7 hi20) hi19)) ?_
          refine o_stp ?_ (by kernel_rfl)
          refine s_setE (enc := (encI .u8)) (v := .int .u8 e3) 5 (.tmp 46) (.tmp 44) 0 (x := e3) (by kernel_rfl) (by kernel_rfl) (by kernel_rfl) rfl (by kernel_rfl) rfl (fun _ => rfl) hg10 (fun u hu => by cases List.mem_singleton.1 hu; rfl) (by decide) ?_
          have hl4 : l2.length = (p2.set (Int.toNat (I64 (p1 - 1))) e3).length := Eq.trans hn7 List.length_set.symm
          refine o_end (by kernel_rfl) ?_
          refine e_blk ?_
          refine e_seq ?_
          refine w_region (by kernel_rfl) ?_
          refine o_run 3 [0, 2, 3, 4] (l := []) .nil (E' := [(0, .pointer (some ⟨g1, 0, none⟩)), (2, .slice A7 l1.length c5), (3, .slice A6 l2.length c4), (4, .int .i64 (I64 (p1 + 1)))]) (by kernel_rfl) ?_
          refine o_end (by kernel_rfl) ?_
          refine t_drop [0, 1, 2, 3, 4] (by kernel_rfl) ?_
          refine t_L (L' := [.own A6 l2.length c4 (rowOf (encI .u8) (p2.set (Int.toNat (I64 (p1 - 1))) e3)) 1 5, .own A7 l1.length c5 (rowOf encB (p3.set (Int.toNat (I64 (p1 - 1))) e2)) 1 4, .blk g1 [.int .i64 a0.xRoom, .int .u32 a0.xNext, .slice A1 a0.xIn.length c1, .slice A2 a0.xCame.length c2, .slice A3 a0.xOut.length c3, .int .u32 a0.xLast, .bool a0.xHas] 42, .own A2 a0.xCame.length c2 (rowOf encB a0.xCame) 1 4, .own A3 a0.xOut.length c3 (rowOf (encI .u8) a0.xOut) 1 5]) (by kernel_rfl) ?_
          refine t_env [0, 2, 3, 4] (E' := [(0, .pointer (some ⟨g1, 0, none⟩)), (2, .slice A7 l1.length c5), (3, .slice A6 l2.length c4), (4, .int .i64 (I64 (p1 + 1)))]) (by kernel_rfl) ?_
          exact e_inv (fun a w ha hw => ⟨k, Nat.lt_succ_self k, (I64 (p1 + 1)), (p2.set (Int.toNat (I64 (p1 - 1))) e3), (p3.set (Int.toNat (I64 (p1 - 1))) e2), hm, hl4, hl3, ha, hw⟩)
        · replace hm := ite_f hb1 hm
          refine w_exit 0 (by kernel_rfl) ?_
          refine e_x_seq ?_
          refine e_x_inv ?_
          refine e_x_here ?_
          refine t_drop [0, 1, 2, 3, 4] (by kernel_rfl) ?_
          refine t_L (L' := [.own A6 l2.length c4 (rowOf (encI .u8) p2) 1 5, .own A7 l1.length c5 (rowOf encB p3) 1 4, .blk g1 [.int .i64 a0.xRoom, .int .u32 a0.xNext, .slice A1 a0.xIn.length c1, .slice A2 a0.xCame.length c2, .slice A3 a0.xOut.length c3, .int .u32 a0.xLast, .bool a0.xHas] 42, .own A2 a0.xCame.length c2 (rowOf encB a0.xCame) 1 4, .own A3 a0.xOut.length c3 (rowOf (encI .u8) a0.xOut) 1 5]) (by kernel_rfl) ?_
          refine t_env [0, 2, 3] (E' := [(0, .pointer (some ⟨g1, 0, none⟩)), (2, .slice A7 l1.length c5), (3, .slice A6 l2.length c4)]) (by kernel_rfl) ?_
          obtain rfl := Option.some.inj hm
          exact e_inv (fun a w ha hw => ⟨hn7, hn8, ha, hw⟩)
    · exact fun a w ha hw => ⟨1, l2, l1, ht1, rfl, rfl, ha, hw⟩
  · refine w_tail 13 [.blk g1 [.int .i64 a0.xRoom, .int .u32 a0.xNext, .slice A1 a0.xIn.length c1, .slice A2 a0.xCame.length c2, .slice A3 a0.xOut.length c3, .int .u32 a0.xLast, .bool a0.xHas] 42, .own A2 a0.xCame.length c2 (rowOf encB a0.xCame) 1 4, .own A3 a0.xOut.length c3 (rowOf (encI .u8) a0.xOut) 1 5] (by kernel_rfl) mixed (by kernel_rfl) ?_
    refine tt_run [0, 1, 2, 3, 4, 6, 7, 8, 9, 10] [0, 9, 15] [0, 1, 2] 3 (listed' := #[true, true, true, true, true, false, true, true, true, true, true, false, false, false]) (l := [(⟨g1, 0, none⟩, .int .i64 a0.xRoom), (⟨g1, 0, none⟩, .int .i64 a0.xRoom)]) (.one (at_blk (j := 0) rfl rfl) (.one (at_blk (j := 0) rfl rfl) .nil)) (E' := [(0, .pointer (some ⟨g1, 0, none⟩)), (9, .int .i64 (I64 (a0.xRoom + 1))), (15, .int .i64 (I64 (a0.xRoom + 1)))]) (by kernel_rfl) (by kernel_rfl) (by kernel_rfl) (Ext.refl _) (by kernel_rfl) (by kernel_rfl) ?_
    refine tt_all [5, 11] [0, 1, 2] (Ext.refl _) (by kernel_rfl) (by kernel_rfl) (by kernel_rfl) (by kernel_rfl) ⟨?_, ?_, trivial⟩
    · obtain ⟨n3, hn11, hn12, hn13⟩ := mk_some hx1
      refine s_make (kl := .i64) (kc := .i64) (bytes := 1) (e := 4) 10 40 (.tmp 9) (.tmp 9) (z := .bool false) (zx := false) (enc := encB) hn13 (by kernel_rfl) (ev_int (by kernel_rfl) hn11) (ev_int (by kernel_rfl) hn11) (by kernel_rfl) (by kernel_rfl) rfl rfl (by omega) (by omega) rfl (fun A15 => ?_)
      refine tt_run [12] [0, 2, 15] [1, 2, 3] 1 (listed' := #[true, true, true, true, true, true, true, true, true, true, true, false, true, false]) (l := []) .nil (E' := [(0, .pointer (some ⟨g1, 0, none⟩)), (2, .slice A15 l1.length l1.length), (15, .int .i64 (I64 (a0.xRoom + 1)))]) (by kernel_rfl) (by kernel_rfl) (by kernel_rfl) (Ext.refl _) (by kernel_rfl) (by kernel_rfl) ?_
      obtain ⟨n4, hn14, hn15, hn16⟩ := mk_some hx2
      refine tt_stp 11 [1, 2, 3] (Ext.refl _) (by kernel_rfl) (by kernel_rfl) (by kernel_rfl) (by kernel_rfl) ?_
      refine s_make (kl := .i64) (kc := .i64) (bytes := 1) (e := 5) 16 32 (.tmp 15) (.tmp 15) (z := .int .u8 0) (zx := 0) (enc := (encI .u8)) hn16 (by kernel_rfl) (ev_int (by kernel_rfl) hn14) (ev_int (by kernel_rfl) hn14) (by kernel_rfl) (by kernel_rfl) rfl rfl (by omega) (by omega) rfl (fun A16 => ?_)
      refine tt_end [2, 3, 4] (Ext.refl _) (by kernel_rfl) (by kernel_rfl) (by kernel_rfl) ?_
      refine o_run 1 [0, 2, 3] (l := []) .nil (E' := [(0, .pointer (some ⟨g1, 0, none⟩)), (2, .slice A15 l1.length l1.length), (3, .slice A16 l2.length l2.length)]) (by kernel_rfl) ?_
      refine o_end (by kernel_rfl) ?_
      refine t_drop [0, 1, 2, 3, 4] (by kernel_rfl) ?_
      refine t_L (L' := [.own A16 l2.length l2.length (rowOf (encI .u8) l2) 1 5, .own A15 l1.length l1.length (rowOf encB l1) 1 4, .blk g1 [.int .i64 a0.xRoom, .int .u32 a0.xNext, .slice A1 a0.xIn.length c1, .slice A2 a0.xCame.length c2, .slice A3 a0.xOut.length c3, .int .u32 a0.xLast, .bool a0.xHas] 42, .own A2 a0.xCame.length c2 (rowOf encB a0.xCame) 1 4, .own A3 a0.xOut.length c3 (rowOf (encI .u8) a0.xOut) 1 5]) (by kernel_rfl) ?_
      refine t_env [0, 2, 3] (E' := [(0, .pointer (some ⟨g1, 0, none⟩)), (2, .slice A15 l1.length l1.length), (3, .slice A16 l2.length l2.length)]) (by kernel_rfl) ?_
      exact e_inv (fun a w ha hw => ⟨A16, l2.length, A15, l1.length, ha, hw⟩)
    · obtain ⟨n5, hn17, hn18, hn19⟩ := mk_some hx2
      refine s_make (kl := .i64) (kc := .i64) (bytes := 1) (e := 5) 16 32 (.tmp 15) (.tmp 15) (z := .int .u8 0) (zx := 0) (enc := (encI .u8)) hn19 (by kernel_rfl) (ev_int (by kernel_rfl) hn17) (ev_int (by kernel_rfl) hn17) (by kernel_rfl) (by kernel_rfl) rfl rfl (by omega) (by omega) rfl (fun A17 => ?_)
      obtain ⟨n6, hn20, hn21, hn22⟩ := mk_some hx1
      refine tt_stp 5 [1, 2, 3] (Ext.refl _) (by kernel_rfl) (by kernel_rfl) (by kernel_rfl) (by kernel_rfl) ?_
      refine s_make (kl := .i64) (kc := .i64) (bytes := 1) (e := 4) 10 40 (.tmp 9) (.tmp 9) (z := .bool false) (zx := false) (enc := encB) hn22 (by kernel_rfl) (ev_int (by kernel_rfl) hn20) (ev_int (by kernel_rfl) hn20) (by kernel_rfl) (by kernel_rfl) rfl rfl (by omega) (by omega) rfl (fun A18 => ?_)
      refine tt_run [12] [0, 2, 16] [2, 3, 4] 0 (listed' := #[true, true, true, true, true, true, true, true, true, true, true, true, true, false]) (l := []) .nil (E' := [(0, .pointer (some ⟨g1, 0, none⟩)), (2, .slice A18 l1.length l1.length), (16, .slice A17 l2.length l2.length)]) (by kernel_rfl) (by kernel_rfl) (by kernel_rfl) (Ext.refl _) (by kernel_rfl) (by kernel_rfl) ?_
      refine tt_end [2, 3, 4] (Ext.refl _) (by kernel_rfl) (by kernel_rfl) (by kernel_rfl) ?_
      refine o_run 1 [0, 2, 3] (l := []) .nil (E' := [(0, .pointer (some ⟨g1, 0, none⟩)), (2, .slice A18 l1.length l1.length), (3, .slice A17 l2.length l2.length)]) (by kernel_rfl) ?_
      refine o_end (by kernel_rfl) ?_
      refine t_drop [1, 0, 2, 3, 4] (by kernel_rfl) ?_
      refine t_L (L' := [.own A17 l2.length l2.length (rowOf (encI .u8) l2) 1 5, .own A18 l1.length l1.length (rowOf encB l1) 1 4, .blk g1 [.int .i64 a0.xRoom, .int .u32 a0.xNext, .slice A1 a0.xIn.length c1, .slice A2 a0.xCame.length c2, .slice A3 a0.xOut.length c3, .int .u32 a0.xLast, .bool a0.xHas] 42, .own A2 a0.xCame.length c2 (rowOf encB a0.xCame) 1 4, .own A3 a0.xOut.length c3 (rowOf (encI .u8) a0.xOut) 1 5]) (by kernel_rfl) ?_
      refine t_env [0, 2, 3] (E' := [(0, .pointer (some ⟨g1, 0, none⟩)), (2, .slice A18 l1.length l1.length), (3, .slice A17 l2.length l2.length)]) (by kernel_rfl) ?_
      exact e_inv (fun a w ha hw => ⟨A17, l2.length, A18, l1.length, ha, hw⟩)
def downhaulref26_Buffer_Insert.l2 : Nat → T_downhaulref26_Buffer → Option (T_downhaulref26_Buffer)
  | 0, _ => none
  | k + 1, p3 => ((idx p3.xCame 0).bind fun e1 => (if e1 then ((downhaulref26_Buffer_shift.f k p3).bind fun t3 => (downhaulref26_Buffer_Insert.l2 k t3)) else (some p3)))
def downhaulref26_Buffer_Insert.l1 : Nat → T_downhaulref26_Buffer → Int → (List Int) → Int → T_downhaulref26_Buffer → Option (T_downhaulref26_Buffer)
  | 0, _, _, _, _, _ => none
  | k + 1, a0, a1, a2, p1, p2 => (if decide (p1 < (a2.length : Int)) then (if decide ((I64 ((I64 (I32 (U32 (a1 - p2.xNext)))) + p1)) < 0) then (downhaulref26_Buffer_Insert.l1 k a0 a1 a2 (I64 (p1 + 1)) p2) else (if decide ((I64 ((I64 (I32 (U32 (a1 - p2.xNext)))) + p1)) ≥ (I64 (a0.xRoom - (a0.xIn.length : Int)))) then (downhaulref26_Buffer_Insert.l1 k a0 a1 a2 (I64 (p1 + 1)) p2) else ((idx p2.xCame (I64 ((I64 (I32 (U32 (a1 - p2.xNext)))) + p1))).bind fun e2 => (if !e2 then ((idx a2 p1).bind fun e3 => ((idx p2.xCame (I64 ((I64 (I32 (U32 (a1 - p2.xNext)))) + p1))).bind fun e4 => ((idx p2.xOut (I64 ((I64 (I32 (U32 (a1 - p2.xNext)))) + p1))).bind fun e5 => (downhaulref26_Buffer_Insert.l1 k a0 a1 a2 (I64 (p1 + 1)) (⟨p2.xRoom, p2.xNext, p2.xIn, (p2.xCame.set (Int.toNat (I64 ((I64 (I32 (U32 (a1 - p2.xNext)))) + p1))) true), (p2.xOut.set (Int.toNat (I64 ((I64 (I32 (U32 (a1 - p2.xNext)))) + p1))) e3), U32 (p2.xNext + (U32 (I64 ((I64 (I32 (U32 (a1 - p2.xNext)))) + p1)))), true⟩ : T_downhaulref26_Buffer))))) else (downhaulref26_Buffer_Insert.l1 k a0 a1 a2 (I64 (p1 + 1)) (⟨p2.xRoom, p2.xNext, p2.xIn, p2.xCame, p2.xOut, U32 (p2.xNext + (U32 (I64 ((I64 (I32 (U32 (a1 - p2.xNext)))) + p1)))), true⟩ : T_downhaulref26_Buffer)))))) else (some p2))
def downhaulref26_Buffer_Insert.f (k : Nat) (a0 : T_downhaulref26_Buffer) (a1 : Int) (a2 : List Int) : Option (Int × T_downhaulref26_Buffer) :=
  ((downhaulref26_Buffer_Insert.l1 k a0 a1 a2 0 a0).bind fun t1 => ((downhaulref26_Buffer_Insert.l2 k (t1)).bind fun t2 => (some (I64 ((((t2).xIn).length : Int) - (a0.xIn.length : Int)), (t2)))))
theorem downhaulref26_Buffer_Insert_ok (k : Nat) (a0 : T_downhaulref26_Buffer) (a1 : Int) (a2 : List Int) (r : Int × T_downhaulref26_Buffer) (hm : downhaulref26_Buffer_Insert.f k a0 a1 a2 = some r) (B G : Asn) (g1 : Nat) (A1 : Option Addr) (c1 : Nat) (A2 : Option Addr) (c2 : Nat) (A3 : Option Addr) (c3 : Nat) (A4 : Option Addr) (c4 : Nat) (hs1 : Sl (kI .u8) B A1 c1 a0.xIn) (hs2 : Sl (kI .u8) B A4 c4 a2) (w : World) (hs : St B G [.blk g1 [.int .i64 a0.xRoom, .int .u32 a0.xNext, .slice A1 a0.xIn.length c1, .slice A2 a0.xCame.length c2, .slice A3 a0.xOut.length c3, .int .u32 a0.xLast, .bool a0.xHas] 42, .own A2 a0.xCame.length c2 (rowOf encB a0.xCame) 1 4, .own A3 a0.xOut.length c3 (rowOf (encI .u8) a0.xOut) 1 5] w) :
    Calls Try.prog 17 #[.pointer (some ⟨g1, 0, none⟩), .int .u32 a1, .slice A4 a2.length c4] w (Post (X := Asn × (Option Addr) × Nat × (Option Addr) × Nat × (Option Addr) × Nat) (fun x => .int .i64 r.1) (fun x => x.1) G (fun x => [.blk g1 [.int .i64 r.2.xRoom, .int .u32 r.2.xNext, .slice x.2.1 r.2.xIn.length x.2.2.1, .slice x.2.2.2.1 r.2.xCame.length x.2.2.2.2.1, .slice x.2.2.2.2.2.1 r.2.xOut.length x.2.2.2.2.2.2, .int .u32 r.2.xLast, .bool r.2.xHas] 42, .own x.2.2.2.1 r.2.xCame.length x.2.2.2.2.1 (rowOf encB r.2.xCame) 1 4, .own x.2.2.2.2.2.1 r.2.xOut.length x.2.2.2.2.2.2 (rowOf (encI .u8) r.2.xOut) 1 5]) (fun x => (Ext B x.1) ∧ (Sl (kI .u8) x.1 x.2.1 x.2.2.1 r.2.xIn))) := by
  unfold downhaulref26_Buffer_Insert.f at hm
  refine calls_W (F := Try.f17) Try.func17 rfl (by kernel_rfl) (L := [.blk g1 [.int .i64 a0.xRoom, .int .u32 a0.xNext, .slice A1 a0.xIn.length c1, .slice A2 a0.xCame.length c2, .slice A3 a0.xOut.length c3, .int .u32 a0.xLast, .bool a0.xHas] 42, .own A2 a0.xCame.length c2 (rowOf encB a0.xCame) 1 4, .own A3 a0.xOut.length c3 (rowOf (encI .u8) a0.xOut) 1 5]) ?_ hs
  refine w_seq 2 3 (by kernel_rfl) ?_
  refine w_region (by kernel_rfl) ?_
  refine o_run 1 [0, 1, 2] (l := []) .nil (E' := [(0, .pointer (some ⟨g1, 0, none⟩)), (1, .int .u32 a1), (2, .slice A4 a2.length c4)]) (by kernel_rfl) ?_
  refine o_end (by kernel_rfl) ?_
  refine e_seq ?_
  refine w_seq 6 7 (by kernel_rfl) ?_
  refine w_quiet (by kernel_rfl) mixed (by kernel_rfl) ?_
  refine q_run 11 [0, 1, 2, 7] (l := [(⟨g1, 0, none⟩, .int .i64 a0.xRoom), (⟨g1, 2, none⟩, .slice A1 a0.xIn.length c1)]) (.one (at_blk (j := 0) rfl rfl) (.one (at_blk (j := 0) rfl rfl) .nil)) (E' := [(0, .pointer (some ⟨g1, 0, none⟩)), (1, .int .u32 a1), (2, .slice A4 a2.length c4), (7, .int .i64 (I64 (a0.xRoom - (a0.xIn.length : Int))))]) (by kernel_rfl) ?_
  refine q_end (by kernel_rfl) ?_
  refine e_seq ?_
  refine w_seq 14 15 (by kernel_rfl) ?_
  refine w_region (by kernel_rfl) ?_
  refine o_run 6 [0, 1, 2, 7, 8] (l := [(⟨g1, 2, none⟩, .slice A1 a0.xIn.length c1)]) (.one (at_blk (j := 0) rfl rfl) .nil) (E' := [(0, .pointer (some ⟨g1, 0, none⟩)), (1, .int .u32 a1), (2, .slice A4 a2.length c4), (7, .int .i64 (I64 (a0.xRoom - (a0.xIn.length : Int)))), (8, .int .i64 (a0.xIn.length : Int))]) (by kernel_rfl) ?_
  refine o_end (by kernel_rfl) ?_
  refine e_seq ?_
  refine w_seq 30 31 (by kernel_rfl) ?_
  refine w_seq 60 61 (by kernel_rfl) ?_
  refine w_region (by kernel_rfl) ?_
  refine o_run 1 [0, 1, 2, 7, 8, 9] (l := []) .nil (E' := [(0, .pointer (some ⟨g1, 0, none⟩)), (1, .int .u32 a1), (2, .slice A4 a2.length c4), (7, .int .i64 (I64 (a0.xRoom - (a0.xIn.length : Int)))), (8, .int .i64 (a0.xIn.length : Int)), (9, .int .i64 0)]) (by kernel_rfl) ?_
  refine o_end (by kernel_rfl) ?_
  refine e_seq ?_
  refine w_block 0 122 (by kernel_rfl) ?_
  obtain ⟨t1, ht1, ho1⟩ := bind_some hm
  refine t_env [0, 1, 2, 7, 8, 9] (E' := [(0, .pointer (some ⟨g1, 0, none⟩)), (1, .int .u32 a1), (2, .slice A4 a2.length c4), (7, .int .i64 (I64 (a0.xRoom - (a0.xIn.length : Int)))), (8, .int .i64 (a0.xIn.length : Int)), (9, .int .i64 0)]) (by kernel_rfl) ?_
  refine w_loopJ 244 0 (fun k a w => ∃ (p1 : Int) (p2 : T_downhaulref26_Buffer) (A5 : Option Addr) (c5 : Nat) (A6 : Option Addr) (c6 : Nat) (A7 : Option Addr) (c7 : Nat), downhaulref26_Buffer_Insert.l1 k a0 a1 a2 p1 p2 = some t1 ∧ Sl (kI .u8) B A5 c5 p2.xIn ∧ EnvOk [(0, .pointer (some ⟨g1, 0, none⟩)), (1, .int .u32 a1), (2, .slice A4 a2.length c4), (7, .int .i64 (I64 (a0.xRoom - (a0.xIn.length : Int)))), (8, .int .i64 (a0.xIn.length : Int)), (9, .int .i64 p1)] Try.f17.ntmps a ∧ St B G [.blk g1 [.int .i64 p2.xRoom, .int .u32 p2.xNext, .slice A5 p2.xIn.length c5, .slice A6 p2.xCame.length c6, .slice A7 p2.xOut.length c7, .int .u32 p2.xLast, .bool p2.xHas] 42, .own A6 p2.xCame.length c6 (rowOf encB p2.xCame) 1 4, .own A7 p2.xOut.length c7 (rowOf (encI .u8) p2.xOut) 1 5] w) (fun a w => ∃ (A8 : Option Addr) (c8 : Nat) (A9 : Option Addr) (c9 : Nat) (A10 : Option Addr) (c10 : Nat), Sl (kI .u8) B A8 c8 ((t1).xIn) ∧ EnvOk [(0, .pointer (some ⟨g1, 0, none⟩)), (8, .int .i64 (a0.xIn.length : Int))] Try.f17.ntmps a ∧ St B G [.blk g1 [.int .i64 ((t1).xRoom), .int .u32 ((t1).xNext), .slice A8 ((t1).xIn).length c8, .slice A9 (((t1).xCame).length) c9, .slice A10 (((t1).xOut).length) c10, .int .u32 ((t1).xLast), .bool ((t1).xHas)] 42, .own A9 (((t1).xCame).length) c9 (rowOf encB ((t1).xCame)) 1 4, .own A10 (((t1).xOut).length) c10 (rowOf (encI .u8) ((t1).xOut)) 1 5] w) (by kernel_rfl) ?_ ?_ k ?_
  · rintro a w ⟨A8, c8, A9, c9, A10, c10, hs4, ha, hw⟩
    refine we_of (E := [(0, .pointer (some ⟨g1, 0, none⟩)), (8, .int .i64 (a0.xIn.length : Int))]) (B := B) (G := G) (L := [.blk g1 [.int .i64 ((t1).xRoom), .int .u32 ((t1).xNext), .slice A8 ((t1).xIn).length c8, .slice A9 (((t1).xCame).length) c9, .slice A10 (((t1).xOut).length) c10, .int .u32 ((t1).xLast), .bool ((t1).xHas)] 42, .own A9 (((t1).xCame).length) c9 (rowOf encB ((t1).xCame)) 1 4, .own A10 (((t1).xOut).length) c10 (rowOf (encI .u8) ((t1).xOut)) 1 5]) ?_ ha hw
    have hm := ho1
    refine e_seq ?_
    refine w_seq 62 63 (by kernel_rfl) ?_
    refine w_block 2 124 (by kernel_rfl) ?_
    obtain ⟨t2, ht2, ho2⟩ := bind_some hm
    refine t_env [0, 8] (E' := [(0, .pointer (some ⟨g1, 0, none⟩)), (8, .int .i64 (a0.xIn.length : Int))]) (by kernel_rfl) ?_
    refine w_loopJ 248 2 (fun k a w => ∃ (p3 : T_downhaulref26_Buffer) (B1 : Asn) (A11 : Option Addr) (c11 : Nat) (A12 : Option Addr) (c12 : Nat) (A13 : Option Addr) (c13 : Nat), downhaulref26_Buffer_Insert.l2 k p3 = some t2 ∧ Ext B B1 ∧ Sl (kI .u8) B1 A11 c11 p3.xIn ∧ EnvOk [(0, .pointer (some ⟨g1, 0, none⟩)), (8, .int .i64 (a0.xIn.length : Int))] Try.f17.ntmps a ∧ St B1 G [.blk g1 [.int .i64 p3.xRoom, .int .u32 p3.xNext, .slice A11 p3.xIn.length c11, .slice A12 p3.xCame.length c12, .slice A13 p3.xOut.length c13, .int .u32 p3.xLast, .bool p3.xHas] 42, .own A12 p3.xCame.length c12 (rowOf encB p3.xCame) 1 4, .own A13 p3.xOut.length c13 (rowOf (encI .u8) p3.xOut) 1 5] w) (fun a w => ∃ (B2 : Asn) (A14 : Option Addr) (c14 : Nat) (A15 : Option Addr) (c15 : Nat) (A16 : Option Addr) (c16 : Nat), Ext B B2 ∧ Sl (kI .u8) B2 A14 c14 ((t2).xIn) ∧ EnvOk [(0, .pointer (some ⟨g1, 0, none⟩)), (8, .int .i64 (a0.xIn.length : Int))] Try.f17.ntmps a ∧ St B2 G [.blk g1 [.int .i64 ((t2).xRoom), .int .u32 ((t2).xNext), .slice A14 ((t2).xIn).length c14, .slice A15 (((t2).xCame).length) c15, .slice A16 (((t2).xOut).length) c16, .int .u32 ((t2).xLast), .bool ((t2).xHas)] 42, .own A15 (((t2).xCame).length) c15 (rowOf encB ((t2).xCame)) 1 4, .own A16 (((t2).xOut).length) c16 (rowOf (encI .u8) ((t2).xOut)) 1 5] w) (by kernel_rfl) ?_ ?_ k ?_
    · rintro a w ⟨B2, A14, c14, A15, c15, A16, c16, hx2, hs6, ha, hw⟩
      refine we_of (E := [(0, .pointer (some ⟨g1, 0, none⟩)), (8, .int .i64 (a0.xIn.length : Int))]) (B := B2) (G := G) (L := [.blk g1 [.int .i64 ((t2).xRoom), .int .u32 ((t2).xNext), .slice A14 ((t2).xIn).length c14, .slice A15 (((t2).xCame).length) c15, .slice A16 (((t2).xOut).length) c16, .int .u32 ((t2).xLast), .bool ((t2).xHas)] 42, .own A15 (((t2).xCame).length) c15 (rowOf encB ((t2).xCame)) 1 4, .own A16 (((t2).xOut).length) c16 (rowOf (encI .u8) ((t2).xOut)) 1 5]) ?_ ha hw
      have hm := ho2
      refine e_seq ?_
      refine w_seq 126 127 (by kernel_rfl) ?_
      refine w_region (by kernel_rfl) ?_
      refine o_run 8 [6] (l := [(⟨g1, 2, none⟩, .slice A14 ((t2).xIn).length c14)]) (.one (at_blk (j := 0) rfl rfl) .nil) (E' := [(6, .int .i64 (I64 ((((t2).xIn).length : Int) - (a0.xIn.length : Int))))]) (by kernel_rfl) ?_
      refine o_end (by kernel_rfl) ?_
      refine e_seq ?_
      refine w_ret (by kernel_rfl) ?_
      obtain rfl := Option.some.inj hm
      exact e_retP (B2, A14, c14, A15, c15, A16, c16) (.int .i64 (I64 ((((t2).xIn).length : Int) - (a0.xIn.length : Int)))) [0, 1, 2] (by kernel_rfl) (by kernel_rfl) rfl (by kernel_rfl) (by kernel_rfl) ⟨hx2, hs6⟩
    · rintro k a w ⟨p3, B1, A11, c11, A12, c12, A13, c13, hm, hx1, hs5, ha, hw⟩
      cases k with
      | zero => exact absurd hm (by simp [downhaulref26_Buffer_Insert.l2])
      | succ k =>
        unfold downhaulref26_Buffer_Insert.l2 at hm
        refine wc_of (E := [(0, .pointer (some ⟨g1, 0, none⟩)), (8, .int .i64 (a0.xIn.length : Int))]) (B := B1) (G := G) (L := [.blk g1 [.int .i64 p3.xRoom, .int .u32 p3.xNext, .slice A11 p3.xIn.length c11, .slice A12 p3.xCame.length c12, .slice A13 p3.xOut.length c13, .int .u32 p3.xLast, .bool p3.xHas] 42, .own A12 p3.xCame.length c12 (rowOf encB p3.xCame) 1 4, .own A13 p3.xOut.length c13 (rowOf (encI .u8) p3.xOut) 1 5]) ?_ ha hw
        refine w_seq 496 497 (by kernel_rfl) ?_
        refine w_seq 992 993 (by kernel_rfl) ?_
        refine w_region (by kernel_rfl) ?_
        refine o_run 4 [0, 8, 89] (l := [(⟨g1, 3, none⟩, .slice A12 p3.xCame.length c12)]) (.one (at_blk (j := 0) rfl rfl) .nil) (E' := [(0, .pointer (some ⟨g1, 0, none⟩)), (8, .int .i64 (a0.xIn.length : Int)), (89, .slice A12 p3.xCame.length c12)]) (by kernel_rfl) ?_
        obtain ⟨e1, hx3, hm⟩ := bind_some hm
        obtain ⟨hi1, hi2, hg1⟩ := idx_some hx3
        refine o_val 90 (.indexAddr 40 (.tmp 89) (.const (.int .i64 0))) (.pointer (some (adr A12 (Int.toNat 0 * 1)))) (by kernel_rfl) (v_index (k := .i64) (c := c12) (by kernel_rfl) (by kernel_rfl) (by kernel_rfl) hi1 hi2 (own_some (j := 1) rfl hi2 hi1)) ?_
        refine o_run 1 [0, 8, 91] (l := [((adr A12 (Int.toNat 0 * 1)), .bool e1)]) (.one ((At.sub (l := encB e1) 0 (at_own (j := 1) (off := Int.toNat 0 * 1) rfl (row_at (enc := encB) (sz := 1) (fun _ => rfl) hg1)) rfl)) .nil) (E' := [(0, .pointer (some ⟨g1, 0, none⟩)), (8, .int .i64 (a0.xIn.length : Int)), (91, .bool e1)]) (by kernel_rfl) ?_
        refine o_end (by kernel_rfl) ?_
        refine e_seq ?_
        refine w_cond (.tmp 91) 1986 1987 e1 (by kernel_rfl) (by kernel_rfl) (fun hb1 => ?_) (fun hb1 => ?_)
        · replace hm := ite_t hb1 hm
          refine w_skip (by kernel_rfl) ?_
          refine e_seq ?_
          refine w_block 3 994 (by kernel_rfl) ?_
          refine w_region (by kernel_rfl) ?_
          refine o_run 1 [0, 8, 92] (l := []) .nil (E' := [(0, .pointer (some ⟨g1, 0, none⟩)), (8, .int .i64 (a0.xIn.length : Int)), (92, .pointer (some ⟨g1, 0, none⟩))]) (by kernel_rfl) ?_
          obtain ⟨t3, hx4, hm⟩ := bind_some hm
          refine o_stp ?_ (by kernel_rfl)
          refine s_call 93 34 #[.pointer (some ⟨g1, 0, none⟩)] [0, 1, 2] [] (by kernel_rfl) (by kernel_rfl) (fun w hs => downhaulref26_Buffer_shift_ok k p3 t3 hx4 B1 _ g1 A11 c11 A12 c12 A13 c13 hs5 w (St.cast (by kernel_rfl) hs)) (fun x hx => ?_)
          obtain ⟨A17, c17, A18, c18, A19, c19⟩ := x
          refine t_L (L' := [.blk g1 [.int .i64 t3.xRoom, .int .u32 t3.xNext, .slice A17 t3.xIn.length c17, .slice A18 t3.xCame.length c18, .slice A19 t3.xOut.length c19, .int .u32 t3.xLast, .bool t3.xHas] 42, .own A17 t3.xIn.length c17 (rowOf (encI .u8) t3.xIn) 1 5, .own A18 t3.xCame.length c18 (rowOf encB t3.xCame) 1 4, .own A19 t3.xOut.length c19 (rowOf (encI .u8) t3.xOut) 1 5]) (by kernel_rfl) ?_
          refine o_end (by kernel_rfl) ?_
          refine e_blk ?_
          refine t_drop [1, 0, 2, 3] (by kernel_rfl) ?_
          refine t_L (L' := [.own A17 t3.xIn.length c17 (rowOf (encI .u8) t3.xIn) 1 5, .blk g1 [.int .i64 t3.xRoom, .int .u32 t3.xNext, .slice A17 t3.xIn.length c17, .slice A18 t3.xCame.length c18, .slice A19 t3.xOut.length c19, .int .u32 t3.xLast, .bool t3.xHas] 42, .own A18 t3.xCame.length c18 (rowOf encB t3.xCame) 1 4, .own A19 t3.xOut.length c19 (rowOf (encI .u8) t3.xOut) 1 5]) (by kernel_rfl) ?_
          refine t_frozS (kI .u8) rfl rfl (fun B3 hx5 hs7 => ?_)
          refine t_drop [0, 1, 2] (by kernel_rfl) ?_
          refine t_L (L' := [.blk g1 [.int .i64 t3.xRoom, .int .u32 t3.xNext, .slice A17 t3.xIn.length c17, .slice A18 t3.xCame.length c18, .slice A19 t3.xOut.length c19, .int .u32 t3.xLast, .bool t3.xHas] 42, .own A18 t3.xCame.length c18 (rowOf encB t3.xCame) 1 4, .own A19 t3.xOut.length c19 (rowOf (encI .u8) t3.xOut) 1 5]) (by kernel_rfl) ?_
          refine t_env [0, 8] (E' := [(0, .pointer (some ⟨g1, 0, none⟩)), (8, .int .i64 (a0.xIn.length : Int))]) (by kernel_rfl) ?_
          exact e_inv (fun a w ha hw => ⟨k, Nat.lt_succ_self k, t3, B3, A17, c17, A18, c18, A19, c19, hm, (Ext.trans hx1 hx5), hs7, ha, hw⟩)
        · replace hm := ite_f hb1 hm
          refine w_exit 2 (by kernel_rfl) ?_
          refine e_x_seq ?_
          refine e_x_inv ?_
          refine e_x_here ?_
          refine t_drop [0, 1, 2] (by kernel_rfl) ?_
          refine t_L (L' := [.blk g1 [.int .i64 p3.xRoom, .int .u32 p3.xNext, .slice A11 p3.xIn.length c11, .slice A12 p3.xCame.length c12, .slice A13 p3.xOut.length c13, .int .u32 p3.xLast, .bool p3.xHas] 42, .own A12 p3.xCame.length c12 (rowOf encB p3.xCame) 1 4, .own A13 p3.xOut.length c13 (rowOf (encI .u8) p3.xOut) 1 5]) (by kernel_rfl) ?_
          refine t_env [0, 8] (E' := [(0, .pointer (some ⟨g1, 0, none⟩)), (8, .int .i64 (a0.xIn.length : Int))]) (by kernel_rfl) ?_
          obtain rfl := Option.some.inj hm
          exact e_inv (fun a w ha hw => ⟨B1, A11, c11, A12, c12, A13, c13, hx1, hs5, ha, hw⟩)
    · exact fun a w ha hw => ⟨(t1), B, A8, c8, A9, c9, A10, c10, ht2, Ext.refl _, hs4, ha, hw⟩
  · rintro k a w ⟨p1, p2, A5, c5, A6, c6, A7, c7, hm, hs3, ha, hw⟩
    cases k with
    | zero => exact absurd hm (by simp [downhaulref26_Buffer_Insert.l1])
    | succ k =>
      unfold downhaulref26_Buffer_Insert.l1 at hm
      refine wc_of (E := [(0, .pointer (some ⟨g1, 0, none⟩)), (1, .int .u32 a1), (2, .slice A4 a2.length c4), (7, .int .i64 (I64 (a0.xRoom - (a0.xIn.length : Int)))), (8, .int .i64 (a0.xIn.length : Int)), (9, .int .i64 p1)]) (B := B) (G := G) (L := [.blk g1 [.int .i64 p2.xRoom, .int .u32 p2.xNext, .slice A5 p2.xIn.length c5, .slice A6 p2.xCame.length c6, .slice A7 p2.xOut.length c7, .int .u32 p2.xLast, .bool p2.xHas] 42, .own A6 p2.xCame.length c6 (rowOf encB p2.xCame) 1 4, .own A7 p2.xOut.length c7 (rowOf (encI .u8) p2.xOut) 1 5]) ?_ ha hw
      refine w_seq 488 489 (by kernel_rfl) ?_
      refine w_seq 976 977 (by kernel_rfl) ?_
      refine w_region (by kernel_rfl) ?_
      refine o_run 4 [0, 1, 2, 7, 8, 9, 29] (l := []) .nil (E' := [(0, .pointer (some ⟨g1, 0, none⟩)), (1, .int .u32 a1), (2, .slice A4 a2.length c4), (7, .int .i64 (I64 (a0.xRoom - (a0.xIn.length : Int)))), (8, .int .i64 (a0.xIn.length : Int)), (9, .int .i64 p1), (29, .bool (decide (p1 < (a2.length : Int))))]) (by kernel_rfl) ?_
      refine o_end (by kernel_rfl) ?_
      refine e_seq ?_
      refine w_cond (.tmp 29) 1954 1955 (decide (p1 < (a2.length : Int))) (by kernel_rfl) (by kernel_rfl) (fun hb2 => ?_) (fun hb2 => ?_)
      · replace hm := ite_t hb2 hm
        refine w_skip (by kernel_rfl) ?_
        refine e_seq ?_
        refine w_seq 978 979 (by kernel_rfl) ?_
        refine w_block 1 1956 (by kernel_rfl) ?_
        refine w_seq 3912 3913 (by kernel_rfl) ?_
        refine w_region (by kernel_rfl) ?_
        refine o_run 11 [0, 1, 2, 7, 8, 9, 10] (l := [(⟨g1, 1, none⟩, .int .u32 p2.xNext)]) (.one (at_blk (j := 0) rfl rfl) .nil) (E' := [(0, .pointer (some ⟨g1, 0, none⟩)), (1, .int .u32 a1), (2, .slice A4 a2.length c4), (7, .int .i64 (I64 (a0.xRoom - (a0.xIn.length : Int)))), (8, .int .i64 (a0.xIn.length : Int)), (9, .int .i64 p1), (10, .int .i64 (I64 ((I64 (I32 (U32 (a1 - p2.xNext)))) + p1)))]) (by kernel_rfl) ?_
        refine o_end (by kernel_rfl) ?_
        refine e_seq ?_
        refine w_seq 7826 7827 (by kernel_rfl) ?_
        refine w_seq 15652 15653 (by kernel_rfl) ?_
        refine w_region (by kernel_rfl) ?_
        refine o_run 3 [0, 1, 2, 7, 8, 9, 10, 44] (l := []) .nil (E' := [(0, .pointer (some ⟨g1, 0, none⟩)), (1, .int .u32 a1), (2, .slice A4 a2.length c4), (7, .int .i64 (I64 (a0.xRoom - (a0.xIn.length : Int)))), (8, .int .i64 (a0.xIn.length : Int)), (9, .int .i64 p1), (10, .int .i64 (I64 ((I64 (I32 (U32 (a1 - p2.xNext)))) + p1))), (44, .bool (decide ((I64 ((I64 (I32 (U32 (a1 - p2.xNext)))) + p1)) < 0)))]) (by kernel_rfl) ?_
        refine o_split 44 (decide ((I64 ((I64 (I32 (U32 (a1 - p2.xNext)))) + p1)) < 0)) (by kernel_rfl) (fun hb3 => ?_) (fun hb3 => ?_)
        · replace hm := ite_t hb3 hm
          refine o_run 4 [0, 1, 2, 7, 8, 9, 10, 48] (l := []) .nil (E' := [(0, .pointer (some ⟨g1, 0, none⟩)), (1, .int .u32 a1), (2, .slice A4 a2.length c4), (7, .int .i64 (I64 (a0.xRoom - (a0.xIn.length : Int)))), (8, .int .i64 (a0.xIn.length : Int)), (9, .int .i64 p1), (10, .int .i64 (I64 ((I64 (I32 (U32 (a1 - p2.xNext)))) + p1))), (48, .bool true)]) (by kernel_rfl) ?_
          refine o_end (by kernel_rfl) ?_
          refine e_seq ?_
          refine w_cond_t (.tmp 48) 31306 31307 (by kernel_rfl) (by kernel_rfl) ?_
          refine w_exit 1 (by kernel_rfl) ?_
          refine e_x_seq ?_
          refine e_x_here ?_
          refine e_seq ?_
          refine w_region (by kernel_rfl) ?_
          refine o_run 3 [0, 1, 2, 7, 8, 9] (l := []) .nil (E' := [(0, .pointer (some ⟨g1, 0, none⟩)), (1, .int .u32 a1), (2, .slice A4 a2.length c4), (7, .int .i64 (I64 (a0.xRoom - (a0.xIn.length : Int)))), (8, .int .i64 (a0.xIn.length : Int)), (9, .int .i64 (I64 (p1 + 1)))]) (by kernel_rfl) ?_
          refine o_end (by kernel_rfl) ?_
          refine t_drop [0, 1, 2] (by kernel_rfl) ?_
          refine t_L (L' := [.blk g1 [.int .i64 p2.xRoom, .int .u32 p2.xNext, .slice A5 p2.xIn.length c5, .slice A6 p2.xCame.length c6, .slice A7 p2.xOut.length c7, .int .u32 p2.xLast, .bool p2.xHas] 42, .own A6 p2.xCame.length c6 (rowOf encB p2.xCame) 1 4, .own A7 p2.xOut.length c7 (rowOf (encI .u8) p2.xOut) 1 5]) (by kernel_rfl) ?_
          refine t_env [0, 1, 2, 7, 8, 9] (E' := [(0, .pointer (some ⟨g1, 0, none⟩)), (1, .int .u32 a1), (2, .slice A4 a2.length c4), (7, .int .i64 (I64 (a0.xRoom - (a0.xIn.length : Int)))), (8, .int .i64 (a0.xIn.length : Int)), (9, .int .i64 (I64 (p1 + 1)))]) (by kernel_rfl) ?_
          exact e_inv (fun a w ha hw => ⟨k, Nat.lt_succ_self k, (I64 (p1 + 1)), p2, A5, c5, A6, c6, A7, c7, hm, hs3, ha, hw⟩)
        · replace hm := ite_f hb3 hm
          refine o_run 4 [0, 1, 2, 7, 8, 9, 10, 48] (l := []) .nil (E' := [(0, .pointer (some ⟨g1, 0, none⟩)), (1, .int .u32 a1), (2, .slice A4 a2.length c4), (7, .int .i64 (I64 (a0.xRoom - (a0.xIn.length : Int)))), (8, .int .i64 (a0.xIn.length : Int)), (9, .int .i64 p1), (10, .int .i64 (I64 ((I64 (I32 (U32 (a1 - p2.xNext)))) + p1))), (48, .bool (decide ((I64 ((I64 (I32 (U32 (a1 - p2.xNext)))) + p1)) ≥ (I64 (a0.xRoom - (a0.xIn.length : Int))))))]) (by kernel_rfl) ?_
          refine o_end (by kernel_rfl) ?_
          refine e_seq ?_
          refine w_cond (.tmp 48) 31306 31307 (decide ((I64 ((I64 (I32 (U32 (a1 - p2.xNext)))) + p1)) ≥ (I64 (a0.xRoom - (a0.xIn.length : Int))))) (by kernel_rfl) (by kernel_rfl) (fun hb4 => ?_) (fun hb4 => ?_)
          · replace hm := ite_t hb4 hm
            refine w_exit 1 (by kernel_rfl) ?_
            refine e_x_seq ?_
            refine e_x_here ?_
            refine e_seq ?_
            refine w_region (by kernel_rfl) ?_
            refine o_run 3 [0, 1, 2, 7, 8, 9] (l := []) .nil (E' := [(0, .pointer (some ⟨g1, 0, none⟩)), (1, .int .u32 a1), (2, .slice A4 a2.length c4), (7, .int .i64 (I64 (a0.xRoom - (a0.xIn.length : Int)))), (8, .int .i64 (a0.xIn.length : Int)), (9, .int .i64 (I64 (p1 + 1)))]) (by kernel_rfl) ?_
            refine o_end (by kernel_rfl) ?_
            refine t_drop [0, 1, 2] (by kernel_rfl) ?_
            refine t_L (L' := [.blk g1 [.int .i64 p2.xRoom, .int .u32 p2.xNext, .slice A5 p2.xIn.length c5, .slice A6 p2.xCame.length c6, .slice A7 p2.xOut.length c7, .int .u32 p2.xLast, .bool p2.xHas] 42, .own A6 p2.xCame.length c6 (rowOf encB p2.xCame) 1 4, .own A7 p2.xOut.length c7 (rowOf (encI .u8) p2.xOut) 1 5]) (by kernel_rfl) ?_
            refine t_env [0, 1, 2, 7, 8, 9] (E' := [(0, .pointer (some ⟨g1, 0, none⟩)), (1, .int .u32 a1), (2, .slice A4 a2.length c4), (7, .int .i64 (I64 (a0.xRoom - (a0.xIn.length : Int)))), (8, .int .i64 (a0.xIn.length : Int)), (9, .int .i64 (I64 (p1 + 1)))]) (by kernel_rfl) ?_
            exact e_inv (fun a w ha hw => ⟨k, Nat.lt_succ_self k, (I64 (p1 + 1)), p2, A5, c5, A6, c6, A7, c7, hm, hs3, ha, hw⟩)
          · replace hm := ite_f hb4 hm
            refine w_skip (by kernel_rfl) ?_
            refine e_seq ?_
            refine w_seq 15654 15655 (by kernel_rfl) ?_
            refine w_seq 31308 31309 (by kernel_rfl) ?_
            refine w_region (by kernel_rfl) ?_
            refine o_run 5 [0, 1, 2, 7, 8, 9, 10, 52, 53] (l := [(⟨g1, 3, none⟩, .slice A6 p2.xCame.length c6)]) (.one (at_blk (j := 0) rfl rfl) .nil) (E' := [(0, .pointer (some ⟨g1, 0, none⟩)), (1, .int .u32 a1), (2, .slice A4 a2.length c4), (7, .int .i64 (I64 (a0.xRoom - (a0.xIn.length : Int)))), (8, .int .i64 (a0.xIn.length : Int)), (9, .int .i64 p1), (10, .int .i64 (I64 ((I64 (I32 (U32 (a1 - p2.xNext)))) + p1))), (52, .slice A6 p2.xCame.length c6), (53, .int .i64 (I64 ((I64 (I32 (U32 (a1 - p2.xNext)))) + p1)))]) (by kernel_rfl) ?_
            obtain ⟨e2, hx6, hm⟩ := bind_some hm
            obtain ⟨hi3, hi4, hg2⟩ := idx_some hx6
            refine o_val 54 (.indexAddr 40 (.tmp 52) (.tmp 53)) (.pointer (some (adr A6 (Int.toNat (I64 ((I64 (I32 (U32 (a1 - p2.xNext)))) + p1)) * 1)))) (by kernel_rfl) (v_index (k := .i64) (c := c6) (by kernel_rfl) (by kernel_rfl) (by kernel_rfl) hi3 hi4 (own_some (j := 1) rfl hi4 hi3)) ?_
            refine o_run 2 [0, 1, 2, 7, 8, 9, 10, 56] (l := [((adr A6 (Int.toNat (I64 ((I64 (I32 (U32 (a1 - p2.xNext)))) + p1)) * 1)), .bool e2)]) (.one ((At.sub (l := encB e2) 0 (at_own (j := 1) (off := Int.toNat (I64 ((I64 (I32 (U32 (a1 - p2.xNext)))) + p1)) * 1) rfl (row_at (enc := encB) (sz := 1) (fun _ => rfl) hg2)) rfl)) .nil) (E' := [(0, .pointer (some ⟨g1, 0, none⟩)), (1, .int .u32 a1), (2, .slice A4 a2.length c4), (7, .int .i64 (I64 (a0.xRoom - (a0.xIn.length : Int)))), (8, .int .i64 (a0.xIn.length : Int)), (9, .int .i64 p1), (10, .int .i64 (I64 ((I64 (I32 (U32 (a1 - p2.xNext)))) + p1))), (56, .bool (!e2))]) (by kernel_rfl) ?_
            refine o_end (by kernel_rfl) ?_
            refine e_seq ?_
            refine w_cond (.tmp 56) 62618 62619 (!e2) (by kernel_rfl) (by kernel_rfl) (fun hb5 => ?_) (fun hb5 => ?_)
            · replace hm := ite_t hb5 hm
              obtain ⟨e3, hx7, hm⟩ := bind_some hm
              obtain ⟨e4, hx8, hm⟩ := bind_some hm
              obtain ⟨e5, hx9, hm⟩ := bind_some hm
              refine w_joinJ (fun a w => EnvOk [(0, .pointer (some ⟨g1, 0, none⟩)), (1, .int .u32 a1), (2, .slice A4 a2.length c4), (7, .int .i64 (I64 (a0.xRoom - (a0.xIn.length : Int)))), (8, .int .i64 (a0.xIn.length : Int)), (9, .int .i64 p1), (10, .int .i64 (I64 ((I64 (I32 (U32 (a1 - p2.xNext)))) + p1)))] Try.f17.ntmps a ∧ St B G [.blk g1 [.int .i64 p2.xRoom, .int .u32 p2.xNext, .slice A5 p2.xIn.length c5, .slice A6 ((p2.xCame.set (Int.toNat (I64 ((I64 (I32 (U32 (a1 - p2.xNext)))) + p1))) true).length) c6, .slice A7 ((p2.xOut.set (Int.toNat (I64 ((I64 (I32 (U32 (a1 - p2.xNext)))) + p1))) e3).length) c7, .int .u32 p2.xLast, .bool p2.xHas] 42, .own A6 ((p2.xCame.set (Int.toNat (I64 ((I64 (I32 (U32 (a1 - p2.xNext)))) + p1))) true).length) c6 (rowOf encB (p2.xCame.set (Int.toNat (I64 ((I64 (I32 (U32 (a1 - p2.xNext)))) + p1))) true)) 1 4, .own A7 ((p2.xOut.set (Int.toNat (I64 ((I64 (I32 (U32 (a1 - p2.xNext)))) + p1))) e3).length) c7 (rowOf (encI .u8) (p2.xOut.set (Int.toNat (I64 ((I64 (I32 (U32 (a1 - p2.xNext)))) + p1))) e3)) 1 5] w) ?_ ?_
              · rintro a w ⟨ha, hw⟩
                refine we_of (E := [(0, .pointer (some ⟨g1, 0, none⟩)), (1, .int .u32 a1), (2, .slice A4 a2.length c4), (7, .int .i64 (I64 (a0.xRoom - (a0.xIn.length : Int)))), (8, .int .i64 (a0.xIn.length : Int)), (9, .int .i64 p1), (10, .int .i64 (I64 ((I64 (I32 (U32 (a1 - p2.xNext)))) + p1)))]) (B := B) (G := G) (L := [.blk g1 [.int .i64 p2.xRoom, .int .u32 p2.xNext, .slice A5 p2.xIn.length c5, .slice A6 ((p2.xCame.set (Int.toNat (I64 ((I64 (I32 (U32 (a1 - p2.xNext)))) + p1))) true).length) c6, .slice A7 ((p2.xOut.set (Int.toNat (I64 ((I64 (I32 (U32 (a1 - p2.xNext)))) + p1))) e3).length) c7, .int .u32 p2.xLast, .bool p2.xHas] 42, .own A6 ((p2.xCame.set (Int.toNat (I64 ((I64 (I32 (U32 (a1 - p2.xNext)))) + p1))) true).length) c6 (rowOf encB (p2.xCame.set (Int.toNat (I64 ((I64 (I32 (U32 (a1 - p2.xNext)))) + p1))) true)) 1 4, .own A7 ((p2.xOut.set (Int.toNat (I64 ((I64 (I32 (U32 (a1 - p2.xNext)))) + p1))) e3).length) c7 (rowOf (encI .u8) (p2.xOut.set (Int.toNat (I64 ((I64 (I32 (U32 (a1 - p2.xNext)))) + p1))) e3)) 1 5]) ?_ ha hw
                refine e_seq ?_
                refine w_region (by kernel_rfl) ?_
                refine o_run 11 [0, 1, 2, 7, 8, 9, 74, 81, 83] (l := [(⟨g1, 1, none⟩, .int .u32 p2.xNext)]) (.one (at_blk (j := 0) rfl rfl) .nil) (E' := [(0, .pointer (some ⟨g1, 0, none⟩)), (1, .int .u32 a1), (2, .slice A4 a2.length c4), (7, .int .i64 (I64 (a0.xRoom - (a0.xIn.length : Int)))), (8, .int .i64 (a0.xIn.length : Int)), (9, .int .i64 p1), (74, .pointer (some ⟨g1, 0, none⟩)), (81, .int .u32 (U32 (p2.xNext + (U32 (I64 ((I64 (I32 (U32 (a1 - p2.xNext)))) + p1)))))), (83, .pointer (some ⟨g1, 5, none⟩))]) (by kernel_rfl) ?_
                refine o_stp ?_ (by kernel_rfl)
                refine s_store 0 g1 [.int .i64 p2.xRoom, .int .u32 p2.xNext, .slice A5 p2.xIn.length c5, .slice A6 ((p2.xCame.set (Int.toNat (I64 ((I64 (I32 (U32 (a1 - p2.xNext)))) + p1))) true).length) c6, .slice A7 ((p2.xOut.set (Int.toNat (I64 ((I64 (I32 (U32 (a1 - p2.xNext)))) + p1))) e3).length) c7, .int .u32 p2.xLast, .bool p2.xHas] 42 [(5, .int .u32 (U32 (p2.xNext + (U32 (I64 ((I64 (I32 (U32 (a1 - p2.xNext)))) + p1))))))] (by kernel_rfl) (by kernel_rfl) (by kernel_rfl) ?_
                refine t_L (L' := [.blk g1 [.int .i64 p2.xRoom, .int .u32 p2.xNext, .slice A5 p2.xIn.length c5, .slice A6 ((p2.xCame.set (Int.toNat (I64 ((I64 (I32 (U32 (a1 - p2.xNext)))) + p1))) true).length) c6, .slice A7 ((p2.xOut.set (Int.toNat (I64 ((I64 (I32 (U32 (a1 - p2.xNext)))) + p1))) e3).length) c7, .int .u32 (U32 (p2.xNext + (U32 (I64 ((I64 (I32 (U32 (a1 - p2.xNext)))) + p1))))), .bool p2.xHas] 42, .own A6 ((p2.xCame.set (Int.toNat (I64 ((I64 (I32 (U32 (a1 - p2.xNext)))) + p1))) true).length) c6 (rowOf encB (p2.xCame.set (Int.toNat (I64 ((I64 (I32 (U32 (a1 - p2.xNext)))) + p1))) true)) 1 4, .own A7 ((p2.xOut.set (Int.toNat (I64 ((I64 (I32 (U32 (a1 - p2.xNext)))) + p1))) e3).length) c7 (rowOf (encI .u8) (p2.xOut.set (Int.toNat (I64 ((I64 (I32 (U32 (a1 - p2.xNext)))) + p1))) e3)) 1 5]) (by kernel_rfl) ?_
                refine o_run 2 [0, 1, 2, 7, 8, 9, 85] (l := []) .nil (E' := [(0, .pointer (some ⟨g1, 0, none⟩)), (1, .int .u32 a1), (2, .slice A4 a2.length c4), (7, .int .i64 (I64 (a0.xRoom - (a0.xIn.length : Int)))), (8, .int .i64 (a0.xIn.length : Int)), (9, .int .i64 p1), (85, .pointer (some ⟨g1, 6, none⟩))]) (by kernel_rfl) ?_
                refine o_stp ?_ (by kernel_rfl)
                refine s_store 0 g1 [.int .i64 p2.xRoom, .int .u32 p2.xNext, .slice A5 p2.xIn.length c5, .slice A6 ((p2.xCame.set (Int.toNat (I64 ((I64 (I32 (U32 (a1 - p2.xNext)))) + p1))) true).length) c6, .slice A7 ((p2.xOut.set (Int.toNat (I64 ((I64 (I32 (U32 (a1 - p2.xNext)))) + p1))) e3).length) c7, .int .u32 (U32 (p2.xNext + (U32 (I64 ((I64 (I32 (U32 (a1 - p2.xNext)))) + p1))))), .bool p2.xHas] 42 [(6, .bool true)] (by kernel_rfl) (by kernel_rfl) (by kernel_rfl) ?_
                refine t_L (L' := [.blk g1 [.int .i64 p2.xRoom, .int .u32 p2.xNext, .slice A5 p2.xIn.length c5, .slice A6 ((p2.xCame.set (Int.toNat (I64 ((I64 (I32 (U32 (a1 - p2.xNext)))) + p1))) true).length) c6, .slice A7 ((p2.xOut.set (Int.toNat (I64 ((I64 (I32 (U32 (a1 - p2.xNext)))) + p1))) e3).length) c7, .int .u32 (U32 (p2.xNext + (U32 (I64 ((I64 (I32 (U32 (a1 - p2.xNext)))) + p1))))), .bool true] 42, .own A6 ((p2.xCame.set (Int.toNat (I64 ((I64 (I32 (U32 (a1 - p2.xNext)))) + p1))) true).length) c6 (rowOf encB (p2.xCame.set (Int.toNat (I64 ((I64 (I32 (U32 (a1 - p2.xNext)))) + p1))) true)) 1 4, .own A7 ((p2.xOut.set (Int.toNat (I64 ((I64 (I32 (U32 (a1 - p2.xNext)))) + p1))) e3).length) c7 (rowOf (encI .u8) (p2.xOut.set (Int.toNat (I64 ((I64 (I32 (U32 (a1 - p2.xNext)))) + p1))) e3)) 1 5]) (by kernel_rfl) ?_
                refine o_end (by kernel_rfl) ?_
                refine e_blk ?_
                refine e_seq ?_
                refine w_region (by kernel_rfl) ?_
                refine o_run 3 [0, 1, 2, 7, 8, 9] (l := []) .nil (E' := [(0, .pointer (some ⟨g1, 0, none⟩)), (1, .int .u32 a1), (2, .slice A4 a2.length c4), (7, .int .i64 (I64 (a0.xRoom - (a0.xIn.length : Int)))), (8, .int .i64 (a0.xIn.length : Int)), (9, .int .i64 (I64 (p1 + 1)))]) (by kernel_rfl) ?_
                refine o_end (by kernel_rfl) ?_
                refine t_drop [0, 1, 2] (by kernel_rfl) ?_
                refine t_L (L' := [.blk g1 [.int .i64 p2.xRoom, .int .u32 p2.xNext, .slice A5 p2.xIn.length c5, .slice A6 ((p2.xCame.set (Int.toNat (I64 ((I64 (I32 (U32 (a1 - p2.xNext)))) + p1))) true).length) c6, .slice A7 ((p2.xOut.set (Int.toNat (I64 ((I64 (I32 (U32 (a1 - p2.xNext)))) + p1))) e3).length) c7, .int .u32 (U32 (p2.xNext + (U32 (I64 ((I64 (I32 (U32 (a1 - p2.xNext)))) + p1))))), .bool true] 42, .own A6 ((p2.xCame.set (Int.toNat (I64 ((I64 (I32 (U32 (a1 - p2.xNext)))) + p1))) true).length) c6 (rowOf encB (p2.xCame.set (Int.toNat (I64 ((I64 (I32 (U32 (a1 - p2.xNext)))) + p1))) true)) 1 4, .own A7 ((p2.xOut.set (Int.toNat (I64 ((I64 (I32 (U32 (a1 - p2.xNext)))) + p1))) e3).length) c7 (rowOf (encI .u8) (p2.xOut.set (Int.toNat (I64 ((I64 (I32 (U32 (a1 - p2.xNext)))) + p1))) e3)) 1 5]) (by kernel_rfl) ?_
                refine t_env [0, 1, 2, 7, 8, 9] (E' := [(0, .pointer (some ⟨g1, 0, none⟩)), (1, .int .u32 a1), (2, .slice A4 a2.length c4), (7, .int .i64 (I64 (a0.xRoom - (a0.xIn.length : Int)))), (8, .int .i64 (a0.xIn.length : Int)), (9, .int .i64 (I64 (p1 + 1)))]) (by kernel_rfl) ?_
                exact e_inv (fun a w ha hw => ⟨k, Nat.lt_succ_self k, (I64 (p1 + 1)), (⟨p2.xRoom, p2.xNext, p2.xIn, (p2.xCame.set (Int.toNat (I64 ((I64 (I32 (U32 (a1 - p2.xNext)))) + p1))) true), (p2.xOut.set (Int.toNat (I64 ((I64 (I32 (U32 (a1 - p2.xNext)))) + p1))) e3), U32 (p2.xNext + (U32 (I64 ((I64 (I32 (U32 (a1 - p2.xNext)))) + p1)))), true⟩ : T_downhaulref26_Buffer), A5, c5, A6, c6, A7, c7, hm, hs3, ha, hw⟩)
              · refine w_tail 16 [.own A7 p2.xOut.length c7 (rowOf (encI .u8) p2.xOut) 1 5] (by kernel_rfl) mixed (by kernel_rfl) ?_
                refine tt_run [0, 1, 2, 4, 5, 6, 7, 9, 10, 11] [0, 1, 2, 7, 8, 9, 10, 59, 61, 64, 66, 67, 68] [2] 6 (listed' := #[true, true, true, false, true, true, true, true, false, true, true, true, false, false, false, false, false, false]) (l := []) .nil (E' := [(0, .pointer (some ⟨g1, 0, none⟩)), (1, .int .u32 a1), (2, .slice A4 a2.length c4), (7, .int .i64 (I64 (a0.xRoom - (a0.xIn.length : Int)))), (8, .int .i64 (a0.xIn.length : Int)), (9, .int .i64 p1), (10, .int .i64 (I64 ((I64 (I32 (U32 (a1 - p2.xNext)))) + p1))), (59, .pointer (some ⟨g1, 3, none⟩)), (61, .int .i64 (I64 ((I64 (I32 (U32 (a1 - p2.xNext)))) + p1))), (64, .pointer (some ⟨g1, 4, none⟩)), (66, .int .i64 (I64 ((I64 (I32 (U32 (a1 - p2.xNext)))) + p1))), (67, .slice A4 a2.length c4), (68, .int .i64 p1)]) (by kernel_rfl) (by kernel_rfl) (by kernel_rfl) (Ext.refl _) (by kernel_rfl) (by kernel_rfl) ?_
                obtain ⟨hi11, hi12, hg6⟩ := idx_some hx7
                obtain ⟨cs2, hk2, hc2⟩ := (hs2).at hg6
                obtain rfl := hk2
                refine tt_val 12 69 (.indexAddr 32 (.tmp 67) (.tmp 68)) (.pointer (some (adr A4 (Int.toNat p1 * 1)))) [2] (by kernel_rfl) (v_index (k := .i64) (c := c4) (by kernel_rfl) (by kernel_rfl) (by kernel_rfl) hi11 hi12 ((hs2).some hg6)) (by kernel_rfl) (Ext.refl _) (by kernel_rfl) (by kernel_rfl) ?_
                refine tt_run [13] [0, 1, 2, 7, 8, 9, 10, 59, 61, 64, 66, 70] [2] 4 (listed' := #[true, true, true, false, true, true, true, true, false, true, true, true, true, true, false, false, false, false]) (l := [((adr A4 (Int.toNat p1 * 1)), .int .u8 e3)]) (.one ((at_sl hc2).sub 0 rfl) .nil) (E' := [(0, .pointer (some ⟨g1, 0, none⟩)), (1, .int .u32 a1), (2, .slice A4 a2.length c4), (7, .int .i64 (I64 (a0.xRoom - (a0.xIn.length : Int)))), (8, .int .i64 (a0.xIn.length : Int)), (9, .int .i64 p1), (10, .int .i64 (I64 ((I64 (I32 (U32 (a1 - p2.xNext)))) + p1))), (59, .pointer (some ⟨g1, 3, none⟩)), (61, .int .i64 (I64 ((I64 (I32 (U32 (a1 - p2.xNext)))) + p1))), (64, .pointer (some ⟨g1, 4, none⟩)), (66, .int .i64 (I64 ((I64 (I32 (U32 (a1 - p2.xNext)))) + p1))), (70, .int .u8 e3)]) (by kernel_rfl) (by kernel_rfl) (by kernel_rfl) (Ext.refl _) (by kernel_rfl) (by kernel_rfl) ?_
                refine tt_all [3, 8] [2] (Ext.refl _) (by kernel_rfl) (by kernel_rfl) (by kernel_rfl) (by kernel_rfl) ⟨?_, ?_, trivial⟩
                · refine t_env [0, 1, 2, 7, 8, 9, 10, 59, 61, 64, 66, 70] (E' := [(0, .pointer (some ⟨g1, 0, none⟩)), (1, .int .u32 a1), (2, .slice A4 a2.length c4), (7, .int .i64 (I64 (a0.xRoom - (a0.xIn.length : Int)))), (8, .int .i64 (a0.xIn.length : Int)), (9, .int .i64 p1), (10, .int .i64 (I64 ((I64 (I32 (U32 (a1 - p2.xNext)))) + p1))), (59, .pointer (some ⟨g1, 3, none⟩)), (61, .int .i64 (I64 ((I64 (I32 (U32 (a1 - p2.xNext)))) + p1))), (64, .pointer (some ⟨g1, 4, none⟩)), (66, .int .i64 (I64 ((I64 (I32 (U32 (a1 - p2.xNext)))) + p1))), (70, .int .u8 e3)]) (by kernel_rfl) ?_
                  refine s_one (l := [(⟨g1, 3, none⟩, .slice A6 p2.xCame.length c6)]) (.one (at_blk (j := 0) rfl rfl) .nil) (E' := (60, .slice A6 p2.xCame.length c6) :: [(0, .pointer (some ⟨g1, 0, none⟩)), (1, .int .u32 a1), (2, .slice A4 a2.length c4), (7, .int .i64 (I64 (a0.xRoom - (a0.xIn.length : Int)))), (8, .int .i64 (a0.xIn.length : Int)), (9, .int .i64 p1), (10, .int .i64 (I64 ((I64 (I32 (U32 (a1 - p2.xNext)))) + p1))), (59, .pointer (some ⟨g1, 3, none⟩)), (61, .int .i64 (I64 ((I64 (I32 (U32 (a1 - p2.xNext)))) + p1))), (64, .pointer (some ⟨g1, 4, none⟩)), (66, .int .i64 (I64 ((I64 (I32 (U32 (a1 - p2.xNext)))) + p1))), (70, .int .u8 e3)]) (by kernel_rfl) ?_
                  refine t_env [0, 1, 2, 7, 8, 9, 10, 59, 60, 61, 64, 66, 70] (E' := [(0, .pointer (some ⟨g1, 0, none⟩)), (1, .int .u32 a1), (2, .slice A4 a2.length c4), (7, .int .i64 (I64 (a0.xRoom - (a0.xIn.length : Int)))), (8, .int .i64 (a0.xIn.length : Int)), (9, .int .i64 p1), (10, .int .i64 (I64 ((I64 (I32 (U32 (a1 - p2.xNext)))) + p1))), (59, .pointer (some ⟨g1, 3, none⟩)), (60, .slice A6 p2.xCame.length c6), (61, .int .i64 (I64 ((I64 (I32 (U32 (a1 - p2.xNext)))) + p1))), (64, .pointer (some ⟨g1, 4, none⟩)), (66, .int .i64 (I64 ((I64 (I32 (U32 (a1 - p2.xNext)))) + p1))), (70, .int .u8 e3)]) (by kernel_rfl) ?_
                  refine tt_stp 8 [2] (Ext.refl _) (by kernel_rfl) (by kernel_rfl) (by kernel_rfl) (by kernel_rfl) ?_
                  refine s_one (l := [(⟨g1, 4, none⟩, .slice A7 p2.xOut.length c7)]) (.one (at_blk (j := 0) rfl rfl) .nil) (E' := (65, .slice A7 p2.xOut.length c7) :: [(0, .pointer (some ⟨g1, 0, none⟩)), (1, .int .u32 a1), (2, .slice A4 a2.length c4), (7, .int .i64 (I64 (a0.xRoom - (a0.xIn.length : Int)))), (8, .int .i64 (a0.xIn.length : Int)), (9, .int .i64 p1), (10, .int .i64 (I64 ((I64 (I32 (U32 (a1 - p2.xNext)))) + p1))), (59, .pointer (some ⟨g1, 3, none⟩)), (60, .slice A6 p2.xCame.length c6), (61, .int .i64 (I64 ((I64 (I32 (U32 (a1 - p2.xNext)))) + p1))), (64, .pointer (some ⟨g1, 4, none⟩)), (66, .int .i64 (I64 ((I64 (I32 (U32 (a1 - p2.xNext)))) + p1))), (70, .int .u8 e3)]) (by kernel_rfl) ?_
                  obtain ⟨hi13, hi14, hg7⟩ := idx_some hx8
                  refine tt_stp 14 [2] (Ext.refl _) (by kernel_rfl) (by kernel_rfl) (by kernel_rfl) (by kernel_rfl) ?_
                  refine s_val 71 (.indexAddr 40 (.tmp 60) (.tmp 61)) (.pointer (some (adr A6 (Int.toNat (I64 ((I64 (I32 (U32 (a1 - p2.xNext)))) + p1)) * 1)))) (by kernel_rfl) (v_index (k := .i64) (c := c6) (by kernel_rfl) (by kernel_rfl) (by kernel_rfl) hi13 hi14 (own_some (j := 1) rfl hi14 hi13)) ?_
                  refine tt_stp 15 [2] (Ext.refl _) (by kernel_rfl) (by kernel_rfl) (by kernel_rfl) (by kernel_rfl) ?_
                  refine s_setE (enc := encB) (v := .bool true) 4 (.tmp 71) (.const (.bool true)) 1 (x := true) (by kernel_rfl) (by kernel_rfl) (by kernel_rfl) rfl (by kernel_rfl) rfl (fun _ => rfl) hg7 (fun u hu => by cases List.mem_singleton.1 hu; rfl) (by decide) ?_
                  refine t_env [0, 1, 2, 7, 8, 9, 10, 59, 60, 61, 64, 65, 66, 70, 71] (E' := [(0, .pointer (some ⟨g1, 0, none⟩)), (1, .int .u32 a1), (2, .slice A4 a2.length c4), (7, .int .i64 (I64 (a0.xRoom - (a0.xIn.length : Int)))), (8, .int .i64 (a0.xIn.length : Int)), (9, .int .i64 p1), (10, .int .i64 (I64 ((I64 (I32 (U32 (a1 - p2.xNext)))) + p1))), (59, .pointer (some ⟨g1, 3, none⟩)), (60, .slice A6 p2.xCame.length c6), (61, .int .i64 (I64 ((I64 (I32 (U32 (a1 - p2.xNext)))) + p1))), (64, .pointer (some ⟨g1, 4, none⟩)), (65, .slice A7 p2.xOut.length c7), (66, .int .i64 (I64 ((I64 (I32 (U32 (a1 - p2.xNext)))) + p1))), (70, .int .u8 e3), (71, .pointer (some (adr A6 (Int.toNat (I64 ((I64 (I32 (U32 (a1 - p2.xNext)))) + p1)) * 1))))]) (by kernel_rfl) ?_
                  refine t_EL (E' := [(0, .pointer (some ⟨g1, 0, none⟩)), (1, .int .u32 a1), (2, .slice A4 a2.length c4), (7, .int .i64 (I64 (a0.xRoom - (a0.xIn.length : Int)))), (8, .int .i64 (a0.xIn.length : Int)), (9, .int .i64 p1), (10, .int .i64 (I64 ((I64 (I32 (U32 (a1 - p2.xNext)))) + p1))), (59, .pointer (some ⟨g1, 3, none⟩)), (60, .slice A6 ((p2.xCame.set (Int.toNat (I64 ((I64 (I32 (U32 (a1 - p2.xNext)))) + p1))) true).length) c6), (61, .int .i64 (I64 ((I64 (I32 (U32 (a1 - p2.xNext)))) + p1))), (64, .pointer (some ⟨g1, 4, none⟩)), (65, .slice A7 p2.xOut.length c7), (66, .int .i64 (I64 ((I64 (I32 (U32 (a1 - p2.xNext)))) + p1))), (70, .int .u8 e3), (71, .pointer (some (adr A6 (Int.toNat (I64 ((I64 (I32 (U32 (a1 - p2.xNext)))) + p1)) * 1))))]) (L' := [.blk g1 [.int .i64 p2.xRoom, .int .u32 p2.xNext, .slice A5 p2.xIn.length c5, .slice A6 ((p2.xCame.set (Int.toNat (I64 ((I64 (I32 (U32 (a1 - p2.xNext)))) + p1))) true).length) c6, .slice A7 p2.xOut.length c7, .int .u32 p2.xLast, .bool p2.xHas] 42, .own A6 ((p2.xCame.set (Int.toNat (I64 ((I64 (I32 (U32 (a1 - p2.xNext)))) + p1))) true).length) c6 (rowOf encB (p2.xCame.set (Int.toNat (I64 ((I64 (I32 (U32 (a1 - p2.xNext)))) + p1))) true)) 1 4, .own A7 p2.xOut.length c7 (rowOf (encI .u8) p2.xOut) 1 5]) (eq_of_len List.length_set.symm (fun n => ([(0, .pointer (some ⟨g1, 0, none⟩)), (1, .int .u32 a1), (2, .slice A4 a2.length c4), (7, .int .i64 (I64 (a0.xRoom - (a0.xIn.length : Int)))), (8, .int .i64 (a0.xIn.length : Int)), (9, .int .i64 p1), (10, .int .i64 (I64 ((I64 (I32 (U32 (a1 - p2.xNext)))) + p1))), (59, .pointer (some ⟨g1, 3, none⟩)), (60, .slice A6 n c6), (61, .int .i64 (I64 ((I64 (I32 (U32 (a1 - p2.xNext)))) + p1))), (64, .pointer (some ⟨g1, 4, none⟩)), (65, .slice A7 p2.xOut.length c7), (66, .int .i64 (I64 ((I64 (I32 (U32 (a1 - p2.xNext)))) + p1))), (70, .int .u8 e3), (71, .pointer (some (adr A6 (Int.toNat (I64 ((I64 (I32 (U32 (a1 - p2.xNext)))) + p1)) * 1))))], [.blk g1 [.int .i64 p2.xRoom, .int .u32 p2.xNext, .slice A5 p2.xIn.length c5, .slice A6 n c6, .slice A7 p2.xOut.length c7, .int .u32 p2.xLast, .bool p2.xHas] 42, .own A6 n c6 (rowOf encB (p2.xCame.set (Int.toNat (I64 ((I64 (I32 (U32 (a1 - p2.xNext)))) + p1))) true)) 1 4, .own A7 p2.xOut.length c7 (rowOf (encI .u8) p2.xOut) 1 5])) rfl rfl) ?_
                  refine tt_end [2] (Ext.refl _) (by kernel_rfl) (by kernel_rfl) (by kernel_rfl) ?_
                  obtain ⟨hi15, hi16, hg8⟩ := idx_some hx9
                  refine o_val 72 (.indexAddr 32 (.tmp 65) (.tmp 66)) (.pointer (some (adr A7 (Int.toNat (I64 ((I64 (I32 (U32 (a1 - p2.xNext)))) + p1)) * 1)))) (by kernel_rfl) (v_index (k := .i64) (c := c7) (by kernel_rfl) (by kernel_rfl) (by kernel_rfl) hi15 hi16 (own_some (j := 2) rfl hi16 hi15)) ?_
                  refine o_stp ?_ (by kernel_rfl)
                  refine s_setE (enc := (encI .u8)) (v := .int .u8 e3) 5 (.tmp 72) (.tmp 70) 2 (x := e3) (by kernel_rfl) (by kernel_rfl) (by kernel_rfl) rfl (by kernel_rfl) rfl (fun _ => rfl) hg8 (fun u hu => by cases List.mem_singleton.1 hu; rfl) (by decide) ?_
                  refine t_env [0, 1, 2, 7, 8, 9, 10, 59, 60, 61, 64, 65, 66, 70, 71, 72] (E' := [(0, .pointer (some ⟨g1, 0, none⟩)), (1, .int .u32 a1), (2, .slice A4 a2.length c4), (7, .int .i64 (I64 (a0.xRoom - (a0.xIn.length : Int)))), (8, .int .i64 (a0.xIn.length : Int)), (9, .int .i64 p1), (10, .int .i64 (I64 ((I64 (I32 (U32 (a1 - p2.xNext)))) + p1))), (59, .pointer (some ⟨g1, 3, none⟩)), (60, .slice A6 ((p2.xCame.set (Int.toNat (I64 ((I64 (I32 (U32 (a1 - p2.xNext)))) + p1))) true).length) c6), (61, .int .i64 (I64 ((I64 (I32 (U32 (a1 - p2.xNext)))) + p1))), (64, .pointer (some ⟨g1, 4, none⟩)), (65, .slice A7 p2.xOut.length c7), (66, .int .i64 (I64 ((I64 (I32 (U32 (a1 - p2.xNext)))) + p1))), (70, .int .u8 e3), (71, .pointer (some (adr A6 (Int.toNat (I64 ((I64 (I32 (U32 (a1 - p2.xNext)))) + p1)) * 1)))), (72, .pointer (some (adr A7 (Int.toNat (I64 ((I64 (I32 (U32 (a1 - p2.xNext)))) + p1)) * 1))))]) (by kernel_rfl) ?_
                  refine t_EL (E' := [(0, .pointer (some ⟨g1, 0, none⟩)), (1, .int .u32 a1), (2, .slice A4 a2.length c4), (7, .int .i64 (I64 (a0.xRoom - (a0.xIn.length : Int)))), (8, .int .i64 (a0.xIn.length : Int)), (9, .int .i64 p1), (10, .int .i64 (I64 ((I64 (I32 (U32 (a1 - p2.xNext)))) + p1))), (59, .pointer (some ⟨g1, 3, none⟩)), (60, .slice A6 ((p2.xCame.set (Int.toNat (I64 ((I64 (I32 (U32 (a1 - p2.xNext)))) + p1))) true).length) c6), (61, .int .i64 (I64 ((I64 (I32 (U32 (a1 - p2.xNext)))) + p1))), (64, .pointer (some ⟨g1, 4, none⟩)), (65, .slice A7 ((p2.xOut.set (Int.toNat (I64 ((I64 (I32 (U32 (a1 - p2.xNext)))) + p1))) e3).length) c7), (66, .int .i64 (I64 ((I64 (I32 (U32 (a1 - p2.xNext)))) + p1))), (70, .int .u8 e3), (71, .pointer (some (adr A6 (Int.toNat (I64 ((I64 (I32 (U32 (a1 - p2.xNext)))) + p1)) * 1)))), (72, .pointer (some (adr A7 (Int.toNat (I64 ((I64 (I32 (U32 (a1 - p2.xNext)))) + p1)) * 1))))]) (L' := [.blk g1 [.int .i64 p2.xRoom, .int .u32 p2.xNext, .slice A5 p2.xIn.length c5, .slice A6 ((p2.xCame.set (Int.toNat (I64 ((I64 (I32 (U32 (a1 - p2.xNext)))) + p1))) true).length) c6, .slice A7 ((p2.xOut.set (Int.toNat (I64 ((I64 (I32 (U32 (a1 - p2.xNext)))) + p1))) e3).length) c7, .int .u32 p2.xLast, .bool p2.xHas] 42, .own A6 ((p2.xCame.set (Int.toNat (I64 ((I64 (I32 (U32 (a1 - p2.xNext)))) + p1))) true).length) c6 (rowOf encB (p2.xCame.set (Int.toNat (I64 ((I64 (I32 (U32 (a1 - p2.xNext)))) + p1))) true)) 1 4, .own A7 ((p2.xOut.set (Int.toNat (I64 ((I64 (I32 (U32 (a1 - p2.xNext)))) + p1))) e3).length) c7 (rowOf (encI .u8) (p2.xOut.set (Int.toNat (I64 ((I64 (I32 (U32 (a1 - p2.xNext)))) + p1))) e3)) 1 5]) (eq_of_len List.length_set.symm (fun n => ([(0, .pointer (some ⟨g1, 0, none⟩)), (1, .int .u32 a1), (2, .slice A4 a2.length c4), (7, .int .i64 (I64 (a0.xRoom - (a0.xIn.length : Int)))), (8, .int .i64 (a0.xIn.length : Int)), (9, .int .i64 p1), (10, .int .i64 (I64 ((I64 (I32 (U32 (a1 - p2.xNext)))) + p1))), (59, .pointer (some ⟨g1, 3, none⟩)), (60, .slice A6 ((p2.xCame.set (Int.toNat (I64 ((I64 (I32 (U32 (a1 - p2.xNext)))) + p1))) true).length) c6), (61, .int .i64 (I64 ((I64 (I32 (U32 (a1 - p2.xNext)))) + p1))), (64, .pointer (some ⟨g1, 4, none⟩)), (65, .slice A7 n c7), (66, .int .i64 (I64 ((I64 (I32 (U32 (a1 - p2.xNext)))) + p1))), (70, .int .u8 e3), (71, .pointer (some (adr A6 (Int.toNat (I64 ((I64 (I32 (U32 (a1 - p2.xNext)))) + p1)) * 1)))), (72, .pointer (some (adr A7 (Int.toNat (I64 ((I64 (I32 (U32 (a1 - p2.xNext)))) + p1)) * 1))))], [.blk g1 [.int .i64 p2.xRoom, .int .u32 p2.xNext, .slice A5 p2.xIn.length c5, .slice A6 ((p2.xCame.set (Int.toNat (I64 ((I64 (I32 (U32 (a1 - p2.xNext)))) + p1))) true).length) c6, .slice A7 n c7, .int .u32 p2.xLast, .bool p2.xHas] 42, .own A6 ((p2.xCame.set (Int.toNat (I64 ((I64 (I32 (U32 (a1 - p2.xNext)))) + p1))) true).length) c6 (rowOf encB (p2.xCame.set (Int.toNat (I64 ((I64 (I32 (U32 (a1 - p2.xNext)))) + p1))) true)) 1 4, .own A7 n c7 (rowOf (encI .u8) (p2.xOut.set (Int.toNat (I64 ((I64 (I32 (U32 (a1 - p2.xNext)))) + p1))) e3)) 1 5])) rfl rfl) ?_
                  refine o_end (by kernel_rfl) ?_
                  refine t_drop [0, 1, 2] (by kernel_rfl) ?_
                  refine t_L (L' := [.blk g1 [.int .i64 p2.xRoom, .int .u32 p2.xNext, .slice A5 p2.xIn.length c5, .slice A6 ((p2.xCame.set (Int.toNat (I64 ((I64 (I32 (U32 (a1 - p2.xNext)))) + p1))) true).length) c6, .slice A7 ((p2.xOut.set (Int.toNat (I64 ((I64 (I32 (U32 (a1 - p2.xNext)))) + p1))) e3).length) c7, .int .u32 p2.xLast, .bool p2.xHas] 42, .own A6 ((p2.xCame.set (Int.toNat (I64 ((I64 (I32 (U32 (a1 - p2.xNext)))) + p1))) true).length) c6 (rowOf encB (p2.xCame.set (Int.toNat (I64 ((I64 (I32 (U32 (a1 - p2.xNext)))) + p1))) true)) 1 4, .own A7 ((p2.xOut.set (Int.toNat (I64 ((I64 (I32 (U32 (a1 - p2.xNext)))) + p1))) e3).length) c7 (rowOf (encI .u8) (p2.xOut.set (Int.toNat (I64 ((I64 (I32 (U32 (a1 - p2.xNext)))) + p1))) e3)) 1 5]) (by kernel_rfl) ?_
                  refine t_env [0, 1, 2, 7, 8, 9, 10] (E' := [(0, .pointer (some ⟨g1, 0, none⟩)), (1, .int .u32 a1), (2, .slice A4 a2.length c4), (7, .int .i64 (I64 (a0.xRoom - (a0.xIn.length : Int)))), (8, .int .i64 (a0.xIn.length : Int)), (9, .int .i64 p1), (10, .int .i64 (I64 ((I64 (I32 (U32 (a1 - p2.xNext)))) + p1)))]) (by kernel_rfl) ?_
                  exact e_inv (fun a w ha hw => ⟨ha, hw⟩)
                · refine t_env [0, 1, 2, 7, 8, 9, 10, 59, 61, 64, 66, 70] (E' := [(0, .pointer (some ⟨g1, 0, none⟩)), (1, .int .u32 a1), (2, .slice A4 a2.length c4), (7, .int .i64 (I64 (a0.xRoom - (a0.xIn.length : Int)))), (8, .int .i64 (a0.xIn.length : Int)), (9, .int .i64 p1), (10, .int .i64 (I64 ((I64 (I32 (U32 (a1 - p2.xNext)))) + p1))), (59, .pointer (some ⟨g1, 3, none⟩)), (61, .int .i64 (I64 ((I64 (I32 (U32 (a1 - p2.xNext)))) + p1))), (64, .pointer (some ⟨g1, 4, none⟩)), (66, .int .i64 (I64 ((I64 (I32 (U32 (a1 - p2.xNext)))) + p1))), (70, .int .u8 e3)]) (by kernel_rfl) ?_
                  refine s_one (l := [(⟨g1, 4, none⟩, .slice A7 p2.xOut.length c7)]) (.one (at_blk (j := 0) rfl rfl) .nil) (E' := (65, .slice A7 p2.xOut.length c7) :: [(0, .pointer (some ⟨g1, 0, none⟩)), (1, .int .u32 a1), (2, .slice A4 a2.length c4), (7, .int .i64 (I64 (a0.xRoom - (a0.xIn.length : Int)))), (8, .int .i64 (a0.xIn.length : Int)), (9, .int .i64 p1), (10, .int .i64 (I64 ((I64 (I32 (U32 (a1 - p2.xNext)))) + p1))), (59, .pointer (some ⟨g1, 3, none⟩)), (61, .int .i64 (I64 ((I64 (I32 (U32 (a1 - p2.xNext)))) + p1))), (64, .pointer (some ⟨g1, 4, none⟩)), (66, .int .i64 (I64 ((I64 (I32 (U32 (a1 - p2.xNext)))) + p1))), (70, .int .u8 e3)]) (by kernel_rfl) ?_
                  refine t_env [0, 1, 2, 7, 8, 9, 10, 59, 61, 64, 65, 66, 70] (E' := [(0, .pointer (some ⟨g1, 0, none⟩)), (1, .int .u32 a1), (2, .slice A4 a2.length c4), (7, .int .i64 (I64 (a0.xRoom - (a0.xIn.length : Int)))), (8, .int .i64 (a0.xIn.length : Int)), (9, .int .i64 p1), (10, .int .i64 (I64 ((I64 (I32 (U32 (a1 - p2.xNext)))) + p1))), (59, .pointer (some ⟨g1, 3, none⟩)), (61, .int .i64 (I64 ((I64 (I32 (U32 (a1 - p2.xNext)))) + p1))), (64, .pointer (some ⟨g1, 4, none⟩)), (65, .slice A7 p2.xOut.length c7), (66, .int .i64 (I64 ((I64 (I32 (U32 (a1 - p2.xNext)))) + p1))), (70, .int .u8 e3)]) (by kernel_rfl) ?_
                  refine tt_stp 3 [2] (Ext.refl _) (by kernel_rfl) (by kernel_rfl) (by kernel_rfl) (by kernel_rfl) ?_
                  refine s_one (l := [(⟨g1, 3, none⟩, .slice A6 p2.xCame.length c6)]) (.one (at_blk (j := 0) rfl rfl) .nil) (E' := (60, .slice A6 p2.xCame.length c6) :: [(0, .pointer (some ⟨g1, 0, none⟩)), (1, .int .u32 a1), (2, .slice A4 a2.length c4), (7, .int .i64 (I64 (a0.xRoom - (a0.xIn.length : Int)))), (8, .int .i64 (a0.xIn.length : Int)), (9, .int .i64 p1), (10, .int .i64 (I64 ((I64 (I32 (U32 (a1 - p2.xNext)))) + p1))), (59, .pointer (some ⟨g1, 3, none⟩)), (61, .int .i64 (I64 ((I64 (I32 (U32 (a1 - p2.xNext)))) + p1))), (64, .pointer (some ⟨g1, 4, none⟩)), (65, .slice A7 p2.xOut.length c7), (66, .int .i64 (I64 ((I64 (I32 (U32 (a1 - p2.xNext)))) + p1))), (70, .int .u8 e3)]) (by kernel_rfl) ?_
                  obtain ⟨hi17, hi18, hg9⟩ := idx_some hx8
                  refine tt_stp 14 [2] (Ext.refl _) (by kernel_rfl) (by kernel_rfl) (by kernel_rfl) (by kernel_rfl) ?_
                  refine s_val 71 (.indexAddr 40 (.tmp 60) (.tmp 61)) (.pointer (some (adr A6 (Int.toNat (I64 ((I64 (I32 (U32 (a1 - p2.xNext)))) + p1)) * 1)))) (by kernel_rfl) (v_index (k := .i64) (c := c6) (by kernel_rfl) (by kernel_rfl) (by kernel_rfl) hi17 hi18 (own_some (j := 1) rfl hi18 hi17)) ?_
                  refine tt_stp 15 [2] (Ext.refl _) (by kernel_rfl) (by kernel_rfl) (by kernel_rfl) (by kernel_rfl) ?_
                  refine s_setE (enc := encB) (v := .bool true) 4 (.tmp 71) (.const (.bool true)) 1 (x := true) (by kernel_rfl) (by kernel_rfl) (by kernel_rfl) rfl (by kernel_rfl) rfl (fun _ => rfl) hg9 (fun u hu => by cases List.mem_singleton.1 hu; rfl) (by decide) ?_
                  refine t_env [0, 1, 2, 7, 8, 9, 10, 59, 60, 61, 64, 65, 66, 70, 71] (E' := [(0, .pointer (some ⟨g1, 0, none⟩)), (1, .int .u32 a1), (2, .slice A4 a2.length c4), (7, .int .i64 (I64 (a0.xRoom - (a0.xIn.length : Int)))), (8, .int .i64 (a0.xIn.length : Int)), (9, .int .i64 p1), (10, .int .i64 (I64 ((I64 (I32 (U32 (a1 - p2.xNext)))) + p1))), (59, .pointer (some ⟨g1, 3, none⟩)), (60, .slice A6 p2.xCame.length c6), (61, .int .i64 (I64 ((I64 (I32 (U32 (a1 - p2.xNext)))) + p1))), (64, .pointer (some ⟨g1, 4, none⟩)), (65, .slice A7 p2.xOut.length c7), (66, .int .i64 (I64 ((I64 (I32 (U32 (a1 - p2.xNext)))) + p1))), (70, .int .u8 e3), (71, .pointer (some (adr A6 (Int.toNat (I64 ((I64 (I32 (U32 (a1 - p2.xNext)))) + p1)) * 1))))]) (by kernel_rfl) ?_
                  refine t_EL (E' := [(0, .pointer (some ⟨g1, 0, none⟩)), (1, .int .u32 a1), (2, .slice A4 a2.length c4), (7, .int .i64 (I64 (a0.xRoom - (a0.xIn.length : Int)))), (8, .int .i64 (a0.xIn.length : Int)), (9, .int .i64 p1), (10, .int .i64 (I64 ((I64 (I32 (U32 (a1 - p2.xNext)))) + p1))), (59, .pointer (some ⟨g1, 3, none⟩)), (60, .slice A6 ((p2.xCame.set (Int.toNat (I64 ((I64 (I32 (U32 (a1 - p2.xNext)))) + p1))) true).length) c6), (61, .int .i64 (I64 ((I64 (I32 (U32 (a1 - p2.xNext)))) + p1))), (64, .pointer (some ⟨g1, 4, none⟩)), (65, .slice A7 p2.xOut.length c7), (66, .int .i64 (I64 ((I64 (I32 (U32 (a1 - p2.xNext)))) + p1))), (70, .int .u8 e3), (71, .pointer (some (adr A6 (Int.toNat (I64 ((I64 (I32 (U32 (a1 - p2.xNext)))) + p1)) * 1))))]) (L' := [.blk g1 [.int .i64 p2.xRoom, .int .u32 p2.xNext, .slice A5 p2.xIn.length c5, .slice A6 ((p2.xCame.set (Int.toNat (I64 ((I64 (I32 (U32 (a1 - p2.xNext)))) + p1))) true).length) c6, .slice A7 p2.xOut.length c7, .int .u32 p2.xLast, .bool p2.xHas] 42, .own A6 ((p2.xCame.set (Int.toNat (I64 ((I64 (I32 (U32 (a1 - p2.xNext)))) + p1))) true).length) c6 (rowOf encB (p2.xCame.set (Int.toNat (I64 ((I64 (I32 (U32 (a1 - p2.xNext)))) + p1))) true)) 1 4, .own A7 p2.xOut.length c7 (rowOf (encI .u8) p2.xOut) 1 5]) (eq_of_len List.length_set.symm (fun n => ([(0, .pointer (some ⟨g1, 0, none⟩)), (1, .int .u32 a1), (2, .slice A4 a2.length c4), (7, .int .i64 (I64 (a0.xRoom - (a0.xIn.length : Int)))), (8, .int .i64 (a0.xIn.length : Int)), (9, .int .i64 p1), (10, .int .i64 (I64 ((I64 (I32 (U32 (a1 - p2.xNext)))) + p1))), (59, .pointer (some ⟨g1, 3, none⟩)), (60, .slice A6 n c6), (61, .int .i64 (I64 ((I64 (I32 (U32 (a1 - p2.xNext)))) + p1))), (64, .pointer (some ⟨g1, 4, none⟩)), (65, .slice A7 p2.xOut.length c7), (66, .int .i64 (I64 ((I64 (I32 (U32 (a1 - p2.xNext)))) + p1))), (70, .int .u8 e3), (71, .pointer (some (adr A6 (Int.toNat (I64 ((I64 (I32 (U32 (a1 - p2.xNext)))) + p1)) * 1))))], [.blk g1 [.int .i64 p2.xRoom, .int .u32 p2.xNext, .slice A5 p2.xIn.length c5, .slice A6 n c6, .slice A7 p2.xOut.length c7, .int .u32 p2.xLast, .bool p2.xHas] 42, .own A6 n c6 (rowOf encB (p2.xCame.set (Int.toNat (I64 ((I64 (I32 (U32 (a1 - p2.xNext)))) + p1))) true)) 1 4, .own A7 p2.xOut.length c7 (rowOf (encI .u8) p2.xOut) 1 5])) rfl rfl) ?_
                  refine tt_end [2] (Ext.refl _) (by kernel_rfl) (by kernel_rfl) (by kernel_rfl) ?_
                  obtain ⟨hi19, hi20, hg10⟩ := idx_some hx9
                  refine o_val 72 (.indexAddr 32 (.tmp 65) (.tmp 66)) (.pointer (some (adr A7 (Int.toNat (I64 ((I64 (I32 (U32 (a1 - p2.xNext)))) + p1)) * 1)))) (by kernel_rfl) (v_index (k := .i64) (c := c7) (by kernel_rfl) (by kernel_rfl) (by kernel_rfl) hi19 hi20 (own_some (j := 2) rfl hi20 hi19)) ?_
                  refine o_stp ?_ (by kernel_rfl)
                  refine s_setE (enc := (encI .u8)) (v := .int .u8 e3) 5 (.tmp 72) (.tmp 70) 2 (x := e3) (by kernel_rfl) (by kernel_rfl) (by kernel_rfl) rfl (by kernel_rfl) rfl (fun _ => rfl) hg10 (fun u hu => by cases List.mem_singleton.1 hu; rfl) (by decide) ?_
                  refine t_env [0, 1, 2, 7, 8, 9, 10, 59, 60, 61, 64, 65, 66, 70, 71, 72] (E' := [(0, .pointer (some ⟨g1, 0, none⟩)), (1, .int .u32 a1), (2, .slice A4 a2.length c4), (7, .int .i64 (I64 (a0.xRoom - (a0.xIn.length : Int)))), (8, .int .i64 (a0.xIn.length : Int)), (9, .int .i64 p1), (10, .int .i64 (I64 ((I64 (I32 (U32 (a1 - p2.xNext)))) + p1))), (59, .pointer (some ⟨g1, 3, none⟩)), (60, .slice A6 ((p2.xCame.set (Int.toNat (I64 ((I64 (I32 (U32 (a1 - p2.xNext)))) + p1))) true).length) c6), (61, .int .i64 (I64 ((I64 (I32 (U32 (a1 - p2.xNext)))) + p1))), (64, .pointer (some ⟨g1, 4, none⟩)), (65, .slice A7 p2.xOut.length c7), (66, .int .i64 (I64 ((I64 (I32 (U32 (a1 - p2.xNext)))) + p1))), (70, .int .u8 e3), (71, .pointer (some (adr A6 (Int.toNat (I64 ((I64 (I32 (U32 (a1 - p2.xNext)))) + p1)) * 1)))), (72, .pointer (some (adr A7 (Int.toNat (I64 ((I64 (I32 (U32 (a1 - p2.xNext)))) + p1)) * 1))))]) (by kernel_rfl) ?_
                  refine t_EL (E' := [(0, .pointer (some ⟨g1, 0, none⟩)), (1, .int .u32 a1), (2, .slice A4 a2.length c4), (7, .int .i64 (I64 (a0.xRoom - (a0.xIn.length : Int)))), (8, .int .i64 (a0.xIn.length : Int)), (9, .int .i64 p1), (10, .int .i64 (I64 ((I64 (I32 (U32 (a1 - p2.xNext)))) + p1))), (59, .pointer (some ⟨g1, 3, none⟩)), (60, .slice A6 ((p2.xCame.set (Int.toNat (I64 ((I64 (I32 (U32 (a1 - p2.xNext)))) + p1))) true).length) c6), (61, .int .i64 (I64 ((I64 (I32 (U32 (a1 - p2.xNext)))) + p1))), (64, .pointer (some ⟨g1, 4, none⟩)), (65, .slice A7 ((p2.xOut.set (Int.toNat (I64 ((I64 (I32 (U32 (a1 - p2.xNext)))) + p1))) e3).length) c7), (66, .int .i64 (I64 ((I64 (I32 (U32 (a1 - p2.xNext)))) + p1))), (70, .int .u8 e3), (71, .pointer (some (adr A6 (Int.toNat (I64 ((I64 (I32 (U32 (a1 - p2.xNext)))) + p1)) * 1)))), (72, .pointer (some (adr A7 (Int.toNat (I64 ((I64 (I32 (U32 (a1 - p2.xNext)))) + p1)) * 1))))]) (L' := [.blk g1 [.int .i64 p2.xRoom, .int .u32 p2.xNext, .slice A5 p2.xIn.length c5, .slice A6 ((p2.xCame.set (Int.toNat (I64 ((I64 (I32 (U32 (a1 - p2.xNext)))) + p1))) true).length) c6, .slice A7 ((p2.xOut.set (Int.toNat (I64 ((I64 (I32 (U32 (a1 - p2.xNext)))) + p1))) e3).length) c7, .int .u32 p2.xLast, .bool p2.xHas] 42, .own A6 ((p2.xCame.set (Int.toNat (I64 ((I64 (I32 (U32 (a1 - p2.xNext)))) + p1))) true).length) c6 (rowOf encB (p2.xCame.set (Int.toNat (I64 ((I64 (I32 (U32 (a1 - p2.xNext)))) + p1))) true)) 1 4, .own A7 ((p2.xOut.set (Int.toNat (I64 ((I64 (I32 (U32 (a1 - p2.xNext)))) + p1))) e3).length) c7 (rowOf (encI .u8) (p2.xOut.set (Int.toNat (I64 ((I64 (I32 (U32 (a1 - p2.xNext)))) + p1))) e3)) 1 5]) (eq_of_len List.length_set.symm (fun n => ([(0, .pointer (some ⟨g1, 0, none⟩)), (1, .int .u32 a1), (2, .slice A4 a2.length c4), (7, .int .i64 (I64 (a0.xRoom - (a0.xIn.length : Int)))), (8, .int .i64 (a0.xIn.length : Int)), (9, .int .i64 p1), (10, .int .i64 (I64 ((I64 (I32 (U32 (a1 - p2.xNext)))) + p1))), (59, .pointer (some ⟨g1, 3, none⟩)), (60, .slice A6 ((p2.xCame.set (Int.toNat (I64 ((I64 (I32 (U32 (a1 - p2.xNext)))) + p1))) true).length) c6), (61, .int .i64 (I64 ((I64 (I32 (U32 (a1 - p2.xNext)))) + p1))), (64, .pointer (some ⟨g1, 4, none⟩)), (65, .slice A7 n c7), (66, .int .i64 (I64 ((I64 (I32 (U32 (a1 - p2.xNext)))) + p1))), (70, .int .u8 e3), (71, .pointer (some (adr A6 (Int.toNat (I64 ((I64 (I32 (U32 (a1 - p2.xNext)))) + p1)) * 1)))), (72, .pointer (some (adr A7 (Int.toNat (I64 ((I64 (I32 (U32 (a1 - p2.xNext)))) + p1)) * 1))))], [.blk g1 [.int .i64 p2.xRoom, .int .u32 p2.xNext, .slice A5 p2.xIn.length c5, .slice A6 ((p2.xCame.set (Int.toNat (I64 ((I64 (I32 (U32 (a1 - p2.xNext)))) + p1))) true).length) c6, .slice A7 n c7, .int .u32 p2.xLast, .bool p2.xHas] 42, .own A6 ((p2.xCame.set (Int.toNat (I64 ((I64 (I32 (U32 (a1 - p2.xNext)))) + p1))) true).length) c6 (rowOf encB (p2.xCame.set (Int.toNat (I64 ((I64 (I32 (U32 (a1 - p2.xNext)))) + p1))) true)) 1 4, .own A7 n c7 (rowOf (encI .u8) (p2.xOut.set (Int.toNat (I64 ((I64 (I32 (U32 (a1 - p2.xNext)))) + p1))) e3)) 1 5])) rfl rfl) ?_
                  refine o_end (by kernel_rfl) ?_
                  refine t_drop [0, 1, 2] (by kernel_rfl) ?_
                  refine t_L (L' := [.blk g1 [.int .i64 p2.xRoom, .int .u32 p2.xNext, .slice A5 p2.xIn.length c5, .slice A6 ((p2.xCame.set (Int.toNat (I64 ((I64 (I32 (U32 (a1 - p2.xNext)))) + p1))) true).length) c6, .slice A7 ((p2.xOut.set (Int.toNat (I64 ((I64 (I32 (U32 (a1 - p2.xNext)))) + p1))) e3).length) c7, .int .u32 p2.xLast, .bool p2.xHas] 42, .own A6 ((p2.xCame.set (Int.toNat (I64 ((I64 (I32 (U32 (a1 - p2.xNext)))) + p1))) true).length) c6 (rowOf encB (p2.xCame.set (Int.toNat (I64 ((I64 (I32 (U32 (a1 - p2.xNext)))) + p1))) true)) 1 4, .own A7 ((p2.xOut.set (Int.toNat (I64 ((I64 (I32 (U32 (a1 - p2.xNext)))) + p1))) e3).length) c7 (rowOf (encI .u8) (p2.xOut.set (Int.toNat (I64 ((I64 (I32 (U32 (a1 - p2.xNext)))) + p1))) e3)) 1 5]) (by kernel_rfl) ?_
                  refine t_env [0, 1, 2, 7, 8, 9, 10] (E' := [(0, .pointer (some ⟨g1, 0, none⟩)), (1, .int .u32 a1), (2, .slice A4 a2.length c4), (7, .int .i64 (I64 (a0.xRoom - (a0.xIn.length : Int)))), (8, .int .i64 (a0.xIn.length : Int)), (9, .int .i64 p1), (10, .int .i64 (I64 ((I64 (I32 (U32 (a1 - p2.xNext)))) + p1)))]) (by kernel_rfl) ?_
                  exact e_inv (fun a w ha hw => ⟨ha, hw⟩)
            · replace hm := ite_f hb5 hm
              refine w_skip (by kernel_rfl) ?_
              refine e_seq ?_
              refine w_region (by kernel_rfl) ?_
              refine o_run 11 [0, 1, 2, 7, 8, 9, 74, 81, 83] (l := [(⟨g1, 1, none⟩, .int .u32 p2.xNext)]) (.one (at_blk (j := 0) rfl rfl) .nil) (E' := [(0, .pointer (some ⟨g1, 0, none⟩)), (1, .int .u32 a1), (2, .slice A4 a2.length c4), (7, .int .i64 (I64 (a0.xRoom - (a0.xIn.length : Int)))), (8, .int .i64 (a0.xIn.length : Int)), (9, .int .i64 p1), (74, .pointer (some ⟨g1, 0, none⟩)), (81, .int .u32 (U32 (p2.xNext + (U32 (I64 ((I64 (I32 (U32 (a1 - p2.xNext)))) + p1)))))), (83, .pointer (some ⟨g1, 5, none⟩))]) (by kernel_rfl) ?_
              refine o_stp ?_ (by kernel_rfl)
              refine s_store 0 g1 [.int .i64 p2.xRoom, .int .u32 p2.xNext, .slice A5 p2.xIn.length c5, .slice A6 p2.xCame.length c6, .slice A7 p2.xOut.length c7, .int .u32 p2.xLast, .bool p2.xHas] 42 [(5, .int .u32 (U32 (p2.xNext + (U32 (I64 ((I64 (I32 (U32 (a1 - p2.xNext)))) + p1))))))] (by kernel_rfl) (by kernel_rfl) (by kernel_rfl) ?_
              refine t_L (L' := [.blk g1 [.int .i64 p2.xRoom, .int .u32 p2.xNext, .slice A5 p2.xIn.length c5, .slice A6 p2.xCame.length c6, .slice A7 p2.xOut.length c7, .int .u32 (U32 (p2.xNext + (U32 (I64 ((I64 (I32 (U32 (a1 - p2.xNext)))) + p1))))), .bool p2.xHas] 42, .own A6 p2.xCame.length c6 (rowOf encB p2.xCame) 1 4, .own A7 p2.xOut.length c7 (rowOf (encI .u8) p2.xOut) 1 5]) (by kernel_rfl) ?_
              refine o_run 2 [0, 1, 2, 7, 8, 9, 85] (l := []) .nil (E' := [(0, .pointer (some ⟨g1, 0, none⟩)), (1, .int .u32 a1), (2, .slice A4 a2.length c4), (7, .int .i64 (I64 (a0.xRoom - (a0.xIn.length : Int)))), (8, .int .i64 (a0.xIn.length : Int)), (9, .int .i64 p1), (85, .pointer (some ⟨g1, 6, none⟩))]) (by kernel_rfl) ?_
              refine o_stp ?_ (by kernel_rfl)
              refine s_store 0 g1 [.int .i64 p2.xRoom, .int .u32 p2.xNext, .slice A5 p2.xIn.length c5, .slice A6 p2.xCame.length c6, .slice A7 p2.xOut.length c7, .int .u32 (U32 (p2.xNext + (U32 (I64 ((I64 (I32 (U32 (a1 - p2.xNext)))) + p1))))), .bool p2.xHas] 42 [(6, .bool true)] (by kernel_rfl) (by kernel_rfl) (by kernel_rfl) ?_
              refine t_L (L' := [.blk g1 [.int .i64 p2.xRoom, .int .u32 p2.xNext, .slice A5 p2.xIn.length c5, .slice A6 p2.xCame.length c6, .slice A7 p2.xOut.length c7, .int .u32 (U32 (p2.xNext + (U32 (I64 ((I64 (I32 (U32 (a1 - p2.xNext)))) + p1))))), .bool true] 42, .own A6 p2.xCame.length c6 (rowOf encB p2.xCame) 1 4, .own A7 p2.xOut.length c7 (rowOf (encI .u8) p2.xOut) 1 5]) (by kernel_rfl) ?_
              refine o_end (by kernel_rfl) ?_
              refine e_blk ?_
              refine e_seq ?_
              refine w_region (by kernel_rfl) ?_
              refine o_run 3 [0, 1, 2, 7, 8, 9] (l := []) .nil (E' := [(0, .pointer (some ⟨g1, 0, none⟩)), (1, .int .u32 a1), (2, .slice A4 a2.length c4), (7, .int .i64 (I64 (a0.xRoom - (a0.xIn.length : Int)))), (8, .int .i64 (a0.xIn.length : Int)), (9, .int .i64 (I64 (p1 + 1)))]) (by kernel_rfl) ?_
              refine o_end (by kernel_rfl) ?_
              refine t_drop [0, 1, 2] (by kernel_rfl) ?_
              refine t_L (L' := [.blk g1 [.int .i64 p2.xRoom, .int .u32 p2.xNext, .slice A5 p2.xIn.length c5, .slice A6 p2.xCame.length c6, .slice A7 p2.xOut.length c7, .int .u32 (U32 (p2.xNext + (U32 (I64 ((I64 (I32 (U32 (a1 - p2.xNext)))) + p1))))), .bool true] 42, .own A6 p2.xCame.length c6 (rowOf encB p2.xCame) 1 4, .own A7 p2.xOut.length c7 (rowOf (encI .u8) p2.xOut) 1 5]) (by kernel_rfl) ?_
              refine t_env [0, 1, 2, 7, 8, 9] (E' := [(0, .pointer (some ⟨g1, 0, none⟩)), (1, .int .u32 a1), (2, .slice A4 a2.length c4), (7, .int .i64 (I64 (a0.xRoom - (a0.xIn.length : Int)))), (8, .int .i64 (a0.xIn.length : Int)), (9, .int .i64 (I64 (p1 + 1)))]) (by kernel_rfl) ?_
              exact e_inv (fun a w ha hw => ⟨k, Nat.lt_succ_self k, (I64 (p1 + 1)), (⟨p2.xRoom, p2.xNext, p2.xIn, p2.xCame, p2.xOut, U32 (p2.xNext + (U32 (I64 ((I64 (I32 (U32 (a1 - p2.xNext)))) + p1)))), true⟩ : T_downhaulref26_Buffer), A5, c5, A6, c6, A7, c7, hm, hs3, ha, hw⟩)
      · replace hm := ite_f hb2 hm
        refine w_exit 0 (by kernel_rfl) ?_
        refine e_x_seq ?_
        refine e_x_inv ?_
        refine e_x_here ?_
        refine t_drop [0, 1, 2] (by kernel_rfl) ?_
        refine t_L (L' := [.blk g1 [.int .i64 p2.xRoom, .int .u32 p2.xNext, .slice A5 p2.xIn.length c5, .slice A6 p2.xCame.length c6, .slice A7 p2.xOut.length c7, .int .u32 p2.xLast, .bool p2.xHas] 42, .own A6 p2.xCame.length c6 (rowOf encB p2.xCame) 1 4, .own A7 p2.xOut.length c7 (rowOf (encI .u8) p2.xOut) 1 5]) (by kernel_rfl) ?_
        refine t_env [0, 8] (E' := [(0, .pointer (some ⟨g1, 0, none⟩)), (8, .int .i64 (a0.xIn.length : Int))]) (by kernel_rfl) ?_
        obtain rfl := Option.some.inj hm
        exact e_inv (fun a w ha hw => ⟨A5, c5, A6, c6, A7, c7, hs3, ha, hw⟩)
  · exact fun a w ha hw => ⟨0, a0, A1, c1, A2, c2, A3, c3, ht1, hs1, ha, hw⟩
end Go.V
