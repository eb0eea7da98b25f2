/- Printed by a program of this work: Go functions as Lean functions, and that the machine comes to the same. -/
import Derived.Test.YtidkijkkolfooaaTx1
set_option maxRecDepth 100000
set_option linter.unusedVariables false
namespace Go.V
open Go Go.Proofs
def downhaullaw26_RbufTogether.l2 : Nat → ((List Int) × T_rbuf_Buffer_o) → (List T_api_Block) → Int → Option ((Bool) ⊕ (Unit))
  | 0, _, _, _ => none
  | k + 1, t8, t16, p4 => (if decide (p4 < (t16.length : Int)) then ((idx t16 p4).bind fun e4 => ((rbuf_Buffer_Next.f t8.2).bind fun t18 => ((rbuf_Buffer_Window.f t8.2).bind fun t19 => (if decide ((U32 (e4.xLeft - t18)) ≥ (U32 t19)) then (some (.inl false)) else ((rbuf_Buffer_Next.f t8.2).bind fun t20 => ((rbuf_Buffer_Window.f t8.2).bind fun t21 => (if decide ((U32 (e4.xRight - t20)) > (U32 t21)) then (some (.inl false)) else ((rbuf_Buffer_Next.f t8.2).bind fun t22 => (if e4.xLeft == t22 then (some (.inl false)) else (downhaullaw26_RbufTogether.l2 k t8 t16 (I64 (p4 + 1)))))))))))) else (some (.inr ())))
def downhaullaw26_RbufTogether.l3 : Nat → (Int × T_rbuf_Buffer_o) → (List T_api_Block) → Int → Option ((Bool) ⊕ (Unit))
  | 0, _, _, _ => none
  | k + 1, t7, t30, p5 => (if decide (p5 < (t30.length : Int)) then ((idx t30 p5).bind fun e5 => ((rbuf_Buffer_Next.f t7.2).bind fun t32 => ((rbuf_Buffer_Window.f t7.2).bind fun t33 => (if decide ((U32 (e5.xLeft - t32)) ≥ (U32 t33)) then (some (.inl false)) else ((rbuf_Buffer_Next.f t7.2).bind fun t34 => ((rbuf_Buffer_Window.f t7.2).bind fun t35 => (if decide ((U32 (e5.xRight - t34)) > (U32 t35)) then (some (.inl false)) else ((rbuf_Buffer_Next.f t7.2).bind fun t36 => (if e5.xLeft == t36 then (some (.inl false)) else (downhaullaw26_RbufTogether.l3 k t7 t30 (I64 (p5 + 1)))))))))))) else (some (.inr ())))
def downhaullaw26_RbufTogether.l1 : Nat → Int → (List Int) → (List T_downhaullaw26_Piece) → Int → T_rbuf_Buffer_o → (List Int) → Option ((Bool) ⊕ ((List Int) × T_rbuf_Buffer_o))
  | 0, _, _, _, _, _, _ => none
  | k + 1, a0, a1, a2, p1, p2, p3 => (if decide (p1 < (a2.length : Int)) then ((idx a2 p1).bind fun e1 => ((divr (I64 e1.xAt) (I64 ((a1.length : Int) + 1))).bind fun e2 => ((divr (I64 e1.xN) (I64 ((I64 ((a1.length : Int) - e2)) + 1))).bind fun e3 => ((cut a1 e2 (I64 (e2 + e3))).bind fun l3 => ((rbuf_Buffer_Insert.f k p2 (U32 (a0 + (U32 e2))) l3).bind fun t7 => (if (Int.tmod p1 3) == 2 then ((rbuf_Buffer_Read.f k t7.2 (Int.tmod (I64 e1.xN) 20)).bind fun t8 => ((app p3 t8.1).bind fun l4 => ((rbuf_Buffer_Len.f t8.2).bind fun t9 => (if decide ((I64 ((l4.length : Int) + t9)) > (a1.length : Int)) then (some (.inl false)) else ((rbuf_Buffer_Next.f t8.2).bind fun t10 => ((rbuf_Buffer_Len.f t8.2).bind fun t11 => (if t10 != (U32 (a0 + (U32 (I64 ((l4.length : Int) + t11))))) then (some (.inl false)) else ((rbuf_Buffer_Len.f t8.2).bind fun t12 => ((rbuf_Buffer_Out.f k t8.2).bind fun t13 => (if decide ((I64 (t12 + t13)) > 50) then (some (.inl false)) else ((rbuf_Buffer_Window.f t8.2).bind fun t14 => ((rbuf_Buffer_Len.f t8.2).bind fun t15 => (if t14 != (I64 (50 - t15)) then (some (.inl false)) else ((rbuf_Buffer_Blocks.f k t8.2 100).bind fun t16 => ((downhaullaw26_RbufTogether.l2 k t8 t16 0).bind fun t17 => brk t17 (fun r => some (.inl r)) (fun u2 => (downhaullaw26_RbufTogether.l1 k a0 a1 a2 (I64 (p1 + 1)) t8.2 l4))))))))))))))))) else ((rbuf_Buffer_Len.f t7.2).bind fun t23 => (if decide ((I64 ((p3.length : Int) + t23)) > (a1.length : Int)) then (some (.inl false)) else ((rbuf_Buffer_Next.f t7.2).bind fun t24 => ((rbuf_Buffer_Len.f t7.2).bind fun t25 => (if t24 != (U32 (a0 + (U32 (I64 ((p3.length : Int) + t25))))) then (some (.inl false)) else ((rbuf_Buffer_Len.f t7.2).bind fun t26 => ((rbuf_Buffer_Out.f k t7.2).bind fun t27 => (if decide ((I64 (t26 + t27)) > 50) then (some (.inl false)) else ((rbuf_Buffer_Window.f t7.2).bind fun t28 => ((rbuf_Buffer_Len.f t7.2).bind fun t29 => (if t28 != (I64 (50 - t29)) then (some (.inl false)) else ((rbuf_Buffer_Blocks.f k t7.2 100).bind fun t30 => ((downhaullaw26_RbufTogether.l3 k t7 t30 0).bind fun t31 => brk t31 (fun r => some (.inl r)) (fun u3 => (downhaullaw26_RbufTogether.l1 k a0 a1 a2 (I64 (p1 + 1)) t7.2 p3))))))))))))))))))))) else (some (.inr (p3, p2))))
def downhaullaw26_RbufTogether.f (k : Nat) (a0 : Int) (a1 : List Int) (a2 : List T_downhaullaw26_Piece) : Option (Bool) :=
  (if decide ((a1.length : Int) > 400) then ((downhaullaw26_alive.f k).bind fun t1 => (some t1)) else (if decide ((a2.length : Int) > 100) then ((downhaullaw26_alive.f k).bind fun t2 => (some t2)) else ((rbuf_New.f 50 a0).bind fun t3 => optE t3.1 (some false) (fun y1 => (if t3.2 != 0 then (some false) else ((downhaullaw26_RbufTogether.l1 k a0 a1 a2 0 y1 ([] : List Int)).bind fun t4 => brk t4 (fun r => some r) (fun u1 => ((rbuf_Buffer_Read.f k (u1.2) 100).bind fun t5 => ((app u1.1 t5.1).bind fun l1 => (if decide ((l1.length : Int) ≤ (a1.length : Int)) then ((cut a1 0 (l1.length : Int)).bind fun l2 => (if (strOf l1).toList == (strOf l2).toList then ((downhaullaw26_alive.f k).bind fun t6 => (some t6)) else (some false))) else (some false)))))))))))
theorem downhaullaw26_RbufTogether_ok (k : Nat) (a0 : Int) (a1 : List Int) (a2 : List T_downhaullaw26_Piece) (r : Bool) (hm : downhaullaw26_RbufTogether.f k a0 a1 a2 = some r) (B G : Asn) (A1 : Option Addr) (c1 : Nat) (A2 : Option Addr) (c2 : Nat) (hs1 : Sl (kI .u8) B A1 c1 a1) (hs2 : Sl kT_downhaullaw26_Piece B A2 c2 a2) (w : World) (hs : St B G [] w) :
    Calls Try.prog 6 #[.int .u32 a0, .slice A1 a1.length c1, .slice A2 a2.length c2] w (Post (X := Asn) (fun x => .bool r) (fun x => x) G (fun x => []) (fun x => (Ext B x))) := by
  unfold downhaullaw26_RbufTogether.f at hm
  refine calls_W (F := Try.f6) Try.func6 rfl (by kernel_rfl) (L := []) ?_ hs
  refine w_seq 2 3 (by kernel_rfl) ?_
  refine w_region (by kernel_rfl) ?_
  refine o_run 1 [0, 1, 2] (l := []) .nil (E' := [(0, .int .u32 a0), (1, .slice A1 a1.length c1), (2, .slice A2 a2.length c2)]) (by kernel_rfl) ?_
  refine o_end (by kernel_rfl) ?_
  refine e_seq ?_
  refine w_seq 6 7 (by kernel_rfl) ?_
  refine w_seq 12 13 (by kernel_rfl) ?_
  refine w_region (by kernel_rfl) ?_
  refine o_run 4 [0, 1, 2, 19] (l := []) .nil (E' := [(0, .int .u32 a0), (1, .slice A1 a1.length c1), (2, .slice A2 a2.length c2), (19, .bool (decide ((a1.length : Int) > 400)))]) (by kernel_rfl) ?_
  refine o_split 19 (decide ((a1.length : Int) > 400)) (by kernel_rfl) (fun hb1 => ?_) (fun hb1 => ?_)
  · replace hm := ite_t hb1 hm
    refine o_run 4 [0, 1, 2, 23] (l := []) .nil (E' := [(0, .int .u32 a0), (1, .slice A1 a1.length c1), (2, .slice A2 a2.length c2), (23, .bool true)]) (by kernel_rfl) ?_
    refine o_end (by kernel_rfl) ?_
    refine e_seq ?_
    refine w_cond_t (.tmp 23) 26 27 (by kernel_rfl) (by kernel_rfl) ?_
    refine w_seq 52 53 (by kernel_rfl) ?_
    refine w_region (by kernel_rfl) ?_
    obtain ⟨t1, hx1, hm⟩ := bind_some hm
    refine o_stp ?_ (by kernel_rfl)
    refine s_call 24 9 #[] [] [] (by kernel_rfl) (by kernel_rfl) (fun w hs => downhaullaw26_alive_ok k t1 hx1 B _ w (St.cast (by kernel_rfl) hs)) (fun B1 hx => ?_)
    have hx2 := hx
    refine t_L (L' := []) (by kernel_rfl) ?_
    refine o_run 1 [6] (l := []) .nil (E' := [(6, .bool t1)]) (by kernel_rfl) ?_
    refine o_end (by kernel_rfl) ?_
    refine e_seq ?_
    refine w_ret (by kernel_rfl) ?_
    obtain rfl := Option.some.inj hm
    exact e_retP B1 (.bool t1) [] (by kernel_rfl) (by kernel_rfl) rfl (by kernel_rfl) (by kernel_rfl) hx2
  · replace hm := ite_f hb1 hm
    refine o_run 4 [0, 1, 2, 23] (l := []) .nil (E' := [(0, .int .u32 a0), (1, .slice A1 a1.length c1), (2, .slice A2 a2.length c2), (23, .bool (decide ((a2.length : Int) > 100)))]) (by kernel_rfl) ?_
    refine o_end (by kernel_rfl) ?_
    refine e_seq ?_
    refine w_cond (.tmp 23) 26 27 (decide ((a2.length : Int) > 100)) (by kernel_rfl) (by kernel_rfl) (fun hb2 => ?_) (fun hb2 => ?_)
    · replace hm := ite_t hb2 hm
      refine w_seq 52 53 (by kernel_rfl) ?_
      refine w_region (by kernel_rfl) ?_
      obtain ⟨t2, hx3, hm⟩ := bind_some hm
      refine o_stp ?_ (by kernel_rfl)
      refine s_call 24 9 #[] [] [] (by kernel_rfl) (by kernel_rfl) (fun w hs => downhaullaw26_alive_ok k t2 hx3 B _ w (St.cast (by kernel_rfl) hs)) (fun B2 hx => ?_)
      have hx4 := hx
      refine t_L (L' := []) (by kernel_rfl) ?_
      refine o_run 1 [6] (l := []) .nil (E' := [(6, .bool t2)]) (by kernel_rfl) ?_
      refine o_end (by kernel_rfl) ?_
      refine e_seq ?_
      refine w_ret (by kernel_rfl) ?_
      obtain rfl := Option.some.inj hm
      exact e_retP B2 (.bool t2) [] (by kernel_rfl) (by kernel_rfl) rfl (by kernel_rfl) (by kernel_rfl) hx4
    · replace hm := ite_f hb2 hm
      refine w_skip (by kernel_rfl) ?_
      refine e_seq ?_
      refine w_seq 14 15 (by kernel_rfl) ?_
      refine w_region (by kernel_rfl) ?_
      refine o_run 1 [0, 1, 2, 26] (l := []) .nil (E' := [(0, .int .u32 a0), (1, .slice A1 a1.length c1), (2, .slice A2 a2.length c2), (26, .int .u32 a0)]) (by kernel_rfl) ?_
      obtain ⟨t3, hx5, hm⟩ := bind_some hm
      refine t_env [0, 1, 2, 26] (E' := [(0, .int .u32 a0), (1, .slice A1 a1.length c1), (2, .slice A2 a2.length c2), (26, .int .u32 a0)]) (by kernel_rfl) ?_
      refine o_stp ?_ (by kernel_rfl)
      refine s_call 27 7 #[.int .i64 50, .int .u32 a0] [] [] (by kernel_rfl) (by kernel_rfl) (fun w hs => rbuf_New_ok 50 a0 t3 hx5 B _ w (St.cast (by kernel_rfl) hs)) (fun x hx => ?_)
      obtain ⟨g1, g2, A3, c3, A4, c4⟩ := x
      have hs3 := hx
      rcases optE_cases hm with ⟨ho1, hm⟩ | ⟨y1, ho1, hm⟩
      · refine t_EL (E' := (27, .tuple #[.pointer none, .int .i64 t3.2]) :: [(0, .int .u32 a0), (1, .slice A1 a1.length c1), (2, .slice A2 a2.length c2), (26, .int .u32 a0)]) (L' := []) (by rw [ho1]; kernel_rfl) ?_
        refine o_run 5 [0, 1, 2, 7, 8] (l := []) .nil (E' := [(0, .int .u32 a0), (1, .slice A1 a1.length c1), (2, .slice A2 a2.length c2), (7, .pointer none), (8, .int .i64 t3.2)]) (by kernel_rfl) ?_
        refine o_end (by kernel_rfl) ?_
        refine e_seq ?_
        refine w_seq 30 31 (by kernel_rfl) ?_
        refine w_seq 60 61 (by kernel_rfl) ?_
        refine w_region (by kernel_rfl) ?_
        refine o_run 6 [0, 1, 2, 7, 35] (l := []) .nil (E' := [(0, .int .u32 a0), (1, .slice A1 a1.length c1), (2, .slice A2 a2.length c2), (7, .pointer none), (35, .bool true)]) (by kernel_rfl) ?_
        refine o_end (by kernel_rfl) ?_
        refine e_seq ?_
        refine w_cond_t (.tmp 35) 122 123 (by kernel_rfl) (by kernel_rfl) ?_
        refine w_seq 244 245 (by kernel_rfl) ?_
        refine w_region (by kernel_rfl) ?_
        refine o_run 1 [6] (l := []) .nil (E' := [(6, .bool false)]) (by kernel_rfl) ?_
        refine o_end (by kernel_rfl) ?_
        refine e_seq ?_
        refine w_ret (by kernel_rfl) ?_
        obtain rfl := Option.some.inj hm
        exact e_retP B (.bool false) [] (by kernel_rfl) (by kernel_rfl) rfl (by kernel_rfl) (by kernel_rfl) (Ext.refl _)
      · replace hs3 := hs3 y1 ho1
        refine t_EL (E' := (27, .tuple #[.pointer (some ⟨g1, 0, none⟩), .int .i64 t3.2]) :: [(0, .int .u32 a0), (1, .slice A1 a1.length c1), (2, .slice A2 a2.length c2), (26, .int .u32 a0)]) (L' := [.blk g1 [.pointer (some ⟨g2, 0, none⟩), .slice A4 y1.xbytes.length c4, .int .i64 y1.xbegin, .int .i64 y1.xn, .int .u32 y1.xlast, .bool y1.xkept] 50, .blk g2 [.bool y1.xBoard.xmade, .int .u32 y1.xBoard.xfirst, .slice A3 y1.xBoard.xruns.length c3] 76, .own A4 y1.xbytes.length c4 (rowOf (encI .u8) y1.xbytes) 1 5]) (by rw [ho1]; kernel_rfl) ?_
        refine o_run 5 [0, 1, 2, 7, 8] (l := []) .nil (E' := [(0, .int .u32 a0), (1, .slice A1 a1.length c1), (2, .slice A2 a2.length c2), (7, .pointer (some ⟨g1, 0, none⟩)), (8, .int .i64 t3.2)]) (by kernel_rfl) ?_
        refine o_end (by kernel_rfl) ?_
        refine e_seq ?_
        refine w_seq 30 31 (by kernel_rfl) ?_
        refine w_seq 60 61 (by kernel_rfl) ?_
        refine w_region (by kernel_rfl) ?_
        refine o_run 6 [0, 1, 2, 7, 35] (l := []) .nil (E' := [(0, .int .u32 a0), (1, .slice A1 a1.length c1), (2, .slice A2 a2.length c2), (7, .pointer (some ⟨g1, 0, none⟩)), (35, .bool (t3.2 != 0))]) (by kernel_rfl) ?_
        refine o_end (by kernel_rfl) ?_
        refine e_seq ?_
        refine w_cond (.tmp 35) 122 123 (t3.2 != 0) (by kernel_rfl) (by kernel_rfl) (fun hb3 => ?_) (fun hb3 => ?_)
        · replace hm := ite_t hb3 hm
          refine w_seq 244 245 (by kernel_rfl) ?_
          refine w_region (by kernel_rfl) ?_
          refine o_run 1 [6] (l := []) .nil (E' := [(6, .bool false)]) (by kernel_rfl) ?_
          refine o_end (by kernel_rfl) ?_
          refine e_seq ?_
          refine w_ret (by kernel_rfl) ?_
          obtain rfl := Option.some.inj hm
          exact e_retP B (.bool false) [] (by kernel_rfl) (by kernel_rfl) rfl (by kernel_rfl) (by kernel_rfl) (Ext.refl _)
        · replace hm := ite_f hb3 hm
          refine w_skip (by kernel_rfl) ?_
          refine e_seq ?_
          refine w_seq 62 63 (by kernel_rfl) ?_
          refine w_region (by kernel_rfl) ?_
          refine o_run 1 [0, 1, 2, 7, 9] (l := []) .nil (E' := [(0, .int .u32 a0), (1, .slice A1 a1.length c1), (2, .slice A2 a2.length c2), (7, .pointer (some ⟨g1, 0, none⟩)), (9, .slice none 0 0)]) (by kernel_rfl) ?_
          refine o_end (by kernel_rfl) ?_
          refine e_seq ?_
          refine w_seq 126 127 (by kernel_rfl) ?_
          refine w_seq 252 253 (by kernel_rfl) ?_
          refine w_region (by kernel_rfl) ?_
          refine o_run 3 [0, 1, 7, 9, 36, 37, 38] (l := []) .nil (E' := [(0, .int .u32 a0), (1, .slice A1 a1.length c1), (7, .pointer (some ⟨g1, 0, none⟩)), (9, .slice none 0 0), (36, .slice A2 a2.length c2), (37, .int .i64 (a2.length : Int)), (38, .int .i64 0)]) (by kernel_rfl) ?_
          refine o_end (by kernel_rfl) ?_
          refine e_seq ?_
          refine w_block 0 506 (by kernel_rfl) ?_
          refine t_nil 5 1 ?_
          refine t_L (L' := [.own none (([] : List Int).length) 0 (rowOf (encI .u8) ([] : List Int)) 1 5, .blk g1 [.pointer (some ⟨g2, 0, none⟩), .slice A4 y1.xbytes.length c4, .int .i64 y1.xbegin, .int .i64 y1.xn, .int .u32 y1.xlast, .bool y1.xkept] 50, .blk g2 [.bool y1.xBoard.xmade, .int .u32 y1.xBoard.xfirst, .slice A3 y1.xBoard.xruns.length c3] 76, .own A4 y1.xbytes.length c4 (rowOf (encI .u8) y1.xbytes) 1 5]) (by kernel_rfl) ?_
          obtain ⟨t4, ht1, ho2⟩ := bind_some hm
          refine t_env [0, 1, 7, 9, 36, 37, 38] (E' := [(0, .int .u32 a0), (1, .slice A1 a1.length c1), (7, .pointer (some ⟨g1, 0, none⟩)), (9, .slice none (([] : List Int).length) 0), (36, .slice A2 a2.length c2), (37, .int .i64 (a2.length : Int)), (38, .int .i64 0)]) (by kernel_rfl) ?_
          refine w_loopJ 1012 0 (fun k a w => ∃ (p1 : Int) (p2 : T_rbuf_Buffer_o) (p3 : List Int) (B3 : Asn) (g3 : Nat) (A5 : Option Addr) (c5 : Nat) (A6 : Option Addr) (c6 : Nat) (A7 : Option Addr) (c7 : Nat), downhaullaw26_RbufTogether.l1 k a0 a1 a2 p1 p2 p3 = some t4 ∧ Ext B B3 ∧ Sl kT_sack_run B3 A5 c5 p2.xBoard.xruns ∧ EnvOk [(0, .int .u32 a0), (1, .slice A1 a1.length c1), (7, .pointer (some ⟨g1, 0, none⟩)), (9, .slice A7 p3.length c7), (36, .slice A2 a2.length c2), (37, .int .i64 (a2.length : Int)), (38, .int .i64 p1)] Try.f6.ntmps a ∧ St B3 G [.own A7 p3.length c7 (rowOf (encI .u8) p3) 1 5, .blk g1 [.pointer (some ⟨g3, 0, none⟩), .slice A6 p2.xbytes.length c6, .int .i64 p2.xbegin, .int .i64 p2.xn, .int .u32 p2.xlast, .bool p2.xkept] 50, .blk g3 [.bool p2.xBoard.xmade, .int .u32 p2.xBoard.xfirst, .slice A5 p2.xBoard.xruns.length c5] 76, .own A6 p2.xbytes.length c6 (rowOf (encI .u8) p2.xbytes) 1 5] w) (fun a w => ∃ (u1 : (List Int) × T_rbuf_Buffer_o) (B4 : Asn) (A8 : Option Addr) (c8 : Nat) (g4 : Nat) (A9 : Option Addr) (c9 : Nat) (A10 : Option Addr) (c10 : Nat), t4 = .inr u1 ∧ Ext B B4 ∧ Sl kT_sack_run B4 A9 c9 (((u1.2).xBoard).xruns) ∧ EnvOk [(1, .slice A1 a1.length c1), (7, .pointer (some ⟨g1, 0, none⟩)), (9, .slice A8 ((u1.1).length) c8)] Try.f6.ntmps a ∧ St B4 G [.own A8 ((u1.1).length) c8 (rowOf (encI .u8) u1.1) 1 5, .blk g1 [.pointer (some ⟨g4, 0, none⟩), .slice A10 (((u1.2).xbytes).length) c10, .int .i64 ((u1.2).xbegin), .int .i64 ((u1.2).xn), .int .u32 ((u1.2).xlast), .bool ((u1.2).xkept)] 50, .blk g4 [.bool (((u1.2).xBoard).xmade), .int .u32 (((u1.2).xBoard).xfirst), .slice A9 (((u1.2).xBoard).xruns).length c9] 76, .own A10 (((u1.2).xbytes).length) c10 (rowOf (encI .u8) ((u1.2).xbytes)) 1 5] w) (by kernel_rfl) ?_ ?_ k ?_
          · rintro a w ⟨u1, B4, A8, c8, g4, A9, c9, A10, c10, hu, hx7, hs5, ha, hw⟩
            refine we_of (E := [(1, .slice A1 a1.length c1), (7, .pointer (some ⟨g1, 0, none⟩)), (9, .slice A8 ((u1.1).length) c8)]) (B := B4) (G := G) (L := [.own A8 ((u1.1).length) c8 (rowOf (encI .u8) u1.1) 1 5, .blk g1 [.pointer (some ⟨g4, 0, none⟩), .slice A10 (((u1.2).xbytes).length) c10, .int .i64 ((u1.2).xbegin), .int .i64 ((u1.2).xn), .int .u32 ((u1.2).xlast), .bool ((u1.2).xkept)] 50, .blk g4 [.bool (((u1.2).xBoard).xmade), .int .u32 (((u1.2).xBoard).xfirst), .slice A9 (((u1.2).xBoard).xruns).length c9] 76, .own A10 (((u1.2).xbytes).length) c10 (rowOf (encI .u8) ((u1.2).xbytes)) 1 5]) ?_ ha hw
            subst hu
            replace hm := brk_inr ho2
            refine e_seq ?_
            refine w_seq 254 255 (by kernel_rfl) ?_
            refine w_region (by kernel_rfl) ?_
            refine o_run 2 [1, 155, 156] (l := []) .nil (E' := [(1, .slice A1 a1.length c1), (155, .slice A8 ((u1.1).length) c8), (156, .pointer (some ⟨g1, 0, none⟩))]) (by kernel_rfl) ?_
            obtain ⟨t5, hx8, hm⟩ := bind_some hm
            refine o_stp ?_ (by kernel_rfl)
            refine s_call 157 11 #[.pointer (some ⟨g1, 0, none⟩), .int .i64 100] [1, 2, 3] [0] (by kernel_rfl) (by kernel_rfl) (fun w hs => rbuf_Buffer_Read_ok k (u1.2) 100 t5 hx8 B4 _ g1 g4 A9 c9 A10 c10 hs5 w (St.cast (by kernel_rfl) hs)) (fun x hx => ?_)
            obtain ⟨A11, c11, g5, A12, c12, A13, c13⟩ := x
            have hs6 := hx
            refine t_L (L' := [.own A11 t5.1.length c11 (rowOf (encI .u8) t5.1) 1 5, .blk g1 [.pointer (some ⟨g5, 0, none⟩), .slice A13 t5.2.xbytes.length c13, .int .i64 t5.2.xbegin, .int .i64 t5.2.xn, .int .u32 t5.2.xlast, .bool t5.2.xkept] 50, .blk g5 [.bool t5.2.xBoard.xmade, .int .u32 t5.2.xBoard.xfirst, .slice A12 t5.2.xBoard.xruns.length c12] 76, .own A13 t5.2.xbytes.length c13 (rowOf (encI .u8) t5.2.xbytes) 1 5, .own A8 ((u1.1).length) c8 (rowOf (encI .u8) u1.1) 1 5]) (by kernel_rfl) ?_
            obtain ⟨l1, hx9, hm⟩ := bind_some hm
            refine o_stp ?_ (by kernel_rfl)
            refine s_app (z := .int .u8 0) (enc := (encI .u8)) (ys := t5.1) (k := t5.1.length) (bytes := 1) 158 32 32 (.tmp 155) (.tmp 157) 4 hx9 rfl rfl (by kernel_rfl) (by kernel_rfl) (by kernel_rfl) (by kernel_rfl) (by kernel_rfl) (by kernel_rfl) rfl (src_own (e := 5) (j := 0) (by kernel_rfl) rfl) (by decide) (fun A14 c14 => ?_)
            refine t_L (L' := [.own A11 t5.1.length c11 (rowOf (encI .u8) t5.1) 1 5, .blk g1 [.pointer (some ⟨g5, 0, none⟩), .slice A13 t5.2.xbytes.length c13, .int .i64 t5.2.xbegin, .int .i64 t5.2.xn, .int .u32 t5.2.xlast, .bool t5.2.xkept] 50, .blk g5 [.bool t5.2.xBoard.xmade, .int .u32 t5.2.xBoard.xfirst, .slice A12 t5.2.xBoard.xruns.length c12] 76, .own A13 t5.2.xbytes.length c13 (rowOf (encI .u8) t5.2.xbytes) 1 5, .own A14 l1.length c14 (rowOf (encI .u8) l1) 1 5]) (by kernel_rfl) ?_
            refine o_run 1 [1, 9] (l := []) .nil (E' := [(1, .slice A1 a1.length c1), (9, .slice A14 l1.length c14)]) (by kernel_rfl) ?_
            refine o_end (by kernel_rfl) ?_
            refine e_seq ?_
            refine w_seq 510 511 (by kernel_rfl) ?_
            refine w_tail 13 [.own A11 t5.1.length c11 (rowOf (encI .u8) t5.1) 1 5, .blk g1 [.pointer (some ⟨g5, 0, none⟩), .slice A13 t5.2.xbytes.length c13, .int .i64 t5.2.xbegin, .int .i64 t5.2.xn, .int .u32 t5.2.xlast, .bool t5.2.xkept] 50, .blk g5 [.bool t5.2.xBoard.xmade, .int .u32 t5.2.xBoard.xfirst, .slice A12 t5.2.xBoard.xruns.length c12] 76, .own A13 t5.2.xbytes.length c13 (rowOf (encI .u8) t5.2.xbytes) 1 5, .own A14 l1.length c14 (rowOf (encI .u8) l1) 1 5] (by kernel_rfl) mixed (by kernel_rfl) ?_
            refine tt_run [0, 1, 2, 3, 4, 5] [1, 9, 164] [0, 1, 2, 3, 4] 7 (listed' := #[true, true, true, true, true, true, false, false, false, false, false, false, false, false, false, false, false, false, false]) (l := []) .nil (E' := [(1, .slice A1 a1.length c1), (9, .slice A14 l1.length c14), (164, .bool (decide ((l1.length : Int) ≤ (a1.length : Int))))]) (by kernel_rfl) (by kernel_rfl) (by kernel_rfl) (Ext.refl _) (by kernel_rfl) (by kernel_rfl) ?_
            refine t_split 164 (decide ((l1.length : Int) ≤ (a1.length : Int))) (by kernel_rfl) (fun hb4 => ?_) (fun hb4 => ?_)
            · replace hm := ite_t hb4 hm
              refine tt_run [6, 8, 9, 10] [164, 165, 167, 169] [0, 1, 2, 3, 4] 3 (listed' := #[true, true, true, true, true, true, true, false, true, true, true, false, false, false, false, false, false, false, false]) (l := []) .nil (E' := [(164, .bool true), (165, .slice A14 l1.length c14), (167, .slice A1 a1.length c1), (169, .int .i64 (l1.length : Int))]) (by kernel_rfl) (by kernel_rfl) (by kernel_rfl) (Ext.refl _) (by kernel_rfl) (by kernel_rfl) ?_
              refine tt_val 7 166 (.convert 32 9 (.tmp 165)) (.string (strOf l1)) [0, 1, 2, 3, 4] (by kernel_rfl) (v_strO (j := 4) rfl rfl (by kernel_rfl) (by kernel_rfl)) (by kernel_rfl) (Ext.refl _) (by kernel_rfl) (by kernel_rfl) ?_
              obtain ⟨l2, hx10, hm⟩ := bind_some hm
              refine tt_val 11 170 (.slice 32 (.tmp 167) none (some (.tmp 169)) none) (.slice (cutA A1 (Int.toNat 0) c1 1) l2.length (c1 - Int.toNat 0)) [0, 1, 2, 3, 4] (by kernel_rfl) (i_slice 32 (.tmp 167) none (some (.tmp 169)) (hs1.up hx7) hx10 (by kernel_rfl) (by kernel_rfl) (by kernel_rfl) (by kernel_rfl)) (by kernel_rfl) (Ext.refl _) (by kernel_rfl) (by kernel_rfl) ?_
              have hs7 := sl_cut (hs1.up hx7) hx10
              refine tt_val 12 171 (.convert 32 9 (.tmp 170)) (.string (strOf l2)) [0, 1, 2, 3, 4] (by kernel_rfl) (v_strI hs7 (by kernel_rfl) (by kernel_rfl)) (by kernel_rfl) (Ext.refl _) (by kernel_rfl) (by kernel_rfl) ?_
              refine tt_end [0, 1, 2, 3, 4] (Ext.refl _) (by kernel_rfl) (by kernel_rfl) (by kernel_rfl) ?_
              refine o_run 3 [174] (l := []) .nil (E' := [(174, .bool ((strOf l1).toList == (strOf l2).toList))]) (by kernel_rfl) ?_
              refine o_split 174 ((strOf l1).toList == (strOf l2).toList) (by kernel_rfl) (fun hb5 => ?_) (fun hb5 => ?_)
              · replace hm := ite_t hb5 hm
                obtain ⟨t6, hx11, hm⟩ := bind_some hm
                refine o_stp ?_ (by kernel_rfl)
                refine s_call 175 9 #[] [] [0, 1, 2, 3, 4] (by kernel_rfl) (by kernel_rfl) (fun w hs => downhaullaw26_alive_ok k t6 hx11 B4 _ w (St.cast (by kernel_rfl) hs)) (fun B5 hx => ?_)
                have hx12 := hx
                refine t_L (L' := [.own A11 t5.1.length c11 (rowOf (encI .u8) t5.1) 1 5, .blk g1 [.pointer (some ⟨g5, 0, none⟩), .slice A13 t5.2.xbytes.length c13, .int .i64 t5.2.xbegin, .int .i64 t5.2.xn, .int .u32 t5.2.xlast, .bool t5.2.xkept] 50, .blk g5 [.bool t5.2.xBoard.xmade, .int .u32 t5.2.xBoard.xfirst, .slice A12 t5.2.xBoard.xruns.length c12] 76, .own A13 t5.2.xbytes.length c13 (rowOf (encI .u8) t5.2.xbytes) 1 5, .own A14 l1.length c14 (rowOf (encI .u8) l1) 1 5]) (by kernel_rfl) ?_
                refine o_run 2 [6] (l := []) .nil (E' := [(6, .bool t6)]) (by kernel_rfl) ?_
                refine o_end (by kernel_rfl) ?_
                refine e_seq ?_
                refine w_ret (by kernel_rfl) ?_
                obtain rfl := Option.some.inj hm
                exact e_retP B5 (.bool t6) [] (by kernel_rfl) (by kernel_rfl) rfl (by kernel_rfl) (by kernel_rfl) (Ext.trans hx7 hx12)
              · replace hm := ite_f hb5 hm
                refine o_run 3 [6] (l := []) .nil (E' := [(6, .bool false)]) (by kernel_rfl) ?_
                refine o_end (by kernel_rfl) ?_
                refine e_seq ?_
                refine w_ret (by kernel_rfl) ?_
                obtain rfl := Option.some.inj hm
                exact e_retP B4 (.bool false) [] (by kernel_rfl) (by kernel_rfl) rfl (by kernel_rfl) (by kernel_rfl) hx7
            · replace hm := ite_f hb4 hm
              refine tt_run [6, 7, 8, 9, 10, 11, 12] [164, 166, 171] [0, 1, 2, 3, 4] 0 (listed' := #[true, true, true, true, true, true, true, true, true, true, true, true, true, false, false, false, false, false, false]) (l := []) .nil (E' := [(164, .bool false), (166, undef), (171, undef)]) (by kernel_rfl) (by kernel_rfl) (by kernel_rfl) (Ext.refl _) (by kernel_rfl) (by kernel_rfl) ?_
              refine tt_end [0, 1, 2, 3, 4] (Ext.refl _) (by kernel_rfl) (by kernel_rfl) (by kernel_rfl) ?_
              refine o_run 6 [6] (l := []) .nil (E' := [(6, .bool false)]) (by kernel_rfl) ?_
              refine o_end (by kernel_rfl) ?_
              refine e_seq ?_
              refine w_ret (by kernel_rfl) ?_
              obtain rfl := Option.some.inj hm
              exact e_retP B4 (.bool false) [] (by kernel_rfl) (by kernel_rfl) rfl (by kernel_rfl) (by kernel_rfl) hx7
          · rintro k a w ⟨p1, p2, p3, B3, g3, A5, c5, A6, c6, A7, c7, hm, hx6, hs4, ha, hw⟩
            cases k with
            | zero => exact absurd hm (by simp [downhaullaw26_RbufTogether.l1])
            | succ k =>
              unfold downhaullaw26_RbufTogether.l1 at hm
              refine wc_of (E := [(0, .int .u32 a0), (1, .slice A1 a1.length c1), (7, .pointer (some ⟨g1, 0, none⟩)), (9, .slice A7 p3.length c7), (36, .slice A2 a2.length c2), (37, .int .i64 (a2.length : Int)), (38, .int .i64 p1)]) (B := B3) (G := G) (L := [.own A7 p3.length c7 (rowOf (encI .u8) p3) 1 5, .blk g1 [.pointer (some ⟨g3, 0, none⟩), .slice A6 p2.xbytes.length c6, .int .i64 p2.xbegin, .int .i64 p2.xn, .int .u32 p2.xlast, .bool p2.xkept] 50, .blk g3 [.bool p2.xBoard.xmade, .int .u32 p2.xBoard.xfirst, .slice A5 p2.xBoard.xruns.length c5] 76, .own A6 p2.xbytes.length c6 (rowOf (encI .u8) p2.xbytes) 1 5]) ?_ ha hw
              refine w_seq 2024 2025 (by kernel_rfl) ?_
              refine w_region (by kernel_rfl) ?_
              refine o_run 1 [0, 1, 7, 9, 36, 37, 38, 39] (l := []) .nil (E' := [(0, .int .u32 a0), (1, .slice A1 a1.length c1), (7, .pointer (some ⟨g1, 0, none⟩)), (9, .slice A7 p3.length c7), (36, .slice A2 a2.length c2), (37, .int .i64 (a2.length : Int)), (38, .int .i64 p1), (39, .bool (decide (p1 < (a2.length : Int))))]) (by kernel_rfl) ?_
              refine o_end (by kernel_rfl) ?_
              refine e_seq ?_
              refine w_seq 4050 4051 (by kernel_rfl) ?_
              refine w_cond (.tmp 39) 8100 8101 (decide (p1 < (a2.length : Int))) (by kernel_rfl) (by kernel_rfl) (fun hb6 => ?_) (fun hb6 => ?_)
              · replace hm := ite_t hb6 hm
                refine w_skip (by kernel_rfl) ?_
                refine e_seq ?_
                refine w_seq 8102 8103 (by kernel_rfl) ?_
                refine w_block 1 16204 (by kernel_rfl) ?_
                refine w_seq 32408 32409 (by kernel_rfl) ?_
                refine w_region (by kernel_rfl) ?_
                refine o_run 1 [0, 1, 7, 9, 36, 37, 38, 40] (l := []) .nil (E' := [(0, .int .u32 a0), (1, .slice A1 a1.length c1), (7, .pointer (some ⟨g1, 0, none⟩)), (9, .slice A7 p3.length c7), (36, .slice A2 a2.length c2), (37, .int .i64 (a2.length : Int)), (38, .int .i64 p1), (40, .int .i64 p1)]) (by kernel_rfl) ?_
                obtain ⟨e1, hx13, hm⟩ := bind_some hm
                obtain ⟨hi1, hi2, hg1⟩ := idx_some hx13
                obtain ⟨cs1, hk1, hc1⟩ := ((hs2.up hx6)).at hg1
                obtain rfl := hk1
                refine o_val 41 (.indexAddr 53 (.tmp 36) (.tmp 38)) (.pointer (some (adr A2 (Int.toNat p1 * 2)))) (by kernel_rfl) (v_index (k := .i64) (c := c2) (by kernel_rfl) (by kernel_rfl) (by kernel_rfl) hi1 hi2 (((hs2.up hx6)).some hg1)) ?_
                refine o_run 1 [0, 1, 7, 9, 36, 37, 38, 40, 42] (l := [((adr A2 (Int.toNat p1 * 2)), .int .u16 e1.xAt), (((adr A2 (Int.toNat p1 * 2)).add 1), .int .u16 e1.xN)]) (.one ((at_sl hc1).sub 0 rfl) (.one ((at_sl hc1).sub 1 rfl) .nil)) (E' := [(0, .int .u32 a0), (1, .slice A1 a1.length c1), (7, .pointer (some ⟨g1, 0, none⟩)), (9, .slice A7 p3.length c7), (36, .slice A2 a2.length c2), (37, .int .i64 (a2.length : Int)), (38, .int .i64 p1), (40, .int .i64 p1), (42, .agg #[.int .u16 e1.xAt, .int .u16 e1.xN])]) (by kernel_rfl) ?_
                refine o_stp ?_ (by kernel_rfl)
                refine s_new 11 (fun g6 => .pointer (some ⟨g6, 0, none⟩)) [.int .u16 0, .int .u16 0] 55 (fun _ => by kernel_rfl) (fun g6 => ?_)
                refine o_run 1 [0, 1, 7, 9, 10, 11, 36, 37, 38, 42] (l := []) .nil (E' := [(0, .int .u32 a0), (1, .slice A1 a1.length c1), (7, .pointer (some ⟨g1, 0, none⟩)), (9, .slice A7 p3.length c7), (10, .int .i64 p1), (11, .pointer (some ⟨g6, 0, none⟩)), (36, .slice A2 a2.length c2), (37, .int .i64 (a2.length : Int)), (38, .int .i64 p1), (42, .agg #[.int .u16 e1.xAt, .int .u16 e1.xN])]) (by kernel_rfl) ?_
                refine o_stp ?_ (by kernel_rfl)
                refine s_store 0 g6 [.int .u16 0, .int .u16 0] 55 [(0, .int .u16 e1.xAt), (1, .int .u16 e1.xN)] (by kernel_rfl) (by kernel_rfl) (by kernel_rfl) ?_
                refine t_L (L' := [.blk g6 [.int .u16 e1.xAt, .int .u16 e1.xN] 55, .own A7 p3.length c7 (rowOf (encI .u8) p3) 1 5, .blk g1 [.pointer (some ⟨g3, 0, none⟩), .slice A6 p2.xbytes.length c6, .int .i64 p2.xbegin, .int .i64 p2.xn, .int .u32 p2.xlast, .bool p2.xkept] 50, .blk g3 [.bool p2.xBoard.xmade, .int .u32 p2.xBoard.xfirst, .slice A5 p2.xBoard.xruns.length c5] 76, .own A6 p2.xbytes.length c6 (rowOf (encI .u8) p2.xbytes) 1 5]) (by kernel_rfl) ?_
                refine o_end (by kernel_rfl) ?_
                refine e_seq ?_
                refine w_seq 64818 64819 (by kernel_rfl) ?_
                refine w_region (by kernel_rfl) ?_
                refine o_run 6 [0, 1, 7, 9, 10, 11, 36, 37, 38, 45, 48] (l := [(⟨g6, 0, none⟩, .int .u16 e1.xAt)]) (.one (at_blk (j := 0) rfl rfl) .nil) (E' := [(0, .int .u32 a0), (1, .slice A1 a1.length c1), (7, .pointer (some ⟨g1, 0, none⟩)), (9, .slice A7 p3.length c7), (10, .int .i64 p1), (11, .pointer (some ⟨g6, 0, none⟩)), (36, .slice A2 a2.length c2), (37, .int .i64 (a2.length : Int)), (38, .int .i64 p1), (45, .int .i64 (I64 e1.xAt)), (48, .int .i64 (I64 ((a1.length : Int) + 1)))]) (by kernel_rfl) ?_
                obtain ⟨e2, hx14, hm⟩ := bind_some hm
                refine o_val 49 (.binOp .rem 3 (.tmp 45) (.tmp 48) 3) (.int .i64 e2) (by kernel_rfl) (v_rem hx14 (by kernel_rfl) (by kernel_rfl)) ?_
                refine o_run 1 [0, 1, 7, 9, 10, 11, 12, 36, 37, 38] (l := []) .nil (E' := [(0, .int .u32 a0), (1, .slice A1 a1.length c1), (7, .pointer (some ⟨g1, 0, none⟩)), (9, .slice A7 p3.length c7), (10, .int .i64 p1), (11, .pointer (some ⟨g6, 0, none⟩)), (12, .int .i64 e2), (36, .slice A2 a2.length c2), (37, .int .i64 (a2.length : Int)), (38, .int .i64 p1)]) (by kernel_rfl) ?_
                refine o_end (by kernel_rfl) ?_
                refine e_seq ?_
                refine w_seq 129638 129639 (by kernel_rfl) ?_
                refine w_region (by kernel_rfl) ?_
                refine o_run 9 [0, 1, 7, 9, 10, 11, 12, 36, 37, 38, 50, 53, 58] (l := [(⟨g6, 1, none⟩, .int .u16 e1.xN)]) (.one (at_blk (j := 0) rfl rfl) .nil) (E' := [(0, .int .u32 a0), (1, .slice A1 a1.length c1), (7, .pointer (some ⟨g1, 0, none⟩)), (9, .slice A7 p3.length c7), (10, .int .i64 p1), (11, .pointer (some ⟨g6, 0, none⟩)), (12, .int .i64 e2), (36, .slice A2 a2.length c2), (37, .int .i64 (a2.length : Int)), (38, .int .i64 p1), (50, .int .i64 e2), (53, .int .i64 (I64 e1.xN)), (58, .int .i64 (I64 ((I64 ((a1.length : Int) - e2)) + 1)))]) (by kernel_rfl) ?_
                obtain ⟨e3, hx15, hm⟩ := bind_some hm
                refine o_val 59 (.binOp .rem 3 (.tmp 53) (.tmp 58) 3) (.int .i64 e3) (by kernel_rfl) (v_rem hx15 (by kernel_rfl) (by kernel_rfl)) ?_
                refine o_run 2 [0, 1, 7, 9, 10, 11, 12, 13, 36, 37, 38] (l := []) .nil (E' := [(0, .int .u32 a0), (1, .slice A1 a1.length c1), (7, .pointer (some ⟨g1, 0, none⟩)), (9, .slice A7 p3.length c7), (10, .int .i64 p1), (11, .pointer (some ⟨g6, 0, none⟩)), (12, .int .i64 e2), (13, .int .i64 (I64 (e2 + e3))), (36, .slice A2 a2.length c2), (37, .int .i64 (a2.length : Int)), (38, .int .i64 p1)]) (by kernel_rfl) ?_
                refine o_end (by kernel_rfl) ?_
                refine e_seq ?_
                refine w_seq 259278 259279 (by kernel_rfl) ?_
                refine w_region (by kernel_rfl) ?_
                refine o_run 8 [0, 1, 7, 9, 10, 11, 36, 37, 38, 61, 65, 66, 67, 68] (l := []) .nil (E' := [(0, .int .u32 a0), (1, .slice A1 a1.length c1), (7, .pointer (some ⟨g1, 0, none⟩)), (9, .slice A7 p3.length c7), (10, .int .i64 p1), (11, .pointer (some ⟨g6, 0, none⟩)), (36, .slice A2 a2.length c2), (37, .int .i64 (a2.length : Int)), (38, .int .i64 p1), (61, .pointer (some ⟨g1, 0, none⟩)), (65, .int .u32 (U32 (a0 + (U32 e2)))), (66, .slice A1 a1.length c1), (67, .int .i64 e2), (68, .int .i64 (I64 (e2 + e3)))]) (by kernel_rfl) ?_
                obtain ⟨l3, hx16, hm⟩ := bind_some hm
                refine o_val 69 (.slice 32 (.tmp 66) (some (.tmp 67)) (some (.tmp 68)) none) (.slice (cutA A1 (Int.toNat e2) c1 1) l3.length (c1 - Int.toNat e2)) (by kernel_rfl) (i_slice 32 (.tmp 66) (some (.tmp 67)) (some (.tmp 68)) (hs1.up hx6) hx16 (by kernel_rfl) (by kernel_rfl) (by kernel_rfl) (by kernel_rfl)) ?_
                have hs8 := sl_cut (hs1.up hx6) hx16
                obtain ⟨t7, hx17, hm⟩ := bind_some hm
                refine o_stp ?_ (by kernel_rfl)
                refine s_call 70 12 #[.pointer (some ⟨g1, 0, none⟩), .int .u32 (U32 (a0 + (U32 e2))), .slice (cutA A1 (Int.toNat e2) c1 1) l3.length (c1 - Int.toNat e2)] [2, 3, 4] [0, 1] (by kernel_rfl) (by kernel_rfl) (fun w hs => rbuf_Buffer_Insert_ok k p2 (U32 (a0 + (U32 e2))) l3 t7 hx17 B3 _ g1 g3 A5 c5 A6 c6 (cutA A1 (Int.toNat e2) c1 1) (c1 - Int.toNat e2) hs4 hs8 w (St.cast (by kernel_rfl) hs)) (fun x hx => ?_)
                obtain ⟨B6, g7, A15, c15, A16, c16⟩ := x
                obtain ⟨hx18, hs9⟩ := hx
                refine t_L (L' := [.blk g1 [.pointer (some ⟨g7, 0, none⟩), .slice A16 t7.2.xbytes.length c16, .int .i64 t7.2.xbegin, .int .i64 t7.2.xn, .int .u32 t7.2.xlast, .bool t7.2.xkept] 50, .blk g7 [.bool t7.2.xBoard.xmade, .int .u32 t7.2.xBoard.xfirst, .slice A15 t7.2.xBoard.xruns.length c15] 76, .own A16 t7.2.xbytes.length c16 (rowOf (encI .u8) t7.2.xbytes) 1 5, .blk g6 [.int .u16 e1.xAt, .int .u16 e1.xN] 55, .own A7 p3.length c7 (rowOf (encI .u8) p3) 1 5]) (by kernel_rfl) ?_
                refine o_end (by kernel_rfl) ?_
                refine e_seq ?_
                refine w_seq 518558 518559 (by kernel_rfl) ?_
                refine w_seq 1037116 1037117 (by kernel_rfl) ?_
                refine w_region (by kernel_rfl) ?_
                refine o_run 3 [0, 1, 7, 9, 11, 36, 37, 38, 73] (l := []) .nil (E' := [(0, .int .u32 a0), (1, .slice A1 a1.length c1), (7, .pointer (some ⟨g1, 0, none⟩)), (9, .slice A7 p3.length c7), (11, .pointer (some ⟨g6, 0, none⟩)), (36, .slice A2 a2.length c2), (37, .int .i64 (a2.length : Int)), (38, .int .i64 p1), (73, .bool ((Int.tmod p1 3) == 2))]) (by kernel_rfl) ?_
                refine o_end (by kernel_rfl) ?_
                refine e_seq ?_
                refine w_cond (.tmp 73) 2074234 2074235 ((Int.tmod p1 3) == 2) (by kernel_rfl) (by kernel_rfl) (fun hb7 => ?_) (fun hb7 => ?_)
                · replace hm := ite_t hb7 hm
                  refine w_region (by kernel_rfl) ?_
                  refine o_run 6 [0, 1, 7, 36, 37, 38, 74, 75, 79] (l := [(⟨g6, 1, none⟩, .int .u16 e1.xN)]) (.one (at_blk (j := 3) rfl rfl) .nil) (E' := [(0, .int .u32 a0), (1, .slice A1 a1.length c1), (7, .pointer (some ⟨g1, 0, none⟩)), (36, .slice A2 a2.length c2), (37, .int .i64 (a2.length : Int)), (38, .int .i64 p1), (74, .slice A7 p3.length c7), (75, .pointer (some ⟨g1, 0, none⟩)), (79, .int .i64 (Int.tmod (I64 e1.xN) 20))]) (by kernel_rfl) ?_
                  obtain ⟨t8, hx19, hm⟩ := bind_some hm
                  refine o_stp ?_ (by kernel_rfl)
                  refine s_call 80 11 #[.pointer (some ⟨g1, 0, none⟩), .int .i64 (Int.tmod (I64 e1.xN) 20)] [0, 1, 2] [3, 4] (by kernel_rfl) (by kernel_rfl) (fun w hs => rbuf_Buffer_Read_ok k t7.2 (Int.tmod (I64 e1.xN) 20) t8 hx19 B6 _ g1 g7 A15 c15 A16 c16 hs9 w (St.cast (by kernel_rfl) hs)) (fun x hx => ?_)
                  obtain ⟨A17, c17, g8, A18, c18, A19, c19⟩ := x
                  have hs10 := hx
                  refine t_L (L' := [.own A17 t8.1.length c17 (rowOf (encI .u8) t8.1) 1 5, .blk g1 [.pointer (some ⟨g8, 0, none⟩), .slice A19 t8.2.xbytes.length c19, .int .i64 t8.2.xbegin, .int .i64 t8.2.xn, .int .u32 t8.2.xlast, .bool t8.2.xkept] 50, .blk g8 [.bool t8.2.xBoard.xmade, .int .u32 t8.2.xBoard.xfirst, .slice A18 t8.2.xBoard.xruns.length c18] 76, .own A19 t8.2.xbytes.length c19 (rowOf (encI .u8) t8.2.xbytes) 1 5, .blk g6 [.int .u16 e1.xAt, .int .u16 e1.xN] 55, .own A7 p3.length c7 (rowOf (encI .u8) p3) 1 5]) (by kernel_rfl) ?_
                  obtain ⟨l4, hx20, hm⟩ := bind_some hm
                  refine o_stp ?_ (by kernel_rfl)
                  refine s_app (z := .int .u8 0) (enc := (encI .u8)) (ys := t8.1) (k := t8.1.length) (bytes := 1) 81 32 32 (.tmp 74) (.tmp 80) 5 hx20 rfl rfl (by kernel_rfl) (by kernel_rfl) (by kernel_rfl) (by kernel_rfl) (by kernel_rfl) (by kernel_rfl) rfl (src_own (e := 5) (j := 0) (by kernel_rfl) rfl) (by decide) (fun A20 c20 => ?_)
                  refine t_L (L' := [.own A17 t8.1.length c17 (rowOf (encI .u8) t8.1) 1 5, .blk g1 [.pointer (some ⟨g8, 0, none⟩), .slice A19 t8.2.xbytes.length c19, .int .i64 t8.2.xbegin, .int .i64 t8.2.xn, .int .u32 t8.2.xlast, .bool t8.2.xkept] 50, .blk g8 [.bool t8.2.xBoard.xmade, .int .u32 t8.2.xBoard.xfirst, .slice A18 t8.2.xBoard.xruns.length c18] 76, .own A19 t8.2.xbytes.length c19 (rowOf (encI .u8) t8.2.xbytes) 1 5, .blk g6 [.int .u16 e1.xAt, .int .u16 e1.xN] 55, .own A20 l4.length c20 (rowOf (encI .u8) l4) 1 5]) (by kernel_rfl) ?_
                  refine o_run 1 [0, 1, 7, 9, 36, 37, 38] (l := []) .nil (E' := [(0, .int .u32 a0), (1, .slice A1 a1.length c1), (7, .pointer (some ⟨g1, 0, none⟩)), (9, .slice A20 l4.length c20), (36, .slice A2 a2.length c2), (37, .int .i64 (a2.length : Int)), (38, .int .i64 p1)]) (by kernel_rfl) ?_
                  refine o_end (by kernel_rfl) ?_
                  refine e_seq ?_
                  refine w_seq 1037118 1037119 (by kernel_rfl) ?_
                  refine w_seq 2074236 2074237 (by kernel_rfl) ?_
                  refine w_region (by kernel_rfl) ?_
                  refine o_run 3 [0, 1, 7, 9, 36, 37, 38, 83, 84] (l := []) .nil (E' := [(0, .int .u32 a0), (1, .slice A1 a1.length c1), (7, .pointer (some ⟨g1, 0, none⟩)), (9, .slice A20 l4.length c20), (36, .slice A2 a2.length c2), (37, .int .i64 (a2.length : Int)), (38, .int .i64 p1), (83, .int .i64 (l4.length : Int)), (84, .pointer (some ⟨g1, 0, none⟩))]) (by kernel_rfl) ?_
                  obtain ⟨t9, hx21, hm⟩ := bind_some hm
                  refine o_stp ?_ (by kernel_rfl)
                  refine s_call 85 14 #[.pointer (some ⟨g1, 0, none⟩)] [1, 2, 3] [0, 4, 5] (by kernel_rfl) (by kernel_rfl) (fun w hs => rbuf_Buffer_Len_ok t8.2 t9 hx21 B6 _ g1 g8 A18 c18 A19 c19 hs10 w (St.cast (by kernel_rfl) hs)) (fun _ hx => ?_)
                  refine t_L (L' := [.blk g1 [.pointer (some ⟨g8, 0, none⟩), .slice A19 t8.2.xbytes.length c19, .int .i64 t8.2.xbegin, .int .i64 t8.2.xn, .int .u32 t8.2.xlast, .bool t8.2.xkept] 50, .blk g8 [.bool t8.2.xBoard.xmade, .int .u32 t8.2.xBoard.xfirst, .slice A18 t8.2.xBoard.xruns.length c18] 76, .own A19 t8.2.xbytes.length c19 (rowOf (encI .u8) t8.2.xbytes) 1 5, .own A17 t8.1.length c17 (rowOf (encI .u8) t8.1) 1 5, .blk g6 [.int .u16 e1.xAt, .int .u16 e1.xN] 55, .own A20 l4.length c20 (rowOf (encI .u8) l4) 1 5]) (by kernel_rfl) ?_
                  refine o_run 5 [0, 1, 7, 9, 36, 37, 38, 90] (l := []) .nil (E' := [(0, .int .u32 a0), (1, .slice A1 a1.length c1), (7, .pointer (some ⟨g1, 0, none⟩)), (9, .slice A20 l4.length c20), (36, .slice A2 a2.length c2), (37, .int .i64 (a2.length : Int)), (38, .int .i64 p1), (90, .bool (decide ((I64 ((l4.length : Int) + t9)) > (a1.length : Int))))]) (by kernel_rfl) ?_
                  refine o_split 90 (decide ((I64 ((l4.length : Int) + t9)) > (a1.length : Int))) (by kernel_rfl) (fun hb8 => ?_) (fun hb8 => ?_)
                  · replace hm := ite_t hb8 hm
                    refine o_run 28 [0, 1, 7, 9, 36, 37, 38, 118] (l := []) .nil (E' := [(0, .int .u32 a0), (1, .slice A1 a1.length c1), (7, .pointer (some ⟨g1, 0, none⟩)), (9, .slice A20 l4.length c20), (36, .slice A2 a2.length c2), (37, .int .i64 (a2.length : Int)), (38, .int .i64 p1), (118, .bool true)]) (by kernel_rfl) ?_
                    refine o_end (by kernel_rfl) ?_
                    refine e_seq ?_
                    refine w_cond_t (.tmp 118) 4148474 4148475 (by kernel_rfl) (by kernel_rfl) ?_
                    refine w_seq 8296948 8296949 (by kernel_rfl) ?_
                    refine w_region (by kernel_rfl) ?_
                    refine o_run 1 [6] (l := []) .nil (E' := [(6, .bool false)]) (by kernel_rfl) ?_
                    refine o_end (by kernel_rfl) ?_
                    refine e_seq ?_
                    refine w_ret (by kernel_rfl) ?_
                    obtain rfl := Option.some.inj hm
                    replace hm := brk_inl ho2
                    obtain rfl := Option.some.inj hm
                    exact e_retP B6 (.bool false) [] (by kernel_rfl) (by kernel_rfl) rfl (by kernel_rfl) (by kernel_rfl) (Ext.trans hx6 hx18)
                  · replace hm := ite_f hb8 hm
                    refine o_run 1 [0, 1, 7, 9, 36, 37, 38, 90, 91] (l := []) .nil (E' := [(0, .int .u32 a0), (1, .slice A1 a1.length c1), (7, .pointer (some ⟨g1, 0, none⟩)), (9, .slice A20 l4.length c20), (36, .slice A2 a2.length c2), (37, .int .i64 (a2.length : Int)), (38, .int .i64 p1), (90, .bool false), (91, .pointer (some ⟨g1, 0, none⟩))]) (by kernel_rfl) ?_
                    obtain ⟨t10, hx22, hm⟩ := bind_some hm
                    refine o_stp ?_ (by kernel_rfl)
                    refine s_call 92 13 #[.pointer (some ⟨g1, 0, none⟩)] [0, 1, 2] [3, 4, 5] (by kernel_rfl) (by kernel_rfl) (fun w hs => rbuf_Buffer_Next_ok t8.2 t10 hx22 B6 _ g1 g8 A18 c18 A19 c19 hs10 w (St.cast (by kernel_rfl) hs)) (fun _ hx => ?_)
                    refine t_L (L' := [.blk g1 [.pointer (some ⟨g8, 0, none⟩), .slice A19 t8.2.xbytes.length c19, .int .i64 t8.2.xbegin, .int .i64 t8.2.xn, .int .u32 t8.2.xlast, .bool t8.2.xkept] 50, .blk g8 [.bool t8.2.xBoard.xmade, .int .u32 t8.2.xBoard.xfirst, .slice A18 t8.2.xBoard.xruns.length c18] 76, .own A19 t8.2.xbytes.length c19 (rowOf (encI .u8) t8.2.xbytes) 1 5, .own A17 t8.1.length c17 (rowOf (encI .u8) t8.1) 1 5, .blk g6 [.int .u16 e1.xAt, .int .u16 e1.xN] 55, .own A20 l4.length c20 (rowOf (encI .u8) l4) 1 5]) (by kernel_rfl) ?_
                    refine o_run 4 [0, 1, 7, 9, 36, 37, 38, 90, 92, 93, 95, 96] (l := []) .nil (E' := [(0, .int .u32 a0), (1, .slice A1 a1.length c1), (7, .pointer (some ⟨g1, 0, none⟩)), (9, .slice A20 l4.length c20), (36, .slice A2 a2.length c2), (37, .int .i64 (a2.length : Int)), (38, .int .i64 p1), (90, .bool false), (92, .int .u32 t10), (93, .int .u32 a0), (95, .int .i64 (l4.length : Int)), (96, .pointer (some ⟨g1, 0, none⟩))]) (by kernel_rfl) ?_
                    obtain ⟨t11, hx23, hm⟩ := bind_some hm
                    refine o_stp ?_ (by kernel_rfl)
                    refine s_call 97 14 #[.pointer (some ⟨g1, 0, none⟩)] [0, 1, 2] [3, 4, 5] (by kernel_rfl) (by kernel_rfl) (fun w hs => rbuf_Buffer_Len_ok t8.2 t11 hx23 B6 _ g1 g8 A18 c18 A19 c19 hs10 w (St.cast (by kernel_rfl) hs)) (fun _ hx => ?_)
                    refine t_L (L' := [.blk g1 [.pointer (some ⟨g8, 0, none⟩), .slice A19 t8.2.xbytes.length c19, .int .i64 t8.2.xbegin, .int .i64 t8.2.xn, .int .u32 t8.2.xlast, .bool t8.2.xkept] 50, .blk g8 [.bool t8.2.xBoard.xmade, .int .u32 t8.2.xBoard.xfirst, .slice A18 t8.2.xBoard.xruns.length c18] 76, .own A19 t8.2.xbytes.length c19 (rowOf (encI .u8) t8.2.xbytes) 1 5, .own A17 t8.1.length c17 (rowOf (encI .u8) t8.1) 1 5, .blk g6 [.int .u16 e1.xAt, .int .u16 e1.xN] 55, .own A20 l4.length c20 (rowOf (encI .u8) l4) 1 5]) (by kernel_rfl) ?_
                    refine o_run 6 [0, 1, 7, 9, 36, 37, 38, 103] (l := []) .nil (E' := [(0, .int .u32 a0), (1, .slice A1 a1.length c1), (7, .pointer (some ⟨g1, 0, none⟩)), (9, .slice A20 l4.length c20), (36, .slice A2 a2.length c2), (37, .int .i64 (a2.length : Int)), (38, .int .i64 p1), (103, .bool (t10 != (U32 (a0 + (U32 (I64 ((l4.length : Int) + t11)))))))]) (by kernel_rfl) ?_
                    refine o_split 103 (t10 != (U32 (a0 + (U32 (I64 ((l4.length : Int) + t11)))))) (by kernel_rfl) (fun hb9 => ?_) (fun hb9 => ?_)
                    · replace hm := ite_t hb9 hm
                      refine o_run 15 [0, 1, 7, 9, 36, 37, 38, 118] (l := []) .nil (E' := [(0, .int .u32 a0), (1, .slice A1 a1.length c1), (7, .pointer (some ⟨g1, 0, none⟩)), (9, .slice A20 l4.length c20), (36, .slice A2 a2.length c2), (37, .int .i64 (a2.length : Int)), (38, .int .i64 p1), (118, .bool true)]) (by kernel_rfl) ?_
                      refine o_end (by kernel_rfl) ?_
                      refine e_seq ?_
                      refine w_cond_t (.tmp 118) 4148474 4148475 (by kernel_rfl) (by kernel_rfl) ?_
                      refine w_seq 8296948 8296949 (by kernel_rfl) ?_
                      refine w_region (by kernel_rfl) ?_
                      refine o_run 1 [6] (l := []) .nil (E' := [(6, .bool false)]) (by kernel_rfl) ?_
                      refine o_end (by kernel_rfl) ?_
                      refine e_seq ?_
                      refine w_ret (by kernel_rfl) ?_
                      obtain rfl := Option.some.inj hm
                      replace hm := brk_inl ho2
                      obtain rfl := Option.some.inj hm
                      exact e_retP B6 (.bool false) [] (by kernel_rfl) (by kernel_rfl) rfl (by kernel_rfl) (by kernel_rfl) (Ext.trans hx6 hx18)
                    · replace hm := ite_f hb9 hm
                      refine o_run 1 [0, 1, 7, 9, 36, 37, 38, 103, 104] (l := []) .nil (E' := [(0, .int .u32 a0), (1, .slice A1 a1.length c1), (7, .pointer (some ⟨g1, 0, none⟩)), (9, .slice A20 l4.length c20), (36, .slice A2 a2.length c2), (37, .int .i64 (a2.length : Int)), (38, .int .i64 p1), (103, .bool false), (104, .pointer (some ⟨g1, 0, none⟩))]) (by kernel_rfl) ?_
                      obtain ⟨t12, hx24, hm⟩ := bind_some hm
                      refine o_stp ?_ (by kernel_rfl)
                      refine s_call 105 14 #[.pointer (some ⟨g1, 0, none⟩)] [0, 1, 2] [3, 4, 5] (by kernel_rfl) (by kernel_rfl) (fun w hs => rbuf_Buffer_Len_ok t8.2 t12 hx24 B6 _ g1 g8 A18 c18 A19 c19 hs10 w (St.cast (by kernel_rfl) hs)) (fun _ hx => ?_)
                      refine t_L (L' := [.blk g1 [.pointer (some ⟨g8, 0, none⟩), .slice A19 t8.2.xbytes.length c19, .int .i64 t8.2.xbegin, .int .i64 t8.2.xn, .int .u32 t8.2.xlast, .bool t8.2.xkept] 50, .blk g8 [.bool t8.2.xBoard.xmade, .int .u32 t8.2.xBoard.xfirst, .slice A18 t8.2.xBoard.xruns.length c18] 76, .own A19 t8.2.xbytes.length c19 (rowOf (encI .u8) t8.2.xbytes) 1 5, .own A17 t8.1.length c17 (rowOf (encI .u8) t8.1) 1 5, .blk g6 [.int .u16 e1.xAt, .int .u16 e1.xN] 55, .own A20 l4.length c20 (rowOf (encI .u8) l4) 1 5]) (by kernel_rfl) ?_
                      refine o_run 1 [0, 1, 7, 9, 36, 37, 38, 103, 105, 106] (l := []) .nil (E' := [(0, .int .u32 a0), (1, .slice A1 a1.length c1), (7, .pointer (some ⟨g1, 0, none⟩)), (9, .slice A20 l4.length c20), (36, .slice A2 a2.length c2), (37, .int .i64 (a2.length : Int)), (38, .int .i64 p1), (103, .bool false), (105, .int .i64 t12), (106, .pointer (some ⟨g1, 0, none⟩))]) (by kernel_rfl) ?_
                      obtain ⟨t13, hx25, hm⟩ := bind_some hm
                      refine o_stp ?_ (by kernel_rfl)
                      refine s_call 107 20 #[.pointer (some ⟨g1, 0, none⟩)] [0, 1, 2] [3, 4, 5] (by kernel_rfl) (by kernel_rfl) (fun w hs => rbuf_Buffer_Out_ok k t8.2 t13 hx25 B6 _ g1 g8 A18 c18 A19 c19 hs10 w (St.cast (by kernel_rfl) hs)) (fun _ hx => ?_)
                      refine t_L (L' := [.blk g1 [.pointer (some ⟨g8, 0, none⟩), .slice A19 t8.2.xbytes.length c19, .int .i64 t8.2.xbegin, .int .i64 t8.2.xn, .int .u32 t8.2.xlast, .bool t8.2.xkept] 50, .blk g8 [.bool t8.2.xBoard.xmade, .int .u32 t8.2.xBoard.xfirst, .slice A18 t8.2.xBoard.xruns.length c18] 76, .own A19 t8.2.xbytes.length c19 (rowOf (encI .u8) t8.2.xbytes) 1 5, .own A17 t8.1.length c17 (rowOf (encI .u8) t8.1) 1 5, .blk g6 [.int .u16 e1.xAt, .int .u16 e1.xN] 55, .own A20 l4.length c20 (rowOf (encI .u8) l4) 1 5]) (by kernel_rfl) ?_
                      refine o_run 4 [0, 1, 7, 9, 36, 37, 38, 111] (l := []) .nil (E' := [(0, .int .u32 a0), (1, .slice A1 a1.length c1), (7, .pointer (some ⟨g1, 0, none⟩)), (9, .slice A20 l4.length c20), (36, .slice A2 a2.length c2), (37, .int .i64 (a2.length : Int)), (38, .int .i64 p1), (111, .bool (decide ((I64 (t12 + t13)) > 50)))]) (by kernel_rfl) ?_
                      refine o_split 111 (decide ((I64 (t12 + t13)) > 50)) (by kernel_rfl) (fun hb10 => ?_) (fun hb10 => ?_)
                      · replace hm := ite_t hb10 hm
                        refine o_run 7 [0, 1, 7, 9, 36, 37, 38, 118] (l := []) .nil (E' := [(0, .int .u32 a0), (1, .slice A1 a1.length c1), (7, .pointer (some ⟨g1, 0, none⟩)), (9, .slice A20 l4.length c20), (36, .slice A2 a2.length c2), (37, .int .i64 (a2.length : Int)), (38, .int .i64 p1), (118, .bool true)]) (by kernel_rfl) ?_
                        refine o_end (by kernel_rfl) ?_
                        refine e_seq ?_
                        refine w_cond_t (.tmp 118) 4148474 4148475 (by kernel_rfl) (by kernel_rfl) ?_
                        refine w_seq 8296948 8296949 (by kernel_rfl) ?_
                        refine w_region (by kernel_rfl) ?_
                        refine o_run 1 [6] (l := []) .nil (E' := [(6, .bool false)]) (by kernel_rfl) ?_
                        refine o_end (by kernel_rfl) ?_
                        refine e_seq ?_
                        refine w_ret (by kernel_rfl) ?_
                        obtain rfl := Option.some.inj hm
                        replace hm := brk_inl ho2
                        obtain rfl := Option.some.inj hm
                        exact e_retP B6 (.bool false) [] (by kernel_rfl) (by kernel_rfl) rfl (by kernel_rfl) (by kernel_rfl) (Ext.trans hx6 hx18)
                      · replace hm := ite_f hb10 hm
                        refine o_run 1 [0, 1, 7, 9, 36, 37, 38, 111, 112] (l := []) .nil (E' := [(0, .int .u32 a0), (1, .slice A1 a1.length c1), (7, .pointer (some ⟨g1, 0, none⟩)), (9, .slice A20 l4.length c20), (36, .slice A2 a2.length c2), (37, .int .i64 (a2.length : Int)), (38, .int .i64 p1), (111, .bool false), (112, .pointer (some ⟨g1, 0, none⟩))]) (by kernel_rfl) ?_
                        obtain ⟨t14, hx26, hm⟩ := bind_some hm
                        refine o_stp ?_ (by kernel_rfl)
                        refine s_call 113 18 #[.pointer (some ⟨g1, 0, none⟩)] [0, 1, 2] [3, 4, 5] (by kernel_rfl) (by kernel_rfl) (fun w hs => rbuf_Buffer_Window_ok t8.2 t14 hx26 B6 _ g1 g8 A18 c18 A19 c19 hs10 w (St.cast (by kernel_rfl) hs)) (fun _ hx => ?_)
                        refine t_L (L' := [.blk g1 [.pointer (some ⟨g8, 0, none⟩), .slice A19 t8.2.xbytes.length c19, .int .i64 t8.2.xbegin, .int .i64 t8.2.xn, .int .u32 t8.2.xlast, .bool t8.2.xkept] 50, .blk g8 [.bool t8.2.xBoard.xmade, .int .u32 t8.2.xBoard.xfirst, .slice A18 t8.2.xBoard.xruns.length c18] 76, .own A19 t8.2.xbytes.length c19 (rowOf (encI .u8) t8.2.xbytes) 1 5, .own A17 t8.1.length c17 (rowOf (encI .u8) t8.1) 1 5, .blk g6 [.int .u16 e1.xAt, .int .u16 e1.xN] 55, .own A20 l4.length c20 (rowOf (encI .u8) l4) 1 5]) (by kernel_rfl) ?_
                        refine o_run 1 [0, 1, 7, 9, 36, 37, 38, 111, 113, 114] (l := []) .nil (E' := [(0, .int .u32 a0), (1, .slice A1 a1.length c1), (7, .pointer (some ⟨g1, 0, none⟩)), (9, .slice A20 l4.length c20), (36, .slice A2 a2.length c2), (37, .int .i64 (a2.length : Int)), (38, .int .i64 p1), (111, .bool false), (113, .int .i64 t14), (114, .pointer (some ⟨g1, 0, none⟩))]) (by kernel_rfl) ?_
                        obtain ⟨t15, hx27, hm⟩ := bind_some hm
                        refine o_stp ?_ (by kernel_rfl)
                        refine s_call 115 14 #[.pointer (some ⟨g1, 0, none⟩)] [0, 1, 2] [3, 4, 5] (by kernel_rfl) (by kernel_rfl) (fun w hs => rbuf_Buffer_Len_ok t8.2 t15 hx27 B6 _ g1 g8 A18 c18 A19 c19 hs10 w (St.cast (by kernel_rfl) hs)) (fun _ hx => ?_)
                        refine t_L (L' := [.blk g1 [.pointer (some ⟨g8, 0, none⟩), .slice A19 t8.2.xbytes.length c19, .int .i64 t8.2.xbegin, .int .i64 t8.2.xn, .int .u32 t8.2.xlast, .bool t8.2.xkept] 50, .blk g8 [.bool t8.2.xBoard.xmade, .int .u32 t8.2.xBoard.xfirst, .slice A18 t8.2.xBoard.xruns.length c18] 76, .own A19 t8.2.xbytes.length c19 (rowOf (encI .u8) t8.2.xbytes) 1 5, .own A17 t8.1.length c17 (rowOf (encI .u8) t8.1) 1 5, .blk g6 [.int .u16 e1.xAt, .int .u16 e1.xN] 55, .own A20 l4.length c20 (rowOf (encI .u8) l4) 1 5]) (by kernel_rfl) ?_
                        refine o_run 3 [0, 1, 7, 9, 36, 37, 38, 118] (l := []) .nil (E' := [(0, .int .u32 a0), (1, .slice A1 a1.length c1), (7, .pointer (some ⟨g1, 0, none⟩)), (9, .slice A20 l4.length c20), (36, .slice A2 a2.length c2), (37, .int .i64 (a2.length : Int)), (38, .int .i64 p1), (118, .bool (t14 != (I64 (50 - t15))))]) (by kernel_rfl) ?_
                        refine o_end (by kernel_rfl) ?_
                        refine e_seq ?_
                        refine w_cond (.tmp 118) 4148474 4148475 (t14 != (I64 (50 - t15))) (by kernel_rfl) (by kernel_rfl) (fun hb11 => ?_) (fun hb11 => ?_)
                        · replace hm := ite_t hb11 hm
                          refine w_seq 8296948 8296949 (by kernel_rfl) ?_
                          refine w_region (by kernel_rfl) ?_
                          refine o_run 1 [6] (l := []) .nil (E' := [(6, .bool false)]) (by kernel_rfl) ?_
                          refine o_end (by kernel_rfl) ?_
                          refine e_seq ?_
                          refine w_ret (by kernel_rfl) ?_
                          obtain rfl := Option.some.inj hm
                          replace hm := brk_inl ho2
                          obtain rfl := Option.some.inj hm
                          exact e_retP B6 (.bool false) [] (by kernel_rfl) (by kernel_rfl) rfl (by kernel_rfl) (by kernel_rfl) (Ext.trans hx6 hx18)
                        · replace hm := ite_f hb11 hm
                          refine w_skip (by kernel_rfl) ?_
                          refine e_seq ?_
                          refine w_seq 2074238 2074239 (by kernel_rfl) ?_
                          refine w_region (by kernel_rfl) ?_
                          refine o_run 1 [0, 1, 7, 9, 36, 37, 38, 119] (l := []) .nil (E' := [(0, .int .u32 a0), (1, .slice A1 a1.length c1), (7, .pointer (some ⟨g1, 0, none⟩)), (9, .slice A20 l4.length c20), (36, .slice A2 a2.length c2), (37, .int .i64 (a2.length : Int)), (38, .int .i64 p1), (119, .pointer (some ⟨g1, 0, none⟩))]) (by kernel_rfl) ?_
                          obtain ⟨t16, hx28, hm⟩ := bind_some hm
                          refine o_stp ?_ (by kernel_rfl)
                          refine s_call 120 23 #[.pointer (some ⟨g1, 0, none⟩), .int .i64 100] [0, 1, 2] [3, 4, 5] (by kernel_rfl) (by kernel_rfl) (fun w hs => rbuf_Buffer_Blocks_ok k t8.2 100 t16 hx28 B6 _ g1 g8 A18 c18 A19 c19 hs10 w (St.cast (by kernel_rfl) hs)) (fun x hx => ?_)
                          obtain ⟨B7, A21, c21⟩ := x
                          obtain ⟨hx29, hs11⟩ := hx
                          refine t_L (L' := [.blk g1 [.pointer (some ⟨g8, 0, none⟩), .slice A19 t8.2.xbytes.length c19, .int .i64 t8.2.xbegin, .int .i64 t8.2.xn, .int .u32 t8.2.xlast, .bool t8.2.xkept] 50, .blk g8 [.bool t8.2.xBoard.xmade, .int .u32 t8.2.xBoard.xfirst, .slice A18 t8.2.xBoard.xruns.length c18] 76, .own A19 t8.2.xbytes.length c19 (rowOf (encI .u8) t8.2.xbytes) 1 5, .own A17 t8.1.length c17 (rowOf (encI .u8) t8.1) 1 5, .blk g6 [.int .u16 e1.xAt, .int .u16 e1.xN] 55, .own A20 l4.length c20 (rowOf (encI .u8) l4) 1 5]) (by kernel_rfl) ?_
                          refine o_run 2 [0, 1, 7, 9, 36, 37, 38, 120, 121, 122] (l := []) .nil (E' := [(0, .int .u32 a0), (1, .slice A1 a1.length c1), (7, .pointer (some ⟨g1, 0, none⟩)), (9, .slice A20 l4.length c20), (36, .slice A2 a2.length c2), (37, .int .i64 (a2.length : Int)), (38, .int .i64 p1), (120, .slice A21 t16.length c21), (121, .int .i64 (t16.length : Int)), (122, .int .i64 0)]) (by kernel_rfl) ?_
                          refine o_end (by kernel_rfl) ?_
                          refine e_seq ?_
                          refine w_block 2 4148478 (by kernel_rfl) ?_
                          obtain ⟨t17, ht2, ho3⟩ := bind_some hm
                          refine t_env [0, 1, 7, 9, 36, 37, 38, 120, 121, 122] (E' := [(0, .int .u32 a0), (1, .slice A1 a1.length c1), (7, .pointer (some ⟨g1, 0, none⟩)), (9, .slice A20 l4.length c20), (36, .slice A2 a2.length c2), (37, .int .i64 (a2.length : Int)), (38, .int .i64 p1), (120, .slice A21 t16.length c21), (121, .int .i64 (t16.length : Int)), (122, .int .i64 0)]) (by kernel_rfl) ?_
                          refine w_loopJ 8296956 2 (fun k a w => ∃ (p4 : Int), downhaullaw26_RbufTogether.l2 k t8 t16 p4 = some t17 ∧ EnvOk [(0, .int .u32 a0), (1, .slice A1 a1.length c1), (7, .pointer (some ⟨g1, 0, none⟩)), (9, .slice A20 l4.length c20), (36, .slice A2 a2.length c2), (37, .int .i64 (a2.length : Int)), (38, .int .i64 p1), (120, .slice A21 t16.length c21), (121, .int .i64 (t16.length : Int)), (122, .int .i64 p4)] Try.f6.ntmps a ∧ St B7 G [.blk g1 [.pointer (some ⟨g8, 0, none⟩), .slice A19 t8.2.xbytes.length c19, .int .i64 t8.2.xbegin, .int .i64 t8.2.xn, .int .u32 t8.2.xlast, .bool t8.2.xkept] 50, .blk g8 [.bool t8.2.xBoard.xmade, .int .u32 t8.2.xBoard.xfirst, .slice A18 t8.2.xBoard.xruns.length c18] 76, .own A19 t8.2.xbytes.length c19 (rowOf (encI .u8) t8.2.xbytes) 1 5, .own A17 t8.1.length c17 (rowOf (encI .u8) t8.1) 1 5, .blk g6 [.int .u16 e1.xAt, .int .u16 e1.xN] 55, .own A20 l4.length c20 (rowOf (encI .u8) l4) 1 5] w) (fun a w => ∃ (u2 : Unit), t17 = .inr u2 ∧ EnvOk [(0, .int .u32 a0), (1, .slice A1 a1.length c1), (7, .pointer (some ⟨g1, 0, none⟩)), (9, .slice A20 l4.length c20), (36, .slice A2 a2.length c2), (37, .int .i64 (a2.length : Int)), (38, .int .i64 p1)] Try.f6.ntmps a ∧ St B7 G [.blk g1 [.pointer (some ⟨g8, 0, none⟩), .slice A19 t8.2.xbytes.length c19, .int .i64 t8.2.xbegin, .int .i64 t8.2.xn, .int .u32 t8.2.xlast, .bool t8.2.xkept] 50, .blk g8 [.bool t8.2.xBoard.xmade, .int .u32 t8.2.xBoard.xfirst, .slice A18 t8.2.xBoard.xruns.length c18] 76, .own A19 t8.2.xbytes.length c19 (rowOf (encI .u8) t8.2.xbytes) 1 5, .own A17 t8.1.length c17 (rowOf (encI .u8) t8.1) 1 5, .blk g6 [.int .u16 e1.xAt, .int .u16 e1.xN] 55, .own A20 l4.length c20 (rowOf (encI .u8) l4) 1 5] w) (by kernel_rfl) ?_ ?_ k ?_
                          · rintro a w ⟨u2, hu, ha, hw⟩
                            refine we_of (E := [(0, .int .u32 a0), (1, .slice A1 a1.length c1), (7, .pointer (some ⟨g1, 0, none⟩)), (9, .slice A20 l4.length c20), (36, .slice A2 a2.length c2), (37, .int .i64 (a2.length : Int)), (38, .int .i64 p1)]) (B := B7) (G := G) (L := [.blk g1 [.pointer (some ⟨g8, 0, none⟩), .slice A19 t8.2.xbytes.length c19, .int .i64 t8.2.xbegin, .int .i64 t8.2.xn, .int .u32 t8.2.xlast, .bool t8.2.xkept] 50, .blk g8 [.bool t8.2.xBoard.xmade, .int .u32 t8.2.xBoard.xfirst, .slice A18 t8.2.xBoard.xruns.length c18] 76, .own A19 t8.2.xbytes.length c19 (rowOf (encI .u8) t8.2.xbytes) 1 5, .own A17 t8.1.length c17 (rowOf (encI .u8) t8.1) 1 5, .blk g6 [.int .u16 e1.xAt, .int .u16 e1.xN] 55, .own A20 l4.length c20 (rowOf (encI .u8) l4) 1 5]) ?_ ha hw
                            subst hu
                            replace hm := brk_inr ho3
                            refine e_blk ?_
                            refine e_seq ?_
                            refine w_region (by kernel_rfl) ?_
                            refine o_run 2 [0, 1, 7, 9, 36, 37, 38] (l := []) .nil (E' := [(0, .int .u32 a0), (1, .slice A1 a1.length c1), (7, .pointer (some ⟨g1, 0, none⟩)), (9, .slice A20 l4.length c20), (36, .slice A2 a2.length c2), (37, .int .i64 (a2.length : Int)), (38, .int .i64 (I64 (p1 + 1)))]) (by kernel_rfl) ?_
                            refine o_end (by kernel_rfl) ?_
                            refine t_drop [5, 0, 1, 2] (by kernel_rfl) ?_
                            refine t_L (L' := [.own A20 l4.length c20 (rowOf (encI .u8) l4) 1 5, .blk g1 [.pointer (some ⟨g8, 0, none⟩), .slice A19 t8.2.xbytes.length c19, .int .i64 t8.2.xbegin, .int .i64 t8.2.xn, .int .u32 t8.2.xlast, .bool t8.2.xkept] 50, .blk g8 [.bool t8.2.xBoard.xmade, .int .u32 t8.2.xBoard.xfirst, .slice A18 t8.2.xBoard.xruns.length c18] 76, .own A19 t8.2.xbytes.length c19 (rowOf (encI .u8) t8.2.xbytes) 1 5]) (by kernel_rfl) ?_
                            refine t_env [0, 1, 7, 9, 36, 37, 38] (E' := [(0, .int .u32 a0), (1, .slice A1 a1.length c1), (7, .pointer (some ⟨g1, 0, none⟩)), (9, .slice A20 l4.length c20), (36, .slice A2 a2.length c2), (37, .int .i64 (a2.length : Int)), (38, .int .i64 (I64 (p1 + 1)))]) (by kernel_rfl) ?_
                            exact e_inv (fun a w ha hw => ⟨k, Nat.lt_succ_self k, (I64 (p1 + 1)), t8.2, l4, B7, g8, A18, c18, A19, c19, A20, c20, hm, (Ext.trans (Ext.trans hx6 hx18) hx29), (hs10.up hx29), ha, hw⟩)
                          · rintro k a w ⟨p4, hm, ha, hw⟩
                            cases k with
                            | zero => exact absurd hm (by simp [downhaullaw26_RbufTogether.l2])
                            | succ k =>
                              unfold downhaullaw26_RbufTogether.l2 at hm
                              refine wc_of (E := [(0, .int .u32 a0), (1, .slice A1 a1.length c1), (7, .pointer (some ⟨g1, 0, none⟩)), (9, .slice A20 l4.length c20), (36, .slice A2 a2.length c2), (37, .int .i64 (a2.length : Int)), (38, .int .i64 p1), (120, .slice A21 t16.length c21), (121, .int .i64 (t16.length : Int)), (122, .int .i64 p4)]) (B := B7) (G := G) (L := [.blk g1 [.pointer (some ⟨g8, 0, none⟩), .slice A19 t8.2.xbytes.length c19, .int .i64 t8.2.xbegin, .int .i64 t8.2.xn, .int .u32 t8.2.xlast, .bool t8.2.xkept] 50, .blk g8 [.bool t8.2.xBoard.xmade, .int .u32 t8.2.xBoard.xfirst, .slice A18 t8.2.xBoard.xruns.length c18] 76, .own A19 t8.2.xbytes.length c19 (rowOf (encI .u8) t8.2.xbytes) 1 5, .own A17 t8.1.length c17 (rowOf (encI .u8) t8.1) 1 5, .blk g6 [.int .u16 e1.xAt, .int .u16 e1.xN] 55, .own A20 l4.length c20 (rowOf (encI .u8) l4) 1 5]) ?_ ha hw
                              refine w_seq 16593912 16593913 (by kernel_rfl) ?_
                              refine w_region (by kernel_rfl) ?_
                              refine o_run 1 [0, 1, 7, 9, 36, 37, 38, 120, 121, 122, 123] (l := []) .nil (E' := [(0, .int .u32 a0), (1, .slice A1 a1.length c1), (7, .pointer (some ⟨g1, 0, none⟩)), (9, .slice A20 l4.length c20), (36, .slice A2 a2.length c2), (37, .int .i64 (a2.length : Int)), (38, .int .i64 p1), (120, .slice A21 t16.length c21), (121, .int .i64 (t16.length : Int)), (122, .int .i64 p4), (123, .bool (decide (p4 < (t16.length : Int))))]) (by kernel_rfl) ?_
                              refine o_end (by kernel_rfl) ?_
                              refine e_seq ?_
                              refine w_seq 33187826 33187827 (by kernel_rfl) ?_
                              refine w_cond (.tmp 123) 66375652 66375653 (decide (p4 < (t16.length : Int))) (by kernel_rfl) (by kernel_rfl) (fun hb12 => ?_) (fun hb12 => ?_)
                              · replace hm := ite_t hb12 hm
                                refine w_skip (by kernel_rfl) ?_
                                refine e_seq ?_
                                refine w_seq 66375654 66375655 (by kernel_rfl) ?_
                                refine w_block 3 132751308 (by kernel_rfl) ?_
                                refine w_seq 265502616 265502617 (by kernel_rfl) ?_
                                refine w_region (by kernel_rfl) ?_
                                obtain ⟨e4, hx30, hm⟩ := bind_some hm
                                obtain ⟨hi3, hi4, hg2⟩ := idx_some hx30
                                obtain ⟨cs2, hk2, hc2⟩ := (hs11).at hg2
                                obtain rfl := hk2
                                refine o_val 124 (.indexAddr 46 (.tmp 120) (.tmp 122)) (.pointer (some (adr A21 (Int.toNat p4 * 2)))) (by kernel_rfl) (v_index (k := .i64) (c := c21) (by kernel_rfl) (by kernel_rfl) (by kernel_rfl) hi3 hi4 ((hs11).some hg2)) ?_
                                refine o_run 1 [0, 1, 7, 9, 36, 37, 38, 120, 121, 122, 125] (l := [((adr A21 (Int.toNat p4 * 2)), .int .u32 e4.xLeft), (((adr A21 (Int.toNat p4 * 2)).add 1), .int .u32 e4.xRight)]) (.one ((at_sl hc2).sub 0 rfl) (.one ((at_sl hc2).sub 1 rfl) .nil)) (E' := [(0, .int .u32 a0), (1, .slice A1 a1.length c1), (7, .pointer (some ⟨g1, 0, none⟩)), (9, .slice A20 l4.length c20), (36, .slice A2 a2.length c2), (37, .int .i64 (a2.length : Int)), (38, .int .i64 p1), (120, .slice A21 t16.length c21), (121, .int .i64 (t16.length : Int)), (122, .int .i64 p4), (125, .agg #[.int .u32 e4.xLeft, .int .u32 e4.xRight])]) (by kernel_rfl) ?_
                                refine o_stp ?_ (by kernel_rfl)
                                refine s_new 15 (fun g9 => .pointer (some ⟨g9, 0, none⟩)) [.int .u32 0, .int .u32 0] 57 (fun _ => by kernel_rfl) (fun g9 => ?_)
                                refine o_stp ?_ (by kernel_rfl)
                                refine s_store 0 g9 [.int .u32 0, .int .u32 0] 57 [(0, .int .u32 e4.xLeft), (1, .int .u32 e4.xRight)] (by kernel_rfl) (by kernel_rfl) (by kernel_rfl) ?_
                                refine t_L (L' := [.blk g9 [.int .u32 e4.xLeft, .int .u32 e4.xRight] 57, .blk g1 [.pointer (some ⟨g8, 0, none⟩), .slice A19 t8.2.xbytes.length c19, .int .i64 t8.2.xbegin, .int .i64 t8.2.xn, .int .u32 t8.2.xlast, .bool t8.2.xkept] 50, .blk g8 [.bool t8.2.xBoard.xmade, .int .u32 t8.2.xBoard.xfirst, .slice A18 t8.2.xBoard.xruns.length c18] 76, .own A19 t8.2.xbytes.length c19 (rowOf (encI .u8) t8.2.xbytes) 1 5, .own A17 t8.1.length c17 (rowOf (encI .u8) t8.1) 1 5, .blk g6 [.int .u16 e1.xAt, .int .u16 e1.xN] 55, .own A20 l4.length c20 (rowOf (encI .u8) l4) 1 5]) (by kernel_rfl) ?_
                                refine o_end (by kernel_rfl) ?_
                                refine e_seq ?_
                                refine w_seq 531005234 531005235 (by kernel_rfl) ?_
                                refine w_tail 25 [.blk g9 [.int .u32 e4.xLeft, .int .u32 e4.xRight] 57, .blk g1 [.pointer (some ⟨g8, 0, none⟩), .slice A19 t8.2.xbytes.length c19, .int .i64 t8.2.xbegin, .int .i64 t8.2.xn, .int .u32 t8.2.xlast, .bool t8.2.xkept] 50, .blk g8 [.bool t8.2.xBoard.xmade, .int .u32 t8.2.xBoard.xfirst, .slice A18 t8.2.xBoard.xruns.length c18] 76, .own A19 t8.2.xbytes.length c19 (rowOf (encI .u8) t8.2.xbytes) 1 5, .own A17 t8.1.length c17 (rowOf (encI .u8) t8.1) 1 5, .blk g6 [.int .u16 e1.xAt, .int .u16 e1.xN] 55, .own A20 l4.length c20 (rowOf (encI .u8) l4) 1 5] (by kernel_rfl) mixed (by kernel_rfl) ?_
                                refine tt_run [0, 1, 2, 5] [0, 1, 7, 9, 15, 36, 37, 38, 120, 121, 122, 127, 128, 131] [0, 1, 2, 3, 4, 5, 6] 21 (listed' := #[true, true, true, false, false, true, false, false, false, false, false, false, false, false, false, false, false, false, false, false, false, false, false, false, false, false, false]) (l := [(⟨g9, 0, none⟩, .int .u32 e4.xLeft)]) (.one (at_blk (j := 0) rfl rfl) .nil) (E' := [(0, .int .u32 a0), (1, .slice A1 a1.length c1), (7, .pointer (some ⟨g1, 0, none⟩)), (9, .slice A20 l4.length c20), (15, .pointer (some ⟨g9, 0, none⟩)), (36, .slice A2 a2.length c2), (37, .int .i64 (a2.length : Int)), (38, .int .i64 p1), (120, .slice A21 t16.length c21), (121, .int .i64 (t16.length : Int)), (122, .int .i64 p4), (127, .int .u32 e4.xLeft), (128, .pointer (some ⟨g1, 0, none⟩)), (131, .pointer (some ⟨g1, 0, none⟩))]) (by kernel_rfl) (by kernel_rfl) (by kernel_rfl) (Ext.refl _) (by kernel_rfl) (by kernel_rfl) ?_
                                obtain ⟨t18, hx31, hm⟩ := bind_some hm
                                refine tt_stp 3 [0, 1, 2, 3, 4, 5, 6] (Ext.refl _) (by kernel_rfl) (by kernel_rfl) (by kernel_rfl) (by kernel_rfl) ?_
                                refine s_call 129 13 #[.pointer (some ⟨g1, 0, none⟩)] [1, 2, 3] [0, 4, 5, 6] (by kernel_rfl) (by kernel_rfl) (fun w hs => rbuf_Buffer_Next_ok t8.2 t18 hx31 B7 _ g1 g8 A18 c18 A19 c19 (hs10.up hx29) w (St.cast (by kernel_rfl) hs)) (fun _ hx => ?_)
                                refine t_L (L' := [.blk g1 [.pointer (some ⟨g8, 0, none⟩), .slice A19 t8.2.xbytes.length c19, .int .i64 t8.2.xbegin, .int .i64 t8.2.xn, .int .u32 t8.2.xlast, .bool t8.2.xkept] 50, .blk g8 [.bool t8.2.xBoard.xmade, .int .u32 t8.2.xBoard.xfirst, .slice A18 t8.2.xBoard.xruns.length c18] 76, .own A19 t8.2.xbytes.length c19 (rowOf (encI .u8) t8.2.xbytes) 1 5, .blk g9 [.int .u32 e4.xLeft, .int .u32 e4.xRight] 57, .own A17 t8.1.length c17 (rowOf (encI .u8) t8.1) 1 5, .blk g6 [.int .u16 e1.xAt, .int .u16 e1.xN] 55, .own A20 l4.length c20 (rowOf (encI .u8) l4) 1 5]) (by kernel_rfl) ?_
                                refine tt_run [4] [0, 1, 7, 9, 15, 36, 37, 38, 120, 121, 122, 130, 131] [3, 0, 1, 2, 4, 5, 6] 19 (listed' := #[true, true, true, true, true, true, false, false, false, false, false, false, false, false, false, false, false, false, false, false, false, false, false, false, false, false, false]) (l := []) .nil (E' := [(0, .int .u32 a0), (1, .slice A1 a1.length c1), (7, .pointer (some ⟨g1, 0, none⟩)), (9, .slice A20 l4.length c20), (15, .pointer (some ⟨g9, 0, none⟩)), (36, .slice A2 a2.length c2), (37, .int .i64 (a2.length : Int)), (38, .int .i64 p1), (120, .slice A21 t16.length c21), (121, .int .i64 (t16.length : Int)), (122, .int .i64 p4), (130, .int .u32 (U32 (e4.xLeft - t18))), (131, .pointer (some ⟨g1, 0, none⟩))]) (by kernel_rfl) (by kernel_rfl) (by kernel_rfl) (Ext.refl _) (by kernel_rfl) (by kernel_rfl) ?_
                                obtain ⟨t19, hx32, hm⟩ := bind_some hm
                                refine tt_stp 6 [3, 0, 1, 2, 4, 5, 6] (Ext.refl _) (by kernel_rfl) (by kernel_rfl) (by kernel_rfl) (by kernel_rfl) ?_
                                refine s_call 132 18 #[.pointer (some ⟨g1, 0, none⟩)] [0, 1, 2] [3, 4, 5, 6] (by kernel_rfl) (by kernel_rfl) (fun w hs => rbuf_Buffer_Window_ok t8.2 t19 hx32 B7 _ g1 g8 A18 c18 A19 c19 (hs10.up hx29) w (St.cast (by kernel_rfl) hs)) (fun _ hx => ?_)
                                refine t_L (L' := [.blk g1 [.pointer (some ⟨g8, 0, none⟩), .slice A19 t8.2.xbytes.length c19, .int .i64 t8.2.xbegin, .int .i64 t8.2.xn, .int .u32 t8.2.xlast, .bool t8.2.xkept] 50, .blk g8 [.bool t8.2.xBoard.xmade, .int .u32 t8.2.xBoard.xfirst, .slice A18 t8.2.xBoard.xruns.length c18] 76, .own A19 t8.2.xbytes.length c19 (rowOf (encI .u8) t8.2.xbytes) 1 5, .blk g9 [.int .u32 e4.xLeft, .int .u32 e4.xRight] 57, .own A17 t8.1.length c17 (rowOf (encI .u8) t8.1) 1 5, .blk g6 [.int .u16 e1.xAt, .int .u16 e1.xN] 55, .own A20 l4.length c20 (rowOf (encI .u8) l4) 1 5]) (by kernel_rfl) ?_
                                refine tt_run [7, 8, 9] [0, 1, 7, 9, 15, 36, 37, 38, 120, 121, 122, 135] [3, 0, 1, 2, 4, 5, 6] 15 (listed' := #[true, true, true, true, true, true, true, true, true, true, false, false, false, false, false, false, false, false, false, false, false, false, false, false, false, false, false]) (l := []) .nil (E' := [(0, .int .u32 a0), (1, .slice A1 a1.length c1), (7, .pointer (some ⟨g1, 0, none⟩)), (9, .slice A20 l4.length c20), (15, .pointer (some ⟨g9, 0, none⟩)), (36, .slice A2 a2.length c2), (37, .int .i64 (a2.length : Int)), (38, .int .i64 p1), (120, .slice A21 t16.length c21), (121, .int .i64 (t16.length : Int)), (122, .int .i64 p4), (135, .bool (decide ((U32 (e4.xLeft - t18)) ≥ (U32 t19))))]) (by kernel_rfl) (by kernel_rfl) (by kernel_rfl) (Ext.refl _) (by kernel_rfl) (by kernel_rfl) ?_
                                refine t_split 135 (decide ((U32 (e4.xLeft - t18)) ≥ (U32 t19))) (by kernel_rfl) (fun hb13 => ?_) (fun hb13 => ?_)
                                · replace hm := ite_t hb13 hm
                                  refine tt_run [10, 11, 12, 13, 14, 15, 16, 17, 18, 19, 20, 21, 22, 23, 24] [0, 1, 7, 9, 36, 37, 38, 120, 121, 122, 146, 148, 150] [3, 0, 1, 2, 4, 5, 6] 0 (listed' := #[true, true, true, true, true, true, true, true, true, true, true, true, true, true, true, true, true, true, true, true, true, true, true, true, true, false, false]) (l := []) .nil (E' := [(0, .int .u32 a0), (1, .slice A1 a1.length c1), (7, .pointer (some ⟨g1, 0, none⟩)), (9, .slice A20 l4.length c20), (36, .slice A2 a2.length c2), (37, .int .i64 (a2.length : Int)), (38, .int .i64 p1), (120, .slice A21 t16.length c21), (121, .int .i64 (t16.length : Int)), (122, .int .i64 p4), (146, .bool true), (148, undef), (150, undef)]) (by kernel_rfl) (by kernel_rfl) (by kernel_rfl) (Ext.refl _) (by kernel_rfl) (by kernel_rfl) ?_
                                  refine tt_end [3, 0, 1, 2, 4, 5, 6] (Ext.refl _) (by kernel_rfl) (by kernel_rfl) (by kernel_rfl) ?_
                                  refine o_run 2 [0, 1, 7, 9, 36, 37, 38, 120, 121, 122, 152] (l := []) .nil (E' := [(0, .int .u32 a0), (1, .slice A1 a1.length c1), (7, .pointer (some ⟨g1, 0, none⟩)), (9, .slice A20 l4.length c20), (36, .slice A2 a2.length c2), (37, .int .i64 (a2.length : Int)), (38, .int .i64 p1), (120, .slice A21 t16.length c21), (121, .int .i64 (t16.length : Int)), (122, .int .i64 p4), (152, .bool true)]) (by kernel_rfl) ?_
                                  refine o_end (by kernel_rfl) ?_
                                  refine e_seq ?_
                                  refine w_cond_t (.tmp 152) 1062010470 1062010471 (by kernel_rfl) (by kernel_rfl) ?_
                                  refine w_seq 2124020940 2124020941 (by kernel_rfl) ?_
                                  refine w_region (by kernel_rfl) ?_
                                  refine o_run 1 [6] (l := []) .nil (E' := [(6, .bool false)]) (by kernel_rfl) ?_
                                  refine o_end (by kernel_rfl) ?_
                                  refine e_seq ?_
                                  refine w_ret (by kernel_rfl) ?_
                                  obtain rfl := Option.some.inj hm
                                  replace hm := brk_inl ho3
                                  obtain rfl := Option.some.inj hm
                                  replace hm := brk_inl ho2
                                  obtain rfl := Option.some.inj hm
                                  exact e_retP B7 (.bool false) [] (by kernel_rfl) (by kernel_rfl) rfl (by kernel_rfl) (by kernel_rfl) (Ext.trans (Ext.trans hx6 hx18) hx29)
                                · replace hm := ite_f hb13 hm
                                  refine tt_run [10, 11, 12, 15] [0, 1, 7, 9, 15, 36, 37, 38, 120, 121, 122, 135, 137, 138, 141] [3, 0, 1, 2, 4, 5, 6] 11 (listed' := #[true, true, true, true, true, true, true, true, true, true, true, true, true, false, false, true, false, false, false, false, false, false, false, false, false, false, false]) (l := [(⟨g9, 1, none⟩, .int .u32 e4.xRight)]) (.one (at_blk (j := 0) rfl rfl) .nil) (E' := [(0, .int .u32 a0), (1, .slice A1 a1.length c1), (7, .pointer (some ⟨g1, 0, none⟩)), (9, .slice A20 l4.length c20), (15, .pointer (some ⟨g9, 0, none⟩)), (36, .slice A2 a2.length c2), (37, .int .i64 (a2.length : Int)), (38, .int .i64 p1), (120, .slice A21 t16.length c21), (121, .int .i64 (t16.length : Int)), (122, .int .i64 p4), (135, .bool false), (137, .int .u32 e4.xRight), (138, .pointer (some ⟨g1, 0, none⟩)), (141, .pointer (some ⟨g1, 0, none⟩))]) (by kernel_rfl) (by kernel_rfl) (by kernel_rfl) (Ext.refl _) (by kernel_rfl) (by kernel_rfl) ?_
                                  obtain ⟨t20, hx33, hm⟩ := bind_some hm
                                  refine tt_stp 13 [3, 0, 1, 2, 4, 5, 6] (Ext.refl _) (by kernel_rfl) (by kernel_rfl) (by kernel_rfl) (by kernel_rfl) ?_
                                  refine s_call 139 13 #[.pointer (some ⟨g1, 0, none⟩)] [0, 1, 2] [3, 4, 5, 6] (by kernel_rfl) (by kernel_rfl) (fun w hs => rbuf_Buffer_Next_ok t8.2 t20 hx33 B7 _ g1 g8 A18 c18 A19 c19 (hs10.up hx29) w (St.cast (by kernel_rfl) hs)) (fun _ hx => ?_)
                                  refine t_L (L' := [.blk g1 [.pointer (some ⟨g8, 0, none⟩), .slice A19 t8.2.xbytes.length c19, .int .i64 t8.2.xbegin, .int .i64 t8.2.xn, .int .u32 t8.2.xlast, .bool t8.2.xkept] 50, .blk g8 [.bool t8.2.xBoard.xmade, .int .u32 t8.2.xBoard.xfirst, .slice A18 t8.2.xBoard.xruns.length c18] 76, .own A19 t8.2.xbytes.length c19 (rowOf (encI .u8) t8.2.xbytes) 1 5, .blk g9 [.int .u32 e4.xLeft, .int .u32 e4.xRight] 57, .own A17 t8.1.length c17 (rowOf (encI .u8) t8.1) 1 5, .blk g6 [.int .u16 e1.xAt, .int .u16 e1.xN] 55, .own A20 l4.length c20 (rowOf (encI .u8) l4) 1 5]) (by kernel_rfl) ?_
                                  refine tt_run [14] [0, 1, 7, 9, 15, 36, 37, 38, 120, 121, 122, 135, 140, 141] [3, 0, 1, 2, 4, 5, 6] 9 (listed' := #[true, true, true, true, true, true, true, true, true, true, true, true, true, true, true, true, false, false, false, false, false, false, false, false, false, false, false]) (l := []) .nil (E' := [(0, .int .u32 a0), (1, .slice A1 a1.length c1), (7, .pointer (some ⟨g1, 0, none⟩)), (9, .slice A20 l4.length c20), (15, .pointer (some ⟨g9, 0, none⟩)), (36, .slice A2 a2.length c2), (37, .int .i64 (a2.length : Int)), (38, .int .i64 p1), (120, .slice A21 t16.length c21), (121, .int .i64 (t16.length : Int)), (122, .int .i64 p4), (135, .bool false), (140, .int .u32 (U32 (e4.xRight - t20))), (141, .pointer (some ⟨g1, 0, none⟩))]) (by kernel_rfl) (by kernel_rfl) (by kernel_rfl) (Ext.refl _) (by kernel_rfl) (by kernel_rfl) ?_
                                  obtain ⟨t21, hx34, hm⟩ := bind_some hm
                                  refine tt_stp 16 [3, 0, 1, 2, 4, 5, 6] (Ext.refl _) (by kernel_rfl) (by kernel_rfl) (by kernel_rfl) (by kernel_rfl) ?_
                                  refine s_call 142 18 #[.pointer (some ⟨g1, 0, none⟩)] [0, 1, 2] [3, 4, 5, 6] (by kernel_rfl) (by kernel_rfl) (fun w hs => rbuf_Buffer_Window_ok t8.2 t21 hx34 B7 _ g1 g8 A18 c18 A19 c19 (hs10.up hx29) w (St.cast (by kernel_rfl) hs)) (fun _ hx => ?_)
                                  refine t_L (L' := [.blk g1 [.pointer (some ⟨g8, 0, none⟩), .slice A19 t8.2.xbytes.length c19, .int .i64 t8.2.xbegin, .int .i64 t8.2.xn, .int .u32 t8.2.xlast, .bool t8.2.xkept] 50, .blk g8 [.bool t8.2.xBoard.xmade, .int .u32 t8.2.xBoard.xfirst, .slice A18 t8.2.xBoard.xruns.length c18] 76, .own A19 t8.2.xbytes.length c19 (rowOf (encI .u8) t8.2.xbytes) 1 5, .blk g9 [.int .u32 e4.xLeft, .int .u32 e4.xRight] 57, .own A17 t8.1.length c17 (rowOf (encI .u8) t8.1) 1 5, .blk g6 [.int .u16 e1.xAt, .int .u16 e1.xN] 55, .own A20 l4.length c20 (rowOf (encI .u8) l4) 1 5]) (by kernel_rfl) ?_
                                  refine tt_run [17, 18, 19, 20] [0, 1, 7, 9, 15, 36, 37, 38, 120, 121, 122, 146] [3, 0, 1, 2, 4, 5, 6] 4 (listed' := #[true, true, true, true, true, true, true, true, true, true, true, true, true, true, true, true, true, true, true, true, true, false, false, false, false, false, false]) (l := []) .nil (E' := [(0, .int .u32 a0), (1, .slice A1 a1.length c1), (7, .pointer (some ⟨g1, 0, none⟩)), (9, .slice A20 l4.length c20), (15, .pointer (some ⟨g9, 0, none⟩)), (36, .slice A2 a2.length c2), (37, .int .i64 (a2.length : Int)), (38, .int .i64 p1), (120, .slice A21 t16.length c21), (121, .int .i64 (t16.length : Int)), (122, .int .i64 p4), (146, .bool (decide ((U32 (e4.xRight - t20)) > (U32 t21))))]) (by kernel_rfl) (by kernel_rfl) (by kernel_rfl) (Ext.refl _) (by kernel_rfl) (by kernel_rfl) ?_
                                  refine t_split 146 (decide ((U32 (e4.xRight - t20)) > (U32 t21))) (by kernel_rfl) (fun hb14 => ?_) (fun hb14 => ?_)
                                  · replace hm := ite_t hb14 hm
                                    refine tt_run [21, 22, 23, 24] [0, 1, 7, 9, 36, 37, 38, 120, 121, 122, 146, 148, 150] [3, 0, 1, 2, 4, 5, 6] 0 (listed' := #[true, true, true, true, true, true, true, true, true, true, true, true, true, true, true, true, true, true, true, true, true, true, true, true, true, false, false]) (l := []) .nil (E' := [(0, .int .u32 a0), (1, .slice A1 a1.length c1), (7, .pointer (some ⟨g1, 0, none⟩)), (9, .slice A20 l4.length c20), (36, .slice A2 a2.length c2), (37, .int .i64 (a2.length : Int)), (38, .int .i64 p1), (120, .slice A21 t16.length c21), (121, .int .i64 (t16.length : Int)), (122, .int .i64 p4), (146, .bool true), (148, undef), (150, undef)]) (by kernel_rfl) (by kernel_rfl) (by kernel_rfl) (Ext.refl _) (by kernel_rfl) (by kernel_rfl) ?_
                                    refine tt_end [3, 0, 1, 2, 4, 5, 6] (Ext.refl _) (by kernel_rfl) (by kernel_rfl) (by kernel_rfl) ?_
                                    refine o_run 2 [0, 1, 7, 9, 36, 37, 38, 120, 121, 122, 152] (l := []) .nil (E' := [(0, .int .u32 a0), (1, .slice A1 a1.length c1), (7, .pointer (some ⟨g1, 0, none⟩)), (9, .slice A20 l4.length c20), (36, .slice A2 a2.length c2), (37, .int .i64 (a2.length : Int)), (38, .int .i64 p1), (120, .slice A21 t16.length c21), (121, .int .i64 (t16.length : Int)), (122, .int .i64 p4), (152, .bool true)]) (by kernel_rfl) ?_
                                    refine o_end (by kernel_rfl) ?_
                                    refine e_seq ?_
                                    refine w_cond_t (.tmp 152) 1062010470 1062010471 (by kernel_rfl) (by kernel_rfl) ?_
                                    refine w_seq 2124020940 2124020941 (by kernel_rfl) ?_
                                    refine w_region (by kernel_rfl) ?_
                                    refine o_run 1 [6] (l := []) .nil (E' := [(6, .bool false)]) (by kernel_rfl) ?_
                                    refine o_end (by kernel_rfl) ?_
                                    refine e_seq ?_
                                    refine w_ret (by kernel_rfl) ?_
                                    obtain rfl := Option.some.inj hm
                                    replace hm := brk_inl ho3
                                    obtain rfl := Option.some.inj hm
                                    replace hm := brk_inl ho2
                                    obtain rfl := Option.some.inj hm
                                    exact e_retP B7 (.bool false) [] (by kernel_rfl) (by kernel_rfl) rfl (by kernel_rfl) (by kernel_rfl) (Ext.trans (Ext.trans hx6 hx18) hx29)
                                  · replace hm := ite_f hb14 hm
                                    refine tt_run [21, 22, 23] [0, 1, 7, 9, 36, 37, 38, 120, 121, 122, 146, 148, 149] [3, 0, 1, 2, 4, 5, 6] 1 (listed' := #[true, true, true, true, true, true, true, true, true, true, true, true, true, true, true, true, true, true, true, true, true, true, true, true, false, false, false]) (l := [(⟨g9, 0, none⟩, .int .u32 e4.xLeft)]) (.one (at_blk (j := 0) rfl rfl) .nil) (E' := [(0, .int .u32 a0), (1, .slice A1 a1.length c1), (7, .pointer (some ⟨g1, 0, none⟩)), (9, .slice A20 l4.length c20), (36, .slice A2 a2.length c2), (37, .int .i64 (a2.length : Int)), (38, .int .i64 p1), (120, .slice A21 t16.length c21), (121, .int .i64 (t16.length : Int)), (122, .int .i64 p4), (146, .bool false), (148, .int .u32 e4.xLeft), (149, .pointer (some ⟨g1, 0, none⟩))]) (by kernel_rfl) (by kernel_rfl) (by kernel_rfl) (Ext.refl _) (by kernel_rfl) (by kernel_rfl) ?_
                                    obtain ⟨t22, hx35, hm⟩ := bind_some hm
                                    refine tt_stp 24 [3, 0, 1, 2, 4, 5, 6] (Ext.refl _) (by kernel_rfl) (by kernel_rfl) (by kernel_rfl) (by kernel_rfl) ?_
                                    refine s_call 150 13 #[.pointer (some ⟨g1, 0, none⟩)] [0, 1, 2] [3, 4, 5, 6] (by kernel_rfl) (by kernel_rfl) (fun w hs => rbuf_Buffer_Next_ok t8.2 t22 hx35 B7 _ g1 g8 A18 c18 A19 c19 (hs10.up hx29) w (St.cast (by kernel_rfl) hs)) (fun _ hx => ?_)
                                    refine t_L (L' := [.blk g1 [.pointer (some ⟨g8, 0, none⟩), .slice A19 t8.2.xbytes.length c19, .int .i64 t8.2.xbegin, .int .i64 t8.2.xn, .int .u32 t8.2.xlast, .bool t8.2.xkept] 50, .blk g8 [.bool t8.2.xBoard.xmade, .int .u32 t8.2.xBoard.xfirst, .slice A18 t8.2.xBoard.xruns.length c18] 76, .own A19 t8.2.xbytes.length c19 (rowOf (encI .u8) t8.2.xbytes) 1 5, .blk g9 [.int .u32 e4.xLeft, .int .u32 e4.xRight] 57, .own A17 t8.1.length c17 (rowOf (encI .u8) t8.1) 1 5, .blk g6 [.int .u16 e1.xAt, .int .u16 e1.xN] 55, .own A20 l4.length c20 (rowOf (encI .u8) l4) 1 5]) (by kernel_rfl) ?_
                                    refine tt_end [3, 0, 1, 2, 4, 5, 6] (Ext.refl _) (by kernel_rfl) (by kernel_rfl) (by kernel_rfl) ?_
                                    refine o_run 2 [0, 1, 7, 9, 36, 37, 38, 120, 121, 122, 152] (l := []) .nil (E' := [(0, .int .u32 a0), (1, .slice A1 a1.length c1), (7, .pointer (some ⟨g1, 0, none⟩)), (9, .slice A20 l4.length c20), (36, .slice A2 a2.length c2), (37, .int .i64 (a2.length : Int)), (38, .int .i64 p1), (120, .slice A21 t16.length c21), (121, .int .i64 (t16.length : Int)), (122, .int .i64 p4), (152, .bool (e4.xLeft == t22))]) (by kernel_rfl) ?_
                                    refine o_end (by kernel_rfl) ?_
                                    refine e_seq ?_
                                    refine w_cond (.tmp 152) 1062010470 1062010471 (e4.xLeft == t22) (by kernel_rfl) (by kernel_rfl) (fun hb15 => ?_) (fun hb15 => ?_)
                                    · replace hm := ite_t hb15 hm
                                      refine w_seq 2124020940 2124020941 (by kernel_rfl) ?_
                                      refine w_region (by kernel_rfl) ?_
                                      refine o_run 1 [6] (l := []) .nil (E' := [(6, .bool false)]) (by kernel_rfl) ?_
                                      refine o_end (by kernel_rfl) ?_
                                      refine e_seq ?_
                                      refine w_ret (by kernel_rfl) ?_
                                      obtain rfl := Option.some.inj hm
                                      replace hm := brk_inl ho3
                                      obtain rfl := Option.some.inj hm
                                      replace hm := brk_inl ho2
                                      obtain rfl := Option.some.inj hm
                                      exact e_retP B7 (.bool false) [] (by kernel_rfl) (by kernel_rfl) rfl (by kernel_rfl) (by kernel_rfl) (Ext.trans (Ext.trans hx6 hx18) hx29)
                                    · replace hm := ite_f hb15 hm
                                      refine w_skip (by kernel_rfl) ?_
                                      refine e_blk ?_
                                      refine e_seq ?_
                                      refine w_region (by kernel_rfl) ?_
                                      refine o_run 2 [0, 1, 7, 9, 36, 37, 38, 120, 121, 122] (l := []) .nil (E' := [(0, .int .u32 a0), (1, .slice A1 a1.length c1), (7, .pointer (some ⟨g1, 0, none⟩)), (9, .slice A20 l4.length c20), (36, .slice A2 a2.length c2), (37, .int .i64 (a2.length : Int)), (38, .int .i64 p1), (120, .slice A21 t16.length c21), (121, .int .i64 (t16.length : Int)), (122, .int .i64 (I64 (p4 + 1)))]) (by kernel_rfl) ?_
                                      refine o_end (by kernel_rfl) ?_
                                      refine t_drop [0, 1, 2, 4, 5, 6] (by kernel_rfl) ?_
                                      refine t_L (L' := [.blk g1 [.pointer (some ⟨g8, 0, none⟩), .slice A19 t8.2.xbytes.length c19, .int .i64 t8.2.xbegin, .int .i64 t8.2.xn, .int .u32 t8.2.xlast, .bool t8.2.xkept] 50, .blk g8 [.bool t8.2.xBoard.xmade, .int .u32 t8.2.xBoard.xfirst, .slice A18 t8.2.xBoard.xruns.length c18] 76, .own A19 t8.2.xbytes.length c19 (rowOf (encI .u8) t8.2.xbytes) 1 5, .own A17 t8.1.length c17 (rowOf (encI .u8) t8.1) 1 5, .blk g6 [.int .u16 e1.xAt, .int .u16 e1.xN] 55, .own A20 l4.length c20 (rowOf (encI .u8) l4) 1 5]) (by kernel_rfl) ?_
                                      refine t_env [0, 1, 7, 9, 36, 37, 38, 120, 121, 122] (E' := [(0, .int .u32 a0), (1, .slice A1 a1.length c1), (7, .pointer (some ⟨g1, 0, none⟩)), (9, .slice A20 l4.length c20), (36, .slice A2 a2.length c2), (37, .int .i64 (a2.length : Int)), (38, .int .i64 p1), (120, .slice A21 t16.length c21), (121, .int .i64 (t16.length : Int)), (122, .int .i64 (I64 (p4 + 1)))]) (by kernel_rfl) ?_
                                      exact e_inv (fun a w ha hw => ⟨k, Nat.lt_succ_self k, (I64 (p4 + 1)), hm, ha, hw⟩)
                              · replace hm := ite_f hb12 hm
                                refine w_exit 2 (by kernel_rfl) ?_
                                refine e_x_seq ?_
                                refine e_x_inv ?_
                                refine e_x_here ?_
                                refine t_drop [0, 1, 2, 3, 4, 5] (by kernel_rfl) ?_
                                refine t_L (L' := [.blk g1 [.pointer (some ⟨g8, 0, none⟩), .slice A19 t8.2.xbytes.length c19, .int .i64 t8.2.xbegin, .int .i64 t8.2.xn, .int .u32 t8.2.xlast, .bool t8.2.xkept] 50, .blk g8 [.bool t8.2.xBoard.xmade, .int .u32 t8.2.xBoard.xfirst, .slice A18 t8.2.xBoard.xruns.length c18] 76, .own A19 t8.2.xbytes.length c19 (rowOf (encI .u8) t8.2.xbytes) 1 5, .own A17 t8.1.length c17 (rowOf (encI .u8) t8.1) 1 5, .blk g6 [.int .u16 e1.xAt, .int .u16 e1.xN] 55, .own A20 l4.length c20 (rowOf (encI .u8) l4) 1 5]) (by kernel_rfl) ?_
                                refine t_env [0, 1, 7, 9, 36, 37, 38] (E' := [(0, .int .u32 a0), (1, .slice A1 a1.length c1), (7, .pointer (some ⟨g1, 0, none⟩)), (9, .slice A20 l4.length c20), (36, .slice A2 a2.length c2), (37, .int .i64 (a2.length : Int)), (38, .int .i64 p1)]) (by kernel_rfl) ?_
                                obtain rfl := Option.some.inj hm
                                exact e_inv (fun a w ha hw => ⟨(), rfl, ha, hw⟩)
                          · exact fun a w ha hw => ⟨0, ht2, ha, hw⟩
                · replace hm := ite_f hb7 hm
                  refine w_skip (by kernel_rfl) ?_
                  refine e_seq ?_
                  refine w_seq 1037118 1037119 (by kernel_rfl) ?_
                  refine w_seq 2074236 2074237 (by kernel_rfl) ?_
                  refine w_region (by kernel_rfl) ?_
                  refine o_run 3 [0, 1, 7, 9, 36, 37, 38, 83, 84] (l := []) .nil (E' := [(0, .int .u32 a0), (1, .slice A1 a1.length c1), (7, .pointer (some ⟨g1, 0, none⟩)), (9, .slice A7 p3.length c7), (36, .slice A2 a2.length c2), (37, .int .i64 (a2.length : Int)), (38, .int .i64 p1), (83, .int .i64 (p3.length : Int)), (84, .pointer (some ⟨g1, 0, none⟩))]) (by kernel_rfl) ?_
                  obtain ⟨t23, hx36, hm⟩ := bind_some hm
                  refine o_stp ?_ (by kernel_rfl)
                  refine s_call 85 14 #[.pointer (some ⟨g1, 0, none⟩)] [0, 1, 2] [3, 4] (by kernel_rfl) (by kernel_rfl) (fun w hs => rbuf_Buffer_Len_ok t7.2 t23 hx36 B6 _ g1 g7 A15 c15 A16 c16 hs9 w (St.cast (by kernel_rfl) hs)) (fun _ hx => ?_)
                  refine t_L (L' := [.blk g1 [.pointer (some ⟨g7, 0, none⟩), .slice A16 t7.2.xbytes.length c16, .int .i64 t7.2.xbegin, .int .i64 t7.2.xn, .int .u32 t7.2.xlast, .bool t7.2.xkept] 50, .blk g7 [.bool t7.2.xBoard.xmade, .int .u32 t7.2.xBoard.xfirst, .slice A15 t7.2.xBoard.xruns.length c15] 76, .own A16 t7.2.xbytes.length c16 (rowOf (encI .u8) t7.2.xbytes) 1 5, .blk g6 [.int .u16 e1.xAt, .int .u16 e1.xN] 55, .own A7 p3.length c7 (rowOf (encI .u8) p3) 1 5]) (by kernel_rfl) ?_
                  refine o_run 5 [0, 1, 7, 9, 36, 37, 38, 90] (l := []) .nil (E' := [(0, .int .u32 a0), (1, .slice A1 a1.length c1), (7, .pointer (some ⟨g1, 0, none⟩)), (9, .slice A7 p3.length c7), (36, .slice A2 a2.length c2), (37, .int .i64 (a2.length : Int)), (38, .int .i64 p1), (90, .bool (decide ((I64 ((p3.length : Int) + t23)) > (a1.length : Int))))]) (by kernel_rfl) ?_
                  refine o_split 90 (decide ((I64 ((p3.length : Int) + t23)) > (a1.length : Int))) (by kernel_rfl) (fun hb16 => ?_) (fun hb16 => ?_)
                  · replace hm := ite_t hb16 hm
                    refine o_run 28 [0, 1, 7, 9, 36, 37, 38, 118] (l := []) .nil (E' := [(0, .int .u32 a0), (1, .slice A1 a1.length c1), (7, .pointer (some ⟨g1, 0, none⟩)), (9, .slice A7 p3.length c7), (36, .slice A2 a2.length c2), (37, .int .i64 (a2.length : Int)), (38, .int .i64 p1), (118, .bool true)]) (by kernel_rfl) ?_
                    refine o_end (by kernel_rfl) ?_
                    refine e_seq ?_
                    refine w_cond_t (.tmp 118) 4148474 4148475 (by kernel_rfl) (by kernel_rfl) ?_
                    refine w_seq 8296948 8296949 (by kernel_rfl) ?_
                    refine w_region (by kernel_rfl) ?_
                    refine o_run 1 [6] (l := []) .nil (E' := [(6, .bool false)]) (by kernel_rfl) ?_
                    refine o_end (by kernel_rfl) ?_
                    refine e_seq ?_
                    refine w_ret (by kernel_rfl) ?_
                    obtain rfl := Option.some.inj hm
                    replace hm := brk_inl ho2
                    obtain rfl := Option.some.inj hm
                    exact e_retP B6 (.bool false) [] (by kernel_rfl) (by kernel_rfl) rfl (by kernel_rfl) (by kernel_rfl) (Ext.trans hx6 hx18)
                  · replace hm := ite_f hb16 hm
                    refine o_run 1 [0, 1, 7, 9, 36, 37, 38, 90, 91] (l := []) .nil (E' := [(0, .int .u32 a0), (1, .slice A1 a1.length c1), (7, .pointer (some ⟨g1, 0, none⟩)), (9, .slice A7 p3.length c7), (36, .slice A2 a2.length c2), (37, .int .i64 (a2.length : Int)), (38, .int .i64 p1), (90, .bool false), (91, .pointer (some ⟨g1, 0, none⟩))]) (by kernel_rfl) ?_
                    obtain ⟨t24, hx37, hm⟩ := bind_some hm
                    refine o_stp ?_ (by kernel_rfl)
                    refine s_call 92 13 #[.pointer (some ⟨g1, 0, none⟩)] [0, 1, 2] [3, 4] (by kernel_rfl) (by kernel_rfl) (fun w hs => rbuf_Buffer_Next_ok t7.2 t24 hx37 B6 _ g1 g7 A15 c15 A16 c16 hs9 w (St.cast (by kernel_rfl) hs)) (fun _ hx => ?_)
                    refine t_L (L' := [.blk g1 [.pointer (some ⟨g7, 0, none⟩), .slice A16 t7.2.xbytes.length c16, .int .i64 t7.2.xbegin, .int .i64 t7.2.xn, .int .u32 t7.2.xlast, .bool t7.2.xkept] 50, .blk g7 [.bool t7.2.xBoard.xmade, .int .u32 t7.2.xBoard.xfirst, .slice A15 t7.2.xBoard.xruns.length c15] 76, .own A16 t7.2.xbytes.length c16 (rowOf (encI .u8) t7.2.xbytes) 1 5, .blk g6 [.int .u16 e1.xAt, .int .u16 e1.xN] 55, .own A7 p3.length c7 (rowOf (encI .u8) p3) 1 5]) (by kernel_rfl) ?_
                    refine o_run 4 [0, 1, 7, 9, 36, 37, 38, 90, 92, 93, 95, 96] (l := []) .nil (E' := [(0, .int .u32 a0), (1, .slice A1 a1.length c1), (7, .pointer (some ⟨g1, 0, none⟩)), (9, .slice A7 p3.length c7), (36, .slice A2 a2.length c2), (37, .int .i64 (a2.length : Int)), (38, .int .i64 p1), (90, .bool false), (92, .int .u32 t24), (93, .int .u32 a0), (95, .int .i64 (p3.length : Int)), (96, .pointer (some ⟨g1, 0, none⟩))]) (by kernel_rfl) ?_
                    obtain ⟨t25, hx38, hm⟩ := bind_some hm
                    refine o_stp ?_ (by kernel_rfl)
                    refine s_call 97 14 #[.pointer (some ⟨g1, 0, none⟩)] [0, 1, 2] [3, 4] (by kernel_rfl) (by kernel_rfl) (fun w hs => rbuf_Buffer_Len_ok t7.2 t25 hx38 B6 _ g1 g7 A15 c15 A16 c16 hs9 w (St.cast (by kernel_rfl) hs)) (fun _ hx => ?_)
                    refine t_L (L' := [.blk g1 [.pointer (some ⟨g7, 0, none⟩), .slice A16 t7.2.xbytes.length c16, .int .i64 t7.2.xbegin, .int .i64 t7.2.xn, .int .u32 t7.2.xlast, .bool t7.2.xkept] 50, .blk g7 [.bool t7.2.xBoard.xmade, .int .u32 t7.2.xBoard.xfirst, .slice A15 t7.2.xBoard.xruns.length c15] 76, .own A16 t7.2.xbytes.length c16 (rowOf (encI .u8) t7.2.xbytes) 1 5, .blk g6 [.int .u16 e1.xAt, .int .u16 e1.xN] 55, .own A7 p3.length c7 (rowOf (encI .u8) p3) 1 5]) (by kernel_rfl) ?_
                    refine o_run 6 [0, 1, 7, 9, 36, 37, 38, 103] (l := []) .nil (E' := [(0, .int .u32 a0), (1, .slice A1 a1.length c1), (7, .pointer (some ⟨g1, 0, none⟩)), (9, .slice A7 p3.length c7), (36, .slice A2 a2.length c2), (37, .int .i64 (a2.length : Int)), (38, .int .i64 p1), (103, .bool (t24 != (U32 (a0 + (U32 (I64 ((p3.length : Int) + t25)))))))]) (by kernel_rfl) ?_
                    refine o_split 103 (t24 != (U32 (a0 + (U32 (I64 ((p3.length : Int) + t25)))))) (by kernel_rfl) (fun hb17 => ?_) (fun hb17 => ?_)
                    · replace hm := ite_t hb17 hm
                      refine o_run 15 [0, 1, 7, 9, 36, 37, 38, 118] (l := []) .nil (E' := [(0, .int .u32 a0), (1, .slice A1 a1.length c1), (7, .pointer (some ⟨g1, 0, none⟩)), (9, .slice A7 p3.length c7), (36, .slice A2 a2.length c2), (37, .int .i64 (a2.length : Int)), (38, .int .i64 p1), (118, .bool true)]) (by kernel_rfl) ?_
                      refine o_end (by kernel_rfl) ?_
                      refine e_seq ?_
                      refine w_cond_t (.tmp 118) 4148474 4148475 (by kernel_rfl) (by kernel_rfl) ?_
                      refine w_seq 8296948 8296949 (by kernel_rfl) ?_
                      refine w_region (by kernel_rfl) ?_
                      refine o_run 1 [6] (l := []) .nil (E' := [(6, .bool false)]) (by kernel_rfl) ?_
                      refine o_end (by kernel_rfl) ?_
                      refine e_seq ?_
                      refine w_ret (by kernel_rfl) ?_
                      obtain rfl := Option.some.inj hm
                      replace hm := brk_inl ho2
                      obtain rfl := Option.some.inj hm
                      exact e_retP B6 (.bool false) [] (by kernel_rfl) (by kernel_rfl) rfl (by kernel_rfl) (by kernel_rfl) (Ext.trans hx6 hx18)
                    · replace hm := ite_f hb17 hm
                      refine o_run 1 [0, 1, 7, 9, 36, 37, 38, 103, 104] (l := []) .nil (E' := [(0, .int .u32 a0), (1, .slice A1 a1.length c1), (7, .pointer (some ⟨g1, 0, none⟩)), (9, .slice A7 p3.length c7), (36, .slice A2 a2.length c2), (37, .int .i64 (a2.length : Int)), (38, .int .i64 p1), (103, .bool false), (104, .pointer (some ⟨g1, 0, none⟩))]) (by kernel_rfl) ?_
                      obtain ⟨t26, hx39, hm⟩ := bind_some hm
                      refine o_stp ?_ (by kernel_rfl)
                      refine s_call 105 14 #[.pointer (some ⟨g1, 0, none⟩)] [0, 1, 2] [3, 4] (by kernel_rfl) (by kernel_rfl) (fun w hs => rbuf_Buffer_Len_ok t7.2 t26 hx39 B6 _ g1 g7 A15 c15 A16 c16 hs9 w (St.cast (by kernel_rfl) hs)) (fun _ hx => ?_)
                      refine t_L (L' := [.blk g1 [.pointer (some ⟨g7, 0, none⟩), .slice A16 t7.2.xbytes.length c16, .int .i64 t7.2.xbegin, .int .i64 t7.2.xn, .int .u32 t7.2.xlast, .bool t7.2.xkept] 50, .blk g7 [.bool t7.2.xBoard.xmade, .int .u32 t7.2.xBoard.xfirst, .slice A15 t7.2.xBoard.xruns.length c15] 76, .own A16 t7.2.xbytes.length c16 (rowOf (encI .u8) t7.2.xbytes) 1 5, .blk g6 [.int .u16 e1.xAt, .int .u16 e1.xN] 55, .own A7 p3.length c7 (rowOf (encI .u8) p3) 1 5]) (by kernel_rfl) ?_
                      refine o_run 1 [0, 1, 7, 9, 36, 37, 38, 103, 105, 106] (l := []) .nil (E' := [(0, .int .u32 a0), (1, .slice A1 a1.length c1), (7, .pointer (some ⟨g1, 0, none⟩)), (9, .slice A7 p3.length c7), (36, .slice A2 a2.length c2), (37, .int .i64 (a2.length : Int)), (38, .int .i64 p1), (103, .bool false), (105, .int .i64 t26), (106, .pointer (some ⟨g1, 0, none⟩))]) (by kernel_rfl) ?_
                      obtain ⟨t27, hx40, hm⟩ := bind_some hm
                      refine o_stp ?_ (by kernel_rfl)
                      refine s_call 107 20 #[.pointer (some ⟨g1, 0, none⟩)] [0, 1, 2] [3, 4] (by kernel_rfl) (by kernel_rfl) (fun w hs => rbuf_Buffer_Out_ok k t7.2 t27 hx40 B6 _ g1 g7 A15 c15 A16 c16 hs9 w (St.cast (by kernel_rfl) hs)) (fun _ hx => ?_)
                      refine t_L (L' := [.blk g1 [.pointer (some ⟨g7, 0, none⟩), .slice A16 t7.2.xbytes.length c16, .int .i64 t7.2.xbegin, .int .i64 t7.2.xn, .int .u32 t7.2.xlast, .bool t7.2.xkept] 50, .blk g7 [.bool t7.2.xBoard.xmade, .int .u32 t7.2.xBoard.xfirst, .slice A15 t7.2.xBoard.xruns.length c15] 76, .own A16 t7.2.xbytes.length c16 (rowOf (encI .u8) t7.2.xbytes) 1 5, .blk g6 [.int .u16 e1.xAt, .int .u16 e1.xN] 55, .own A7 p3.length c7 (rowOf (encI .u8) p3) 1 5]) (by kernel_rfl) ?_
                      refine o_run 4 [0, 1, 7, 9, 36, 37, 38, 111] (l := []) .nil (E' := [(0, .int .u32 a0), (1, .slice A1 a1.length c1), (7, .pointer (some ⟨g1, 0, none⟩)), (9, .slice A7 p3.length c7), (36, .slice A2 a2.length c2), (37, .int .i64 (a2.length : Int)), (38, .int .i64 p1), (111, .bool (decide ((I64 (t26 + t27)) > 50)))]) (by kernel_rfl) ?_
                      refine o_split 111 (decide ((I64 (t26 + t27)) > 50)) (by kernel_rfl) (fun hb18 => ?_) (fun hb18 => ?_)
                      · replace hm := ite_t hb18 hm
                        refine o_run 7 [0, 1, 7, 9, 36, 37, 38, 118] (l := []) .nil (E' := [(0, .int .u32 a0), (1, .slice A1 a1.length c1), (7, .pointer (some ⟨g1, 0, none⟩)), (9, .slice A7 p3.length c7), (36, .slice A2 a2.length c2), (37, .int .i64 (a2.length : Int)), (38, .int .i64 p1), (118, .bool true)]) (by kernel_rfl) ?_
                        refine o_end (by kernel_rfl) ?_
                        refine e_seq ?_
                        refine w_cond_t (.tmp 118) 4148474 4148475 (by kernel_rfl) (by kernel_rfl) ?_
                        refine w_seq 8296948 8296949 (by kernel_rfl) ?_
                        refine w_region (by kernel_rfl) ?_
                        refine o_run 1 [6] (l := []) .nil (E' := [(6, .bool false)]) (by kernel_rfl) ?_
                        refine o_end (by kernel_rfl) ?_
                        refine e_seq ?_
                        refine w_ret (by kernel_rfl) ?_
                        obtain rfl := Option.some.inj hm
                        replace hm := brk_inl ho2
                        obtain rfl := Option.some.inj hm
                        exact e_retP B6 (.bool false) [] (by kernel_rfl) (by kernel_rfl) rfl (by kernel_rfl) (by kernel_rfl) (Ext.trans hx6 hx18)
                      · replace hm := ite_f hb18 hm
                        refine o_run 1 [0, 1, 7, 9, 36, 37, 38, 111, 112] (l := []) .nil (E' := [(0, .int .u32 a0), (1, .slice A1 a1.length c1), (7, .pointer (some ⟨g1, 0, none⟩)), (9, .slice A7 p3.length c7), (36, .slice A2 a2.length c2), (37, .int .i64 (a2.length : Int)), (38, .int .i64 p1), (111, .bool false), (112, .pointer (some ⟨g1, 0, none⟩))]) (by kernel_rfl) ?_
                        obtain ⟨t28, hx41, hm⟩ := bind_some hm
                        refine o_stp ?_ (by kernel_rfl)
                        refine s_call 113 18 #[.pointer (some ⟨g1, 0, none⟩)] [0, 1, 2] [3, 4] (by kernel_rfl) (by kernel_rfl) (fun w hs => rbuf_Buffer_Window_ok t7.2 t28 hx41 B6 _ g1 g7 A15 c15 A16 c16 hs9 w (St.cast (by kernel_rfl) hs)) (fun _ hx => ?_)
                        refine t_L (L' := [.blk g1 [.pointer (some ⟨g7, 0, none⟩), .slice A16 t7.2.xbytes.length c16, .int .i64 t7.2.xbegin, .int .i64 t7.2.xn, .int .u32 t7.2.xlast, .bool t7.2.xkept] 50, .blk g7 [.bool t7.2.xBoard.xmade, .int .u32 t7.2.xBoard.xfirst, .slice A15 t7.2.xBoard.xruns.length c15] 76, .own A16 t7.2.xbytes.length c16 (rowOf (encI .u8) t7.2.xbytes) 1 5, .blk g6 [.int .u16 e1.xAt, .int .u16 e1.xN] 55, .own A7 p3.length c7 (rowOf (encI .u8) p3) 1 5]) (by kernel_rfl) ?_
                        refine o_run 1 [0, 1, 7, 9, 36, 37, 38, 111, 113, 114] (l := []) .nil (E' := [(0, .int .u32 a0), (1, .slice A1 a1.length c1), (7, .pointer (some ⟨g1, 0, none⟩)), (9, .slice A7 p3.length c7), (36, .slice A2 a2.length c2), (37, .int .i64 (a2.length : Int)), (38, .int .i64 p1), (111, .bool false), (113, .int .i64 t28), (114, .pointer (some ⟨g1, 0, none⟩))]) (by kernel_rfl) ?_
                        obtain ⟨t29, hx42, hm⟩ := bind_some hm
                        refine o_stp ?_ (by kernel_rfl)
                        refine s_call 115 14 #[.pointer (some ⟨g1, 0, none⟩)] [0, 1, 2] [3, 4] (by kernel_rfl) (by kernel_rfl) (fun w hs => rbuf_Buffer_Len_ok t7.2 t29 hx42 B6 _ g1 g7 A15 c15 A16 c16 hs9 w (St.cast (by kernel_rfl) hs)) (fun _ hx => ?_)
                        refine t_L (L' := [.blk g1 [.pointer (some ⟨g7, 0, none⟩), .slice A16 t7.2.xbytes.length c16, .int .i64 t7.2.xbegin, .int .i64 t7.2.xn, .int .u32 t7.2.xlast, .bool t7.2.xkept] 50, .blk g7 [.bool t7.2.xBoard.xmade, .int .u32 t7.2.xBoard.xfirst, .slice A15 t7.2.xBoard.xruns.length c15] 76, .own A16 t7.2.xbytes.length c16 (rowOf (encI .u8) t7.2.xbytes) 1 5, .blk g6 [.int .u16 e1.xAt, .int .u16 e1.xN] 55, .own A7 p3.length c7 (rowOf (encI .u8) p3) 1 5]) (by kernel_rfl) ?_
                        refine o_run 3 [0, 1, 7, 9, 36, 37, 38, 118] (l := []) .nil (E' := [(0, .int .u32 a0), (1, .slice A1 a1.length c1), (7, .pointer (some ⟨g1, 0, none⟩)), (9, .slice A7 p3.length c7), (36, .slice A2 a2.length c2), (37, .int .i64 (a2.length : Int)), (38, .int .i64 p1), (118, .bool (t28 != (I64 (50 - t29))))]) (by kernel_rfl) ?_
                        refine o_end (by kernel_rfl) ?_
                        refine e_seq ?_
                        refine w_cond (.tmp 118) 4148474 4148475 (t28 != (I64 (50 - t29))) (by kernel_rfl) (by kernel_rfl) (fun hb19 => ?_) (fun hb19 => ?_)
                        · replace hm := ite_t hb19 hm
                          refine w_seq 8296948 8296949 (by kernel_rfl) ?_
                          refine w_region (by kernel_rfl) ?_
                          refine o_run 1 [6] (l := []) .nil (E' := [(6, .bool false)]) (by kernel_rfl) ?_
                          refine o_end (by kernel_rfl) ?_
                          refine e_seq ?_
                          refine w_ret (by kernel_rfl) ?_
                          obtain rfl := Option.some.inj hm
                          replace hm := brk_inl ho2
                          obtain rfl := Option.some.inj hm
                          exact e_retP B6 (.bool false) [] (by kernel_rfl) (by kernel_rfl) rfl (by kernel_rfl) (by kernel_rfl) (Ext.trans hx6 hx18)
                        · replace hm := ite_f hb19 hm
                          refine w_skip (by kernel_rfl) ?_
                          refine e_seq ?_
                          refine w_seq 2074238 2074239 (by kernel_rfl) ?_
                          refine w_region (by kernel_rfl) ?_
                          refine o_run 1 [0, 1, 7, 9, 36, 37, 38, 119] (l := []) .nil (E' := [(0, .int .u32 a0), (1, .slice A1 a1.length c1), (7, .pointer (some ⟨g1, 0, none⟩)), (9, .slice A7 p3.length c7), (36, .slice A2 a2.length c2), (37, .int .i64 (a2.length : Int)), (38, .int .i64 p1), (119, .pointer (some ⟨g1, 0, none⟩))]) (by kernel_rfl) ?_
                          obtain ⟨t30, hx43, hm⟩ := bind_some hm
                          refine o_stp ?_ (by kernel_rfl)
                          refine s_call 120 23 #[.pointer (some ⟨g1, 0, none⟩), .int .i64 100] [0, 1, 2] [3, 4] (by kernel_rfl) (by kernel_rfl) (fun w hs => rbuf_Buffer_Blocks_ok k t7.2 100 t30 hx43 B6 _ g1 g7 A15 c15 A16 c16 hs9 w (St.cast (by kernel_rfl) hs)) (fun x hx => ?_)
                          obtain ⟨B8, A22, c22⟩ := x
                          obtain ⟨hx44, hs12⟩ := hx
                          refine t_L (L' := [.blk g1 [.pointer (some ⟨g7, 0, none⟩), .slice A16 t7.2.xbytes.length c16, .int .i64 t7.2.xbegin, .int .i64 t7.2.xn, .int .u32 t7.2.xlast, .bool t7.2.xkept] 50, .blk g7 [.bool t7.2.xBoard.xmade, .int .u32 t7.2.xBoard.xfirst, .slice A15 t7.2.xBoard.xruns.length c15] 76, .own A16 t7.2.xbytes.length c16 (rowOf (encI .u8) t7.2.xbytes) 1 5, .blk g6 [.int .u16 e1.xAt, .int .u16 e1.xN] 55, .own A7 p3.length c7 (rowOf (encI .u8) p3) 1 5]) (by kernel_rfl) ?_
                          refine o_run 2 [0, 1, 7, 9, 36, 37, 38, 120, 121, 122] (l := []) .nil (E' := [(0, .int .u32 a0), (1, .slice A1 a1.length c1), (7, .pointer (some ⟨g1, 0, none⟩)), (9, .slice A7 p3.length c7), (36, .slice A2 a2.length c2), (37, .int .i64 (a2.length : Int)), (38, .int .i64 p1), (120, .slice A22 t30.length c22), (121, .int .i64 (t30.length : Int)), (122, .int .i64 0)]) (by kernel_rfl) ?_
                          refine o_end (by kernel_rfl) ?_
                          refine e_seq ?_
                          refine w_block 2 4148478 (by kernel_rfl) ?_
                          obtain ⟨t31, ht3, ho4⟩ := bind_some hm
                          refine t_env [0, 1, 7, 9, 36, 37, 38, 120, 121, 122] (E' := [(0, .int .u32 a0), (1, .slice A1 a1.length c1), (7, .pointer (some ⟨g1, 0, none⟩)), (9, .slice A7 p3.length c7), (36, .slice A2 a2.length c2), (37, .int .i64 (a2.length : Int)), (38, .int .i64 p1), (120, .slice A22 t30.length c22), (121, .int .i64 (t30.length : Int)), (122, .int .i64 0)]) (by kernel_rfl) ?_
                          refine w_loopJ 8296956 2 (fun k a w => ∃ (p5 : Int), downhaullaw26_RbufTogether.l3 k t7 t30 p5 = some t31 ∧ EnvOk [(0, .int .u32 a0), (1, .slice A1 a1.length c1), (7, .pointer (some ⟨g1, 0, none⟩)), (9, .slice A7 p3.length c7), (36, .slice A2 a2.length c2), (37, .int .i64 (a2.length : Int)), (38, .int .i64 p1), (120, .slice A22 t30.length c22), (121, .int .i64 (t30.length : Int)), (122, .int .i64 p5)] Try.f6.ntmps a ∧ St B8 G [.blk g1 [.pointer (some ⟨g7, 0, none⟩), .slice A16 t7.2.xbytes.length c16, .int .i64 t7.2.xbegin, .int .i64 t7.2.xn, .int .u32 t7.2.xlast, .bool t7.2.xkept] 50, .blk g7 [.bool t7.2.xBoard.xmade, .int .u32 t7.2.xBoard.xfirst, .slice A15 t7.2.xBoard.xruns.length c15] 76, .own A16 t7.2.xbytes.length c16 (rowOf (encI .u8) t7.2.xbytes) 1 5, .blk g6 [.int .u16 e1.xAt, .int .u16 e1.xN] 55, .own A7 p3.length c7 (rowOf (encI .u8) p3) 1 5] w) (fun a w => ∃ (u3 : Unit), t31 = .inr u3 ∧ EnvOk [(0, .int .u32 a0), (1, .slice A1 a1.length c1), (7, .pointer (some ⟨g1, 0, none⟩)), (9, .slice A7 p3.length c7), (36, .slice A2 a2.length c2), (37, .int .i64 (a2.length : Int)), (38, .int .i64 p1)] Try.f6.ntmps a ∧ St B8 G [.blk g1 [.pointer (some ⟨g7, 0, none⟩), .slice A16 t7.2.xbytes.length c16, .int .i64 t7.2.xbegin, .int .i64 t7.2.xn, .int .u32 t7.2.xlast, .bool t7.2.xkept] 50, .blk g7 [.bool t7.2.xBoard.xmade, .int .u32 t7.2.xBoard.xfirst, .slice A15 t7.2.xBoard.xruns.length c15] 76, .own A16 t7.2.xbytes.length c16 (rowOf (encI .u8) t7.2.xbytes) 1 5, .blk g6 [.int .u16 e1.xAt, .int .u16 e1.xN] 55, .own A7 p3.length c7 (rowOf (encI .u8) p3) 1 5] w) (by kernel_rfl) ?_ ?_ k ?_
                          · rintro a w ⟨u3, hu, ha, hw⟩
                            refine we_of (E := [(0, .int .u32 a0), (1, .slice A1 a1.length c1), (7, .pointer (some ⟨g1, 0, none⟩)), (9, .slice A7 p3.length c7), (36, .slice A2 a2.length c2), (37, .int .i64 (a2.length : Int)), (38, .int .i64 p1)]) (B := B8) (G := G) (L := [.blk g1 [.pointer (some ⟨g7, 0, none⟩), .slice A16 t7.2.xbytes.length c16, .int .i64 t7.2.xbegin, .int .i64 t7.2.xn, .int .u32 t7.2.xlast, .bool t7.2.xkept] 50, .blk g7 [.bool t7.2.xBoard.xmade, .int .u32 t7.2.xBoard.xfirst, .slice A15 t7.2.xBoard.xruns.length c15] 76, .own A16 t7.2.xbytes.length c16 (rowOf (encI .u8) t7.2.xbytes) 1 5, .blk g6 [.int .u16 e1.xAt, .int .u16 e1.xN] 55, .own A7 p3.length c7 (rowOf (encI .u8) p3) 1 5]) ?_ ha hw
                            subst hu
                            replace hm := brk_inr ho4
                            refine e_blk ?_
                            refine e_seq ?_
                            refine w_region (by kernel_rfl) ?_
                            refine o_run 2 [0, 1, 7, 9, 36, 37, 38] (l := []) .nil (E' := [(0, .int .u32 a0), (1, .slice A1 a1.length c1), (7, .pointer (some ⟨g1, 0, none⟩)), (9, .slice A7 p3.length c7), (36, .slice A2 a2.length c2), (37, .int .i64 (a2.length : Int)), (38, .int .i64 (I64 (p1 + 1)))]) (by kernel_rfl) ?_
                            refine o_end (by kernel_rfl) ?_
                            refine t_drop [4, 0, 1, 2] (by kernel_rfl) ?_
                            refine t_L (L' := [.own A7 p3.length c7 (rowOf (encI .u8) p3) 1 5, .blk g1 [.pointer (some ⟨g7, 0, none⟩), .slice A16 t7.2.xbytes.length c16, .int .i64 t7.2.xbegin, .int .i64 t7.2.xn, .int .u32 t7.2.xlast, .bool t7.2.xkept] 50, .blk g7 [.bool t7.2.xBoard.xmade, .int .u32 t7.2.xBoard.xfirst, .slice A15 t7.2.xBoard.xruns.length c15] 76, .own A16 t7.2.xbytes.length c16 (rowOf (encI .u8) t7.2.xbytes) 1 5]) (by kernel_rfl) ?_
                            refine t_env [0, 1, 7, 9, 36, 37, 38] (E' := [(0, .int .u32 a0), (1, .slice A1 a1.length c1), (7, .pointer (some ⟨g1, 0, none⟩)), (9, .slice A7 p3.length c7), (36, .slice A2 a2.length c2), (37, .int .i64 (a2.length : Int)), (38, .int .i64 (I64 (p1 + 1)))]) (by kernel_rfl) ?_
                            exact e_inv (fun a w ha hw => ⟨k, Nat.lt_succ_self k, (I64 (p1 + 1)), t7.2, p3, B8, g7, A15, c15, A16, c16, A7, c7, hm, (Ext.trans (Ext.trans hx6 hx18) hx44), (hs9.up hx44), ha, hw⟩)
                          · rintro k a w ⟨p5, hm, ha, hw⟩
                            cases k with
                            | zero => exact absurd hm (by simp [downhaullaw26_RbufTogether.l3])
                            | succ k =>
                              unfold downhaullaw26_RbufTogether.l3 at hm
                              refine wc_of (E := [(0, .int .u32 a0), (1, .slice A1 a1.length c1), (7, .pointer (some ⟨g1, 0, none⟩)), (9, .slice A7 p3.length c7), (36, .slice A2 a2.length c2), (37, .int .i64 (a2.length : Int)), (38, .int .i64 p1), (120, .slice A22 t30.length c22), (121, .int .i64 (t30.length : Int)), (122, .int .i64 p5)]) (B := B8) (G := G) (L := [.blk g1 [.pointer (some ⟨g7, 0, none⟩), .slice A16 t7.2.xbytes.length c16, .int .i64 t7.2.xbegin, .int .i64 t7.2.xn, .int .u32 t7.2.xlast, .bool t7.2.xkept] 50, .blk g7 [.bool t7.2.xBoard.xmade, .int .u32 t7.2.xBoard.xfirst, .slice A15 t7.2.xBoard.xruns.length c15] 76, .own A16 t7.2.xbytes.length c16 (rowOf (encI .u8) t7.2.xbytes) 1 5, .blk g6 [.int .u16 e1.xAt, .int .u16 e1.xN] 55, .own A7 p3.length c7 (rowOf (encI .u8) p3) 1 5]) ?_ ha hw
                              refine w_seq 16593912 16593913 (by kernel_rfl) ?_
                              refine w_region (by kernel_rfl) ?_
                              refine o_run 1 [0, 1, 7, 9, 36, 37, 38, 120, 121, 122, 123] (l := []) .nil (E' := [(0, .int .u32 a0), (1, .slice A1 a1.length c1), (7, .pointer (some ⟨g1, 0, none⟩)), (9, .slice A7 p3.length c7), (36, .slice A2 a2.length c2), (37, .int .i64 (a2.length : Int)), (38, .int .i64 p1), (120, .slice A22 t30.length c22), (121, .int .i64 (t30.length : Int)), (122, .int .i64 p5), (123, .bool (decide (p5 < (t30.length : Int))))]) (by kernel_rfl) ?_
                              refine o_end (by kernel_rfl) ?_
                              refine e_seq ?_
                              refine w_seq 33187826 33187827 (by kernel_rfl) ?_
                              refine w_cond (.tmp 123) 66375652 66375653 (decide (p5 < (t30.length : Int))) (by kernel_rfl) (by kernel_rfl) (fun hb20 => ?_) (fun hb20 => ?_)
                              · replace hm := ite_t hb20 hm
                                refine w_skip (by kernel_rfl) ?_
                                refine e_seq ?_
                                refine w_seq 66375654 66375655 (by kernel_rfl) ?_
                                refine w_block 3 132751308 (by kernel_rfl) ?_
                                refine w_seq 265502616 265502617 (by kernel_rfl) ?_
                                refine w_region (by kernel_rfl) ?_
                                obtain ⟨e5, hx45, hm⟩ := bind_some hm
                                obtain ⟨hi5, hi6, hg3⟩ := idx_some hx45
                                obtain ⟨cs3, hk3, hc3⟩ := (hs12).at hg3
                                obtain rfl := hk3
                                refine o_val 124 (.indexAddr 46 (.tmp 120) (.tmp 122)) (.pointer (some (adr A22 (Int.toNat p5 * 2)))) (by kernel_rfl) (v_index (k := .i64) (c := c22) (by kernel_rfl) (by kernel_rfl) (by kernel_rfl) hi5 hi6 ((hs12).some hg3)) ?_
                                refine o_run 1 [0, 1, 7, 9, 36, 37, 38, 120, 121, 122, 125] (l := [((adr A22 (Int.toNat p5 * 2)), .int .u32 e5.xLeft), (((adr A22 (Int.toNat p5 * 2)).add 1), .int .u32 e5.xRight)]) (.one ((at_sl hc3).sub 0 rfl) (.one ((at_sl hc3).sub 1 rfl) .nil)) (E' := [(0, .int .u32 a0), (1, .slice A1 a1.length c1), (7, .pointer (some ⟨g1, 0, none⟩)), (9, .slice A7 p3.length c7), (36, .slice A2 a2.length c2), (37, .int .i64 (a2.length : Int)), (38, .int .i64 p1), (120, .slice A22 t30.length c22), (121, .int .i64 (t30.length : Int)), (122, .int .i64 p5), (125, .agg #[.int .u32 e5.xLeft, .int .u32 e5.xRight])]) (by kernel_rfl) ?_
                                refine o_stp ?_ (by kernel_rfl)
                                refine s_new 15 (fun g10 => .pointer (some ⟨g10, 0, none⟩)) [.int .u32 0, .int .u32 0] 57 (fun _ => by kernel_rfl) (fun g10 => ?_)
                                refine o_stp ?_ (by kernel_rfl)
                                refine s_store 0 g10 [.int .u32 0, .int .u32 0] 57 [(0, .int .u32 e5.xLeft), (1, .int .u32 e5.xRight)] (by kernel_rfl) (by kernel_rfl) (by kernel_rfl) ?_
                                refine t_L (L' := [.blk g10 [.int .u32 e5.xLeft, .int .u32 e5.xRight] 57, .blk g1 [.pointer (some ⟨g7, 0, none⟩), .slice A16 t7.2.xbytes.length c16, .int .i64 t7.2.xbegin, .int .i64 t7.2.xn, .int .u32 t7.2.xlast, .bool t7.2.xkept] 50, .blk g7 [.bool t7.2.xBoard.xmade, .int .u32 t7.2.xBoard.xfirst, .slice A15 t7.2.xBoard.xruns.length c15] 76, .own A16 t7.2.xbytes.length c16 (rowOf (encI .u8) t7.2.xbytes) 1 5, .blk g6 [.int .u16 e1.xAt, .int .u16 e1.xN] 55, .own A7 p3.length c7 (rowOf (encI .u8) p3) 1 5]) (by kernel_rfl) ?_
                                refine o_end (by kernel_rfl) ?_
                                refine e_seq ?_
                                refine w_seq 531005234 531005235 (by kernel_rfl) ?_
                                refine w_tail 25 [.blk g10 [.int .u32 e5.xLeft, .int .u32 e5.xRight] 57, .blk g1 [.pointer (some ⟨g7, 0, none⟩), .slice A16 t7.2.xbytes.length c16, .int .i64 t7.2.xbegin, .int .i64 t7.2.xn, .int .u32 t7.2.xlast, .bool t7.2.xkept] 50, .blk g7 [.bool t7.2.xBoard.xmade, .int .u32 t7.2.xBoard.xfirst, .slice A15 t7.2.xBoard.xruns.length c15] 76, .own A16 t7.2.xbytes.length c16 (rowOf (encI .u8) t7.2.xbytes) 1 5, .blk g6 [.int .u16 e1.xAt, .int .u16 e1.xN] 55, .own A7 p3.length c7 (rowOf (encI .u8) p3) 1 5] (by kernel_rfl) mixed (by kernel_rfl) ?_
                                refine tt_run [0, 1, 2, 5] [0, 1, 7, 9, 15, 36, 37, 38, 120, 121, 122, 127, 128, 131] [0, 1, 2, 3, 4, 5] 21 (listed' := #[true, true, true, false, false, true, false, false, false, false, false, false, false, false, false, false, false, false, false, false, false, false, false, false, false, false, false]) (l := [(⟨g10, 0, none⟩, .int .u32 e5.xLeft)]) (.one (at_blk (j := 0) rfl rfl) .nil) (E' := [(0, .int .u32 a0), (1, .slice A1 a1.length c1), (7, .pointer (some ⟨g1, 0, none⟩)), (9, .slice A7 p3.length c7), (15, .pointer (some ⟨g10, 0, none⟩)), (36, .slice A2 a2.length c2), (37, .int .i64 (a2.length : Int)), (38, .int .i64 p1), (120, .slice A22 t30.length c22), (121, .int .i64 (t30.length : Int)), (122, .int .i64 p5), (127, .int .u32 e5.xLeft), (128, .pointer (some ⟨g1, 0, none⟩)), (131, .pointer (some ⟨g1, 0, none⟩))]) (by kernel_rfl) (by kernel_rfl) (by kernel_rfl) (Ext.refl _) (by kernel_rfl) (by kernel_rfl) ?_
                                obtain ⟨t32, hx46, hm⟩ := bind_some hm
                                refine tt_stp 3 [0, 1, 2, 3, 4, 5] (Ext.refl _) (by kernel_rfl) (by kernel_rfl) (by kernel_rfl) (by kernel_rfl) ?_
                                refine s_call 129 13 #[.pointer (some ⟨g1, 0, none⟩)] [1, 2, 3] [0, 4, 5] (by kernel_rfl) (by kernel_rfl) (fun w hs => rbuf_Buffer_Next_ok t7.2 t32 hx46 B8 _ g1 g7 A15 c15 A16 c16 (hs9.up hx44) w (St.cast (by kernel_rfl) hs)) (fun _ hx => ?_)
                                refine t_L (L' := [.blk g1 [.pointer (some ⟨g7, 0, none⟩), .slice A16 t7.2.xbytes.length c16, .int .i64 t7.2.xbegin, .int .i64 t7.2.xn, .int .u32 t7.2.xlast, .bool t7.2.xkept] 50, .blk g7 [.bool t7.2.xBoard.xmade, .int .u32 t7.2.xBoard.xfirst, .slice A15 t7.2.xBoard.xruns.length c15] 76, .own A16 t7.2.xbytes.length c16 (rowOf (encI .u8) t7.2.xbytes) 1 5, .blk g10 [.int .u32 e5.xLeft, .int .u32 e5.xRight] 57, .blk g6 [.int .u16 e1.xAt, .int .u16 e1.xN] 55, .own A7 p3.length c7 (rowOf (encI .u8) p3) 1 5]) (by kernel_rfl) ?_
                                refine tt_run [4] [0, 1, 7, 9, 15, 36, 37, 38, 120, 121, 122, 130, 131] [3, 0, 1, 2, 4, 5] 19 (listed' := #[true, true, true, true, true, true, false, false, false, false, false, false, false, false, false, false, false, false, false, false, false, false, false, false, false, false, false]) (l := []) .nil (E' := [(0, .int .u32 a0), (1, .slice A1 a1.length c1), (7, .pointer (some ⟨g1, 0, none⟩)), (9, .slice A7 p3.length c7), (15, .pointer (some ⟨g10, 0, none⟩)), (36, .slice A2 a2.length c2), (37, .int .i64 (a2.length : Int)), (38, .int .i64 p1), (120, .slice A22 t30.length c22), (121, .int .i64 (t30.length : Int)), (122, .int .i64 p5), (130, .int .u32 (U32 (e5.xLeft - t32))), (131, .pointer (some ⟨g1, 0, none⟩))]) (by kernel_rfl) (by kernel_rfl) (by kernel_rfl) (Ext.refl _) (by kernel_rfl) (by kernel_rfl) ?_
                                obtain ⟨t33, hx47, hm⟩ := bind_some hm
                                refine tt_stp 6 [3, 0, 1, 2, 4, 5] (Ext.refl _) (by kernel_rfl) (by kernel_rfl) (by kernel_rfl) (by kernel_rfl) ?_
                                refine s_call 132 18 #[.pointer (some ⟨g1, 0, none⟩)] [0, 1, 2] [3, 4, 5] (by kernel_rfl) (by kernel_rfl) (fun w hs => rbuf_Buffer_Window_ok t7.2 t33 hx47 B8 _ g1 g7 A15 c15 A16 c16 (hs9.up hx44) w (St.cast (by kernel_rfl) hs)) (fun _ hx => ?_)
                                refine t_L (L' := [.blk g1 [.pointer (some ⟨g7, 0, none⟩), .slice A16 t7.2.xbytes.length c16, .int .i64 t7.2.xbegin, .int .i64 t7.2.xn, .int .u32 t7.2.xlast, .bool t7.2.xkept] 50, .blk g7 [.bool t7.2.xBoard.xmade, .int .u32 t7.2.xBoard.xfirst, .slice A15 t7.2.xBoard.xruns.length c15] 76, .own A16 t7.2.xbytes.length c16 (rowOf (encI .u8) t7.2.xbytes) 1 5, .blk g10 [.int .u32 e5.xLeft, .int .u32 e5.xRight] 57, .blk g6 [.int .u16 e1.xAt, .int .u16 e1.xN] 55, .own A7 p3.length c7 (rowOf (encI .u8) p3) 1 5]) (by kernel_rfl) ?_
                                refine tt_run [7, 8, 9] [0, 1, 7, 9, 15, 36, 37, 38, 120, 121, 122, 135] [3, 0, 1, 2, 4, 5] 15 (listed' := #[true, true, true, true, true, true, true, true, true, true, false, false, false, false, false, false, false, false, false, false, false, false, false, false, false, false, false]) (l := []) .nil (E' := [(0, .int .u32 a0), (1, .slice A1 a1.length c1), (7, .pointer (some ⟨g1, 0, none⟩)), (9, .slice A7 p3.length c7), (15, .pointer (some ⟨g10, 0, none⟩)), (36, .slice A2 a2.length c2), (37, .int .i64 (a2.length : Int)), (38, .int .i64 p1), (120, .slice A22 t30.length c22), (121, .int .i64 (t30.length : Int)), (122, .int .i64 p5), (135, .bool (decide ((U32 (e5.xLeft - t32)) ≥ (U32 t33))))]) (by kernel_rfl) (by kernel_rfl) (by kernel_rfl) (Ext.refl _) (by kernel_rfl) (by kernel_rfl) ?_
                                refine t_split 135 (decide ((U32 (e5.xLeft - t32)) ≥ (U32 t33))) (by kernel_rfl) (fun hb21 => ?_) (fun hb21 => ?_)
                                · replace hm := ite_t hb21 hm
                                  refine tt_run [10, 11, 12, 13, 14, 15, 16, 17, 18, 19, 20, 21, 22, 23, 24] [0, 1, 7, 9, 36, 37, 38, 120, 121, 122, 146, 148, 150] [3, 0, 1, 2, 4, 5] 0 (listed' := #[true, true, true, true, true, true, true, true, true, true, true, true, true, true, true, true, true, true, true, true, true, true, true, true, true, false, false]) (l := []) .nil (E' := [(0, .int .u32 a0), (1, .slice A1 a1.length c1), (7, .pointer (some ⟨g1, 0, none⟩)), (9, .slice A7 p3.length c7), (36, .slice A2 a2.length c2), (37, .int .i64 (a2.length : Int)), (38, .int .i64 p1), (120, .slice A22 t30.length c22), (121, .int .i64 (t30.length : Int)), (122, .int .i64 p5), (146, .bool true), (148, undef), (150, undef)]) (by kernel_rfl) (by kernel_rfl) (by kernel_rfl) (Ext.refl _) (by kernel_rfl) (by kernel_rfl) ?_
                                  refine tt_end [3, 0, 1, 2, 4, 5] (Ext.refl _) (by kernel_rfl) (by kernel_rfl) (by kernel_rfl) ?_
                                  refine o_run 2 [0, 1, 7, 9, 36, 37, 38, 120, 121, 122, 152] (l := []) .nil (E' := [(0, .int .u32 a0), (1, .slice A1 a1.length c1), (7, .pointer (some ⟨g1, 0, none⟩)), (9, .slice A7 p3.length c7), (36, .slice A2 a2.length c2), (37, .int .i64 (a2.length : Int)), (38, .int .i64 p1), (120, .slice A22 t30.length c22), (121, .int .i64 (t30.length : Int)), (122, .int .i64 p5), (152, .bool true)]) (by kernel_rfl) ?_
                                  refine o_end (by kernel_rfl) ?_
                                  refine e_seq ?_
                                  refine w_cond_t (.tmp 152) 1062010470 1062010471 (by kernel_rfl) (by kernel_rfl) ?_
                                  refine w_seq 2124020940 2124020941 (by kernel_rfl) ?_
                                  refine w_region (by kernel_rfl) ?_
                                  refine o_run 1 [6] (l := []) .nil (E' := [(6, .bool false)]) (by kernel_rfl) ?_
                                  refine o_end (by kernel_rfl) ?_
                                  refine e_seq ?_
                                  refine w_ret (by kernel_rfl) ?_
                                  obtain rfl := Option.some.inj hm
                                  replace hm := brk_inl ho4
                                  obtain rfl := Option.some.inj hm
                                  replace hm := brk_inl ho2
                                  obtain rfl := Option.some.inj hm
                                  exact e_retP B8 (.bool false) [] (by kernel_rfl) (by kernel_rfl) rfl (by kernel_rfl) (by kernel_rfl) (Ext.trans (Ext.trans hx6 hx18) hx44)
                                · replace hm := ite_f hb21 hm
                                  refine tt_run [10, 11, 12, 15] [0, 1, 7, 9, 15, 36, 37, 38, 120, 121, 122, 135, 137, 138, 141] [3, 0, 1, 2, 4, 5] 11 (listed' := #[true, true, true, true, true, true, true, true, true, true, true, true, true, false, false, true, false, false, false, false, false, false, false, false, false, false, false]) (l := [(⟨g10, 1, none⟩, .int .u32 e5.xRight)]) (.one (at_blk (j := 0) rfl rfl) .nil) (E' := [(0, .int .u32 a0), (1, .slice A1 a1.length c1), (7, .pointer (some ⟨g1, 0, none⟩)), (9, .slice A7 p3.length c7), (15, .pointer (some ⟨g10, 0, none⟩)), (36, .slice A2 a2.length c2), (37, .int .i64 (a2.length : Int)), (38, .int .i64 p1), (120, .slice A22 t30.length c22), (121, .int .i64 (t30.length : Int)), (122, .int .i64 p5), (135, .bool false), (137, .int .u32 e5.xRight), (138, .pointer (some ⟨g1, 0, none⟩)), (141, .pointer (some ⟨g1, 0, none⟩))]) (by kernel_rfl) (by kernel_rfl) (by kernel_rfl) (Ext.refl _) (by kernel_rfl) (by kernel_rfl) ?_
                                  obtain ⟨t34, hx48, hm⟩ := bind_some hm
                                  refine tt_stp 13 [3, 0, 1, 2, 4, 5] (Ext.refl _) (by kernel_rfl) (by kernel_rfl) (by kernel_rfl) (by kernel_rfl) ?_
                                  refine s_call 139 13 #[.pointer (some ⟨g1, 0, none⟩)] [0, 1, 2] [3, 4, 5] (by kernel_rfl) (by kernel_rfl) (fun w hs => rbuf_Buffer_Next_ok t7.2 t34 hx48 B8 _ g1 g7 A15 c15 A16 c16 (hs9.up hx44) w (St.cast (by kernel_rfl) hs)) (fun _ hx => ?_)
                                  refine t_L (L' := [.blk g1 [.pointer (some ⟨g7, 0, none⟩), .slice A16 t7.2.xbytes.length c16, .int .i64 t7.2.xbegin, .int .i64 t7.2.xn, .int .u32 t7.2.xlast, .bool t7.2.xkept] 50, .blk g7 [.bool t7.2.xBoard.xmade, .int .u32 t7.2.xBoard.xfirst, .slice A15 t7.2.xBoard.xruns.length c15] 76, .own A16 t7.2.xbytes.length c16 (rowOf (encI .u8) t7.2.xbytes) 1 5, .blk g10 [.int .u32 e5.xLeft, .int .u32 e5.xRight] 57, .blk g6 [.int .u16 e1.xAt, .int .u16 e1.xN] 55, .own A7 p3.length c7 (rowOf (encI .u8) p3) 1 5]) (by kernel_rfl) ?_
                                  refine tt_run [14] [0, 1, 7, 9, 15, 36, 37, 38, 120, 121, 122, 135, 140, 141] [3, 0, 1, 2, 4, 5] 9 (listed' := #[true, true, true, true, true, true, true, true, true, true, true, true, true, true, true, true, false, false, false, false, false, false, false, false, false, false, false]) (l := []) .nil (E' := [(0, .int .u32 a0), (1, .slice A1 a1.length c1), (7, .pointer (some ⟨g1, 0, none⟩)), (9, .slice A7 p3.length c7), (15, .pointer (some ⟨g10, 0, none⟩)), (36, .slice A2 a2.length c2), (37, .int .i64 (a2.length : Int)), (38, .int .i64 p1), (120, .slice A22 t30.length c22), (121, .int .i64 (t30.length : Int)), (122, .int .i64 p5), (135, .bool false), (140, .int .u32 (U32 (e5.xRight - t34))), (141, .pointer (some ⟨g1, 0, none⟩))]) (by kernel_rfl) (by kernel_rfl) (by kernel_rfl) (Ext.refl _) (by kernel_rfl) (by kernel_rfl) ?_
                                  obtain ⟨t35, hx49, hm⟩ := bind_some hm
                                  refine tt_stp 16 [3, 0, 1, 2, 4, 5] (Ext.refl _) (by kernel_rfl) (by kernel_rfl) (by kernel_rfl) (by kernel_rfl) ?_
                                  refine s_call 142 18 #[.pointer (some ⟨g1, 0, none⟩)] [0, 1, 2] [3, 4, 5] (by kernel_rfl) (by kernel_rfl) (fun w hs => rbuf_Buffer_Window_ok t7.2 t35 hx49 B8 _ g1 g7 A15 c15 A16 c16 (hs9.up hx44) w (St.cast (by kernel_rfl) hs)) (fun _ hx => ?_)
                                  refine t_L (L' := [.blk g1 [.pointer (some ⟨g7, 0, none⟩), .slice A16 t7.2.xbytes.length c16, .int .i64 t7.2.xbegin, .int .i64 t7.2.xn, .int .u32 t7.2.xlast, .bool t7.2.xkept] 50, .blk g7 [.bool t7.2.xBoard.xmade, .int .u32 t7.2.xBoard.xfirst, .slice A15 t7.2.xBoard.xruns.length c15] 76, .own A16 t7.2.xbytes.length c16 (rowOf (encI .u8) t7.2.xbytes) 1 5, .blk g10 [.int .u32 e5.xLeft, .int .u32 e5.xRight] 57, .blk g6 [.int .u16 e1.xAt, .int .u16 e1.xN] 55, .own A7 p3.length c7 (rowOf (encI .u8) p3) 1 5]) (by kernel_rfl) ?_
                                  refine tt_run [17, 18, 19, 20] [0, 1, 7, 9, 15, 36, 37, 38, 120, 121, 122, 146] [3, 0, 1, 2, 4, 5] 4 (listed' := #[true, true, true, true, true, true, true, true, true, true, true, true, true, true, true, true, true, true, true, true, true, false, false, false, false, false, false]) (l := []) .nil (E' := [(0, .int .u32 a0), (1, .slice A1 a1.length c1), (7, .pointer (some ⟨g1, 0, none⟩)), (9, .slice A7 p3.length c7), (15, .pointer (some ⟨g10, 0, none⟩)), (36, .slice A2 a2.length c2), (37, .int .i64 (a2.length : Int)), (38, .int .i64 p1), (120, .slice A22 t30.length c22), (121, .int .i64 (t30.length : Int)), (122, .int .i64 p5), (146, .bool (decide ((U32 (e5.xRight - t34)) > (U32 t35))))]) (by kernel_rfl) (by kernel_rfl) (by kernel_rfl) (Ext.refl _) (by kernel_rfl) (by kernel_rfl) ?_
                                  refine t_split 146 (decide ((U32 (e5.xRight - t34)) > (U32 t35))) (by kernel_rfl) (fun hb22 => ?_) (fun hb22 => ?_)
                                  · replace hm := ite_t hb22 hm
                                    refine tt_run [21, 22, 23, 24] [0, 1, 7, 9, 36, 37, 38, 120, 121, 122, 146, 148, 150] [3, 0, 1, 2, 4, 5] 0 (listed' := #[true, true, true, true, true, true, true, true, true, true, true, true, true, true, true, true, true, true, true, true, true, true, true, true, true, false, false]) (l := []) .nil (E' := [(0, .int .u32 a0), (1, .slice A1 a1.length c1), (7, .pointer (some ⟨g1, 0, none⟩)), (9, .slice A7 p3.length c7), (36, .slice A2 a2.length c2), (37, .int .i64 (a2.length : Int)), (38, .int .i64 p1), (120, .slice A22 t30.length c22), (121, .int .i64 (t30.length : Int)), (122, .int .i64 p5), (146, .bool true), (148, undef), (150, undef)]) (by kernel_rfl) (by kernel_rfl) (by kernel_rfl) (Ext.refl _) (by kernel_rfl) (by kernel_rfl) ?_
                                    refine tt_end [3, 0, 1, 2, 4, 5] (Ext.refl _) (by kernel_rfl) (by kernel_rfl) (by kernel_rfl) ?_
                                    refine o_run 2 [0, 1, 7, 9, 36, 37, 38, 120, 121, 122, 152] (l := []) .nil (E' := [(0, .int .u32 a0), (1, .slice A1 a1.length c1), (7, .pointer (some ⟨g1, 0, none⟩)), (9, .slice A7 p3.length c7), (36, .slice A2 a2.length c2), (37, .int .i64 (a2.length : Int)), (38, .int .i64 p1), (120, .slice A22 t30.length c22), (121, .int .i64 (t30.length : Int)), (122, .int .i64 p5), (152, .bool true)]) (by kernel_rfl) ?_
                                    refine o_end (by kernel_rfl) ?_
                                    refine e_seq ?_
                                    refine w_cond_t (.tmp 152) 1062010470 1062010471 (by kernel_rfl) (by kernel_rfl) ?_
                                    refine w_seq 2124020940 2124020941 (by kernel_rfl) ?_
                                    refine w_region (by kernel_rfl) ?_
                                    refine o_run 1 [6] (l := []) .nil (E' := [(6, .bool false)]) (by kernel_rfl) ?_
                                    refine o_end (by kernel_rfl) ?_
                                    refine e_seq ?_
                                    refine w_ret (by kernel_rfl) ?_
                                    obtain rfl := Option.some.inj hm
                                    replace hm := brk_inl ho4
                                    obtain rfl := Option.some.inj hm
                                    replace hm := brk_inl ho2
                                    obtain rfl := Option.some.inj hm
                                    exact e_retP B8 (.bool false) [] (by kernel_rfl) (by kernel_rfl) rfl (by kernel_rfl) (by kernel_rfl) (Ext.trans (Ext.trans hx6 hx18) hx44)
                                  · replace hm := ite_f hb22 hm
                                    refine tt_run [21, 22, 23] [0, 1, 7, 9, 36, 37, 38, 120, 121, 122, 146, 148, 149] [3, 0, 1, 2, 4, 5] 1 (listed' := #[true, true, true, true, true, true, true, true, true, true, true, true, true, true, true, true, true, true, true, true, true, true, true, true, false, false, false]) (l := [(⟨g10, 0, none⟩, .int .u32 e5.xLeft)]) (.one (at_blk (j := 0) rfl rfl) .nil) (E' := [(0, .int .u32 a0), (1, .slice A1 a1.length c1), (7, .pointer (some ⟨g1, 0, none⟩)), (9, .slice A7 p3.length c7), (36, .slice A2 a2.length c2), (37, .int .i64 (a2.length : Int)), (38, .int .i64 p1), (120, .slice A22 t30.length c22), (121, .int .i64 (t30.length : Int)), (122, .int .i64 p5), (146, .bool false), (148, .int .u32 e5.xLeft), (149, .pointer (some ⟨g1, 0, none⟩))]) (by kernel_rfl) (by kernel_rfl) (by kernel_rfl) (Ext.refl _) (by kernel_rfl) (by kernel_rfl) ?_
                                    obtain ⟨t36, hx50, hm⟩ := bind_some hm
                                    refine tt_stp 24 [3, 0, 1, 2, 4, 5] (Ext.refl _) (by kernel_rfl) (by kernel_rfl) (by kernel_rfl) (by kernel_rfl) ?_
                                    refine s_call 150 13 #[.pointer (some ⟨g1, 0, none⟩)] [0, 1, 2] [3, 4, 5] (by kernel_rfl) (by kernel_rfl) (fun w hs => rbuf_Buffer_Next_ok t7.2 t36 hx50 B8 _ g1 g7 A15 c15 A16 c16 (hs9.up hx44) w (St.cast (by kernel_rfl) hs)) (fun _ hx => ?_)
                                    refine t_L (L' := [.blk g1 [.pointer (some ⟨g7, 0, none⟩), .slice A16 t7.2.xbytes.length c16, .int .i64 t7.2.xbegin, .int .i64 t7.2.xn, .int .u32 t7.2.xlast, .bool t7.2.xkept] 50, .blk g7 [.bool t7.2.xBoard.xmade, .int .u32 t7.2.xBoard.xfirst, .slice A15 t7.2.xBoard.xruns.length c15] 76, .own A16 t7.2.xbytes.length c16 (rowOf (encI .u8) t7.2.xbytes) 1 5, .blk g10 [.int .u32 e5.xLeft, .int .u32 e5.xRight] 57, .blk g6 [.int .u16 e1.xAt, .int .u16 e1.xN] 55, .own A7 p3.length c7 (rowOf (encI .u8) p3) 1 5]) (by kernel_rfl) ?_
                                    refine tt_end [3, 0, 1, 2, 4, 5] (Ext.refl _) (by kernel_rfl) (by kernel_rfl) (by kernel_rfl) ?_
                                    refine o_run 2 [0, 1, 7, 9, 36, 37, 38, 120, 121, 122, 152] (l := []) .nil (E' := [(0, .int .u32 a0), (1, .slice A1 a1.length c1), (7, .pointer (some ⟨g1, 0, none⟩)), (9, .slice A7 p3.length c7), (36, .slice A2 a2.length c2), (37, .int .i64 (a2.length : Int)), (38, .int .i64 p1), (120, .slice A22 t30.length c22), (121, .int .i64 (t30.length : Int)), (122, .int .i64 p5), (152, .bool (e5.xLeft == t36))]) (by kernel_rfl) ?_
                                    refine o_end (by kernel_rfl) ?_
                                    refine e_seq ?_
                                    refine w_cond (.tmp 152) 1062010470 1062010471 (e5.xLeft == t36) (by kernel_rfl) (by kernel_rfl) (fun hb23 => ?_) (fun hb23 => ?_)
                                    · replace hm := ite_t hb23 hm
                                      refine w_seq 2124020940 2124020941 (by kernel_rfl) ?_
                                      refine w_region (by kernel_rfl) ?_
                                      refine o_run 1 [6] (l := []) .nil (E' := [(6, .bool false)]) (by kernel_rfl) ?_
                                      refine o_end (by kernel_rfl) ?_
                                      refine e_seq ?_
                                      refine w_ret (by kernel_rfl) ?_
                                      obtain rfl := Option.some.inj hm
                                      replace hm := brk_inl ho4
                                      obtain rfl := Option.some.inj hm
                                      replace hm := brk_inl ho2
                                      obtain rfl := Option.some.inj hm
                                      exact e_retP B8 (.bool false) [] (by kernel_rfl) (by kernel_rfl) rfl (by kernel_rfl) (by kernel_rfl) (Ext.trans (Ext.trans hx6 hx18) hx44)
                                    · replace hm := ite_f hb23 hm
                                      refine w_skip (by kernel_rfl) ?_
                                      refine e_blk ?_
                                      refine e_seq ?_
                                      refine w_region (by kernel_rfl) ?_
                                      refine o_run 2 [0, 1, 7, 9, 36, 37, 38, 120, 121, 122] (l := []) .nil (E' := [(0, .int .u32 a0), (1, .slice A1 a1.length c1), (7, .pointer (some ⟨g1, 0, none⟩)), (9, .slice A7 p3.length c7), (36, .slice A2 a2.length c2), (37, .int .i64 (a2.length : Int)), (38, .int .i64 p1), (120, .slice A22 t30.length c22), (121, .int .i64 (t30.length : Int)), (122, .int .i64 (I64 (p5 + 1)))]) (by kernel_rfl) ?_
                                      refine o_end (by kernel_rfl) ?_
                                      refine t_drop [0, 1, 2, 4, 5] (by kernel_rfl) ?_
                                      refine t_L (L' := [.blk g1 [.pointer (some ⟨g7, 0, none⟩), .slice A16 t7.2.xbytes.length c16, .int .i64 t7.2.xbegin, .int .i64 t7.2.xn, .int .u32 t7.2.xlast, .bool t7.2.xkept] 50, .blk g7 [.bool t7.2.xBoard.xmade, .int .u32 t7.2.xBoard.xfirst, .slice A15 t7.2.xBoard.xruns.length c15] 76, .own A16 t7.2.xbytes.length c16 (rowOf (encI .u8) t7.2.xbytes) 1 5, .blk g6 [.int .u16 e1.xAt, .int .u16 e1.xN] 55, .own A7 p3.length c7 (rowOf (encI .u8) p3) 1 5]) (by kernel_rfl) ?_
                                      refine t_env [0, 1, 7, 9, 36, 37, 38, 120, 121, 122] (E' := [(0, .int .u32 a0), (1, .slice A1 a1.length c1), (7, .pointer (some ⟨g1, 0, none⟩)), (9, .slice A7 p3.length c7), (36, .slice A2 a2.length c2), (37, .int .i64 (a2.length : Int)), (38, .int .i64 p1), (120, .slice A22 t30.length c22), (121, .int .i64 (t30.length : Int)), (122, .int .i64 (I64 (p5 + 1)))]) (by kernel_rfl) ?_
                                      exact e_inv (fun a w ha hw => ⟨k, Nat.lt_succ_self k, (I64 (p5 + 1)), hm, ha, hw⟩)
                              · replace hm := ite_f hb20 hm
                                refine w_exit 2 (by kernel_rfl) ?_
                                refine e_x_seq ?_
                                refine e_x_inv ?_
                                refine e_x_here ?_
                                refine t_drop [0, 1, 2, 3, 4] (by kernel_rfl) ?_
                                refine t_L (L' := [.blk g1 [.pointer (some ⟨g7, 0, none⟩), .slice A16 t7.2.xbytes.length c16, .int .i64 t7.2.xbegin, .int .i64 t7.2.xn, .int .u32 t7.2.xlast, .bool t7.2.xkept] 50, .blk g7 [.bool t7.2.xBoard.xmade, .int .u32 t7.2.xBoard.xfirst, .slice A15 t7.2.xBoard.xruns.length c15] 76, .own A16 t7.2.xbytes.length c16 (rowOf (encI .u8) t7.2.xbytes) 1 5, .blk g6 [.int .u16 e1.xAt, .int .u16 e1.xN] 55, .own A7 p3.length c7 (rowOf (encI .u8) p3) 1 5]) (by kernel_rfl) ?_
                                refine t_env [0, 1, 7, 9, 36, 37, 38] (E' := [(0, .int .u32 a0), (1, .slice A1 a1.length c1), (7, .pointer (some ⟨g1, 0, none⟩)), (9, .slice A7 p3.length c7), (36, .slice A2 a2.length c2), (37, .int .i64 (a2.length : Int)), (38, .int .i64 p1)]) (by kernel_rfl) ?_
                                obtain rfl := Option.some.inj hm
                                exact e_inv (fun a w ha hw => ⟨(), rfl, ha, hw⟩)
                          · exact fun a w ha hw => ⟨0, ht3, ha, hw⟩
              · replace hm := ite_f hb6 hm
                refine w_exit 0 (by kernel_rfl) ?_
                refine e_x_seq ?_
                refine e_x_inv ?_
                refine e_x_here ?_
                refine t_drop [0, 1, 2, 3] (by kernel_rfl) ?_
                refine t_L (L' := [.own A7 p3.length c7 (rowOf (encI .u8) p3) 1 5, .blk g1 [.pointer (some ⟨g3, 0, none⟩), .slice A6 p2.xbytes.length c6, .int .i64 p2.xbegin, .int .i64 p2.xn, .int .u32 p2.xlast, .bool p2.xkept] 50, .blk g3 [.bool p2.xBoard.xmade, .int .u32 p2.xBoard.xfirst, .slice A5 p2.xBoard.xruns.length c5] 76, .own A6 p2.xbytes.length c6 (rowOf (encI .u8) p2.xbytes) 1 5]) (by kernel_rfl) ?_
                refine t_env [1, 7, 9] (E' := [(1, .slice A1 a1.length c1), (7, .pointer (some ⟨g1, 0, none⟩)), (9, .slice A7 p3.length c7)]) (by kernel_rfl) ?_
                obtain rfl := Option.some.inj hm
                exact e_inv (fun a w ha hw => ⟨(p3, p2), B3, A7, c7, g3, A5, c5, A6, c6, rfl, hx6, hs4, ha, hw⟩)
          · exact fun a w ha hw => ⟨0, y1, ([] : List Int), B, g2, A3, c3, A4, c4, none, 0, ht1, Ext.refl _, hs3, ha, hw⟩
end Go.V
