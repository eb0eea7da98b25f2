/- Printed by a program of this work: Go functions as Lean functions, and that the machine comes to the same. -/
import Derived.Test.YtafghfchflngiaaMx5
set_option maxRecDepth 100000
set_option linter.unusedVariables false
namespace Go.V
open Go Go.Proofs
def seg_Same.f (k : Nat) (a0 : TS_o) (a1 : TS) : Option (Bool) :=
  (if a0.sr == a1.sr then (if a0.ds == a1.ds then (if a0.sq == a1.sq then (if a0.ak == a1.ak then (if a0.fl == a1.fl then (if a0.wi == a1.wi then (if a0.ur == a1.ur then ((opts_Same.f k a0.o a1.o).bind fun t1 => (if t1 then ((bytes_Equal.f ([] : List Int) a1.da).bind fun t2 => (some t2)) else (some false))) else (some false)) else (some false)) else (some false)) else (some false)) else (some false)) else (some false)) else (some false))
theorem seg_Same_ok (k : Nat) (a0 : TS_o) (a1 : TS) (r : Bool) (hm : seg_Same.f k a0 a1 = some r) (B G : Asn) (A1 : Option Addr) (c1 : Nat) (A2 : Option Addr) (c2 : Nat) (w : World) (hs : St B G [.own A1 a1.o.sk.length c1 (rowOf encTB a1.o.sk) 2 84, .own A2 a1.da.length c2 (rowOf e8 a1.da) 1 5] w) :
    Calls Try.prog 17 #[.agg #[v16 a0.sr, v16 a0.ds, v32 a0.sq, v32 a0.ak, v8 a0.fl, v16 a0.wi, v16 a0.ur, vb a0.o.hM, v16 a0.o.ms, vb a0.o.hS, v8 a0.o.sc, vb a0.o.sO, .slice none 0 0, vb a0.o.hT, v32 a0.o.va, v32 a0.o.ec, vb a0.o.hO, v8 a0.o.ki, v8 a0.o.ni, v8 a0.o.m.x0, v8 a0.o.m.x1, v8 a0.o.m.x2, v8 a0.o.m.x3, v8 a0.o.m.x4, v8 a0.o.m.x5, v8 a0.o.m.x6, v8 a0.o.m.x7, v8 a0.o.m.x8, v8 a0.o.m.x9, v8 a0.o.m.x10, v8 a0.o.m.x11, .slice none 0 0], .agg #[v16 a1.sr, v16 a1.ds, v32 a1.sq, v32 a1.ak, v8 a1.fl, v16 a1.wi, v16 a1.ur, vb a1.o.hM, v16 a1.o.ms, vb a1.o.hS, v8 a1.o.sc, vb a1.o.sO, .slice A1 a1.o.sk.length c1, vb a1.o.hT, v32 a1.o.va, v32 a1.o.ec, vb a1.o.hO, v8 a1.o.ki, v8 a1.o.ni, v8 a1.o.m.x0, v8 a1.o.m.x1, v8 a1.o.m.x2, v8 a1.o.m.x3, v8 a1.o.m.x4, v8 a1.o.m.x5, v8 a1.o.m.x6, v8 a1.o.m.x7, v8 a1.o.m.x8, v8 a1.o.m.x9, v8 a1.o.m.x10, v8 a1.o.m.x11, .slice A2 a1.da.length c2]] w (Post (X := Unit) (fun x => vb r) (fun x => B) G (fun x => [.own A1 a1.o.sk.length c1 (rowOf encTB a1.o.sk) 2 84, .own A2 a1.da.length c2 (rowOf e8 a1.da) 1 5]) (fun x => True)) := by
  unfold seg_Same.f at hm
  refine calls_W (F := Try.f17) Try.func17 rfl (by kernel_rfl) (L := [.own A1 a1.o.sk.length c1 (rowOf encTB a1.o.sk) 2 84, .own A2 a1.da.length c2 (rowOf e8 a1.da) 1 5]) ?_ hs
  refine w_seq 2 3 (by kernel_rfl) ?_
  refine w_region (by kernel_rfl) ?_
  refine o_stp ?_ (by kernel_rfl)
  refine s_new 2 (fun g1 => (pg g1)) [v16 a0.sr, v16 a0.ds, v32 a0.sq, v32 a0.ak, v8 a0.fl, v16 a0.wi, v16 a0.ur, vb a0.o.hM, v16 a0.o.ms, vb a0.o.hS, v8 a0.o.sc, vb a0.o.sO, .slice none 0 0, vb a0.o.hT, v32 a0.o.va, v32 a0.o.ec, vb a0.o.hO, v8 a0.o.ki, v8 a0.o.ni, v8 a0.o.m.x0, v8 a0.o.m.x1, v8 a0.o.m.x2, v8 a0.o.m.x3, v8 a0.o.m.x4, v8 a0.o.m.x5, v8 a0.o.m.x6, v8 a0.o.m.x7, v8 a0.o.m.x8, v8 a0.o.m.x9, v8 a0.o.m.x10, v8 a0.o.m.x11, .slice none 0 0] 34 (fun _ => by kernel_rfl) (fun g1 => ?_)
  refine o_stp ?_ (by kernel_rfl)
  refine s_new 3 (fun g2 => (pg g2)) [v16 a1.sr, v16 a1.ds, v32 a1.sq, v32 a1.ak, v8 a1.fl, v16 a1.wi, v16 a1.ur, vb a1.o.hM, v16 a1.o.ms, vb a1.o.hS, v8 a1.o.sc, vb a1.o.sO, .slice A1 a1.o.sk.length c1, vb a1.o.hT, v32 a1.o.va, v32 a1.o.ec, vb a1.o.hO, v8 a1.o.ki, v8 a1.o.ni, v8 a1.o.m.x0, v8 a1.o.m.x1, v8 a1.o.m.x2, v8 a1.o.m.x3, v8 a1.o.m.x4, v8 a1.o.m.x5, v8 a1.o.m.x6, v8 a1.o.m.x7, v8 a1.o.m.x8, v8 a1.o.m.x9, v8 a1.o.m.x10, v8 a1.o.m.x11, .slice A2 a1.da.length c2] 34 (fun _ => by kernel_rfl) (fun g2 => ?_)
  refine o_run 1 [2, 3] (l := []) .nil (E' := [(2, (pg g1)), (3, (pg g2))]) (by kernel_rfl) ?_
  refine o_end (by kernel_rfl) ?_
  refine e_seq ?_
  refine w_seq 6 7 (by kernel_rfl) ?_
  refine w_region (by kernel_rfl) ?_
  refine o_run 6 [2, 3, 10] (l := [(⟨g1, 0, none⟩, v16 a0.sr), (⟨g2, 0, none⟩, v16 a1.sr)]) (.one (at_blk (j := 1) rfl rfl) (.one (at_blk (j := 0) rfl rfl) .nil)) (E' := [(2, (pg g1)), (3, (pg g2)), (10, vb (a0.sr == a1.sr))]) (by kernel_rfl) ?_
  refine o_split 10 (a0.sr == a1.sr) (by kernel_rfl) (fun hb1 => ?_) (fun hb1 => ?_)
  · replace hm := ite_t hb1 hm
    refine o_run 7 [2, 3, 17] (l := [(⟨g1, 1, none⟩, v16 a0.ds), (⟨g2, 1, none⟩, v16 a1.ds)]) (.one (at_blk (j := 1) rfl rfl) (.one (at_blk (j := 0) rfl rfl) .nil)) (E' := [(2, (pg g1)), (3, (pg g2)), (17, vb (a0.ds == a1.ds))]) (by kernel_rfl) ?_
    refine o_split 17 (a0.ds == a1.ds) (by kernel_rfl) (fun hb2 => ?_) (fun hb2 => ?_)
    · replace hm := ite_t hb2 hm
      refine o_run 7 [2, 3, 24] (l := [(⟨g1, 2, none⟩, v32 a0.sq), (⟨g2, 2, none⟩, v32 a1.sq)]) (.one (at_blk (j := 1) rfl rfl) (.one (at_blk (j := 0) rfl rfl) .nil)) (E' := [(2, (pg g1)), (3, (pg g2)), (24, vb (a0.sq == a1.sq))]) (by kernel_rfl) ?_
      refine o_split 24 (a0.sq == a1.sq) (by kernel_rfl) (fun hb3 => ?_) (fun hb3 => ?_)
      · replace hm := ite_t hb3 hm
        refine o_run 7 [2, 3, 31] (l := [(⟨g1, 3, none⟩, v32 a0.ak), (⟨g2, 3, none⟩, v32 a1.ak)]) (.one (at_blk (j := 1) rfl rfl) (.one (at_blk (j := 0) rfl rfl) .nil)) (E' := [(2, (pg g1)), (3, (pg g2)), (31, vb (a0.ak == a1.ak))]) (by kernel_rfl) ?_
        refine o_split 31 (a0.ak == a1.ak) (by kernel_rfl) (fun hb4 => ?_) (fun hb4 => ?_)
        · replace hm := ite_t hb4 hm
          refine o_run 7 [2, 3, 38] (l := [(⟨g1, 4, none⟩, v8 a0.fl), (⟨g2, 4, none⟩, v8 a1.fl)]) (.one (at_blk (j := 1) rfl rfl) (.one (at_blk (j := 0) rfl rfl) .nil)) (E' := [(2, (pg g1)), (3, (pg g2)), (38, vb (a0.fl == a1.fl))]) (by kernel_rfl) ?_
          refine o_split 38 (a0.fl == a1.fl) (by kernel_rfl) (fun hb5 => ?_) (fun hb5 => ?_)
          · replace hm := ite_t hb5 hm
            refine o_run 7 [2, 3, 45] (l := [(⟨g1, 5, none⟩, v16 a0.wi), (⟨g2, 5, none⟩, v16 a1.wi)]) (.one (at_blk (j := 1) rfl rfl) (.one (at_blk (j := 0) rfl rfl) .nil)) (E' := [(2, (pg g1)), (3, (pg g2)), (45, vb (a0.wi == a1.wi))]) (by kernel_rfl) ?_
            refine o_split 45 (a0.wi == a1.wi) (by kernel_rfl) (fun hb6 => ?_) (fun hb6 => ?_)
            · replace hm := ite_t hb6 hm
              refine o_run 7 [2, 3, 52] (l := [(⟨g1, 6, none⟩, v16 a0.ur), (⟨g2, 6, none⟩, v16 a1.ur)]) (.one (at_blk (j := 1) rfl rfl) (.one (at_blk (j := 0) rfl rfl) .nil)) (E' := [(2, (pg g1)), (3, (pg g2)), (52, vb (a0.ur == a1.ur))]) (by kernel_rfl) ?_
              refine o_split 52 (a0.ur == a1.ur) (by kernel_rfl) (fun hb7 => ?_) (fun hb7 => ?_)
              · replace hm := ite_t hb7 hm
                refine o_run 1 [2, 3, 52, 53] (l := []) .nil (E' := [(2, (pg g1)), (3, (pg g2)), (52, vb true), (53, .pointer (some ⟨g1, 7, none⟩))]) (by kernel_rfl) ?_
                refine o_val 54 (.load 31 (.tmp 53)) (.agg #[vb a0.o.hM, v16 a0.o.ms, vb a0.o.hS, v8 a0.o.sc, vb a0.o.sO, .slice none 0 0, vb a0.o.hT, v32 a0.o.va, v32 a0.o.ec, vb a0.o.hO, v8 a0.o.ki, v8 a0.o.ni, v8 a0.o.m.x0, v8 a0.o.m.x1, v8 a0.o.m.x2, v8 a0.o.m.x3, v8 a0.o.m.x4, v8 a0.o.m.x5, v8 a0.o.m.x6, v8 a0.o.m.x7, v8 a0.o.m.x8, v8 a0.o.m.x9, v8 a0.o.m.x10, v8 a0.o.m.x11]) (by kernel_rfl) (v_load (l := [vb a0.o.hM, v16 a0.o.ms, vb a0.o.hS, v8 a0.o.sc, vb a0.o.sO, .slice none 0 0, vb a0.o.hT, v32 a0.o.va, v32 a0.o.ec, vb a0.o.hO, v8 a0.o.ki, v8 a0.o.ni, v8 a0.o.m.x0, v8 a0.o.m.x1, v8 a0.o.m.x2, v8 a0.o.m.x3, v8 a0.o.m.x4, v8 a0.o.m.x5, v8 a0.o.m.x6, v8 a0.o.m.x7, v8 a0.o.m.x8, v8 a0.o.m.x9, v8 a0.o.m.x10, v8 a0.o.m.x11]) (a := ⟨g1, 7, none⟩) (by kernel_rfl) (by kernel_rfl) (at_blk (j := 1) rfl rfl)) ?_
                refine o_run 1 [2, 3, 52, 54, 55] (l := []) .nil (E' := [(2, (pg g1)), (3, (pg g2)), (52, vb true), (54, .agg #[vb a0.o.hM, v16 a0.o.ms, vb a0.o.hS, v8 a0.o.sc, vb a0.o.sO, .slice none 0 0, vb a0.o.hT, v32 a0.o.va, v32 a0.o.ec, vb a0.o.hO, v8 a0.o.ki, v8 a0.o.ni, v8 a0.o.m.x0, v8 a0.o.m.x1, v8 a0.o.m.x2, v8 a0.o.m.x3, v8 a0.o.m.x4, v8 a0.o.m.x5, v8 a0.o.m.x6, v8 a0.o.m.x7, v8 a0.o.m.x8, v8 a0.o.m.x9, v8 a0.o.m.x10, v8 a0.o.m.x11]), (55, .pointer (some ⟨g2, 7, none⟩))]) (by kernel_rfl) ?_
                refine o_val 56 (.load 31 (.tmp 55)) (.agg #[vb a1.o.hM, v16 a1.o.ms, vb a1.o.hS, v8 a1.o.sc, vb a1.o.sO, .slice A1 a1.o.sk.length c1, vb a1.o.hT, v32 a1.o.va, v32 a1.o.ec, vb a1.o.hO, v8 a1.o.ki, v8 a1.o.ni, v8 a1.o.m.x0, v8 a1.o.m.x1, v8 a1.o.m.x2, v8 a1.o.m.x3, v8 a1.o.m.x4, v8 a1.o.m.x5, v8 a1.o.m.x6, v8 a1.o.m.x7, v8 a1.o.m.x8, v8 a1.o.m.x9, v8 a1.o.m.x10, v8 a1.o.m.x11]) (by kernel_rfl) (v_load (l := [vb a1.o.hM, v16 a1.o.ms, vb a1.o.hS, v8 a1.o.sc, vb a1.o.sO, .slice A1 a1.o.sk.length c1, vb a1.o.hT, v32 a1.o.va, v32 a1.o.ec, vb a1.o.hO, v8 a1.o.ki, v8 a1.o.ni, v8 a1.o.m.x0, v8 a1.o.m.x1, v8 a1.o.m.x2, v8 a1.o.m.x3, v8 a1.o.m.x4, v8 a1.o.m.x5, v8 a1.o.m.x6, v8 a1.o.m.x7, v8 a1.o.m.x8, v8 a1.o.m.x9, v8 a1.o.m.x10, v8 a1.o.m.x11]) (a := ⟨g2, 7, none⟩) (by kernel_rfl) (by kernel_rfl) (at_blk (j := 0) rfl rfl)) ?_
                obtain ⟨t1, hx1, hm⟩ := bind_some hm
                refine o_stp ?_ (by kernel_rfl)
                refine s_call 57 36 #[.agg #[vb a0.o.hM, v16 a0.o.ms, vb a0.o.hS, v8 a0.o.sc, vb a0.o.sO, .slice none 0 0, vb a0.o.hT, v32 a0.o.va, v32 a0.o.ec, vb a0.o.hO, v8 a0.o.ki, v8 a0.o.ni, v8 a0.o.m.x0, v8 a0.o.m.x1, v8 a0.o.m.x2, v8 a0.o.m.x3, v8 a0.o.m.x4, v8 a0.o.m.x5, v8 a0.o.m.x6, v8 a0.o.m.x7, v8 a0.o.m.x8, v8 a0.o.m.x9, v8 a0.o.m.x10, v8 a0.o.m.x11], .agg #[vb a1.o.hM, v16 a1.o.ms, vb a1.o.hS, v8 a1.o.sc, vb a1.o.sO, .slice A1 a1.o.sk.length c1, vb a1.o.hT, v32 a1.o.va, v32 a1.o.ec, vb a1.o.hO, v8 a1.o.ki, v8 a1.o.ni, v8 a1.o.m.x0, v8 a1.o.m.x1, v8 a1.o.m.x2, v8 a1.o.m.x3, v8 a1.o.m.x4, v8 a1.o.m.x5, v8 a1.o.m.x6, v8 a1.o.m.x7, v8 a1.o.m.x8, v8 a1.o.m.x9, v8 a1.o.m.x10, v8 a1.o.m.x11]] [2] [0, 1, 3] (by kernel_rfl) (by kernel_rfl) (fun w hs => opts_Same_ok k a0.o a1.o t1 hx1 B _ A1 c1 w (St.cast (by kernel_rfl) hs)) (fun _ hx => ?_)
                refine t_L (L' := [.own A1 a1.o.sk.length c1 (rowOf encTB a1.o.sk) 2 84, .blk g2 [v16 a1.sr, v16 a1.ds, v32 a1.sq, v32 a1.ak, v8 a1.fl, v16 a1.wi, v16 a1.ur, vb a1.o.hM, v16 a1.o.ms, vb a1.o.hS, v8 a1.o.sc, vb a1.o.sO, .slice A1 a1.o.sk.length c1, vb a1.o.hT, v32 a1.o.va, v32 a1.o.ec, vb a1.o.hO, v8 a1.o.ki, v8 a1.o.ni, v8 a1.o.m.x0, v8 a1.o.m.x1, v8 a1.o.m.x2, v8 a1.o.m.x3, v8 a1.o.m.x4, v8 a1.o.m.x5, v8 a1.o.m.x6, v8 a1.o.m.x7, v8 a1.o.m.x8, v8 a1.o.m.x9, v8 a1.o.m.x10, v8 a1.o.m.x11, .slice A2 a1.da.length c2] 34, .blk g1 [v16 a0.sr, v16 a0.ds, v32 a0.sq, v32 a0.ak, v8 a0.fl, v16 a0.wi, v16 a0.ur, vb a0.o.hM, v16 a0.o.ms, vb a0.o.hS, v8 a0.o.sc, vb a0.o.sO, .slice none 0 0, vb a0.o.hT, v32 a0.o.va, v32 a0.o.ec, vb a0.o.hO, v8 a0.o.ki, v8 a0.o.ni, v8 a0.o.m.x0, v8 a0.o.m.x1, v8 a0.o.m.x2, v8 a0.o.m.x3, v8 a0.o.m.x4, v8 a0.o.m.x5, v8 a0.o.m.x6, v8 a0.o.m.x7, v8 a0.o.m.x8, v8 a0.o.m.x9, v8 a0.o.m.x10, v8 a0.o.m.x11, .slice none 0 0] 34, .own A2 a1.da.length c2 (rowOf e8 a1.da) 1 5]) (by kernel_rfl) ?_
                refine o_run 2 [2, 3, 59] (l := []) .nil (E' := [(2, (pg g1)), (3, (pg g2)), (59, vb t1)]) (by kernel_rfl) ?_
                refine o_split 59 t1 (by kernel_rfl) (fun hb8 => ?_) (fun hb8 => ?_)
                · replace hm := ite_t hb8 hm
                  refine o_run 4 [59, 61, 63] (l := [(⟨g1, 31, none⟩, .slice none 0 0), (⟨g2, 31, none⟩, .slice A2 a1.da.length c2)]) (.one (at_blk (j := 2) rfl rfl) (.one (at_blk (j := 1) rfl rfl) .nil)) (E' := [(59, vb true), (61, .slice none 0 0), (63, .slice A2 a1.da.length c2)]) (by kernel_rfl) ?_
                  refine t_drop [3, 0, 1, 2] (by kernel_rfl) ?_
                  refine t_L (L' := [.own A2 a1.da.length c2 (rowOf e8 a1.da) 1 5, .own A1 a1.o.sk.length c1 (rowOf encTB a1.o.sk) 2 84, .blk g2 [v16 a1.sr, v16 a1.ds, v32 a1.sq, v32 a1.ak, v8 a1.fl, v16 a1.wi, v16 a1.ur, vb a1.o.hM, v16 a1.o.ms, vb a1.o.hS, v8 a1.o.sc, vb a1.o.sO, .slice A1 a1.o.sk.length c1, vb a1.o.hT, v32 a1.o.va, v32 a1.o.ec, vb a1.o.hO, v8 a1.o.ki, v8 a1.o.ni, v8 a1.o.m.x0, v8 a1.o.m.x1, v8 a1.o.m.x2, v8 a1.o.m.x3, v8 a1.o.m.x4, v8 a1.o.m.x5, v8 a1.o.m.x6, v8 a1.o.m.x7, v8 a1.o.m.x8, v8 a1.o.m.x9, v8 a1.o.m.x10, v8 a1.o.m.x11, .slice A2 a1.da.length c2] 34, .blk g1 [v16 a0.sr, v16 a0.ds, v32 a0.sq, v32 a0.ak, v8 a0.fl, v16 a0.wi, v16 a0.ur, vb a0.o.hM, v16 a0.o.ms, vb a0.o.hS, v8 a0.o.sc, vb a0.o.sO, .slice none 0 0, vb a0.o.hT, v32 a0.o.va, v32 a0.o.ec, vb a0.o.hO, v8 a0.o.ki, v8 a0.o.ni, v8 a0.o.m.x0, v8 a0.o.m.x1, v8 a0.o.m.x2, v8 a0.o.m.x3, v8 a0.o.m.x4, v8 a0.o.m.x5, v8 a0.o.m.x6, v8 a0.o.m.x7, v8 a0.o.m.x8, v8 a0.o.m.x9, v8 a0.o.m.x10, v8 a0.o.m.x11, .slice none 0 0] 34]) (by kernel_rfl) ?_
                  refine t_lendS (kI .u8) rfl rfl (fun B1 hx2 hs1 hb9 => ?_)
                  obtain ⟨t2, hx3, hm⟩ := bind_some hm
                  refine o_stp ?_ (by kernel_rfl)
                  refine s_call 64 37 #[.slice none ([] : List Int).length 0, .slice A2 a1.da.length c2] [] [0, 1, 2] (by kernel_rfl) (by kernel_rfl) (fun w hs => bytes_Equal_ok ([] : List Int) a1.da t2 hx3 B1 _ none 0 A2 c2 ((Sl.nil (kI .u8) B none 0).up hx2) hs1 w (St.cast (by kernel_rfl) hs)) (fun _ hx => ?_)
                  refine t_L (L' := [.own A1 a1.o.sk.length c1 (rowOf encTB a1.o.sk) 2 84, .blk g2 [v16 a1.sr, v16 a1.ds, v32 a1.sq, v32 a1.ak, v8 a1.fl, v16 a1.wi, v16 a1.ur, vb a1.o.hM, v16 a1.o.ms, vb a1.o.hS, v8 a1.o.sc, vb a1.o.sO, .slice A1 a1.o.sk.length c1, vb a1.o.hT, v32 a1.o.va, v32 a1.o.ec, vb a1.o.hO, v8 a1.o.ki, v8 a1.o.ni, v8 a1.o.m.x0, v8 a1.o.m.x1, v8 a1.o.m.x2, v8 a1.o.m.x3, v8 a1.o.m.x4, v8 a1.o.m.x5, v8 a1.o.m.x6, v8 a1.o.m.x7, v8 a1.o.m.x8, v8 a1.o.m.x9, v8 a1.o.m.x10, v8 a1.o.m.x11, .slice A2 a1.da.length c2] 34, .blk g1 [v16 a0.sr, v16 a0.ds, v32 a0.sq, v32 a0.ak, v8 a0.fl, v16 a0.wi, v16 a0.ur, vb a0.o.hM, v16 a0.o.ms, vb a0.o.hS, v8 a0.o.sc, vb a0.o.sO, .slice none 0 0, vb a0.o.hT, v32 a0.o.va, v32 a0.o.ec, vb a0.o.hO, v8 a0.o.ki, v8 a0.o.ni, v8 a0.o.m.x0, v8 a0.o.m.x1, v8 a0.o.m.x2, v8 a0.o.m.x3, v8 a0.o.m.x4, v8 a0.o.m.x5, v8 a0.o.m.x6, v8 a0.o.m.x7, v8 a0.o.m.x8, v8 a0.o.m.x9, v8 a0.o.m.x10, v8 a0.o.m.x11, .slice none 0 0] 34]) (by kernel_rfl) ?_
                  refine t_back hb9 (Ext.refl _) ?_
                  refine o_run 2 [4] (l := []) .nil (E' := [(4, vb t2)]) (by kernel_rfl) ?_
                  refine o_end (by kernel_rfl) ?_
                  refine e_seq ?_
                  refine w_ret (by kernel_rfl) ?_
                  obtain rfl := Option.some.inj hm
                  exact e_retP () (vb t2) [1, 0] (by kernel_rfl) (by kernel_rfl) rfl (by kernel_rfl) (by kernel_rfl) trivial
                · replace hm := ite_f hb8 hm
                  refine o_run 7 [4] (l := []) .nil (E' := [(4, vb false)]) (by kernel_rfl) ?_
                  refine o_end (by kernel_rfl) ?_
                  refine e_seq ?_
                  refine w_ret (by kernel_rfl) ?_
                  obtain rfl := Option.some.inj hm
                  exact e_retP () (vb false) [0, 3] (by kernel_rfl) (by kernel_rfl) rfl (by kernel_rfl) (by kernel_rfl) trivial
              · replace hm := ite_f hb7 hm
                refine o_run 14 [4] (l := []) .nil (E' := [(4, vb false)]) (by kernel_rfl) ?_
                refine o_end (by kernel_rfl) ?_
                refine e_seq ?_
                refine w_ret (by kernel_rfl) ?_
                obtain rfl := Option.some.inj hm
                exact e_retP () (vb false) [2, 3] (by kernel_rfl) (by kernel_rfl) rfl (by kernel_rfl) (by kernel_rfl) trivial
            · replace hm := ite_f hb6 hm
              refine o_run 21 [4] (l := []) .nil (E' := [(4, vb false)]) (by kernel_rfl) ?_
              refine o_end (by kernel_rfl) ?_
              refine e_seq ?_
              refine w_ret (by kernel_rfl) ?_
              obtain rfl := Option.some.inj hm
              exact e_retP () (vb false) [2, 3] (by kernel_rfl) (by kernel_rfl) rfl (by kernel_rfl) (by kernel_rfl) trivial
          · replace hm := ite_f hb5 hm
            refine o_run 28 [4] (l := []) .nil (E' := [(4, vb false)]) (by kernel_rfl) ?_
            refine o_end (by kernel_rfl) ?_
            refine e_seq ?_
            refine w_ret (by kernel_rfl) ?_
            obtain rfl := Option.some.inj hm
            exact e_retP () (vb false) [2, 3] (by kernel_rfl) (by kernel_rfl) rfl (by kernel_rfl) (by kernel_rfl) trivial
        · replace hm := ite_f hb4 hm
          refine o_run 35 [4] (l := []) .nil (E' := [(4, vb false)]) (by kernel_rfl) ?_
          refine o_end (by kernel_rfl) ?_
          refine e_seq ?_
          refine w_ret (by kernel_rfl) ?_
          obtain rfl := Option.some.inj hm
          exact e_retP () (vb false) [2, 3] (by kernel_rfl) (by kernel_rfl) rfl (by kernel_rfl) (by kernel_rfl) trivial
      · replace hm := ite_f hb3 hm
        refine o_run 42 [4] (l := []) .nil (E' := [(4, vb false)]) (by kernel_rfl) ?_
        refine o_end (by kernel_rfl) ?_
        refine e_seq ?_
        refine w_ret (by kernel_rfl) ?_
        obtain rfl := Option.some.inj hm
        exact e_retP () (vb false) [2, 3] (by kernel_rfl) (by kernel_rfl) rfl (by kernel_rfl) (by kernel_rfl) trivial
    · replace hm := ite_f hb2 hm
      refine o_run 49 [4] (l := []) .nil (E' := [(4, vb false)]) (by kernel_rfl) ?_
      refine o_end (by kernel_rfl) ?_
      refine e_seq ?_
      refine w_ret (by kernel_rfl) ?_
      obtain rfl := Option.some.inj hm
      exact e_retP () (vb false) [2, 3] (by kernel_rfl) (by kernel_rfl) rfl (by kernel_rfl) (by kernel_rfl) trivial
  · replace hm := ite_f hb1 hm
    refine o_run 56 [4] (l := []) .nil (E' := [(4, vb false)]) (by kernel_rfl) ?_
    refine o_end (by kernel_rfl) ?_
    refine e_seq ?_
    refine w_ret (by kernel_rfl) ?_
    obtain rfl := Option.some.inj hm
    exact e_retP () (vb false) [2, 3] (by kernel_rfl) (by kernel_rfl) rfl (by kernel_rfl) (by kernel_rfl) trivial
def seg_Len_2.f (a0 : TS_o) : Option (Int) :=
  (some (U32 ((U32 ((U32 0) + (U32 (band .u8 a0.fl 1)))) + (bshr .u32 (U32 (band .u8 a0.fl 2)) 1))))
theorem seg_Len_2_ok (a0 : TS_o) (r : Int) (hm : seg_Len_2.f a0 = some r) (B G : Asn) (w : World) (hs : St B G [] w) :
    Calls Try.prog 15 #[.agg #[v16 a0.sr, v16 a0.ds, v32 a0.sq, v32 a0.ak, v8 a0.fl, v16 a0.wi, v16 a0.ur, vb a0.o.hM, v16 a0.o.ms, vb a0.o.hS, v8 a0.o.sc, vb a0.o.sO, .slice none 0 0, vb a0.o.hT, v32 a0.o.va, v32 a0.o.ec, vb a0.o.hO, v8 a0.o.ki, v8 a0.o.ni, v8 a0.o.m.x0, v8 a0.o.m.x1, v8 a0.o.m.x2, v8 a0.o.m.x3, v8 a0.o.m.x4, v8 a0.o.m.x5, v8 a0.o.m.x6, v8 a0.o.m.x7, v8 a0.o.m.x8, v8 a0.o.m.x9, v8 a0.o.m.x10, v8 a0.o.m.x11, .slice none 0 0]] w (Post (X := Unit) (fun x => v32 r) (fun x => B) G (fun x => []) (fun x => True)) := by
  unfold seg_Len_2.f at hm
  refine calls_W (F := Try.f15) Try.func15 rfl (by kernel_rfl) (L := []) ?_ hs
  refine w_seq 2 3 (by kernel_rfl) ?_
  refine w_region (by kernel_rfl) ?_
  refine o_stp ?_ (by kernel_rfl)
  refine s_new 1 (fun g1 => (pg g1)) [v16 a0.sr, v16 a0.ds, v32 a0.sq, v32 a0.ak, v8 a0.fl, v16 a0.wi, v16 a0.ur, vb a0.o.hM, v16 a0.o.ms, vb a0.o.hS, v8 a0.o.sc, vb a0.o.sO, .slice none 0 0, vb a0.o.hT, v32 a0.o.va, v32 a0.o.ec, vb a0.o.hO, v8 a0.o.ki, v8 a0.o.ni, v8 a0.o.m.x0, v8 a0.o.m.x1, v8 a0.o.m.x2, v8 a0.o.m.x3, v8 a0.o.m.x4, v8 a0.o.m.x5, v8 a0.o.m.x6, v8 a0.o.m.x7, v8 a0.o.m.x8, v8 a0.o.m.x9, v8 a0.o.m.x10, v8 a0.o.m.x11, .slice none 0 0] 34 (fun _ => by kernel_rfl) (fun g1 => ?_)
  refine o_run 1 [1] (l := []) .nil (E' := [(1, (pg g1))]) (by kernel_rfl) ?_
  refine o_end (by kernel_rfl) ?_
  refine e_seq ?_
  refine w_seq 6 7 (by kernel_rfl) ?_
  refine w_region (by kernel_rfl) ?_
  refine o_run 16 [2] (l := [(⟨g1, 31, none⟩, .slice none 0 0), (⟨g1, 4, none⟩, v8 a0.fl), (⟨g1, 4, none⟩, v8 a0.fl)]) (.one (at_blk (j := 0) rfl rfl) (.one (at_blk (j := 0) rfl rfl) (.one (at_blk (j := 0) rfl rfl) .nil))) (E' := [(2, v32 (U32 ((U32 ((U32 0) + (U32 (band .u8 a0.fl 1)))) + (bshr .u32 (U32 (band .u8 a0.fl 2)) 1))))]) (by kernel_rfl) ?_
  refine o_end (by kernel_rfl) ?_
  refine e_seq ?_
  refine w_ret (by kernel_rfl) ?_
  obtain rfl := Option.some.inj hm
  exact e_retP () (v32 (U32 ((U32 ((U32 0) + (U32 (band .u8 a0.fl 1)))) + (bshr .u32 (U32 (band .u8 a0.fl 2)) 1)))) [] (by kernel_rfl) (by kernel_rfl) rfl (by kernel_rfl) (by kernel_rfl) trivial
def w_alive.f (k : Nat) : Option (Bool) :=
  ((seg_Lay.f k (⟨false, (⟨0, 0, 0, 0, 0, 0, 0, 0, 0, 0, 0, 0, 0, 0, 0, 0⟩ : T_anon22)⟩ : TA) (⟨false, (⟨0, 0, 0, 0, 0, 0, 0, 0, 0, 0, 0, 0, 0, 0, 0, 0⟩ : T_anon22)⟩ : TA) (⟨1, 2, 5, 0, 2, 0, 0, (⟨false, 0, false, 0, false, false, 0, 0, false, 0, 0, (⟨0, 0, 0, 0, 0, 0, 0, 0, 0, 0, 0, 0⟩ : TM)⟩ : TO_o)⟩ : TS_o)).bind fun t1 => ((seg_Parse.f k (⟨false, (⟨0, 0, 0, 0, 0, 0, 0, 0, 0, 0, 0, 0, 0, 0, 0, 0⟩ : T_anon22)⟩ : TA) (⟨false, (⟨0, 0, 0, 0, 0, 0, 0, 0, 0, 0, 0, 0, 0, 0, 0, 0⟩ : T_anon22)⟩ : TA) t1.1).bind fun t2 => ((seg_Reset.f t2.1).bind fun t3 => (if t1.2 == 0 then (if t2.2 == 0 then ((seg_Same.f k (⟨1, 2, 5, 0, 2, 0, 0, (⟨false, 0, false, 0, false, false, 0, 0, false, 0, 0, (⟨0, 0, 0, 0, 0, 0, 0, 0, 0, 0, 0, 0⟩ : TM)⟩ : TO_o)⟩ : TS_o) t2.1).bind fun t4 => (if t4 then (if t3.2 then (if t3.1.fl == 20 then (if t3.1.ak == 6 then ((seg_Len_2.f (⟨1, 2, 5, 0, 2, 0, 0, (⟨false, 0, false, 0, false, false, 0, 0, false, 0, 0, (⟨0, 0, 0, 0, 0, 0, 0, 0, 0, 0, 0, 0⟩ : TM)⟩ : TO_o)⟩ : TS_o)).bind fun t5 => (some (t5 == 1))) else (some false)) else (some false)) else (some false)) else (some false))) else (some false)) else (some false)))))
theorem w_alive_ok (k : Nat) (r : Bool) (hm : w_alive.f k = some r) (B G : Asn) (w : World) (hs : St B G [] w) :
    Calls Try.prog 10 #[] w (Post (X := Asn) (fun x => vb r) (fun x => x) G (fun x => []) (fun x => (Ext B x))) := by
  unfold w_alive.f at hm
  refine calls_W (F := Try.f10) Try.func10 rfl (by kernel_rfl) (L := []) ?_ hs
  refine w_seq 2 3 (by kernel_rfl) ?_
  refine w_region (by kernel_rfl) ?_
  refine o_run 1 [] (l := []) .nil (E' := []) (by kernel_rfl) ?_
  refine o_end (by kernel_rfl) ?_
  refine e_seq ?_
  refine w_seq 6 7 (by kernel_rfl) ?_
  refine w_region (by kernel_rfl) ?_
  refine o_run 1 [8] (l := []) .nil (E' := [(8, .agg #[v16 1, v16 2, v32 5, v32 0, v8 2, v16 0, v16 0, vb false, v16 0, vb false, v8 0, vb false, .slice none 0 0, vb false, v32 0, v32 0, vb false, v8 0, v8 0, v8 0, v8 0, v8 0, v8 0, v8 0, v8 0, v8 0, v8 0, v8 0, v8 0, v8 0, v8 0, .slice none 0 0])]) (by kernel_rfl) ?_
  refine o_stp ?_ (by kernel_rfl)
  refine s_new 1 (fun g1 => (pg g1)) [v16 0, v16 0, v32 0, v32 0, v8 0, v16 0, v16 0, vb false, v16 0, vb false, v8 0, vb false, .slice none 0 0, vb false, v32 0, v32 0, vb false, v8 0, v8 0, v8 0, v8 0, v8 0, v8 0, v8 0, v8 0, v8 0, v8 0, v8 0, v8 0, v8 0, v8 0, .slice none 0 0] 34 (fun _ => by kernel_rfl) (fun g1 => ?_)
  refine o_stp ?_ (by kernel_rfl)
  refine s_store 0 g1 [v16 0, v16 0, v32 0, v32 0, v8 0, v16 0, v16 0, vb false, v16 0, vb false, v8 0, vb false, .slice none 0 0, vb false, v32 0, v32 0, vb false, v8 0, v8 0, v8 0, v8 0, v8 0, v8 0, v8 0, v8 0, v8 0, v8 0, v8 0, v8 0, v8 0, v8 0, .slice none 0 0] 34 [(0, v16 1), (1, v16 2), (2, v32 5), (3, v32 0), (4, v8 2), (5, v16 0), (6, v16 0), (7, vb false), (8, v16 0), (9, vb false), (10, v8 0), (11, vb false), (12, .slice none 0 0), (13, vb false), (14, v32 0), (15, v32 0), (16, vb false), (17, v8 0), (18, v8 0), (19, v8 0), (20, v8 0), (21, v8 0), (22, v8 0), (23, v8 0), (24, v8 0), (25, v8 0), (26, v8 0), (27, v8 0), (28, v8 0), (29, v8 0), (30, v8 0), (31, .slice none 0 0)] (by kernel_rfl) (by kernel_rfl) (by kernel_rfl) ?_
  refine t_L (L' := [.blk g1 [v16 1, v16 2, v32 5, v32 0, v8 2, v16 0, v16 0, vb false, v16 0, vb false, v8 0, vb false, .slice none 0 0, vb false, v32 0, v32 0, vb false, v8 0, v8 0, v8 0, v8 0, v8 0, v8 0, v8 0, v8 0, v8 0, v8 0, v8 0, v8 0, v8 0, v8 0, .slice none 0 0] 34]) (by kernel_rfl) ?_
  refine o_end (by kernel_rfl) ?_
  refine e_seq ?_
  refine w_seq 14 15 (by kernel_rfl) ?_
  refine w_region (by kernel_rfl) ?_
  refine o_run 2 [1, 10, 11] (l := []) .nil (E' := [(1, (pg g1)), (10, .agg #[vb false, v8 0, v8 0, v8 0, v8 0, v8 0, v8 0, v8 0, v8 0, v8 0, v8 0, v8 0, v8 0, v8 0, v8 0, v8 0, v8 0]), (11, .agg #[vb false, v8 0, v8 0, v8 0, v8 0, v8 0, v8 0, v8 0, v8 0, v8 0, v8 0, v8 0, v8 0, v8 0, v8 0, v8 0, v8 0])]) (by kernel_rfl) ?_
  refine o_val 12 (.load 34 (.tmp 1)) (.agg #[v16 1, v16 2, v32 5, v32 0, v8 2, v16 0, v16 0, vb false, v16 0, vb false, v8 0, vb false, .slice none 0 0, vb false, v32 0, v32 0, vb false, v8 0, v8 0, v8 0, v8 0, v8 0, v8 0, v8 0, v8 0, v8 0, v8 0, v8 0, v8 0, v8 0, v8 0, .slice none 0 0]) (by kernel_rfl) (v_load (l := [v16 1, v16 2, v32 5, v32 0, v8 2, v16 0, v16 0, vb false, v16 0, vb false, v8 0, vb false, .slice none 0 0, vb false, v32 0, v32 0, vb false, v8 0, v8 0, v8 0, v8 0, v8 0, v8 0, v8 0, v8 0, v8 0, v8 0, v8 0, v8 0, v8 0, v8 0, .slice none 0 0]) (a := ⟨g1, 0, none⟩) (by kernel_rfl) (by kernel_rfl) (at_blk (j := 0) rfl rfl)) ?_
  obtain ⟨t1, hx1, hm⟩ := bind_some hm
  refine o_stp ?_ (by kernel_rfl)
  refine s_call 13 11 #[.agg #[vb false, v8 0, v8 0, v8 0, v8 0, v8 0, v8 0, v8 0, v8 0, v8 0, v8 0, v8 0, v8 0, v8 0, v8 0, v8 0, v8 0], .agg #[vb false, v8 0, v8 0, v8 0, v8 0, v8 0, v8 0, v8 0, v8 0, v8 0, v8 0, v8 0, v8 0, v8 0, v8 0, v8 0, v8 0], .agg #[v16 1, v16 2, v32 5, v32 0, v8 2, v16 0, v16 0, vb false, v16 0, vb false, v8 0, vb false, .slice none 0 0, vb false, v32 0, v32 0, vb false, v8 0, v8 0, v8 0, v8 0, v8 0, v8 0, v8 0, v8 0, v8 0, v8 0, v8 0, v8 0, v8 0, v8 0, .slice none 0 0]] [] [0] (by kernel_rfl) (by kernel_rfl) (fun w hs => seg_Lay_ok k (⟨false, (⟨0, 0, 0, 0, 0, 0, 0, 0, 0, 0, 0, 0, 0, 0, 0, 0⟩ : T_anon22)⟩ : TA) (⟨false, (⟨0, 0, 0, 0, 0, 0, 0, 0, 0, 0, 0, 0, 0, 0, 0, 0⟩ : T_anon22)⟩ : TA) (⟨1, 2, 5, 0, 2, 0, 0, (⟨false, 0, false, 0, false, false, 0, 0, false, 0, 0, (⟨0, 0, 0, 0, 0, 0, 0, 0, 0, 0, 0, 0⟩ : TM)⟩ : TO_o)⟩ : TS_o) t1 hx1 B _ w (St.cast (by kernel_rfl) hs)) (fun x hx => ?_)
  obtain ⟨B1, A1, c1⟩ := x
  have hx2 := hx
  refine t_L (L' := [.own A1 t1.1.length c1 (rowOf e8 t1.1) 1 5, .blk g1 [v16 1, v16 2, v32 5, v32 0, v8 2, v16 0, v16 0, vb false, v16 0, vb false, v8 0, vb false, .slice none 0 0, vb false, v32 0, v32 0, vb false, v8 0, v8 0, v8 0, v8 0, v8 0, v8 0, v8 0, v8 0, v8 0, v8 0, v8 0, v8 0, v8 0, v8 0, .slice none 0 0] 34]) (by kernel_rfl) ?_
  refine o_run 5 [1, 2, 3] (l := []) .nil (E' := [(1, (pg g1)), (2, .slice A1 t1.1.length c1), (3, v64 t1.2)]) (by kernel_rfl) ?_
  refine o_end (by kernel_rfl) ?_
  refine e_seq ?_
  refine w_seq 30 31 (by kernel_rfl) ?_
  refine w_region (by kernel_rfl) ?_
  refine o_run 3 [1, 3, 17, 18, 19] (l := []) .nil (E' := [(1, (pg g1)), (3, v64 t1.2), (17, .agg #[vb false, v8 0, v8 0, v8 0, v8 0, v8 0, v8 0, v8 0, v8 0, v8 0, v8 0, v8 0, v8 0, v8 0, v8 0, v8 0, v8 0]), (18, .agg #[vb false, v8 0, v8 0, v8 0, v8 0, v8 0, v8 0, v8 0, v8 0, v8 0, v8 0, v8 0, v8 0, v8 0, v8 0, v8 0, v8 0]), (19, .slice A1 t1.1.length c1)]) (by kernel_rfl) ?_
  refine t_lendS (kI .u8) rfl rfl (fun B2 hx3 hs1 hb1 => ?_)
  obtain ⟨t2, hx4, hm⟩ := bind_some hm
  refine o_stp ?_ (by kernel_rfl)
  refine s_call 20 21 #[.agg #[vb false, v8 0, v8 0, v8 0, v8 0, v8 0, v8 0, v8 0, v8 0, v8 0, v8 0, v8 0, v8 0, v8 0, v8 0, v8 0, v8 0], .agg #[vb false, v8 0, v8 0, v8 0, v8 0, v8 0, v8 0, v8 0, v8 0, v8 0, v8 0, v8 0, v8 0, v8 0, v8 0, v8 0, v8 0], .slice A1 t1.1.length c1] [] [0] (by kernel_rfl) (by kernel_rfl) (fun w hs => seg_Parse_ok k (⟨false, (⟨0, 0, 0, 0, 0, 0, 0, 0, 0, 0, 0, 0, 0, 0, 0, 0⟩ : T_anon22)⟩ : TA) (⟨false, (⟨0, 0, 0, 0, 0, 0, 0, 0, 0, 0, 0, 0, 0, 0, 0, 0⟩ : T_anon22)⟩ : TA) t1.1 t2 hx4 B2 _ A1 c1 hs1 w (St.cast (by kernel_rfl) hs)) (fun x hx => ?_)
  obtain ⟨B3, A2, c2, A3, c3⟩ := x
  have hx5 := hx
  refine t_L (L' := [.own A2 t2.1.o.sk.length c2 (rowOf encTB t2.1.o.sk) 2 84, .own A3 t2.1.da.length c3 (rowOf e8 t2.1.da) 1 5, .blk g1 [v16 1, v16 2, v32 5, v32 0, v8 2, v16 0, v16 0, vb false, v16 0, vb false, v8 0, vb false, .slice none 0 0, vb false, v32 0, v32 0, vb false, v8 0, v8 0, v8 0, v8 0, v8 0, v8 0, v8 0, v8 0, v8 0, v8 0, v8 0, v8 0, v8 0, v8 0, .slice none 0 0] 34]) (by kernel_rfl) ?_
  refine t_back hb1 hx5 ?_
  refine o_run 3 [1, 3, 21, 22] (l := []) .nil (E' := [(1, (pg g1)), (3, v64 t1.2), (21, .agg #[v16 t2.1.sr, v16 t2.1.ds, v32 t2.1.sq, v32 t2.1.ak, v8 t2.1.fl, v16 t2.1.wi, v16 t2.1.ur, vb t2.1.o.hM, v16 t2.1.o.ms, vb t2.1.o.hS, v8 t2.1.o.sc, vb t2.1.o.sO, .slice A2 t2.1.o.sk.length c2, vb t2.1.o.hT, v32 t2.1.o.va, v32 t2.1.o.ec, vb t2.1.o.hO, v8 t2.1.o.ki, v8 t2.1.o.ni, v8 t2.1.o.m.x0, v8 t2.1.o.m.x1, v8 t2.1.o.m.x2, v8 t2.1.o.m.x3, v8 t2.1.o.m.x4, v8 t2.1.o.m.x5, v8 t2.1.o.m.x6, v8 t2.1.o.m.x7, v8 t2.1.o.m.x8, v8 t2.1.o.m.x9, v8 t2.1.o.m.x10, v8 t2.1.o.m.x11, .slice A3 t2.1.da.length c3]), (22, v64 t2.2)]) (by kernel_rfl) ?_
  refine o_stp ?_ (by kernel_rfl)
  refine s_new 4 (fun g2 => (pg g2)) [v16 0, v16 0, v32 0, v32 0, v8 0, v16 0, v16 0, vb false, v16 0, vb false, v8 0, vb false, .slice none 0 0, vb false, v32 0, v32 0, vb false, v8 0, v8 0, v8 0, v8 0, v8 0, v8 0, v8 0, v8 0, v8 0, v8 0, v8 0, v8 0, v8 0, v8 0, .slice none 0 0] 34 (fun _ => by kernel_rfl) (fun g2 => ?_)
  refine o_stp ?_ (by kernel_rfl)
  refine s_store 0 g2 [v16 0, v16 0, v32 0, v32 0, v8 0, v16 0, v16 0, vb false, v16 0, vb false, v8 0, vb false, .slice none 0 0, vb false, v32 0, v32 0, vb false, v8 0, v8 0, v8 0, v8 0, v8 0, v8 0, v8 0, v8 0, v8 0, v8 0, v8 0, v8 0, v8 0, v8 0, .slice none 0 0] 34 [(0, v16 t2.1.sr), (1, v16 t2.1.ds), (2, v32 t2.1.sq), (3, v32 t2.1.ak), (4, v8 t2.1.fl), (5, v16 t2.1.wi), (6, v16 t2.1.ur), (7, vb t2.1.o.hM), (8, v16 t2.1.o.ms), (9, vb t2.1.o.hS), (10, v8 t2.1.o.sc), (11, vb t2.1.o.sO), (12, .slice A2 t2.1.o.sk.length c2), (13, vb t2.1.o.hT), (14, v32 t2.1.o.va), (15, v32 t2.1.o.ec), (16, vb t2.1.o.hO), (17, v8 t2.1.o.ki), (18, v8 t2.1.o.ni), (19, v8 t2.1.o.m.x0), (20, v8 t2.1.o.m.x1), (21, v8 t2.1.o.m.x2), (22, v8 t2.1.o.m.x3), (23, v8 t2.1.o.m.x4), (24, v8 t2.1.o.m.x5), (25, v8 t2.1.o.m.x6), (26, v8 t2.1.o.m.x7), (27, v8 t2.1.o.m.x8), (28, v8 t2.1.o.m.x9), (29, v8 t2.1.o.m.x10), (30, v8 t2.1.o.m.x11), (31, .slice A3 t2.1.da.length c3)] (by kernel_rfl) (by kernel_rfl) (by kernel_rfl) ?_
  refine t_L (L' := [.blk g2 [v16 t2.1.sr, v16 t2.1.ds, v32 t2.1.sq, v32 t2.1.ak, v8 t2.1.fl, v16 t2.1.wi, v16 t2.1.ur, vb t2.1.o.hM, v16 t2.1.o.ms, vb t2.1.o.hS, v8 t2.1.o.sc, vb t2.1.o.sO, .slice A2 t2.1.o.sk.length c2, vb t2.1.o.hT, v32 t2.1.o.va, v32 t2.1.o.ec, vb t2.1.o.hO, v8 t2.1.o.ki, v8 t2.1.o.ni, v8 t2.1.o.m.x0, v8 t2.1.o.m.x1, v8 t2.1.o.m.x2, v8 t2.1.o.m.x3, v8 t2.1.o.m.x4, v8 t2.1.o.m.x5, v8 t2.1.o.m.x6, v8 t2.1.o.m.x7, v8 t2.1.o.m.x8, v8 t2.1.o.m.x9, v8 t2.1.o.m.x10, v8 t2.1.o.m.x11, .slice A3 t2.1.da.length c3] 34, .own A1 t1.1.length c1 (rowOf e8 t1.1) 1 5, .own A2 t2.1.o.sk.length c2 (rowOf encTB t2.1.o.sk) 2 84, .own A3 t2.1.da.length c3 (rowOf e8 t2.1.da) 1 5, .blk g1 [v16 1, v16 2, v32 5, v32 0, v8 2, v16 0, v16 0, vb false, v16 0, vb false, v8 0, vb false, .slice none 0 0, vb false, v32 0, v32 0, vb false, v8 0, v8 0, v8 0, v8 0, v8 0, v8 0, v8 0, v8 0, v8 0, v8 0, v8 0, v8 0, v8 0, v8 0, .slice none 0 0] 34]) (by kernel_rfl) ?_
  refine o_run 1 [1, 3, 4, 5] (l := []) .nil (E' := [(1, (pg g1)), (3, v64 t1.2), (4, (pg g2)), (5, v64 t2.2)]) (by kernel_rfl) ?_
  refine o_end (by kernel_rfl) ?_
  refine e_seq ?_
  refine w_seq 62 63 (by kernel_rfl) ?_
  refine w_region (by kernel_rfl) ?_
  refine o_val 24 (.load 34 (.tmp 4)) (.agg #[v16 t2.1.sr, v16 t2.1.ds, v32 t2.1.sq, v32 t2.1.ak, v8 t2.1.fl, v16 t2.1.wi, v16 t2.1.ur, vb t2.1.o.hM, v16 t2.1.o.ms, vb t2.1.o.hS, v8 t2.1.o.sc, vb t2.1.o.sO, .slice A2 t2.1.o.sk.length c2, vb t2.1.o.hT, v32 t2.1.o.va, v32 t2.1.o.ec, vb t2.1.o.hO, v8 t2.1.o.ki, v8 t2.1.o.ni, v8 t2.1.o.m.x0, v8 t2.1.o.m.x1, v8 t2.1.o.m.x2, v8 t2.1.o.m.x3, v8 t2.1.o.m.x4, v8 t2.1.o.m.x5, v8 t2.1.o.m.x6, v8 t2.1.o.m.x7, v8 t2.1.o.m.x8, v8 t2.1.o.m.x9, v8 t2.1.o.m.x10, v8 t2.1.o.m.x11, .slice A3 t2.1.da.length c3]) (by kernel_rfl) (v_load (l := [v16 t2.1.sr, v16 t2.1.ds, v32 t2.1.sq, v32 t2.1.ak, v8 t2.1.fl, v16 t2.1.wi, v16 t2.1.ur, vb t2.1.o.hM, v16 t2.1.o.ms, vb t2.1.o.hS, v8 t2.1.o.sc, vb t2.1.o.sO, .slice A2 t2.1.o.sk.length c2, vb t2.1.o.hT, v32 t2.1.o.va, v32 t2.1.o.ec, vb t2.1.o.hO, v8 t2.1.o.ki, v8 t2.1.o.ni, v8 t2.1.o.m.x0, v8 t2.1.o.m.x1, v8 t2.1.o.m.x2, v8 t2.1.o.m.x3, v8 t2.1.o.m.x4, v8 t2.1.o.m.x5, v8 t2.1.o.m.x6, v8 t2.1.o.m.x7, v8 t2.1.o.m.x8, v8 t2.1.o.m.x9, v8 t2.1.o.m.x10, v8 t2.1.o.m.x11, .slice A3 t2.1.da.length c3]) (a := ⟨g2, 0, none⟩) (by kernel_rfl) (by kernel_rfl) (at_blk (j := 0) rfl rfl)) ?_
  obtain ⟨t3, hx6, hm⟩ := bind_some hm
  refine o_stp ?_ (by kernel_rfl)
  refine s_call 25 23 #[.agg #[v16 t2.1.sr, v16 t2.1.ds, v32 t2.1.sq, v32 t2.1.ak, v8 t2.1.fl, v16 t2.1.wi, v16 t2.1.ur, vb t2.1.o.hM, v16 t2.1.o.ms, vb t2.1.o.hS, v8 t2.1.o.sc, vb t2.1.o.sO, .slice A2 t2.1.o.sk.length c2, vb t2.1.o.hT, v32 t2.1.o.va, v32 t2.1.o.ec, vb t2.1.o.hO, v8 t2.1.o.ki, v8 t2.1.o.ni, v8 t2.1.o.m.x0, v8 t2.1.o.m.x1, v8 t2.1.o.m.x2, v8 t2.1.o.m.x3, v8 t2.1.o.m.x4, v8 t2.1.o.m.x5, v8 t2.1.o.m.x6, v8 t2.1.o.m.x7, v8 t2.1.o.m.x8, v8 t2.1.o.m.x9, v8 t2.1.o.m.x10, v8 t2.1.o.m.x11, .slice A3 t2.1.da.length c3]] [2, 3] [0, 1, 4] (by kernel_rfl) (by kernel_rfl) (fun w hs => seg_Reset_ok t2.1 t3 hx6 B1 _ A2 c2 A3 c3 w (St.cast (by kernel_rfl) hs)) (fun x hx => ?_)
  obtain ⟨A4, c4, A5, c5⟩ := x
  obtain ⟨hs2, hs3⟩ := hx
  refine t_L (L' := [.own A2 t2.1.o.sk.length c2 (rowOf encTB t2.1.o.sk) 2 84, .own A3 t2.1.da.length c3 (rowOf e8 t2.1.da) 1 5, .blk g2 [v16 t2.1.sr, v16 t2.1.ds, v32 t2.1.sq, v32 t2.1.ak, v8 t2.1.fl, v16 t2.1.wi, v16 t2.1.ur, vb t2.1.o.hM, v16 t2.1.o.ms, vb t2.1.o.hS, v8 t2.1.o.sc, vb t2.1.o.sO, .slice A2 t2.1.o.sk.length c2, vb t2.1.o.hT, v32 t2.1.o.va, v32 t2.1.o.ec, vb t2.1.o.hO, v8 t2.1.o.ki, v8 t2.1.o.ni, v8 t2.1.o.m.x0, v8 t2.1.o.m.x1, v8 t2.1.o.m.x2, v8 t2.1.o.m.x3, v8 t2.1.o.m.x4, v8 t2.1.o.m.x5, v8 t2.1.o.m.x6, v8 t2.1.o.m.x7, v8 t2.1.o.m.x8, v8 t2.1.o.m.x9, v8 t2.1.o.m.x10, v8 t2.1.o.m.x11, .slice A3 t2.1.da.length c3] 34, .own A1 t1.1.length c1 (rowOf e8 t1.1) 1 5, .blk g1 [v16 1, v16 2, v32 5, v32 0, v8 2, v16 0, v16 0, vb false, v16 0, vb false, v8 0, vb false, .slice none 0 0, vb false, v32 0, v32 0, vb false, v8 0, v8 0, v8 0, v8 0, v8 0, v8 0, v8 0, v8 0, v8 0, v8 0, v8 0, v8 0, v8 0, v8 0, .slice none 0 0] 34]) (by kernel_rfl) ?_
  refine o_run 3 [1, 3, 4, 5, 26, 27] (l := []) .nil (E' := [(1, (pg g1)), (3, v64 t1.2), (4, (pg g2)), (5, v64 t2.2), (26, .agg #[v16 t3.1.sr, v16 t3.1.ds, v32 t3.1.sq, v32 t3.1.ak, v8 t3.1.fl, v16 t3.1.wi, v16 t3.1.ur, vb t3.1.o.hM, v16 t3.1.o.ms, vb t3.1.o.hS, v8 t3.1.o.sc, vb t3.1.o.sO, .slice A4 t3.1.o.sk.length c4, vb t3.1.o.hT, v32 t3.1.o.va, v32 t3.1.o.ec, vb t3.1.o.hO, v8 t3.1.o.ki, v8 t3.1.o.ni, v8 t3.1.o.m.x0, v8 t3.1.o.m.x1, v8 t3.1.o.m.x2, v8 t3.1.o.m.x3, v8 t3.1.o.m.x4, v8 t3.1.o.m.x5, v8 t3.1.o.m.x6, v8 t3.1.o.m.x7, v8 t3.1.o.m.x8, v8 t3.1.o.m.x9, v8 t3.1.o.m.x10, v8 t3.1.o.m.x11, .slice A5 t3.1.da.length c5]), (27, vb t3.2)]) (by kernel_rfl) ?_
  refine o_stp ?_ (by kernel_rfl)
  refine s_new 6 (fun g3 => (pg g3)) [v16 0, v16 0, v32 0, v32 0, v8 0, v16 0, v16 0, vb false, v16 0, vb false, v8 0, vb false, .slice none 0 0, vb false, v32 0, v32 0, vb false, v8 0, v8 0, v8 0, v8 0, v8 0, v8 0, v8 0, v8 0, v8 0, v8 0, v8 0, v8 0, v8 0, v8 0, .slice none 0 0] 34 (fun _ => by kernel_rfl) (fun g3 => ?_)
  refine o_stp ?_ (by kernel_rfl)
  refine s_store 0 g3 [v16 0, v16 0, v32 0, v32 0, v8 0, v16 0, v16 0, vb false, v16 0, vb false, v8 0, vb false, .slice none 0 0, vb false, v32 0, v32 0, vb false, v8 0, v8 0, v8 0, v8 0, v8 0, v8 0, v8 0, v8 0, v8 0, v8 0, v8 0, v8 0, v8 0, v8 0, .slice none 0 0] 34 [(0, v16 t3.1.sr), (1, v16 t3.1.ds), (2, v32 t3.1.sq), (3, v32 t3.1.ak), (4, v8 t3.1.fl), (5, v16 t3.1.wi), (6, v16 t3.1.ur), (7, vb t3.1.o.hM), (8, v16 t3.1.o.ms), (9, vb t3.1.o.hS), (10, v8 t3.1.o.sc), (11, vb t3.1.o.sO), (12, .slice A4 t3.1.o.sk.length c4), (13, vb t3.1.o.hT), (14, v32 t3.1.o.va), (15, v32 t3.1.o.ec), (16, vb t3.1.o.hO), (17, v8 t3.1.o.ki), (18, v8 t3.1.o.ni), (19, v8 t3.1.o.m.x0), (20, v8 t3.1.o.m.x1), (21, v8 t3.1.o.m.x2), (22, v8 t3.1.o.m.x3), (23, v8 t3.1.o.m.x4), (24, v8 t3.1.o.m.x5), (25, v8 t3.1.o.m.x6), (26, v8 t3.1.o.m.x7), (27, v8 t3.1.o.m.x8), (28, v8 t3.1.o.m.x9), (29, v8 t3.1.o.m.x10), (30, v8 t3.1.o.m.x11), (31, .slice A5 t3.1.da.length c5)] (by kernel_rfl) (by kernel_rfl) (by kernel_rfl) ?_
  refine t_L (L' := [.blk g3 [v16 t3.1.sr, v16 t3.1.ds, v32 t3.1.sq, v32 t3.1.ak, v8 t3.1.fl, v16 t3.1.wi, v16 t3.1.ur, vb t3.1.o.hM, v16 t3.1.o.ms, vb t3.1.o.hS, v8 t3.1.o.sc, vb t3.1.o.sO, .slice A4 t3.1.o.sk.length c4, vb t3.1.o.hT, v32 t3.1.o.va, v32 t3.1.o.ec, vb t3.1.o.hO, v8 t3.1.o.ki, v8 t3.1.o.ni, v8 t3.1.o.m.x0, v8 t3.1.o.m.x1, v8 t3.1.o.m.x2, v8 t3.1.o.m.x3, v8 t3.1.o.m.x4, v8 t3.1.o.m.x5, v8 t3.1.o.m.x6, v8 t3.1.o.m.x7, v8 t3.1.o.m.x8, v8 t3.1.o.m.x9, v8 t3.1.o.m.x10, v8 t3.1.o.m.x11, .slice A5 t3.1.da.length c5] 34, .own A2 t2.1.o.sk.length c2 (rowOf encTB t2.1.o.sk) 2 84, .own A3 t2.1.da.length c3 (rowOf e8 t2.1.da) 1 5, .blk g2 [v16 t2.1.sr, v16 t2.1.ds, v32 t2.1.sq, v32 t2.1.ak, v8 t2.1.fl, v16 t2.1.wi, v16 t2.1.ur, vb t2.1.o.hM, v16 t2.1.o.ms, vb t2.1.o.hS, v8 t2.1.o.sc, vb t2.1.o.sO, .slice A2 t2.1.o.sk.length c2, vb t2.1.o.hT, v32 t2.1.o.va, v32 t2.1.o.ec, vb t2.1.o.hO, v8 t2.1.o.ki, v8 t2.1.o.ni, v8 t2.1.o.m.x0, v8 t2.1.o.m.x1, v8 t2.1.o.m.x2, v8 t2.1.o.m.x3, v8 t2.1.o.m.x4, v8 t2.1.o.m.x5, v8 t2.1.o.m.x6, v8 t2.1.o.m.x7, v8 t2.1.o.m.x8, v8 t2.1.o.m.x9, v8 t2.1.o.m.x10, v8 t2.1.o.m.x11, .slice A3 t2.1.da.length c3] 34, .own A1 t1.1.length c1 (rowOf e8 t1.1) 1 5, .blk g1 [v16 1, v16 2, v32 5, v32 0, v8 2, v16 0, v16 0, vb false, v16 0, vb false, v8 0, vb false, .slice none 0 0, vb false, v32 0, v32 0, vb false, v8 0, v8 0, v8 0, v8 0, v8 0, v8 0, v8 0, v8 0, v8 0, v8 0, v8 0, v8 0, v8 0, v8 0, .slice none 0 0] 34]) (by kernel_rfl) ?_
  refine o_run 1 [1, 3, 4, 5, 6, 7] (l := []) .nil (E' := [(1, (pg g1)), (3, v64 t1.2), (4, (pg g2)), (5, v64 t2.2), (6, (pg g3)), (7, vb t3.2)]) (by kernel_rfl) ?_
  refine o_end (by kernel_rfl) ?_
  refine e_seq ?_
  refine w_seq 126 127 (by kernel_rfl) ?_
  refine w_region (by kernel_rfl) ?_
  refine o_run 3 [1, 4, 5, 6, 7, 30] (l := []) .nil (E' := [(1, (pg g1)), (4, (pg g2)), (5, v64 t2.2), (6, (pg g3)), (7, vb t3.2), (30, vb (t1.2 == 0))]) (by kernel_rfl) ?_
  refine o_split 30 (t1.2 == 0) (by kernel_rfl) (fun hb2 => ?_) (fun hb2 => ?_)
  · replace hm := ite_t hb2 hm
    refine o_run 4 [1, 4, 6, 7, 34] (l := []) .nil (E' := [(1, (pg g1)), (4, (pg g2)), (6, (pg g3)), (7, vb t3.2), (34, vb (t2.2 == 0))]) (by kernel_rfl) ?_
    refine o_split 34 (t2.2 == 0) (by kernel_rfl) (fun hb3 => ?_) (fun hb3 => ?_)
    · replace hm := ite_t hb3 hm
      refine o_val 35 (.load 34 (.tmp 1)) (.agg #[v16 1, v16 2, v32 5, v32 0, v8 2, v16 0, v16 0, vb false, v16 0, vb false, v8 0, vb false, .slice none 0 0, vb false, v32 0, v32 0, vb false, v8 0, v8 0, v8 0, v8 0, v8 0, v8 0, v8 0, v8 0, v8 0, v8 0, v8 0, v8 0, v8 0, v8 0, .slice none 0 0]) (by kernel_rfl) (v_load (l := [v16 1, v16 2, v32 5, v32 0, v8 2, v16 0, v16 0, vb false, v16 0, vb false, v8 0, vb false, .slice none 0 0, vb false, v32 0, v32 0, vb false, v8 0, v8 0, v8 0, v8 0, v8 0, v8 0, v8 0, v8 0, v8 0, v8 0, v8 0, v8 0, v8 0, v8 0, .slice none 0 0]) (a := ⟨g1, 0, none⟩) (by kernel_rfl) (by kernel_rfl) (at_blk (j := 5) rfl rfl)) ?_
      refine o_val 36 (.load 34 (.tmp 4)) (.agg #[v16 t2.1.sr, v16 t2.1.ds, v32 t2.1.sq, v32 t2.1.ak, v8 t2.1.fl, v16 t2.1.wi, v16 t2.1.ur, vb t2.1.o.hM, v16 t2.1.o.ms, vb t2.1.o.hS, v8 t2.1.o.sc, vb t2.1.o.sO, .slice A2 t2.1.o.sk.length c2, vb t2.1.o.hT, v32 t2.1.o.va, v32 t2.1.o.ec, vb t2.1.o.hO, v8 t2.1.o.ki, v8 t2.1.o.ni, v8 t2.1.o.m.x0, v8 t2.1.o.m.x1, v8 t2.1.o.m.x2, v8 t2.1.o.m.x3, v8 t2.1.o.m.x4, v8 t2.1.o.m.x5, v8 t2.1.o.m.x6, v8 t2.1.o.m.x7, v8 t2.1.o.m.x8, v8 t2.1.o.m.x9, v8 t2.1.o.m.x10, v8 t2.1.o.m.x11, .slice A3 t2.1.da.length c3]) (by kernel_rfl) (v_load (l := [v16 t2.1.sr, v16 t2.1.ds, v32 t2.1.sq, v32 t2.1.ak, v8 t2.1.fl, v16 t2.1.wi, v16 t2.1.ur, vb t2.1.o.hM, v16 t2.1.o.ms, vb t2.1.o.hS, v8 t2.1.o.sc, vb t2.1.o.sO, .slice A2 t2.1.o.sk.length c2, vb t2.1.o.hT, v32 t2.1.o.va, v32 t2.1.o.ec, vb t2.1.o.hO, v8 t2.1.o.ki, v8 t2.1.o.ni, v8 t2.1.o.m.x0, v8 t2.1.o.m.x1, v8 t2.1.o.m.x2, v8 t2.1.o.m.x3, v8 t2.1.o.m.x4, v8 t2.1.o.m.x5, v8 t2.1.o.m.x6, v8 t2.1.o.m.x7, v8 t2.1.o.m.x8, v8 t2.1.o.m.x9, v8 t2.1.o.m.x10, v8 t2.1.o.m.x11, .slice A3 t2.1.da.length c3]) (a := ⟨g2, 0, none⟩) (by kernel_rfl) (by kernel_rfl) (at_blk (j := 3) rfl rfl)) ?_
      obtain ⟨t4, hx7, hm⟩ := bind_some hm
      refine o_stp ?_ (by kernel_rfl)
      refine s_call 37 17 #[.agg #[v16 1, v16 2, v32 5, v32 0, v8 2, v16 0, v16 0, vb false, v16 0, vb false, v8 0, vb false, .slice none 0 0, vb false, v32 0, v32 0, vb false, v8 0, v8 0, v8 0, v8 0, v8 0, v8 0, v8 0, v8 0, v8 0, v8 0, v8 0, v8 0, v8 0, v8 0, .slice none 0 0], .agg #[v16 t2.1.sr, v16 t2.1.ds, v32 t2.1.sq, v32 t2.1.ak, v8 t2.1.fl, v16 t2.1.wi, v16 t2.1.ur, vb t2.1.o.hM, v16 t2.1.o.ms, vb t2.1.o.hS, v8 t2.1.o.sc, vb t2.1.o.sO, .slice A2 t2.1.o.sk.length c2, vb t2.1.o.hT, v32 t2.1.o.va, v32 t2.1.o.ec, vb t2.1.o.hO, v8 t2.1.o.ki, v8 t2.1.o.ni, v8 t2.1.o.m.x0, v8 t2.1.o.m.x1, v8 t2.1.o.m.x2, v8 t2.1.o.m.x3, v8 t2.1.o.m.x4, v8 t2.1.o.m.x5, v8 t2.1.o.m.x6, v8 t2.1.o.m.x7, v8 t2.1.o.m.x8, v8 t2.1.o.m.x9, v8 t2.1.o.m.x10, v8 t2.1.o.m.x11, .slice A3 t2.1.da.length c3]] [1, 2] [0, 3, 4, 5] (by kernel_rfl) (by kernel_rfl) (fun w hs => seg_Same_ok k (⟨1, 2, 5, 0, 2, 0, 0, (⟨false, 0, false, 0, false, false, 0, 0, false, 0, 0, (⟨0, 0, 0, 0, 0, 0, 0, 0, 0, 0, 0, 0⟩ : TM)⟩ : TO_o)⟩ : TS_o) t2.1 t4 hx7 B1 _ A2 c2 A3 c3 w (St.cast (by kernel_rfl) hs)) (fun _ hx => ?_)
      refine t_L (L' := [.own A2 t2.1.o.sk.length c2 (rowOf encTB t2.1.o.sk) 2 84, .own A3 t2.1.da.length c3 (rowOf e8 t2.1.da) 1 5, .blk g3 [v16 t3.1.sr, v16 t3.1.ds, v32 t3.1.sq, v32 t3.1.ak, v8 t3.1.fl, v16 t3.1.wi, v16 t3.1.ur, vb t3.1.o.hM, v16 t3.1.o.ms, vb t3.1.o.hS, v8 t3.1.o.sc, vb t3.1.o.sO, .slice A4 t3.1.o.sk.length c4, vb t3.1.o.hT, v32 t3.1.o.va, v32 t3.1.o.ec, vb t3.1.o.hO, v8 t3.1.o.ki, v8 t3.1.o.ni, v8 t3.1.o.m.x0, v8 t3.1.o.m.x1, v8 t3.1.o.m.x2, v8 t3.1.o.m.x3, v8 t3.1.o.m.x4, v8 t3.1.o.m.x5, v8 t3.1.o.m.x6, v8 t3.1.o.m.x7, v8 t3.1.o.m.x8, v8 t3.1.o.m.x9, v8 t3.1.o.m.x10, v8 t3.1.o.m.x11, .slice A5 t3.1.da.length c5] 34, .blk g2 [v16 t2.1.sr, v16 t2.1.ds, v32 t2.1.sq, v32 t2.1.ak, v8 t2.1.fl, v16 t2.1.wi, v16 t2.1.ur, vb t2.1.o.hM, v16 t2.1.o.ms, vb t2.1.o.hS, v8 t2.1.o.sc, vb t2.1.o.sO, .slice A2 t2.1.o.sk.length c2, vb t2.1.o.hT, v32 t2.1.o.va, v32 t2.1.o.ec, vb t2.1.o.hO, v8 t2.1.o.ki, v8 t2.1.o.ni, v8 t2.1.o.m.x0, v8 t2.1.o.m.x1, v8 t2.1.o.m.x2, v8 t2.1.o.m.x3, v8 t2.1.o.m.x4, v8 t2.1.o.m.x5, v8 t2.1.o.m.x6, v8 t2.1.o.m.x7, v8 t2.1.o.m.x8, v8 t2.1.o.m.x9, v8 t2.1.o.m.x10, v8 t2.1.o.m.x11, .slice A3 t2.1.da.length c3] 34, .own A1 t1.1.length c1 (rowOf e8 t1.1) 1 5, .blk g1 [v16 1, v16 2, v32 5, v32 0, v8 2, v16 0, v16 0, vb false, v16 0, vb false, v8 0, vb false, .slice none 0 0, vb false, v32 0, v32 0, vb false, v8 0, v8 0, v8 0, v8 0, v8 0, v8 0, v8 0, v8 0, v8 0, v8 0, v8 0, v8 0, v8 0, v8 0, .slice none 0 0] 34]) (by kernel_rfl) ?_
      refine o_run 2 [1, 6, 7, 39] (l := []) .nil (E' := [(1, (pg g1)), (6, (pg g3)), (7, vb t3.2), (39, vb t4)]) (by kernel_rfl) ?_
      refine o_split 39 t4 (by kernel_rfl) (fun hb4 => ?_) (fun hb4 => ?_)
      · replace hm := ite_t hb4 hm
        refine o_run 3 [1, 6, 42] (l := []) .nil (E' := [(1, (pg g1)), (6, (pg g3)), (42, vb t3.2)]) (by kernel_rfl) ?_
        refine o_split 42 t3.2 (by kernel_rfl) (fun hb5 => ?_) (fun hb5 => ?_)
        · replace hm := ite_t hb5 hm
          refine o_run 5 [1, 6, 47] (l := [(⟨g3, 4, none⟩, v8 t3.1.fl)]) (.one (at_blk (j := 2) rfl rfl) .nil) (E' := [(1, (pg g1)), (6, (pg g3)), (47, vb (t3.1.fl == 20))]) (by kernel_rfl) ?_
          refine o_split 47 (t3.1.fl == 20) (by kernel_rfl) (fun hb6 => ?_) (fun hb6 => ?_)
          · replace hm := ite_t hb6 hm
            refine o_run 5 [1, 52] (l := [(⟨g3, 3, none⟩, v32 t3.1.ak)]) (.one (at_blk (j := 2) rfl rfl) .nil) (E' := [(1, (pg g1)), (52, vb (t3.1.ak == 6))]) (by kernel_rfl) ?_
            refine o_split 52 (t3.1.ak == 6) (by kernel_rfl) (fun hb7 => ?_) (fun hb7 => ?_)
            · replace hm := ite_t hb7 hm
              refine o_val 53 (.load 34 (.tmp 1)) (.agg #[v16 1, v16 2, v32 5, v32 0, v8 2, v16 0, v16 0, vb false, v16 0, vb false, v8 0, vb false, .slice none 0 0, vb false, v32 0, v32 0, vb false, v8 0, v8 0, v8 0, v8 0, v8 0, v8 0, v8 0, v8 0, v8 0, v8 0, v8 0, v8 0, v8 0, v8 0, .slice none 0 0]) (by kernel_rfl) (v_load (l := [v16 1, v16 2, v32 5, v32 0, v8 2, v16 0, v16 0, vb false, v16 0, vb false, v8 0, vb false, .slice none 0 0, vb false, v32 0, v32 0, vb false, v8 0, v8 0, v8 0, v8 0, v8 0, v8 0, v8 0, v8 0, v8 0, v8 0, v8 0, v8 0, v8 0, v8 0, .slice none 0 0]) (a := ⟨g1, 0, none⟩) (by kernel_rfl) (by kernel_rfl) (at_blk (j := 5) rfl rfl)) ?_
              obtain ⟨t5, hx8, hm⟩ := bind_some hm
              refine o_stp ?_ (by kernel_rfl)
              refine s_call 54 15 #[.agg #[v16 1, v16 2, v32 5, v32 0, v8 2, v16 0, v16 0, vb false, v16 0, vb false, v8 0, vb false, .slice none 0 0, vb false, v32 0, v32 0, vb false, v8 0, v8 0, v8 0, v8 0, v8 0, v8 0, v8 0, v8 0, v8 0, v8 0, v8 0, v8 0, v8 0, v8 0, .slice none 0 0]] [] [0, 1, 2, 3, 4, 5] (by kernel_rfl) (by kernel_rfl) (fun w hs => seg_Len_2_ok (⟨1, 2, 5, 0, 2, 0, 0, (⟨false, 0, false, 0, false, false, 0, 0, false, 0, 0, (⟨0, 0, 0, 0, 0, 0, 0, 0, 0, 0, 0, 0⟩ : TM)⟩ : TO_o)⟩ : TS_o) t5 hx8 B1 _ w (St.cast (by kernel_rfl) hs)) (fun _ hx => ?_)
              refine t_L (L' := [.own A2 t2.1.o.sk.length c2 (rowOf encTB t2.1.o.sk) 2 84, .own A3 t2.1.da.length c3 (rowOf e8 t2.1.da) 1 5, .blk g3 [v16 t3.1.sr, v16 t3.1.ds, v32 t3.1.sq, v32 t3.1.ak, v8 t3.1.fl, v16 t3.1.wi, v16 t3.1.ur, vb t3.1.o.hM, v16 t3.1.o.ms, vb t3.1.o.hS, v8 t3.1.o.sc, vb t3.1.o.sO, .slice A4 t3.1.o.sk.length c4, vb t3.1.o.hT, v32 t3.1.o.va, v32 t3.1.o.ec, vb t3.1.o.hO, v8 t3.1.o.ki, v8 t3.1.o.ni, v8 t3.1.o.m.x0, v8 t3.1.o.m.x1, v8 t3.1.o.m.x2, v8 t3.1.o.m.x3, v8 t3.1.o.m.x4, v8 t3.1.o.m.x5, v8 t3.1.o.m.x6, v8 t3.1.o.m.x7, v8 t3.1.o.m.x8, v8 t3.1.o.m.x9, v8 t3.1.o.m.x10, v8 t3.1.o.m.x11, .slice A5 t3.1.da.length c5] 34, .blk g2 [v16 t2.1.sr, v16 t2.1.ds, v32 t2.1.sq, v32 t2.1.ak, v8 t2.1.fl, v16 t2.1.wi, v16 t2.1.ur, vb t2.1.o.hM, v16 t2.1.o.ms, vb t2.1.o.hS, v8 t2.1.o.sc, vb t2.1.o.sO, .slice A2 t2.1.o.sk.length c2, vb t2.1.o.hT, v32 t2.1.o.va, v32 t2.1.o.ec, vb t2.1.o.hO, v8 t2.1.o.ki, v8 t2.1.o.ni, v8 t2.1.o.m.x0, v8 t2.1.o.m.x1, v8 t2.1.o.m.x2, v8 t2.1.o.m.x3, v8 t2.1.o.m.x4, v8 t2.1.o.m.x5, v8 t2.1.o.m.x6, v8 t2.1.o.m.x7, v8 t2.1.o.m.x8, v8 t2.1.o.m.x9, v8 t2.1.o.m.x10, v8 t2.1.o.m.x11, .slice A3 t2.1.da.length c3] 34, .own A1 t1.1.length c1 (rowOf e8 t1.1) 1 5, .blk g1 [v16 1, v16 2, v32 5, v32 0, v8 2, v16 0, v16 0, vb false, v16 0, vb false, v8 0, vb false, .slice none 0 0, vb false, v32 0, v32 0, vb false, v8 0, v8 0, v8 0, v8 0, v8 0, v8 0, v8 0, v8 0, v8 0, v8 0, v8 0, v8 0, v8 0, v8 0, .slice none 0 0] 34]) (by kernel_rfl) ?_
              refine o_run 3 [0] (l := []) .nil (E' := [(0, vb (t5 == 1))]) (by kernel_rfl) ?_
              refine o_end (by kernel_rfl) ?_
              refine e_seq ?_
              refine w_ret (by kernel_rfl) ?_
              obtain rfl := Option.some.inj hm
              exact e_retP B1 (vb (t5 == 1)) [] (by kernel_rfl) (by kernel_rfl) rfl (by kernel_rfl) (by kernel_rfl) hx2
            · replace hm := ite_f hb7 hm
              refine o_run 5 [0] (l := []) .nil (E' := [(0, vb false)]) (by kernel_rfl) ?_
              refine o_end (by kernel_rfl) ?_
              refine e_seq ?_
              refine w_ret (by kernel_rfl) ?_
              obtain rfl := Option.some.inj hm
              exact e_retP B1 (vb false) [] (by kernel_rfl) (by kernel_rfl) rfl (by kernel_rfl) (by kernel_rfl) hx2
          · replace hm := ite_f hb6 hm
            refine o_run 10 [0] (l := []) .nil (E' := [(0, vb false)]) (by kernel_rfl) ?_
            refine o_end (by kernel_rfl) ?_
            refine e_seq ?_
            refine w_ret (by kernel_rfl) ?_
            obtain rfl := Option.some.inj hm
            exact e_retP B1 (vb false) [] (by kernel_rfl) (by kernel_rfl) rfl (by kernel_rfl) (by kernel_rfl) hx2
        · replace hm := ite_f hb5 hm
          refine o_run 15 [0] (l := []) .nil (E' := [(0, vb false)]) (by kernel_rfl) ?_
          refine o_end (by kernel_rfl) ?_
          refine e_seq ?_
          refine w_ret (by kernel_rfl) ?_
          obtain rfl := Option.some.inj hm
          exact e_retP B1 (vb false) [] (by kernel_rfl) (by kernel_rfl) rfl (by kernel_rfl) (by kernel_rfl) hx2
      · replace hm := ite_f hb4 hm
        refine o_run 18 [0] (l := []) .nil (E' := [(0, vb false)]) (by kernel_rfl) ?_
        refine o_end (by kernel_rfl) ?_
        refine e_seq ?_
        refine w_ret (by kernel_rfl) ?_
        obtain rfl := Option.some.inj hm
        exact e_retP B1 (vb false) [] (by kernel_rfl) (by kernel_rfl) rfl (by kernel_rfl) (by kernel_rfl) hx2
    · replace hm := ite_f hb3 hm
      refine o_run 23 [0] (l := []) .nil (E' := [(0, vb false)]) (by kernel_rfl) ?_
      refine o_end (by kernel_rfl) ?_
      refine e_seq ?_
      refine w_ret (by kernel_rfl) ?_
      obtain rfl := Option.some.inj hm
      exact e_retP B1 (vb false) [] (by kernel_rfl) (by kernel_rfl) rfl (by kernel_rfl) (by kernel_rfl) hx2
  · replace hm := ite_f hb2 hm
    refine o_run 27 [0] (l := []) .nil (E' := [(0, vb false)]) (by kernel_rfl) ?_
    refine o_end (by kernel_rfl) ?_
    refine e_seq ?_
    refine w_ret (by kernel_rfl) ?_
    obtain rfl := Option.some.inj hm
    exact e_retP B1 (vb false) [] (by kernel_rfl) (by kernel_rfl) rfl (by kernel_rfl) (by kernel_rfl) hx2
def ring_Diff.f (a0 : Int) (a1 : Int) : Option (Int) :=
  (some (I32 (U32 (a1 - a0))))
theorem ring_Diff_ok (a0 : Int) (a1 : Int) (r : Int) (hm : ring_Diff.f a0 a1 = some r) (B G : Asn) (w : World) (hs : St B G [] w) :
    Calls Try.prog 47 #[v32 a0, v32 a1] w (Post (X := Unit) (fun x => .int .i32 r) (fun x => B) G (fun x => []) (fun x => True)) := by
  unfold ring_Diff.f at hm
  refine calls_W (F := Try.f47) Try.func47 rfl (by kernel_rfl) (L := []) ?_ hs
  refine w_seq 2 3 (by kernel_rfl) ?_
  refine w_region (by kernel_rfl) ?_
  refine o_run 1 [0, 1] (l := []) .nil (E' := [(0, v32 a0), (1, v32 a1)]) (by kernel_rfl) ?_
  refine o_end (by kernel_rfl) ?_
  refine e_seq ?_
  refine w_seq 6 7 (by kernel_rfl) ?_
  refine w_region (by kernel_rfl) ?_
  refine o_run 5 [4] (l := []) .nil (E' := [(4, .int .i32 (I32 (U32 (a1 - a0))))]) (by kernel_rfl) ?_
  refine o_end (by kernel_rfl) ?_
  refine e_seq ?_
  refine w_ret (by kernel_rfl) ?_
  obtain rfl := Option.some.inj hm
  exact e_retP () (.int .i32 (I32 (U32 (a1 - a0)))) [] (by kernel_rfl) (by kernel_rfl) rfl (by kernel_rfl) (by kernel_rfl) trivial
def seg_Has_2.f (a0 : TS) (a1 : Int) : Option (Bool) :=
  (some ((band .u8 a0.fl a1) == a1))
theorem seg_Has_2_ok (a0 : TS) (a1 : Int) (r : Bool) (hm : seg_Has_2.f a0 a1 = some r) (B G : Asn) (A1 : Option Addr) (c1 : Nat) (A2 : Option Addr) (c2 : Nat) (hs1 : Sl kTB B A1 c1 a0.o.sk) (hs2 : Sl (kI .u8) B A2 c2 a0.da) (w : World) (hs : St B G [] w) :
    Calls Try.prog 19 #[.agg #[v16 a0.sr, v16 a0.ds, v32 a0.sq, v32 a0.ak, v8 a0.fl, v16 a0.wi, v16 a0.ur, vb a0.o.hM, v16 a0.o.ms, vb a0.o.hS, v8 a0.o.sc, vb a0.o.sO, .slice A1 a0.o.sk.length c1, vb a0.o.hT, v32 a0.o.va, v32 a0.o.ec, vb a0.o.hO, v8 a0.o.ki, v8 a0.o.ni, v8 a0.o.m.x0, v8 a0.o.m.x1, v8 a0.o.m.x2, v8 a0.o.m.x3, v8 a0.o.m.x4, v8 a0.o.m.x5, v8 a0.o.m.x6, v8 a0.o.m.x7, v8 a0.o.m.x8, v8 a0.o.m.x9, v8 a0.o.m.x10, v8 a0.o.m.x11, .slice A2 a0.da.length c2], v8 a1] w (Post (X := Unit) (fun x => vb r) (fun x => B) G (fun x => []) (fun x => True)) := by
  unfold seg_Has_2.f at hm
  refine calls_W (F := Try.f19) Try.func19 rfl (by kernel_rfl) (L := []) ?_ hs
  refine w_seq 2 3 (by kernel_rfl) ?_
  refine w_region (by kernel_rfl) ?_
  refine o_stp ?_ (by kernel_rfl)
  refine s_new 2 (fun g1 => (pg g1)) [v16 a0.sr, v16 a0.ds, v32 a0.sq, v32 a0.ak, v8 a0.fl, v16 a0.wi, v16 a0.ur, vb a0.o.hM, v16 a0.o.ms, vb a0.o.hS, v8 a0.o.sc, vb a0.o.sO, .slice A1 a0.o.sk.length c1, vb a0.o.hT, v32 a0.o.va, v32 a0.o.ec, vb a0.o.hO, v8 a0.o.ki, v8 a0.o.ni, v8 a0.o.m.x0, v8 a0.o.m.x1, v8 a0.o.m.x2, v8 a0.o.m.x3, v8 a0.o.m.x4, v8 a0.o.m.x5, v8 a0.o.m.x6, v8 a0.o.m.x7, v8 a0.o.m.x8, v8 a0.o.m.x9, v8 a0.o.m.x10, v8 a0.o.m.x11, .slice A2 a0.da.length c2] 34 (fun _ => by kernel_rfl) (fun g1 => ?_)
  refine o_run 1 [1, 2] (l := []) .nil (E' := [(1, v8 a1), (2, (pg g1))]) (by kernel_rfl) ?_
  refine o_end (by kernel_rfl) ?_
  refine e_seq ?_
  refine w_seq 6 7 (by kernel_rfl) ?_
  refine w_region (by kernel_rfl) ?_
  refine o_run 7 [4] (l := [(⟨g1, 4, none⟩, v8 a0.fl)]) (.one (at_blk (j := 0) rfl rfl) .nil) (E' := [(4, vb ((band .u8 a0.fl a1) == a1))]) (by kernel_rfl) ?_
  refine o_end (by kernel_rfl) ?_
  refine e_seq ?_
  refine w_ret (by kernel_rfl) ?_
  obtain rfl := Option.some.inj hm
  exact e_retP () (vb ((band .u8 a0.fl a1) == a1)) [] (by kernel_rfl) (by kernel_rfl) rfl (by kernel_rfl) (by kernel_rfl) trivial
def seg_drop.f (a0 : TS) (a1 : Int) (a2 : Int) : Option (Int × TS) :=
  (if decide (a2 > 0) then ((seg_Has_2.f a0 a1).bind fun t1 => (if t1 then (some (I64 (a2 - 1), (⟨a0.sr, a0.ds, a0.sq, a0.ak, bandn .u8 a0.fl a1, a0.wi, a0.ur, a0.o, a0.da⟩ : TS))) else (some (a2, a0)))) else (some (a2, a0)))
theorem seg_drop_ok (a0 : TS) (a1 : Int) (a2 : Int) (r : Int × TS) (hm : seg_drop.f a0 a1 a2 = some r) (B G : Asn) (g1 : Nat) (A1 : Option Addr) (c1 : Nat) (A2 : Option Addr) (c2 : Nat) (hs1 : Sl kTB B A1 c1 a0.o.sk) (hs2 : Sl (kI .u8) B A2 c2 a0.da) (w : World) (hs : St B G [.blk g1 [v16 a0.sr, v16 a0.ds, v32 a0.sq, v32 a0.ak, v8 a0.fl, v16 a0.wi, v16 a0.ur, vb a0.o.hM, v16 a0.o.ms, vb a0.o.hS, v8 a0.o.sc, vb a0.o.sO, .slice A1 a0.o.sk.length c1, vb a0.o.hT, v32 a0.o.va, v32 a0.o.ec, vb a0.o.hO, v8 a0.o.ki, v8 a0.o.ni, v8 a0.o.m.x0, v8 a0.o.m.x1, v8 a0.o.m.x2, v8 a0.o.m.x3, v8 a0.o.m.x4, v8 a0.o.m.x5, v8 a0.o.m.x6, v8 a0.o.m.x7, v8 a0.o.m.x8, v8 a0.o.m.x9, v8 a0.o.m.x10, v8 a0.o.m.x11, .slice A2 a0.da.length c2] 34] w) :
    Calls Try.prog 48 #[pg g1, v8 a1, v64 a2] w (Post (X := (Option Addr) × Nat × (Option Addr) × Nat) (fun x => v64 r.1) (fun x => B) G (fun x => [.blk g1 [v16 r.2.sr, v16 r.2.ds, v32 r.2.sq, v32 r.2.ak, v8 r.2.fl, v16 r.2.wi, v16 r.2.ur, vb r.2.o.hM, v16 r.2.o.ms, vb r.2.o.hS, v8 r.2.o.sc, vb r.2.o.sO, .slice x.1 r.2.o.sk.length x.2.1, vb r.2.o.hT, v32 r.2.o.va, v32 r.2.o.ec, vb r.2.o.hO, v8 r.2.o.ki, v8 r.2.o.ni, v8 r.2.o.m.x0, v8 r.2.o.m.x1, v8 r.2.o.m.x2, v8 r.2.o.m.x3, v8 r.2.o.m.x4, v8 r.2.o.m.x5, v8 r.2.o.m.x6, v8 r.2.o.m.x7, v8 r.2.o.m.x8, v8 r.2.o.m.x9, v8 r.2.o.m.x10, v8 r.2.o.m.x11, .slice x.2.2.1 r.2.da.length x.2.2.2] 34]) (fun x => (Sl kTB B x.1 x.2.1 r.2.o.sk) ∧ (Sl (kI .u8) B x.2.2.1 x.2.2.2 r.2.da))) := by
  unfold seg_drop.f at hm
  refine calls_W (F := Try.f48) Try.func48 rfl (by kernel_rfl) (L := [.blk g1 [v16 a0.sr, v16 a0.ds, v32 a0.sq, v32 a0.ak, v8 a0.fl, v16 a0.wi, v16 a0.ur, vb a0.o.hM, v16 a0.o.ms, vb a0.o.hS, v8 a0.o.sc, vb a0.o.sO, .slice A1 a0.o.sk.length c1, vb a0.o.hT, v32 a0.o.va, v32 a0.o.ec, vb a0.o.hO, v8 a0.o.ki, v8 a0.o.ni, v8 a0.o.m.x0, v8 a0.o.m.x1, v8 a0.o.m.x2, v8 a0.o.m.x3, v8 a0.o.m.x4, v8 a0.o.m.x5, v8 a0.o.m.x6, v8 a0.o.m.x7, v8 a0.o.m.x8, v8 a0.o.m.x9, v8 a0.o.m.x10, v8 a0.o.m.x11, .slice A2 a0.da.length c2] 34]) ?_ hs
  refine w_seq 2 3 (by kernel_rfl) ?_
  refine w_region (by kernel_rfl) ?_
  refine o_run 1 [0, 1, 2] (l := []) .nil (E' := [(0, (pg g1)), (1, v8 a1), (2, v64 a2)]) (by kernel_rfl) ?_
  refine o_end (by kernel_rfl) ?_
  refine e_seq ?_
  refine w_seq 6 7 (by kernel_rfl) ?_
  refine w_seq 12 13 (by kernel_rfl) ?_
  refine w_region (by kernel_rfl) ?_
  refine o_run 3 [0, 1, 2, 9] (l := []) .nil (E' := [(0, (pg g1)), (1, v8 a1), (2, v64 a2), (9, vb (decide (a2 > 0)))]) (by kernel_rfl) ?_
  refine o_split 9 (decide (a2 > 0)) (by kernel_rfl) (fun hb1 => ?_) (fun hb1 => ?_)
  · replace hm := ite_t hb1 hm
    refine o_run 2 [0, 1, 2, 9, 11] (l := []) .nil (E' := [(0, (pg g1)), (1, v8 a1), (2, v64 a2), (9, vb true), (11, (pg g1))]) (by kernel_rfl) ?_
    refine o_val 12 (.load 34 (.tmp 11)) (.agg #[v16 a0.sr, v16 a0.ds, v32 a0.sq, v32 a0.ak, v8 a0.fl, v16 a0.wi, v16 a0.ur, vb a0.o.hM, v16 a0.o.ms, vb a0.o.hS, v8 a0.o.sc, vb a0.o.sO, .slice A1 a0.o.sk.length c1, vb a0.o.hT, v32 a0.o.va, v32 a0.o.ec, vb a0.o.hO, v8 a0.o.ki, v8 a0.o.ni, v8 a0.o.m.x0, v8 a0.o.m.x1, v8 a0.o.m.x2, v8 a0.o.m.x3, v8 a0.o.m.x4, v8 a0.o.m.x5, v8 a0.o.m.x6, v8 a0.o.m.x7, v8 a0.o.m.x8, v8 a0.o.m.x9, v8 a0.o.m.x10, v8 a0.o.m.x11, .slice A2 a0.da.length c2]) (by kernel_rfl) (v_load (l := [v16 a0.sr, v16 a0.ds, v32 a0.sq, v32 a0.ak, v8 a0.fl, v16 a0.wi, v16 a0.ur, vb a0.o.hM, v16 a0.o.ms, vb a0.o.hS, v8 a0.o.sc, vb a0.o.sO, .slice A1 a0.o.sk.length c1, vb a0.o.hT, v32 a0.o.va, v32 a0.o.ec, vb a0.o.hO, v8 a0.o.ki, v8 a0.o.ni, v8 a0.o.m.x0, v8 a0.o.m.x1, v8 a0.o.m.x2, v8 a0.o.m.x3, v8 a0.o.m.x4, v8 a0.o.m.x5, v8 a0.o.m.x6, v8 a0.o.m.x7, v8 a0.o.m.x8, v8 a0.o.m.x9, v8 a0.o.m.x10, v8 a0.o.m.x11, .slice A2 a0.da.length c2]) (a := ⟨g1, 0, none⟩) (by kernel_rfl) (by kernel_rfl) (at_blk (j := 0) rfl rfl)) ?_
    refine o_run 1 [0, 1, 2, 9, 12, 13] (l := []) .nil (E' := [(0, (pg g1)), (1, v8 a1), (2, v64 a2), (9, vb true), (12, .agg #[v16 a0.sr, v16 a0.ds, v32 a0.sq, v32 a0.ak, v8 a0.fl, v16 a0.wi, v16 a0.ur, vb a0.o.hM, v16 a0.o.ms, vb a0.o.hS, v8 a0.o.sc, vb a0.o.sO, .slice A1 a0.o.sk.length c1, vb a0.o.hT, v32 a0.o.va, v32 a0.o.ec, vb a0.o.hO, v8 a0.o.ki, v8 a0.o.ni, v8 a0.o.m.x0, v8 a0.o.m.x1, v8 a0.o.m.x2, v8 a0.o.m.x3, v8 a0.o.m.x4, v8 a0.o.m.x5, v8 a0.o.m.x6, v8 a0.o.m.x7, v8 a0.o.m.x8, v8 a0.o.m.x9, v8 a0.o.m.x10, v8 a0.o.m.x11, .slice A2 a0.da.length c2]), (13, v8 a1)]) (by kernel_rfl) ?_
    obtain ⟨t1, hx1, hm⟩ := bind_some hm
    refine o_stp ?_ (by kernel_rfl)
    refine s_call 14 19 #[.agg #[v16 a0.sr, v16 a0.ds, v32 a0.sq, v32 a0.ak, v8 a0.fl, v16 a0.wi, v16 a0.ur, vb a0.o.hM, v16 a0.o.ms, vb a0.o.hS, v8 a0.o.sc, vb a0.o.sO, .slice A1 a0.o.sk.length c1, vb a0.o.hT, v32 a0.o.va, v32 a0.o.ec, vb a0.o.hO, v8 a0.o.ki, v8 a0.o.ni, v8 a0.o.m.x0, v8 a0.o.m.x1, v8 a0.o.m.x2, v8 a0.o.m.x3, v8 a0.o.m.x4, v8 a0.o.m.x5, v8 a0.o.m.x6, v8 a0.o.m.x7, v8 a0.o.m.x8, v8 a0.o.m.x9, v8 a0.o.m.x10, v8 a0.o.m.x11, .slice A2 a0.da.length c2], v8 a1] [] [0] (by kernel_rfl) (by kernel_rfl) (fun w hs => seg_Has_2_ok a0 a1 t1 hx1 B _ A1 c1 A2 c2 hs1 hs2 w (St.cast (by kernel_rfl) hs)) (fun _ hx => ?_)
    refine t_L (L' := [.blk g1 [v16 a0.sr, v16 a0.ds, v32 a0.sq, v32 a0.ak, v8 a0.fl, v16 a0.wi, v16 a0.ur, vb a0.o.hM, v16 a0.o.ms, vb a0.o.hS, v8 a0.o.sc, vb a0.o.sO, .slice A1 a0.o.sk.length c1, vb a0.o.hT, v32 a0.o.va, v32 a0.o.ec, vb a0.o.hO, v8 a0.o.ki, v8 a0.o.ni, v8 a0.o.m.x0, v8 a0.o.m.x1, v8 a0.o.m.x2, v8 a0.o.m.x3, v8 a0.o.m.x4, v8 a0.o.m.x5, v8 a0.o.m.x6, v8 a0.o.m.x7, v8 a0.o.m.x8, v8 a0.o.m.x9, v8 a0.o.m.x10, v8 a0.o.m.x11, .slice A2 a0.da.length c2] 34]) (by kernel_rfl) ?_
    refine o_run 1 [0, 1, 2, 15] (l := []) .nil (E' := [(0, (pg g1)), (1, v8 a1), (2, v64 a2), (15, vb t1)]) (by kernel_rfl) ?_
    refine o_end (by kernel_rfl) ?_
    refine e_seq ?_
    refine w_cond (.tmp 15) 26 27 t1 (by kernel_rfl) (by kernel_rfl) (fun hb2 => ?_) (fun hb2 => ?_)
    · replace hm := ite_t hb2 hm
      refine w_seq 52 53 (by kernel_rfl) ?_
      refine w_region (by kernel_rfl) ?_
      refine o_run 8 [2, 21, 23] (l := [(⟨g1, 4, none⟩, v8 a0.fl)]) (.one (at_blk (j := 0) rfl rfl) .nil) (E' := [(2, v64 a2), (21, v8 (bandn .u8 a0.fl a1)), (23, .pointer (some ⟨g1, 4, none⟩))]) (by kernel_rfl) ?_
      refine o_stp ?_ (by kernel_rfl)
      refine s_store 0 g1 [v16 a0.sr, v16 a0.ds, v32 a0.sq, v32 a0.ak, v8 a0.fl, v16 a0.wi, v16 a0.ur, vb a0.o.hM, v16 a0.o.ms, vb a0.o.hS, v8 a0.o.sc, vb a0.o.sO, .slice A1 a0.o.sk.length c1, vb a0.o.hT, v32 a0.o.va, v32 a0.o.ec, vb a0.o.hO, v8 a0.o.ki, v8 a0.o.ni, v8 a0.o.m.x0, v8 a0.o.m.x1, v8 a0.o.m.x2, v8 a0.o.m.x3, v8 a0.o.m.x4, v8 a0.o.m.x5, v8 a0.o.m.x6, v8 a0.o.m.x7, v8 a0.o.m.x8, v8 a0.o.m.x9, v8 a0.o.m.x10, v8 a0.o.m.x11, .slice A2 a0.da.length c2] 34 [(4, v8 (bandn .u8 a0.fl a1))] (by kernel_rfl) (by kernel_rfl) (by kernel_rfl) ?_
      refine t_L (L' := [.blk g1 [v16 a0.sr, v16 a0.ds, v32 a0.sq, v32 a0.ak, v8 (bandn .u8 a0.fl a1), v16 a0.wi, v16 a0.ur, vb a0.o.hM, v16 a0.o.ms, vb a0.o.hS, v8 a0.o.sc, vb a0.o.sO, .slice A1 a0.o.sk.length c1, vb a0.o.hT, v32 a0.o.va, v32 a0.o.ec, vb a0.o.hO, v8 a0.o.ki, v8 a0.o.ni, v8 a0.o.m.x0, v8 a0.o.m.x1, v8 a0.o.m.x2, v8 a0.o.m.x3, v8 a0.o.m.x4, v8 a0.o.m.x5, v8 a0.o.m.x6, v8 a0.o.m.x7, v8 a0.o.m.x8, v8 a0.o.m.x9, v8 a0.o.m.x10, v8 a0.o.m.x11, .slice A2 a0.da.length c2] 34]) (by kernel_rfl) ?_
      refine o_end (by kernel_rfl) ?_
      refine e_seq ?_
      refine w_region (by kernel_rfl) ?_
      refine o_run 3 [2] (l := []) .nil (E' := [(2, v64 (I64 (a2 - 1)))]) (by kernel_rfl) ?_
      refine o_end (by kernel_rfl) ?_
      refine e_seq ?_
      refine w_seq 14 15 (by kernel_rfl) ?_
      refine w_region (by kernel_rfl) ?_
      refine o_run 2 [6] (l := []) .nil (E' := [(6, v64 (I64 (a2 - 1)))]) (by kernel_rfl) ?_
      refine o_end (by kernel_rfl) ?_
      refine e_seq ?_
      refine w_ret (by kernel_rfl) ?_
      obtain rfl := Option.some.inj hm
      exact e_retP (A1, c1, A2, c2) (v64 (I64 (a2 - 1))) [0] (by kernel_rfl) (by kernel_rfl) rfl (by kernel_rfl) (by kernel_rfl) ⟨hs1, hs2⟩
    · replace hm := ite_f hb2 hm
      refine w_skip (by kernel_rfl) ?_
      refine e_seq ?_
      refine w_seq 14 15 (by kernel_rfl) ?_
      refine w_region (by kernel_rfl) ?_
      refine o_run 2 [6] (l := []) .nil (E' := [(6, v64 a2)]) (by kernel_rfl) ?_
      refine o_end (by kernel_rfl) ?_
      refine e_seq ?_
      refine w_ret (by kernel_rfl) ?_
      obtain rfl := Option.some.inj hm
      exact e_retP (A1, c1, A2, c2) (v64 a2) [0] (by kernel_rfl) (by kernel_rfl) rfl (by kernel_rfl) (by kernel_rfl) ⟨hs1, hs2⟩
  · replace hm := ite_f hb1 hm
    refine o_run 6 [0, 1, 2, 15] (l := []) .nil (E' := [(0, (pg g1)), (1, v8 a1), (2, v64 a2), (15, vb false)]) (by kernel_rfl) ?_
    refine o_end (by kernel_rfl) ?_
    refine e_seq ?_
    refine w_cond_f (.tmp 15) 26 27 (by kernel_rfl) (by kernel_rfl) ?_
    refine w_skip (by kernel_rfl) ?_
    refine e_seq ?_
    refine w_seq 14 15 (by kernel_rfl) ?_
    refine w_region (by kernel_rfl) ?_
    refine o_run 2 [6] (l := []) .nil (E' := [(6, v64 a2)]) (by kernel_rfl) ?_
    refine o_end (by kernel_rfl) ?_
    refine e_seq ?_
    refine w_ret (by kernel_rfl) ?_
    obtain rfl := Option.some.inj hm
    exact e_retP (A1, c1, A2, c2) (v64 a2) [0] (by kernel_rfl) (by kernel_rfl) rfl (by kernel_rfl) (by kernel_rfl) ⟨hs1, hs2⟩
def seg_Len_3.f (a0 : TS) : Option (Int) :=
  (some (U32 ((U32 ((U32 (a0.da.length : Int)) + (U32 (band .u8 a0.fl 1)))) + (bshr .u32 (U32 (band .u8 a0.fl 2)) 1))))
theorem seg_Len_3_ok (a0 : TS) (r : Int) (hm : seg_Len_3.f a0 = some r) (B G : Asn) (A1 : Option Addr) (c1 : Nat) (A2 : Option Addr) (c2 : Nat) (hs1 : Sl kTB B A1 c1 a0.o.sk) (hs2 : Sl (kI .u8) B A2 c2 a0.da) (w : World) (hs : St B G [] w) :
    Calls Try.prog 15 #[.agg #[v16 a0.sr, v16 a0.ds, v32 a0.sq, v32 a0.ak, v8 a0.fl, v16 a0.wi, v16 a0.ur, vb a0.o.hM, v16 a0.o.ms, vb a0.o.hS, v8 a0.o.sc, vb a0.o.sO, .slice A1 a0.o.sk.length c1, vb a0.o.hT, v32 a0.o.va, v32 a0.o.ec, vb a0.o.hO, v8 a0.o.ki, v8 a0.o.ni, v8 a0.o.m.x0, v8 a0.o.m.x1, v8 a0.o.m.x2, v8 a0.o.m.x3, v8 a0.o.m.x4, v8 a0.o.m.x5, v8 a0.o.m.x6, v8 a0.o.m.x7, v8 a0.o.m.x8, v8 a0.o.m.x9, v8 a0.o.m.x10, v8 a0.o.m.x11, .slice A2 a0.da.length c2]] w (Post (X := Unit) (fun x => v32 r) (fun x => B) G (fun x => []) (fun x => True)) := by
  unfold seg_Len_3.f at hm
  refine calls_W (F := Try.f15) Try.func15 rfl (by kernel_rfl) (L := []) ?_ hs
  refine w_seq 2 3 (by kernel_rfl) ?_
  refine w_region (by kernel_rfl) ?_
  refine o_stp ?_ (by kernel_rfl)
  refine s_new 1 (fun g1 => (pg g1)) [v16 a0.sr, v16 a0.ds, v32 a0.sq, v32 a0.ak, v8 a0.fl, v16 a0.wi, v16 a0.ur, vb a0.o.hM, v16 a0.o.ms, vb a0.o.hS, v8 a0.o.sc, vb a0.o.sO, .slice A1 a0.o.sk.length c1, vb a0.o.hT, v32 a0.o.va, v32 a0.o.ec, vb a0.o.hO, v8 a0.o.ki, v8 a0.o.ni, v8 a0.o.m.x0, v8 a0.o.m.x1, v8 a0.o.m.x2, v8 a0.o.m.x3, v8 a0.o.m.x4, v8 a0.o.m.x5, v8 a0.o.m.x6, v8 a0.o.m.x7, v8 a0.o.m.x8, v8 a0.o.m.x9, v8 a0.o.m.x10, v8 a0.o.m.x11, .slice A2 a0.da.length c2] 34 (fun _ => by kernel_rfl) (fun g1 => ?_)
  refine o_run 1 [1] (l := []) .nil (E' := [(1, (pg g1))]) (by kernel_rfl) ?_
  refine o_end (by kernel_rfl) ?_
  refine e_seq ?_
  refine w_seq 6 7 (by kernel_rfl) ?_
  refine w_region (by kernel_rfl) ?_
  refine o_run 16 [2] (l := [(⟨g1, 31, none⟩, .slice A2 a0.da.length c2), (⟨g1, 4, none⟩, v8 a0.fl), (⟨g1, 4, none⟩, v8 a0.fl)]) (.one (at_blk (j := 0) rfl rfl) (.one (at_blk (j := 0) rfl rfl) (.one (at_blk (j := 0) rfl rfl) .nil))) (E' := [(2, v32 (U32 ((U32 ((U32 (a0.da.length : Int)) + (U32 (band .u8 a0.fl 1)))) + (bshr .u32 (U32 (band .u8 a0.fl 2)) 1))))]) (by kernel_rfl) ?_
  refine o_end (by kernel_rfl) ?_
  refine e_seq ?_
  refine w_ret (by kernel_rfl) ?_
  obtain rfl := Option.some.inj hm
  exact e_retP () (v32 (U32 ((U32 ((U32 (a0.da.length : Int)) + (U32 (band .u8 a0.fl 1)))) + (bshr .u32 (U32 (band .u8 a0.fl 2)) 1)))) [] (by kernel_rfl) (by kernel_rfl) rfl (by kernel_rfl) (by kernel_rfl) trivial
def seg_Trim.f (a0 : TS) (a1 : Int) (a2 : Int) : Option (TS) :=
  ((ring_Diff.f a0.sq a1).bind fun t1 => ((if decide ((I64 t1) > 0) then ((seg_drop.f a0 2 (I64 t1)).bind fun t7 => ((cut t7.2.da (imin t7.1 (t7.2.da.length : Int)) (t7.2.da.length : Int)).bind fun l2 => ((seg_drop.f (⟨t7.2.sr, t7.2.ds, t7.2.sq, t7.2.ak, t7.2.fl, t7.2.wi, t7.2.ur, t7.2.o, l2⟩ : TS) 1 (I64 (t7.1 - (imin t7.1 (t7.2.da.length : Int))))).bind fun t8 => (some (0, (⟨t8.2.sr, t8.2.ds, a1, t8.2.ak, t8.2.fl, t8.2.wi, t8.2.ur, t8.2.o, t8.2.da⟩ : TS)))))) else (some (I64 t1, a0))).bind fun t2 => ((seg_Len_3.f (t2.2)).bind fun t3 => ((seg_drop.f (t2.2) 1 (I64 ((I64 t3) - (imax (I64 ((I64 a2) + t2.1)) 0)))).bind fun t4 => (if decide ((imin (imax t4.1 0) (t4.2.da.length : Int)) > 0) then ((cut t4.2.da 0 (I64 ((t4.2.da.length : Int) - (imin (imax t4.1 0) (t4.2.da.length : Int))))).bind fun l1 => ((seg_drop.f (⟨t4.2.sr, t4.2.ds, t4.2.sq, t4.2.ak, t4.2.fl, t4.2.wi, t4.2.ur, t4.2.o, l1⟩ : TS) 2 (I64 (t4.1 - (imin (imax t4.1 0) (t4.2.da.length : Int))))).bind fun t5 => (some t5.2))) else ((seg_drop.f t4.2 2 t4.1).bind fun t6 => (some t6.2)))))))
theorem seg_Trim_ok (a0 : TS) (a1 : Int) (a2 : Int) (r : TS) (hm : seg_Trim.f a0 a1 a2 = some r) (B G : Asn) (A1 : Option Addr) (c1 : Nat) (A2 : Option Addr) (c2 : Nat) (hs1 : Sl kTB B A1 c1 a0.o.sk) (hs2 : Sl (kI .u8) B A2 c2 a0.da) (w : World) (hs : St B G [] w) :
    Calls Try.prog 25 #[.agg #[v16 a0.sr, v16 a0.ds, v32 a0.sq, v32 a0.ak, v8 a0.fl, v16 a0.wi, v16 a0.ur, vb a0.o.hM, v16 a0.o.ms, vb a0.o.hS, v8 a0.o.sc, vb a0.o.sO, .slice A1 a0.o.sk.length c1, vb a0.o.hT, v32 a0.o.va, v32 a0.o.ec, vb a0.o.hO, v8 a0.o.ki, v8 a0.o.ni, v8 a0.o.m.x0, v8 a0.o.m.x1, v8 a0.o.m.x2, v8 a0.o.m.x3, v8 a0.o.m.x4, v8 a0.o.m.x5, v8 a0.o.m.x6, v8 a0.o.m.x7, v8 a0.o.m.x8, v8 a0.o.m.x9, v8 a0.o.m.x10, v8 a0.o.m.x11, .slice A2 a0.da.length c2], v32 a1, v32 a2] w (Post (X := (Option Addr) × Nat × (Option Addr) × Nat) (fun x => .agg #[v16 r.sr, v16 r.ds, v32 r.sq, v32 r.ak, v8 r.fl, v16 r.wi, v16 r.ur, vb r.o.hM, v16 r.o.ms, vb r.o.hS, v8 r.o.sc, vb r.o.sO, .slice x.1 r.o.sk.length x.2.1, vb r.o.hT, v32 r.o.va, v32 r.o.ec, vb r.o.hO, v8 r.o.ki, v8 r.o.ni, v8 r.o.m.x0, v8 r.o.m.x1, v8 r.o.m.x2, v8 r.o.m.x3, v8 r.o.m.x4, v8 r.o.m.x5, v8 r.o.m.x6, v8 r.o.m.x7, v8 r.o.m.x8, v8 r.o.m.x9, v8 r.o.m.x10, v8 r.o.m.x11, .slice x.2.2.1 r.da.length x.2.2.2]) (fun x => B) G (fun x => []) (fun x => (Sl kTB B x.1 x.2.1 r.o.sk) ∧ (Sl (kI .u8) B x.2.2.1 x.2.2.2 r.da))) := by
  unfold seg_Trim.f at hm
  refine calls_W (F := Try.f25) Try.func25 rfl (by kernel_rfl) (L := []) ?_ hs
  refine w_seq 2 3 (by kernel_rfl) ?_
  refine w_region (by kernel_rfl) ?_
  refine o_stp ?_ (by kernel_rfl)
  refine s_new 3 (fun g1 => (pg g1)) [v16 a0.sr, v16 a0.ds, v32 a0.sq, v32 a0.ak, v8 a0.fl, v16 a0.wi, v16 a0.ur, vb a0.o.hM, v16 a0.o.ms, vb a0.o.hS, v8 a0.o.sc, vb a0.o.sO, .slice A1 a0.o.sk.length c1, vb a0.o.hT, v32 a0.o.va, v32 a0.o.ec, vb a0.o.hO, v8 a0.o.ki, v8 a0.o.ni, v8 a0.o.m.x0, v8 a0.o.m.x1, v8 a0.o.m.x2, v8 a0.o.m.x3, v8 a0.o.m.x4, v8 a0.o.m.x5, v8 a0.o.m.x6, v8 a0.o.m.x7, v8 a0.o.m.x8, v8 a0.o.m.x9, v8 a0.o.m.x10, v8 a0.o.m.x11, .slice A2 a0.da.length c2] 34 (fun _ => by kernel_rfl) (fun g1 => ?_)
  refine o_stp ?_ (by kernel_rfl)
  refine s_new 6 (fun g2 => (pg g2)) [v16 0, v16 0, v32 0, v32 0, v8 0, v16 0, v16 0, vb false, v16 0, vb false, v8 0, vb false, .slice none 0 0, vb false, v32 0, v32 0, vb false, v8 0, v8 0, v8 0, v8 0, v8 0, v8 0, v8 0, v8 0, v8 0, v8 0, v8 0, v8 0, v8 0, v8 0, .slice none 0 0] 34 (fun _ => by kernel_rfl) (fun g2 => ?_)
  refine o_end (by kernel_rfl) ?_
  refine e_seq ?_
  refine w_seq 6 7 (by kernel_rfl) ?_
  refine w_region (by kernel_rfl) ?_
  refine o_run 3 [1, 2, 3, 6, 14, 15] (l := [(⟨g1, 2, none⟩, v32 a0.sq)]) (.one (at_blk (j := 1) rfl rfl) .nil) (E' := [(1, v32 a1), (2, v32 a2), (3, (pg g1)), (6, (pg g2)), (14, v32 a0.sq), (15, v32 a1)]) (by kernel_rfl) ?_
  obtain ⟨t1, hx1, hm⟩ := bind_some hm
  refine o_stp ?_ (by kernel_rfl)
  refine s_call 16 47 #[v32 a0.sq, v32 a1] [] [0, 1] (by kernel_rfl) (by kernel_rfl) (fun w hs => ring_Diff_ok a0.sq a1 t1 hx1 B _ w (St.cast (by kernel_rfl) hs)) (fun _ hx => ?_)
  refine t_L (L' := [.blk g2 [v16 0, v16 0, v32 0, v32 0, v8 0, v16 0, v16 0, vb false, v16 0, vb false, v8 0, vb false, .slice none 0 0, vb false, v32 0, v32 0, vb false, v8 0, v8 0, v8 0, v8 0, v8 0, v8 0, v8 0, v8 0, v8 0, v8 0, v8 0, v8 0, v8 0, v8 0, .slice none 0 0] 34, .blk g1 [v16 a0.sr, v16 a0.ds, v32 a0.sq, v32 a0.ak, v8 a0.fl, v16 a0.wi, v16 a0.ur, vb a0.o.hM, v16 a0.o.ms, vb a0.o.hS, v8 a0.o.sc, vb a0.o.sO, .slice A1 a0.o.sk.length c1, vb a0.o.hT, v32 a0.o.va, v32 a0.o.ec, vb a0.o.hO, v8 a0.o.ki, v8 a0.o.ni, v8 a0.o.m.x0, v8 a0.o.m.x1, v8 a0.o.m.x2, v8 a0.o.m.x3, v8 a0.o.m.x4, v8 a0.o.m.x5, v8 a0.o.m.x6, v8 a0.o.m.x7, v8 a0.o.m.x8, v8 a0.o.m.x9, v8 a0.o.m.x10, v8 a0.o.m.x11, .slice A2 a0.da.length c2] 34]) (by kernel_rfl) ?_
  refine o_run 2 [1, 2, 3, 6, 7] (l := []) .nil (E' := [(1, v32 a1), (2, v32 a2), (3, (pg g1)), (6, (pg g2)), (7, v64 (I64 t1))]) (by kernel_rfl) ?_
  refine o_end (by kernel_rfl) ?_
  refine e_seq ?_
  refine w_seq 14 15 (by kernel_rfl) ?_
  refine w_seq 28 29 (by kernel_rfl) ?_
  refine w_region (by kernel_rfl) ?_
  refine o_run 2 [1, 2, 3, 6, 7, 19] (l := []) .nil (E' := [(1, v32 a1), (2, v32 a2), (3, (pg g1)), (6, (pg g2)), (7, v64 (I64 t1)), (19, vb (decide ((I64 t1) > 0)))]) (by kernel_rfl) ?_
  refine o_end (by kernel_rfl) ?_
  refine e_seq ?_
  obtain ⟨t2, ht1, ho1⟩ := bind_some hm
  refine w_joinJ (fun a w => ∃ (A3 : Option Addr) (c3 : Nat) (A4 : Option Addr) (c4 : Nat), Sl kTB B A3 c3 (((t2.2).o).sk) ∧ Sl (kI .u8) B A4 c4 ((t2.2).da) ∧ EnvOk [(2, v32 a2), (3, (pg g1)), (6, (pg g2)), (7, v64 t2.1)] Try.f25.ntmps a ∧ St B G [.blk g2 [v16 0, v16 0, v32 0, v32 0, v8 0, v16 0, v16 0, vb false, v16 0, vb false, v8 0, vb false, .slice none 0 0, vb false, v32 0, v32 0, vb false, v8 0, v8 0, v8 0, v8 0, v8 0, v8 0, v8 0, v8 0, v8 0, v8 0, v8 0, v8 0, v8 0, v8 0, .slice none 0 0] 34, .blk g1 [v16 ((t2.2).sr), v16 ((t2.2).ds), v32 ((t2.2).sq), v32 ((t2.2).ak), v8 ((t2.2).fl), v16 ((t2.2).wi), v16 ((t2.2).ur), vb (((t2.2).o).hM), v16 (((t2.2).o).ms), vb (((t2.2).o).hS), v8 (((t2.2).o).sc), vb (((t2.2).o).sO), .slice A3 (((t2.2).o).sk).length c3, vb (((t2.2).o).hT), v32 (((t2.2).o).va), v32 (((t2.2).o).ec), vb (((t2.2).o).hO), v8 (((t2.2).o).ki), v8 (((t2.2).o).ni), v8 ((((t2.2).o).m).x0), v8 ((((t2.2).o).m).x1), v8 ((((t2.2).o).m).x2), v8 ((((t2.2).o).m).x3), v8 ((((t2.2).o).m).x4), v8 ((((t2.2).o).m).x5), v8 ((((t2.2).o).m).x6), v8 ((((t2.2).o).m).x7), v8 ((((t2.2).o).m).x8), v8 ((((t2.2).o).m).x9), v8 ((((t2.2).o).m).x10), v8 ((((t2.2).o).m).x11), .slice A4 ((t2.2).da).length c4] 34] w) ?_ ?_
  · rintro a w ⟨A3, c3, A4, c4, hs3, hs4, ha, hw⟩
    refine we_of (E := [(2, v32 a2), (3, (pg g1)), (6, (pg g2)), (7, v64 t2.1)]) (B := B) (G := G) (L := [.blk g2 [v16 0, v16 0, v32 0, v32 0, v8 0, v16 0, v16 0, vb false, v16 0, vb false, v8 0, vb false, .slice none 0 0, vb false, v32 0, v32 0, vb false, v8 0, v8 0, v8 0, v8 0, v8 0, v8 0, v8 0, v8 0, v8 0, v8 0, v8 0, v8 0, v8 0, v8 0, .slice none 0 0] 34, .blk g1 [v16 ((t2.2).sr), v16 ((t2.2).ds), v32 ((t2.2).sq), v32 ((t2.2).ak), v8 ((t2.2).fl), v16 ((t2.2).wi), v16 ((t2.2).ur), vb (((t2.2).o).hM), v16 (((t2.2).o).ms), vb (((t2.2).o).hS), v8 (((t2.2).o).sc), vb (((t2.2).o).sO), .slice A3 (((t2.2).o).sk).length c3, vb (((t2.2).o).hT), v32 (((t2.2).o).va), v32 (((t2.2).o).ec), vb (((t2.2).o).hO), v8 (((t2.2).o).ki), v8 (((t2.2).o).ni), v8 ((((t2.2).o).m).x0), v8 ((((t2.2).o).m).x1), v8 ((((t2.2).o).m).x2), v8 ((((t2.2).o).m).x3), v8 ((((t2.2).o).m).x4), v8 ((((t2.2).o).m).x5), v8 ((((t2.2).o).m).x6), v8 ((((t2.2).o).m).x7), v8 ((((t2.2).o).m).x8), v8 ((((t2.2).o).m).x9), v8 ((((t2.2).o).m).x10), v8 ((((t2.2).o).m).x11), .slice A4 ((t2.2).da).length c4] 34]) ?_ ha hw
    have hm := ho1
    refine e_seq ?_
    refine w_seq 30 31 (by kernel_rfl) ?_
    refine w_region (by kernel_rfl) ?_
    refine o_val 38 (.load 34 (.tmp 3)) (.agg #[v16 ((t2.2).sr), v16 ((t2.2).ds), v32 ((t2.2).sq), v32 ((t2.2).ak), v8 ((t2.2).fl), v16 ((t2.2).wi), v16 ((t2.2).ur), vb (((t2.2).o).hM), v16 (((t2.2).o).ms), vb (((t2.2).o).hS), v8 (((t2.2).o).sc), vb (((t2.2).o).sO), .slice A3 (((t2.2).o).sk).length c3, vb (((t2.2).o).hT), v32 (((t2.2).o).va), v32 (((t2.2).o).ec), vb (((t2.2).o).hO), v8 (((t2.2).o).ki), v8 (((t2.2).o).ni), v8 ((((t2.2).o).m).x0), v8 ((((t2.2).o).m).x1), v8 ((((t2.2).o).m).x2), v8 ((((t2.2).o).m).x3), v8 ((((t2.2).o).m).x4), v8 ((((t2.2).o).m).x5), v8 ((((t2.2).o).m).x6), v8 ((((t2.2).o).m).x7), v8 ((((t2.2).o).m).x8), v8 ((((t2.2).o).m).x9), v8 ((((t2.2).o).m).x10), v8 ((((t2.2).o).m).x11), .slice A4 ((t2.2).da).length c4]) (by kernel_rfl) (v_load (l := [v16 ((t2.2).sr), v16 ((t2.2).ds), v32 ((t2.2).sq), v32 ((t2.2).ak), v8 ((t2.2).fl), v16 ((t2.2).wi), v16 ((t2.2).ur), vb (((t2.2).o).hM), v16 (((t2.2).o).ms), vb (((t2.2).o).hS), v8 (((t2.2).o).sc), vb (((t2.2).o).sO), .slice A3 (((t2.2).o).sk).length c3, vb (((t2.2).o).hT), v32 (((t2.2).o).va), v32 (((t2.2).o).ec), vb (((t2.2).o).hO), v8 (((t2.2).o).ki), v8 (((t2.2).o).ni), v8 ((((t2.2).o).m).x0), v8 ((((t2.2).o).m).x1), v8 ((((t2.2).o).m).x2), v8 ((((t2.2).o).m).x3), v8 ((((t2.2).o).m).x4), v8 ((((t2.2).o).m).x5), v8 ((((t2.2).o).m).x6), v8 ((((t2.2).o).m).x7), v8 ((((t2.2).o).m).x8), v8 ((((t2.2).o).m).x9), v8 ((((t2.2).o).m).x10), v8 ((((t2.2).o).m).x11), .slice A4 ((t2.2).da).length c4]) (a := ⟨g1, 0, none⟩) (by kernel_rfl) (by kernel_rfl) (at_blk (j := 1) rfl rfl)) ?_
    obtain ⟨t3, hx2, hm⟩ := bind_some hm
    refine o_stp ?_ (by kernel_rfl)
    refine s_call 39 15 #[.agg #[v16 ((t2.2).sr), v16 ((t2.2).ds), v32 ((t2.2).sq), v32 ((t2.2).ak), v8 ((t2.2).fl), v16 ((t2.2).wi), v16 ((t2.2).ur), vb (((t2.2).o).hM), v16 (((t2.2).o).ms), vb (((t2.2).o).hS), v8 (((t2.2).o).sc), vb (((t2.2).o).sO), .slice A3 (((t2.2).o).sk).length c3, vb (((t2.2).o).hT), v32 (((t2.2).o).va), v32 (((t2.2).o).ec), vb (((t2.2).o).hO), v8 (((t2.2).o).ki), v8 (((t2.2).o).ni), v8 ((((t2.2).o).m).x0), v8 ((((t2.2).o).m).x1), v8 ((((t2.2).o).m).x2), v8 ((((t2.2).o).m).x3), v8 ((((t2.2).o).m).x4), v8 ((((t2.2).o).m).x5), v8 ((((t2.2).o).m).x6), v8 ((((t2.2).o).m).x7), v8 ((((t2.2).o).m).x8), v8 ((((t2.2).o).m).x9), v8 ((((t2.2).o).m).x10), v8 ((((t2.2).o).m).x11), .slice A4 ((t2.2).da).length c4]] [] [0, 1] (by kernel_rfl) (by kernel_rfl) (fun w hs => seg_Len_3_ok (t2.2) t3 hx2 B _ A3 c3 A4 c4 hs3 hs4 w (St.cast (by kernel_rfl) hs)) (fun _ hx => ?_)
    refine t_L (L' := [.blk g2 [v16 0, v16 0, v32 0, v32 0, v8 0, v16 0, v16 0, vb false, v16 0, vb false, v8 0, vb false, .slice none 0 0, vb false, v32 0, v32 0, vb false, v8 0, v8 0, v8 0, v8 0, v8 0, v8 0, v8 0, v8 0, v8 0, v8 0, v8 0, v8 0, v8 0, v8 0, .slice none 0 0] 34, .blk g1 [v16 ((t2.2).sr), v16 ((t2.2).ds), v32 ((t2.2).sq), v32 ((t2.2).ak), v8 ((t2.2).fl), v16 ((t2.2).wi), v16 ((t2.2).ur), vb (((t2.2).o).hM), v16 (((t2.2).o).ms), vb (((t2.2).o).hS), v8 (((t2.2).o).sc), vb (((t2.2).o).sO), .slice A3 (((t2.2).o).sk).length c3, vb (((t2.2).o).hT), v32 (((t2.2).o).va), v32 (((t2.2).o).ec), vb (((t2.2).o).hO), v8 (((t2.2).o).ki), v8 (((t2.2).o).ni), v8 ((((t2.2).o).m).x0), v8 ((((t2.2).o).m).x1), v8 ((((t2.2).o).m).x2), v8 ((((t2.2).o).m).x3), v8 ((((t2.2).o).m).x4), v8 ((((t2.2).o).m).x5), v8 ((((t2.2).o).m).x6), v8 ((((t2.2).o).m).x7), v8 ((((t2.2).o).m).x8), v8 ((((t2.2).o).m).x9), v8 ((((t2.2).o).m).x10), v8 ((((t2.2).o).m).x11), .slice A4 ((t2.2).da).length c4] 34]) (by kernel_rfl) ?_
    refine o_run 8 [3, 6, 10] (l := []) .nil (E' := [(3, (pg g1)), (6, (pg g2)), (10, v64 (I64 ((I64 t3) - (imax (I64 ((I64 a2) + t2.1)) 0))))]) (by kernel_rfl) ?_
    refine o_end (by kernel_rfl) ?_
    refine e_seq ?_
    refine w_seq 62 63 (by kernel_rfl) ?_
    refine w_region (by kernel_rfl) ?_
    refine o_run 1 [3, 6, 47] (l := []) .nil (E' := [(3, (pg g1)), (6, (pg g2)), (47, v64 (I64 ((I64 t3) - (imax (I64 ((I64 a2) + t2.1)) 0))))]) (by kernel_rfl) ?_
    obtain ⟨t4, hx3, hm⟩ := bind_some hm
    refine o_stp ?_ (by kernel_rfl)
    refine s_call 48 48 #[pg g1, v8 1, v64 (I64 ((I64 t3) - (imax (I64 ((I64 a2) + t2.1)) 0)))] [1] [0] (by kernel_rfl) (by kernel_rfl) (fun w hs => seg_drop_ok (t2.2) 1 (I64 ((I64 t3) - (imax (I64 ((I64 a2) + t2.1)) 0))) t4 hx3 B _ g1 A3 c3 A4 c4 hs3 hs4 w (St.cast (by kernel_rfl) hs)) (fun x hx => ?_)
    obtain ⟨A5, c5, A6, c6⟩ := x
    obtain ⟨hs5, hs6⟩ := hx
    refine t_L (L' := [.blk g1 [v16 t4.2.sr, v16 t4.2.ds, v32 t4.2.sq, v32 t4.2.ak, v8 t4.2.fl, v16 t4.2.wi, v16 t4.2.ur, vb t4.2.o.hM, v16 t4.2.o.ms, vb t4.2.o.hS, v8 t4.2.o.sc, vb t4.2.o.sO, .slice A5 t4.2.o.sk.length c5, vb t4.2.o.hT, v32 t4.2.o.va, v32 t4.2.o.ec, vb t4.2.o.hO, v8 t4.2.o.ki, v8 t4.2.o.ni, v8 t4.2.o.m.x0, v8 t4.2.o.m.x1, v8 t4.2.o.m.x2, v8 t4.2.o.m.x3, v8 t4.2.o.m.x4, v8 t4.2.o.m.x5, v8 t4.2.o.m.x6, v8 t4.2.o.m.x7, v8 t4.2.o.m.x8, v8 t4.2.o.m.x9, v8 t4.2.o.m.x10, v8 t4.2.o.m.x11, .slice A6 t4.2.da.length c6] 34, .blk g2 [v16 0, v16 0, v32 0, v32 0, v8 0, v16 0, v16 0, vb false, v16 0, vb false, v8 0, vb false, .slice none 0 0, vb false, v32 0, v32 0, vb false, v8 0, v8 0, v8 0, v8 0, v8 0, v8 0, v8 0, v8 0, v8 0, v8 0, v8 0, v8 0, v8 0, v8 0, .slice none 0 0] 34]) (by kernel_rfl) ?_
    refine o_run 1 [3, 6, 10] (l := []) .nil (E' := [(3, (pg g1)), (6, (pg g2)), (10, v64 t4.1)]) (by kernel_rfl) ?_
    refine o_end (by kernel_rfl) ?_
    refine e_seq ?_
    refine w_seq 126 127 (by kernel_rfl) ?_
    refine w_seq 252 253 (by kernel_rfl) ?_
    refine w_region (by kernel_rfl) ?_
    refine o_run 7 [3, 6, 10, 11] (l := [(⟨g1, 31, none⟩, .slice A6 t4.2.da.length c6)]) (.one (at_blk (j := 0) rfl rfl) .nil) (E' := [(3, (pg g1)), (6, (pg g2)), (10, v64 t4.1), (11, v64 (imin (imax t4.1 0) (t4.2.da.length : Int)))]) (by kernel_rfl) ?_
    refine o_end (by kernel_rfl) ?_
    refine e_seq ?_
    refine w_seq 506 507 (by kernel_rfl) ?_
    refine w_region (by kernel_rfl) ?_
    refine o_run 2 [3, 6, 10, 11, 56] (l := []) .nil (E' := [(3, (pg g1)), (6, (pg g2)), (10, v64 t4.1), (11, v64 (imin (imax t4.1 0) (t4.2.da.length : Int))), (56, vb (decide ((imin (imax t4.1 0) (t4.2.da.length : Int)) > 0)))]) (by kernel_rfl) ?_
    refine o_end (by kernel_rfl) ?_
    refine e_seq ?_
    refine w_cond (.tmp 56) 1014 1015 (decide ((imin (imax t4.1 0) (t4.2.da.length : Int)) > 0)) (by kernel_rfl) (by kernel_rfl) (fun hb1 => ?_) (fun hb1 => ?_)
    · replace hm := ite_t hb1 hm
      refine w_seq 2028 2029 (by kernel_rfl) ?_
      refine w_region (by kernel_rfl) ?_
      refine o_run 6 [3, 6, 10, 11, 12] (l := [(⟨g1, 31, none⟩, .slice A6 t4.2.da.length c6)]) (.one (at_blk (j := 0) rfl rfl) .nil) (E' := [(3, (pg g1)), (6, (pg g2)), (10, v64 t4.1), (11, v64 (imin (imax t4.1 0) (t4.2.da.length : Int))), (12, v64 (I64 ((t4.2.da.length : Int) - (imin (imax t4.1 0) (t4.2.da.length : Int)))))]) (by kernel_rfl) ?_
      refine o_end (by kernel_rfl) ?_
      refine e_seq ?_
      refine w_seq 4058 4059 (by kernel_rfl) ?_
      refine w_region (by kernel_rfl) ?_
      refine o_run 4 [3, 6, 10, 11, 63, 64, 65] (l := [(⟨g1, 31, none⟩, .slice A6 t4.2.da.length c6)]) (.one (at_blk (j := 0) rfl rfl) .nil) (E' := [(3, (pg g1)), (6, (pg g2)), (10, v64 t4.1), (11, v64 (imin (imax t4.1 0) (t4.2.da.length : Int))), (63, .slice A6 t4.2.da.length c6), (64, v64 (I64 ((t4.2.da.length : Int) - (imin (imax t4.1 0) (t4.2.da.length : Int))))), (65, v64 (I64 ((t4.2.da.length : Int) - (imin (imax t4.1 0) (t4.2.da.length : Int)))))]) (by kernel_rfl) ?_
      obtain ⟨l1, hx4, hm⟩ := bind_some hm
      refine o_val 66 (.slice 32 (.tmp 63) none (some (.tmp 64)) (some (.tmp 65))) (.slice (cutA A6 (Int.toNat 0) (Int.toNat (I64 ((t4.2.da.length : Int) - (imin (imax t4.1 0) (t4.2.da.length : Int))))) 1) l1.length (Int.toNat (I64 ((t4.2.da.length : Int) - (imin (imax t4.1 0) (t4.2.da.length : Int)))) - Int.toNat 0)) (by kernel_rfl) (i_slice3 32 (.tmp 63) none (some (.tmp 64)) (some (.tmp 65)) hs6 hx4 (by kernel_rfl) (by kernel_rfl) (by kernel_rfl) (by kernel_rfl) (by kernel_rfl) rfl) ?_
      have hs7 := sl_cut3 hs6 hx4
      refine o_run 1 [3, 6, 10, 11, 66, 67] (l := []) .nil (E' := [(3, (pg g1)), (6, (pg g2)), (10, v64 t4.1), (11, v64 (imin (imax t4.1 0) (t4.2.da.length : Int))), (66, .slice (cutA A6 (Int.toNat 0) (Int.toNat (I64 ((t4.2.da.length : Int) - (imin (imax t4.1 0) (t4.2.da.length : Int))))) 1) l1.length (Int.toNat (I64 ((t4.2.da.length : Int) - (imin (imax t4.1 0) (t4.2.da.length : Int)))) - Int.toNat 0)), (67, .pointer (some ⟨g1, 31, none⟩))]) (by kernel_rfl) ?_
      refine o_stp ?_ (by kernel_rfl)
      refine s_store 0 g1 [v16 t4.2.sr, v16 t4.2.ds, v32 t4.2.sq, v32 t4.2.ak, v8 t4.2.fl, v16 t4.2.wi, v16 t4.2.ur, vb t4.2.o.hM, v16 t4.2.o.ms, vb t4.2.o.hS, v8 t4.2.o.sc, vb t4.2.o.sO, .slice A5 t4.2.o.sk.length c5, vb t4.2.o.hT, v32 t4.2.o.va, v32 t4.2.o.ec, vb t4.2.o.hO, v8 t4.2.o.ki, v8 t4.2.o.ni, v8 t4.2.o.m.x0, v8 t4.2.o.m.x1, v8 t4.2.o.m.x2, v8 t4.2.o.m.x3, v8 t4.2.o.m.x4, v8 t4.2.o.m.x5, v8 t4.2.o.m.x6, v8 t4.2.o.m.x7, v8 t4.2.o.m.x8, v8 t4.2.o.m.x9, v8 t4.2.o.m.x10, v8 t4.2.o.m.x11, .slice A6 t4.2.da.length c6] 34 [(31, .slice (cutA A6 (Int.toNat 0) (Int.toNat (I64 ((t4.2.da.length : Int) - (imin (imax t4.1 0) (t4.2.da.length : Int))))) 1) l1.length (Int.toNat (I64 ((t4.2.da.length : Int) - (imin (imax t4.1 0) (t4.2.da.length : Int)))) - Int.toNat 0))] (by kernel_rfl) (by kernel_rfl) (by kernel_rfl) ?_
      refine t_L (L' := [.blk g1 [v16 t4.2.sr, v16 t4.2.ds, v32 t4.2.sq, v32 t4.2.ak, v8 t4.2.fl, v16 t4.2.wi, v16 t4.2.ur, vb t4.2.o.hM, v16 t4.2.o.ms, vb t4.2.o.hS, v8 t4.2.o.sc, vb t4.2.o.sO, .slice A5 t4.2.o.sk.length c5, vb t4.2.o.hT, v32 t4.2.o.va, v32 t4.2.o.ec, vb t4.2.o.hO, v8 t4.2.o.ki, v8 t4.2.o.ni, v8 t4.2.o.m.x0, v8 t4.2.o.m.x1, v8 t4.2.o.m.x2, v8 t4.2.o.m.x3, v8 t4.2.o.m.x4, v8 t4.2.o.m.x5, v8 t4.2.o.m.x6, v8 t4.2.o.m.x7, v8 t4.2.o.m.x8, v8 t4.2.o.m.x9, v8 t4.2.o.m.x10, v8 t4.2.o.m.x11, .slice (cutA A6 (Int.toNat 0) (Int.toNat (I64 ((t4.2.da.length : Int) - (imin (imax t4.1 0) (t4.2.da.length : Int))))) 1) l1.length (Int.toNat (I64 ((t4.2.da.length : Int) - (imin (imax t4.1 0) (t4.2.da.length : Int)))) - Int.toNat 0)] 34, .blk g2 [v16 0, v16 0, v32 0, v32 0, v8 0, v16 0, v16 0, vb false, v16 0, vb false, v8 0, vb false, .slice none 0 0, vb false, v32 0, v32 0, vb false, v8 0, v8 0, v8 0, v8 0, v8 0, v8 0, v8 0, v8 0, v8 0, v8 0, v8 0, v8 0, v8 0, v8 0, .slice none 0 0] 34]) (by kernel_rfl) ?_
      refine o_end (by kernel_rfl) ?_
      refine e_seq ?_
      refine w_region (by kernel_rfl) ?_
      refine o_run 4 [3, 6, 10] (l := []) .nil (E' := [(3, (pg g1)), (6, (pg g2)), (10, v64 (I64 (t4.1 - (imin (imax t4.1 0) (t4.2.da.length : Int)))))]) (by kernel_rfl) ?_
      refine o_end (by kernel_rfl) ?_
      refine e_seq ?_
      refine w_seq 254 255 (by kernel_rfl) ?_
      refine w_region (by kernel_rfl) ?_
      refine o_run 1 [3, 6, 71] (l := []) .nil (E' := [(3, (pg g1)), (6, (pg g2)), (71, v64 (I64 (t4.1 - (imin (imax t4.1 0) (t4.2.da.length : Int)))))]) (by kernel_rfl) ?_
      obtain ⟨t5, hx5, hm⟩ := bind_some hm
      refine o_stp ?_ (by kernel_rfl)
      refine s_call 72 48 #[pg g1, v8 2, v64 (I64 (t4.1 - (imin (imax t4.1 0) (t4.2.da.length : Int))))] [0] [1] (by kernel_rfl) (by kernel_rfl) (fun w hs => seg_drop_ok (⟨t4.2.sr, t4.2.ds, t4.2.sq, t4.2.ak, t4.2.fl, t4.2.wi, t4.2.ur, t4.2.o, l1⟩ : TS) 2 (I64 (t4.1 - (imin (imax t4.1 0) (t4.2.da.length : Int)))) t5 hx5 B _ g1 A5 c5 (cutA A6 (Int.toNat 0) (Int.toNat (I64 ((t4.2.da.length : Int) - (imin (imax t4.1 0) (t4.2.da.length : Int))))) 1) (Int.toNat (I64 ((t4.2.da.length : Int) - (imin (imax t4.1 0) (t4.2.da.length : Int)))) - Int.toNat 0) hs5 hs7 w (St.cast (by kernel_rfl) hs)) (fun x hx => ?_)
      obtain ⟨A7, c7, A8, c8⟩ := x
      obtain ⟨hs8, hs9⟩ := hx
      refine t_L (L' := [.blk g1 [v16 t5.2.sr, v16 t5.2.ds, v32 t5.2.sq, v32 t5.2.ak, v8 t5.2.fl, v16 t5.2.wi, v16 t5.2.ur, vb t5.2.o.hM, v16 t5.2.o.ms, vb t5.2.o.hS, v8 t5.2.o.sc, vb t5.2.o.sO, .slice A7 t5.2.o.sk.length c7, vb t5.2.o.hT, v32 t5.2.o.va, v32 t5.2.o.ec, vb t5.2.o.hO, v8 t5.2.o.ki, v8 t5.2.o.ni, v8 t5.2.o.m.x0, v8 t5.2.o.m.x1, v8 t5.2.o.m.x2, v8 t5.2.o.m.x3, v8 t5.2.o.m.x4, v8 t5.2.o.m.x5, v8 t5.2.o.m.x6, v8 t5.2.o.m.x7, v8 t5.2.o.m.x8, v8 t5.2.o.m.x9, v8 t5.2.o.m.x10, v8 t5.2.o.m.x11, .slice A8 t5.2.da.length c8] 34, .blk g2 [v16 0, v16 0, v32 0, v32 0, v8 0, v16 0, v16 0, vb false, v16 0, vb false, v8 0, vb false, .slice none 0 0, vb false, v32 0, v32 0, vb false, v8 0, v8 0, v8 0, v8 0, v8 0, v8 0, v8 0, v8 0, v8 0, v8 0, v8 0, v8 0, v8 0, v8 0, .slice none 0 0] 34]) (by kernel_rfl) ?_
      refine o_end (by kernel_rfl) ?_
      refine e_seq ?_
      refine w_seq 510 511 (by kernel_rfl) ?_
      refine w_region (by kernel_rfl) ?_
      refine o_val 73 (.load 34 (.tmp 3)) (.agg #[v16 t5.2.sr, v16 t5.2.ds, v32 t5.2.sq, v32 t5.2.ak, v8 t5.2.fl, v16 t5.2.wi, v16 t5.2.ur, vb t5.2.o.hM, v16 t5.2.o.ms, vb t5.2.o.hS, v8 t5.2.o.sc, vb t5.2.o.sO, .slice A7 t5.2.o.sk.length c7, vb t5.2.o.hT, v32 t5.2.o.va, v32 t5.2.o.ec, vb t5.2.o.hO, v8 t5.2.o.ki, v8 t5.2.o.ni, v8 t5.2.o.m.x0, v8 t5.2.o.m.x1, v8 t5.2.o.m.x2, v8 t5.2.o.m.x3, v8 t5.2.o.m.x4, v8 t5.2.o.m.x5, v8 t5.2.o.m.x6, v8 t5.2.o.m.x7, v8 t5.2.o.m.x8, v8 t5.2.o.m.x9, v8 t5.2.o.m.x10, v8 t5.2.o.m.x11, .slice A8 t5.2.da.length c8]) (by kernel_rfl) (v_load (l := [v16 t5.2.sr, v16 t5.2.ds, v32 t5.2.sq, v32 t5.2.ak, v8 t5.2.fl, v16 t5.2.wi, v16 t5.2.ur, vb t5.2.o.hM, v16 t5.2.o.ms, vb t5.2.o.hS, v8 t5.2.o.sc, vb t5.2.o.sO, .slice A7 t5.2.o.sk.length c7, vb t5.2.o.hT, v32 t5.2.o.va, v32 t5.2.o.ec, vb t5.2.o.hO, v8 t5.2.o.ki, v8 t5.2.o.ni, v8 t5.2.o.m.x0, v8 t5.2.o.m.x1, v8 t5.2.o.m.x2, v8 t5.2.o.m.x3, v8 t5.2.o.m.x4, v8 t5.2.o.m.x5, v8 t5.2.o.m.x6, v8 t5.2.o.m.x7, v8 t5.2.o.m.x8, v8 t5.2.o.m.x9, v8 t5.2.o.m.x10, v8 t5.2.o.m.x11, .slice A8 t5.2.da.length c8]) (a := ⟨g1, 0, none⟩) (by kernel_rfl) (by kernel_rfl) (at_blk (j := 0) rfl rfl)) ?_
      refine o_stp ?_ (by kernel_rfl)
      refine s_store 1 g2 [v16 0, v16 0, v32 0, v32 0, v8 0, v16 0, v16 0, vb false, v16 0, vb false, v8 0, vb false, .slice none 0 0, vb false, v32 0, v32 0, vb false, v8 0, v8 0, v8 0, v8 0, v8 0, v8 0, v8 0, v8 0, v8 0, v8 0, v8 0, v8 0, v8 0, v8 0, .slice none 0 0] 34 [(0, v16 t5.2.sr), (1, v16 t5.2.ds), (2, v32 t5.2.sq), (3, v32 t5.2.ak), (4, v8 t5.2.fl), (5, v16 t5.2.wi), (6, v16 t5.2.ur), (7, vb t5.2.o.hM), (8, v16 t5.2.o.ms), (9, vb t5.2.o.hS), (10, v8 t5.2.o.sc), (11, vb t5.2.o.sO), (12, .slice A7 t5.2.o.sk.length c7), (13, vb t5.2.o.hT), (14, v32 t5.2.o.va), (15, v32 t5.2.o.ec), (16, vb t5.2.o.hO), (17, v8 t5.2.o.ki), (18, v8 t5.2.o.ni), (19, v8 t5.2.o.m.x0), (20, v8 t5.2.o.m.x1), (21, v8 t5.2.o.m.x2), (22, v8 t5.2.o.m.x3), (23, v8 t5.2.o.m.x4), (24, v8 t5.2.o.m.x5), (25, v8 t5.2.o.m.x6), (26, v8 t5.2.o.m.x7), (27, v8 t5.2.o.m.x8), (28, v8 t5.2.o.m.x9), (29, v8 t5.2.o.m.x10), (30, v8 t5.2.o.m.x11), (31, .slice A8 t5.2.da.length c8)] (by kernel_rfl) (by kernel_rfl) (by kernel_rfl) ?_
      refine t_L (L' := [.blk g1 [v16 t5.2.sr, v16 t5.2.ds, v32 t5.2.sq, v32 t5.2.ak, v8 t5.2.fl, v16 t5.2.wi, v16 t5.2.ur, vb t5.2.o.hM, v16 t5.2.o.ms, vb t5.2.o.hS, v8 t5.2.o.sc, vb t5.2.o.sO, .slice A7 t5.2.o.sk.length c7, vb t5.2.o.hT, v32 t5.2.o.va, v32 t5.2.o.ec, vb t5.2.o.hO, v8 t5.2.o.ki, v8 t5.2.o.ni, v8 t5.2.o.m.x0, v8 t5.2.o.m.x1, v8 t5.2.o.m.x2, v8 t5.2.o.m.x3, v8 t5.2.o.m.x4, v8 t5.2.o.m.x5, v8 t5.2.o.m.x6, v8 t5.2.o.m.x7, v8 t5.2.o.m.x8, v8 t5.2.o.m.x9, v8 t5.2.o.m.x10, v8 t5.2.o.m.x11, .slice A8 t5.2.da.length c8] 34, .blk g2 [v16 t5.2.sr, v16 t5.2.ds, v32 t5.2.sq, v32 t5.2.ak, v8 t5.2.fl, v16 t5.2.wi, v16 t5.2.ur, vb t5.2.o.hM, v16 t5.2.o.ms, vb t5.2.o.hS, v8 t5.2.o.sc, vb t5.2.o.sO, .slice A7 t5.2.o.sk.length c7, vb t5.2.o.hT, v32 t5.2.o.va, v32 t5.2.o.ec, vb t5.2.o.hO, v8 t5.2.o.ki, v8 t5.2.o.ni, v8 t5.2.o.m.x0, v8 t5.2.o.m.x1, v8 t5.2.o.m.x2, v8 t5.2.o.m.x3, v8 t5.2.o.m.x4, v8 t5.2.o.m.x5, v8 t5.2.o.m.x6, v8 t5.2.o.m.x7, v8 t5.2.o.m.x8, v8 t5.2.o.m.x9, v8 t5.2.o.m.x10, v8 t5.2.o.m.x11, .slice A8 t5.2.da.length c8] 34]) (by kernel_rfl) ?_
      refine o_end (by kernel_rfl) ?_
      refine e_seq ?_
      refine w_ret (by kernel_rfl) ?_
      obtain rfl := Option.some.inj hm
      exact e_retL (A7, c7, A8, c8) (.agg #[v16 t5.2.sr, v16 t5.2.ds, v32 t5.2.sq, v32 t5.2.ak, v8 t5.2.fl, v16 t5.2.wi, v16 t5.2.ur, vb t5.2.o.hM, v16 t5.2.o.ms, vb t5.2.o.hS, v8 t5.2.o.sc, vb t5.2.o.sO, .slice A7 t5.2.o.sk.length c7, vb t5.2.o.hT, v32 t5.2.o.va, v32 t5.2.o.ec, vb t5.2.o.hO, v8 t5.2.o.ki, v8 t5.2.o.ni, v8 t5.2.o.m.x0, v8 t5.2.o.m.x1, v8 t5.2.o.m.x2, v8 t5.2.o.m.x3, v8 t5.2.o.m.x4, v8 t5.2.o.m.x5, v8 t5.2.o.m.x6, v8 t5.2.o.m.x7, v8 t5.2.o.m.x8, v8 t5.2.o.m.x9, v8 t5.2.o.m.x10, v8 t5.2.o.m.x11, .slice A8 t5.2.da.length c8]) [] [(⟨g2, 0, none⟩, v16 t5.2.sr), (⟨g2, 1, none⟩, v16 t5.2.ds), (⟨g2, 2, none⟩, v32 t5.2.sq), (⟨g2, 3, none⟩, v32 t5.2.ak), (⟨g2, 4, none⟩, v8 t5.2.fl), (⟨g2, 5, none⟩, v16 t5.2.wi), (⟨g2, 6, none⟩, v16 t5.2.ur), (⟨g2, 7, none⟩, vb t5.2.o.hM), (⟨g2, 8, none⟩, v16 t5.2.o.ms), (⟨g2, 9, none⟩, vb t5.2.o.hS), (⟨g2, 10, none⟩, v8 t5.2.o.sc), (⟨g2, 11, none⟩, vb t5.2.o.sO), (⟨g2, 12, none⟩, .slice A7 t5.2.o.sk.length c7), (⟨g2, 13, none⟩, vb t5.2.o.hT), (⟨g2, 14, none⟩, v32 t5.2.o.va), (⟨g2, 15, none⟩, v32 t5.2.o.ec), (⟨g2, 16, none⟩, vb t5.2.o.hO), (⟨g2, 17, none⟩, v8 t5.2.o.ki), (⟨g2, 18, none⟩, v8 t5.2.o.ni), (⟨g2, 19, none⟩, v8 t5.2.o.m.x0), (⟨g2, 20, none⟩, v8 t5.2.o.m.x1), (⟨g2, 21, none⟩, v8 t5.2.o.m.x2), (⟨g2, 22, none⟩, v8 t5.2.o.m.x3), (⟨g2, 23, none⟩, v8 t5.2.o.m.x4), (⟨g2, 24, none⟩, v8 t5.2.o.m.x5), (⟨g2, 25, none⟩, v8 t5.2.o.m.x6), (⟨g2, 26, none⟩, v8 t5.2.o.m.x7), (⟨g2, 27, none⟩, v8 t5.2.o.m.x8), (⟨g2, 28, none⟩, v8 t5.2.o.m.x9), (⟨g2, 29, none⟩, v8 t5.2.o.m.x10), (⟨g2, 30, none⟩, v8 t5.2.o.m.x11), (⟨g2, 31, none⟩, .slice A8 t5.2.da.length c8)] (.one (at_blk (j := 1) rfl rfl) (.one (at_blk (j := 1) rfl rfl) (.one (at_blk (j := 1) rfl rfl) (.one (at_blk (j := 1) rfl rfl) (.one (at_blk (j := 1) rfl rfl) (.one (at_blk (j := 1) rfl rfl) (.one (at_blk (j := 1) rfl rfl) (.one (at_blk (j := 1) rfl rfl) (.one (at_blk (j := 1) rfl rfl) (.one (at_blk (j := 1) rfl rfl) (.one (at_blk (j := 1) rfl rfl) (.one (at_blk (j := 1) rfl rfl) (.one (at_blk (j := 1) rfl rfl) (.one (at_blk (j := 1) rfl rfl) (.one (at_blk (j := 1) rfl rfl) (.one (at_blk (j := 1) rfl rfl) (.one (at_blk (j := 1) rfl rfl) (.one (at_blk (j := 1) rfl rfl) (.one (at_blk (j := 1) rfl rfl) (.one (at_blk (j := 1) rfl rfl) (.one (at_blk (j := 1) rfl rfl) (.one (at_blk (j := 1) rfl rfl) (.one (at_blk (j := 1) rfl rfl) (.one (at_blk (j := 1) rfl rfl) (.one (at_blk (j := 1) rfl rfl) (.one (at_blk (j := 1) rfl rfl) (.one (at_blk (j := 1) rfl rfl) (.one (at_blk (j := 1) rfl rfl) (.one (at_blk (j := 1) rfl rfl) (.one (at_blk (j := 1) rfl rfl) (.one (at_blk (j := 1) rfl rfl) (.one (at_blk (j := 1) rfl rfl) .nil)))))))))))))))))))))))))))))))) (by kernel_rfl) (by kernel_rfl) rfl (by kernel_rfl) (by kernel_rfl) ⟨hs8, hs9⟩
    · replace hm := ite_f hb1 hm
      refine w_skip (by kernel_rfl) ?_
      refine e_seq ?_
      refine w_seq 254 255 (by kernel_rfl) ?_
      refine w_region (by kernel_rfl) ?_
      refine o_run 1 [3, 6, 71] (l := []) .nil (E' := [(3, (pg g1)), (6, (pg g2)), (71, v64 t4.1)]) (by kernel_rfl) ?_
      obtain ⟨t6, hx6, hm⟩ := bind_some hm
      refine o_stp ?_ (by kernel_rfl)
      refine s_call 72 48 #[pg g1, v8 2, v64 t4.1] [0] [1] (by kernel_rfl) (by kernel_rfl) (fun w hs => seg_drop_ok t4.2 2 t4.1 t6 hx6 B _ g1 A5 c5 A6 c6 hs5 hs6 w (St.cast (by kernel_rfl) hs)) (fun x hx => ?_)
      obtain ⟨A9, c9, A10, c10⟩ := x
      obtain ⟨hs10, hs11⟩ := hx
      refine t_L (L' := [.blk g1 [v16 t6.2.sr, v16 t6.2.ds, v32 t6.2.sq, v32 t6.2.ak, v8 t6.2.fl, v16 t6.2.wi, v16 t6.2.ur, vb t6.2.o.hM, v16 t6.2.o.ms, vb t6.2.o.hS, v8 t6.2.o.sc, vb t6.2.o.sO, .slice A9 t6.2.o.sk.length c9, vb t6.2.o.hT, v32 t6.2.o.va, v32 t6.2.o.ec, vb t6.2.o.hO, v8 t6.2.o.ki, v8 t6.2.o.ni, v8 t6.2.o.m.x0, v8 t6.2.o.m.x1, v8 t6.2.o.m.x2, v8 t6.2.o.m.x3, v8 t6.2.o.m.x4, v8 t6.2.o.m.x5, v8 t6.2.o.m.x6, v8 t6.2.o.m.x7, v8 t6.2.o.m.x8, v8 t6.2.o.m.x9, v8 t6.2.o.m.x10, v8 t6.2.o.m.x11, .slice A10 t6.2.da.length c10] 34, .blk g2 [v16 0, v16 0, v32 0, v32 0, v8 0, v16 0, v16 0, vb false, v16 0, vb false, v8 0, vb false, .slice none 0 0, vb false, v32 0, v32 0, vb false, v8 0, v8 0, v8 0, v8 0, v8 0, v8 0, v8 0, v8 0, v8 0, v8 0, v8 0, v8 0, v8 0, v8 0, .slice none 0 0] 34]) (by kernel_rfl) ?_
      refine o_end (by kernel_rfl) ?_
      refine e_seq ?_
      refine w_seq 510 511 (by kernel_rfl) ?_
      refine w_region (by kernel_rfl) ?_
      refine o_val 73 (.load 34 (.tmp 3)) (.agg #[v16 t6.2.sr, v16 t6.2.ds, v32 t6.2.sq, v32 t6.2.ak, v8 t6.2.fl, v16 t6.2.wi, v16 t6.2.ur, vb t6.2.o.hM, v16 t6.2.o.ms, vb t6.2.o.hS, v8 t6.2.o.sc, vb t6.2.o.sO, .slice A9 t6.2.o.sk.length c9, vb t6.2.o.hT, v32 t6.2.o.va, v32 t6.2.o.ec, vb t6.2.o.hO, v8 t6.2.o.ki, v8 t6.2.o.ni, v8 t6.2.o.m.x0, v8 t6.2.o.m.x1, v8 t6.2.o.m.x2, v8 t6.2.o.m.x3, v8 t6.2.o.m.x4, v8 t6.2.o.m.x5, v8 t6.2.o.m.x6, v8 t6.2.o.m.x7, v8 t6.2.o.m.x8, v8 t6.2.o.m.x9, v8 t6.2.o.m.x10, v8 t6.2.o.m.x11, .slice A10 t6.2.da.length c10]) (by kernel_rfl) (v_load (l := [v16 t6.2.sr, v16 t6.2.ds, v32 t6.2.sq, v32 t6.2.ak, v8 t6.2.fl, v16 t6.2.wi, v16 t6.2.ur, vb t6.2.o.hM, v16 t6.2.o.ms, vb t6.2.o.hS, v8 t6.2.o.sc, vb t6.2.o.sO, .slice A9 t6.2.o.sk.length c9, vb t6.2.o.hT, v32 t6.2.o.va, v32 t6.2.o.ec, vb t6.2.o.hO, v8 t6.2.o.ki, v8 t6.2.o.ni, v8 t6.2.o.m.x0, v8 t6.2.o.m.x1, v8 t6.2.o.m.x2, v8 t6.2.o.m.x3, v8 t6.2.o.m.x4, v8 t6.2.o.m.x5, v8 t6.2.o.m.x6, v8 t6.2.o.m.x7, v8 t6.2.o.m.x8, v8 t6.2.o.m.x9, v8 t6.2.o.m.x10, v8 t6.2.o.m.x11, .slice A10 t6.2.da.length c10]) (a := ⟨g1, 0, none⟩) (by kernel_rfl) (by kernel_rfl) (at_blk (j := 0) rfl rfl)) ?_
      refine o_stp ?_ (by kernel_rfl)
      refine s_store 1 g2 [v16 0, v16 0, v32 0, v32 0, v8 0, v16 0, v16 0, vb false, v16 0, vb false, v8 0, vb false, .slice none 0 0, vb false, v32 0, v32 0, vb false, v8 0, v8 0, v8 0, v8 0, v8 0, v8 0, v8 0, v8 0, v8 0, v8 0, v8 0, v8 0, v8 0, v8 0, .slice none 0 0] 34 [(0, v16 t6.2.sr), (1, v16 t6.2.ds), (2, v32 t6.2.sq), (3, v32 t6.2.ak), (4, v8 t6.2.fl), (5, v16 t6.2.wi), (6, v16 t6.2.ur), (7, vb t6.2.o.hM), (8, v16 t6.2.o.ms), (9, vb t6.2.o.hS), (10, v8 t6.2.o.sc), (11, vb t6.2.o.sO), (12, .slice A9 t6.2.o.sk.length c9), (13, vb t6.2.o.hT), (14, v32 t6.2.o.va), (15, v32 t6.2.o.ec), (16, vb t6.2.o.hO), (17, v8 t6.2.o.ki), (18, v8 t6.2.o.ni), (19, v8 t6.2.o.m.x0), (20, v8 t6.2.o.m.x1), (21, v8 t6.2.o.m.x2), (22, v8 t6.2.o.m.x3), (23, v8 t6.2.o.m.x4), (24, v8 t6.2.o.m.x5), (25, v8 t6.2.o.m.x6), (26, v8 t6.2.o.m.x7), (27, v8 t6.2.o.m.x8), (28, v8 t6.2.o.m.x9), (29, v8 t6.2.o.m.x10), (30, v8 t6.2.o.m.x11), (31, .slice A10 t6.2.da.length c10)] (by kernel_rfl) (by kernel_rfl) (by kernel_rfl) ?_
      refine t_L (L' := [.blk g1 [v16 t6.2.sr, v16 t6.2.ds, v32 t6.2.sq, v32 t6.2.ak, v8 t6.2.fl, v16 t6.2.wi, v16 t6.2.ur, vb t6.2.o.hM, v16 t6.2.o.ms, vb t6.2.o.hS, v8 t6.2.o.sc, vb t6.2.o.sO, .slice A9 t6.2.o.sk.length c9, vb t6.2.o.hT, v32 t6.2.o.va, v32 t6.2.o.ec, vb t6.2.o.hO, v8 t6.2.o.ki, v8 t6.2.o.ni, v8 t6.2.o.m.x0, v8 t6.2.o.m.x1, v8 t6.2.o.m.x2, v8 t6.2.o.m.x3, v8 t6.2.o.m.x4, v8 t6.2.o.m.x5, v8 t6.2.o.m.x6, v8 t6.2.o.m.x7, v8 t6.2.o.m.x8, v8 t6.2.o.m.x9, v8 t6.2.o.m.x10, v8 t6.2.o.m.x11, .slice A10 t6.2.da.length c10] 34, .blk g2 [v16 t6.2.sr, v16 t6.2.ds, v32 t6.2.sq, v32 t6.2.ak, v8 t6.2.fl, v16 t6.2.wi, v16 t6.2.ur, vb t6.2.o.hM, v16 t6.2.o.ms, vb t6.2.o.hS, v8 t6.2.o.sc, vb t6.2.o.sO, .slice A9 t6.2.o.sk.length c9, vb t6.2.o.hT, v32 t6.2.o.va, v32 t6.2.o.ec, vb t6.2.o.hO, v8 t6.2.o.ki, v8 t6.2.o.ni, v8 t6.2.o.m.x0, v8 t6.2.o.m.x1, v8 t6.2.o.m.x2, v8 t6.2.o.m.x3, v8 t6.2.o.m.x4, v8 t6.2.o.m.x5, v8 t6.2.o.m.x6, v8 t6.2.o.m.x7, v8 t6.2.o.m.x8, v8 t6.2.o.m.x9, v8 t6.2.o.m.x10, v8 t6.2.o.m.x11, .slice A10 t6.2.da.length c10] 34]) (by kernel_rfl) ?_
      refine o_end (by kernel_rfl) ?_
      refine e_seq ?_
      refine w_ret (by kernel_rfl) ?_
      obtain rfl := Option.some.inj hm
      exact e_retL (A9, c9, A10, c10) (.agg #[v16 t6.2.sr, v16 t6.2.ds, v32 t6.2.sq, v32 t6.2.ak, v8 t6.2.fl, v16 t6.2.wi, v16 t6.2.ur, vb t6.2.o.hM, v16 t6.2.o.ms, vb t6.2.o.hS, v8 t6.2.o.sc, vb t6.2.o.sO, .slice A9 t6.2.o.sk.length c9, vb t6.2.o.hT, v32 t6.2.o.va, v32 t6.2.o.ec, vb t6.2.o.hO, v8 t6.2.o.ki, v8 t6.2.o.ni, v8 t6.2.o.m.x0, v8 t6.2.o.m.x1, v8 t6.2.o.m.x2, v8 t6.2.o.m.x3, v8 t6.2.o.m.x4, v8 t6.2.o.m.x5, v8 t6.2.o.m.x6, v8 t6.2.o.m.x7, v8 t6.2.o.m.x8, v8 t6.2.o.m.x9, v8 t6.2.o.m.x10, v8 t6.2.o.m.x11, .slice A10 t6.2.da.length c10]) [] [(⟨g2, 0, none⟩, v16 t6.2.sr), (⟨g2, 1, none⟩, v16 t6.2.ds), (⟨g2, 2, none⟩, v32 t6.2.sq), (⟨g2, 3, none⟩, v32 t6.2.ak), (⟨g2, 4, none⟩, v8 t6.2.fl), (⟨g2, 5, none⟩, v16 t6.2.wi), (⟨g2, 6, none⟩, v16 t6.2.ur), (⟨g2, 7, none⟩, vb t6.2.o.hM), (⟨g2, 8, none⟩, v16 t6.2.o.ms), (⟨g2, 9, none⟩, vb t6.2.o.hS), (⟨g2, 10, none⟩, v8 t6.2.o.sc), (⟨g2, 11, none⟩, vb t6.2.o.sO), (⟨g2, 12, none⟩, .slice A9 t6.2.o.sk.length c9), (⟨g2, 13, none⟩, vb t6.2.o.hT), (⟨g2, 14, none⟩, v32 t6.2.o.va), (⟨g2, 15, none⟩, v32 t6.2.o.ec), (⟨g2, 16, none⟩, vb t6.2.o.hO), (⟨g2, 17, none⟩, v8 t6.2.o.ki), (⟨g2, 18, none⟩, v8 t6.2.o.ni), (⟨g2, 19, none⟩, v8 t6.2.o.m.x0), (⟨g2, 20, none⟩, v8 t6.2.o.m.x1), (⟨g2, 21, none⟩, v8 t6.2.o.m.x2), (⟨g2, 22, none⟩, v8 t6.2.o.m.x3), (⟨g2, 23, none⟩, v8 t6.2.o.m.x4), (⟨g2, 24, none⟩, v8 t6.2.o.m.x5), (⟨g2, 25, none⟩, v8 t6.2.o.m.x6), (⟨g2, 26, none⟩, v8 t6.2.o.m.x7), (⟨g2, 27, none⟩, v8 t6.2.o.m.x8), (⟨g2, 28, none⟩, v8 t6.2.o.m.x9), (⟨g2, 29, none⟩, v8 t6.2.o.m.x10), (⟨g2, 30, none⟩, v8 t6.2.o.m.x11), (⟨g2, 31, none⟩, .slice A10 t6.2.da.length c10)] (.one (at_blk (j := 1) rfl rfl) (.one (at_blk (j := 1) rfl rfl) (.one (at_blk (j := 1) rfl rfl) (.one (at_blk (j := 1) rfl rfl) (.one (at_blk (j := 1) rfl rfl) (.one (at_blk (j := 1) rfl rfl) (.one (at_blk (j := 1) rfl rfl) (.one (at_blk (j := 1) rfl rfl) (.one (at_blk (j := 1) rfl rfl) (.one (at_blk (j := 1) rfl rfl) (.one (at_blk (j := 1) rfl rfl) (.one (at_blk (j := 1) rfl rfl) (.one (at_blk (j := 1) rfl rfl) (.one (at_blk (j := 1) rfl rfl) (.one (at_blk (j := 1) rfl rfl) (.one (at_blk (j := 1) rfl rfl) (.one (at_blk (j := 1) rfl rfl) (.one (at_blk (j := 1) rfl rfl) (.one (at_blk (j := 1) rfl rfl) (.one (at_blk (j := 1) rfl rfl) (.one (at_blk (j := 1) rfl rfl) (.one (at_blk (j := 1) rfl rfl) (.one (at_blk (j := 1) rfl rfl) (.one (at_blk (j := 1) rfl rfl) (.one (at_blk (j := 1) rfl rfl) (.one (at_blk (j := 1) rfl rfl) (.one (at_blk (j := 1) rfl rfl) (.one (at_blk (j := 1) rfl rfl) (.one (at_blk (j := 1) rfl rfl) (.one (at_blk (j := 1) rfl rfl) (.one (at_blk (j := 1) rfl rfl) (.one (at_blk (j := 1) rfl rfl) .nil)))))))))))))))))))))))))))))))) (by kernel_rfl) (by kernel_rfl) rfl (by kernel_rfl) (by kernel_rfl) ⟨hs10, hs11⟩
  · have hm := ht1
    refine w_cond (.tmp 19) 58 59 (decide ((I64 t1) > 0)) (by kernel_rfl) (by kernel_rfl) (fun hb2 => ?_) (fun hb2 => ?_)
    · replace hm := ite_t hb2 hm
      refine w_seq 116 117 (by kernel_rfl) ?_
      refine w_region (by kernel_rfl) ?_
      refine o_run 1 [1, 2, 3, 6, 20] (l := []) .nil (E' := [(1, v32 a1), (2, v32 a2), (3, (pg g1)), (6, (pg g2)), (20, v64 (I64 t1))]) (by kernel_rfl) ?_
      obtain ⟨t7, hx7, hm⟩ := bind_some hm
      refine o_stp ?_ (by kernel_rfl)
      refine s_call 21 48 #[pg g1, v8 2, v64 (I64 t1)] [1] [0] (by kernel_rfl) (by kernel_rfl) (fun w hs => seg_drop_ok a0 2 (I64 t1) t7 hx7 B _ g1 A1 c1 A2 c2 hs1 hs2 w (St.cast (by kernel_rfl) hs)) (fun x hx => ?_)
      obtain ⟨A11, c11, A12, c12⟩ := x
      obtain ⟨hs12, hs13⟩ := hx
      refine t_L (L' := [.blk g1 [v16 t7.2.sr, v16 t7.2.ds, v32 t7.2.sq, v32 t7.2.ak, v8 t7.2.fl, v16 t7.2.wi, v16 t7.2.ur, vb t7.2.o.hM, v16 t7.2.o.ms, vb t7.2.o.hS, v8 t7.2.o.sc, vb t7.2.o.sO, .slice A11 t7.2.o.sk.length c11, vb t7.2.o.hT, v32 t7.2.o.va, v32 t7.2.o.ec, vb t7.2.o.hO, v8 t7.2.o.ki, v8 t7.2.o.ni, v8 t7.2.o.m.x0, v8 t7.2.o.m.x1, v8 t7.2.o.m.x2, v8 t7.2.o.m.x3, v8 t7.2.o.m.x4, v8 t7.2.o.m.x5, v8 t7.2.o.m.x6, v8 t7.2.o.m.x7, v8 t7.2.o.m.x8, v8 t7.2.o.m.x9, v8 t7.2.o.m.x10, v8 t7.2.o.m.x11, .slice A12 t7.2.da.length c12] 34, .blk g2 [v16 0, v16 0, v32 0, v32 0, v8 0, v16 0, v16 0, vb false, v16 0, vb false, v8 0, vb false, .slice none 0 0, vb false, v32 0, v32 0, vb false, v8 0, v8 0, v8 0, v8 0, v8 0, v8 0, v8 0, v8 0, v8 0, v8 0, v8 0, v8 0, v8 0, v8 0, .slice none 0 0] 34]) (by kernel_rfl) ?_
      refine o_run 1 [1, 2, 3, 6, 8] (l := []) .nil (E' := [(1, v32 a1), (2, v32 a2), (3, (pg g1)), (6, (pg g2)), (8, v64 t7.1)]) (by kernel_rfl) ?_
      refine o_end (by kernel_rfl) ?_
      refine e_seq ?_
      refine w_seq 234 235 (by kernel_rfl) ?_
      refine w_region (by kernel_rfl) ?_
      refine o_run 6 [1, 2, 3, 6, 8, 9] (l := [(⟨g1, 31, none⟩, .slice A12 t7.2.da.length c12)]) (.one (at_blk (j := 0) rfl rfl) .nil) (E' := [(1, v32 a1), (2, v32 a2), (3, (pg g1)), (6, (pg g2)), (8, v64 t7.1), (9, v64 (imin t7.1 (t7.2.da.length : Int)))]) (by kernel_rfl) ?_
      refine o_end (by kernel_rfl) ?_
      refine e_seq ?_
      refine w_seq 470 471 (by kernel_rfl) ?_
      refine w_region (by kernel_rfl) ?_
      refine o_run 3 [1, 2, 3, 6, 8, 9, 28, 29] (l := [(⟨g1, 31, none⟩, .slice A12 t7.2.da.length c12)]) (.one (at_blk (j := 0) rfl rfl) .nil) (E' := [(1, v32 a1), (2, v32 a2), (3, (pg g1)), (6, (pg g2)), (8, v64 t7.1), (9, v64 (imin t7.1 (t7.2.da.length : Int))), (28, .slice A12 t7.2.da.length c12), (29, v64 (imin t7.1 (t7.2.da.length : Int)))]) (by kernel_rfl) ?_
      obtain ⟨l2, hx8, hm⟩ := bind_some hm
      refine o_val 30 (.slice 32 (.tmp 28) (some (.tmp 29)) none none) (.slice (cutA A12 (Int.toNat (imin t7.1 (t7.2.da.length : Int))) c12 1) l2.length (c12 - Int.toNat (imin t7.1 (t7.2.da.length : Int)))) (by kernel_rfl) (i_slice 32 (.tmp 28) (some (.tmp 29)) none hs13 hx8 (by kernel_rfl) (by kernel_rfl) (by kernel_rfl) (by kernel_rfl)) ?_
      have hs14 := sl_cut hs13 hx8
      refine o_run 1 [1, 2, 3, 6, 8, 9, 30, 31] (l := []) .nil (E' := [(1, v32 a1), (2, v32 a2), (3, (pg g1)), (6, (pg g2)), (8, v64 t7.1), (9, v64 (imin t7.1 (t7.2.da.length : Int))), (30, .slice (cutA A12 (Int.toNat (imin t7.1 (t7.2.da.length : Int))) c12 1) l2.length (c12 - Int.toNat (imin t7.1 (t7.2.da.length : Int)))), (31, .pointer (some ⟨g1, 31, none⟩))]) (by kernel_rfl) ?_
      refine o_stp ?_ (by kernel_rfl)
      refine s_store 0 g1 [v16 t7.2.sr, v16 t7.2.ds, v32 t7.2.sq, v32 t7.2.ak, v8 t7.2.fl, v16 t7.2.wi, v16 t7.2.ur, vb t7.2.o.hM, v16 t7.2.o.ms, vb t7.2.o.hS, v8 t7.2.o.sc, vb t7.2.o.sO, .slice A11 t7.2.o.sk.length c11, vb t7.2.o.hT, v32 t7.2.o.va, v32 t7.2.o.ec, vb t7.2.o.hO, v8 t7.2.o.ki, v8 t7.2.o.ni, v8 t7.2.o.m.x0, v8 t7.2.o.m.x1, v8 t7.2.o.m.x2, v8 t7.2.o.m.x3, v8 t7.2.o.m.x4, v8 t7.2.o.m.x5, v8 t7.2.o.m.x6, v8 t7.2.o.m.x7, v8 t7.2.o.m.x8, v8 t7.2.o.m.x9, v8 t7.2.o.m.x10, v8 t7.2.o.m.x11, .slice A12 t7.2.da.length c12] 34 [(31, .slice (cutA A12 (Int.toNat (imin t7.1 (t7.2.da.length : Int))) c12 1) l2.length (c12 - Int.toNat (imin t7.1 (t7.2.da.length : Int))))] (by kernel_rfl) (by kernel_rfl) (by kernel_rfl) ?_
      refine t_L (L' := [.blk g1 [v16 t7.2.sr, v16 t7.2.ds, v32 t7.2.sq, v32 t7.2.ak, v8 t7.2.fl, v16 t7.2.wi, v16 t7.2.ur, vb t7.2.o.hM, v16 t7.2.o.ms, vb t7.2.o.hS, v8 t7.2.o.sc, vb t7.2.o.sO, .slice A11 t7.2.o.sk.length c11, vb t7.2.o.hT, v32 t7.2.o.va, v32 t7.2.o.ec, vb t7.2.o.hO, v8 t7.2.o.ki, v8 t7.2.o.ni, v8 t7.2.o.m.x0, v8 t7.2.o.m.x1, v8 t7.2.o.m.x2, v8 t7.2.o.m.x3, v8 t7.2.o.m.x4, v8 t7.2.o.m.x5, v8 t7.2.o.m.x6, v8 t7.2.o.m.x7, v8 t7.2.o.m.x8, v8 t7.2.o.m.x9, v8 t7.2.o.m.x10, v8 t7.2.o.m.x11, .slice (cutA A12 (Int.toNat (imin t7.1 (t7.2.da.length : Int))) c12 1) l2.length (c12 - Int.toNat (imin t7.1 (t7.2.da.length : Int)))] 34, .blk g2 [v16 0, v16 0, v32 0, v32 0, v8 0, v16 0, v16 0, vb false, v16 0, vb false, v8 0, vb false, .slice none 0 0, vb false, v32 0, v32 0, vb false, v8 0, v8 0, v8 0, v8 0, v8 0, v8 0, v8 0, v8 0, v8 0, v8 0, v8 0, v8 0, v8 0, v8 0, .slice none 0 0] 34]) (by kernel_rfl) ?_
      refine o_end (by kernel_rfl) ?_
      refine e_seq ?_
      refine w_seq 942 943 (by kernel_rfl) ?_
      refine w_region (by kernel_rfl) ?_
      refine o_run 3 [1, 2, 3, 6, 34] (l := []) .nil (E' := [(1, v32 a1), (2, v32 a2), (3, (pg g1)), (6, (pg g2)), (34, v64 (I64 (t7.1 - (imin t7.1 (t7.2.da.length : Int)))))]) (by kernel_rfl) ?_
      obtain ⟨t8, hx9, hm⟩ := bind_some hm
      refine o_stp ?_ (by kernel_rfl)
      refine s_call 35 48 #[pg g1, v8 1, v64 (I64 (t7.1 - (imin t7.1 (t7.2.da.length : Int))))] [0] [1] (by kernel_rfl) (by kernel_rfl) (fun w hs => seg_drop_ok (⟨t7.2.sr, t7.2.ds, t7.2.sq, t7.2.ak, t7.2.fl, t7.2.wi, t7.2.ur, t7.2.o, l2⟩ : TS) 1 (I64 (t7.1 - (imin t7.1 (t7.2.da.length : Int)))) t8 hx9 B _ g1 A11 c11 (cutA A12 (Int.toNat (imin t7.1 (t7.2.da.length : Int))) c12 1) (c12 - Int.toNat (imin t7.1 (t7.2.da.length : Int))) hs12 hs14 w (St.cast (by kernel_rfl) hs)) (fun x hx => ?_)
      obtain ⟨A13, c13, A14, c14⟩ := x
      obtain ⟨hs15, hs16⟩ := hx
      refine t_L (L' := [.blk g1 [v16 t8.2.sr, v16 t8.2.ds, v32 t8.2.sq, v32 t8.2.ak, v8 t8.2.fl, v16 t8.2.wi, v16 t8.2.ur, vb t8.2.o.hM, v16 t8.2.o.ms, vb t8.2.o.hS, v8 t8.2.o.sc, vb t8.2.o.sO, .slice A13 t8.2.o.sk.length c13, vb t8.2.o.hT, v32 t8.2.o.va, v32 t8.2.o.ec, vb t8.2.o.hO, v8 t8.2.o.ki, v8 t8.2.o.ni, v8 t8.2.o.m.x0, v8 t8.2.o.m.x1, v8 t8.2.o.m.x2, v8 t8.2.o.m.x3, v8 t8.2.o.m.x4, v8 t8.2.o.m.x5, v8 t8.2.o.m.x6, v8 t8.2.o.m.x7, v8 t8.2.o.m.x8, v8 t8.2.o.m.x9, v8 t8.2.o.m.x10, v8 t8.2.o.m.x11, .slice A14 t8.2.da.length c14] 34, .blk g2 [v16 0, v16 0, v32 0, v32 0, v8 0, v16 0, v16 0, vb false, v16 0, vb false, v8 0, vb false, .slice none 0 0, vb false, v32 0, v32 0, vb false, v8 0, v8 0, v8 0, v8 0, v8 0, v8 0, v8 0, v8 0, v8 0, v8 0, v8 0, v8 0, v8 0, v8 0, .slice none 0 0] 34]) (by kernel_rfl) ?_
      refine o_end (by kernel_rfl) ?_
      refine e_seq ?_
      refine w_region (by kernel_rfl) ?_
      refine o_run 2 [2, 3, 6, 36, 37] (l := []) .nil (E' := [(2, v32 a2), (3, (pg g1)), (6, (pg g2)), (36, v32 a1), (37, .pointer (some ⟨g1, 2, none⟩))]) (by kernel_rfl) ?_
      refine o_stp ?_ (by kernel_rfl)
      refine s_store 0 g1 [v16 t8.2.sr, v16 t8.2.ds, v32 t8.2.sq, v32 t8.2.ak, v8 t8.2.fl, v16 t8.2.wi, v16 t8.2.ur, vb t8.2.o.hM, v16 t8.2.o.ms, vb t8.2.o.hS, v8 t8.2.o.sc, vb t8.2.o.sO, .slice A13 t8.2.o.sk.length c13, vb t8.2.o.hT, v32 t8.2.o.va, v32 t8.2.o.ec, vb t8.2.o.hO, v8 t8.2.o.ki, v8 t8.2.o.ni, v8 t8.2.o.m.x0, v8 t8.2.o.m.x1, v8 t8.2.o.m.x2, v8 t8.2.o.m.x3, v8 t8.2.o.m.x4, v8 t8.2.o.m.x5, v8 t8.2.o.m.x6, v8 t8.2.o.m.x7, v8 t8.2.o.m.x8, v8 t8.2.o.m.x9, v8 t8.2.o.m.x10, v8 t8.2.o.m.x11, .slice A14 t8.2.da.length c14] 34 [(2, v32 a1)] (by kernel_rfl) (by kernel_rfl) (by kernel_rfl) ?_
      refine t_L (L' := [.blk g1 [v16 t8.2.sr, v16 t8.2.ds, v32 a1, v32 t8.2.ak, v8 t8.2.fl, v16 t8.2.wi, v16 t8.2.ur, vb t8.2.o.hM, v16 t8.2.o.ms, vb t8.2.o.hS, v8 t8.2.o.sc, vb t8.2.o.sO, .slice A13 t8.2.o.sk.length c13, vb t8.2.o.hT, v32 t8.2.o.va, v32 t8.2.o.ec, vb t8.2.o.hO, v8 t8.2.o.ki, v8 t8.2.o.ni, v8 t8.2.o.m.x0, v8 t8.2.o.m.x1, v8 t8.2.o.m.x2, v8 t8.2.o.m.x3, v8 t8.2.o.m.x4, v8 t8.2.o.m.x5, v8 t8.2.o.m.x6, v8 t8.2.o.m.x7, v8 t8.2.o.m.x8, v8 t8.2.o.m.x9, v8 t8.2.o.m.x10, v8 t8.2.o.m.x11, .slice A14 t8.2.da.length c14] 34, .blk g2 [v16 0, v16 0, v32 0, v32 0, v8 0, v16 0, v16 0, vb false, v16 0, vb false, v8 0, vb false, .slice none 0 0, vb false, v32 0, v32 0, vb false, v8 0, v8 0, v8 0, v8 0, v8 0, v8 0, v8 0, v8 0, v8 0, v8 0, v8 0, v8 0, v8 0, v8 0, .slice none 0 0] 34]) (by kernel_rfl) ?_
      refine o_run 1 [2, 3, 6, 7] (l := []) .nil (E' := [(2, v32 a2), (3, (pg g1)), (6, (pg g2)), (7, v64 0)]) (by kernel_rfl) ?_
      refine o_end (by kernel_rfl) ?_
      refine t_drop [1, 0] (by kernel_rfl) ?_
      refine t_L (L' := [.blk g2 [v16 0, v16 0, v32 0, v32 0, v8 0, v16 0, v16 0, vb false, v16 0, vb false, v8 0, vb false, .slice none 0 0, vb false, v32 0, v32 0, vb false, v8 0, v8 0, v8 0, v8 0, v8 0, v8 0, v8 0, v8 0, v8 0, v8 0, v8 0, v8 0, v8 0, v8 0, .slice none 0 0] 34, .blk g1 [v16 t8.2.sr, v16 t8.2.ds, v32 a1, v32 t8.2.ak, v8 t8.2.fl, v16 t8.2.wi, v16 t8.2.ur, vb t8.2.o.hM, v16 t8.2.o.ms, vb t8.2.o.hS, v8 t8.2.o.sc, vb t8.2.o.sO, .slice A13 t8.2.o.sk.length c13, vb t8.2.o.hT, v32 t8.2.o.va, v32 t8.2.o.ec, vb t8.2.o.hO, v8 t8.2.o.ki, v8 t8.2.o.ni, v8 t8.2.o.m.x0, v8 t8.2.o.m.x1, v8 t8.2.o.m.x2, v8 t8.2.o.m.x3, v8 t8.2.o.m.x4, v8 t8.2.o.m.x5, v8 t8.2.o.m.x6, v8 t8.2.o.m.x7, v8 t8.2.o.m.x8, v8 t8.2.o.m.x9, v8 t8.2.o.m.x10, v8 t8.2.o.m.x11, .slice A14 t8.2.da.length c14] 34]) (by kernel_rfl) ?_
      refine t_env [2, 3, 6, 7] (E' := [(2, v32 a2), (3, (pg g1)), (6, (pg g2)), (7, v64 0)]) (by kernel_rfl) ?_
      obtain rfl := Option.some.inj hm
      exact e_inv (fun a w ha hw => ⟨A13, c13, A14, c14, hs15, hs16, ha, hw⟩)
    · replace hm := ite_f hb2 hm
      refine w_skip (by kernel_rfl) ?_
      refine t_drop [0, 1] (by kernel_rfl) ?_
      refine t_L (L' := [.blk g2 [v16 0, v16 0, v32 0, v32 0, v8 0, v16 0, v16 0, vb false, v16 0, vb false, v8 0, vb false, .slice none 0 0, vb false, v32 0, v32 0, vb false, v8 0, v8 0, v8 0, v8 0, v8 0, v8 0, v8 0, v8 0, v8 0, v8 0, v8 0, v8 0, v8 0, v8 0, .slice none 0 0] 34, .blk g1 [v16 a0.sr, v16 a0.ds, v32 a0.sq, v32 a0.ak, v8 a0.fl, v16 a0.wi, v16 a0.ur, vb a0.o.hM, v16 a0.o.ms, vb a0.o.hS, v8 a0.o.sc, vb a0.o.sO, .slice A1 a0.o.sk.length c1, vb a0.o.hT, v32 a0.o.va, v32 a0.o.ec, vb a0.o.hO, v8 a0.o.ki, v8 a0.o.ni, v8 a0.o.m.x0, v8 a0.o.m.x1, v8 a0.o.m.x2, v8 a0.o.m.x3, v8 a0.o.m.x4, v8 a0.o.m.x5, v8 a0.o.m.x6, v8 a0.o.m.x7, v8 a0.o.m.x8, v8 a0.o.m.x9, v8 a0.o.m.x10, v8 a0.o.m.x11, .slice A2 a0.da.length c2] 34]) (by kernel_rfl) ?_
      refine t_env [2, 3, 6, 7] (E' := [(2, v32 a2), (3, (pg g1)), (6, (pg g2)), (7, v64 (I64 t1))]) (by kernel_rfl) ?_
      obtain rfl := Option.some.inj hm
      exact e_inv (fun a w ha hw => ⟨A1, c1, A2, c2, hs1, hs2, ha, hw⟩)
def r_In.f (a0 : Int) (a1 : Int) (a2 : Int) : Option (Bool) :=
  ((r_ahead.f a1 a0).bind fun t1 => (some (decide (t1 < (I64 a2)))))
theorem r_In_ok (a0 : Int) (a1 : Int) (a2 : Int) (r : Bool) (hm : r_In.f a0 a1 a2 = some r) (B G : Asn) (w : World) (hs : St B G [] w) :
    Calls Try.prog 28 #[v32 a0, v32 a1, v32 a2] w (Post (X := Unit) (fun x => vb r) (fun x => B) G (fun x => []) (fun x => True)) := by
  unfold r_In.f at hm
  refine calls_W (F := Try.f28) Try.func28 rfl (by kernel_rfl) (L := []) ?_ hs
  refine w_seq 2 3 (by kernel_rfl) ?_
  refine w_region (by kernel_rfl) ?_
  refine o_run 1 [0, 1, 2] (l := []) .nil (E' := [(0, v32 a0), (1, v32 a1), (2, v32 a2)]) (by kernel_rfl) ?_
  refine o_end (by kernel_rfl) ?_
  refine e_seq ?_
  refine w_seq 6 7 (by kernel_rfl) ?_
  refine w_region (by kernel_rfl) ?_
  refine o_run 2 [2, 7, 8] (l := []) .nil (E' := [(2, v32 a2), (7, v32 a1), (8, v32 a0)]) (by kernel_rfl) ?_
  obtain ⟨t1, hx1, hm⟩ := bind_some hm
  refine o_stp ?_ (by kernel_rfl)
  refine s_call 9 52 #[v32 a1, v32 a0] [] [] (by kernel_rfl) (by kernel_rfl) (fun w hs => r_ahead_ok a1 a0 t1 hx1 B _ w (St.cast (by kernel_rfl) hs)) (fun _ hx => ?_)
  refine t_L (L' := []) (by kernel_rfl) ?_
  refine o_run 4 [6] (l := []) .nil (E' := [(6, vb (decide (t1 < (I64 a2))))]) (by kernel_rfl) ?_
  refine o_end (by kernel_rfl) ?_
  refine e_seq ?_
  refine w_ret (by kernel_rfl) ?_
  obtain rfl := Option.some.inj hm
  exact e_retP () (vb (decide (t1 < (I64 a2)))) [] (by kernel_rfl) (by kernel_rfl) rfl (by kernel_rfl) (by kernel_rfl) trivial
def opts_Same_2.f (k : Nat) (a0 : TO) (a1 : TO) : Option (Bool) :=
  (if a0.hM == a1.hM then (if a0.ms == a1.ms then (if a0.hS == a1.hS then (if a0.sc == a1.sc then (if a0.sO == a1.sO then (if a0.hT == a1.hT then (if a0.va == a1.va then (if a0.ec == a1.ec then (if a0.hO == a1.hO then (if a0.ki == a1.ki then (if a0.ni == a1.ni then (if ((a0.m.x0 == a1.m.x0) && ((a0.m.x1 == a1.m.x1) && ((a0.m.x2 == a1.m.x2) && ((a0.m.x3 == a1.m.x3) && ((a0.m.x4 == a1.m.x4) && ((a0.m.x5 == a1.m.x5) && ((a0.m.x6 == a1.m.x6) && ((a0.m.x7 == a1.m.x7) && ((a0.m.x8 == a1.m.x8) && ((a0.m.x9 == a1.m.x9) && ((a0.m.x10 == a1.m.x10) && (a0.m.x11 == a1.m.x11)))))))))))) then ((sEq.f k a0.sk a1.sk).bind fun t1 => (some t1)) else (some false)) else (some false)) else (some false)) else (some false)) else (some false)) else (some false)) else (some false)) else (some false)) else (some false)) else (some false)) else (some false)) else (some false))
theorem opts_Same_2_ok (k : Nat) (a0 : TO) (a1 : TO) (r : Bool) (hm : opts_Same_2.f k a0 a1 = some r) (B G : Asn) (A1 : Option Addr) (c1 : Nat) (A2 : Option Addr) (c2 : Nat) (hs1 : Sl kTB B A1 c1 a0.sk) (hs2 : Sl kTB B A2 c2 a1.sk) (w : World) (hs : St B G [] w) :
    Calls Try.prog 36 #[.agg #[vb a0.hM, v16 a0.ms, vb a0.hS, v8 a0.sc, vb a0.sO, .slice A1 a0.sk.length c1, vb a0.hT, v32 a0.va, v32 a0.ec, vb a0.hO, v8 a0.ki, v8 a0.ni, v8 a0.m.x0, v8 a0.m.x1, v8 a0.m.x2, v8 a0.m.x3, v8 a0.m.x4, v8 a0.m.x5, v8 a0.m.x6, v8 a0.m.x7, v8 a0.m.x8, v8 a0.m.x9, v8 a0.m.x10, v8 a0.m.x11], .agg #[vb a1.hM, v16 a1.ms, vb a1.hS, v8 a1.sc, vb a1.sO, .slice A2 a1.sk.length c2, vb a1.hT, v32 a1.va, v32 a1.ec, vb a1.hO, v8 a1.ki, v8 a1.ni, v8 a1.m.x0, v8 a1.m.x1, v8 a1.m.x2, v8 a1.m.x3, v8 a1.m.x4, v8 a1.m.x5, v8 a1.m.x6, v8 a1.m.x7, v8 a1.m.x8, v8 a1.m.x9, v8 a1.m.x10, v8 a1.m.x11]] w (Post (X := Unit) (fun x => vb r) (fun x => B) G (fun x => []) (fun x => True)) := by
  unfold opts_Same_2.f at hm
  refine calls_W (F := Try.f36) Try.func36 rfl (by kernel_rfl) (L := []) ?_ hs
  refine w_seq 2 3 (by kernel_rfl) ?_
  refine w_region (by kernel_rfl) ?_
  refine o_stp ?_ (by kernel_rfl)
  refine s_new 2 (fun g1 => (pg g1)) [vb a0.hM, v16 a0.ms, vb a0.hS, v8 a0.sc, vb a0.sO, .slice A1 a0.sk.length c1, vb a0.hT, v32 a0.va, v32 a0.ec, vb a0.hO, v8 a0.ki, v8 a0.ni, v8 a0.m.x0, v8 a0.m.x1, v8 a0.m.x2, v8 a0.m.x3, v8 a0.m.x4, v8 a0.m.x5, v8 a0.m.x6, v8 a0.m.x7, v8 a0.m.x8, v8 a0.m.x9, v8 a0.m.x10, v8 a0.m.x11] 31 (fun _ => by kernel_rfl) (fun g1 => ?_)
  refine o_stp ?_ (by kernel_rfl)
  refine s_new 3 (fun g2 => (pg g2)) [vb a1.hM, v16 a1.ms, vb a1.hS, v8 a1.sc, vb a1.sO, .slice A2 a1.sk.length c2, vb a1.hT, v32 a1.va, v32 a1.ec, vb a1.hO, v8 a1.ki, v8 a1.ni, v8 a1.m.x0, v8 a1.m.x1, v8 a1.m.x2, v8 a1.m.x3, v8 a1.m.x4, v8 a1.m.x5, v8 a1.m.x6, v8 a1.m.x7, v8 a1.m.x8, v8 a1.m.x9, v8 a1.m.x10, v8 a1.m.x11] 31 (fun _ => by kernel_rfl) (fun g2 => ?_)
  refine o_run 1 [2, 3] (l := []) .nil (E' := [(2, (pg g1)), (3, (pg g2))]) (by kernel_rfl) ?_
  refine o_end (by kernel_rfl) ?_
  refine e_seq ?_
  refine w_seq 6 7 (by kernel_rfl) ?_
  refine w_region (by kernel_rfl) ?_
  refine o_run 6 [2, 3, 10] (l := [(⟨g1, 0, none⟩, vb a0.hM), (⟨g2, 0, none⟩, vb a1.hM)]) (.one (at_blk (j := 1) rfl rfl) (.one (at_blk (j := 0) rfl rfl) .nil)) (E' := [(2, (pg g1)), (3, (pg g2)), (10, vb (a0.hM == a1.hM))]) (by kernel_rfl) ?_
  refine o_split 10 (a0.hM == a1.hM) (by kernel_rfl) (fun hb1 => ?_) (fun hb1 => ?_)
  · replace hm := ite_t hb1 hm
    refine o_run 7 [2, 3, 17] (l := [(⟨g1, 1, none⟩, v16 a0.ms), (⟨g2, 1, none⟩, v16 a1.ms)]) (.one (at_blk (j := 1) rfl rfl) (.one (at_blk (j := 0) rfl rfl) .nil)) (E' := [(2, (pg g1)), (3, (pg g2)), (17, vb (a0.ms == a1.ms))]) (by kernel_rfl) ?_
    refine o_split 17 (a0.ms == a1.ms) (by kernel_rfl) (fun hb2 => ?_) (fun hb2 => ?_)
    · replace hm := ite_t hb2 hm
      refine o_run 7 [2, 3, 24] (l := [(⟨g1, 2, none⟩, vb a0.hS), (⟨g2, 2, none⟩, vb a1.hS)]) (.one (at_blk (j := 1) rfl rfl) (.one (at_blk (j := 0) rfl rfl) .nil)) (E' := [(2, (pg g1)), (3, (pg g2)), (24, vb (a0.hS == a1.hS))]) (by kernel_rfl) ?_
      refine o_split 24 (a0.hS == a1.hS) (by kernel_rfl) (fun hb3 => ?_) (fun hb3 => ?_)
      · replace hm := ite_t hb3 hm
        refine o_run 7 [2, 3, 31] (l := [(⟨g1, 3, none⟩, v8 a0.sc), (⟨g2, 3, none⟩, v8 a1.sc)]) (.one (at_blk (j := 1) rfl rfl) (.one (at_blk (j := 0) rfl rfl) .nil)) (E' := [(2, (pg g1)), (3, (pg g2)), (31, vb (a0.sc == a1.sc))]) (by kernel_rfl) ?_
        refine o_split 31 (a0.sc == a1.sc) (by kernel_rfl) (fun hb4 => ?_) (fun hb4 => ?_)
        · replace hm := ite_t hb4 hm
          refine o_run 7 [2, 3, 38] (l := [(⟨g1, 4, none⟩, vb a0.sO), (⟨g2, 4, none⟩, vb a1.sO)]) (.one (at_blk (j := 1) rfl rfl) (.one (at_blk (j := 0) rfl rfl) .nil)) (E' := [(2, (pg g1)), (3, (pg g2)), (38, vb (a0.sO == a1.sO))]) (by kernel_rfl) ?_
          refine o_split 38 (a0.sO == a1.sO) (by kernel_rfl) (fun hb5 => ?_) (fun hb5 => ?_)
          · replace hm := ite_t hb5 hm
            refine o_run 7 [2, 3, 45] (l := [(⟨g1, 6, none⟩, vb a0.hT), (⟨g2, 6, none⟩, vb a1.hT)]) (.one (at_blk (j := 1) rfl rfl) (.one (at_blk (j := 0) rfl rfl) .nil)) (E' := [(2, (pg g1)), (3, (pg g2)), (45, vb (a0.hT == a1.hT))]) (by kernel_rfl) ?_
            refine o_split 45 (a0.hT == a1.hT) (by kernel_rfl) (fun hb6 => ?_) (fun hb6 => ?_)
            · replace hm := ite_t hb6 hm
              refine o_run 7 [2, 3, 52] (l := [(⟨g1, 7, none⟩, v32 a0.va), (⟨g2, 7, none⟩, v32 a1.va)]) (.one (at_blk (j := 1) rfl rfl) (.one (at_blk (j := 0) rfl rfl) .nil)) (E' := [(2, (pg g1)), (3, (pg g2)), (52, vb (a0.va == a1.va))]) (by kernel_rfl) ?_
              refine o_split 52 (a0.va == a1.va) (by kernel_rfl) (fun hb7 => ?_) (fun hb7 => ?_)
              · replace hm := ite_t hb7 hm
                refine o_run 7 [2, 3, 59] (l := [(⟨g1, 8, none⟩, v32 a0.ec), (⟨g2, 8, none⟩, v32 a1.ec)]) (.one (at_blk (j := 1) rfl rfl) (.one (at_blk (j := 0) rfl rfl) .nil)) (E' := [(2, (pg g1)), (3, (pg g2)), (59, vb (a0.ec == a1.ec))]) (by kernel_rfl) ?_
                refine o_split 59 (a0.ec == a1.ec) (by kernel_rfl) (fun hb8 => ?_) (fun hb8 => ?_)
                · replace hm := ite_t hb8 hm
                  refine o_run 7 [2, 3, 66] (l := [(⟨g1, 9, none⟩, vb a0.hO), (⟨g2, 9, none⟩, vb a1.hO)]) (.one (at_blk (j := 1) rfl rfl) (.one (at_blk (j := 0) rfl rfl) .nil)) (E' := [(2, (pg g1)), (3, (pg g2)), (66, vb (a0.hO == a1.hO))]) (by kernel_rfl) ?_
                  refine o_split 66 (a0.hO == a1.hO) (by kernel_rfl) (fun hb9 => ?_) (fun hb9 => ?_)
                  · replace hm := ite_t hb9 hm
                    refine o_run 7 [2, 3, 73] (l := [(⟨g1, 10, none⟩, v8 a0.ki), (⟨g2, 10, none⟩, v8 a1.ki)]) (.one (at_blk (j := 1) rfl rfl) (.one (at_blk (j := 0) rfl rfl) .nil)) (E' := [(2, (pg g1)), (3, (pg g2)), (73, vb (a0.ki == a1.ki))]) (by kernel_rfl) ?_
                    refine o_split 73 (a0.ki == a1.ki) (by kernel_rfl) (fun hb10 => ?_) (fun hb10 => ?_)
                    · replace hm := ite_t hb10 hm
                      refine o_run 7 [2, 3, 80] (l := [(⟨g1, 11, none⟩, v8 a0.ni), (⟨g2, 11, none⟩, v8 a1.ni)]) (.one (at_blk (j := 1) rfl rfl) (.one (at_blk (j := 0) rfl rfl) .nil)) (E' := [(2, (pg g1)), (3, (pg g2)), (80, vb (a0.ni == a1.ni))]) (by kernel_rfl) ?_
                      refine o_split 80 (a0.ni == a1.ni) (by kernel_rfl) (fun hb11 => ?_) (fun hb11 => ?_)
                      · replace hm := ite_t hb11 hm
                        refine o_run 1 [2, 3, 80, 81] (l := []) .nil (E' := [(2, (pg g1)), (3, (pg g2)), (80, vb true), (81, .pointer (some ⟨g1, 12, none⟩))]) (by kernel_rfl) ?_
                        refine o_val 82 (.load 29 (.tmp 81)) (.agg #[v8 a0.m.x0, v8 a0.m.x1, v8 a0.m.x2, v8 a0.m.x3, v8 a0.m.x4, v8 a0.m.x5, v8 a0.m.x6, v8 a0.m.x7, v8 a0.m.x8, v8 a0.m.x9, v8 a0.m.x10, v8 a0.m.x11]) (by kernel_rfl) (v_load (l := [v8 a0.m.x0, v8 a0.m.x1, v8 a0.m.x2, v8 a0.m.x3, v8 a0.m.x4, v8 a0.m.x5, v8 a0.m.x6, v8 a0.m.x7, v8 a0.m.x8, v8 a0.m.x9, v8 a0.m.x10, v8 a0.m.x11]) (a := ⟨g1, 12, none⟩) (by kernel_rfl) (by kernel_rfl) (at_blk (j := 1) rfl rfl)) ?_
                        refine o_run 1 [2, 3, 80, 82, 83] (l := []) .nil (E' := [(2, (pg g1)), (3, (pg g2)), (80, vb true), (82, .agg #[v8 a0.m.x0, v8 a0.m.x1, v8 a0.m.x2, v8 a0.m.x3, v8 a0.m.x4, v8 a0.m.x5, v8 a0.m.x6, v8 a0.m.x7, v8 a0.m.x8, v8 a0.m.x9, v8 a0.m.x10, v8 a0.m.x11]), (83, .pointer (some ⟨g2, 12, none⟩))]) (by kernel_rfl) ?_
                        refine o_val 84 (.load 29 (.tmp 83)) (.agg #[v8 a1.m.x0, v8 a1.m.x1, v8 a1.m.x2, v8 a1.m.x3, v8 a1.m.x4, v8 a1.m.x5, v8 a1.m.x6, v8 a1.m.x7, v8 a1.m.x8, v8 a1.m.x9, v8 a1.m.x10, v8 a1.m.x11]) (by kernel_rfl) (v_load (l := [v8 a1.m.x0, v8 a1.m.x1, v8 a1.m.x2, v8 a1.m.x3, v8 a1.m.x4, v8 a1.m.x5, v8 a1.m.x6, v8 a1.m.x7, v8 a1.m.x8, v8 a1.m.x9, v8 a1.m.x10, v8 a1.m.x11]) (a := ⟨g2, 12, none⟩) (by kernel_rfl) (by kernel_rfl) (at_blk (j := 0) rfl rfl)) ?_
                        refine o_val 85 (.binOp .eql 29 (.tmp 82) (.tmp 84) 29) (vb ((a0.m.x0 == a1.m.x0) && ((a0.m.x1 == a1.m.x1) && ((a0.m.x2 == a1.m.x2) && ((a0.m.x3 == a1.m.x3) && ((a0.m.x4 == a1.m.x4) && ((a0.m.x5 == a1.m.x5) && ((a0.m.x6 == a1.m.x6) && ((a0.m.x7 == a1.m.x7) && ((a0.m.x8 == a1.m.x8) && ((a0.m.x9 == a1.m.x9) && ((a0.m.x10 == a1.m.x10) && (a0.m.x11 == a1.m.x11))))))))))))) (by kernel_rfl) (v_eqS (xs := #[v8 a0.m.x0, v8 a0.m.x1, v8 a0.m.x2, v8 a0.m.x3, v8 a0.m.x4, v8 a0.m.x5, v8 a0.m.x6, v8 a0.m.x7, v8 a0.m.x8, v8 a0.m.x9, v8 a0.m.x10, v8 a0.m.x11]) (ys := #[v8 a1.m.x0, v8 a1.m.x1, v8 a1.m.x2, v8 a1.m.x3, v8 a1.m.x4, v8 a1.m.x5, v8 a1.m.x6, v8 a1.m.x7, v8 a1.m.x8, v8 a1.m.x9, v8 a1.m.x10, v8 a1.m.x11]) (b := ((a0.m.x0 == a1.m.x0) && ((a0.m.x1 == a1.m.x1) && ((a0.m.x2 == a1.m.x2) && ((a0.m.x3 == a1.m.x3) && ((a0.m.x4 == a1.m.x4) && ((a0.m.x5 == a1.m.x5) && ((a0.m.x6 == a1.m.x6) && ((a0.m.x7 == a1.m.x7) && ((a0.m.x8 == a1.m.x8) && ((a0.m.x9 == a1.m.x9) && ((a0.m.x10 == a1.m.x10) && (a0.m.x11 == a1.m.x11))))))))))))) (by kernel_rfl) (by kernel_rfl) (by kernel_rfl) (by kernel_rfl)) ?_
                        refine o_run 2 [2, 3, 87] (l := []) .nil (E' := [(2, (pg g1)), (3, (pg g2)), (87, vb ((a0.m.x0 == a1.m.x0) && ((a0.m.x1 == a1.m.x1) && ((a0.m.x2 == a1.m.x2) && ((a0.m.x3 == a1.m.x3) && ((a0.m.x4 == a1.m.x4) && ((a0.m.x5 == a1.m.x5) && ((a0.m.x6 == a1.m.x6) && ((a0.m.x7 == a1.m.x7) && ((a0.m.x8 == a1.m.x8) && ((a0.m.x9 == a1.m.x9) && ((a0.m.x10 == a1.m.x10) && (a0.m.x11 == a1.m.x11)))))))))))))]) (by kernel_rfl) ?_
                        refine o_split 87 ((a0.m.x0 == a1.m.x0) && ((a0.m.x1 == a1.m.x1) && ((a0.m.x2 == a1.m.x2) && ((a0.m.x3 == a1.m.x3) && ((a0.m.x4 == a1.m.x4) && ((a0.m.x5 == a1.m.x5) && ((a0.m.x6 == a1.m.x6) && ((a0.m.x7 == a1.m.x7) && ((a0.m.x8 == a1.m.x8) && ((a0.m.x9 == a1.m.x9) && ((a0.m.x10 == a1.m.x10) && (a0.m.x11 == a1.m.x11)))))))))))) (by kernel_rfl) (fun hb12 => ?_) (fun hb12 => ?_)
                        · replace hm := ite_t hb12 hm
                          refine o_run 4 [87, 89, 91] (l := [(⟨g1, 5, none⟩, .slice A1 a0.sk.length c1), (⟨g2, 5, none⟩, .slice A2 a1.sk.length c2)]) (.one (at_blk (j := 1) rfl rfl) (.one (at_blk (j := 0) rfl rfl) .nil)) (E' := [(87, vb true), (89, .slice A1 a0.sk.length c1), (91, .slice A2 a1.sk.length c2)]) (by kernel_rfl) ?_
                          obtain ⟨t1, hx1, hm⟩ := bind_some hm
                          refine o_stp ?_ (by kernel_rfl)
                          refine s_call 92 60 #[.slice A1 a0.sk.length c1, .slice A2 a1.sk.length c2] [] [0, 1] (by kernel_rfl) (by kernel_rfl) (fun w hs => sEq_ok k a0.sk a1.sk t1 hx1 B _ A1 c1 A2 c2 hs1 hs2 w (St.cast (by kernel_rfl) hs)) (fun _ hx => ?_)
                          refine t_L (L' := [.blk g2 [vb a1.hM, v16 a1.ms, vb a1.hS, v8 a1.sc, vb a1.sO, .slice A2 a1.sk.length c2, vb a1.hT, v32 a1.va, v32 a1.ec, vb a1.hO, v8 a1.ki, v8 a1.ni, v8 a1.m.x0, v8 a1.m.x1, v8 a1.m.x2, v8 a1.m.x3, v8 a1.m.x4, v8 a1.m.x5, v8 a1.m.x6, v8 a1.m.x7, v8 a1.m.x8, v8 a1.m.x9, v8 a1.m.x10, v8 a1.m.x11] 31, .blk g1 [vb a0.hM, v16 a0.ms, vb a0.hS, v8 a0.sc, vb a0.sO, .slice A1 a0.sk.length c1, vb a0.hT, v32 a0.va, v32 a0.ec, vb a0.hO, v8 a0.ki, v8 a0.ni, v8 a0.m.x0, v8 a0.m.x1, v8 a0.m.x2, v8 a0.m.x3, v8 a0.m.x4, v8 a0.m.x5, v8 a0.m.x6, v8 a0.m.x7, v8 a0.m.x8, v8 a0.m.x9, v8 a0.m.x10, v8 a0.m.x11] 31]) (by kernel_rfl) ?_
                          refine o_run 2 [4] (l := []) .nil (E' := [(4, vb t1)]) (by kernel_rfl) ?_
                          refine o_end (by kernel_rfl) ?_
                          refine e_seq ?_
                          refine w_ret (by kernel_rfl) ?_
                          obtain rfl := Option.some.inj hm
                          exact e_retP () (vb t1) [] (by kernel_rfl) (by kernel_rfl) rfl (by kernel_rfl) (by kernel_rfl) trivial
                        · replace hm := ite_f hb12 hm
                          refine o_run 7 [4] (l := []) .nil (E' := [(4, vb false)]) (by kernel_rfl) ?_
                          refine o_end (by kernel_rfl) ?_
                          refine e_seq ?_
                          refine w_ret (by kernel_rfl) ?_
                          obtain rfl := Option.some.inj hm
                          exact e_retP () (vb false) [] (by kernel_rfl) (by kernel_rfl) rfl (by kernel_rfl) (by kernel_rfl) trivial
                      · replace hm := ite_f hb11 hm
                        refine o_run 14 [4] (l := []) .nil (E' := [(4, vb false)]) (by kernel_rfl) ?_
                        refine o_end (by kernel_rfl) ?_
                        refine e_seq ?_
                        refine w_ret (by kernel_rfl) ?_
                        obtain rfl := Option.some.inj hm
                        exact e_retP () (vb false) [] (by kernel_rfl) (by kernel_rfl) rfl (by kernel_rfl) (by kernel_rfl) trivial
                    · replace hm := ite_f hb10 hm
                      refine o_run 21 [4] (l := []) .nil (E' := [(4, vb false)]) (by kernel_rfl) ?_
                      refine o_end (by kernel_rfl) ?_
                      refine e_seq ?_
                      refine w_ret (by kernel_rfl) ?_
                      obtain rfl := Option.some.inj hm
                      exact e_retP () (vb false) [] (by kernel_rfl) (by kernel_rfl) rfl (by kernel_rfl) (by kernel_rfl) trivial
                  · replace hm := ite_f hb9 hm
                    refine o_run 28 [4] (l := []) .nil (E' := [(4, vb false)]) (by kernel_rfl) ?_
                    refine o_end (by kernel_rfl) ?_
                    refine e_seq ?_
                    refine w_ret (by kernel_rfl) ?_
                    obtain rfl := Option.some.inj hm
                    exact e_retP () (vb false) [] (by kernel_rfl) (by kernel_rfl) rfl (by kernel_rfl) (by kernel_rfl) trivial
                · replace hm := ite_f hb8 hm
                  refine o_run 35 [4] (l := []) .nil (E' := [(4, vb false)]) (by kernel_rfl) ?_
                  refine o_end (by kernel_rfl) ?_
                  refine e_seq ?_
                  refine w_ret (by kernel_rfl) ?_
                  obtain rfl := Option.some.inj hm
                  exact e_retP () (vb false) [] (by kernel_rfl) (by kernel_rfl) rfl (by kernel_rfl) (by kernel_rfl) trivial
              · replace hm := ite_f hb7 hm
                refine o_run 42 [4] (l := []) .nil (E' := [(4, vb false)]) (by kernel_rfl) ?_
                refine o_end (by kernel_rfl) ?_
                refine e_seq ?_
                refine w_ret (by kernel_rfl) ?_
                obtain rfl := Option.some.inj hm
                exact e_retP () (vb false) [] (by kernel_rfl) (by kernel_rfl) rfl (by kernel_rfl) (by kernel_rfl) trivial
            · replace hm := ite_f hb6 hm
              refine o_run 49 [4] (l := []) .nil (E' := [(4, vb false)]) (by kernel_rfl) ?_
              refine o_end (by kernel_rfl) ?_
              refine e_seq ?_
              refine w_ret (by kernel_rfl) ?_
              obtain rfl := Option.some.inj hm
              exact e_retP () (vb false) [] (by kernel_rfl) (by kernel_rfl) rfl (by kernel_rfl) (by kernel_rfl) trivial
          · replace hm := ite_f hb5 hm
            refine o_run 56 [4] (l := []) .nil (E' := [(4, vb false)]) (by kernel_rfl) ?_
            refine o_end (by kernel_rfl) ?_
            refine e_seq ?_
            refine w_ret (by kernel_rfl) ?_
            obtain rfl := Option.some.inj hm
            exact e_retP () (vb false) [] (by kernel_rfl) (by kernel_rfl) rfl (by kernel_rfl) (by kernel_rfl) trivial
        · replace hm := ite_f hb4 hm
          refine o_run 63 [4] (l := []) .nil (E' := [(4, vb false)]) (by kernel_rfl) ?_
          refine o_end (by kernel_rfl) ?_
          refine e_seq ?_
          refine w_ret (by kernel_rfl) ?_
          obtain rfl := Option.some.inj hm
          exact e_retP () (vb false) [] (by kernel_rfl) (by kernel_rfl) rfl (by kernel_rfl) (by kernel_rfl) trivial
      · replace hm := ite_f hb3 hm
        refine o_run 70 [4] (l := []) .nil (E' := [(4, vb false)]) (by kernel_rfl) ?_
        refine o_end (by kernel_rfl) ?_
        refine e_seq ?_
        refine w_ret (by kernel_rfl) ?_
        obtain rfl := Option.some.inj hm
        exact e_retP () (vb false) [] (by kernel_rfl) (by kernel_rfl) rfl (by kernel_rfl) (by kernel_rfl) trivial
    · replace hm := ite_f hb2 hm
      refine o_run 77 [4] (l := []) .nil (E' := [(4, vb false)]) (by kernel_rfl) ?_
      refine o_end (by kernel_rfl) ?_
      refine e_seq ?_
      refine w_ret (by kernel_rfl) ?_
      obtain rfl := Option.some.inj hm
      exact e_retP () (vb false) [] (by kernel_rfl) (by kernel_rfl) rfl (by kernel_rfl) (by kernel_rfl) trivial
  · replace hm := ite_f hb1 hm
    refine o_run 84 [4] (l := []) .nil (E' := [(4, vb false)]) (by kernel_rfl) ?_
    refine o_end (by kernel_rfl) ?_
    refine e_seq ?_
    refine w_ret (by kernel_rfl) ?_
    obtain rfl := Option.some.inj hm
    exact e_retP () (vb false) [] (by kernel_rfl) (by kernel_rfl) rfl (by kernel_rfl) (by kernel_rfl) trivial
def seg_Same_2.f (k : Nat) (a0 : TS) (a1 : TS) : Option (Bool) :=
  (if a0.sr == a1.sr then (if a0.ds == a1.ds then (if a0.sq == a1.sq then (if a0.ak == a1.ak then (if a0.fl == a1.fl then (if a0.wi == a1.wi then (if a0.ur == a1.ur then ((opts_Same_2.f k a0.o a1.o).bind fun t1 => (if t1 then ((bytes_Equal.f a0.da a1.da).bind fun t2 => (some t2)) else (some false))) else (some false)) else (some false)) else (some false)) else (some false)) else (some false)) else (some false)) else (some false))
theorem seg_Same_2_ok (k : Nat) (a0 : TS) (a1 : TS) (r : Bool) (hm : seg_Same_2.f k a0 a1 = some r) (B G : Asn) (A1 : Option Addr) (c1 : Nat) (A2 : Option Addr) (c2 : Nat) (A3 : Option Addr) (c3 : Nat) (A4 : Option Addr) (c4 : Nat) (hs1 : Sl kTB B A1 c1 a0.o.sk) (hs2 : Sl (kI .u8) B A2 c2 a0.da) (hs3 : Sl kTB B A3 c3 a1.o.sk) (hs4 : Sl (kI .u8) B A4 c4 a1.da) (w : World) (hs : St B G [] w) :
    Calls Try.prog 17 #[.agg #[v16 a0.sr, v16 a0.ds, v32 a0.sq, v32 a0.ak, v8 a0.fl, v16 a0.wi, v16 a0.ur, vb a0.o.hM, v16 a0.o.ms, vb a0.o.hS, v8 a0.o.sc, vb a0.o.sO, .slice A1 a0.o.sk.length c1, vb a0.o.hT, v32 a0.o.va, v32 a0.o.ec, vb a0.o.hO, v8 a0.o.ki, v8 a0.o.ni, v8 a0.o.m.x0, v8 a0.o.m.x1, v8 a0.o.m.x2, v8 a0.o.m.x3, v8 a0.o.m.x4, v8 a0.o.m.x5, v8 a0.o.m.x6, v8 a0.o.m.x7, v8 a0.o.m.x8, v8 a0.o.m.x9, v8 a0.o.m.x10, v8 a0.o.m.x11, .slice A2 a0.da.length c2], .agg #[v16 a1.sr, v16 a1.ds, v32 a1.sq, v32 a1.ak, v8 a1.fl, v16 a1.wi, v16 a1.ur, vb a1.o.hM, v16 a1.o.ms, vb a1.o.hS, v8 a1.o.sc, vb a1.o.sO, .slice A3 a1.o.sk.length c3, vb a1.o.hT, v32 a1.o.va, v32 a1.o.ec, vb a1.o.hO, v8 a1.o.ki, v8 a1.o.ni, v8 a1.o.m.x0, v8 a1.o.m.x1, v8 a1.o.m.x2, v8 a1.o.m.x3, v8 a1.o.m.x4, v8 a1.o.m.x5, v8 a1.o.m.x6, v8 a1.o.m.x7, v8 a1.o.m.x8, v8 a1.o.m.x9, v8 a1.o.m.x10, v8 a1.o.m.x11, .slice A4 a1.da.length c4]] w (Post (X := Unit) (fun x => vb r) (fun x => B) G (fun x => []) (fun x => True)) := by
  unfold seg_Same_2.f at hm
  refine calls_W (F := Try.f17) Try.func17 rfl (by kernel_rfl) (L := []) ?_ hs
  refine w_seq 2 3 (by kernel_rfl) ?_
  refine w_region (by kernel_rfl) ?_
  refine o_stp ?_ (by kernel_rfl)
  refine s_new 2 (fun g1 => (pg g1)) [v16 a0.sr, v16 a0.ds, v32 a0.sq, v32 a0.ak, v8 a0.fl, v16 a0.wi, v16 a0.ur, vb a0.o.hM, v16 a0.o.ms, vb a0.o.hS, v8 a0.o.sc, vb a0.o.sO, .slice A1 a0.o.sk.length c1, vb a0.o.hT, v32 a0.o.va, v32 a0.o.ec, vb a0.o.hO, v8 a0.o.ki, v8 a0.o.ni, v8 a0.o.m.x0, v8 a0.o.m.x1, v8 a0.o.m.x2, v8 a0.o.m.x3, v8 a0.o.m.x4, v8 a0.o.m.x5, v8 a0.o.m.x6, v8 a0.o.m.x7, v8 a0.o.m.x8, v8 a0.o.m.x9, v8 a0.o.m.x10, v8 a0.o.m.x11, .slice A2 a0.da.length c2] 34 (fun _ => by kernel_rfl) (fun g1 => ?_)
  refine o_stp ?_ (by kernel_rfl)
  refine s_new 3 (fun g2 => (pg g2)) [v16 a1.sr, v16 a1.ds, v32 a1.sq, v32 a1.ak, v8 a1.fl, v16 a1.wi, v16 a1.ur, vb a1.o.hM, v16 a1.o.ms, vb a1.o.hS, v8 a1.o.sc, vb a1.o.sO, .slice A3 a1.o.sk.length c3, vb a1.o.hT, v32 a1.o.va, v32 a1.o.ec, vb a1.o.hO, v8 a1.o.ki, v8 a1.o.ni, v8 a1.o.m.x0, v8 a1.o.m.x1, v8 a1.o.m.x2, v8 a1.o.m.x3, v8 a1.o.m.x4, v8 a1.o.m.x5, v8 a1.o.m.x6, v8 a1.o.m.x7, v8 a1.o.m.x8, v8 a1.o.m.x9, v8 a1.o.m.x10, v8 a1.o.m.x11, .slice A4 a1.da.length c4] 34 (fun _ => by kernel_rfl) (fun g2 => ?_)
  refine o_run 1 [2, 3] (l := []) .nil (E' := [(2, (pg g1)), (3, (pg g2))]) (by kernel_rfl) ?_
  refine o_end (by kernel_rfl) ?_
  refine e_seq ?_
  refine w_seq 6 7 (by kernel_rfl) ?_
  refine w_region (by kernel_rfl) ?_
  refine o_run 6 [2, 3, 10] (l := [(⟨g1, 0, none⟩, v16 a0.sr), (⟨g2, 0, none⟩, v16 a1.sr)]) (.one (at_blk (j := 1) rfl rfl) (.one (at_blk (j := 0) rfl rfl) .nil)) (E' := [(2, (pg g1)), (3, (pg g2)), (10, vb (a0.sr == a1.sr))]) (by kernel_rfl) ?_
  refine o_split 10 (a0.sr == a1.sr) (by kernel_rfl) (fun hb1 => ?_) (fun hb1 => ?_)
  · replace hm := ite_t hb1 hm
    refine o_run 7 [2, 3, 17] (l := [(⟨g1, 1, none⟩, v16 a0.ds), (⟨g2, 1, none⟩, v16 a1.ds)]) (.one (at_blk (j := 1) rfl rfl) (.one (at_blk (j := 0) rfl rfl) .nil)) (E' := [(2, (pg g1)), (3, (pg g2)), (17, vb (a0.ds == a1.ds))]) (by kernel_rfl) ?_
    refine o_split 17 (a0.ds == a1.ds) (by kernel_rfl) (fun hb2 => ?_) (fun hb2 => ?_)
    · replace hm := ite_t hb2 hm
      refine o_run 7 [2, 3, 24] (l := [(⟨g1, 2, none⟩, v32 a0.sq), (⟨g2, 2, none⟩, v32 a1.sq)]) (.one (at_blk (j := 1) rfl rfl) (.one (at_blk (j := 0) rfl rfl) .nil)) (E' := [(2, (pg g1)), (3, (pg g2)), (24, vb (a0.sq == a1.sq))]) (by kernel_rfl) ?_
      refine o_split 24 (a0.sq == a1.sq) (by kernel_rfl) (fun hb3 => ?_) (fun hb3 => ?_)
      · replace hm := ite_t hb3 hm
        refine o_run 7 [2, 3, 31] (l := [(⟨g1, 3, none⟩, v32 a0.ak), (⟨g2, 3, none⟩, v32 a1.ak)]) (.one (at_blk (j := 1) rfl rfl) (.one (at_blk (j := 0) rfl rfl) .nil)) (E' := [(2, (pg g1)), (3, (pg g2)), (31, vb (a0.ak == a1.ak))]) (by kernel_rfl) ?_
        refine o_split 31 (a0.ak == a1.ak) (by kernel_rfl) (fun hb4 => ?_) (fun hb4 => ?_)
        · replace hm := ite_t hb4 hm
          refine o_run 7 [2, 3, 38] (l := [(⟨g1, 4, none⟩, v8 a0.fl), (⟨g2, 4, none⟩, v8 a1.fl)]) (.one (at_blk (j := 1) rfl rfl) (.one (at_blk (j := 0) rfl rfl) .nil)) (E' := [(2, (pg g1)), (3, (pg g2)), (38, vb (a0.fl == a1.fl))]) (by kernel_rfl) ?_
          refine o_split 38 (a0.fl == a1.fl) (by kernel_rfl) (fun hb5 => ?_) (fun hb5 => ?_)
          · replace hm := ite_t hb5 hm
            refine o_run 7 [2, 3, 45] (l := [(⟨g1, 5, none⟩, v16 a0.wi), (⟨g2, 5, none⟩, v16 a1.wi)]) (.one (at_blk (j := 1) rfl rfl) (.one (at_blk (j := 0) rfl rfl) .nil)) (E' := [(2, (pg g1)), (3, (pg g2)), (45, vb (a0.wi == a1.wi))]) (by kernel_rfl) ?_
            refine o_split 45 (a0.wi == a1.wi) (by kernel_rfl) (fun hb6 => ?_) (fun hb6 => ?_)
            · replace hm := ite_t hb6 hm
              refine o_run 7 [2, 3, 52] (l := [(⟨g1, 6, none⟩, v16 a0.ur), (⟨g2, 6, none⟩, v16 a1.ur)]) (.one (at_blk (j := 1) rfl rfl) (.one (at_blk (j := 0) rfl rfl) .nil)) (E' := [(2, (pg g1)), (3, (pg g2)), (52, vb (a0.ur == a1.ur))]) (by kernel_rfl) ?_
              refine o_split 52 (a0.ur == a1.ur) (by kernel_rfl) (fun hb7 => ?_) (fun hb7 => ?_)
              · replace hm := ite_t hb7 hm
                refine o_run 1 [2, 3, 52, 53] (l := []) .nil (E' := [(2, (pg g1)), (3, (pg g2)), (52, vb true), (53, .pointer (some ⟨g1, 7, none⟩))]) (by kernel_rfl) ?_
                refine o_val 54 (.load 31 (.tmp 53)) (.agg #[vb a0.o.hM, v16 a0.o.ms, vb a0.o.hS, v8 a0.o.sc, vb a0.o.sO, .slice A1 a0.o.sk.length c1, vb a0.o.hT, v32 a0.o.va, v32 a0.o.ec, vb a0.o.hO, v8 a0.o.ki, v8 a0.o.ni, v8 a0.o.m.x0, v8 a0.o.m.x1, v8 a0.o.m.x2, v8 a0.o.m.x3, v8 a0.o.m.x4, v8 a0.o.m.x5, v8 a0.o.m.x6, v8 a0.o.m.x7, v8 a0.o.m.x8, v8 a0.o.m.x9, v8 a0.o.m.x10, v8 a0.o.m.x11]) (by kernel_rfl) (v_load (l := [vb a0.o.hM, v16 a0.o.ms, vb a0.o.hS, v8 a0.o.sc, vb a0.o.sO, .slice A1 a0.o.sk.length c1, vb a0.o.hT, v32 a0.o.va, v32 a0.o.ec, vb a0.o.hO, v8 a0.o.ki, v8 a0.o.ni, v8 a0.o.m.x0, v8 a0.o.m.x1, v8 a0.o.m.x2, v8 a0.o.m.x3, v8 a0.o.m.x4, v8 a0.o.m.x5, v8 a0.o.m.x6, v8 a0.o.m.x7, v8 a0.o.m.x8, v8 a0.o.m.x9, v8 a0.o.m.x10, v8 a0.o.m.x11]) (a := ⟨g1, 7, none⟩) (by kernel_rfl) (by kernel_rfl) (at_blk (j := 1) rfl rfl)) ?_
                refine o_run 1 [2, 3, 52, 54, 55] (l := []) .nil (E' := [(2, (pg g1)), (3, (pg g2)), (52, vb true), (54, .agg #[vb a0.o.hM, v16 a0.o.ms, vb a0.o.hS, v8 a0.o.sc, vb a0.o.sO, .slice A1 a0.o.sk.length c1, vb a0.o.hT, v32 a0.o.va, v32 a0.o.ec, vb a0.o.hO, v8 a0.o.ki, v8 a0.o.ni, v8 a0.o.m.x0, v8 a0.o.m.x1, v8 a0.o.m.x2, v8 a0.o.m.x3, v8 a0.o.m.x4, v8 a0.o.m.x5, v8 a0.o.m.x6, v8 a0.o.m.x7, v8 a0.o.m.x8, v8 a0.o.m.x9, v8 a0.o.m.x10, v8 a0.o.m.x11]), (55, .pointer (some ⟨g2, 7, none⟩))]) (by kernel_rfl) ?_
                refine o_val 56 (.load 31 (.tmp 55)) (.agg #[vb a1.o.hM, v16 a1.o.ms, vb a1.o.hS, v8 a1.o.sc, vb a1.o.sO, .slice A3 a1.o.sk.length c3, vb a1.o.hT, v32 a1.o.va, v32 a1.o.ec, vb a1.o.hO, v8 a1.o.ki, v8 a1.o.ni, v8 a1.o.m.x0, v8 a1.o.m.x1, v8 a1.o.m.x2, v8 a1.o.m.x3, v8 a1.o.m.x4, v8 a1.o.m.x5, v8 a1.o.m.x6, v8 a1.o.m.x7, v8 a1.o.m.x8, v8 a1.o.m.x9, v8 a1.o.m.x10, v8 a1.o.m.x11]) (by kernel_rfl) (v_load (l := [vb a1.o.hM, v16 a1.o.ms, vb a1.o.hS, v8 a1.o.sc, vb a1.o.sO, .slice A3 a1.o.sk.length c3, vb a1.o.hT, v32 a1.o.va, v32 a1.o.ec, vb a1.o.hO, v8 a1.o.ki, v8 a1.o.ni, v8 a1.o.m.x0, v8 a1.o.m.x1, v8 a1.o.m.x2, v8 a1.o.m.x3, v8 a1.o.m.x4, v8 a1.o.m.x5, v8 a1.o.m.x6, v8 a1.o.m.x7, v8 a1.o.m.x8, v8 a1.o.m.x9, v8 a1.o.m.x10, v8 a1.o.m.x11]) (a := ⟨g2, 7, none⟩) (by kernel_rfl) (by kernel_rfl) (at_blk (j := 0) rfl rfl)) ?_
                obtain ⟨t1, hx1, hm⟩ := bind_some hm
                refine o_stp ?_ (by kernel_rfl)
                refine s_call 57 36 #[.agg #[vb a0.o.hM, v16 a0.o.ms, vb a0.o.hS, v8 a0.o.sc, vb a0.o.sO, .slice A1 a0.o.sk.length c1, vb a0.o.hT, v32 a0.o.va, v32 a0.o.ec, vb a0.o.hO, v8 a0.o.ki, v8 a0.o.ni, v8 a0.o.m.x0, v8 a0.o.m.x1, v8 a0.o.m.x2, v8 a0.o.m.x3, v8 a0.o.m.x4, v8 a0.o.m.x5, v8 a0.o.m.x6, v8 a0.o.m.x7, v8 a0.o.m.x8, v8 a0.o.m.x9, v8 a0.o.m.x10, v8 a0.o.m.x11], .agg #[vb a1.o.hM, v16 a1.o.ms, vb a1.o.hS, v8 a1.o.sc, vb a1.o.sO, .slice A3 a1.o.sk.length c3, vb a1.o.hT, v32 a1.o.va, v32 a1.o.ec, vb a1.o.hO, v8 a1.o.ki, v8 a1.o.ni, v8 a1.o.m.x0, v8 a1.o.m.x1, v8 a1.o.m.x2, v8 a1.o.m.x3, v8 a1.o.m.x4, v8 a1.o.m.x5, v8 a1.o.m.x6, v8 a1.o.m.x7, v8 a1.o.m.x8, v8 a1.o.m.x9, v8 a1.o.m.x10, v8 a1.o.m.x11]] [] [0, 1] (by kernel_rfl) (by kernel_rfl) (fun w hs => opts_Same_2_ok k a0.o a1.o t1 hx1 B _ A1 c1 A3 c3 hs1 hs3 w (St.cast (by kernel_rfl) hs)) (fun _ hx => ?_)
                refine t_L (L' := [.blk g2 [v16 a1.sr, v16 a1.ds, v32 a1.sq, v32 a1.ak, v8 a1.fl, v16 a1.wi, v16 a1.ur, vb a1.o.hM, v16 a1.o.ms, vb a1.o.hS, v8 a1.o.sc, vb a1.o.sO, .slice A3 a1.o.sk.length c3, vb a1.o.hT, v32 a1.o.va, v32 a1.o.ec, vb a1.o.hO, v8 a1.o.ki, v8 a1.o.ni, v8 a1.o.m.x0, v8 a1.o.m.x1, v8 a1.o.m.x2, v8 a1.o.m.x3, v8 a1.o.m.x4, v8 a1.o.m.x5, v8 a1.o.m.x6, v8 a1.o.m.x7, v8 a1.o.m.x8, v8 a1.o.m.x9, v8 a1.o.m.x10, v8 a1.o.m.x11, .slice A4 a1.da.length c4] 34, .blk g1 [v16 a0.sr, v16 a0.ds, v32 a0.sq, v32 a0.ak, v8 a0.fl, v16 a0.wi, v16 a0.ur, vb a0.o.hM, v16 a0.o.ms, vb a0.o.hS, v8 a0.o.sc, vb a0.o.sO, .slice A1 a0.o.sk.length c1, vb a0.o.hT, v32 a0.o.va, v32 a0.o.ec, vb a0.o.hO, v8 a0.o.ki, v8 a0.o.ni, v8 a0.o.m.x0, v8 a0.o.m.x1, v8 a0.o.m.x2, v8 a0.o.m.x3, v8 a0.o.m.x4, v8 a0.o.m.x5, v8 a0.o.m.x6, v8 a0.o.m.x7, v8 a0.o.m.x8, v8 a0.o.m.x9, v8 a0.o.m.x10, v8 a0.o.m.x11, .slice A2 a0.da.length c2] 34]) (by kernel_rfl) ?_
                refine o_run 2 [2, 3, 59] (l := []) .nil (E' := [(2, (pg g1)), (3, (pg g2)), (59, vb t1)]) (by kernel_rfl) ?_
                refine o_split 59 t1 (by kernel_rfl) (fun hb8 => ?_) (fun hb8 => ?_)
                · replace hm := ite_t hb8 hm
                  refine o_run 4 [59, 61, 63] (l := [(⟨g1, 31, none⟩, .slice A2 a0.da.length c2), (⟨g2, 31, none⟩, .slice A4 a1.da.length c4)]) (.one (at_blk (j := 1) rfl rfl) (.one (at_blk (j := 0) rfl rfl) .nil)) (E' := [(59, vb true), (61, .slice A2 a0.da.length c2), (63, .slice A4 a1.da.length c4)]) (by kernel_rfl) ?_
                  obtain ⟨t2, hx2, hm⟩ := bind_some hm
                  refine o_stp ?_ (by kernel_rfl)
                  refine s_call 64 37 #[.slice A2 a0.da.length c2, .slice A4 a1.da.length c4] [] [0, 1] (by kernel_rfl) (by kernel_rfl) (fun w hs => bytes_Equal_ok a0.da a1.da t2 hx2 B _ A2 c2 A4 c4 hs2 hs4 w (St.cast (by kernel_rfl) hs)) (fun _ hx => ?_)
                  refine t_L (L' := [.blk g2 [v16 a1.sr, v16 a1.ds, v32 a1.sq, v32 a1.ak, v8 a1.fl, v16 a1.wi, v16 a1.ur, vb a1.o.hM, v16 a1.o.ms, vb a1.o.hS, v8 a1.o.sc, vb a1.o.sO, .slice A3 a1.o.sk.length c3, vb a1.o.hT, v32 a1.o.va, v32 a1.o.ec, vb a1.o.hO, v8 a1.o.ki, v8 a1.o.ni, v8 a1.o.m.x0, v8 a1.o.m.x1, v8 a1.o.m.x2, v8 a1.o.m.x3, v8 a1.o.m.x4, v8 a1.o.m.x5, v8 a1.o.m.x6, v8 a1.o.m.x7, v8 a1.o.m.x8, v8 a1.o.m.x9, v8 a1.o.m.x10, v8 a1.o.m.x11, .slice A4 a1.da.length c4] 34, .blk g1 [v16 a0.sr, v16 a0.ds, v32 a0.sq, v32 a0.ak, v8 a0.fl, v16 a0.wi, v16 a0.ur, vb a0.o.hM, v16 a0.o.ms, vb a0.o.hS, v8 a0.o.sc, vb a0.o.sO, .slice A1 a0.o.sk.length c1, vb a0.o.hT, v32 a0.o.va, v32 a0.o.ec, vb a0.o.hO, v8 a0.o.ki, v8 a0.o.ni, v8 a0.o.m.x0, v8 a0.o.m.x1, v8 a0.o.m.x2, v8 a0.o.m.x3, v8 a0.o.m.x4, v8 a0.o.m.x5, v8 a0.o.m.x6, v8 a0.o.m.x7, v8 a0.o.m.x8, v8 a0.o.m.x9, v8 a0.o.m.x10, v8 a0.o.m.x11, .slice A2 a0.da.length c2] 34]) (by kernel_rfl) ?_
                  refine o_run 2 [4] (l := []) .nil (E' := [(4, vb t2)]) (by kernel_rfl) ?_
                  refine o_end (by kernel_rfl) ?_
                  refine e_seq ?_
                  refine w_ret (by kernel_rfl) ?_
                  obtain rfl := Option.some.inj hm
                  exact e_retP () (vb t2) [] (by kernel_rfl) (by kernel_rfl) rfl (by kernel_rfl) (by kernel_rfl) trivial
                · replace hm := ite_f hb8 hm
                  refine o_run 7 [4] (l := []) .nil (E' := [(4, vb false)]) (by kernel_rfl) ?_
                  refine o_end (by kernel_rfl) ?_
                  refine e_seq ?_
                  refine w_ret (by kernel_rfl) ?_
                  obtain rfl := Option.some.inj hm
                  exact e_retP () (vb false) [] (by kernel_rfl) (by kernel_rfl) rfl (by kernel_rfl) (by kernel_rfl) trivial
              · replace hm := ite_f hb7 hm
                refine o_run 14 [4] (l := []) .nil (E' := [(4, vb false)]) (by kernel_rfl) ?_
                refine o_end (by kernel_rfl) ?_
                refine e_seq ?_
                refine w_ret (by kernel_rfl) ?_
                obtain rfl := Option.some.inj hm
                exact e_retP () (vb false) [] (by kernel_rfl) (by kernel_rfl) rfl (by kernel_rfl) (by kernel_rfl) trivial
            · replace hm := ite_f hb6 hm
              refine o_run 21 [4] (l := []) .nil (E' := [(4, vb false)]) (by kernel_rfl) ?_
              refine o_end (by kernel_rfl) ?_
              refine e_seq ?_
              refine w_ret (by kernel_rfl) ?_
              obtain rfl := Option.some.inj hm
              exact e_retP () (vb false) [] (by kernel_rfl) (by kernel_rfl) rfl (by kernel_rfl) (by kernel_rfl) trivial
          · replace hm := ite_f hb5 hm
            refine o_run 28 [4] (l := []) .nil (E' := [(4, vb false)]) (by kernel_rfl) ?_
            refine o_end (by kernel_rfl) ?_
            refine e_seq ?_
            refine w_ret (by kernel_rfl) ?_
            obtain rfl := Option.some.inj hm
            exact e_retP () (vb false) [] (by kernel_rfl) (by kernel_rfl) rfl (by kernel_rfl) (by kernel_rfl) trivial
        · replace hm := ite_f hb4 hm
          refine o_run 35 [4] (l := []) .nil (E' := [(4, vb false)]) (by kernel_rfl) ?_
          refine o_end (by kernel_rfl) ?_
          refine e_seq ?_
          refine w_ret (by kernel_rfl) ?_
          obtain rfl := Option.some.inj hm
          exact e_retP () (vb false) [] (by kernel_rfl) (by kernel_rfl) rfl (by kernel_rfl) (by kernel_rfl) trivial
      · replace hm := ite_f hb3 hm
        refine o_run 42 [4] (l := []) .nil (E' := [(4, vb false)]) (by kernel_rfl) ?_
        refine o_end (by kernel_rfl) ?_
        refine e_seq ?_
        refine w_ret (by kernel_rfl) ?_
        obtain rfl := Option.some.inj hm
        exact e_retP () (vb false) [] (by kernel_rfl) (by kernel_rfl) rfl (by kernel_rfl) (by kernel_rfl) trivial
    · replace hm := ite_f hb2 hm
      refine o_run 49 [4] (l := []) .nil (E' := [(4, vb false)]) (by kernel_rfl) ?_
      refine o_end (by kernel_rfl) ?_
      refine e_seq ?_
      refine w_ret (by kernel_rfl) ?_
      obtain rfl := Option.some.inj hm
      exact e_retP () (vb false) [] (by kernel_rfl) (by kernel_rfl) rfl (by kernel_rfl) (by kernel_rfl) trivial
  · replace hm := ite_f hb1 hm
    refine o_run 56 [4] (l := []) .nil (E' := [(4, vb false)]) (by kernel_rfl) ?_
    refine o_end (by kernel_rfl) ?_
    refine e_seq ?_
    refine w_ret (by kernel_rfl) ?_
    obtain rfl := Option.some.inj hm
    exact e_retP () (vb false) [] (by kernel_rfl) (by kernel_rfl) rfl (by kernel_rfl) (by kernel_rfl) trivial
end Go.V
