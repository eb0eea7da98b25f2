/- Printed by a program of this work: Go functions as Lean functions, and that the machine comes to the same. -/
import Derived.Test.YtafghfchflngiaaMx3
set_option maxRecDepth 100000
set_option linter.unusedVariables false
namespace Go.V
open Go Go.Proofs
def opts_May_2.f (a0 : TO) : Option (Bool) :=
  (if !a0.hM then (if a0.ms != 0 then (some false) else (if !a0.hS then (if a0.sc != 0 then (some false) else (if decide (a0.sc > 14) then (some false) else (if !a0.hT then (if a0.va != 0 then (some false) else (if a0.ec != 0 then (some false) else (if !a0.hO then (if a0.ki != 0 then (some false) else (if a0.ni != 0 then (some false) else (if !((a0.m.x0 == 0) && ((a0.m.x1 == 0) && ((a0.m.x2 == 0) && ((a0.m.x3 == 0) && ((a0.m.x4 == 0) && ((a0.m.x5 == 0) && ((a0.m.x6 == 0) && ((a0.m.x7 == 0) && ((a0.m.x8 == 0) && ((a0.m.x9 == 0) && ((a0.m.x10 == 0) && (a0.m.x11 == 0)))))))))))) then (some false) else (if decide ((a0.sk.length : Int) ≤ 4) then ((opts_Size_2.f a0).bind fun t1 => (some (decide (t1 ≤ 40)))) else (some false))))) else (if decide ((a0.sk.length : Int) ≤ 4) then ((opts_Size_2.f a0).bind fun t2 => (some (decide (t2 ≤ 40)))) else (some false))))) else (if !a0.hO then (if a0.ki != 0 then (some false) else (if a0.ni != 0 then (some false) else (if !((a0.m.x0 == 0) && ((a0.m.x1 == 0) && ((a0.m.x2 == 0) && ((a0.m.x3 == 0) && ((a0.m.x4 == 0) && ((a0.m.x5 == 0) && ((a0.m.x6 == 0) && ((a0.m.x7 == 0) && ((a0.m.x8 == 0) && ((a0.m.x9 == 0) && ((a0.m.x10 == 0) && (a0.m.x11 == 0)))))))))))) then (some false) else (if decide ((a0.sk.length : Int) ≤ 4) then ((opts_Size_2.f a0).bind fun t3 => (some (decide (t3 ≤ 40)))) else (some false))))) else (if decide ((a0.sk.length : Int) ≤ 4) then ((opts_Size_2.f a0).bind fun t4 => (some (decide (t4 ≤ 40)))) else (some false)))))) else (if decide (a0.sc > 14) then (some false) else (if !a0.hT then (if a0.va != 0 then (some false) else (if a0.ec != 0 then (some false) else (if !a0.hO then (if a0.ki != 0 then (some false) else (if a0.ni != 0 then (some false) else (if !((a0.m.x0 == 0) && ((a0.m.x1 == 0) && ((a0.m.x2 == 0) && ((a0.m.x3 == 0) && ((a0.m.x4 == 0) && ((a0.m.x5 == 0) && ((a0.m.x6 == 0) && ((a0.m.x7 == 0) && ((a0.m.x8 == 0) && ((a0.m.x9 == 0) && ((a0.m.x10 == 0) && (a0.m.x11 == 0)))))))))))) then (some false) else (if decide ((a0.sk.length : Int) ≤ 4) then ((opts_Size_2.f a0).bind fun t5 => (some (decide (t5 ≤ 40)))) else (some false))))) else (if decide ((a0.sk.length : Int) ≤ 4) then ((opts_Size_2.f a0).bind fun t6 => (some (decide (t6 ≤ 40)))) else (some false))))) else (if !a0.hO then (if a0.ki != 0 then (some false) else (if a0.ni != 0 then (some false) else (if !((a0.m.x0 == 0) && ((a0.m.x1 == 0) && ((a0.m.x2 == 0) && ((a0.m.x3 == 0) && ((a0.m.x4 == 0) && ((a0.m.x5 == 0) && ((a0.m.x6 == 0) && ((a0.m.x7 == 0) && ((a0.m.x8 == 0) && ((a0.m.x9 == 0) && ((a0.m.x10 == 0) && (a0.m.x11 == 0)))))))))))) then (some false) else (if decide ((a0.sk.length : Int) ≤ 4) then ((opts_Size_2.f a0).bind fun t7 => (some (decide (t7 ≤ 40)))) else (some false))))) else (if decide ((a0.sk.length : Int) ≤ 4) then ((opts_Size_2.f a0).bind fun t8 => (some (decide (t8 ≤ 40)))) else (some false))))))) else (if !a0.hS then (if a0.sc != 0 then (some false) else (if decide (a0.sc > 14) then (some false) else (if !a0.hT then (if a0.va != 0 then (some false) else (if a0.ec != 0 then (some false) else (if !a0.hO then (if a0.ki != 0 then (some false) else (if a0.ni != 0 then (some false) else (if !((a0.m.x0 == 0) && ((a0.m.x1 == 0) && ((a0.m.x2 == 0) && ((a0.m.x3 == 0) && ((a0.m.x4 == 0) && ((a0.m.x5 == 0) && ((a0.m.x6 == 0) && ((a0.m.x7 == 0) && ((a0.m.x8 == 0) && ((a0.m.x9 == 0) && ((a0.m.x10 == 0) && (a0.m.x11 == 0)))))))))))) then (some false) else (if decide ((a0.sk.length : Int) ≤ 4) then ((opts_Size_2.f a0).bind fun t9 => (some (decide (t9 ≤ 40)))) else (some false))))) else (if decide ((a0.sk.length : Int) ≤ 4) then ((opts_Size_2.f a0).bind fun t10 => (some (decide (t10 ≤ 40)))) else (some false))))) else (if !a0.hO then (if a0.ki != 0 then (some false) else (if a0.ni != 0 then (some false) else (if !((a0.m.x0 == 0) && ((a0.m.x1 == 0) && ((a0.m.x2 == 0) && ((a0.m.x3 == 0) && ((a0.m.x4 == 0) && ((a0.m.x5 == 0) && ((a0.m.x6 == 0) && ((a0.m.x7 == 0) && ((a0.m.x8 == 0) && ((a0.m.x9 == 0) && ((a0.m.x10 == 0) && (a0.m.x11 == 0)))))))))))) then (some false) else (if decide ((a0.sk.length : Int) ≤ 4) then ((opts_Size_2.f a0).bind fun t11 => (some (decide (t11 ≤ 40)))) else (some false))))) else (if decide ((a0.sk.length : Int) ≤ 4) then ((opts_Size_2.f a0).bind fun t12 => (some (decide (t12 ≤ 40)))) else (some false)))))) else (if decide (a0.sc > 14) then (some false) else (if !a0.hT then (if a0.va != 0 then (some false) else (if a0.ec != 0 then (some false) else (if !a0.hO then (if a0.ki != 0 then (some false) else (if a0.ni != 0 then (some false) else (if !((a0.m.x0 == 0) && ((a0.m.x1 == 0) && ((a0.m.x2 == 0) && ((a0.m.x3 == 0) && ((a0.m.x4 == 0) && ((a0.m.x5 == 0) && ((a0.m.x6 == 0) && ((a0.m.x7 == 0) && ((a0.m.x8 == 0) && ((a0.m.x9 == 0) && ((a0.m.x10 == 0) && (a0.m.x11 == 0)))))))))))) then (some false) else (if decide ((a0.sk.length : Int) ≤ 4) then ((opts_Size_2.f a0).bind fun t13 => (some (decide (t13 ≤ 40)))) else (some false))))) else (if decide ((a0.sk.length : Int) ≤ 4) then ((opts_Size_2.f a0).bind fun t14 => (some (decide (t14 ≤ 40)))) else (some false))))) else (if !a0.hO then (if a0.ki != 0 then (some false) else (if a0.ni != 0 then (some false) else (if !((a0.m.x0 == 0) && ((a0.m.x1 == 0) && ((a0.m.x2 == 0) && ((a0.m.x3 == 0) && ((a0.m.x4 == 0) && ((a0.m.x5 == 0) && ((a0.m.x6 == 0) && ((a0.m.x7 == 0) && ((a0.m.x8 == 0) && ((a0.m.x9 == 0) && ((a0.m.x10 == 0) && (a0.m.x11 == 0)))))))))))) then (some false) else (if decide ((a0.sk.length : Int) ≤ 4) then ((opts_Size_2.f a0).bind fun t15 => (some (decide (t15 ≤ 40)))) else (some false))))) else (if decide ((a0.sk.length : Int) ≤ 4) then ((opts_Size_2.f a0).bind fun t16 => (some (decide (t16 ≤ 40)))) else (some false)))))))
theorem opts_May_2_ok (a0 : TO) (r : Bool) (hm : opts_May_2.f a0 = some r) (B G : Asn) (A1 : Option Addr) (c1 : Nat) (w : World) (hs : St B G [.own A1 a0.sk.length c1 (rowOf encTB a0.sk) 2 84] w) :
    Calls Try.prog 34 #[.agg #[vb a0.hM, v16 a0.ms, vb a0.hS, v8 a0.sc, vb a0.sO, .slice A1 a0.sk.length c1, vb a0.hT, v32 a0.va, v32 a0.ec, vb a0.hO, v8 a0.ki, v8 a0.ni, v8 a0.m.x0, v8 a0.m.x1, v8 a0.m.x2, v8 a0.m.x3, v8 a0.m.x4, v8 a0.m.x5, v8 a0.m.x6, v8 a0.m.x7, v8 a0.m.x8, v8 a0.m.x9, v8 a0.m.x10, v8 a0.m.x11]] w (Post (X := Unit) (fun x => vb r) (fun x => B) G (fun x => [.own A1 a0.sk.length c1 (rowOf encTB a0.sk) 2 84]) (fun x => True)) := by
  unfold opts_May_2.f at hm
  refine calls_W (F := Try.f34) Try.func34 rfl (by kernel_rfl) (L := [.own A1 a0.sk.length c1 (rowOf encTB a0.sk) 2 84]) ?_ hs
  refine w_seq 2 3 (by kernel_rfl) ?_
  refine w_region (by kernel_rfl) ?_
  refine o_stp ?_ (by kernel_rfl)
  refine s_new 1 (fun g1 => (pg g1)) [vb a0.hM, v16 a0.ms, vb a0.hS, v8 a0.sc, vb a0.sO, .slice A1 a0.sk.length c1, vb a0.hT, v32 a0.va, v32 a0.ec, vb a0.hO, v8 a0.ki, v8 a0.ni, v8 a0.m.x0, v8 a0.m.x1, v8 a0.m.x2, v8 a0.m.x3, v8 a0.m.x4, v8 a0.m.x5, v8 a0.m.x6, v8 a0.m.x7, v8 a0.m.x8, v8 a0.m.x9, v8 a0.m.x10, v8 a0.m.x11] 31 (fun _ => by kernel_rfl) (fun g1 => ?_)
  refine o_run 1 [1] (l := []) .nil (E' := [(1, (pg g1))]) (by kernel_rfl) ?_
  refine o_end (by kernel_rfl) ?_
  refine e_seq ?_
  refine w_seq 6 7 (by kernel_rfl) ?_
  refine w_block 0 12 (by kernel_rfl) ?_
  refine w_seq 24 25 (by kernel_rfl) ?_
  refine w_region (by kernel_rfl) ?_
  refine o_run 4 [1, 7] (l := [(⟨g1, 0, none⟩, vb a0.hM)]) (.one (at_blk (j := 0) rfl rfl) .nil) (E' := [(1, (pg g1)), (7, vb (!a0.hM))]) (by kernel_rfl) ?_
  refine o_split 7 (!a0.hM) (by kernel_rfl) (fun hb1 => ?_) (fun hb1 => ?_)
  · replace hm := ite_t hb1 hm
    refine o_run 5 [1, 12] (l := [(⟨g1, 1, none⟩, v16 a0.ms)]) (.one (at_blk (j := 0) rfl rfl) .nil) (E' := [(1, (pg g1)), (12, vb (a0.ms != 0))]) (by kernel_rfl) ?_
    refine o_split 12 (a0.ms != 0) (by kernel_rfl) (fun hb2 => ?_) (fun hb2 => ?_)
    · replace hm := ite_t hb2 hm
      refine o_run 15 [1, 3] (l := []) .nil (E' := [(1, (pg g1)), (3, vb true)]) (by kernel_rfl) ?_
      refine o_end (by kernel_rfl) ?_
      refine e_seq ?_
      refine w_cond_t (.tmp 3) 50 51 (by kernel_rfl) (by kernel_rfl) ?_
      refine w_seq 100 101 (by kernel_rfl) ?_
      refine w_region (by kernel_rfl) ?_
      refine o_run 1 [2] (l := []) .nil (E' := [(2, vb false)]) (by kernel_rfl) ?_
      refine o_end (by kernel_rfl) ?_
      refine e_seq ?_
      refine w_ret (by kernel_rfl) ?_
      obtain rfl := Option.some.inj hm
      exact e_retP () (vb false) [1] (by kernel_rfl) (by kernel_rfl) rfl (by kernel_rfl) (by kernel_rfl) trivial
    · replace hm := ite_f hb2 hm
      refine o_run 4 [1, 12, 16] (l := [(⟨g1, 2, none⟩, vb a0.hS)]) (.one (at_blk (j := 0) rfl rfl) .nil) (E' := [(1, (pg g1)), (12, vb false), (16, vb (!a0.hS))]) (by kernel_rfl) ?_
      refine o_split 16 (!a0.hS) (by kernel_rfl) (fun hb3 => ?_) (fun hb3 => ?_)
      · replace hm := ite_t hb3 hm
        refine o_run 6 [1, 22] (l := [(⟨g1, 3, none⟩, v8 a0.sc)]) (.one (at_blk (j := 0) rfl rfl) .nil) (E' := [(1, (pg g1)), (22, vb (a0.sc != 0))]) (by kernel_rfl) ?_
        refine o_split 22 (a0.sc != 0) (by kernel_rfl) (fun hb4 => ?_) (fun hb4 => ?_)
        · replace hm := ite_t hb4 hm
          refine o_run 5 [1, 3] (l := []) .nil (E' := [(1, (pg g1)), (3, vb true)]) (by kernel_rfl) ?_
          refine o_end (by kernel_rfl) ?_
          refine e_seq ?_
          refine w_cond_t (.tmp 3) 50 51 (by kernel_rfl) (by kernel_rfl) ?_
          refine w_seq 100 101 (by kernel_rfl) ?_
          refine w_region (by kernel_rfl) ?_
          refine o_run 1 [2] (l := []) .nil (E' := [(2, vb false)]) (by kernel_rfl) ?_
          refine o_end (by kernel_rfl) ?_
          refine e_seq ?_
          refine w_ret (by kernel_rfl) ?_
          obtain rfl := Option.some.inj hm
          exact e_retP () (vb false) [1] (by kernel_rfl) (by kernel_rfl) rfl (by kernel_rfl) (by kernel_rfl) trivial
        · replace hm := ite_f hb4 hm
          refine o_run 5 [1, 3] (l := [(⟨g1, 3, none⟩, v8 a0.sc)]) (.one (at_blk (j := 0) rfl rfl) .nil) (E' := [(1, (pg g1)), (3, vb (decide (a0.sc > 14)))]) (by kernel_rfl) ?_
          refine o_end (by kernel_rfl) ?_
          refine e_seq ?_
          refine w_cond (.tmp 3) 50 51 (decide (a0.sc > 14)) (by kernel_rfl) (by kernel_rfl) (fun hb5 => ?_) (fun hb5 => ?_)
          · replace hm := ite_t hb5 hm
            refine w_seq 100 101 (by kernel_rfl) ?_
            refine w_region (by kernel_rfl) ?_
            refine o_run 1 [2] (l := []) .nil (E' := [(2, vb false)]) (by kernel_rfl) ?_
            refine o_end (by kernel_rfl) ?_
            refine e_seq ?_
            refine w_ret (by kernel_rfl) ?_
            obtain rfl := Option.some.inj hm
            exact e_retP () (vb false) [1] (by kernel_rfl) (by kernel_rfl) rfl (by kernel_rfl) (by kernel_rfl) trivial
          · replace hm := ite_f hb5 hm
            refine w_seq 102 103 (by kernel_rfl) ?_
            refine w_region (by kernel_rfl) ?_
            refine o_run 4 [1, 31] (l := [(⟨g1, 6, none⟩, vb a0.hT)]) (.one (at_blk (j := 0) rfl rfl) .nil) (E' := [(1, (pg g1)), (31, vb (!a0.hT))]) (by kernel_rfl) ?_
            refine o_split 31 (!a0.hT) (by kernel_rfl) (fun hb6 => ?_) (fun hb6 => ?_)
            · replace hm := ite_t hb6 hm
              refine o_run 4 [1, 31, 35] (l := [(⟨g1, 7, none⟩, v32 a0.va)]) (.one (at_blk (j := 0) rfl rfl) .nil) (E' := [(1, (pg g1)), (31, vb true), (35, vb (a0.va != 0))]) (by kernel_rfl) ?_
              refine o_split 35 (a0.va != 0) (by kernel_rfl) (fun hb7 => ?_) (fun hb7 => ?_)
              · replace hm := ite_t hb7 hm
                refine o_run 6 [1, 27] (l := []) .nil (E' := [(1, (pg g1)), (27, vb true)]) (by kernel_rfl) ?_
                refine o_end (by kernel_rfl) ?_
                refine e_seq ?_
                refine w_cond_t (.tmp 27) 206 207 (by kernel_rfl) (by kernel_rfl) ?_
                refine w_seq 412 413 (by kernel_rfl) ?_
                refine w_region (by kernel_rfl) ?_
                refine o_run 1 [2] (l := []) .nil (E' := [(2, vb false)]) (by kernel_rfl) ?_
                refine o_end (by kernel_rfl) ?_
                refine e_seq ?_
                refine w_ret (by kernel_rfl) ?_
                obtain rfl := Option.some.inj hm
                exact e_retP () (vb false) [1] (by kernel_rfl) (by kernel_rfl) rfl (by kernel_rfl) (by kernel_rfl) trivial
              · replace hm := ite_f hb7 hm
                refine o_run 6 [1, 27] (l := [(⟨g1, 8, none⟩, v32 a0.ec)]) (.one (at_blk (j := 0) rfl rfl) .nil) (E' := [(1, (pg g1)), (27, vb (a0.ec != 0))]) (by kernel_rfl) ?_
                refine o_end (by kernel_rfl) ?_
                refine e_seq ?_
                refine w_cond (.tmp 27) 206 207 (a0.ec != 0) (by kernel_rfl) (by kernel_rfl) (fun hb8 => ?_) (fun hb8 => ?_)
                · replace hm := ite_t hb8 hm
                  refine w_seq 412 413 (by kernel_rfl) ?_
                  refine w_region (by kernel_rfl) ?_
                  refine o_run 1 [2] (l := []) .nil (E' := [(2, vb false)]) (by kernel_rfl) ?_
                  refine o_end (by kernel_rfl) ?_
                  refine e_seq ?_
                  refine w_ret (by kernel_rfl) ?_
                  obtain rfl := Option.some.inj hm
                  exact e_retP () (vb false) [1] (by kernel_rfl) (by kernel_rfl) rfl (by kernel_rfl) (by kernel_rfl) trivial
                · replace hm := ite_f hb8 hm
                  refine w_seq 414 415 (by kernel_rfl) ?_
                  refine w_region (by kernel_rfl) ?_
                  refine o_run 4 [1, 45] (l := [(⟨g1, 9, none⟩, vb a0.hO)]) (.one (at_blk (j := 0) rfl rfl) .nil) (E' := [(1, (pg g1)), (45, vb (!a0.hO))]) (by kernel_rfl) ?_
                  refine o_split 45 (!a0.hO) (by kernel_rfl) (fun hb9 => ?_) (fun hb9 => ?_)
                  · replace hm := ite_t hb9 hm
                    refine o_run 4 [1, 45, 49] (l := [(⟨g1, 10, none⟩, v8 a0.ki)]) (.one (at_blk (j := 0) rfl rfl) .nil) (E' := [(1, (pg g1)), (45, vb true), (49, vb (a0.ki != 0))]) (by kernel_rfl) ?_
                    refine o_split 49 (a0.ki != 0) (by kernel_rfl) (fun hb10 => ?_) (fun hb10 => ?_)
                    · replace hm := ite_t hb10 hm
                      refine o_run 12 [1, 41] (l := []) .nil (E' := [(1, (pg g1)), (41, vb true)]) (by kernel_rfl) ?_
                      refine o_end (by kernel_rfl) ?_
                      refine e_seq ?_
                      refine w_cond_t (.tmp 41) 830 831 (by kernel_rfl) (by kernel_rfl) ?_
                      refine w_seq 1660 1661 (by kernel_rfl) ?_
                      refine w_region (by kernel_rfl) ?_
                      refine o_run 1 [2] (l := []) .nil (E' := [(2, vb false)]) (by kernel_rfl) ?_
                      refine o_end (by kernel_rfl) ?_
                      refine e_seq ?_
                      refine w_ret (by kernel_rfl) ?_
                      obtain rfl := Option.some.inj hm
                      exact e_retP () (vb false) [1] (by kernel_rfl) (by kernel_rfl) rfl (by kernel_rfl) (by kernel_rfl) trivial
                    · replace hm := ite_f hb10 hm
                      refine o_run 5 [1, 45, 54] (l := [(⟨g1, 11, none⟩, v8 a0.ni)]) (.one (at_blk (j := 0) rfl rfl) .nil) (E' := [(1, (pg g1)), (45, vb true), (54, vb (a0.ni != 0))]) (by kernel_rfl) ?_
                      refine o_split 54 (a0.ni != 0) (by kernel_rfl) (fun hb11 => ?_) (fun hb11 => ?_)
                      · replace hm := ite_t hb11 hm
                        refine o_run 7 [1, 41] (l := []) .nil (E' := [(1, (pg g1)), (41, vb true)]) (by kernel_rfl) ?_
                        refine o_end (by kernel_rfl) ?_
                        refine e_seq ?_
                        refine w_cond_t (.tmp 41) 830 831 (by kernel_rfl) (by kernel_rfl) ?_
                        refine w_seq 1660 1661 (by kernel_rfl) ?_
                        refine w_region (by kernel_rfl) ?_
                        refine o_run 1 [2] (l := []) .nil (E' := [(2, vb false)]) (by kernel_rfl) ?_
                        refine o_end (by kernel_rfl) ?_
                        refine e_seq ?_
                        refine w_ret (by kernel_rfl) ?_
                        obtain rfl := Option.some.inj hm
                        exact e_retP () (vb false) [1] (by kernel_rfl) (by kernel_rfl) rfl (by kernel_rfl) (by kernel_rfl) trivial
                      · replace hm := ite_f hb11 hm
                        refine o_run 1 [1, 45, 54, 55] (l := []) .nil (E' := [(1, (pg g1)), (45, vb true), (54, vb false), (55, .pointer (some ⟨g1, 12, none⟩))]) (by kernel_rfl) ?_
                        refine o_val 56 (.load 29 (.tmp 55)) (.agg #[v8 a0.m.x0, v8 a0.m.x1, v8 a0.m.x2, v8 a0.m.x3, v8 a0.m.x4, v8 a0.m.x5, v8 a0.m.x6, v8 a0.m.x7, v8 a0.m.x8, v8 a0.m.x9, v8 a0.m.x10, v8 a0.m.x11]) (by kernel_rfl) (v_load (l := [v8 a0.m.x0, v8 a0.m.x1, v8 a0.m.x2, v8 a0.m.x3, v8 a0.m.x4, v8 a0.m.x5, v8 a0.m.x6, v8 a0.m.x7, v8 a0.m.x8, v8 a0.m.x9, v8 a0.m.x10, v8 a0.m.x11]) (a := ⟨g1, 12, none⟩) (by kernel_rfl) (by kernel_rfl) (at_blk (j := 0) rfl rfl)) ?_
                        refine o_run 1 [1, 45, 54, 56, 57] (l := []) .nil (E' := [(1, (pg g1)), (45, vb true), (54, vb false), (56, .agg #[v8 a0.m.x0, v8 a0.m.x1, v8 a0.m.x2, v8 a0.m.x3, v8 a0.m.x4, v8 a0.m.x5, v8 a0.m.x6, v8 a0.m.x7, v8 a0.m.x8, v8 a0.m.x9, v8 a0.m.x10, v8 a0.m.x11]), (57, .agg #[v8 0, v8 0, v8 0, v8 0, v8 0, v8 0, v8 0, v8 0, v8 0, v8 0, v8 0, v8 0])]) (by kernel_rfl) ?_
                        refine o_val 58 (.binOp .neq 29 (.tmp 56) (.tmp 57) 29) (vb (!((a0.m.x0 == 0) && ((a0.m.x1 == 0) && ((a0.m.x2 == 0) && ((a0.m.x3 == 0) && ((a0.m.x4 == 0) && ((a0.m.x5 == 0) && ((a0.m.x6 == 0) && ((a0.m.x7 == 0) && ((a0.m.x8 == 0) && ((a0.m.x9 == 0) && ((a0.m.x10 == 0) && (a0.m.x11 == 0)))))))))))))) (by kernel_rfl) (v_neS (xs := #[v8 a0.m.x0, v8 a0.m.x1, v8 a0.m.x2, v8 a0.m.x3, v8 a0.m.x4, v8 a0.m.x5, v8 a0.m.x6, v8 a0.m.x7, v8 a0.m.x8, v8 a0.m.x9, v8 a0.m.x10, v8 a0.m.x11]) (ys := #[v8 0, v8 0, v8 0, v8 0, v8 0, v8 0, v8 0, v8 0, v8 0, v8 0, v8 0, v8 0]) (b := ((a0.m.x0 == 0) && ((a0.m.x1 == 0) && ((a0.m.x2 == 0) && ((a0.m.x3 == 0) && ((a0.m.x4 == 0) && ((a0.m.x5 == 0) && ((a0.m.x6 == 0) && ((a0.m.x7 == 0) && ((a0.m.x8 == 0) && ((a0.m.x9 == 0) && ((a0.m.x10 == 0) && (a0.m.x11 == 0))))))))))))) (by kernel_rfl) (by kernel_rfl) (by kernel_rfl) (by kernel_rfl)) ?_
                        refine o_run 3 [1, 41] (l := []) .nil (E' := [(1, (pg g1)), (41, vb (!((a0.m.x0 == 0) && ((a0.m.x1 == 0) && ((a0.m.x2 == 0) && ((a0.m.x3 == 0) && ((a0.m.x4 == 0) && ((a0.m.x5 == 0) && ((a0.m.x6 == 0) && ((a0.m.x7 == 0) && ((a0.m.x8 == 0) && ((a0.m.x9 == 0) && ((a0.m.x10 == 0) && (a0.m.x11 == 0))))))))))))))]) (by kernel_rfl) ?_
                        refine o_end (by kernel_rfl) ?_
                        refine e_seq ?_
                        refine w_cond (.tmp 41) 830 831 (!((a0.m.x0 == 0) && ((a0.m.x1 == 0) && ((a0.m.x2 == 0) && ((a0.m.x3 == 0) && ((a0.m.x4 == 0) && ((a0.m.x5 == 0) && ((a0.m.x6 == 0) && ((a0.m.x7 == 0) && ((a0.m.x8 == 0) && ((a0.m.x9 == 0) && ((a0.m.x10 == 0) && (a0.m.x11 == 0))))))))))))) (by kernel_rfl) (by kernel_rfl) (fun hb12 => ?_) (fun hb12 => ?_)
                        · replace hm := ite_t hb12 hm
                          refine w_seq 1660 1661 (by kernel_rfl) ?_
                          refine w_region (by kernel_rfl) ?_
                          refine o_run 1 [2] (l := []) .nil (E' := [(2, vb false)]) (by kernel_rfl) ?_
                          refine o_end (by kernel_rfl) ?_
                          refine e_seq ?_
                          refine w_ret (by kernel_rfl) ?_
                          obtain rfl := Option.some.inj hm
                          exact e_retP () (vb false) [1] (by kernel_rfl) (by kernel_rfl) rfl (by kernel_rfl) (by kernel_rfl) trivial
                        · replace hm := ite_f hb12 hm
                          refine w_skip (by kernel_rfl) ?_
                          refine e_blk ?_
                          refine e_seq ?_
                          refine w_seq 14 15 (by kernel_rfl) ?_
                          refine w_region (by kernel_rfl) ?_
                          refine o_run 5 [1, 65] (l := [(⟨g1, 5, none⟩, .slice A1 a0.sk.length c1)]) (.one (at_blk (j := 0) rfl rfl) .nil) (E' := [(1, (pg g1)), (65, vb (decide ((a0.sk.length : Int) ≤ 4)))]) (by kernel_rfl) ?_
                          refine o_split 65 (decide ((a0.sk.length : Int) ≤ 4)) (by kernel_rfl) (fun hb13 => ?_) (fun hb13 => ?_)
                          · replace hm := ite_t hb13 hm
                            refine o_val 66 (.load 31 (.tmp 1)) (.agg #[vb a0.hM, v16 a0.ms, vb a0.hS, v8 a0.sc, vb a0.sO, .slice A1 a0.sk.length c1, vb a0.hT, v32 a0.va, v32 a0.ec, vb a0.hO, v8 a0.ki, v8 a0.ni, v8 a0.m.x0, v8 a0.m.x1, v8 a0.m.x2, v8 a0.m.x3, v8 a0.m.x4, v8 a0.m.x5, v8 a0.m.x6, v8 a0.m.x7, v8 a0.m.x8, v8 a0.m.x9, v8 a0.m.x10, v8 a0.m.x11]) (by kernel_rfl) (v_load (l := [vb a0.hM, v16 a0.ms, vb a0.hS, v8 a0.sc, vb a0.sO, .slice A1 a0.sk.length c1, vb a0.hT, v32 a0.va, v32 a0.ec, vb a0.hO, v8 a0.ki, v8 a0.ni, v8 a0.m.x0, v8 a0.m.x1, v8 a0.m.x2, v8 a0.m.x3, v8 a0.m.x4, v8 a0.m.x5, v8 a0.m.x6, v8 a0.m.x7, v8 a0.m.x8, v8 a0.m.x9, v8 a0.m.x10, v8 a0.m.x11]) (a := ⟨g1, 0, none⟩) (by kernel_rfl) (by kernel_rfl) (at_blk (j := 0) rfl rfl)) ?_
                            obtain ⟨t1, hx1, hm⟩ := bind_some hm
                            refine o_stp ?_ (by kernel_rfl)
                            refine s_call 67 53 #[.agg #[vb a0.hM, v16 a0.ms, vb a0.hS, v8 a0.sc, vb a0.sO, .slice A1 a0.sk.length c1, vb a0.hT, v32 a0.va, v32 a0.ec, vb a0.hO, v8 a0.ki, v8 a0.ni, v8 a0.m.x0, v8 a0.m.x1, v8 a0.m.x2, v8 a0.m.x3, v8 a0.m.x4, v8 a0.m.x5, v8 a0.m.x6, v8 a0.m.x7, v8 a0.m.x8, v8 a0.m.x9, v8 a0.m.x10, v8 a0.m.x11]] [1] [0] (by kernel_rfl) (by kernel_rfl) (fun w hs => opts_Size_2_ok a0 t1 hx1 B _ A1 c1 w (St.cast (by kernel_rfl) hs)) (fun _ hx => ?_)
                            refine t_L (L' := [.own A1 a0.sk.length c1 (rowOf encTB a0.sk) 2 84, .blk g1 [vb a0.hM, v16 a0.ms, vb a0.hS, v8 a0.sc, vb a0.sO, .slice A1 a0.sk.length c1, vb a0.hT, v32 a0.va, v32 a0.ec, vb a0.hO, v8 a0.ki, v8 a0.ni, v8 a0.m.x0, v8 a0.m.x1, v8 a0.m.x2, v8 a0.m.x3, v8 a0.m.x4, v8 a0.m.x5, v8 a0.m.x6, v8 a0.m.x7, v8 a0.m.x8, v8 a0.m.x9, v8 a0.m.x10, v8 a0.m.x11] 31]) (by kernel_rfl) ?_
                            refine o_run 3 [2] (l := []) .nil (E' := [(2, vb (decide (t1 ≤ 40)))]) (by kernel_rfl) ?_
                            refine o_end (by kernel_rfl) ?_
                            refine e_seq ?_
                            refine w_ret (by kernel_rfl) ?_
                            obtain rfl := Option.some.inj hm
                            exact e_retP () (vb (decide (t1 ≤ 40))) [0] (by kernel_rfl) (by kernel_rfl) rfl (by kernel_rfl) (by kernel_rfl) trivial
                          · replace hm := ite_f hb13 hm
                            refine o_run 5 [2] (l := []) .nil (E' := [(2, vb false)]) (by kernel_rfl) ?_
                            refine o_end (by kernel_rfl) ?_
                            refine e_seq ?_
                            refine w_ret (by kernel_rfl) ?_
                            obtain rfl := Option.some.inj hm
                            exact e_retP () (vb false) [1] (by kernel_rfl) (by kernel_rfl) rfl (by kernel_rfl) (by kernel_rfl) trivial
                  · replace hm := ite_f hb9 hm
                    refine o_run 16 [1, 41] (l := []) .nil (E' := [(1, (pg g1)), (41, vb false)]) (by kernel_rfl) ?_
                    refine o_end (by kernel_rfl) ?_
                    refine e_seq ?_
                    refine w_cond_f (.tmp 41) 830 831 (by kernel_rfl) (by kernel_rfl) ?_
                    refine w_skip (by kernel_rfl) ?_
                    refine e_blk ?_
                    refine e_seq ?_
                    refine w_seq 14 15 (by kernel_rfl) ?_
                    refine w_region (by kernel_rfl) ?_
                    refine o_run 5 [1, 65] (l := [(⟨g1, 5, none⟩, .slice A1 a0.sk.length c1)]) (.one (at_blk (j := 0) rfl rfl) .nil) (E' := [(1, (pg g1)), (65, vb (decide ((a0.sk.length : Int) ≤ 4)))]) (by kernel_rfl) ?_
                    refine o_split 65 (decide ((a0.sk.length : Int) ≤ 4)) (by kernel_rfl) (fun hb14 => ?_) (fun hb14 => ?_)
                    · replace hm := ite_t hb14 hm
                      refine o_val 66 (.load 31 (.tmp 1)) (.agg #[vb a0.hM, v16 a0.ms, vb a0.hS, v8 a0.sc, vb a0.sO, .slice A1 a0.sk.length c1, vb a0.hT, v32 a0.va, v32 a0.ec, vb a0.hO, v8 a0.ki, v8 a0.ni, v8 a0.m.x0, v8 a0.m.x1, v8 a0.m.x2, v8 a0.m.x3, v8 a0.m.x4, v8 a0.m.x5, v8 a0.m.x6, v8 a0.m.x7, v8 a0.m.x8, v8 a0.m.x9, v8 a0.m.x10, v8 a0.m.x11]) (by kernel_rfl) (v_load (l := [vb a0.hM, v16 a0.ms, vb a0.hS, v8 a0.sc, vb a0.sO, .slice A1 a0.sk.length c1, vb a0.hT, v32 a0.va, v32 a0.ec, vb a0.hO, v8 a0.ki, v8 a0.ni, v8 a0.m.x0, v8 a0.m.x1, v8 a0.m.x2, v8 a0.m.x3, v8 a0.m.x4, v8 a0.m.x5, v8 a0.m.x6, v8 a0.m.x7, v8 a0.m.x8, v8 a0.m.x9, v8 a0.m.x10, v8 a0.m.x11]) (a := ⟨g1, 0, none⟩) (by kernel_rfl) (by kernel_rfl) (at_blk (j := 0) rfl rfl)) ?_
                      obtain ⟨t2, hx2, hm⟩ := bind_some hm
                      refine o_stp ?_ (by kernel_rfl)
                      refine s_call 67 53 #[.agg #[vb a0.hM, v16 a0.ms, vb a0.hS, v8 a0.sc, vb a0.sO, .slice A1 a0.sk.length c1, vb a0.hT, v32 a0.va, v32 a0.ec, vb a0.hO, v8 a0.ki, v8 a0.ni, v8 a0.m.x0, v8 a0.m.x1, v8 a0.m.x2, v8 a0.m.x3, v8 a0.m.x4, v8 a0.m.x5, v8 a0.m.x6, v8 a0.m.x7, v8 a0.m.x8, v8 a0.m.x9, v8 a0.m.x10, v8 a0.m.x11]] [1] [0] (by kernel_rfl) (by kernel_rfl) (fun w hs => opts_Size_2_ok a0 t2 hx2 B _ A1 c1 w (St.cast (by kernel_rfl) hs)) (fun _ hx => ?_)
                      refine t_L (L' := [.own A1 a0.sk.length c1 (rowOf encTB a0.sk) 2 84, .blk g1 [vb a0.hM, v16 a0.ms, vb a0.hS, v8 a0.sc, vb a0.sO, .slice A1 a0.sk.length c1, vb a0.hT, v32 a0.va, v32 a0.ec, vb a0.hO, v8 a0.ki, v8 a0.ni, v8 a0.m.x0, v8 a0.m.x1, v8 a0.m.x2, v8 a0.m.x3, v8 a0.m.x4, v8 a0.m.x5, v8 a0.m.x6, v8 a0.m.x7, v8 a0.m.x8, v8 a0.m.x9, v8 a0.m.x10, v8 a0.m.x11] 31]) (by kernel_rfl) ?_
                      refine o_run 3 [2] (l := []) .nil (E' := [(2, vb (decide (t2 ≤ 40)))]) (by kernel_rfl) ?_
                      refine o_end (by kernel_rfl) ?_
                      refine e_seq ?_
                      refine w_ret (by kernel_rfl) ?_
                      obtain rfl := Option.some.inj hm
                      exact e_retP () (vb (decide (t2 ≤ 40))) [0] (by kernel_rfl) (by kernel_rfl) rfl (by kernel_rfl) (by kernel_rfl) trivial
                    · replace hm := ite_f hb14 hm
                      refine o_run 5 [2] (l := []) .nil (E' := [(2, vb false)]) (by kernel_rfl) ?_
                      refine o_end (by kernel_rfl) ?_
                      refine e_seq ?_
                      refine w_ret (by kernel_rfl) ?_
                      obtain rfl := Option.some.inj hm
                      exact e_retP () (vb false) [1] (by kernel_rfl) (by kernel_rfl) rfl (by kernel_rfl) (by kernel_rfl) trivial
            · replace hm := ite_f hb6 hm
              refine o_run 10 [1, 27] (l := []) .nil (E' := [(1, (pg g1)), (27, vb false)]) (by kernel_rfl) ?_
              refine o_end (by kernel_rfl) ?_
              refine e_seq ?_
              refine w_cond_f (.tmp 27) 206 207 (by kernel_rfl) (by kernel_rfl) ?_
              refine w_seq 414 415 (by kernel_rfl) ?_
              refine w_region (by kernel_rfl) ?_
              refine o_run 4 [1, 45] (l := [(⟨g1, 9, none⟩, vb a0.hO)]) (.one (at_blk (j := 0) rfl rfl) .nil) (E' := [(1, (pg g1)), (45, vb (!a0.hO))]) (by kernel_rfl) ?_
              refine o_split 45 (!a0.hO) (by kernel_rfl) (fun hb15 => ?_) (fun hb15 => ?_)
              · replace hm := ite_t hb15 hm
                refine o_run 4 [1, 45, 49] (l := [(⟨g1, 10, none⟩, v8 a0.ki)]) (.one (at_blk (j := 0) rfl rfl) .nil) (E' := [(1, (pg g1)), (45, vb true), (49, vb (a0.ki != 0))]) (by kernel_rfl) ?_
                refine o_split 49 (a0.ki != 0) (by kernel_rfl) (fun hb16 => ?_) (fun hb16 => ?_)
                · replace hm := ite_t hb16 hm
                  refine o_run 12 [1, 41] (l := []) .nil (E' := [(1, (pg g1)), (41, vb true)]) (by kernel_rfl) ?_
                  refine o_end (by kernel_rfl) ?_
                  refine e_seq ?_
                  refine w_cond_t (.tmp 41) 830 831 (by kernel_rfl) (by kernel_rfl) ?_
                  refine w_seq 1660 1661 (by kernel_rfl) ?_
                  refine w_region (by kernel_rfl) ?_
                  refine o_run 1 [2] (l := []) .nil (E' := [(2, vb false)]) (by kernel_rfl) ?_
                  refine o_end (by kernel_rfl) ?_
                  refine e_seq ?_
                  refine w_ret (by kernel_rfl) ?_
                  obtain rfl := Option.some.inj hm
                  exact e_retP () (vb false) [1] (by kernel_rfl) (by kernel_rfl) rfl (by kernel_rfl) (by kernel_rfl) trivial
                · replace hm := ite_f hb16 hm
                  refine o_run 5 [1, 45, 54] (l := [(⟨g1, 11, none⟩, v8 a0.ni)]) (.one (at_blk (j := 0) rfl rfl) .nil) (E' := [(1, (pg g1)), (45, vb true), (54, vb (a0.ni != 0))]) (by kernel_rfl) ?_
                  refine o_split 54 (a0.ni != 0) (by kernel_rfl) (fun hb17 => ?_) (fun hb17 => ?_)
                  · replace hm := ite_t hb17 hm
                    refine o_run 7 [1, 41] (l := []) .nil (E' := [(1, (pg g1)), (41, vb true)]) (by kernel_rfl) ?_
                    refine o_end (by kernel_rfl) ?_
                    refine e_seq ?_
                    refine w_cond_t (.tmp 41) 830 831 (by kernel_rfl) (by kernel_rfl) ?_
                    refine w_seq 1660 1661 (by kernel_rfl) ?_
                    refine w_region (by kernel_rfl) ?_
                    refine o_run 1 [2] (l := []) .nil (E' := [(2, vb false)]) (by kernel_rfl) ?_
                    refine o_end (by kernel_rfl) ?_
                    refine e_seq ?_
                    refine w_ret (by kernel_rfl) ?_
                    obtain rfl := Option.some.inj hm
                    exact e_retP () (vb false) [1] (by kernel_rfl) (by kernel_rfl) rfl (by kernel_rfl) (by kernel_rfl) trivial
                  · replace hm := ite_f hb17 hm
                    refine o_run 1 [1, 45, 54, 55] (l := []) .nil (E' := [(1, (pg g1)), (45, vb true), (54, vb false), (55, .pointer (some ⟨g1, 12, none⟩))]) (by kernel_rfl) ?_
                    refine o_val 56 (.load 29 (.tmp 55)) (.agg #[v8 a0.m.x0, v8 a0.m.x1, v8 a0.m.x2, v8 a0.m.x3, v8 a0.m.x4, v8 a0.m.x5, v8 a0.m.x6, v8 a0.m.x7, v8 a0.m.x8, v8 a0.m.x9, v8 a0.m.x10, v8 a0.m.x11]) (by kernel_rfl) (v_load (l := [v8 a0.m.x0, v8 a0.m.x1, v8 a0.m.x2, v8 a0.m.x3, v8 a0.m.x4, v8 a0.m.x5, v8 a0.m.x6, v8 a0.m.x7, v8 a0.m.x8, v8 a0.m.x9, v8 a0.m.x10, v8 a0.m.x11]) (a := ⟨g1, 12, none⟩) (by kernel_rfl) (by kernel_rfl) (at_blk (j := 0) rfl rfl)) ?_
                    refine o_run 1 [1, 45, 54, 56, 57] (l := []) .nil (E' := [(1, (pg g1)), (45, vb true), (54, vb false), (56, .agg #[v8 a0.m.x0, v8 a0.m.x1, v8 a0.m.x2, v8 a0.m.x3, v8 a0.m.x4, v8 a0.m.x5, v8 a0.m.x6, v8 a0.m.x7, v8 a0.m.x8, v8 a0.m.x9, v8 a0.m.x10, v8 a0.m.x11]), (57, .agg #[v8 0, v8 0, v8 0, v8 0, v8 0, v8 0, v8 0, v8 0, v8 0, v8 0, v8 0, v8 0])]) (by kernel_rfl) ?_
                    refine o_val 58 (.binOp .neq 29 (.tmp 56) (.tmp 57) 29) (vb (!((a0.m.x0 == 0) && ((a0.m.x1 == 0) && ((a0.m.x2 == 0) && ((a0.m.x3 == 0) && ((a0.m.x4 == 0) && ((a0.m.x5 == 0) && ((a0.m.x6 == 0) && ((a0.m.x7 == 0) && ((a0.m.x8 == 0) && ((a0.m.x9 == 0) && ((a0.m.x10 == 0) && (a0.m.x11 == 0)))))))))))))) (by kernel_rfl) (v_neS (xs := #[v8 a0.m.x0, v8 a0.m.x1, v8 a0.m.x2, v8 a0.m.x3, v8 a0.m.x4, v8 a0.m.x5, v8 a0.m.x6, v8 a0.m.x7, v8 a0.m.x8, v8 a0.m.x9, v8 a0.m.x10, v8 a0.m.x11]) (ys := #[v8 0, v8 0, v8 0, v8 0, v8 0, v8 0, v8 0, v8 0, v8 0, v8 0, v8 0, v8 0]) (b := ((a0.m.x0 == 0) && ((a0.m.x1 == 0) && ((a0.m.x2 == 0) && ((a0.m.x3 == 0) && ((a0.m.x4 == 0) && ((a0.m.x5 == 0) && ((a0.m.x6 == 0) && ((a0.m.x7 == 0) && ((a0.m.x8 == 0) && ((a0.m.x9 == 0) && ((a0.m.x10 == 0) && (a0.m.x11 == 0))))))))))))) (by kernel_rfl) (by kernel_rfl) (by kernel_rfl) (by kernel_rfl)) ?_
                    refine o_run 3 [1, 41] (l := []) .nil (E' := [(1, (pg g1)), (41, vb (!((a0.m.x0 == 0) && ((a0.m.x1 == 0) && ((a0.m.x2 == 0) && ((a0.m.x3 == 0) && ((a0.m.x4 == 0) && ((a0.m.x5 == 0) && ((a0.m.x6 == 0) && ((a0.m.x7 == 0) && ((a0.m.x8 == 0) && ((a0.m.x9 == 0) && ((a0.m.x10 == 0) && (a0.m.x11 == 0))))))))))))))]) (by kernel_rfl) ?_
                    refine o_end (by kernel_rfl) ?_
                    refine e_seq ?_
                    refine w_cond (.tmp 41) 830 831 (!((a0.m.x0 == 0) && ((a0.m.x1 == 0) && ((a0.m.x2 == 0) && ((a0.m.x3 == 0) && ((a0.m.x4 == 0) && ((a0.m.x5 == 0) && ((a0.m.x6 == 0) && ((a0.m.x7 == 0) && ((a0.m.x8 == 0) && ((a0.m.x9 == 0) && ((a0.m.x10 == 0) && (a0.m.x11 == 0))))))))))))) (by kernel_rfl) (by kernel_rfl) (fun hb18 => ?_) (fun hb18 => ?_)
                    · replace hm := ite_t hb18 hm
                      refine w_seq 1660 1661 (by kernel_rfl) ?_
                      refine w_region (by kernel_rfl) ?_
                      refine o_run 1 [2] (l := []) .nil (E' := [(2, vb false)]) (by kernel_rfl) ?_
                      refine o_end (by kernel_rfl) ?_
                      refine e_seq ?_
                      refine w_ret (by kernel_rfl) ?_
                      obtain rfl := Option.some.inj hm
                      exact e_retP () (vb false) [1] (by kernel_rfl) (by kernel_rfl) rfl (by kernel_rfl) (by kernel_rfl) trivial
                    · replace hm := ite_f hb18 hm
                      refine w_skip (by kernel_rfl) ?_
                      refine e_blk ?_
                      refine e_seq ?_
                      refine w_seq 14 15 (by kernel_rfl) ?_
                      refine w_region (by kernel_rfl) ?_
                      refine o_run 5 [1, 65] (l := [(⟨g1, 5, none⟩, .slice A1 a0.sk.length c1)]) (.one (at_blk (j := 0) rfl rfl) .nil) (E' := [(1, (pg g1)), (65, vb (decide ((a0.sk.length : Int) ≤ 4)))]) (by kernel_rfl) ?_
                      refine o_split 65 (decide ((a0.sk.length : Int) ≤ 4)) (by kernel_rfl) (fun hb19 => ?_) (fun hb19 => ?_)
                      · replace hm := ite_t hb19 hm
                        refine o_val 66 (.load 31 (.tmp 1)) (.agg #[vb a0.hM, v16 a0.ms, vb a0.hS, v8 a0.sc, vb a0.sO, .slice A1 a0.sk.length c1, vb a0.hT, v32 a0.va, v32 a0.ec, vb a0.hO, v8 a0.ki, v8 a0.ni, v8 a0.m.x0, v8 a0.m.x1, v8 a0.m.x2, v8 a0.m.x3, v8 a0.m.x4, v8 a0.m.x5, v8 a0.m.x6, v8 a0.m.x7, v8 a0.m.x8, v8 a0.m.x9, v8 a0.m.x10, v8 a0.m.x11]) (by kernel_rfl) (v_load (l := [vb a0.hM, v16 a0.ms, vb a0.hS, v8 a0.sc, vb a0.sO, .slice A1 a0.sk.length c1, vb a0.hT, v32 a0.va, v32 a0.ec, vb a0.hO, v8 a0.ki, v8 a0.ni, v8 a0.m.x0, v8 a0.m.x1, v8 a0.m.x2, v8 a0.m.x3, v8 a0.m.x4, v8 a0.m.x5, v8 a0.m.x6, v8 a0.m.x7, v8 a0.m.x8, v8 a0.m.x9, v8 a0.m.x10, v8 a0.m.x11]) (a := ⟨g1, 0, none⟩) (by kernel_rfl) (by kernel_rfl) (at_blk (j := 0) rfl rfl)) ?_
                        obtain ⟨t3, hx3, hm⟩ := bind_some hm
                        refine o_stp ?_ (by kernel_rfl)
                        refine s_call 67 53 #[.agg #[vb a0.hM, v16 a0.ms, vb a0.hS, v8 a0.sc, vb a0.sO, .slice A1 a0.sk.length c1, vb a0.hT, v32 a0.va, v32 a0.ec, vb a0.hO, v8 a0.ki, v8 a0.ni, v8 a0.m.x0, v8 a0.m.x1, v8 a0.m.x2, v8 a0.m.x3, v8 a0.m.x4, v8 a0.m.x5, v8 a0.m.x6, v8 a0.m.x7, v8 a0.m.x8, v8 a0.m.x9, v8 a0.m.x10, v8 a0.m.x11]] [1] [0] (by kernel_rfl) (by kernel_rfl) (fun w hs => opts_Size_2_ok a0 t3 hx3 B _ A1 c1 w (St.cast (by kernel_rfl) hs)) (fun _ hx => ?_)
                        refine t_L (L' := [.own A1 a0.sk.length c1 (rowOf encTB a0.sk) 2 84, .blk g1 [vb a0.hM, v16 a0.ms, vb a0.hS, v8 a0.sc, vb a0.sO, .slice A1 a0.sk.length c1, vb a0.hT, v32 a0.va, v32 a0.ec, vb a0.hO, v8 a0.ki, v8 a0.ni, v8 a0.m.x0, v8 a0.m.x1, v8 a0.m.x2, v8 a0.m.x3, v8 a0.m.x4, v8 a0.m.x5, v8 a0.m.x6, v8 a0.m.x7, v8 a0.m.x8, v8 a0.m.x9, v8 a0.m.x10, v8 a0.m.x11] 31]) (by kernel_rfl) ?_
                        refine o_run 3 [2] (l := []) .nil (E' := [(2, vb (decide (t3 ≤ 40)))]) (by kernel_rfl) ?_
                        refine o_end (by kernel_rfl) ?_
                        refine e_seq ?_
                        refine w_ret (by kernel_rfl) ?_
                        obtain rfl := Option.some.inj hm
                        exact e_retP () (vb (decide (t3 ≤ 40))) [0] (by kernel_rfl) (by kernel_rfl) rfl (by kernel_rfl) (by kernel_rfl) trivial
                      · replace hm := ite_f hb19 hm
                        refine o_run 5 [2] (l := []) .nil (E' := [(2, vb false)]) (by kernel_rfl) ?_
                        refine o_end (by kernel_rfl) ?_
                        refine e_seq ?_
                        refine w_ret (by kernel_rfl) ?_
                        obtain rfl := Option.some.inj hm
                        exact e_retP () (vb false) [1] (by kernel_rfl) (by kernel_rfl) rfl (by kernel_rfl) (by kernel_rfl) trivial
              · replace hm := ite_f hb15 hm
                refine o_run 16 [1, 41] (l := []) .nil (E' := [(1, (pg g1)), (41, vb false)]) (by kernel_rfl) ?_
                refine o_end (by kernel_rfl) ?_
                refine e_seq ?_
                refine w_cond_f (.tmp 41) 830 831 (by kernel_rfl) (by kernel_rfl) ?_
                refine w_skip (by kernel_rfl) ?_
                refine e_blk ?_
                refine e_seq ?_
                refine w_seq 14 15 (by kernel_rfl) ?_
                refine w_region (by kernel_rfl) ?_
                refine o_run 5 [1, 65] (l := [(⟨g1, 5, none⟩, .slice A1 a0.sk.length c1)]) (.one (at_blk (j := 0) rfl rfl) .nil) (E' := [(1, (pg g1)), (65, vb (decide ((a0.sk.length : Int) ≤ 4)))]) (by kernel_rfl) ?_
                refine o_split 65 (decide ((a0.sk.length : Int) ≤ 4)) (by kernel_rfl) (fun hb20 => ?_) (fun hb20 => ?_)
                · replace hm := ite_t hb20 hm
                  refine o_val 66 (.load 31 (.tmp 1)) (.agg #[vb a0.hM, v16 a0.ms, vb a0.hS, v8 a0.sc, vb a0.sO, .slice A1 a0.sk.length c1, vb a0.hT, v32 a0.va, v32 a0.ec, vb a0.hO, v8 a0.ki, v8 a0.ni, v8 a0.m.x0, v8 a0.m.x1, v8 a0.m.x2, v8 a0.m.x3, v8 a0.m.x4, v8 a0.m.x5, v8 a0.m.x6, v8 a0.m.x7, v8 a0.m.x8, v8 a0.m.x9, v8 a0.m.x10, v8 a0.m.x11]) (by kernel_rfl) (v_load (l := [vb a0.hM, v16 a0.ms, vb a0.hS, v8 a0.sc, vb a0.sO, .slice A1 a0.sk.length c1, vb a0.hT, v32 a0.va, v32 a0.ec, vb a0.hO, v8 a0.ki, v8 a0.ni, v8 a0.m.x0, v8 a0.m.x1, v8 a0.m.x2, v8 a0.m.x3, v8 a0.m.x4, v8 a0.m.x5, v8 a0.m.x6, v8 a0.m.x7, v8 a0.m.x8, v8 a0.m.x9, v8 a0.m.x10, v8 a0.m.x11]) (a := ⟨g1, 0, none⟩) (by kernel_rfl) (by kernel_rfl) (at_blk (j := 0) rfl rfl)) ?_
                  obtain ⟨t4, hx4, hm⟩ := bind_some hm
                  refine o_stp ?_ (by kernel_rfl)
                  refine s_call 67 53 #[.agg #[vb a0.hM, v16 a0.ms, vb a0.hS, v8 a0.sc, vb a0.sO, .slice A1 a0.sk.length c1, vb a0.hT, v32 a0.va, v32 a0.ec, vb a0.hO, v8 a0.ki, v8 a0.ni, v8 a0.m.x0, v8 a0.m.x1, v8 a0.m.x2, v8 a0.m.x3, v8 a0.m.x4, v8 a0.m.x5, v8 a0.m.x6, v8 a0.m.x7, v8 a0.m.x8, v8 a0.m.x9, v8 a0.m.x10, v8 a0.m.x11]] [1] [0] (by kernel_rfl) (by kernel_rfl) (fun w hs => opts_Size_2_ok a0 t4 hx4 B _ A1 c1 w (St.cast (by kernel_rfl) hs)) (fun _ hx => ?_)
                  refine t_L (L' := [.own A1 a0.sk.length c1 (rowOf encTB a0.sk) 2 84, .blk g1 [vb a0.hM, v16 a0.ms, vb a0.hS, v8 a0.sc, vb a0.sO, .slice A1 a0.sk.length c1, vb a0.hT, v32 a0.va, v32 a0.ec, vb a0.hO, v8 a0.ki, v8 a0.ni, v8 a0.m.x0, v8 a0.m.x1, v8 a0.m.x2, v8 a0.m.x3, v8 a0.m.x4, v8 a0.m.x5, v8 a0.m.x6, v8 a0.m.x7, v8 a0.m.x8, v8 a0.m.x9, v8 a0.m.x10, v8 a0.m.x11] 31]) (by kernel_rfl) ?_
                  refine o_run 3 [2] (l := []) .nil (E' := [(2, vb (decide (t4 ≤ 40)))]) (by kernel_rfl) ?_
                  refine o_end (by kernel_rfl) ?_
                  refine e_seq ?_
                  refine w_ret (by kernel_rfl) ?_
                  obtain rfl := Option.some.inj hm
                  exact e_retP () (vb (decide (t4 ≤ 40))) [0] (by kernel_rfl) (by kernel_rfl) rfl (by kernel_rfl) (by kernel_rfl) trivial
                · replace hm := ite_f hb20 hm
                  refine o_run 5 [2] (l := []) .nil (E' := [(2, vb false)]) (by kernel_rfl) ?_
                  refine o_end (by kernel_rfl) ?_
                  refine e_seq ?_
                  refine w_ret (by kernel_rfl) ?_
                  obtain rfl := Option.some.inj hm
                  exact e_retP () (vb false) [1] (by kernel_rfl) (by kernel_rfl) rfl (by kernel_rfl) (by kernel_rfl) trivial
      · replace hm := ite_f hb3 hm
        refine o_run 11 [1, 3] (l := [(⟨g1, 3, none⟩, v8 a0.sc)]) (.one (at_blk (j := 0) rfl rfl) .nil) (E' := [(1, (pg g1)), (3, vb (decide (a0.sc > 14)))]) (by kernel_rfl) ?_
        refine o_end (by kernel_rfl) ?_
        refine e_seq ?_
        refine w_cond (.tmp 3) 50 51 (decide (a0.sc > 14)) (by kernel_rfl) (by kernel_rfl) (fun hb21 => ?_) (fun hb21 => ?_)
        · replace hm := ite_t hb21 hm
          refine w_seq 100 101 (by kernel_rfl) ?_
          refine w_region (by kernel_rfl) ?_
          refine o_run 1 [2] (l := []) .nil (E' := [(2, vb false)]) (by kernel_rfl) ?_
          refine o_end (by kernel_rfl) ?_
          refine e_seq ?_
          refine w_ret (by kernel_rfl) ?_
          obtain rfl := Option.some.inj hm
          exact e_retP () (vb false) [1] (by kernel_rfl) (by kernel_rfl) rfl (by kernel_rfl) (by kernel_rfl) trivial
        · replace hm := ite_f hb21 hm
          refine w_seq 102 103 (by kernel_rfl) ?_
          refine w_region (by kernel_rfl) ?_
          refine o_run 4 [1, 31] (l := [(⟨g1, 6, none⟩, vb a0.hT)]) (.one (at_blk (j := 0) rfl rfl) .nil) (E' := [(1, (pg g1)), (31, vb (!a0.hT))]) (by kernel_rfl) ?_
          refine o_split 31 (!a0.hT) (by kernel_rfl) (fun hb22 => ?_) (fun hb22 => ?_)
          · replace hm := ite_t hb22 hm
            refine o_run 4 [1, 31, 35] (l := [(⟨g1, 7, none⟩, v32 a0.va)]) (.one (at_blk (j := 0) rfl rfl) .nil) (E' := [(1, (pg g1)), (31, vb true), (35, vb (a0.va != 0))]) (by kernel_rfl) ?_
            refine o_split 35 (a0.va != 0) (by kernel_rfl) (fun hb23 => ?_) (fun hb23 => ?_)
            · replace hm := ite_t hb23 hm
              refine o_run 6 [1, 27] (l := []) .nil (E' := [(1, (pg g1)), (27, vb true)]) (by kernel_rfl) ?_
              refine o_end (by kernel_rfl) ?_
              refine e_seq ?_
              refine w_cond_t (.tmp 27) 206 207 (by kernel_rfl) (by kernel_rfl) ?_
              refine w_seq 412 413 (by kernel_rfl) ?_
              refine w_region (by kernel_rfl) ?_
              refine o_run 1 [2] (l := []) .nil (E' := [(2, vb false)]) (by kernel_rfl) ?_
              refine o_end (by kernel_rfl) ?_
              refine e_seq ?_
              refine w_ret (by kernel_rfl) ?_
              obtain rfl := Option.some.inj hm
              exact e_retP () (vb false) [1] (by kernel_rfl) (by kernel_rfl) rfl (by kernel_rfl) (by kernel_rfl) trivial
            · replace hm := ite_f hb23 hm
              refine o_run 6 [1, 27] (l := [(⟨g1, 8, none⟩, v32 a0.ec)]) (.one (at_blk (j := 0) rfl rfl) .nil) (E' := [(1, (pg g1)), (27, vb (a0.ec != 0))]) (by kernel_rfl) ?_
              refine o_end (by kernel_rfl) ?_
              refine e_seq ?_
              refine w_cond (.tmp 27) 206 207 (a0.ec != 0) (by kernel_rfl) (by kernel_rfl) (fun hb24 => ?_) (fun hb24 => ?_)
              · replace hm := ite_t hb24 hm
                refine w_seq 412 413 (by kernel_rfl) ?_
                refine w_region (by kernel_rfl) ?_
                refine o_run 1 [2] (l := []) .nil (E' := [(2, vb false)]) (by kernel_rfl) ?_
                refine o_end (by kernel_rfl) ?_
                refine e_seq ?_
                refine w_ret (by kernel_rfl) ?_
                obtain rfl := Option.some.inj hm
                exact e_retP () (vb false) [1] (by kernel_rfl) (by kernel_rfl) rfl (by kernel_rfl) (by kernel_rfl) trivial
              · replace hm := ite_f hb24 hm
                refine w_seq 414 415 (by kernel_rfl) ?_
                refine w_region (by kernel_rfl) ?_
                refine o_run 4 [1, 45] (l := [(⟨g1, 9, none⟩, vb a0.hO)]) (.one (at_blk (j := 0) rfl rfl) .nil) (E' := [(1, (pg g1)), (45, vb (!a0.hO))]) (by kernel_rfl) ?_
                refine o_split 45 (!a0.hO) (by kernel_rfl) (fun hb25 => ?_) (fun hb25 => ?_)
                · replace hm := ite_t hb25 hm
                  refine o_run 4 [1, 45, 49] (l := [(⟨g1, 10, none⟩, v8 a0.ki)]) (.one (at_blk (j := 0) rfl rfl) .nil) (E' := [(1, (pg g1)), (45, vb true), (49, vb (a0.ki != 0))]) (by kernel_rfl) ?_
                  refine o_split 49 (a0.ki != 0) (by kernel_rfl) (fun hb26 => ?_) (fun hb26 => ?_)
                  · replace hm := ite_t hb26 hm
                    refine o_run 12 [1, 41] (l := []) .nil (E' := [(1, (pg g1)), (41, vb true)]) (by kernel_rfl) ?_
                    refine o_end (by kernel_rfl) ?_
                    refine e_seq ?_
                    refine w_cond_t (.tmp 41) 830 831 (by kernel_rfl) (by kernel_rfl) ?_
                    refine w_seq 1660 1661 (by kernel_rfl) ?_
                    refine w_region (by kernel_rfl) ?_
                    refine o_run 1 [2] (l := []) .nil (E' := [(2, vb false)]) (by kernel_rfl) ?_
                    refine o_end (by kernel_rfl) ?_
                    refine e_seq ?_
                    refine w_ret (by kernel_rfl) ?_
                    obtain rfl := Option.some.inj hm
                    exact e_retP () (vb false) [1] (by kernel_rfl) (by kernel_rfl) rfl (by kernel_rfl) (by kernel_rfl) trivial
                  · replace hm := ite_f hb26 hm
                    refine o_run 5 [1, 45, 54] (l := [(⟨g1, 11, none⟩, v8 a0.ni)]) (.one (at_blk (j := 0) rfl rfl) .nil) (E' := [(1, (pg g1)), (45, vb true), (54, vb (a0.ni != 0))]) (by kernel_rfl) ?_
                    refine o_split 54 (a0.ni != 0) (by kernel_rfl) (fun hb27 => ?_) (fun hb27 => ?_)
                    · replace hm := ite_t hb27 hm
                      refine o_run 7 [1, 41] (l := []) .nil (E' := [(1, (pg g1)), (41, vb true)]) (by kernel_rfl) ?_
                      refine o_end (by kernel_rfl) ?_
                      refine e_seq ?_
                      refine w_cond_t (.tmp 41) 830 831 (by kernel_rfl) (by kernel_rfl) ?_
                      refine w_seq 1660 1661 (by kernel_rfl) ?_
                      refine w_region (by kernel_rfl) ?_
                      refine o_run 1 [2] (l := []) .nil (E' := [(2, vb false)]) (by kernel_rfl) ?_
                      refine o_end (by kernel_rfl) ?_
                      refine e_seq ?_
                      refine w_ret (by kernel_rfl) ?_
                      obtain rfl := Option.some.inj hm
                      exact e_retP () (vb false) [1] (by kernel_rfl) (by kernel_rfl) rfl (by kernel_rfl) (by kernel_rfl) trivial
                    · replace hm := ite_f hb27 hm
                      refine o_run 1 [1, 45, 54, 55] (l := []) .nil (E' := [(1, (pg g1)), (45, vb true), (54, vb false), (55, .pointer (some ⟨g1, 12, none⟩))]) (by kernel_rfl) ?_
                      refine o_val 56 (.load 29 (.tmp 55)) (.agg #[v8 a0.m.x0, v8 a0.m.x1, v8 a0.m.x2, v8 a0.m.x3, v8 a0.m.x4, v8 a0.m.x5, v8 a0.m.x6, v8 a0.m.x7, v8 a0.m.x8, v8 a0.m.x9, v8 a0.m.x10, v8 a0.m.x11]) (by kernel_rfl) (v_load (l := [v8 a0.m.x0, v8 a0.m.x1, v8 a0.m.x2, v8 a0.m.x3, v8 a0.m.x4, v8 a0.m.x5, v8 a0.m.x6, v8 a0.m.x7, v8 a0.m.x8, v8 a0.m.x9, v8 a0.m.x10, v8 a0.m.x11]) (a := ⟨g1, 12, none⟩) (by kernel_rfl) (by kernel_rfl) (at_blk (j := 0) rfl rfl)) ?_
                      refine o_run 1 [1, 45, 54, 56, 57] (l := []) .nil (E' := [(1, (pg g1)), (45, vb true), (54, vb false), (56, .agg #[v8 a0.m.x0, v8 a0.m.x1, v8 a0.m.x2, v8 a0.m.x3, v8 a0.m.x4, v8 a0.m.x5, v8 a0.m.x6, v8 a0.m.x7, v8 a0.m.x8, v8 a0.m.x9, v8 a0.m.x10, v8 a0.m.x11]), (57, .agg #[v8 0, v8 0, v8 0, v8 0, v8 0, v8 0, v8 0, v8 0, v8 0, v8 0, v8 0, v8 0])]) (by kernel_rfl) ?_
                      refine o_val 58 (.binOp .neq 29 (.tmp 56) (.tmp 57) 29) (vb (!((a0.m.x0 == 0) && ((a0.m.x1 == 0) && ((a0.m.x2 == 0) && ((a0.m.x3 == 0) && ((a0.m.x4 == 0) && ((a0.m.x5 == 0) && ((a0.m.x6 == 0) && ((a0.m.x7 == 0) && ((a0.m.x8 == 0) && ((a0.m.x9 == 0) && ((a0.m.x10 == 0) && (a0.m.x11 == 0)))))))))))))) (by kernel_rfl) (v_neS (xs := #[v8 a0.m.x0, v8 a0.m.x1, v8 a0.m.x2, v8 a0.m.x3, v8 a0.m.x4, v8 a0.m.x5, v8 a0.m.x6, v8 a0.m.x7, v8 a0.m.x8, v8 a0.m.x9, v8 a0.m.x10, v8 a0.m.x11]) (ys := #[v8 0, v8 0, v8 0, v8 0, v8 0, v8 0, v8 0, v8 0, v8 0, v8 0, v8 0, v8 0]) (b := ((a0.m.x0 == 0) && ((a0.m.x1 == 0) && ((a0.m.x2 == 0) && ((a0.m.x3 == 0) && ((a0.m.x4 == 0) && ((a0.m.x5 == 0) && ((a0.m.x6 == 0) && ((a0.m.x7 == 0) && ((a0.m.x8 == 0) && ((a0.m.x9 == 0) && ((a0.m.x10 == 0) && (a0.m.x11 == 0))))))))))))) (by kernel_rfl) (by kernel_rfl) (by kernel_rfl) (by kernel_rfl)) ?_
                      refine o_run 3 [1, 41] (l := []) .nil (E' := [(1, (pg g1)), (41, vb (!((a0.m.x0 == 0) && ((a0.m.x1 == 0) && ((a0.m.x2 == 0) && ((a0.m.x3 == 0) && ((a0.m.x4 == 0) && ((a0.m.x5 == 0) && ((a0.m.x6 == 0) && ((a0.m.x7 == 0) && ((a0.m.x8 == 0) && ((a0.m.x9 == 0) && ((a0.m.x10 == 0) && (a0.m.x11 == 0))))))))))))))]) (by kernel_rfl) ?_
                      refine o_end (by kernel_rfl) ?_
                      refine e_seq ?_
                      refine w_cond (.tmp 41) 830 831 (!((a0.m.x0 == 0) && ((a0.m.x1 == 0) && ((a0.m.x2 == 0) && ((a0.m.x3 == 0) && ((a0.m.x4 == 0) && ((a0.m.x5 == 0) && ((a0.m.x6 == 0) && ((a0.m.x7 == 0) && ((a0.m.x8 == 0) && ((a0.m.x9 == 0) && ((a0.m.x10 == 0) && (a0.m.x11 == 0))))))))))))) (by kernel_rfl) (by kernel_rfl) (fun hb28 => ?_) (fun hb28 => ?_)
                      · replace hm := ite_t hb28 hm
                        refine w_seq 1660 1661 (by kernel_rfl) ?_
                        refine w_region (by kernel_rfl) ?_
                        refine o_run 1 [2] (l := []) .nil (E' := [(2, vb false)]) (by kernel_rfl) ?_
                        refine o_end (by kernel_rfl) ?_
                        refine e_seq ?_
                        refine w_ret (by kernel_rfl) ?_
                        obtain rfl := Option.some.inj hm
                        exact e_retP () (vb false) [1] (by kernel_rfl) (by kernel_rfl) rfl (by kernel_rfl) (by kernel_rfl) trivial
                      · replace hm := ite_f hb28 hm
                        refine w_skip (by kernel_rfl) ?_
                        refine e_blk ?_
                        refine e_seq ?_
                        refine w_seq 14 15 (by kernel_rfl) ?_
                        refine w_region (by kernel_rfl) ?_
                        refine o_run 5 [1, 65] (l := [(⟨g1, 5, none⟩, .slice A1 a0.sk.length c1)]) (.one (at_blk (j := 0) rfl rfl) .nil) (E' := [(1, (pg g1)), (65, vb (decide ((a0.sk.length : Int) ≤ 4)))]) (by kernel_rfl) ?_
                        refine o_split 65 (decide ((a0.sk.length : Int) ≤ 4)) (by kernel_rfl) (fun hb29 => ?_) (fun hb29 => ?_)
                        · replace hm := ite_t hb29 hm
                          refine o_val 66 (.load 31 (.tmp 1)) (.agg #[vb a0.hM, v16 a0.ms, vb a0.hS, v8 a0.sc, vb a0.sO, .slice A1 a0.sk.length c1, vb a0.hT, v32 a0.va, v32 a0.ec, vb a0.hO, v8 a0.ki, v8 a0.ni, v8 a0.m.x0, v8 a0.m.x1, v8 a0.m.x2, v8 a0.m.x3, v8 a0.m.x4, v8 a0.m.x5, v8 a0.m.x6, v8 a0.m.x7, v8 a0.m.x8, v8 a0.m.x9, v8 a0.m.x10, v8 a0.m.x11]) (by kernel_rfl) (v_load (l := [vb a0.hM, v16 a0.ms, vb a0.hS, v8 a0.sc, vb a0.sO, .slice A1 a0.sk.length c1, vb a0.hT, v32 a0.va, v32 a0.ec, vb a0.hO, v8 a0.ki, v8 a0.ni, v8 a0.m.x0, v8 a0.m.x1, v8 a0.m.x2, v8 a0.m.x3, v8 a0.m.x4, v8 a0.m.x5, v8 a0.m.x6, v8 a0.m.x7, v8 a0.m.x8, v8 a0.m.x9, v8 a0.m.x10, v8 a0.m.x11]) (a := ⟨g1, 0, none⟩) (by kernel_rfl) (by kernel_rfl) (at_blk (j := 0) rfl rfl)) ?_
                          obtain ⟨t5, hx5, hm⟩ := bind_some hm
                          refine o_stp ?_ (by kernel_rfl)
                          refine s_call 67 53 #[.agg #[vb a0.hM, v16 a0.ms, vb a0.hS, v8 a0.sc, vb a0.sO, .slice A1 a0.sk.length c1, vb a0.hT, v32 a0.va, v32 a0.ec, vb a0.hO, v8 a0.ki, v8 a0.ni, v8 a0.m.x0, v8 a0.m.x1, v8 a0.m.x2, v8 a0.m.x3, v8 a0.m.x4, v8 a0.m.x5, v8 a0.m.x6, v8 a0.m.x7, v8 a0.m.x8, v8 a0.m.x9, v8 a0.m.x10, v8 a0.m.x11]] [1] [0] (by kernel_rfl) (by kernel_rfl) (fun w hs => opts_Size_2_ok a0 t5 hx5 B _ A1 c1 w (St.cast (by kernel_rfl) hs)) (fun _ hx => ?_)
                          refine t_L (L' := [.own A1 a0.sk.length c1 (rowOf encTB a0.sk) 2 84, .blk g1 [vb a0.hM, v16 a0.ms, vb a0.hS, v8 a0.sc, vb a0.sO, .slice A1 a0.sk.length c1, vb a0.hT, v32 a0.va, v32 a0.ec, vb a0.hO, v8 a0.ki, v8 a0.ni, v8 a0.m.x0, v8 a0.m.x1, v8 a0.m.x2, v8 a0.m.x3, v8 a0.m.x4, v8 a0.m.x5, v8 a0.m.x6, v8 a0.m.x7, v8 a0.m.x8, v8 a0.m.x9, v8 a0.m.x10, v8 a0.m.x11] 31]) (by kernel_rfl) ?_
                          refine o_run 3 [2] (l := []) .nil (E' := [(2, vb (decide (t5 ≤ 40)))]) (by kernel_rfl) ?_
                          refine o_end (by kernel_rfl) ?_
                          refine e_seq ?_
                          refine w_ret (by kernel_rfl) ?_
                          obtain rfl := Option.some.inj hm
                          exact e_retP () (vb (decide (t5 ≤ 40))) [0] (by kernel_rfl) (by kernel_rfl) rfl (by kernel_rfl) (by kernel_rfl) trivial
                        · replace hm := ite_f hb29 hm
                          refine o_run 5 [2] (l := []) .nil (E' := [(2, vb false)]) (by kernel_rfl) ?_
                          refine o_end (by kernel_rfl) ?_
                          refine e_seq ?_
                          refine w_ret (by kernel_rfl) ?_
                          obtain rfl := Option.some.inj hm
                          exact e_retP () (vb false) [1] (by kernel_rfl) (by kernel_rfl) rfl (by kernel_rfl) (by kernel_rfl) trivial
                · replace hm := ite_f hb25 hm
                  refine o_run 16 [1, 41] (l := []) .nil (E' := [(1, (pg g1)), (41, vb false)]) (by kernel_rfl) ?_
                  refine o_end (by kernel_rfl) ?_
                  refine e_seq ?_
                  refine w_cond_f (.tmp 41) 830 831 (by kernel_rfl) (by kernel_rfl) ?_
                  refine w_skip (by kernel_rfl) ?_
                  refine e_blk ?_
                  refine e_seq ?_
                  refine w_seq 14 15 (by kernel_rfl) ?_
                  refine w_region (by kernel_rfl) ?_
                  refine o_run 5 [1, 65] (l := [(⟨g1, 5, none⟩, .slice A1 a0.sk.length c1)]) (.one (at_blk (j := 0) rfl rfl) .nil) (E' := [(1, (pg g1)), (65, vb (decide ((a0.sk.length : Int) ≤ 4)))]) (by kernel_rfl) ?_
                  refine o_split 65 (decide ((a0.sk.length : Int) ≤ 4)) (by kernel_rfl) (fun hb30 => ?_) (fun hb30 => ?_)
                  · replace hm := ite_t hb30 hm
                    refine o_val 66 (.load 31 (.tmp 1)) (.agg #[vb a0.hM, v16 a0.ms, vb a0.hS, v8 a0.sc, vb a0.sO, .slice A1 a0.sk.length c1, vb a0.hT, v32 a0.va, v32 a0.ec, vb a0.hO, v8 a0.ki, v8 a0.ni, v8 a0.m.x0, v8 a0.m.x1, v8 a0.m.x2, v8 a0.m.x3, v8 a0.m.x4, v8 a0.m.x5, v8 a0.m.x6, v8 a0.m.x7, v8 a0.m.x8, v8 a0.m.x9, v8 a0.m.x10, v8 a0.m.x11]) (by kernel_rfl) (v_load (l := [vb a0.hM, v16 a0.ms, vb a0.hS, v8 a0.sc, vb a0.sO, .slice A1 a0.sk.length c1, vb a0.hT, v32 a0.va, v32 a0.ec, vb a0.hO, v8 a0.ki, v8 a0.ni, v8 a0.m.x0, v8 a0.m.x1, v8 a0.m.x2, v8 a0.m.x3, v8 a0.m.x4, v8 a0.m.x5, v8 a0.m.x6, v8 a0.m.x7, v8 a0.m.x8, v8 a0.m.x9, v8 a0.m.x10, v8 a0.m.x11]) (a := ⟨g1, 0, none⟩) (by kernel_rfl) (by kernel_rfl) (at_blk (j := 0) rfl rfl)) ?_
                    obtain ⟨t6, hx6, hm⟩ := bind_some hm
                    refine o_stp ?_ (by kernel_rfl)
                    refine s_call 67 53 #[.agg #[vb a0.hM, v16 a0.ms, vb a0.hS, v8 a0.sc, vb a0.sO, .slice A1 a0.sk.length c1, vb a0.hT, v32 a0.va, v32 a0.ec, vb a0.hO, v8 a0.ki, v8 a0.ni, v8 a0.m.x0, v8 a0.m.x1, v8 a0.m.x2, v8 a0.m.x3, v8 a0.m.x4, v8 a0.m.x5, v8 a0.m.x6, v8 a0.m.x7, v8 a0.m.x8, v8 a0.m.x9, v8 a0.m.x10, v8 a0.m.x11]] [1] [0] (by kernel_rfl) (by kernel_rfl) (fun w hs => opts_Size_2_ok a0 t6 hx6 B _ A1 c1 w (St.cast (by kernel_rfl) hs)) (fun _ hx => ?_)
                    refine t_L (L' := [.own A1 a0.sk.length c1 (rowOf encTB a0.sk) 2 84, .blk g1 [vb a0.hM, v16 a0.ms, vb a0.hS, v8 a0.sc, vb a0.sO, .slice A1 a0.sk.length c1, vb a0.hT, v32 a0.va, v32 a0.ec, vb a0.hO, v8 a0.ki, v8 a0.ni, v8 a0.m.x0, v8 a0.m.x1, v8 a0.m.x2, v8 a0.m.x3, v8 a0.m.x4, v8 a0.m.x5, v8 a0.m.x6, v8 a0.m.x7, v8 a0.m.x8, v8 a0.m.x9, v8 a0.m.x10, v8 a0.m.x11] 31]) (by kernel_rfl) ?_
                    refine o_run 3 [2] (l := []) .nil (E' := [(2, vb (decide (t6 ≤ 40)))]) (by kernel_rfl) ?_
                    refine o_end (by kernel_rfl) ?_
                    refine e_seq ?_
                    refine w_ret (by kernel_rfl) ?_
                    obtain rfl := Option.some.inj hm
                    exact e_retP () (vb (decide (t6 ≤ 40))) [0] (by kernel_rfl) (by kernel_rfl) rfl (by kernel_rfl) (by kernel_rfl) trivial
                  · replace hm := ite_f hb30 hm
                    refine o_run 5 [2] (l := []) .nil (E' := [(2, vb false)]) (by kernel_rfl) ?_
                    refine o_end (by kernel_rfl) ?_
                    refine e_seq ?_
                    refine w_ret (by kernel_rfl) ?_
                    obtain rfl := Option.some.inj hm
                    exact e_retP () (vb false) [1] (by kernel_rfl) (by kernel_rfl) rfl (by kernel_rfl) (by kernel_rfl) trivial
          · replace hm := ite_f hb22 hm
            refine o_run 10 [1, 27] (l := []) .nil (E' := [(1, (pg g1)), (27, vb false)]) (by kernel_rfl) ?_
            refine o_end (by kernel_rfl) ?_
            refine e_seq ?_
            refine w_cond_f (.tmp 27) 206 207 (by kernel_rfl) (by kernel_rfl) ?_
            refine w_seq 414 415 (by kernel_rfl) ?_
            refine w_region (by kernel_rfl) ?_
            refine o_run 4 [1, 45] (l := [(⟨g1, 9, none⟩, vb a0.hO)]) (.one (at_blk (j := 0) rfl rfl) .nil) (E' := [(1, (pg g1)), (45, vb (!a0.hO))]) (by kernel_rfl) ?_
            refine o_split 45 (!a0.hO) (by kernel_rfl) (fun hb31 => ?_) (fun hb31 => ?_)
            · replace hm := ite_t hb31 hm
              refine o_run 4 [1, 45, 49] (l := [(⟨g1, 10, none⟩, v8 a0.ki)]) (.one (at_blk (j := 0) rfl rfl) .nil) (E' := [(1, (pg g1)), (45, vb true), (49, vb (a0.ki != 0))]) (by kernel_rfl) ?_
              refine o_split 49 (a0.ki != 0) (by kernel_rfl) (fun hb32 => ?_) (fun hb32 => ?_)
              · replace hm := ite_t hb32 hm
                refine o_run 12 [1, 41] (l := []) .nil (E' := [(1, (pg g1)), (41, vb true)]) (by kernel_rfl) ?_
                refine o_end (by kernel_rfl) ?_
                refine e_seq ?_
                refine w_cond_t (.tmp 41) 830 831 (by kernel_rfl) (by kernel_rfl) ?_
                refine w_seq 1660 1661 (by kernel_rfl) ?_
                refine w_region (by kernel_rfl) ?_
                refine o_run 1 [2] (l := []) .nil (E' := [(2, vb false)]) (by kernel_rfl) ?_
                refine o_end (by kernel_rfl) ?_
                refine e_seq ?_
                refine w_ret (by kernel_rfl) ?_
                obtain rfl := Option.some.inj hm
                exact e_retP () (vb false) [1] (by kernel_rfl) (by kernel_rfl) rfl (by kernel_rfl) (by kernel_rfl) trivial
              · replace hm := ite_f hb32 hm
                refine o_run 5 [1, 45, 54] (l := [(⟨g1, 11, none⟩, v8 a0.ni)]) (.one (at_blk (j := 0) rfl rfl) .nil) (E' := [(1, (pg g1)), (45, vb true), (54, vb (a0.ni != 0))]) (by kernel_rfl) ?_
                refine o_split 54 (a0.ni != 0) (by kernel_rfl) (fun hb33 => ?_) (fun hb33 => ?_)
                · replace hm := ite_t hb33 hm
                  refine o_run 7 [1, 41] (l := []) .nil (E' := [(1, (pg g1)), (41, vb true)]) (by kernel_rfl) ?_
                  refine o_end (by kernel_rfl) ?_
                  refine e_seq ?_
                  refine w_cond_t (.tmp 41) 830 831 (by kernel_rfl) (by kernel_rfl) ?_
                  refine w_seq 1660 1661 (by kernel_rfl) ?_
                  refine w_region (by kernel_rfl) ?_
                  refine o_run 1 [2] (l := []) .nil (E' := [(2, vb false)]) (by kernel_rfl) ?_
                  refine o_end (by kernel_rfl) ?_
                  refine e_seq ?_
                  refine w_ret (by kernel_rfl) ?_
                  obtain rfl := Option.some.inj hm
                  exact e_retP () (vb false) [1] (by kernel_rfl) (by kernel_rfl) rfl (by kernel_rfl) (by kernel_rfl) trivial
                · replace hm := ite_f hb33 hm
                  refine o_run 1 [1, 45, 54, 55] (l := []) .nil (E' := [(1, (pg g1)), (45, vb true), (54, vb false), (55, .pointer (some ⟨g1, 12, none⟩))]) (by kernel_rfl) ?_
                  refine o_val 56 (.load 29 (.tmp 55)) (.agg #[v8 a0.m.x0, v8 a0.m.x1, v8 a0.m.x2, v8 a0.m.x3, v8 a0.m.x4, v8 a0.m.x5, v8 a0.m.x6, v8 a0.m.x7, v8 a0.m.x8, v8 a0.m.x9, v8 a0.m.x10, v8 a0.m.x11]) (by kernel_rfl) (v_load (l := [v8 a0.m.x0, v8 a0.m.x1, v8 a0.m.x2, v8 a0.m.x3, v8 a0.m.x4, v8 a0.m.x5, v8 a0.m.x6, v8 a0.m.x7, v8 a0.m.x8, v8 a0.m.x9, v8 a0.m.x10, v8 a0.m.x11]) (a := ⟨g1, 12, none⟩) (by kernel_rfl) (by kernel_rfl) (at_blk (j := 0) rfl rfl)) ?_
                  refine o_run 1 [1, 45, 54, 56, 57] (l := []) .nil (E' := [(1, (pg g1)), (45, vb true), (54, vb false), (56, .agg #[v8 a0.m.x0, v8 a0.m.x1, v8 a0.m.x2, v8 a0.m.x3, v8 a0.m.x4, v8 a0.m.x5, v8 a0.m.x6, v8 a0.m.x7, v8 a0.m.x8, v8 a0.m.x9, v8 a0.m.x10, v8 a0.m.x11]), (57, .agg #[v8 0, v8 0, v8 0, v8 0, v8 0, v8 0, v8 0, v8 0, v8 0, v8 0, v8 0, v8 0])]) (by kernel_rfl) ?_
                  refine o_val 58 (.binOp .neq 29 (.tmp 56) (.tmp 57) 29) (vb (!((a0.m.x0 == 0) && ((a0.m.x1 == 0) && ((a0.m.x2 == 0) && ((a0.m.x3 == 0) && ((a0.m.x4 == 0) && ((a0.m.x5 == 0) && ((a0.m.x6 == 0) && ((a0.m.x7 == 0) && ((a0.m.x8 == 0) && ((a0.m.x9 == 0) && ((a0.m.x10 == 0) && (a0.m.x11 == 0)))))))))))))) (by kernel_rfl) (v_neS (xs := #[v8 a0.m.x0, v8 a0.m.x1, v8 a0.m.x2, v8 a0.m.x3, v8 a0.m.x4, v8 a0.m.x5, v8 a0.m.x6, v8 a0.m.x7, v8 a0.m.x8, v8 a0.m.x9, v8 a0.m.x10, v8 a0.m.x11]) (ys := #[v8 0, v8 0, v8 0, v8 0, v8 0, v8 0, v8 0, v8 0, v8 0, v8 0, v8 0, v8 0]) (b := ((a0.m.x0 == 0) && ((a0.m.x1 == 0) && ((a0.m.x2 == 0) && ((a0.m.x3 == 0) && ((a0.m.x4 == 0) && ((a0.m.x5 == 0) && ((a0.m.x6 == 0) && ((a0.m.x7 == 0) && ((a0.m.x8 == 0) && ((a0.m.x9 == 0) && ((a0.m.x10 == 0) && (a0.m.x11 == 0))))))))))))) (by kernel_rfl) (by kernel_rfl) (by kernel_rfl) (by kernel_rfl)) ?_
                  refine o_run 3 [1, 41] (l := []) .nil (E' := [(1, (pg g1)), (41, vb (!((a0.m.x0 == 0) && ((a0.m.x1 == 0) && ((a0.m.x2 == 0) && ((a0.m.x3 == 0) && ((a0.m.x4 == 0) && ((a0.m.x5 == 0) && ((a0.m.x6 == 0) && ((a0.m.x7 == 0) && ((a0.m.x8 == 0) && ((a0.m.x9 == 0) && ((a0.m.x10 == 0) && (a0.m.x11 == 0))))))))))))))]) (by kernel_rfl) ?_
                  refine o_end (by kernel_rfl) ?_
                  refine e_seq ?_
                  refine w_cond (.tmp 41) 830 831 (!((a0.m.x0 == 0) && ((a0.m.x1 == 0) && ((a0.m.x2 == 0) && ((a0.m.x3 == 0) && ((a0.m.x4 == 0) && ((a0.m.x5 == 0) && ((a0.m.x6 == 0) && ((a0.m.x7 == 0) && ((a0.m.x8 == 0) && ((a0.m.x9 == 0) && ((a0.m.x10 == 0) && (a0.m.x11 == 0))))))))))))) (by kernel_rfl) (by kernel_rfl) (fun hb34 => ?_) (fun hb34 => ?_)
                  · replace hm := ite_t hb34 hm
                    refine w_seq 1660 1661 (by kernel_rfl) ?_
                    refine w_region (by kernel_rfl) ?_
                    refine o_run 1 [2] (l := []) .nil (E' := [(2, vb false)]) (by kernel_rfl) ?_
                    refine o_end (by kernel_rfl) ?_
                    refine e_seq ?_
                    refine w_ret (by kernel_rfl) ?_
                    obtain rfl := Option.some.inj hm
                    exact e_retP () (vb false) [1] (by kernel_rfl) (by kernel_rfl) rfl (by kernel_rfl) (by kernel_rfl) trivial
                  · replace hm := ite_f hb34 hm
                    refine w_skip (by kernel_rfl) ?_
                    refine e_blk ?_
                    refine e_seq ?_
                    refine w_seq 14 15 (by kernel_rfl) ?_
                    refine w_region (by kernel_rfl) ?_
                    refine o_run 5 [1, 65] (l := [(⟨g1, 5, none⟩, .slice A1 a0.sk.length c1)]) (.one (at_blk (j := 0) rfl rfl) .nil) (E' := [(1, (pg g1)), (65, vb (decide ((a0.sk.length : Int) ≤ 4)))]) (by kernel_rfl) ?_
                    refine o_split 65 (decide ((a0.sk.length : Int) ≤ 4)) (by kernel_rfl) (fun hb35 => ?_) (fun hb35 => ?_)
                    · replace hm := ite_t hb35 hm
                      refine o_val 66 (.load 31 (.tmp 1)) (.agg #[vb a0.hM, v16 a0.ms, vb a0.hS, v8 a0.sc, vb a0.sO, .slice A1 a0.sk.length c1, vb a0.hT, v32 a0.va, v32 a0.ec, vb a0.hO, v8 a0.ki, v8 a0.ni, v8 a0.m.x0, v8 a0.m.x1, v8 a0.m.x2, v8 a0.m.x3, v8 a0.m.x4, v8 a0.m.x5, v8 a0.m.x6, v8 a0.m.x7, v8 a0.m.x8, v8 a0.m.x9, v8 a0.m.x10, v8 a0.m.x11]) (by kernel_rfl) (v_load (l := [vb a0.hM, v16 a0.ms, vb a0.hS, v8 a0.sc, vb a0.sO, .slice A1 a0.sk.length c1, vb a0.hT, v32 a0.va, v32 a0.ec, vb a0.hO, v8 a0.ki, v8 a0.ni, v8 a0.m.x0, v8 a0.m.x1, v8 a0.m.x2, v8 a0.m.x3, v8 a0.m.x4, v8 a0.m.x5, v8 a0.m.x6, v8 a0.m.x7, v8 a0.m.x8, v8 a0.m.x9, v8 a0.m.x10, v8 a0.m.x11]) (a := ⟨g1, 0, none⟩) (by kernel_rfl) (by kernel_rfl) (at_blk (j := 0) rfl rfl)) ?_
                      obtain ⟨t7, hx7, hm⟩ := bind_some hm
                      refine o_stp ?_ (by kernel_rfl)
                      refine s_call 67 53 #[.agg #[vb a0.hM, v16 a0.ms, vb a0.hS, v8 a0.sc, vb a0.sO, .slice A1 a0.sk.length c1, vb a0.hT, v32 a0.va, v32 a0.ec, vb a0.hO, v8 a0.ki, v8 a0.ni, v8 a0.m.x0, v8 a0.m.x1, v8 a0.m.x2, v8 a0.m.x3, v8 a0.m.x4, v8 a0.m.x5, v8 a0.m.x6, v8 a0.m.x7, v8 a0.m.x8, v8 a0.m.x9, v8 a0.m.x10, v8 a0.m.x11]] [1] [0] (by kernel_rfl) (by kernel_rfl) (fun w hs => opts_Size_2_ok a0 t7 hx7 B _ A1 c1 w (St.cast (by kernel_rfl) hs)) (fun _ hx => ?_)
                      refine t_L (L' := [.own A1 a0.sk.length c1 (rowOf encTB a0.sk) 2 84, .blk g1 [vb a0.hM, v16 a0.ms, vb a0.hS, v8 a0.sc, vb a0.sO, .slice A1 a0.sk.length c1, vb a0.hT, v32 a0.va, v32 a0.ec, vb a0.hO, v8 a0.ki, v8 a0.ni, v8 a0.m.x0, v8 a0.m.x1, v8 a0.m.x2, v8 a0.m.x3, v8 a0.m.x4, v8 a0.m.x5, v8 a0.m.x6, v8 a0.m.x7, v8 a0.m.x8, v8 a0.m.x9, v8 a0.m.x10, v8 a0.m.x11] 31]) (by kernel_rfl) ?_
                      refine o_run 3 [2] (l := []) .nil (E' := [(2, vb (decide (t7 ≤ 40)))]) (by kernel_rfl) ?_
                      refine o_end (by kernel_rfl) ?_
                      refine e_seq ?_
                      refine w_ret (by kernel_rfl) ?_
                      obtain rfl := Option.some.inj hm
                      exact e_retP () (vb (decide (t7 ≤ 40))) [0] (by kernel_rfl) (by kernel_rfl) rfl (by kernel_rfl) (by kernel_rfl) trivial
                    · replace hm := ite_f hb35 hm
                      refine o_run 5 [2] (l := []) .nil (E' := [(2, vb false)]) (by kernel_rfl) ?_
                      refine o_end (by kernel_rfl) ?_
                      refine e_seq ?_
                      refine w_ret (by kernel_rfl) ?_
                      obtain rfl := Option.some.inj hm
                      exact e_retP () (vb false) [1] (by kernel_rfl) (by kernel_rfl) rfl (by kernel_rfl) (by kernel_rfl) trivial
            · replace hm := ite_f hb31 hm
              refine o_run 16 [1, 41] (l := []) .nil (E' := [(1, (pg g1)), (41, vb false)]) (by kernel_rfl) ?_
              refine o_end (by kernel_rfl) ?_
              refine e_seq ?_
              refine w_cond_f (.tmp 41) 830 831 (by kernel_rfl) (by kernel_rfl) ?_
              refine w_skip (by kernel_rfl) ?_
              refine e_blk ?_
              refine e_seq ?_
              refine w_seq 14 15 (by kernel_rfl) ?_
              refine w_region (by kernel_rfl) ?_
              refine o_run 5 [1, 65] (l := [(⟨g1, 5, none⟩, .slice A1 a0.sk.length c1)]) (.one (at_blk (j := 0) rfl rfl) .nil) (E' := [(1, (pg g1)), (65, vb (decide ((a0.sk.length : Int) ≤ 4)))]) (by kernel_rfl) ?_
              refine o_split 65 (decide ((a0.sk.length : Int) ≤ 4)) (by kernel_rfl) (fun hb36 => ?_) (fun hb36 => ?_)
              · replace hm := ite_t hb36 hm
                refine o_val 66 (.load 31 (.tmp 1)) (.agg #[vb a0.hM, v16 a0.ms, vb a0.hS, v8 a0.sc, vb a0.sO, .slice A1 a0.sk.length c1, vb a0.hT, v32 a0.va, v32 a0.ec, vb a0.hO, v8 a0.ki, v8 a0.ni, v8 a0.m.x0, v8 a0.m.x1, v8 a0.m.x2, v8 a0.m.x3, v8 a0.m.x4, v8 a0.m.x5, v8 a0.m.x6, v8 a0.m.x7, v8 a0.m.x8, v8 a0.m.x9, v8 a0.m.x10, v8 a0.m.x11]) (by kernel_rfl) (v_load (l := [vb a0.hM, v16 a0.ms, vb a0.hS, v8 a0.sc, vb a0.sO, .slice A1 a0.sk.length c1, vb a0.hT, v32 a0.va, v32 a0.ec, vb a0.hO, v8 a0.ki, v8 a0.ni, v8 a0.m.x0, v8 a0.m.x1, v8 a0.m.x2, v8 a0.m.x3, v8 a0.m.x4, v8 a0.m.x5, v8 a0.m.x6, v8 a0.m.x7, v8 a0.m.x8, v8 a0.m.x9, v8 a0.m.x10, v8 a0.m.x11]) (a := ⟨g1, 0, none⟩) (by kernel_rfl) (by kernel_rfl) (at_blk (j := 0) rfl rfl)) ?_
                obtain ⟨t8, hx8, hm⟩ := bind_some hm
                refine o_stp ?_ (by kernel_rfl)
                refine s_call 67 53 #[.agg #[vb a0.hM, v16 a0.ms, vb a0.hS, v8 a0.sc, vb a0.sO, .slice A1 a0.sk.length c1, vb a0.hT, v32 a0.va, v32 a0.ec, vb a0.hO, v8 a0.ki, v8 a0.ni, v8 a0.m.x0, v8 a0.m.x1, v8 a0.m.x2, v8 a0.m.x3, v8 a0.m.x4, v8 a0.m.x5, v8 a0.m.x6, v8 a0.m.x7, v8 a0.m.x8, v8 a0.m.x9, v8 a0.m.x10, v8 a0.m.x11]] [1] [0] (by kernel_rfl) (by kernel_rfl) (fun w hs => opts_Size_2_ok a0 t8 hx8 B _ A1 c1 w (St.cast (by kernel_rfl) hs)) (fun _ hx => ?_)
                refine t_L (L' := [.own A1 a0.sk.length c1 (rowOf encTB a0.sk) 2 84, .blk g1 [vb a0.hM, v16 a0.ms, vb a0.hS, v8 a0.sc, vb a0.sO, .slice A1 a0.sk.length c1, vb a0.hT, v32 a0.va, v32 a0.ec, vb a0.hO, v8 a0.ki, v8 a0.ni, v8 a0.m.x0, v8 a0.m.x1, v8 a0.m.x2, v8 a0.m.x3, v8 a0.m.x4, v8 a0.m.x5, v8 a0.m.x6, v8 a0.m.x7, v8 a0.m.x8, v8 a0.m.x9, v8 a0.m.x10, v8 a0.m.x11] 31]) (by kernel_rfl) ?_
                refine o_run 3 [2] (l := []) .nil (E' := [(2, vb (decide (t8 ≤ 40)))]) (by kernel_rfl) ?_
                refine o_end (by kernel_rfl) ?_
                refine e_seq ?_
                refine w_ret (by kernel_rfl) ?_
                obtain rfl := Option.some.inj hm
                exact e_retP () (vb (decide (t8 ≤ 40))) [0] (by kernel_rfl) (by kernel_rfl) rfl (by kernel_rfl) (by kernel_rfl) trivial
              · replace hm := ite_f hb36 hm
                refine o_run 5 [2] (l := []) .nil (E' := [(2, vb false)]) (by kernel_rfl) ?_
                refine o_end (by kernel_rfl) ?_
                refine e_seq ?_
                refine w_ret (by kernel_rfl) ?_
                obtain rfl := Option.some.inj hm
                exact e_retP () (vb false) [1] (by kernel_rfl) (by kernel_rfl) rfl (by kernel_rfl) (by kernel_rfl) trivial
  · replace hm := ite_f hb1 hm
    refine o_run 9 [1, 12, 16] (l := [(⟨g1, 2, none⟩, vb a0.hS)]) (.one (at_blk (j := 0) rfl rfl) .nil) (E' := [(1, (pg g1)), (12, vb false), (16, vb (!a0.hS))]) (by kernel_rfl) ?_
    refine o_split 16 (!a0.hS) (by kernel_rfl) (fun hb37 => ?_) (fun hb37 => ?_)
    · replace hm := ite_t hb37 hm
      refine o_run 6 [1, 22] (l := [(⟨g1, 3, none⟩, v8 a0.sc)]) (.one (at_blk (j := 0) rfl rfl) .nil) (E' := [(1, (pg g1)), (22, vb (a0.sc != 0))]) (by kernel_rfl) ?_
      refine o_split 22 (a0.sc != 0) (by kernel_rfl) (fun hb38 => ?_) (fun hb38 => ?_)
      · replace hm := ite_t hb38 hm
        refine o_run 5 [1, 3] (l := []) .nil (E' := [(1, (pg g1)), (3, vb true)]) (by kernel_rfl) ?_
        refine o_end (by kernel_rfl) ?_
        refine e_seq ?_
        refine w_cond_t (.tmp 3) 50 51 (by kernel_rfl) (by kernel_rfl) ?_
        refine w_seq 100 101 (by kernel_rfl) ?_
        refine w_region (by kernel_rfl) ?_
        refine o_run 1 [2] (l := []) .nil (E' := [(2, vb false)]) (by kernel_rfl) ?_
        refine o_end (by kernel_rfl) ?_
        refine e_seq ?_
        refine w_ret (by kernel_rfl) ?_
        obtain rfl := Option.some.inj hm
        exact e_retP () (vb false) [1] (by kernel_rfl) (by kernel_rfl) rfl (by kernel_rfl) (by kernel_rfl) trivial
      · replace hm := ite_f hb38 hm
        refine o_run 5 [1, 3] (l := [(⟨g1, 3, none⟩, v8 a0.sc)]) (.one (at_blk (j := 0) rfl rfl) .nil) (E' := [(1, (pg g1)), (3, vb (decide (a0.sc > 14)))]) (by kernel_rfl) ?_
        refine o_end (by kernel_rfl) ?_
        refine e_seq ?_
        refine w_cond (.tmp 3) 50 51 (decide (a0.sc > 14)) (by kernel_rfl) (by kernel_rfl) (fun hb39 => ?_) (fun hb39 => ?_)
        · replace hm := ite_t hb39 hm
          refine w_seq 100 101 (by kernel_rfl) ?_
          refine w_region (by kernel_rfl) ?_
          refine o_run 1 [2] (l := []) .nil (E' := [(2, vb false)]) (by kernel_rfl) ?_
          refine o_end (by kernel_rfl) ?_
          refine e_seq ?_
          refine w_ret (by kernel_rfl) ?_
          obtain rfl := Option.some.inj hm
          exact e_retP () (vb false) [1] (by kernel_rfl) (by kernel_rfl) rfl (by kernel_rfl) (by kernel_rfl) trivial
        · replace hm := ite_f hb39 hm
          refine w_seq 102 103 (by kernel_rfl) ?_
          refine w_region (by kernel_rfl) ?_
          refine o_run 4 [1, 31] (l := [(⟨g1, 6, none⟩, vb a0.hT)]) (.one (at_blk (j := 0) rfl rfl) .nil) (E' := [(1, (pg g1)), (31, vb (!a0.hT))]) (by kernel_rfl) ?_
          refine o_split 31 (!a0.hT) (by kernel_rfl) (fun hb40 => ?_) (fun hb40 => ?_)
          · replace hm := ite_t hb40 hm
            refine o_run 4 [1, 31, 35] (l := [(⟨g1, 7, none⟩, v32 a0.va)]) (.one (at_blk (j := 0) rfl rfl) .nil) (E' := [(1, (pg g1)), (31, vb true), (35, vb (a0.va != 0))]) (by kernel_rfl) ?_
            refine o_split 35 (a0.va != 0) (by kernel_rfl) (fun hb41 => ?_) (fun hb41 => ?_)
            · replace hm := ite_t hb41 hm
              refine o_run 6 [1, 27] (l := []) .nil (E' := [(1, (pg g1)), (27, vb true)]) (by kernel_rfl) ?_
              refine o_end (by kernel_rfl) ?_
              refine e_seq ?_
              refine w_cond_t (.tmp 27) 206 207 (by kernel_rfl) (by kernel_rfl) ?_
              refine w_seq 412 413 (by kernel_rfl) ?_
              refine w_region (by kernel_rfl) ?_
              refine o_run 1 [2] (l := []) .nil (E' := [(2, vb false)]) (by kernel_rfl) ?_
              refine o_end (by kernel_rfl) ?_
              refine e_seq ?_
              refine w_ret (by kernel_rfl) ?_
              obtain rfl := Option.some.inj hm
              exact e_retP () (vb false) [1] (by kernel_rfl) (by kernel_rfl) rfl (by kernel_rfl) (by kernel_rfl) trivial
            · replace hm := ite_f hb41 hm
              refine o_run 6 [1, 27] (l := [(⟨g1, 8, none⟩, v32 a0.ec)]) (.one (at_blk (j := 0) rfl rfl) .nil) (E' := [(1, (pg g1)), (27, vb (a0.ec != 0))]) (by kernel_rfl) ?_
              refine o_end (by kernel_rfl) ?_
              refine e_seq ?_
              refine w_cond (.tmp 27) 206 207 (a0.ec != 0) (by kernel_rfl) (by kernel_rfl) (fun hb42 => ?_) (fun hb42 => ?_)
              · replace hm := ite_t hb42 hm
                refine w_seq 412 413 (by kernel_rfl) ?_
                refine w_region (by kernel_rfl) ?_
                refine o_run 1 [2] (l := []) .nil (E' := [(2, vb false)]) (by kernel_rfl) ?_
                refine o_end (by kernel_rfl) ?_
                refine e_seq ?_
                refine w_ret (by kernel_rfl) ?_
                obtain rfl := Option.some.inj hm
                exact e_retP () (vb false) [1] (by kernel_rfl) (by kernel_rfl) rfl (by kernel_rfl) (by kernel_rfl) trivial
              · replace hm := ite_f hb42 hm
                refine w_seq 414 415 (by kernel_rfl) ?_
                refine w_region (by kernel_rfl) ?_
                refine o_run 4 [1, 45] (l := [(⟨g1, 9, none⟩, vb a0.hO)]) (.one (at_blk (j := 0) rfl rfl) .nil) (E' := [(1, (pg g1)), (45, vb (!a0.hO))]) (by kernel_rfl) ?_
                refine o_split 45 (!a0.hO) (by kernel_rfl) (fun hb43 => ?_) (fun hb43 => ?_)
                · replace hm := ite_t hb43 hm
                  refine o_run 4 [1, 45, 49] (l := [(⟨g1, 10, none⟩, v8 a0.ki)]) (.one (at_blk (j := 0) rfl rfl) .nil) (E' := [(1, (pg g1)), (45, vb true), (49, vb (a0.ki != 0))]) (by kernel_rfl) ?_
                  refine o_split 49 (a0.ki != 0) (by kernel_rfl) (fun hb44 => ?_) (fun hb44 => ?_)
                  · replace hm := ite_t hb44 hm
                    refine o_run 12 [1, 41] (l := []) .nil (E' := [(1, (pg g1)), (41, vb true)]) (by kernel_rfl) ?_
                    refine o_end (by kernel_rfl) ?_
                    refine e_seq ?_
                    refine w_cond_t (.tmp 41) 830 831 (by kernel_rfl) (by kernel_rfl) ?_
                    refine w_seq 1660 1661 (by kernel_rfl) ?_
                    refine w_region (by kernel_rfl) ?_
                    refine o_run 1 [2] (l := []) .nil (E' := [(2, vb false)]) (by kernel_rfl) ?_
                    refine o_end (by kernel_rfl) ?_
                    refine e_seq ?_
                    refine w_ret (by kernel_rfl) ?_
                    obtain rfl := Option.some.inj hm
                    exact e_retP () (vb false) [1] (by kernel_rfl) (by kernel_rfl) rfl (by kernel_rfl) (by kernel_rfl) trivial
                  · replace hm := ite_f hb44 hm
                    refine o_run 5 [1, 45, 54] (l := [(⟨g1, 11, none⟩, v8 a0.ni)]) (.one (at_blk (j := 0) rfl rfl) .nil) (E' := [(1, (pg g1)), (45, vb true), (54, vb (a0.ni != 0))]) (by kernel_rfl) ?_
                    refine o_split 54 (a0.ni != 0) (by kernel_rfl) (fun hb45 => ?_) (fun hb45 => ?_)
                    · replace hm := ite_t hb45 hm
                      refine o_run 7 [1, 41] (l := []) .nil (E' := [(1, (pg g1)), (41, vb true)]) (by kernel_rfl) ?_
                      refine o_end (by kernel_rfl) ?_
                      refine e_seq ?_
                      refine w_cond_t (.tmp 41) 830 831 (by kernel_rfl) (by kernel_rfl) ?_
                      refine w_seq 1660 1661 (by kernel_rfl) ?_
                      refine w_region (by kernel_rfl) ?_
                      refine o_run 1 [2] (l := []) .nil (E' := [(2, vb false)]) (by kernel_rfl) ?_
                      refine o_end (by kernel_rfl) ?_
                      refine e_seq ?_
                      refine w_ret (by kernel_rfl) ?_
                      obtain rfl := Option.some.inj hm
                      exact e_retP () (vb false) [1] (by kernel_rfl) (by kernel_rfl) rfl (by kernel_rfl) (by kernel_rfl) trivial
                    · replace hm := ite_f hb45 hm
                      refine o_run 1 [1, 45, 54, 55] (l := []) .nil (E' := [(1, (pg g1)), (45, vb true), (54, vb false), (55, .pointer (some ⟨g1, 12, none⟩))]) (by kernel_rfl) ?_
                      refine o_val 56 (.load 29 (.tmp 55)) (.agg #[v8 a0.m.x0, v8 a0.m.x1, v8 a0.m.x2, v8 a0.m.x3, v8 a0.m.x4, v8 a0.m.x5, v8 a0.m.x6, v8 a0.m.x7, v8 a0.m.x8, v8 a0.m.x9, v8 a0.m.x10, v8 a0.m.x11]) (by kernel_rfl) (v_load (l := [v8 a0.m.x0, v8 a0.m.x1, v8 a0.m.x2, v8 a0.m.x3, v8 a0.m.x4, v8 a0.m.x5, v8 a0.m.x6, v8 a0.m.x7, v8 a0.m.x8, v8 a0.m.x9, v8 a0.m.x10, v8 a0.m.x11]) (a := ⟨g1, 12, none⟩) (by kernel_rfl) (by kernel_rfl) (at_blk (j := 0) rfl rfl)) ?_
                      refine o_run 1 [1, 45, 54, 56, 57] (l := []) .nil (E' := [(1, (pg g1)), (45, vb true), (54, vb false), (56, .agg #[v8 a0.m.x0, v8 a0.m.x1, v8 a0.m.x2, v8 a0.m.x3, v8 a0.m.x4, v8 a0.m.x5, v8 a0.m.x6, v8 a0.m.x7, v8 a0.m.x8, v8 a0.m.x9, v8 a0.m.x10, v8 a0.m.x11]), (57, .agg #[v8 0, v8 0, v8 0, v8 0, v8 0, v8 0, v8 0, v8 0, v8 0, v8 0, v8 0, v8 0])]) (by kernel_rfl) ?_
                      refine o_val 58 (.binOp .neq 29 (.tmp 56) (.tmp 57) 29) (vb (!((a0.m.x0 == 0) && ((a0.m.x1 == 0) && ((a0.m.x2 == 0) && ((a0.m.x3 == 0) && ((a0.m.x4 == 0) && ((a0.m.x5 == 0) && ((a0.m.x6 == 0) && ((a0.m.x7 == 0) && ((a0.m.x8 == 0) && ((a0.m.x9 == 0) && ((a0.m.x10 == 0) && (a0.m.x11 == 0)))))))))))))) (by kernel_rfl) (v_neS (xs := #[v8 a0.m.x0, v8 a0.m.x1, v8 a0.m.x2, v8 a0.m.x3, v8 a0.m.x4, v8 a0.m.x5, v8 a0.m.x6, v8 a0.m.x7, v8 a0.m.x8, v8 a0.m.x9, v8 a0.m.x10, v8 a0.m.x11]) (ys := #[v8 0, v8 0, v8 0, v8 0, v8 0, v8 0, v8 0, v8 0, v8 0, v8 0, v8 0, v8 0]) (b := ((a0.m.x0 == 0) && ((a0.m.x1 == 0) && ((a0.m.x2 == 0) && ((a0.m.x3 == 0) && ((a0.m.x4 == 0) && ((a0.m.x5 == 0) && ((a0.m.x6 == 0) && ((a0.m.x7 == 0) && ((a0.m.x8 == 0) && ((a0.m.x9 == 0) && ((a0.m.x10 == 0) && (a0.m.x11 == 0))))))))))))) (by kernel_rfl) (by kernel_rfl) (by kernel_rfl) (by kernel_rfl)) ?_
                      refine o_run 3 [1, 41] (l := []) .nil (E' := [(1, (pg g1)), (41, vb (!((a0.m.x0 == 0) && ((a0.m.x1 == 0) && ((a0.m.x2 == 0) && ((a0.m.x3 == 0) && ((a0.m.x4 == 0) && ((a0.m.x5 == 0) && ((a0.m.x6 == 0) && ((a0.m.x7 == 0) && ((a0.m.x8 == 0) && ((a0.m.x9 == 0) && ((a0.m.x10 == 0) && (a0.m.x11 == 0))))))))))))))]) (by kernel_rfl) ?_
                      refine o_end (by kernel_rfl) ?_
                      refine e_seq ?_
                      refine w_cond (.tmp 41) 830 831 (!((a0.m.x0 == 0) && ((a0.m.x1 == 0) && ((a0.m.x2 == 0) && ((a0.m.x3 == 0) && ((a0.m.x4 == 0) && ((a0.m.x5 == 0) && ((a0.m.x6 == 0) && ((a0.m.x7 == 0) && ((a0.m.x8 == 0) && ((a0.m.x9 == 0) && ((a0.m.x10 == 0) && (a0.m.x11 == 0))))))))))))) (by kernel_rfl) (by kernel_rfl) (fun hb46 => ?_) (fun hb46 => ?_)
                      · replace hm := ite_t hb46 hm
                        refine w_seq 1660 1661 (by kernel_rfl) ?_
                        refine w_region (by kernel_rfl) ?_
                        refine o_run 1 [2] (l := []) .nil (E' := [(2, vb false)]) (by kernel_rfl) ?_
                        refine o_end (by kernel_rfl) ?_
                        refine e_seq ?_
                        refine w_ret (by kernel_rfl) ?_
                        obtain rfl := Option.some.inj hm
                        exact e_retP () (vb false) [1] (by kernel_rfl) (by kernel_rfl) rfl (by kernel_rfl) (by kernel_rfl) trivial
                      · replace hm := ite_f hb46 hm
                        refine w_skip (by kernel_rfl) ?_
                        refine e_blk ?_
                        refine e_seq ?_
                        refine w_seq 14 15 (by kernel_rfl) ?_
                        refine w_region (by kernel_rfl) ?_
                        refine o_run 5 [1, 65] (l := [(⟨g1, 5, none⟩, .slice A1 a0.sk.length c1)]) (.one (at_blk (j := 0) rfl rfl) .nil) (E' := [(1, (pg g1)), (65, vb (decide ((a0.sk.length : Int) ≤ 4)))]) (by kernel_rfl) ?_
                        refine o_split 65 (decide ((a0.sk.length : Int) ≤ 4)) (by kernel_rfl) (fun hb47 => ?_) (fun hb47 => ?_)
                        · replace hm := ite_t hb47 hm
                          refine o_val 66 (.load 31 (.tmp 1)) (.agg #[vb a0.hM, v16 a0.ms, vb a0.hS, v8 a0.sc, vb a0.sO, .slice A1 a0.sk.length c1, vb a0.hT, v32 a0.va, v32 a0.ec, vb a0.hO, v8 a0.ki, v8 a0.ni, v8 a0.m.x0, v8 a0.m.x1, v8 a0.m.x2, v8 a0.m.x3, v8 a0.m.x4, v8 a0.m.x5, v8 a0.m.x6, v8 a0.m.x7, v8 a0.m.x8, v8 a0.m.x9, v8 a0.m.x10, v8 a0.m.x11]) (by kernel_rfl) (v_load (l := [vb a0.hM, v16 a0.ms, vb a0.hS, v8 a0.sc, vb a0.sO, .slice A1 a0.sk.length c1, vb a0.hT, v32 a0.va, v32 a0.ec, vb a0.hO, v8 a0.ki, v8 a0.ni, v8 a0.m.x0, v8 a0.m.x1, v8 a0.m.x2, v8 a0.m.x3, v8 a0.m.x4, v8 a0.m.x5, v8 a0.m.x6, v8 a0.m.x7, v8 a0.m.x8, v8 a0.m.x9, v8 a0.m.x10, v8 a0.m.x11]) (a := ⟨g1, 0, none⟩) (by kernel_rfl) (by kernel_rfl) (at_blk (j := 0) rfl rfl)) ?_
                          obtain ⟨t9, hx9, hm⟩ := bind_some hm
                          refine o_stp ?_ (by kernel_rfl)
                          refine s_call 67 53 #[.agg #[vb a0.hM, v16 a0.ms, vb a0.hS, v8 a0.sc, vb a0.sO, .slice A1 a0.sk.length c1, vb a0.hT, v32 a0.va, v32 a0.ec, vb a0.hO, v8 a0.ki, v8 a0.ni, v8 a0.m.x0, v8 a0.m.x1, v8 a0.m.x2, v8 a0.m.x3, v8 a0.m.x4, v8 a0.m.x5, v8 a0.m.x6, v8 a0.m.x7, v8 a0.m.x8, v8 a0.m.x9, v8 a0.m.x10, v8 a0.m.x11]] [1] [0] (by kernel_rfl) (by kernel_rfl) (fun w hs => opts_Size_2_ok a0 t9 hx9 B _ A1 c1 w (St.cast (by kernel_rfl) hs)) (fun _ hx => ?_)
                          refine t_L (L' := [.own A1 a0.sk.length c1 (rowOf encTB a0.sk) 2 84, .blk g1 [vb a0.hM, v16 a0.ms, vb a0.hS, v8 a0.sc, vb a0.sO, .slice A1 a0.sk.length c1, vb a0.hT, v32 a0.va, v32 a0.ec, vb a0.hO, v8 a0.ki, v8 a0.ni, v8 a0.m.x0, v8 a0.m.x1, v8 a0.m.x2, v8 a0.m.x3, v8 a0.m.x4, v8 a0.m.x5, v8 a0.m.x6, v8 a0.m.x7, v8 a0.m.x8, v8 a0.m.x9, v8 a0.m.x10, v8 a0.m.x11] 31]) (by kernel_rfl) ?_
                          refine o_run 3 [2] (l := []) .nil (E' := [(2, vb (decide (t9 ≤ 40)))]) (by kernel_rfl) ?_
                          refine o_end (by kernel_rfl) ?_
                          refine e_seq ?_
                          refine w_ret (by kernel_rfl) ?_
                          obtain rfl := Option.some.inj hm
                          exact e_retP () (vb (decide (t9 ≤ 40))) [0] (by kernel_rfl) (by kernel_rfl) rfl (by kernel_rfl) (by kernel_rfl) trivial
                        · replace hm := ite_f hb47 hm
                          refine o_run 5 [2] (l := []) .nil (E' := [(2, vb false)]) (by kernel_rfl) ?_
                          refine o_end (by kernel_rfl) ?_
                          refine e_seq ?_
                          refine w_ret (by kernel_rfl) ?_
                          obtain rfl := Option.some.inj hm
                          exact e_retP () (vb false) [1] (by kernel_rfl) (by kernel_rfl) rfl (by kernel_rfl) (by kernel_rfl) trivial
                · replace hm := ite_f hb43 hm
                  refine o_run 16 [1, 41] (l := []) .nil (E' := [(1, (pg g1)), (41, vb false)]) (by kernel_rfl) ?_
                  refine o_end (by kernel_rfl) ?_
                  refine e_seq ?_
                  refine w_cond_f (.tmp 41) 830 831 (by kernel_rfl) (by kernel_rfl) ?_
                  refine w_skip (by kernel_rfl) ?_
                  refine e_blk ?_
                  refine e_seq ?_
                  refine w_seq 14 15 (by kernel_rfl) ?_
                  refine w_region (by kernel_rfl) ?_
                  refine o_run 5 [1, 65] (l := [(⟨g1, 5, none⟩, .slice A1 a0.sk.length c1)]) (.one (at_blk (j := 0) rfl rfl) .nil) (E' := [(1, (pg g1)), (65, vb (decide ((a0.sk.length : Int) ≤ 4)))]) (by kernel_rfl) ?_
                  refine o_split 65 (decide ((a0.sk.length : Int) ≤ 4)) (by kernel_rfl) (fun hb48 => ?_) (fun hb48 => ?_)
                  · replace hm := ite_t hb48 hm
                    refine o_val 66 (.load 31 (.tmp 1)) (.agg #[vb a0.hM, v16 a0.ms, vb a0.hS, v8 a0.sc, vb a0.sO, .slice A1 a0.sk.length c1, vb a0.hT, v32 a0.va, v32 a0.ec, vb a0.hO, v8 a0.ki, v8 a0.ni, v8 a0.m.x0, v8 a0.m.x1, v8 a0.m.x2, v8 a0.m.x3, v8 a0.m.x4, v8 a0.m.x5, v8 a0.m.x6, v8 a0.m.x7, v8 a0.m.x8, v8 a0.m.x9, v8 a0.m.x10, v8 a0.m.x11]) (by kernel_rfl) (v_load (l := [vb a0.hM, v16 a0.ms, vb a0.hS, v8 a0.sc, vb a0.sO, .slice A1 a0.sk.length c1, vb a0.hT, v32 a0.va, v32 a0.ec, vb a0.hO, v8 a0.ki, v8 a0.ni, v8 a0.m.x0, v8 a0.m.x1, v8 a0.m.x2, v8 a0.m.x3, v8 a0.m.x4, v8 a0.m.x5, v8 a0.m.x6, v8 a0.m.x7, v8 a0.m.x8, v8 a0.m.x9, v8 a0.m.x10, v8 a0.m.x11]) (a := ⟨g1, 0, none⟩) (by kernel_rfl) (by kernel_rfl) (at_blk (j := 0) rfl rfl)) ?_
                    obtain ⟨t10, hx10, hm⟩ := bind_some hm
                    refine o_stp ?_ (by kernel_rfl)
                    refine s_call 67 53 #[.agg #[vb a0.hM, v16 a0.ms, vb a0.hS, v8 a0.sc, vb a0.sO, .slice A1 a0.sk.length c1, vb a0.hT, v32 a0.va, v32 a0.ec, vb a0.hO, v8 a0.ki, v8 a0.ni, v8 a0.m.x0, v8 a0.m.x1, v8 a0.m.x2, v8 a0.m.x3, v8 a0.m.x4, v8 a0.m.x5, v8 a0.m.x6, v8 a0.m.x7, v8 a0.m.x8, v8 a0.m.x9, v8 a0.m.x10, v8 a0.m.x11]] [1] [0] (by kernel_rfl) (by kernel_rfl) (fun w hs => opts_Size_2_ok a0 t10 hx10 B _ A1 c1 w (St.cast (by kernel_rfl) hs)) (fun _ hx => ?_)
                    refine t_L (L' := [.own A1 a0.sk.length c1 (rowOf encTB a0.sk) 2 84, .blk g1 [vb a0.hM, v16 a0.ms, vb a0.hS, v8 a0.sc, vb a0.sO, .slice A1 a0.sk.length c1, vb a0.hT, v32 a0.va, v32 a0.ec, vb a0.hO, v8 a0.ki, v8 a0.ni, v8 a0.m.x0, v8 a0.m.x1, v8 a0.m.x2, v8 a0.m.x3, v8 a0.m.x4, v8 a0.m.x5, v8 a0.m.x6, v8 a0.m.x7, v8 a0.m.x8, v8 a0.m.x9, v8 a0.m.x10, v8 a0.m.x11] 31]) (by kernel_rfl) ?_
                    refine o_run 3 [2] (l := []) .nil (E' := [(2, vb (decide (t10 ≤ 40)))]) (by kernel_rfl) ?_
                    refine o_end (by kernel_rfl) ?_
                    refine e_seq ?_
                    refine w_ret (by kernel_rfl) ?_
                    obtain rfl := Option.some.inj hm
                    exact e_retP () (vb (decide (t10 ≤ 40))) [0] (by kernel_rfl) (by kernel_rfl) rfl (by kernel_rfl) (by kernel_rfl) trivial
                  · replace hm := ite_f hb48 hm
                    refine o_run 5 [2] (l := []) .nil (E' := [(2, vb false)]) (by kernel_rfl) ?_
                    refine o_end (by kernel_rfl) ?_
                    refine e_seq ?_
                    refine w_ret (by kernel_rfl) ?_
                    obtain rfl := Option.some.inj hm
                    exact e_retP () (vb false) [1] (by kernel_rfl) (by kernel_rfl) rfl (by kernel_rfl) (by kernel_rfl) trivial
          · replace hm := ite_f hb40 hm
            refine o_run 10 [1, 27] (l := []) .nil (E' := [(1, (pg g1)), (27, vb false)]) (by kernel_rfl) ?_
            refine o_end (by kernel_rfl) ?_
            refine e_seq ?_
            refine w_cond_f (.tmp 27) 206 207 (by kernel_rfl) (by kernel_rfl) ?_
            refine w_seq 414 415 (by kernel_rfl) ?_
            refine w_region (by kernel_rfl) ?_
            refine o_run 4 [1, 45] (l := [(⟨g1, 9, none⟩, vb a0.hO)]) (.one (at_blk (j := 0) rfl rfl) .nil) (E' := [(1, (pg g1)), (45, vb (!a0.hO))]) (by kernel_rfl) ?_
            refine o_split 45 (!a0.hO) (by kernel_rfl) (fun hb49 => ?_) (fun hb49 => ?_)
            · replace hm := ite_t hb49 hm
              refine o_run 4 [1, 45, 49] (l := [(⟨g1, 10, none⟩, v8 a0.ki)]) (.one (at_blk (j := 0) rfl rfl) .nil) (E' := [(1, (pg g1)), (45, vb true), (49, vb (a0.ki != 0))]) (by kernel_rfl) ?_
              refine o_split 49 (a0.ki != 0) (by kernel_rfl) (fun hb50 => ?_) (fun hb50 => ?_)
              · replace hm := ite_t hb50 hm
                refine o_run 12 [1, 41] (l := []) .nil (E' := [(1, (pg g1)), (41, vb true)]) (by kernel_rfl) ?_
                refine o_end (by kernel_rfl) ?_
                refine e_seq ?_
                refine w_cond_t (.tmp 41) 830 831 (by kernel_rfl) (by kernel_rfl) ?_
                refine w_seq 1660 1661 (by kernel_rfl) ?_
                refine w_region (by kernel_rfl) ?_
                refine o_run 1 [2] (l := []) .nil (E' := [(2, vb false)]) (by kernel_rfl) ?_
                refine o_end (by kernel_rfl) ?_
                refine e_seq ?_
                refine w_ret (by kernel_rfl) ?_
                obtain rfl := Option.some.inj hm
                exact e_retP () (vb false) [1] (by kernel_rfl) (by kernel_rfl) rfl (by kernel_rfl) (by kernel_rfl) trivial
              · replace hm := ite_f hb50 hm
                refine o_run 5 [1, 45, 54] (l := [(⟨g1, 11, none⟩, v8 a0.ni)]) (.one (at_blk (j := 0) rfl rfl) .nil) (E' := [(1, (pg g1)), (45, vb true), (54, vb (a0.ni != 0))]) (by kernel_rfl) ?_
                refine o_split 54 (a0.ni != 0) (by kernel_rfl) (fun hb51 => ?_) (fun hb51 => ?_)
                · replace hm := ite_t hb51 hm
                  refine o_run 7 [1, 41] (l := []) .nil (E' := [(1, (pg g1)), (41, vb true)]) (by kernel_rfl) ?_
                  refine o_end (by kernel_rfl) ?_
                  refine e_seq ?_
                  refine w_cond_t (.tmp 41) 830 831 (by kernel_rfl) (by kernel_rfl) ?_
                  refine w_seq 1660 1661 (by kernel_rfl) ?_
                  refine w_region (by kernel_rfl) ?_
                  refine o_run 1 [2] (l := []) .nil (E' := [(2, vb false)]) (by kernel_rfl) ?_
                  refine o_end (by kernel_rfl) ?_
                  refine e_seq ?_
                  refine w_ret (by kernel_rfl) ?_
                  obtain rfl := Option.some.inj hm
                  exact e_retP () (vb false) [1] (by kernel_rfl) (by kernel_rfl) rfl (by kernel_rfl) (by kernel_rfl) trivial
                · replace hm := ite_f hb51 hm
                  refine o_run 1 [1, 45, 54, 55] (l := []) .nil (E' := [(1, (pg g1)), (45, vb true), (54, vb false), (55, .pointer (some ⟨g1, 12, none⟩))]) (by kernel_rfl) ?_
                  refine o_val 56 (.load 29 (.tmp 55)) (.agg #[v8 a0.m.x0, v8 a0.m.x1, v8 a0.m.x2, v8 a0.m.x3, v8 a0.m.x4, v8 a0.m.x5, v8 a0.m.x6, v8 a0.m.x7, v8 a0.m.x8, v8 a0.m.x9, v8 a0.m.x10, v8 a0.m.x11]) (by kernel_rfl) (v_load (l := [v8 a0.m.x0, v8 a0.m.x1, v8 a0.m.x2, v8 a0.m.x3, v8 a0.m.x4, v8 a0.m.x5, v8 a0.m.x6, v8 a0.m.x7, v8 a0.m.x8, v8 a0.m.x9, v8 a0.m.x10, v8 a0.m.x11]) (a := ⟨g1, 12, none⟩) (by kernel_rfl) (by kernel_rfl) (at_blk (j := 0) rfl rfl)) ?_
                  refine o_run 1 [1, 45, 54, 56, 57] (l := []) .nil (E' := [(1, (pg g1)), (45, vb true), (54, vb false), (56, .agg #[v8 a0.m.x0, v8 a0.m.x1, v8 a0.m.x2, v8 a0.m.x3, v8 a0.m.x4, v8 a0.m.x5, v8 a0.m.x6, v8 a0.m.x7, v8 a0.m.x8, v8 a0.m.x9, v8 a0.m.x10, v8 a0.m.x11]), (57, .agg #[v8 0, v8 0, v8 0, v8 0, v8 0, v8 0, v8 0, v8 0, v8 0, v8 0, v8 0, v8 0])]) (by kernel_rfl) ?_
                  refine o_val 58 (.binOp .neq 29 (.tmp 56) (.tmp 57) 29) (vb (!((a0.m.x0 == 0) && ((a0.m.x1 == 0) && ((a0.m.x2 == 0) && ((a0.m.x3 == 0) && ((a0.m.x4 == 0) && ((a0.m.x5 == 0) && ((a0.m.x6 == 0) && ((a0.m.x7 == 0) && ((a0.m.x8 == 0) && ((a0.m.x9 == 0) && ((a0.m.x10 == 0) && (a0.m.x11 == 0)))))))))))))) (by kernel_rfl) (v_neS (xs := #[v8 a0.m.x0, v8 a0.m.x1, v8 a0.m.x2, v8 a0.m.x3, v8 a0.m.x4, v8 a0.m.x5, v8 a0.m.x6, v8 a0.m.x7, v8 a0.m.x8, v8 a0.m.x9, v8 a0.m.x10, v8 a0.m.x11]) (ys := #[v8 0, v8 0, v8 0, v8 0, v8 0, v8 0, v8 0, v8 0, v8 0, v8 0, v8 0, v8 0]) (b := ((a0.m.x0 == 0) && ((a0.m.x1 == 0) && ((a0.m.x2 == 0) && ((a0.m.x3 == 0) && ((a0.m.x4 == 0) && ((a0.m.x5 == 0) && ((a0.m.x6 == 0) && ((a0.m.x7 == 0) && ((a0.m.x8 == 0) && ((a0.m.x9 == 0) && ((a0.m.x10 == 0) && (a0.m.x11 == 0))))))))))))) (by kernel_rfl) (by kernel_rfl) (by kernel_rfl) (by kernel_rfl)) ?_
                  refine o_run 3 [1, 41] (l := []) .nil (E' := [(1, (pg g1)), (41, vb (!((a0.m.x0 == 0) && ((a0.m.x1 == 0) && ((a0.m.x2 == 0) && ((a0.m.x3 == 0) && ((a0.m.x4 == 0) && ((a0.m.x5 == 0) && ((a0.m.x6 == 0) && ((a0.m.x7 == 0) && ((a0.m.x8 == 0) && ((a0.m.x9 == 0) && ((a0.m.x10 == 0) && (a0.m.x11 == 0))))))))))))))]) (by kernel_rfl) ?_
                  refine o_end (by kernel_rfl) ?_
                  refine e_seq ?_
                  refine w_cond (.tmp 41) 830 831 (!((a0.m.x0 == 0) && ((a0.m.x1 == 0) && ((a0.m.x2 == 0) && ((a0.m.x3 == 0) && ((a0.m.x4 == 0) && ((a0.m.x5 == 0) && ((a0.m.x6 == 0) && ((a0.m.x7 == 0) && ((a0.m.x8 == 0) && ((a0.m.x9 == 0) && ((a0.m.x10 == 0) && (a0.m.x11 == 0))))))))))))) (by kernel_rfl) (by kernel_rfl) (fun hb52 => ?_) (fun hb52 => ?_)
                  · replace hm := ite_t hb52 hm
                    refine w_seq 1660 1661 (by kernel_rfl) ?_
                    refine w_region (by kernel_rfl) ?_
                    refine o_run 1 [2] (l := []) .nil (E' := [(2, vb false)]) (by kernel_rfl) ?_
                    refine o_end (by kernel_rfl) ?_
                    refine e_seq ?_
                    refine w_ret (by kernel_rfl) ?_
                    obtain rfl := Option.some.inj hm
                    exact e_retP () (vb false) [1] (by kernel_rfl) (by kernel_rfl) rfl (by kernel_rfl) (by kernel_rfl) trivial
                  · replace hm := ite_f hb52 hm
                    refine w_skip (by kernel_rfl) ?_
                    refine e_blk ?_
                    refine e_seq ?_
                    refine w_seq 14 15 (by kernel_rfl) ?_
                    refine w_region (by kernel_rfl) ?_
                    refine o_run 5 [1, 65] (l := [(⟨g1, 5, none⟩, .slice A1 a0.sk.length c1)]) (.one (at_blk (j := 0) rfl rfl) .nil) (E' := [(1, (pg g1)), (65, vb (decide ((a0.sk.length : Int) ≤ 4)))]) (by kernel_rfl) ?_
                    refine o_split 65 (decide ((a0.sk.length : Int) ≤ 4)) (by kernel_rfl) (fun hb53 => ?_) (fun hb53 => ?_)
                    · replace hm := ite_t hb53 hm
                      refine o_val 66 (.load 31 (.tmp 1)) (.agg #[vb a0.hM, v16 a0.ms, vb a0.hS, v8 a0.sc, vb a0.sO, .slice A1 a0.sk.length c1, vb a0.hT, v32 a0.va, v32 a0.ec, vb a0.hO, v8 a0.ki, v8 a0.ni, v8 a0.m.x0, v8 a0.m.x1, v8 a0.m.x2, v8 a0.m.x3, v8 a0.m.x4, v8 a0.m.x5, v8 a0.m.x6, v8 a0.m.x7, v8 a0.m.x8, v8 a0.m.x9, v8 a0.m.x10, v8 a0.m.x11]) (by kernel_rfl) (v_load (l := [vb a0.hM, v16 a0.ms, vb a0.hS, v8 a0.sc, vb a0.sO, .slice A1 a0.sk.length c1, vb a0.hT, v32 a0.va, v32 a0.ec, vb a0.hO, v8 a0.ki, v8 a0.ni, v8 a0.m.x0, v8 a0.m.x1, v8 a0.m.x2, v8 a0.m.x3, v8 a0.m.x4, v8 a0.m.x5, v8 a0.m.x6, v8 a0.m.x7, v8 a0.m.x8, v8 a0.m.x9, v8 a0.m.x10, v8 a0.m.x11]) (a := ⟨g1, 0, none⟩) (by kernel_rfl) (by kernel_rfl) (at_blk (j := 0) rfl rfl)) ?_
                      obtain ⟨t11, hx11, hm⟩ := bind_some hm
                      refine o_stp ?_ (by kernel_rfl)
                      refine s_call 67 53 #[.agg #[vb a0.hM, v16 a0.ms, vb a0.hS, v8 a0.sc, vb a0.sO, .slice A1 a0.sk.length c1, vb a0.hT, v32 a0.va, v32 a0.ec, vb a0.hO, v8 a0.ki, v8 a0.ni, v8 a0.m.x0, v8 a0.m.x1, v8 a0.m.x2, v8 a0.m.x3, v8 a0.m.x4, v8 a0.m.x5, v8 a0.m.x6, v8 a0.m.x7, v8 a0.m.x8, v8 a0.m.x9, v8 a0.m.x10, v8 a0.m.x11]] [1] [0] (by kernel_rfl) (by kernel_rfl) (fun w hs => opts_Size_2_ok a0 t11 hx11 B _ A1 c1 w (St.cast (by kernel_rfl) hs)) (fun _ hx => ?_)
                      refine t_L (L' := [.own A1 a0.sk.length c1 (rowOf encTB a0.sk) 2 84, .blk g1 [vb a0.hM, v16 a0.ms, vb a0.hS, v8 a0.sc, vb a0.sO, .slice A1 a0.sk.length c1, vb a0.hT, v32 a0.va, v32 a0.ec, vb a0.hO, v8 a0.ki, v8 a0.ni, v8 a0.m.x0, v8 a0.m.x1, v8 a0.m.x2, v8 a0.m.x3, v8 a0.m.x4, v8 a0.m.x5, v8 a0.m.x6, v8 a0.m.x7, v8 a0.m.x8, v8 a0.m.x9, v8 a0.m.x10, v8 a0.m.x11] 31]) (by kernel_rfl) ?_
                      refine o_run 3 [2] (l := []) .nil (E' := [(2, vb (decide (t11 ≤ 40)))]) (by kernel_rfl) ?_
                      refine o_end (by kernel_rfl) ?_
                      refine e_seq ?_
                      refine w_ret (by kernel_rfl) ?_
                      obtain rfl := Option.some.inj hm
                      exact e_retP () (vb (decide (t11 ≤ 40))) [0] (by kernel_rfl) (by kernel_rfl) rfl (by kernel_rfl) (by kernel_rfl) trivial
                    · replace hm := ite_f hb53 hm
                      refine o_run 5 [2] (l := []) .nil (E' := [(2, vb false)]) (by kernel_rfl) ?_
                      refine o_end (by kernel_rfl) ?_
                      refine e_seq ?_
                      refine w_ret (by kernel_rfl) ?_
                      obtain rfl := Option.some.inj hm
                      exact e_retP () (vb false) [1] (by kernel_rfl) (by kernel_rfl) rfl (by kernel_rfl) (by kernel_rfl) trivial
            · replace hm := ite_f hb49 hm
              refine o_run 16 [1, 41] (l := []) .nil (E' := [(1, (pg g1)), (41, vb false)]) (by kernel_rfl) ?_
              refine o_end (by kernel_rfl) ?_
              refine e_seq ?_
              refine w_cond_f (.tmp 41) 830 831 (by kernel_rfl) (by kernel_rfl) ?_
              refine w_skip (by kernel_rfl) ?_
              refine e_blk ?_
              refine e_seq ?_
              refine w_seq 14 15 (by kernel_rfl) ?_
              refine w_region (by kernel_rfl) ?_
              refine o_run 5 [1, 65] (l := [(⟨g1, 5, none⟩, .slice A1 a0.sk.length c1)]) (.one (at_blk (j := 0) rfl rfl) .nil) (E' := [(1, (pg g1)), (65, vb (decide ((a0.sk.length : Int) ≤ 4)))]) (by kernel_rfl) ?_
              refine o_split 65 (decide ((a0.sk.length : Int) ≤ 4)) (by kernel_rfl) (fun hb54 => ?_) (fun hb54 => ?_)
              · replace hm := ite_t hb54 hm
                refine o_val 66 (.load 31 (.tmp 1)) (.agg #[vb a0.hM, v16 a0.ms, vb a0.hS, v8 a0.sc, vb a0.sO, .slice A1 a0.sk.length c1, vb a0.hT, v32 a0.va, v32 a0.ec, vb a0.hO, v8 a0.ki, v8 a0.ni, v8 a0.m.x0, v8 a0.m.x1, v8 a0.m.x2, v8 a0.m.x3, v8 a0.m.x4, v8 a0.m.x5, v8 a0.m.x6, v8 a0.m.x7, v8 a0.m.x8, v8 a0.m.x9, v8 a0.m.x10, v8 a0.m.x11]) (by kernel_rfl) (v_load (l := [vb a0.hM, v16 a0.ms, vb a0.hS, v8 a0.sc, vb a0.sO, .slice A1 a0.sk.length c1, vb a0.hT, v32 a0.va, v32 a0.ec, vb a0.hO, v8 a0.ki, v8 a0.ni, v8 a0.m.x0, v8 a0.m.x1, v8 a0.m.x2, v8 a0.m.x3, v8 a0.m.x4, v8 a0.m.x5, v8 a0.m.x6, v8 a0.m.x7, v8 a0.m.x8, v8 a0.m.x9, v8 a0.m.x10, v8 a0.m.x11]) (a := ⟨g1, 0, none⟩) (by kernel_rfl) (by kernel_rfl) (at_blk (j := 0) rfl rfl)) ?_
                obtain ⟨t12, hx12, hm⟩ := bind_some hm
                refine o_stp ?_ (by kernel_rfl)
                refine s_call 67 53 #[.agg #[vb a0.hM, v16 a0.ms, vb a0.hS, v8 a0.sc, vb a0.sO, .slice A1 a0.sk.length c1, vb a0.hT, v32 a0.va, v32 a0.ec, vb a0.hO, v8 a0.ki, v8 a0.ni, v8 a0.m.x0, v8 a0.m.x1, v8 a0.m.x2, v8 a0.m.x3, v8 a0.m.x4, v8 a0.m.x5, v8 a0.m.x6, v8 a0.m.x7, v8 a0.m.x8, v8 a0.m.x9, v8 a0.m.x10, v8 a0.m.x11]] [1] [0] (by kernel_rfl) (by kernel_rfl) (fun w hs => opts_Size_2_ok a0 t12 hx12 B _ A1 c1 w (St.cast (by kernel_rfl) hs)) (fun _ hx => ?_)
                refine t_L (L' := [.own A1 a0.sk.length c1 (rowOf encTB a0.sk) 2 84, .blk g1 [vb a0.hM, v16 a0.ms, vb a0.hS, v8 a0.sc, vb a0.sO, .slice A1 a0.sk.length c1, vb a0.hT, v32 a0.va, v32 a0.ec, vb a0.hO, v8 a0.ki, v8 a0.ni, v8 a0.m.x0, v8 a0.m.x1, v8 a0.m.x2, v8 a0.m.x3, v8 a0.m.x4, v8 a0.m.x5, v8 a0.m.x6, v8 a0.m.x7, v8 a0.m.x8, v8 a0.m.x9, v8 a0.m.x10, v8 a0.m.x11] 31]) (by kernel_rfl) ?_
                refine o_run 3 [2] (l := []) .nil (E' := [(2, vb (decide (t12 ≤ 40)))]) (by kernel_rfl) ?_
                refine o_end (by kernel_rfl) ?_
                refine e_seq ?_
                refine w_ret (by kernel_rfl) ?_
                obtain rfl := Option.some.inj hm
                exact e_retP () (vb (decide (t12 ≤ 40))) [0] (by kernel_rfl) (by kernel_rfl) rfl (by kernel_rfl) (by kernel_rfl) trivial
              · replace hm := ite_f hb54 hm
                refine o_run 5 [2] (l := []) .nil (E' := [(2, vb false)]) (by kernel_rfl) ?_
                refine o_end (by kernel_rfl) ?_
                refine e_seq ?_
                refine w_ret (by kernel_rfl) ?_
                obtain rfl := Option.some.inj hm
                exact e_retP () (vb false) [1] (by kernel_rfl) (by kernel_rfl) rfl (by kernel_rfl) (by kernel_rfl) trivial
    · replace hm := ite_f hb37 hm
      refine o_run 11 [1, 3] (l := [(⟨g1, 3, none⟩, v8 a0.sc)]) (.one (at_blk (j := 0) rfl rfl) .nil) (E' := [(1, (pg g1)), (3, vb (decide (a0.sc > 14)))]) (by kernel_rfl) ?_
      refine o_end (by kernel_rfl) ?_
      refine e_seq ?_
      refine w_cond (.tmp 3) 50 51 (decide (a0.sc > 14)) (by kernel_rfl) (by kernel_rfl) (fun hb55 => ?_) (fun hb55 => ?_)
      · replace hm := ite_t hb55 hm
        refine w_seq 100 101 (by kernel_rfl) ?_
        refine w_region (by kernel_rfl) ?_
        refine o_run 1 [2] (l := []) .nil (E' := [(2, vb false)]) (by kernel_rfl) ?_
        refine o_end (by kernel_rfl) ?_
        refine e_seq ?_
        refine w_ret (by kernel_rfl) ?_
        obtain rfl := Option.some.inj hm
        exact e_retP () (vb false) [1] (by kernel_rfl) (by kernel_rfl) rfl (by kernel_rfl) (by kernel_rfl) trivial
      · replace hm := ite_f hb55 hm
        refine w_seq 102 103 (by kernel_rfl) ?_
        refine w_region (by kernel_rfl) ?_
        refine o_run 4 [1, 31] (l := [(⟨g1, 6, none⟩, vb a0.hT)]) (.one (at_blk (j := 0) rfl rfl) .nil) (E' := [(1, (pg g1)), (31, vb (!a0.hT))]) (by kernel_rfl) ?_
        refine o_split 31 (!a0.hT) (by kernel_rfl) (fun hb56 => ?_) (fun hb56 => ?_)
        · replace hm := ite_t hb56 hm
          refine o_run 4 [1, 31, 35] (l := [(⟨g1, 7, none⟩, v32 a0.va)]) (.one (at_blk (j := 0) rfl rfl) .nil) (E' := [(1, (pg g1)), (31, vb true), (35, vb (a0.va != 0))]) (by kernel_rfl) ?_
          refine o_split 35 (a0.va != 0) (by kernel_rfl) (fun hb57 => ?_) (fun hb57 => ?_)
          · replace hm := ite_t hb57 hm
            refine o_run 6 [1, 27] (l := []) .nil (E' := [(1, (pg g1)), (27, vb true)]) (by kernel_rfl) ?_
            refine o_end (by kernel_rfl) ?_
            refine e_seq ?_
            refine w_cond_t (.tmp 27) 206 207 (by kernel_rfl) (by kernel_rfl) ?_
            refine w_seq 412 413 (by kernel_rfl) ?_
            refine w_region (by kernel_rfl) ?_
            refine o_run 1 [2] (l := []) .nil (E' := [(2, vb false)]) (by kernel_rfl) ?_
            refine o_end (by kernel_rfl) ?_
            refine e_seq ?_
            refine w_ret (by kernel_rfl) ?_
            obtain rfl := Option.some.inj hm
            exact e_retP () (vb false) [1] (by kernel_rfl) (by kernel_rfl) rfl (by kernel_rfl) (by kernel_rfl) trivial
          · replace hm := ite_f hb57 hm
            refine o_run 6 [1, 27] (l := [(⟨g1, 8, none⟩, v32 a0.ec)]) (.one (at_blk (j := 0) rfl rfl) .nil) (E' := [(1, (pg g1)), (27, vb (a0.ec != 0))]) (by kernel_rfl) ?_
            refine o_end (by kernel_rfl) ?_
            refine e_seq ?_
            refine w_cond (.tmp 27) 206 207 (a0.ec != 0) (by kernel_rfl) (by kernel_rfl) (fun hb58 => ?_) (fun hb58 => ?_)
            · replace hm := ite_t hb58 hm
              refine w_seq 412 413 (by kernel_rfl) ?_
              refine w_region (by kernel_rfl) ?_
              refine o_run 1 [2] (l := []) .nil (E' := [(2, vb false)]) (by kernel_rfl) ?_
              refine o_end (by kernel_rfl) ?_
              refine e_seq ?_
              refine w_ret (by kernel_rfl) ?_
              obtain rfl := Option.some.inj hm
              exact e_retP () (vb false) [1] (by kernel_rfl) (by kernel_rfl) rfl (by kernel_rfl) (by kernel_rfl) trivial
            · replace hm := ite_f hb58 hm
              refine w_seq 414 415 (by kernel_rfl) ?_
              refine w_region (by kernel_rfl) ?_
              refine o_run 4 [1, 45] (l := [(⟨g1, 9, none⟩, vb a0.hO)]) (.one (at_blk (j := 0) rfl rfl) .nil) (E' := [(1, (pg g1)), (45, vb (!a0.hO))]) (by kernel_rfl) ?_
              refine o_split 45 (!a0.hO) (by kernel_rfl) (fun hb59 => ?_) (fun hb59 => ?_)
              · replace hm := ite_t hb59 hm
                refine o_run 4 [1, 45, 49] (l := [(⟨g1, 10, none⟩, v8 a0.ki)]) (.one (at_blk (j := 0) rfl rfl) .nil) (E' := [(1, (pg g1)), (45, vb true), (49, vb (a0.ki != 0))]) (by kernel_rfl) ?_
                refine o_split 49 (a0.ki != 0) (by kernel_rfl) (fun hb60 => ?_) (fun hb60 => ?_)
                · replace hm := ite_t hb60 hm
                  refine o_run 12 [1, 41] (l := []) .nil (E' := [(1, (pg g1)), (41, vb true)]) (by kernel_rfl) ?_
                  refine o_end (by kernel_rfl) ?_
                  refine e_seq ?_
                  refine w_cond_t (.tmp 41) 830 831 (by kernel_rfl) (by kernel_rfl) ?_
                  refine w_seq 1660 1661 (by kernel_rfl) ?_
                  refine w_region (by kernel_rfl) ?_
                  refine o_run 1 [2] (l := []) .nil (E' := [(2, vb false)]) (by kernel_rfl) ?_
                  refine o_end (by kernel_rfl) ?_
                  refine e_seq ?_
                  refine w_ret (by kernel_rfl) ?_
                  obtain rfl := Option.some.inj hm
                  exact e_retP () (vb false) [1] (by kernel_rfl) (by kernel_rfl) rfl (by kernel_rfl) (by kernel_rfl) trivial
                · replace hm := ite_f hb60 hm
                  refine o_run 5 [1, 45, 54] (l := [(⟨g1, 11, none⟩, v8 a0.ni)]) (.one (at_blk (j := 0) rfl rfl) .nil) (E' := [(1, (pg g1)), (45, vb true), (54, vb (a0.ni != 0))]) (by kernel_rfl) ?_
                  refine o_split 54 (a0.ni != 0) (by kernel_rfl) (fun hb61 => ?_) (fun hb61 => ?_)
                  · replace hm := ite_t hb61 hm
                    refine o_run 7 [1, 41] (l := []) .nil (E' := [(1, (pg g1)), (41, vb true)]) (by kernel_rfl) ?_
                    refine o_end (by kernel_rfl) ?_
                    refine e_seq ?_
                    refine w_cond_t (.tmp 41) 830 831 (by kernel_rfl) (by kernel_rfl) ?_
                    refine w_seq 1660 1661 (by kernel_rfl) ?_
                    refine w_region (by kernel_rfl) ?_
                    refine o_run 1 [2] (l := []) .nil (E' := [(2, vb false)]) (by kernel_rfl) ?_
                    refine o_end (by kernel_rfl) ?_
                    refine e_seq ?_
                    refine w_ret (by kernel_rfl) ?_
                    obtain rfl := Option.some.inj hm
                    exact e_retP () (vb false) [1] (by kernel_rfl) (by kernel_rfl) rfl (by kernel_rfl) (by kernel_rfl) trivial
                  · replace hm := ite_f hb61 hm
                    refine o_run 1 [1, 45, 54, 55] (l := []) .nil (E' := [(1, (pg g1)), (45, vb true), (54, vb false), (55, .pointer (some ⟨g1, 12, none⟩))]) (by kernel_rfl) ?_
                    refine o_val 56 (.load 29 (.tmp 55)) (.agg #[v8 a0.m.x0, v8 a0.m.x1, v8 a0.m.x2, v8 a0.m.x3, v8 a0.m.x4, v8 a0.m.x5, v8 a0.m.x6, v8 a0.m.x7, v8 a0.m.x8, v8 a0.m.x9, v8 a0.m.x10, v8 a0.m.x11]) (by kernel_rfl) (v_load (l := [v8 a0.m.x0, v8 a0.m.x1, v8 a0.m.x2, v8 a0.m.x3, v8 a0.m.x4, v8 a0.m.x5, v8 a0.m.x6, v8 a0.m.x7, v8 a0.m.x8, v8 a0.m.x9, v8 a0.m.x10, v8 a0.m.x11]) (a := ⟨g1, 12, none⟩) (by kernel_rfl) (by kernel_rfl) (at_blk (j := 0) rfl rfl)) ?_
                    refine o_run 1 [1, 45, 54, 56, 57] (l := []) .nil (E' := [(1, (pg g1)), (45, vb true), (54, vb false), (56, .agg #[v8 a0.m.x0, v8 a0.m.x1, v8 a0.m.x2, v8 a0.m.x3, v8 a0.m.x4, v8 a0.m.x5, v8 a0.m.x6, v8 a0.m.x7, v8 a0.m.x8, v8 a0.m.x9, v8 a0.m.x10, v8 a0.m.x11]), (57, .agg #[v8 0, v8 0, v8 0, v8 0, v8 0, v8 0, v8 0, v8 0, v8 0, v8 0, v8 0, v8 0])]) (by kernel_rfl) ?_
                    refine o_val 58 (.binOp .neq 29 (.tmp 56) (.tmp 57) 29) (vb (!((a0.m.x0 == 0) && ((a0.m.x1 == 0) && ((a0.m.x2 == 0) && ((a0.m.x3 == 0) && ((a0.m.x4 == 0) && ((a0.m.x5 == 0) && ((a0.m.x6 == 0) && ((a0.m.x7 == 0) && ((a0.m.x8 == 0) && ((a0.m.x9 == 0) && ((a0.m.x10 == 0) && (a0.m.x11 == 0)))))))))))))) (by kernel_rfl) (v_neS (xs := #[v8 a0.m.x0, v8 a0.m.x1, v8 a0.m.x2, v8 a0.m.x3, v8 a0.m.x4, v8 a0.m.x5, v8 a0.m.x6, v8 a0.m.x7, v8 a0.m.x8, v8 a0.m.x9, v8 a0.m.x10, v8 a0.m.x11]) (ys := #[v8 0, v8 0, v8 0, v8 0, v8 0, v8 0, v8 0, v8 0, v8 0, v8 0, v8 0, v8 0]) (b := ((a0.m.x0 == 0) && ((a0.m.x1 == 0) && ((a0.m.x2 == 0) && ((a0.m.x3 == 0) && ((a0.m.x4 == 0) && ((a0.m.x5 == 0) && ((a0.m.x6 == 0) && ((a0.m.x7 == 0) && ((a0.m.x8 == 0) && ((a0.m.x9 == 0) && ((a0.m.x10 == 0) && (a0.m.x11 == 0))))))))))))) (by kernel_rfl) (by kernel_rfl) (by kernel_rfl) (by kernel_rfl)) ?_
                    refine o_run 3 [1, 41] (l := []) .nil (E' := [(1, (pg g1)), (41, vb (!((a0.m.x0 == 0) && ((a0.m.x1 == 0) && ((a0.m.x2 == 0) && ((a0.m.x3 == 0) && ((a0.m.x4 == 0) && ((a0.m.x5 == 0) && ((a0.m.x6 == 0) && ((a0.m.x7 == 0) && ((a0.m.x8 == 0) && ((a0.m.x9 == 0) && ((a0.m.x10 == 0) && (a0.m.x11 == 0))))))))))))))]) (by kernel_rfl) ?_
                    refine o_end (by kernel_rfl) ?_
                    refine e_seq ?_
                    refine w_cond (.tmp 41) 830 831 (!((a0.m.x0 == 0) && ((a0.m.x1 == 0) && ((a0.m.x2 == 0) && ((a0.m.x3 == 0) && ((a0.m.x4 == 0) && ((a0.m.x5 == 0) && ((a0.m.x6 == 0) && ((a0.m.x7 == 0) && ((a0.m.x8 == 0) && ((a0.m.x9 == 0) && ((a0.m.x10 == 0) && (a0.m.x11 == 0))))))))))))) (by kernel_rfl) (by kernel_rfl) (fun hb62 => ?_) (fun hb62 => ?_)
                    · replace hm := ite_t hb62 hm
                      refine w_seq 1660 1661 (by kernel_rfl) ?_
                      refine w_region (by kernel_rfl) ?_
                      refine o_run 1 [2] (l := []) .nil (E' := [(2, vb false)]) (by kernel_rfl) ?_
                      refine o_end (by kernel_rfl) ?_
                      refine e_seq ?_
                      refine w_ret (by kernel_rfl) ?_
                      obtain rfl := Option.some.inj hm
                      exact e_retP () (vb false) [1] (by kernel_rfl) (by kernel_rfl) rfl (by kernel_rfl) (by kernel_rfl) trivial
                    · replace hm := ite_f hb62 hm
                      refine w_skip (by kernel_rfl) ?_
                      refine e_blk ?_
                      refine e_seq ?_
                      refine w_seq 14 15 (by kernel_rfl) ?_
                      refine w_region (by kernel_rfl) ?_
                      refine o_run 5 [1, 65] (l := [(⟨g1, 5, none⟩, .slice A1 a0.sk.length c1)]) (.one (at_blk (j := 0) rfl rfl) .nil) (E' := [(1, (pg g1)), (65, vb (decide ((a0.sk.length : Int) ≤ 4)))]) (by kernel_rfl) ?_
                      refine o_split 65 (decide ((a0.sk.length : Int) ≤ 4)) (by kernel_rfl) (fun hb63 => ?_) (fun hb63 => ?_)
                      · replace hm := ite_t hb63 hm
                        refine o_val 66 (.load 31 (.tmp 1)) (.agg #[vb a0.hM, v16 a0.ms, vb a0.hS, v8 a0.sc, vb a0.sO, .slice A1 a0.sk.length c1, vb a0.hT, v32 a0.va, v32 a0.ec, vb a0.hO, v8 a0.ki, v8 a0.ni, v8 a0.m.x0, v8 a0.m.x1, v8 a0.m.x2, v8 a0.m.x3, v8 a0.m.x4, v8 a0.m.x5, v8 a0.m.x6, v8 a0.m.x7, v8 a0.m.x8, v8 a0.m.x9, v8 a0.m.x10, v8 a0.m.x11]) (by kernel_rfl) (v_load (l := [vb a0.hM, v16 a0.ms, vb a0.hS, v8 a0.sc, vb a0.sO, .slice A1 a0.sk.length c1, vb a0.hT, v32 a0.va, v32 a0.ec, vb a0.hO, v8 a0.ki, v8 a0.ni, v8 a0.m.x0, v8 a0.m.x1, v8 a0.m.x2, v8 a0.m.x3, v8 a0.m.x4, v8 a0.m.x5, v8 a0.m.x6, v8 a0.m.x7, v8 a0.m.x8, v8 a0.m.x9, v8 a0.m.x10, v8 a0.m.x11]) (a := ⟨g1, 0, none⟩) (by kernel_rfl) (by kernel_rfl) (at_blk (j := 0) rfl rfl)) ?_
                        obtain ⟨t13, hx13, hm⟩ := bind_some hm
                        refine o_stp ?_ (by kernel_rfl)
                        refine s_call 67 53 #[.agg #[vb a0.hM, v16 a0.ms, vb a0.hS, v8 a0.sc, vb a0.sO, .slice A1 a0.sk.length c1, vb a0.hT, v32 a0.va, v32 a0.ec, vb a0.hO, v8 a0.ki, v8 a0.ni, v8 a0.m.x0, v8 a0.m.x1, v8 a0.m.x2, v8 a0.m.x3, v8 a0.m.x4, v8 a0.m.x5, v8 a0.m.x6, v8 a0.m.x7, v8 a0.m.x8, v8 a0.m.x9, v8 a0.m.x10, v8 a0.m.x11]] [1] [0] (by kernel_rfl) (by kernel_rfl) (fun w hs => opts_Size_2_ok a0 t13 hx13 B _ A1 c1 w (St.cast (by kernel_rfl) hs)) (fun _ hx => ?_)
                        refine t_L (L' := [.own A1 a0.sk.length c1 (rowOf encTB a0.sk) 2 84, .blk g1 [vb a0.hM, v16 a0.ms, vb a0.hS, v8 a0.sc, vb a0.sO, .slice A1 a0.sk.length c1, vb a0.hT, v32 a0.va, v32 a0.ec, vb a0.hO, v8 a0.ki, v8 a0.ni, v8 a0.m.x0, v8 a0.m.x1, v8 a0.m.x2, v8 a0.m.x3, v8 a0.m.x4, v8 a0.m.x5, v8 a0.m.x6, v8 a0.m.x7, v8 a0.m.x8, v8 a0.m.x9, v8 a0.m.x10, v8 a0.m.x11] 31]) (by kernel_rfl) ?_
                        refine o_run 3 [2] (l := []) .nil (E' := [(2, vb (decide (t13 ≤ 40)))]) (by kernel_rfl) ?_
                        refine o_end (by kernel_rfl) ?_
                        refine e_seq ?_
                        refine w_ret (by kernel_rfl) ?_
                        obtain rfl := Option.some.inj hm
                        exact e_retP () (vb (decide (t13 ≤ 40))) [0] (by kernel_rfl) (by kernel_rfl) rfl (by kernel_rfl) (by kernel_rfl) trivial
                      · replace hm := ite_f hb63 hm
                        refine o_run 5 [2] (l := []) .nil (E' := [(2, vb false)]) (by kernel_rfl) ?_
                        refine o_end (by kernel_rfl) ?_
                        refine e_seq ?_
                        refine w_ret (by kernel_rfl) ?_
                        obtain rfl := Option.some.inj hm
                        exact e_retP () (vb false) [1] (by kernel_rfl) (by kernel_rfl) rfl (by kernel_rfl) (by kernel_rfl) trivial
              · replace hm := ite_f hb59 hm
                refine o_run 16 [1, 41] (l := []) .nil (E' := [(1, (pg g1)), (41, vb false)]) (by kernel_rfl) ?_
                refine o_end (by kernel_rfl) ?_
                refine e_seq ?_
                refine w_cond_f (.tmp 41) 830 831 (by kernel_rfl) (by kernel_rfl) ?_
                refine w_skip (by kernel_rfl) ?_
                refine e_blk ?_
                refine e_seq ?_
                refine w_seq 14 15 (by kernel_rfl) ?_
                refine w_region (by kernel_rfl) ?_
                refine o_run 5 [1, 65] (l := [(⟨g1, 5, none⟩, .slice A1 a0.sk.length c1)]) (.one (at_blk (j := 0) rfl rfl) .nil) (E' := [(1, (pg g1)), (65, vb (decide ((a0.sk.length : Int) ≤ 4)))]) (by kernel_rfl) ?_
                refine o_split 65 (decide ((a0.sk.length : Int) ≤ 4)) (by kernel_rfl) (fun hb64 => ?_) (fun hb64 => ?_)
                · replace hm := ite_t hb64 hm
                  refine o_val 66 (.load 31 (.tmp 1)) (.agg #[vb a0.hM, v16 a0.ms, vb a0.hS, v8 a0.sc, vb a0.sO, .slice A1 a0.sk.length c1, vb a0.hT, v32 a0.va, v32 a0.ec, vb a0.hO, v8 a0.ki, v8 a0.ni, v8 a0.m.x0, v8 a0.m.x1, v8 a0.m.x2, v8 a0.m.x3, v8 a0.m.x4, v8 a0.m.x5, v8 a0.m.x6, v8 a0.m.x7, v8 a0.m.x8, v8 a0.m.x9, v8 a0.m.x10, v8 a0.m.x11]) (by kernel_rfl) (v_load (l := [vb a0.hM, v16 a0.ms, vb a0.hS, v8 a0.sc, vb a0.sO, .slice A1 a0.sk.length c1, vb a0.hT, v32 a0.va, v32 a0.ec, vb a0.hO, v8 a0.ki, v8 a0.ni, v8 a0.m.x0, v8 a0.m.x1, v8 a0.m.x2, v8 a0.m.x3, v8 a0.m.x4, v8 a0.m.x5, v8 a0.m.x6, v8 a0.m.x7, v8 a0.m.x8, v8 a0.m.x9, v8 a0.m.x10, v8 a0.m.x11]) (a := ⟨g1, 0, none⟩) (by kernel_rfl) (by kernel_rfl) (at_blk (j := 0) rfl rfl)) ?_
                  obtain ⟨t14, hx14, hm⟩ := bind_some hm
                  refine o_stp ?_ (by kernel_rfl)
                  refine s_call 67 53 #[.agg #[vb a0.hM, v16 a0.ms, vb a0.hS, v8 a0.sc, vb a0.sO, .slice A1 a0.sk.length c1, vb a0.hT, v32 a0.va, v32 a0.ec, vb a0.hO, v8 a0.ki, v8 a0.ni, v8 a0.m.x0, v8 a0.m.x1, v8 a0.m.x2, v8 a0.m.x3, v8 a0.m.x4, v8 a0.m.x5, v8 a0.m.x6, v8 a0.m.x7, v8 a0.m.x8, v8 a0.m.x9, v8 a0.m.x10, v8 a0.m.x11]] [1] [0] (by kernel_rfl) (by kernel_rfl) (fun w hs => opts_Size_2_ok a0 t14 hx14 B _ A1 c1 w (St.cast (by kernel_rfl) hs)) (fun _ hx => ?_)
                  refine t_L (L' := [.own A1 a0.sk.length c1 (rowOf encTB a0.sk) 2 84, .blk g1 [vb a0.hM, v16 a0.ms, vb a0.hS, v8 a0.sc, vb a0.sO, .slice A1 a0.sk.length c1, vb a0.hT, v32 a0.va, v32 a0.ec, vb a0.hO, v8 a0.ki, v8 a0.ni, v8 a0.m.x0, v8 a0.m.x1, v8 a0.m.x2, v8 a0.m.x3, v8 a0.m.x4, v8 a0.m.x5, v8 a0.m.x6, v8 a0.m.x7, v8 a0.m.x8, v8 a0.m.x9, v8 a0.m.x10, v8 a0.m.x11] 31]) (by kernel_rfl) ?_
                  refine o_run 3 [2] (l := []) .nil (E' := [(2, vb (decide (t14 ≤ 40)))]) (by kernel_rfl) ?_
                  refine o_end (by kernel_rfl) ?_
                  refine e_seq ?_
                  refine w_ret (by kernel_rfl) ?_
                  obtain rfl := Option.some.inj hm
                  exact e_retP () (vb (decide (t14 ≤ 40))) [0] (by kernel_rfl) (by kernel_rfl) rfl (by kernel_rfl) (by kernel_rfl) trivial
                · replace hm := ite_f hb64 hm
                  refine o_run 5 [2] (l := []) .nil (E' := [(2, vb false)]) (by kernel_rfl) ?_
                  refine o_end (by kernel_rfl) ?_
                  refine e_seq ?_
                  refine w_ret (by kernel_rfl) ?_
                  obtain rfl := Option.some.inj hm
                  exact e_retP () (vb false) [1] (by kernel_rfl) (by kernel_rfl) rfl (by kernel_rfl) (by kernel_rfl) trivial
        · replace hm := ite_f hb56 hm
          refine o_run 10 [1, 27] (l := []) .nil (E' := [(1, (pg g1)), (27, vb false)]) (by kernel_rfl) ?_
          refine o_end (by kernel_rfl) ?_
          refine e_seq ?_
          refine w_cond_f (.tmp 27) 206 207 (by kernel_rfl) (by kernel_rfl) ?_
          refine w_seq 414 415 (by kernel_rfl) ?_
          refine w_region (by kernel_rfl) ?_
          refine o_run 4 [1, 45] (l := [(⟨g1, 9, none⟩, vb a0.hO)]) (.one (at_blk (j := 0) rfl rfl) .nil) (E' := [(1, (pg g1)), (45, vb (!a0.hO))]) (by kernel_rfl) ?_
          refine o_split 45 (!a0.hO) (by kernel_rfl) (fun hb65 => ?_) (fun hb65 => ?_)
          · replace hm := ite_t hb65 hm
            refine o_run 4 [1, 45, 49] (l := [(⟨g1, 10, none⟩, v8 a0.ki)]) (.one (at_blk (j := 0) rfl rfl) .nil) (E' := [(1, (pg g1)), (45, vb true), (49, vb (a0.ki != 0))]) (by kernel_rfl) ?_
            refine o_split 49 (a0.ki != 0) (by kernel_rfl) (fun hb66 => ?_) (fun hb66 => ?_)
            · replace hm := ite_t hb66 hm
              refine o_run 12 [1, 41] (l := []) .nil (E' := [(1, (pg g1)), (41, vb true)]) (by kernel_rfl) ?_
              refine o_end (by kernel_rfl) ?_
              refine e_seq ?_
              refine w_cond_t (.tmp 41) 830 831 (by kernel_rfl) (by kernel_rfl) ?_
              refine w_seq 1660 1661 (by kernel_rfl) ?_
              refine w_region (by kernel_rfl) ?_
              refine o_run 1 [2] (l := []) .nil (E' := [(2, vb false)]) (by kernel_rfl) ?_
              refine o_end (by kernel_rfl) ?_
              refine e_seq ?_
              refine w_ret (by kernel_rfl) ?_
              obtain rfl := Option.some.inj hm
              exact e_retP () (vb false) [1] (by kernel_rfl) (by kernel_rfl) rfl (by kernel_rfl) (by kernel_rfl) trivial
            · replace hm := ite_f hb66 hm
              refine o_run 5 [1, 45, 54] (l := [(⟨g1, 11, none⟩, v8 a0.ni)]) (.one (at_blk (j := 0) rfl rfl) .nil) (E' := [(1, (pg g1)), (45, vb true), (54, vb (a0.ni != 0))]) (by kernel_rfl) ?_
              refine o_split 54 (a0.ni != 0) (by kernel_rfl) (fun hb67 => ?_) (fun hb67 => ?_)
              · replace hm := ite_t hb67 hm
                refine o_run 7 [1, 41] (l := []) .nil (E' := [(1, (pg g1)), (41, vb true)]) (by kernel_rfl) ?_
                refine o_end (by kernel_rfl) ?_
                refine e_seq ?_
                refine w_cond_t (.tmp 41) 830 831 (by kernel_rfl) (by kernel_rfl) ?_
                refine w_seq 1660 1661 (by kernel_rfl) ?_
                refine w_region (by kernel_rfl) ?_
                refine o_run 1 [2] (l := []) .nil (E' := [(2, vb false)]) (by kernel_rfl) ?_
                refine o_end (by kernel_rfl) ?_
                refine e_seq ?_
                refine w_ret (by kernel_rfl) ?_
                obtain rfl := Option.some.inj hm
                exact e_retP () (vb false) [1] (by kernel_rfl) (by kernel_rfl) rfl (by kernel_rfl) (by kernel_rfl) trivial
              · replace hm := ite_f hb67 hm
                refine o_run 1 [1, 45, 54, 55] (l := []) .nil (E' := [(1, (pg g1)), (45, vb true), (54, vb false), (55, .pointer (some ⟨g1, 12, none⟩))]) (by kernel_rfl) ?_
                refine o_val 56 (.load 29 (.tmp 55)) (.agg #[v8 a0.m.x0, v8 a0.m.x1, v8 a0.m.x2, v8 a0.m.x3, v8 a0.m.x4, v8 a0.m.x5, v8 a0.m.x6, v8 a0.m.x7, v8 a0.m.x8, v8 a0.m.x9, v8 a0.m.x10, v8 a0.m.x11]) (by kernel_rfl) (v_load (l := [v8 a0.m.x0, v8 a0.m.x1, v8 a0.m.x2, v8 a0.m.x3, v8 a0.m.x4, v8 a0.m.x5, v8 a0.m.x6, v8 a0.m.x7, v8 a0.m.x8, v8 a0.m.x9, v8 a0.m.x10, v8 a0.m.x11]) (a := ⟨g1, 12, none⟩) (by kernel_rfl) (by kernel_rfl) (at_blk (j := 0) rfl rfl)) ?_
                refine o_run 1 [1, 45, 54, 56, 57] (l := []) .nil (E' := [(1, (pg g1)), (45, vb true), (54, vb false), (56, .agg #[v8 a0.m.x0, v8 a0.m.x1, v8 a0.m.x2, v8 a0.m.x3, v8 a0.m.x4, v8 a0.m.x5, v8 a0.m.x6, v8 a0.m.x7, v8 a0.m.x8, v8 a0.m.x9, v8 a0.m.x10, v8 a0.m.x11]), (57, .agg #[v8 0, v8 0, v8 0, v8 0, v8 0, v8 0, v8 0, v8 0, v8 0, v8 0, v8 0, v8 0])]) (by kernel_rfl) ?_
                refine o_val 58 (.binOp .neq 29 (.tmp 56) (.tmp 57) 29) (vb (!((a0.m.x0 == 0) && ((a0.m.x1 == 0) && ((a0.m.x2 == 0) && ((a0.m.x3 == 0) && ((a0.m.x4 == 0) && ((a0.m.x5 == 0) && ((a0.m.x6 == 0) && ((a0.m.x7 == 0) && ((a0.m.x8 == 0) && ((a0.m.x9 == 0) && ((a0.m.x10 == 0) && (a0.m.x11 == 0)))))))))))))) (by kernel_rfl) (v_neS (xs := #[v8 a0.m.x0, v8 a0.m.x1, v8 a0.m.x2, v8 a0.m.x3, v8 a0.m.x4, v8 a0.m.x5, v8 a0.m.x6, v8 a0.m.x7, v8 a0.m.x8, v8 a0.m.x9, v8 a0.m.x10, v8 a0.m.x11]) (ys := #[v8 0, v8 0, v8 0, v8 0, v8 0, v8 0, v8 0, v8 0, v8 0, v8 0, v8 0, v8 0]) (b := ((a0.m.x0 == 0) && ((a0.m.x1 == 0) && ((a0.m.x2 == 0) && ((a0.m.x3 == 0) && ((a0.m.x4 == 0) && ((a0.m.x5 == 0) && ((a0.m.x6 == 0) && ((a0.m.x7 == 0) && ((a0.m.x8 == 0) && ((a0.m.x9 == 0) && ((a0.m.x10 == 0) && (a0.m.x11 == 0))))))))))))) (by kernel_rfl) (by kernel_rfl) (by kernel_rfl) (by kernel_rfl)) ?_
                refine o_run 3 [1, 41] (l := []) .nil (E' := [(1, (pg g1)), (41, vb (!((a0.m.x0 == 0) && ((a0.m.x1 == 0) && ((a0.m.x2 == 0) && ((a0.m.x3 == 0) && ((a0.m.x4 == 0) && ((a0.m.x5 == 0) && ((a0.m.x6 == 0) && ((a0.m.x7 == 0) && ((a0.m.x8 == 0) && ((a0.m.x9 == 0) && ((a0.m.x10 == 0) && (a0.m.x11 == 0))))))))))))))]) (by kernel_rfl) ?_
                refine o_end (by kernel_rfl) ?_
                refine e_seq ?_
                refine w_cond (.tmp 41) 830 831 (!((a0.m.x0 == 0) && ((a0.m.x1 == 0) && ((a0.m.x2 == 0) && ((a0.m.x3 == 0) && ((a0.m.x4 == 0) && ((a0.m.x5 == 0) && ((a0.m.x6 == 0) && ((a0.m.x7 == 0) && ((a0.m.x8 == 0) && ((a0.m.x9 == 0) && ((a0.m.x10 == 0) && (a0.m.x11 == 0))))))))))))) (by kernel_rfl) (by kernel_rfl) (fun hb68 => ?_) (fun hb68 => ?_)
                · replace hm := ite_t hb68 hm
                  refine w_seq 1660 1661 (by kernel_rfl) ?_
                  refine w_region (by kernel_rfl) ?_
                  refine o_run 1 [2] (l := []) .nil (E' := [(2, vb false)]) (by kernel_rfl) ?_
                  refine o_end (by kernel_rfl) ?_
                  refine e_seq ?_
                  refine w_ret (by kernel_rfl) ?_
                  obtain rfl := Option.some.inj hm
                  exact e_retP () (vb false) [1] (by kernel_rfl) (by kernel_rfl) rfl (by kernel_rfl) (by kernel_rfl) trivial
                · replace hm := ite_f hb68 hm
                  refine w_skip (by kernel_rfl) ?_
                  refine e_blk ?_
                  refine e_seq ?_
                  refine w_seq 14 15 (by kernel_rfl) ?_
                  refine w_region (by kernel_rfl) ?_
                  refine o_run 5 [1, 65] (l := [(⟨g1, 5, none⟩, .slice A1 a0.sk.length c1)]) (.one (at_blk (j := 0) rfl rfl) .nil) (E' := [(1, (pg g1)), (65, vb (decide ((a0.sk.length : Int) ≤ 4)))]) (by kernel_rfl) ?_
                  refine o_split 65 (decide ((a0.sk.length : Int) ≤ 4)) (by kernel_rfl) (fun hb69 => ?_) (fun hb69 => ?_)
                  · replace hm := ite_t hb69 hm
                    refine o_val 66 (.load 31 (.tmp 1)) (.agg #[vb a0.hM, v16 a0.ms, vb a0.hS, v8 a0.sc, vb a0.sO, .slice A1 a0.sk.length c1, vb a0.hT, v32 a0.va, v32 a0.ec, vb a0.hO, v8 a0.ki, v8 a0.ni, v8 a0.m.x0, v8 a0.m.x1, v8 a0.m.x2, v8 a0.m.x3, v8 a0.m.x4, v8 a0.m.x5, v8 a0.m.x6, v8 a0.m.x7, v8 a0.m.x8, v8 a0.m.x9, v8 a0.m.x10, v8 a0.m.x11]) (by kernel_rfl) (v_load (l := [vb a0.hM, v16 a0.ms, vb a0.hS, v8 a0.sc, vb a0.sO, .slice A1 a0.sk.length c1, vb a0.hT, v32 a0.va, v32 a0.ec, vb a0.hO, v8 a0.ki, v8 a0.ni, v8 a0.m.x0, v8 a0.m.x1, v8 a0.m.x2, v8 a0.m.x3, v8 a0.m.x4, v8 a0.m.x5, v8 a0.m.x6, v8 a0.m.x7, v8 a0.m.x8, v8 a0.m.x9, v8 a0.m.x10, v8 a0.m.x11]) (a := ⟨g1, 0, none⟩) (by kernel_rfl) (by kernel_rfl) (at_blk (j := 0) rfl rfl)) ?_
                    obtain ⟨t15, hx15, hm⟩ := bind_some hm
                    refine o_stp ?_ (by kernel_rfl)
                    refine s_call 67 53 #[.agg #[vb a0.hM, v16 a0.ms, vb a0.hS, v8 a0.sc, vb a0.sO, .slice A1 a0.sk.length c1, vb a0.hT, v32 a0.va, v32 a0.ec, vb a0.hO, v8 a0.ki, v8 a0.ni, v8 a0.m.x0, v8 a0.m.x1, v8 a0.m.x2, v8 a0.m.x3, v8 a0.m.x4, v8 a0.m.x5, v8 a0.m.x6, v8 a0.m.x7, v8 a0.m.x8, v8 a0.m.x9, v8 a0.m.x10, v8 a0.m.x11]] [1] [0] (by kernel_rfl) (by kernel_rfl) (fun w hs => opts_Size_2_ok a0 t15 hx15 B _ A1 c1 w (St.cast (by kernel_rfl) hs)) (fun _ hx => ?_)
                    refine t_L (L' := [.own A1 a0.sk.length c1 (rowOf encTB a0.sk) 2 84, .blk g1 [vb a0.hM, v16 a0.ms, vb a0.hS, v8 a0.sc, vb a0.sO, .slice A1 a0.sk.length c1, vb a0.hT, v32 a0.va, v32 a0.ec, vb a0.hO, v8 a0.ki, v8 a0.ni, v8 a0.m.x0, v8 a0.m.x1, v8 a0.m.x2, v8 a0.m.x3, v8 a0.m.x4, v8 a0.m.x5, v8 a0.m.x6, v8 a0.m.x7, v8 a0.m.x8, v8 a0.m.x9, v8 a0.m.x10, v8 a0.m.x11] 31]) (by kernel_rfl) ?_
                    refine o_run 3 [2] (l := []) .nil (E' := [(2, vb (decide (t15 ≤ 40)))]) (by kernel_rfl) ?_
                    refine o_end (by kernel_rfl) ?_
                    refine e_seq ?_
                    refine w_ret (by kernel_rfl) ?_
                    obtain rfl := Option.some.inj hm
                    exact e_retP () (vb (decide (t15 ≤ 40))) [0] (by kernel_rfl) (by kernel_rfl) rfl (by kernel_rfl) (by kernel_rfl) trivial
                  · replace hm := ite_f hb69 hm
                    refine o_run 5 [2] (l := []) .nil (E' := [(2, vb false)]) (by kernel_rfl) ?_
                    refine o_end (by kernel_rfl) ?_
                    refine e_seq ?_
                    refine w_ret (by kernel_rfl) ?_
                    obtain rfl := Option.some.inj hm
                    exact e_retP () (vb false) [1] (by kernel_rfl) (by kernel_rfl) rfl (by kernel_rfl) (by kernel_rfl) trivial
          · replace hm := ite_f hb65 hm
            refine o_run 16 [1, 41] (l := []) .nil (E' := [(1, (pg g1)), (41, vb false)]) (by kernel_rfl) ?_
            refine o_end (by kernel_rfl) ?_
            refine e_seq ?_
            refine w_cond_f (.tmp 41) 830 831 (by kernel_rfl) (by kernel_rfl) ?_
            refine w_skip (by kernel_rfl) ?_
            refine e_blk ?_
            refine e_seq ?_
            refine w_seq 14 15 (by kernel_rfl) ?_
            refine w_region (by kernel_rfl) ?_
            refine o_run 5 [1, 65] (l := [(⟨g1, 5, none⟩, .slice A1 a0.sk.length c1)]) (.one (at_blk (j := 0) rfl rfl) .nil) (E' := [(1, (pg g1)), (65, vb (decide ((a0.sk.length : Int) ≤ 4)))]) (by kernel_rfl) ?_
            refine o_split 65 (decide ((a0.sk.length : Int) ≤ 4)) (by kernel_rfl) (fun hb70 => ?_) (fun hb70 => ?_)
            · replace hm := ite_t hb70 hm
              refine o_val 66 (.load 31 (.tmp 1)) (.agg #[vb a0.hM, v16 a0.ms, vb a0.hS, v8 a0.sc, vb a0.sO, .slice A1 a0.sk.length c1, vb a0.hT, v32 a0.va, v32 a0.ec, vb a0.hO, v8 a0.ki, v8 a0.ni, v8 a0.m.x0, v8 a0.m.x1, v8 a0.m.x2, v8 a0.m.x3, v8 a0.m.x4, v8 a0.m.x5, v8 a0.m.x6, v8 a0.m.x7, v8 a0.m.x8, v8 a0.m.x9, v8 a0.m.x10, v8 a0.m.x11]) (by kernel_rfl) (v_load (l := [vb a0.hM, v16 a0.ms, vb a0.hS, v8 a0.sc, vb a0.sO, .slice A1 a0.sk.length c1, vb a0.hT, v32 a0.va, v32 a0.ec, vb a0.hO, v8 a0.ki, v8 a0.ni, v8 a0.m.x0, v8 a0.m.x1, v8 a0.m.x2, v8 a0.m.x3, v8 a0.m.x4, v8 a0.m.x5, v8 a0.m.x6, v8 a0.m.x7, v8 a0.m.x8, v8 a0.m.x9, v8 a0.m.x10, v8 a0.m.x11]) (a := ⟨g1, 0, none⟩) (by kernel_rfl) (by kernel_rfl) (at_blk (j := 0) rfl rfl)) ?_
              obtain ⟨t16, hx16, hm⟩ := bind_some hm
              refine o_stp ?_ (by kernel_rfl)
              refine s_call 67 53 #[.agg #[vb a0.hM, v16 a0.ms, vb a0.hS, v8 a0.sc, vb a0.sO, .slice A1 a0.sk.length c1, vb a0.hT, v32 a0.va, v32 a0.ec, vb a0.hO, v8 a0.ki, v8 a0.ni, v8 a0.m.x0, v8 a0.m.x1, v8 a0.m.x2, v8 a0.m.x3, v8 a0.m.x4, v8 a0.m.x5, v8 a0.m.x6, v8 a0.m.x7, v8 a0.m.x8, v8 a0.m.x9, v8 a0.m.x10, v8 a0.m.x11]] [1] [0] (by kernel_rfl) (by kernel_rfl) (fun w hs => opts_Size_2_ok a0 t16 hx16 B _ A1 c1 w (St.cast (by kernel_rfl) hs)) (fun _ hx => ?_)
              refine t_L (L' := [.own A1 a0.sk.length c1 (rowOf encTB a0.sk) 2 84, .blk g1 [vb a0.hM, v16 a0.ms, vb a0.hS, v8 a0.sc, vb a0.sO, .slice A1 a0.sk.length c1, vb a0.hT, v32 a0.va, v32 a0.ec, vb a0.hO, v8 a0.ki, v8 a0.ni, v8 a0.m.x0, v8 a0.m.x1, v8 a0.m.x2, v8 a0.m.x3, v8 a0.m.x4, v8 a0.m.x5, v8 a0.m.x6, v8 a0.m.x7, v8 a0.m.x8, v8 a0.m.x9, v8 a0.m.x10, v8 a0.m.x11] 31]) (by kernel_rfl) ?_
              refine o_run 3 [2] (l := []) .nil (E' := [(2, vb (decide (t16 ≤ 40)))]) (by kernel_rfl) ?_
              refine o_end (by kernel_rfl) ?_
              refine e_seq ?_
              refine w_ret (by kernel_rfl) ?_
              obtain rfl := Option.some.inj hm
              exact e_retP () (vb (decide (t16 ≤ 40))) [0] (by kernel_rfl) (by kernel_rfl) rfl (by kernel_rfl) (by kernel_rfl) trivial
            · replace hm := ite_f hb70 hm
              refine o_run 5 [2] (l := []) .nil (E' := [(2, vb false)]) (by kernel_rfl) ?_
              refine o_end (by kernel_rfl) ?_
              refine e_seq ?_
              refine w_ret (by kernel_rfl) ?_
              obtain rfl := Option.some.inj hm
              exact e_retP () (vb false) [1] (by kernel_rfl) (by kernel_rfl) rfl (by kernel_rfl) (by kernel_rfl) trivial
def seg_May_2.f (a0 : TS) : Option (Bool) :=
  ((opts_May_2.f a0.o).bind fun t1 => (if t1 then (if decide (a0.fl ≤ 63) then (some (decide ((a0.da.length : Int) ≤ 16384))) else (some false)) else (some false)))
theorem seg_May_2_ok (a0 : TS) (r : Bool) (hm : seg_May_2.f a0 = some r) (B G : Asn) (A1 : Option Addr) (c1 : Nat) (A2 : Option Addr) (c2 : Nat) (w : World) (hs : St B G [.own A1 a0.o.sk.length c1 (rowOf encTB a0.o.sk) 2 84, .own A2 a0.da.length c2 (rowOf e8 a0.da) 1 5] w) :
    Calls Try.prog 13 #[.agg #[v16 a0.sr, v16 a0.ds, v32 a0.sq, v32 a0.ak, v8 a0.fl, v16 a0.wi, v16 a0.ur, vb a0.o.hM, v16 a0.o.ms, vb a0.o.hS, v8 a0.o.sc, vb a0.o.sO, .slice A1 a0.o.sk.length c1, vb a0.o.hT, v32 a0.o.va, v32 a0.o.ec, vb a0.o.hO, v8 a0.o.ki, v8 a0.o.ni, v8 a0.o.m.x0, v8 a0.o.m.x1, v8 a0.o.m.x2, v8 a0.o.m.x3, v8 a0.o.m.x4, v8 a0.o.m.x5, v8 a0.o.m.x6, v8 a0.o.m.x7, v8 a0.o.m.x8, v8 a0.o.m.x9, v8 a0.o.m.x10, v8 a0.o.m.x11, .slice A2 a0.da.length c2]] w (Post (X := Unit) (fun x => vb r) (fun x => B) G (fun x => [.own A1 a0.o.sk.length c1 (rowOf encTB a0.o.sk) 2 84, .own A2 a0.da.length c2 (rowOf e8 a0.da) 1 5]) (fun x => True)) := by
  unfold seg_May_2.f at hm
  refine calls_W (F := Try.f13) Try.func13 rfl (by kernel_rfl) (L := [.own A1 a0.o.sk.length c1 (rowOf encTB a0.o.sk) 2 84, .own A2 a0.da.length c2 (rowOf e8 a0.da) 1 5]) ?_ hs
  refine w_seq 2 3 (by kernel_rfl) ?_
  refine w_region (by kernel_rfl) ?_
  refine o_stp ?_ (by kernel_rfl)
  refine s_new 1 (fun g1 => (pg g1)) [v16 a0.sr, v16 a0.ds, v32 a0.sq, v32 a0.ak, v8 a0.fl, v16 a0.wi, v16 a0.ur, vb a0.o.hM, v16 a0.o.ms, vb a0.o.hS, v8 a0.o.sc, vb a0.o.sO, .slice A1 a0.o.sk.length c1, vb a0.o.hT, v32 a0.o.va, v32 a0.o.ec, vb a0.o.hO, v8 a0.o.ki, v8 a0.o.ni, v8 a0.o.m.x0, v8 a0.o.m.x1, v8 a0.o.m.x2, v8 a0.o.m.x3, v8 a0.o.m.x4, v8 a0.o.m.x5, v8 a0.o.m.x6, v8 a0.o.m.x7, v8 a0.o.m.x8, v8 a0.o.m.x9, v8 a0.o.m.x10, v8 a0.o.m.x11, .slice A2 a0.da.length c2] 34 (fun _ => by kernel_rfl) (fun g1 => ?_)
  refine o_run 1 [1] (l := []) .nil (E' := [(1, (pg g1))]) (by kernel_rfl) ?_
  refine o_end (by kernel_rfl) ?_
  refine e_seq ?_
  refine w_seq 6 7 (by kernel_rfl) ?_
  refine w_region (by kernel_rfl) ?_
  refine o_run 1 [1, 3] (l := []) .nil (E' := [(1, (pg g1)), (3, .pointer (some ⟨g1, 7, none⟩))]) (by kernel_rfl) ?_
  refine o_val 4 (.load 31 (.tmp 3)) (.agg #[vb a0.o.hM, v16 a0.o.ms, vb a0.o.hS, v8 a0.o.sc, vb a0.o.sO, .slice A1 a0.o.sk.length c1, vb a0.o.hT, v32 a0.o.va, v32 a0.o.ec, vb a0.o.hO, v8 a0.o.ki, v8 a0.o.ni, v8 a0.o.m.x0, v8 a0.o.m.x1, v8 a0.o.m.x2, v8 a0.o.m.x3, v8 a0.o.m.x4, v8 a0.o.m.x5, v8 a0.o.m.x6, v8 a0.o.m.x7, v8 a0.o.m.x8, v8 a0.o.m.x9, v8 a0.o.m.x10, v8 a0.o.m.x11]) (by kernel_rfl) (v_load (l := [vb a0.o.hM, v16 a0.o.ms, vb a0.o.hS, v8 a0.o.sc, vb a0.o.sO, .slice A1 a0.o.sk.length c1, vb a0.o.hT, v32 a0.o.va, v32 a0.o.ec, vb a0.o.hO, v8 a0.o.ki, v8 a0.o.ni, v8 a0.o.m.x0, v8 a0.o.m.x1, v8 a0.o.m.x2, v8 a0.o.m.x3, v8 a0.o.m.x4, v8 a0.o.m.x5, v8 a0.o.m.x6, v8 a0.o.m.x7, v8 a0.o.m.x8, v8 a0.o.m.x9, v8 a0.o.m.x10, v8 a0.o.m.x11]) (a := ⟨g1, 7, none⟩) (by kernel_rfl) (by kernel_rfl) (at_blk (j := 0) rfl rfl)) ?_
  obtain ⟨t1, hx1, hm⟩ := bind_some hm
  refine o_stp ?_ (by kernel_rfl)
  refine s_call 5 34 #[.agg #[vb a0.o.hM, v16 a0.o.ms, vb a0.o.hS, v8 a0.o.sc, vb a0.o.sO, .slice A1 a0.o.sk.length c1, vb a0.o.hT, v32 a0.o.va, v32 a0.o.ec, vb a0.o.hO, v8 a0.o.ki, v8 a0.o.ni, v8 a0.o.m.x0, v8 a0.o.m.x1, v8 a0.o.m.x2, v8 a0.o.m.x3, v8 a0.o.m.x4, v8 a0.o.m.x5, v8 a0.o.m.x6, v8 a0.o.m.x7, v8 a0.o.m.x8, v8 a0.o.m.x9, v8 a0.o.m.x10, v8 a0.o.m.x11]] [1] [0, 2] (by kernel_rfl) (by kernel_rfl) (fun w hs => opts_May_2_ok a0.o t1 hx1 B _ A1 c1 w (St.cast (by kernel_rfl) hs)) (fun _ hx => ?_)
  refine t_L (L' := [.own A1 a0.o.sk.length c1 (rowOf encTB a0.o.sk) 2 84, .blk g1 [v16 a0.sr, v16 a0.ds, v32 a0.sq, v32 a0.ak, v8 a0.fl, v16 a0.wi, v16 a0.ur, vb a0.o.hM, v16 a0.o.ms, vb a0.o.hS, v8 a0.o.sc, vb a0.o.sO, .slice A1 a0.o.sk.length c1, vb a0.o.hT, v32 a0.o.va, v32 a0.o.ec, vb a0.o.hO, v8 a0.o.ki, v8 a0.o.ni, v8 a0.o.m.x0, v8 a0.o.m.x1, v8 a0.o.m.x2, v8 a0.o.m.x3, v8 a0.o.m.x4, v8 a0.o.m.x5, v8 a0.o.m.x6, v8 a0.o.m.x7, v8 a0.o.m.x8, v8 a0.o.m.x9, v8 a0.o.m.x10, v8 a0.o.m.x11, .slice A2 a0.da.length c2] 34, .own A2 a0.da.length c2 (rowOf e8 a0.da) 1 5]) (by kernel_rfl) ?_
  refine o_run 1 [1, 6] (l := []) .nil (E' := [(1, (pg g1)), (6, vb t1)]) (by kernel_rfl) ?_
  refine o_split 6 t1 (by kernel_rfl) (fun hb1 => ?_) (fun hb1 => ?_)
  · replace hm := ite_t hb1 hm
    refine o_run 5 [1, 11] (l := [(⟨g1, 4, none⟩, v8 a0.fl)]) (.one (at_blk (j := 1) rfl rfl) .nil) (E' := [(1, (pg g1)), (11, vb (decide (a0.fl ≤ 63)))]) (by kernel_rfl) ?_
    refine o_split 11 (decide (a0.fl ≤ 63)) (by kernel_rfl) (fun hb2 => ?_) (fun hb2 => ?_)
    · replace hm := ite_t hb2 hm
      refine o_run 6 [2] (l := [(⟨g1, 31, none⟩, .slice A2 a0.da.length c2)]) (.one (at_blk (j := 1) rfl rfl) .nil) (E' := [(2, vb (decide ((a0.da.length : Int) ≤ 16384)))]) (by kernel_rfl) ?_
      refine o_end (by kernel_rfl) ?_
      refine e_seq ?_
      refine w_ret (by kernel_rfl) ?_
      obtain rfl := Option.some.inj hm
      exact e_retP () (vb (decide ((a0.da.length : Int) ≤ 16384))) [0, 2] (by kernel_rfl) (by kernel_rfl) rfl (by kernel_rfl) (by kernel_rfl) trivial
    · replace hm := ite_f hb2 hm
      refine o_run 6 [2] (l := []) .nil (E' := [(2, vb false)]) (by kernel_rfl) ?_
      refine o_end (by kernel_rfl) ?_
      refine e_seq ?_
      refine w_ret (by kernel_rfl) ?_
      obtain rfl := Option.some.inj hm
      exact e_retP () (vb false) [0, 2] (by kernel_rfl) (by kernel_rfl) rfl (by kernel_rfl) (by kernel_rfl) trivial
  · replace hm := ite_f hb1 hm
    refine o_run 11 [2] (l := []) .nil (E' := [(2, vb false)]) (by kernel_rfl) ?_
    refine o_end (by kernel_rfl) ?_
    refine e_seq ?_
    refine w_ret (by kernel_rfl) ?_
    obtain rfl := Option.some.inj hm
    exact e_retP () (vb false) [0, 2] (by kernel_rfl) (by kernel_rfl) rfl (by kernel_rfl) (by kernel_rfl) trivial
end Go.V
