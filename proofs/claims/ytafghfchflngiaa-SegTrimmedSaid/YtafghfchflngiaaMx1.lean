/- Printed by a program of this work: Go functions as Lean functions, and that the machine comes to the same. -/
import Derived.Test.YtafghfchflngiaaMx0
set_option maxRecDepth 100000
set_option linter.unusedVariables false
namespace Go.V
open Go Go.Proofs
def opts_Lay.l1 : Nat → Option (Unit)
  | 0 => none
  | k + 1 => (some ())
def opts_Lay.f (k : Nat) (a0 : TO_o) : Option ((List Int) × Int) :=
  ((opts_May.f a0).bind fun t1 => (if !t1 then (some (([] : List Int), 1)) else ((if a0.hM then ((app ([] : List Int) [2, 4]).bind fun l10 => ((octets_Put.f k l10 2 [U64 a0.ms]).bind fun t10 => (some t10))) else (some ([] : List Int))).bind fun t2 => ((if a0.hS then ((app t2 [3, 3, a0.sc]).bind fun l9 => (some l9)) else (some t2)).bind fun t3 => ((if a0.sO then ((app t3 [4, 2]).bind fun l8 => (some l8)) else (some t3)).bind fun t4 => ((if a0.hT then ((app t4 [8, 10]).bind fun l7 => ((octets_Put.f k l7 4 [U64 a0.va, U64 a0.ec]).bind fun t9 => (some t9))) else (some t4)).bind fun t5 => ((opts_Lay.l1 k).bind fun t6 => (if a0.hO then ((app t5 [29, 16, a0.ki, a0.ni]).bind fun l1 => ((app l1 [a0.m.x0, a0.m.x1, a0.m.x2, a0.m.x3, a0.m.x4, a0.m.x5, a0.m.x6, a0.m.x7, a0.m.x8, a0.m.x9, a0.m.x10, a0.m.x11]).bind fun l2 => ((opts_Size.f a0).bind fun t7 => ((mk (I64 (t7 - (l2.length : Int))) (0 : Int)).bind fun l3 => ((app l2 l3).bind fun l4 => (some (l4, 0))))))) else ((opts_Size.f a0).bind fun t8 => ((mk (I64 (t8 - ((t5).length : Int))) (0 : Int)).bind fun l5 => ((app t5 l5).bind fun l6 => (some (l6, 0)))))))))))))
theorem opts_Lay_ok (k : Nat) (a0 : TO_o) (r : (List Int) × Int) (hm : opts_Lay.f k a0 = some r) (B G : Asn) (w : World) (hs : St B G [] w) :
    Calls Try.prog 29 #[.agg #[vb a0.hM, v16 a0.ms, vb a0.hS, v8 a0.sc, vb a0.sO, .slice none 0 0, vb a0.hT, v32 a0.va, v32 a0.ec, vb a0.hO, v8 a0.ki, v8 a0.ni, v8 a0.m.x0, v8 a0.m.x1, v8 a0.m.x2, v8 a0.m.x3, v8 a0.m.x4, v8 a0.m.x5, v8 a0.m.x6, v8 a0.m.x7, v8 a0.m.x8, v8 a0.m.x9, v8 a0.m.x10, v8 a0.m.x11]] w (Post (X := (Option Addr) × Nat) (fun x => .tuple #[.slice x.1 r.1.length x.2, v64 r.2]) (fun x => B) G (fun x => [.own x.1 r.1.length x.2 (rowOf e8 r.1) 1 5]) (fun x => True)) := by
  unfold opts_Lay.f at hm
  refine calls_W (F := Try.f29) Try.func29 rfl (by kernel_rfl) (L := []) ?_ hs
  refine w_seq 2 3 (by kernel_rfl) ?_
  refine w_region (by kernel_rfl) ?_
  refine o_stp ?_ (by kernel_rfl)
  refine s_new 1 (fun g1 => (pg g1)) [vb a0.hM, v16 a0.ms, vb a0.hS, v8 a0.sc, vb a0.sO, .slice none 0 0, vb a0.hT, v32 a0.va, v32 a0.ec, vb a0.hO, v8 a0.ki, v8 a0.ni, v8 a0.m.x0, v8 a0.m.x1, v8 a0.m.x2, v8 a0.m.x3, v8 a0.m.x4, v8 a0.m.x5, v8 a0.m.x6, v8 a0.m.x7, v8 a0.m.x8, v8 a0.m.x9, v8 a0.m.x10, v8 a0.m.x11] 31 (fun _ => by kernel_rfl) (fun g1 => ?_)
  refine o_run 2 [1] (l := []) .nil (E' := [(1, (pg g1))]) (by kernel_rfl) ?_
  refine o_end (by kernel_rfl) ?_
  refine e_seq ?_
  refine w_seq 6 7 (by kernel_rfl) ?_
  refine w_seq 12 13 (by kernel_rfl) ?_
  refine w_region (by kernel_rfl) ?_
  refine o_val 8 (.load 31 (.tmp 1)) (.agg #[vb a0.hM, v16 a0.ms, vb a0.hS, v8 a0.sc, vb a0.sO, .slice none 0 0, vb a0.hT, v32 a0.va, v32 a0.ec, vb a0.hO, v8 a0.ki, v8 a0.ni, v8 a0.m.x0, v8 a0.m.x1, v8 a0.m.x2, v8 a0.m.x3, v8 a0.m.x4, v8 a0.m.x5, v8 a0.m.x6, v8 a0.m.x7, v8 a0.m.x8, v8 a0.m.x9, v8 a0.m.x10, v8 a0.m.x11]) (by kernel_rfl) (v_load (l := [vb a0.hM, v16 a0.ms, vb a0.hS, v8 a0.sc, vb a0.sO, .slice none 0 0, vb a0.hT, v32 a0.va, v32 a0.ec, vb a0.hO, v8 a0.ki, v8 a0.ni, v8 a0.m.x0, v8 a0.m.x1, v8 a0.m.x2, v8 a0.m.x3, v8 a0.m.x4, v8 a0.m.x5, v8 a0.m.x6, v8 a0.m.x7, v8 a0.m.x8, v8 a0.m.x9, v8 a0.m.x10, v8 a0.m.x11]) (a := ⟨g1, 0, none⟩) (by kernel_rfl) (by kernel_rfl) (at_blk (j := 0) rfl rfl)) ?_
  obtain ⟨t1, hx1, hm⟩ := bind_some hm
  refine o_stp ?_ (by kernel_rfl)
  refine s_call 9 34 #[.agg #[vb a0.hM, v16 a0.ms, vb a0.hS, v8 a0.sc, vb a0.sO, .slice none 0 0, vb a0.hT, v32 a0.va, v32 a0.ec, vb a0.hO, v8 a0.ki, v8 a0.ni, v8 a0.m.x0, v8 a0.m.x1, v8 a0.m.x2, v8 a0.m.x3, v8 a0.m.x4, v8 a0.m.x5, v8 a0.m.x6, v8 a0.m.x7, v8 a0.m.x8, v8 a0.m.x9, v8 a0.m.x10, v8 a0.m.x11]] [] [0] (by kernel_rfl) (by kernel_rfl) (fun w hs => opts_May_ok a0 t1 hx1 B _ w (St.cast (by kernel_rfl) hs)) (fun _ hx => ?_)
  refine t_L (L' := [.blk g1 [vb a0.hM, v16 a0.ms, vb a0.hS, v8 a0.sc, vb a0.sO, .slice none 0 0, vb a0.hT, v32 a0.va, v32 a0.ec, vb a0.hO, v8 a0.ki, v8 a0.ni, v8 a0.m.x0, v8 a0.m.x1, v8 a0.m.x2, v8 a0.m.x3, v8 a0.m.x4, v8 a0.m.x5, v8 a0.m.x6, v8 a0.m.x7, v8 a0.m.x8, v8 a0.m.x9, v8 a0.m.x10, v8 a0.m.x11] 31]) (by kernel_rfl) ?_
  refine o_run 1 [1, 10] (l := []) .nil (E' := [(1, (pg g1)), (10, vb (!t1))]) (by kernel_rfl) ?_
  refine o_end (by kernel_rfl) ?_
  refine e_seq ?_
  refine w_cond (.tmp 10) 26 27 (!t1) (by kernel_rfl) (by kernel_rfl) (fun hb1 => ?_) (fun hb1 => ?_)
  · replace hm := ite_t hb1 hm
    refine w_seq 52 53 (by kernel_rfl) ?_
    refine w_region (by kernel_rfl) ?_
    refine o_run 2 [2, 3] (l := []) .nil (E' := [(2, .slice none 0 0), (3, v64 1)]) (by kernel_rfl) ?_
    refine o_end (by kernel_rfl) ?_
    refine e_seq ?_
    refine w_ret (by kernel_rfl) ?_
    refine t_nil 5 1 ?_
    refine t_L (L' := [.own none (([] : List Int).length) 0 (rowOf e8 ([] : List Int)) 1 5, .blk g1 [vb a0.hM, v16 a0.ms, vb a0.hS, v8 a0.sc, vb a0.sO, .slice none 0 0, vb a0.hT, v32 a0.va, v32 a0.ec, vb a0.hO, v8 a0.ki, v8 a0.ni, v8 a0.m.x0, v8 a0.m.x1, v8 a0.m.x2, v8 a0.m.x3, v8 a0.m.x4, v8 a0.m.x5, v8 a0.m.x6, v8 a0.m.x7, v8 a0.m.x8, v8 a0.m.x9, v8 a0.m.x10, v8 a0.m.x11] 31]) (by kernel_rfl) ?_
    obtain rfl := Option.some.inj hm
    exact e_retP (none, 0) (.tuple #[.slice none (([] : List Int).length) 0, v64 1]) [0] (by kernel_rfl) (by kernel_rfl) rfl (by kernel_rfl) (by kernel_rfl) trivial
  · replace hm := ite_f hb1 hm
    refine w_skip (by kernel_rfl) ?_
    refine e_seq ?_
    refine w_seq 14 15 (by kernel_rfl) ?_
    refine w_region (by kernel_rfl) ?_
    refine o_run 1 [1, 4] (l := []) .nil (E' := [(1, (pg g1)), (4, .slice none 0 0)]) (by kernel_rfl) ?_
    refine o_end (by kernel_rfl) ?_
    refine e_seq ?_
    refine w_seq 30 31 (by kernel_rfl) ?_
    refine w_seq 60 61 (by kernel_rfl) ?_
    refine w_region (by kernel_rfl) ?_
    refine o_run 2 [1, 4, 12] (l := [(⟨g1, 0, none⟩, vb a0.hM)]) (.one (at_blk (j := 0) rfl rfl) .nil) (E' := [(1, (pg g1)), (4, .slice none 0 0), (12, vb a0.hM)]) (by kernel_rfl) ?_
    refine o_end (by kernel_rfl) ?_
    refine e_seq ?_
    obtain ⟨t2, ht1, ho1⟩ := bind_some hm
    refine w_joinJ (fun a w => ∃ (A1 : Option Addr) (c1 : Nat), EnvOk [(1, (pg g1)), (4, .slice A1 ((t2).length) c1)] Try.f29.ntmps a ∧ St B G [.own A1 ((t2).length) c1 (rowOf e8 t2) 1 5, .blk g1 [vb a0.hM, v16 a0.ms, vb a0.hS, v8 a0.sc, vb a0.sO, .slice none 0 0, vb a0.hT, v32 a0.va, v32 a0.ec, vb a0.hO, v8 a0.ki, v8 a0.ni, v8 a0.m.x0, v8 a0.m.x1, v8 a0.m.x2, v8 a0.m.x3, v8 a0.m.x4, v8 a0.m.x5, v8 a0.m.x6, v8 a0.m.x7, v8 a0.m.x8, v8 a0.m.x9, v8 a0.m.x10, v8 a0.m.x11] 31] w) ?_ ?_
    · rintro a w ⟨A1, c1, ha, hw⟩
      refine we_of (E := [(1, (pg g1)), (4, .slice A1 ((t2).length) c1)]) (B := B) (G := G) (L := [.own A1 ((t2).length) c1 (rowOf e8 t2) 1 5, .blk g1 [vb a0.hM, v16 a0.ms, vb a0.hS, v8 a0.sc, vb a0.sO, .slice none 0 0, vb a0.hT, v32 a0.va, v32 a0.ec, vb a0.hO, v8 a0.ki, v8 a0.ni, v8 a0.m.x0, v8 a0.m.x1, v8 a0.m.x2, v8 a0.m.x3, v8 a0.m.x4, v8 a0.m.x5, v8 a0.m.x6, v8 a0.m.x7, v8 a0.m.x8, v8 a0.m.x9, v8 a0.m.x10, v8 a0.m.x11] 31]) ?_ ha hw
      have hm := ho1
      refine e_seq ?_
      refine w_seq 62 63 (by kernel_rfl) ?_
      refine w_seq 124 125 (by kernel_rfl) ?_
      refine w_region (by kernel_rfl) ?_
      refine o_run 2 [1, 4, 22] (l := [(⟨g1, 2, none⟩, vb a0.hS)]) (.one (at_blk (j := 1) rfl rfl) .nil) (E' := [(1, (pg g1)), (4, .slice A1 ((t2).length) c1), (22, vb a0.hS)]) (by kernel_rfl) ?_
      refine o_end (by kernel_rfl) ?_
      refine e_seq ?_
      obtain ⟨t3, ht2, ho2⟩ := bind_some hm
      refine w_joinJ (fun a w => ∃ (A2 : Option Addr) (c2 : Nat), EnvOk [(1, (pg g1)), (4, .slice A2 ((t3).length) c2)] Try.f29.ntmps a ∧ St B G [.own A2 ((t3).length) c2 (rowOf e8 t3) 1 5, .blk g1 [vb a0.hM, v16 a0.ms, vb a0.hS, v8 a0.sc, vb a0.sO, .slice none 0 0, vb a0.hT, v32 a0.va, v32 a0.ec, vb a0.hO, v8 a0.ki, v8 a0.ni, v8 a0.m.x0, v8 a0.m.x1, v8 a0.m.x2, v8 a0.m.x3, v8 a0.m.x4, v8 a0.m.x5, v8 a0.m.x6, v8 a0.m.x7, v8 a0.m.x8, v8 a0.m.x9, v8 a0.m.x10, v8 a0.m.x11] 31] w) ?_ ?_
      · rintro a w ⟨A2, c2, ha, hw⟩
        refine we_of (E := [(1, (pg g1)), (4, .slice A2 ((t3).length) c2)]) (B := B) (G := G) (L := [.own A2 ((t3).length) c2 (rowOf e8 t3) 1 5, .blk g1 [vb a0.hM, v16 a0.ms, vb a0.hS, v8 a0.sc, vb a0.sO, .slice none 0 0, vb a0.hT, v32 a0.va, v32 a0.ec, vb a0.hO, v8 a0.ki, v8 a0.ni, v8 a0.m.x0, v8 a0.m.x1, v8 a0.m.x2, v8 a0.m.x3, v8 a0.m.x4, v8 a0.m.x5, v8 a0.m.x6, v8 a0.m.x7, v8 a0.m.x8, v8 a0.m.x9, v8 a0.m.x10, v8 a0.m.x11] 31]) ?_ ha hw
        have hm := ho2
        refine e_seq ?_
        refine w_seq 126 127 (by kernel_rfl) ?_
        refine w_seq 252 253 (by kernel_rfl) ?_
        refine w_region (by kernel_rfl) ?_
        refine o_run 2 [1, 4, 29] (l := [(⟨g1, 4, none⟩, vb a0.sO)]) (.one (at_blk (j := 1) rfl rfl) .nil) (E' := [(1, (pg g1)), (4, .slice A2 ((t3).length) c2), (29, vb a0.sO)]) (by kernel_rfl) ?_
        refine o_end (by kernel_rfl) ?_
        refine e_seq ?_
        obtain ⟨t4, ht3, ho3⟩ := bind_some hm
        refine w_joinJ (fun a w => ∃ (A3 : Option Addr) (c3 : Nat), EnvOk [(1, (pg g1)), (4, .slice A3 ((t4).length) c3)] Try.f29.ntmps a ∧ St B G [.own A3 ((t4).length) c3 (rowOf e8 t4) 1 5, .blk g1 [vb a0.hM, v16 a0.ms, vb a0.hS, v8 a0.sc, vb a0.sO, .slice none 0 0, vb a0.hT, v32 a0.va, v32 a0.ec, vb a0.hO, v8 a0.ki, v8 a0.ni, v8 a0.m.x0, v8 a0.m.x1, v8 a0.m.x2, v8 a0.m.x3, v8 a0.m.x4, v8 a0.m.x5, v8 a0.m.x6, v8 a0.m.x7, v8 a0.m.x8, v8 a0.m.x9, v8 a0.m.x10, v8 a0.m.x11] 31] w) ?_ ?_
        · rintro a w ⟨A3, c3, ha, hw⟩
          refine we_of (E := [(1, (pg g1)), (4, .slice A3 ((t4).length) c3)]) (B := B) (G := G) (L := [.own A3 ((t4).length) c3 (rowOf e8 t4) 1 5, .blk g1 [vb a0.hM, v16 a0.ms, vb a0.hS, v8 a0.sc, vb a0.sO, .slice none 0 0, vb a0.hT, v32 a0.va, v32 a0.ec, vb a0.hO, v8 a0.ki, v8 a0.ni, v8 a0.m.x0, v8 a0.m.x1, v8 a0.m.x2, v8 a0.m.x3, v8 a0.m.x4, v8 a0.m.x5, v8 a0.m.x6, v8 a0.m.x7, v8 a0.m.x8, v8 a0.m.x9, v8 a0.m.x10, v8 a0.m.x11] 31]) ?_ ha hw
          have hm := ho3
          refine e_seq ?_
          refine w_seq 254 255 (by kernel_rfl) ?_
          refine w_seq 508 509 (by kernel_rfl) ?_
          refine w_region (by kernel_rfl) ?_
          refine o_run 2 [1, 4, 34] (l := [(⟨g1, 6, none⟩, vb a0.hT)]) (.one (at_blk (j := 1) rfl rfl) .nil) (E' := [(1, (pg g1)), (4, .slice A3 ((t4).length) c3), (34, vb a0.hT)]) (by kernel_rfl) ?_
          refine o_end (by kernel_rfl) ?_
          refine e_seq ?_
          obtain ⟨t5, ht4, ho4⟩ := bind_some hm
          refine w_joinJ (fun a w => ∃ (A4 : Option Addr) (c4 : Nat), EnvOk [(1, (pg g1)), (4, .slice A4 ((t5).length) c4)] Try.f29.ntmps a ∧ St B G [.own A4 ((t5).length) c4 (rowOf e8 t5) 1 5, .blk g1 [vb a0.hM, v16 a0.ms, vb a0.hS, v8 a0.sc, vb a0.sO, .slice none 0 0, vb a0.hT, v32 a0.va, v32 a0.ec, vb a0.hO, v8 a0.ki, v8 a0.ni, v8 a0.m.x0, v8 a0.m.x1, v8 a0.m.x2, v8 a0.m.x3, v8 a0.m.x4, v8 a0.m.x5, v8 a0.m.x6, v8 a0.m.x7, v8 a0.m.x8, v8 a0.m.x9, v8 a0.m.x10, v8 a0.m.x11] 31] w) ?_ ?_
          · rintro a w ⟨A4, c4, ha, hw⟩
            refine we_of (E := [(1, (pg g1)), (4, .slice A4 ((t5).length) c4)]) (B := B) (G := G) (L := [.own A4 ((t5).length) c4 (rowOf e8 t5) 1 5, .blk g1 [vb a0.hM, v16 a0.ms, vb a0.hS, v8 a0.sc, vb a0.sO, .slice none 0 0, vb a0.hT, v32 a0.va, v32 a0.ec, vb a0.hO, v8 a0.ki, v8 a0.ni, v8 a0.m.x0, v8 a0.m.x1, v8 a0.m.x2, v8 a0.m.x3, v8 a0.m.x4, v8 a0.m.x5, v8 a0.m.x6, v8 a0.m.x7, v8 a0.m.x8, v8 a0.m.x9, v8 a0.m.x10, v8 a0.m.x11] 31]) ?_ ha hw
            have hm := ho4
            refine e_seq ?_
            refine w_seq 510 511 (by kernel_rfl) ?_
            refine w_seq 1020 1021 (by kernel_rfl) ?_
            refine w_region (by kernel_rfl) ?_
            refine o_run 4 [1, 4, 5] (l := [(⟨g1, 5, none⟩, .slice none 0 0)]) (.one (at_blk (j := 1) rfl rfl) .nil) (E' := [(1, (pg g1)), (4, .slice A4 ((t5).length) c4), (5, v64 0)]) (by kernel_rfl) ?_
            refine o_end (by kernel_rfl) ?_
            refine e_seq ?_
            refine w_seq 2042 2043 (by kernel_rfl) ?_
            refine w_region (by kernel_rfl) ?_
            refine o_run 2 [1, 4, 5, 50] (l := []) .nil (E' := [(1, (pg g1)), (4, .slice A4 ((t5).length) c4), (5, v64 0), (50, vb false)]) (by kernel_rfl) ?_
            refine o_end (by kernel_rfl) ?_
            refine e_seq ?_
            refine w_cond_f (.tmp 50) 4086 4087 (by kernel_rfl) (by kernel_rfl) ?_
            refine w_skip (by kernel_rfl) ?_
            refine e_seq ?_
            refine w_seq 1022 1023 (by kernel_rfl) ?_
            refine w_seq 2044 2045 (by kernel_rfl) ?_
            refine w_region (by kernel_rfl) ?_
            refine o_run 4 [1, 4, 59, 60, 61] (l := [(⟨g1, 5, none⟩, .slice none 0 0)]) (.one (at_blk (j := 1) rfl rfl) .nil) (E' := [(1, (pg g1)), (4, .slice A4 ((t5).length) c4), (59, .slice none 0 0), (60, v64 0), (61, v64 0)]) (by kernel_rfl) ?_
            refine o_end (by kernel_rfl) ?_
            refine e_seq ?_
            refine w_block 0 4090 (by kernel_rfl) ?_
            obtain ⟨t6, ht5, ho5⟩ := bind_some hm
            refine t_env [1, 4, 59, 60, 61] (E' := [(1, (pg g1)), (4, .slice A4 ((t5).length) c4), (59, .slice none 0 0), (60, v64 0), (61, v64 0)]) (by kernel_rfl) ?_
            refine w_loopJ 8180 0 (fun k a w => opts_Lay.l1 k = some t6 ∧ EnvOk [(1, (pg g1)), (4, .slice A4 ((t5).length) c4), (59, .slice none 0 0), (60, v64 0), (61, v64 0)] Try.f29.ntmps a ∧ St B G [.own A4 ((t5).length) c4 (rowOf e8 t5) 1 5, .blk g1 [vb a0.hM, v16 a0.ms, vb a0.hS, v8 a0.sc, vb a0.sO, .slice none 0 0, vb a0.hT, v32 a0.va, v32 a0.ec, vb a0.hO, v8 a0.ki, v8 a0.ni, v8 a0.m.x0, v8 a0.m.x1, v8 a0.m.x2, v8 a0.m.x3, v8 a0.m.x4, v8 a0.m.x5, v8 a0.m.x6, v8 a0.m.x7, v8 a0.m.x8, v8 a0.m.x9, v8 a0.m.x10, v8 a0.m.x11] 31] w) (fun a w => EnvOk [(1, (pg g1)), (4, .slice A4 ((t5).length) c4)] Try.f29.ntmps a ∧ St B G [.own A4 ((t5).length) c4 (rowOf e8 t5) 1 5, .blk g1 [vb a0.hM, v16 a0.ms, vb a0.hS, v8 a0.sc, vb a0.sO, .slice none 0 0, vb a0.hT, v32 a0.va, v32 a0.ec, vb a0.hO, v8 a0.ki, v8 a0.ni, v8 a0.m.x0, v8 a0.m.x1, v8 a0.m.x2, v8 a0.m.x3, v8 a0.m.x4, v8 a0.m.x5, v8 a0.m.x6, v8 a0.m.x7, v8 a0.m.x8, v8 a0.m.x9, v8 a0.m.x10, v8 a0.m.x11] 31] w) (by kernel_rfl) ?_ ?_ k ?_
            · rintro a w ⟨ha, hw⟩
              refine we_of (E := [(1, (pg g1)), (4, .slice A4 ((t5).length) c4)]) (B := B) (G := G) (L := [.own A4 ((t5).length) c4 (rowOf e8 t5) 1 5, .blk g1 [vb a0.hM, v16 a0.ms, vb a0.hS, v8 a0.sc, vb a0.sO, .slice none 0 0, vb a0.hT, v32 a0.va, v32 a0.ec, vb a0.hO, v8 a0.ki, v8 a0.ni, v8 a0.m.x0, v8 a0.m.x1, v8 a0.m.x2, v8 a0.m.x3, v8 a0.m.x4, v8 a0.m.x5, v8 a0.m.x6, v8 a0.m.x7, v8 a0.m.x8, v8 a0.m.x9, v8 a0.m.x10, v8 a0.m.x11] 31]) ?_ ha hw
              have hm := ho5
              refine e_seq ?_
              refine w_seq 2046 2047 (by kernel_rfl) ?_
              refine w_seq 4092 4093 (by kernel_rfl) ?_
              refine w_region (by kernel_rfl) ?_
              refine o_run 2 [1, 4, 76] (l := [(⟨g1, 9, none⟩, vb a0.hO)]) (.one (at_blk (j := 1) rfl rfl) .nil) (E' := [(1, (pg g1)), (4, .slice A4 ((t5).length) c4), (76, vb a0.hO)]) (by kernel_rfl) ?_
              refine o_end (by kernel_rfl) ?_
              refine e_seq ?_
              refine w_cond (.tmp 76) 8186 8187 a0.hO (by kernel_rfl) (by kernel_rfl) (fun hb2 => ?_) (fun hb2 => ?_)
              · replace hm := ite_t hb2 hm
                refine w_seq 16372 16373 (by kernel_rfl) ?_
                refine w_region (by kernel_rfl) ?_
                refine o_run 5 [1, 77, 79, 81] (l := [(⟨g1, 10, none⟩, v8 a0.ki), (⟨g1, 11, none⟩, v8 a0.ni)]) (.one (at_blk (j := 1) rfl rfl) (.one (at_blk (j := 1) rfl rfl) .nil)) (E' := [(1, (pg g1)), (77, .slice A4 ((t5).length) c4), (79, v8 a0.ki), (81, v8 a0.ni)]) (by kernel_rfl) ?_
                refine o_stp ?_ (by kernel_rfl)
                refine s_new 82 (fun g2 => .slice (ag g2) 4 4) [v8 29, v8 16, v8 a0.ki, v8 a0.ni] 5 (fun _ => by kernel_rfl) (fun g2 => ?_)
                obtain ⟨l1, hx2, hm⟩ := bind_some hm
                refine o_stp ?_ (by kernel_rfl)
                refine s_app (z := v8 0) (enc := (encI .u8)) (ys := [29, 16, a0.ki, a0.ni]) (k := 4) (bytes := 1) 83 32 32 (.tmp 77) (.tmp 82) 1 hx2 rfl rfl (by kernel_rfl) (by kernel_rfl) (by kernel_rfl) (by kernel_rfl) (by kernel_rfl) (by kernel_rfl) rfl (src_blk (e := 5) (j := 0) (by kernel_rfl) rfl (by kernel_rfl) rfl (by kernel_rfl)) (by decide) (fun A5 c5 => ?_)
                refine t_L (L' := [.blk g2 [v8 29, v8 16, v8 a0.ki, v8 a0.ni] 5, .own A5 l1.length c5 (rowOf e8 l1) 1 5, .blk g1 [vb a0.hM, v16 a0.ms, vb a0.hS, v8 a0.sc, vb a0.sO, .slice none 0 0, vb a0.hT, v32 a0.va, v32 a0.ec, vb a0.hO, v8 a0.ki, v8 a0.ni, v8 a0.m.x0, v8 a0.m.x1, v8 a0.m.x2, v8 a0.m.x3, v8 a0.m.x4, v8 a0.m.x5, v8 a0.m.x6, v8 a0.m.x7, v8 a0.m.x8, v8 a0.m.x9, v8 a0.m.x10, v8 a0.m.x11] 31]) (by kernel_rfl) ?_
                refine o_run 1 [1, 4] (l := []) .nil (E' := [(1, (pg g1)), (4, .slice A5 l1.length c5)]) (by kernel_rfl) ?_
                refine o_end (by kernel_rfl) ?_
                refine e_seq ?_
                refine w_region (by kernel_rfl) ?_
                refine o_run 2 [1, 84, 85] (l := []) .nil (E' := [(1, (pg g1)), (84, .slice A5 l1.length c5), (85, .pointer (some ⟨g1, 12, none⟩))]) (by kernel_rfl) ?_
                refine o_val 86 (.slice 29 (.tmp 85) none none none) (.slice (some ⟨g1, 12, none⟩) 12 12) (by kernel_rfl) (v_sliceA (a := ⟨g1, 12, none⟩) (N := 12) (sz := 1) (l := none) (h := none) (k := none) (l' := 0) (h' := 12) (k' := 12) (by kernel_rfl) (by kernel_rfl) (by kernel_rfl) (by kernel_rfl) (by kernel_rfl) (fun h => by cases h) rfl rfl rfl rfl rfl rfl (by kernel_rfl)) ?_
                obtain ⟨l2, hx3, hm⟩ := bind_some hm
                refine o_stp ?_ (by kernel_rfl)
                refine s_app (z := v8 0) (enc := (encI .u8)) (ys := [a0.m.x0, a0.m.x1, a0.m.x2, a0.m.x3, a0.m.x4, a0.m.x5, a0.m.x6, a0.m.x7, a0.m.x8, a0.m.x9, a0.m.x10, a0.m.x11]) (k := 12) (bytes := 1) 87 32 32 (.tmp 84) (.tmp 86) 1 hx3 rfl rfl (by kernel_rfl) (by kernel_rfl) (by kernel_rfl) (by kernel_rfl) (by kernel_rfl) (by kernel_rfl) rfl (src_part (e := 5) (j := 2) (l := rowOf e8 [a0.m.x0, a0.m.x1, a0.m.x2, a0.m.x3, a0.m.x4, a0.m.x5, a0.m.x6, a0.m.x7, a0.m.x8, a0.m.x9, a0.m.x10, a0.m.x11]) (sz := 1) (o := 12) (c := 12) (k := 12) (by kernel_rfl) rfl (by kernel_rfl) (by kernel_rfl) (by kernel_rfl)) (by decide) (fun A6 c6 => ?_)
                refine t_L (L' := [.blk g2 [v8 29, v8 16, v8 a0.ki, v8 a0.ni] 5, .own A6 l2.length c6 (rowOf e8 l2) 1 5, .blk g1 [vb a0.hM, v16 a0.ms, vb a0.hS, v8 a0.sc, vb a0.sO, .slice none 0 0, vb a0.hT, v32 a0.va, v32 a0.ec, vb a0.hO, v8 a0.ki, v8 a0.ni, v8 a0.m.x0, v8 a0.m.x1, v8 a0.m.x2, v8 a0.m.x3, v8 a0.m.x4, v8 a0.m.x5, v8 a0.m.x6, v8 a0.m.x7, v8 a0.m.x8, v8 a0.m.x9, v8 a0.m.x10, v8 a0.m.x11] 31]) (by kernel_rfl) ?_
                refine o_run 1 [1, 4] (l := []) .nil (E' := [(1, (pg g1)), (4, .slice A6 l2.length c6)]) (by kernel_rfl) ?_
                refine o_end (by kernel_rfl) ?_
                refine e_seq ?_
                refine w_seq 4094 4095 (by kernel_rfl) ?_
                refine w_region (by kernel_rfl) ?_
                refine o_run 1 [1, 4, 88] (l := []) .nil (E' := [(1, (pg g1)), (4, .slice A6 l2.length c6), (88, .slice A6 l2.length c6)]) (by kernel_rfl) ?_
                refine o_val 89 (.load 31 (.tmp 1)) (.agg #[vb a0.hM, v16 a0.ms, vb a0.hS, v8 a0.sc, vb a0.sO, .slice none 0 0, vb a0.hT, v32 a0.va, v32 a0.ec, vb a0.hO, v8 a0.ki, v8 a0.ni, v8 a0.m.x0, v8 a0.m.x1, v8 a0.m.x2, v8 a0.m.x3, v8 a0.m.x4, v8 a0.m.x5, v8 a0.m.x6, v8 a0.m.x7, v8 a0.m.x8, v8 a0.m.x9, v8 a0.m.x10, v8 a0.m.x11]) (by kernel_rfl) (v_load (l := [vb a0.hM, v16 a0.ms, vb a0.hS, v8 a0.sc, vb a0.sO, .slice none 0 0, vb a0.hT, v32 a0.va, v32 a0.ec, vb a0.hO, v8 a0.ki, v8 a0.ni, v8 a0.m.x0, v8 a0.m.x1, v8 a0.m.x2, v8 a0.m.x3, v8 a0.m.x4, v8 a0.m.x5, v8 a0.m.x6, v8 a0.m.x7, v8 a0.m.x8, v8 a0.m.x9, v8 a0.m.x10, v8 a0.m.x11]) (a := ⟨g1, 0, none⟩) (by kernel_rfl) (by kernel_rfl) (at_blk (j := 2) rfl rfl)) ?_
                obtain ⟨t7, hx4, hm⟩ := bind_some hm
                refine o_stp ?_ (by kernel_rfl)
                refine s_call 90 53 #[.agg #[vb a0.hM, v16 a0.ms, vb a0.hS, v8 a0.sc, vb a0.sO, .slice none 0 0, vb a0.hT, v32 a0.va, v32 a0.ec, vb a0.hO, v8 a0.ki, v8 a0.ni, v8 a0.m.x0, v8 a0.m.x1, v8 a0.m.x2, v8 a0.m.x3, v8 a0.m.x4, v8 a0.m.x5, v8 a0.m.x6, v8 a0.m.x7, v8 a0.m.x8, v8 a0.m.x9, v8 a0.m.x10, v8 a0.m.x11]] [] [0, 1, 2] (by kernel_rfl) (by kernel_rfl) (fun w hs => opts_Size_ok a0 t7 hx4 B _ w (St.cast (by kernel_rfl) hs)) (fun _ hx => ?_)
                refine t_L (L' := [.blk g2 [v8 29, v8 16, v8 a0.ki, v8 a0.ni] 5, .own A6 l2.length c6 (rowOf e8 l2) 1 5, .blk g1 [vb a0.hM, v16 a0.ms, vb a0.hS, v8 a0.sc, vb a0.sO, .slice none 0 0, vb a0.hT, v32 a0.va, v32 a0.ec, vb a0.hO, v8 a0.ki, v8 a0.ni, v8 a0.m.x0, v8 a0.m.x1, v8 a0.m.x2, v8 a0.m.x3, v8 a0.m.x4, v8 a0.m.x5, v8 a0.m.x6, v8 a0.m.x7, v8 a0.m.x8, v8 a0.m.x9, v8 a0.m.x10, v8 a0.m.x11] 31]) (by kernel_rfl) ?_
                refine o_run 3 [88, 93] (l := []) .nil (E' := [(88, .slice A6 l2.length c6), (93, v64 (I64 (t7 - (l2.length : Int))))]) (by kernel_rfl) ?_
                obtain ⟨l3, hx5, hm⟩ := bind_some hm
                obtain ⟨l4, hx6, hm⟩ := bind_some hm
                refine o_stp ?_ (by kernel_rfl)
                refine s_appM (z := v8 0) (zx := 0) (enc := (encI .u8)) (bytes := 1) (kn := .i64) (kq := .i64) 94 32 3 (.tmp 88) (.tmp 93) 1 hx5 hx6 rfl (by kernel_rfl) (by kernel_rfl) (by kernel_rfl) (by kernel_rfl) (by kernel_rfl) (by kernel_rfl) rfl rfl rfl rfl (by decide) (fun A7 c7 => ?_)
                refine t_L (L' := [.blk g2 [v8 29, v8 16, v8 a0.ki, v8 a0.ni] 5, .own A7 l4.length c7 (rowOf e8 l4) 1 5, .blk g1 [vb a0.hM, v16 a0.ms, vb a0.hS, v8 a0.sc, vb a0.sO, .slice none 0 0, vb a0.hT, v32 a0.va, v32 a0.ec, vb a0.hO, v8 a0.ki, v8 a0.ni, v8 a0.m.x0, v8 a0.m.x1, v8 a0.m.x2, v8 a0.m.x3, v8 a0.m.x4, v8 a0.m.x5, v8 a0.m.x6, v8 a0.m.x7, v8 a0.m.x8, v8 a0.m.x9, v8 a0.m.x10, v8 a0.m.x11] 31]) (by kernel_rfl) ?_
                refine o_run 2 [2, 3] (l := []) .nil (E' := [(2, .slice A7 l4.length c7), (3, v64 0)]) (by kernel_rfl) ?_
                refine o_end (by kernel_rfl) ?_
                refine e_seq ?_
                refine w_ret (by kernel_rfl) ?_
                obtain rfl := Option.some.inj hm
                exact e_retP (A7, c7) (.tuple #[.slice A7 l4.length c7, v64 0]) [1] (by kernel_rfl) (by kernel_rfl) rfl (by kernel_rfl) (by kernel_rfl) trivial
              · replace hm := ite_f hb2 hm
                refine w_skip (by kernel_rfl) ?_
                refine e_seq ?_
                refine w_seq 4094 4095 (by kernel_rfl) ?_
                refine w_region (by kernel_rfl) ?_
                refine o_run 1 [1, 4, 88] (l := []) .nil (E' := [(1, (pg g1)), (4, .slice A4 ((t5).length) c4), (88, .slice A4 ((t5).length) c4)]) (by kernel_rfl) ?_
                refine o_val 89 (.load 31 (.tmp 1)) (.agg #[vb a0.hM, v16 a0.ms, vb a0.hS, v8 a0.sc, vb a0.sO, .slice none 0 0, vb a0.hT, v32 a0.va, v32 a0.ec, vb a0.hO, v8 a0.ki, v8 a0.ni, v8 a0.m.x0, v8 a0.m.x1, v8 a0.m.x2, v8 a0.m.x3, v8 a0.m.x4, v8 a0.m.x5, v8 a0.m.x6, v8 a0.m.x7, v8 a0.m.x8, v8 a0.m.x9, v8 a0.m.x10, v8 a0.m.x11]) (by kernel_rfl) (v_load (l := [vb a0.hM, v16 a0.ms, vb a0.hS, v8 a0.sc, vb a0.sO, .slice none 0 0, vb a0.hT, v32 a0.va, v32 a0.ec, vb a0.hO, v8 a0.ki, v8 a0.ni, v8 a0.m.x0, v8 a0.m.x1, v8 a0.m.x2, v8 a0.m.x3, v8 a0.m.x4, v8 a0.m.x5, v8 a0.m.x6, v8 a0.m.x7, v8 a0.m.x8, v8 a0.m.x9, v8 a0.m.x10, v8 a0.m.x11]) (a := ⟨g1, 0, none⟩) (by kernel_rfl) (by kernel_rfl) (at_blk (j := 1) rfl rfl)) ?_
                obtain ⟨t8, hx7, hm⟩ := bind_some hm
                refine o_stp ?_ (by kernel_rfl)
                refine s_call 90 53 #[.agg #[vb a0.hM, v16 a0.ms, vb a0.hS, v8 a0.sc, vb a0.sO, .slice none 0 0, vb a0.hT, v32 a0.va, v32 a0.ec, vb a0.hO, v8 a0.ki, v8 a0.ni, v8 a0.m.x0, v8 a0.m.x1, v8 a0.m.x2, v8 a0.m.x3, v8 a0.m.x4, v8 a0.m.x5, v8 a0.m.x6, v8 a0.m.x7, v8 a0.m.x8, v8 a0.m.x9, v8 a0.m.x10, v8 a0.m.x11]] [] [0, 1] (by kernel_rfl) (by kernel_rfl) (fun w hs => opts_Size_ok a0 t8 hx7 B _ w (St.cast (by kernel_rfl) hs)) (fun _ hx => ?_)
                refine t_L (L' := [.own A4 ((t5).length) c4 (rowOf e8 t5) 1 5, .blk g1 [vb a0.hM, v16 a0.ms, vb a0.hS, v8 a0.sc, vb a0.sO, .slice none 0 0, vb a0.hT, v32 a0.va, v32 a0.ec, vb a0.hO, v8 a0.ki, v8 a0.ni, v8 a0.m.x0, v8 a0.m.x1, v8 a0.m.x2, v8 a0.m.x3, v8 a0.m.x4, v8 a0.m.x5, v8 a0.m.x6, v8 a0.m.x7, v8 a0.m.x8, v8 a0.m.x9, v8 a0.m.x10, v8 a0.m.x11] 31]) (by kernel_rfl) ?_
                refine o_run 3 [88, 93] (l := []) .nil (E' := [(88, .slice A4 ((t5).length) c4), (93, v64 (I64 (t8 - ((t5).length : Int))))]) (by kernel_rfl) ?_
                obtain ⟨l5, hx8, hm⟩ := bind_some hm
                obtain ⟨l6, hx9, hm⟩ := bind_some hm
                refine o_stp ?_ (by kernel_rfl)
                refine s_appM (z := v8 0) (zx := 0) (enc := (encI .u8)) (bytes := 1) (kn := .i64) (kq := .i64) 94 32 3 (.tmp 88) (.tmp 93) 0 hx8 hx9 rfl (by kernel_rfl) (by kernel_rfl) (by kernel_rfl) (by kernel_rfl) (by kernel_rfl) (by kernel_rfl) rfl rfl rfl rfl (by decide) (fun A8 c8 => ?_)
                refine t_L (L' := [.own A8 l6.length c8 (rowOf e8 l6) 1 5, .blk g1 [vb a0.hM, v16 a0.ms, vb a0.hS, v8 a0.sc, vb a0.sO, .slice none 0 0, vb a0.hT, v32 a0.va, v32 a0.ec, vb a0.hO, v8 a0.ki, v8 a0.ni, v8 a0.m.x0, v8 a0.m.x1, v8 a0.m.x2, v8 a0.m.x3, v8 a0.m.x4, v8 a0.m.x5, v8 a0.m.x6, v8 a0.m.x7, v8 a0.m.x8, v8 a0.m.x9, v8 a0.m.x10, v8 a0.m.x11] 31]) (by kernel_rfl) ?_
                refine o_run 2 [2, 3] (l := []) .nil (E' := [(2, .slice A8 l6.length c8), (3, v64 0)]) (by kernel_rfl) ?_
                refine o_end (by kernel_rfl) ?_
                refine e_seq ?_
                refine w_ret (by kernel_rfl) ?_
                obtain rfl := Option.some.inj hm
                exact e_retP (A8, c8) (.tuple #[.slice A8 l6.length c8, v64 0]) [0] (by kernel_rfl) (by kernel_rfl) rfl (by kernel_rfl) (by kernel_rfl) trivial
            · rintro k a w ⟨hm, ha, hw⟩
              cases k with
              | zero => exact absurd hm (by simp [opts_Lay.l1])
              | succ k =>
                unfold opts_Lay.l1 at hm
                refine wc_of (E := [(1, (pg g1)), (4, .slice A4 ((t5).length) c4), (59, .slice none 0 0), (60, v64 0), (61, v64 0)]) (B := B) (G := G) (L := [.own A4 ((t5).length) c4 (rowOf e8 t5) 1 5, .blk g1 [vb a0.hM, v16 a0.ms, vb a0.hS, v8 a0.sc, vb a0.sO, .slice none 0 0, vb a0.hT, v32 a0.va, v32 a0.ec, vb a0.hO, v8 a0.ki, v8 a0.ni, v8 a0.m.x0, v8 a0.m.x1, v8 a0.m.x2, v8 a0.m.x3, v8 a0.m.x4, v8 a0.m.x5, v8 a0.m.x6, v8 a0.m.x7, v8 a0.m.x8, v8 a0.m.x9, v8 a0.m.x10, v8 a0.m.x11] 31]) ?_ ha hw
                refine w_seq 16360 16361 (by kernel_rfl) ?_
                refine w_region (by kernel_rfl) ?_
                refine o_run 1 [1, 4, 59, 60, 61, 62] (l := []) .nil (E' := [(1, (pg g1)), (4, .slice A4 ((t5).length) c4), (59, .slice none 0 0), (60, v64 0), (61, v64 0), (62, vb false)]) (by kernel_rfl) ?_
                refine o_end (by kernel_rfl) ?_
                refine e_seq ?_
                refine w_seq 32722 32723 (by kernel_rfl) ?_
                refine w_cond_f (.tmp 62) 65444 65445 (by kernel_rfl) (by kernel_rfl) ?_
                refine w_exit 0 (by kernel_rfl) ?_
                refine e_x_seq ?_
                refine e_x_inv ?_
                refine e_x_here ?_
                refine t_drop [0, 1] (by kernel_rfl) ?_
                refine t_L (L' := [.own A4 ((t5).length) c4 (rowOf e8 t5) 1 5, .blk g1 [vb a0.hM, v16 a0.ms, vb a0.hS, v8 a0.sc, vb a0.sO, .slice none 0 0, vb a0.hT, v32 a0.va, v32 a0.ec, vb a0.hO, v8 a0.ki, v8 a0.ni, v8 a0.m.x0, v8 a0.m.x1, v8 a0.m.x2, v8 a0.m.x3, v8 a0.m.x4, v8 a0.m.x5, v8 a0.m.x6, v8 a0.m.x7, v8 a0.m.x8, v8 a0.m.x9, v8 a0.m.x10, v8 a0.m.x11] 31]) (by kernel_rfl) ?_
                refine t_env [1, 4] (E' := [(1, (pg g1)), (4, .slice A4 ((t5).length) c4)]) (by kernel_rfl) ?_
                obtain rfl := Option.some.inj hm
                exact e_inv (fun a w ha hw => ⟨ha, hw⟩)
            · exact fun a w ha hw => ⟨ht5, ha, hw⟩
          · have hm := ht4
            refine w_cond (.tmp 34) 1018 1019 a0.hT (by kernel_rfl) (by kernel_rfl) (fun hb3 => ?_) (fun hb3 => ?_)
            · replace hm := ite_t hb3 hm
              obtain ⟨l7, hx10, hm⟩ := bind_some hm
              obtain ⟨t9, hx13, hm⟩ := bind_some hm
              refine w_joinJ (fun a w => ∃ (A11 : Option Addr) (c11 : Nat) (A12 : Option Addr) (c12 : Nat) (g5 : Nat), EnvOk [(1, (pg g1)), (4, .slice A12 t9.length c12)] Try.f29.ntmps a ∧ St B G [.own A11 l7.length c11 (rowOf e8 l7) 1 5, .own A12 t9.length c12 (rowOf e8 t9) 1 5, .blk g5 [v8 8, v8 10] 5, .blk g1 [vb a0.hM, v16 a0.ms, vb a0.hS, v8 a0.sc, vb a0.sO, .slice none 0 0, vb a0.hT, v32 a0.va, v32 a0.ec, vb a0.hO, v8 a0.ki, v8 a0.ni, v8 a0.m.x0, v8 a0.m.x1, v8 a0.m.x2, v8 a0.m.x3, v8 a0.m.x4, v8 a0.m.x5, v8 a0.m.x6, v8 a0.m.x7, v8 a0.m.x8, v8 a0.m.x9, v8 a0.m.x10, v8 a0.m.x11] 31] w) ?_ ?_
              · rintro a w ⟨A11, c11, A12, c12, g5, ha, hw⟩
                refine we_of (E := [(1, (pg g1)), (4, .slice A12 t9.length c12)]) (B := B) (G := G) (L := [.own A11 l7.length c11 (rowOf e8 l7) 1 5, .own A12 t9.length c12 (rowOf e8 t9) 1 5, .blk g5 [v8 8, v8 10] 5, .blk g1 [vb a0.hM, v16 a0.ms, vb a0.hS, v8 a0.sc, vb a0.sO, .slice none 0 0, vb a0.hT, v32 a0.va, v32 a0.ec, vb a0.hO, v8 a0.ki, v8 a0.ni, v8 a0.m.x0, v8 a0.m.x1, v8 a0.m.x2, v8 a0.m.x3, v8 a0.m.x4, v8 a0.m.x5, v8 a0.m.x6, v8 a0.m.x7, v8 a0.m.x8, v8 a0.m.x9, v8 a0.m.x10, v8 a0.m.x11] 31]) ?_ ha hw
                refine t_drop [1, 2, 3] (by kernel_rfl) ?_
                refine t_L (L' := [.own A12 t9.length c12 (rowOf e8 t9) 1 5, .blk g5 [v8 8, v8 10] 5, .blk g1 [vb a0.hM, v16 a0.ms, vb a0.hS, v8 a0.sc, vb a0.sO, .slice none 0 0, vb a0.hT, v32 a0.va, v32 a0.ec, vb a0.hO, v8 a0.ki, v8 a0.ni, v8 a0.m.x0, v8 a0.m.x1, v8 a0.m.x2, v8 a0.m.x3, v8 a0.m.x4, v8 a0.m.x5, v8 a0.m.x6, v8 a0.m.x7, v8 a0.m.x8, v8 a0.m.x9, v8 a0.m.x10, v8 a0.m.x11] 31]) (by kernel_rfl) ?_
                refine t_drop [0, 2] (by kernel_rfl) ?_
                refine t_L (L' := [.own A12 t9.length c12 (rowOf e8 t9) 1 5, .blk g1 [vb a0.hM, v16 a0.ms, vb a0.hS, v8 a0.sc, vb a0.sO, .slice none 0 0, vb a0.hT, v32 a0.va, v32 a0.ec, vb a0.hO, v8 a0.ki, v8 a0.ni, v8 a0.m.x0, v8 a0.m.x1, v8 a0.m.x2, v8 a0.m.x3, v8 a0.m.x4, v8 a0.m.x5, v8 a0.m.x6, v8 a0.m.x7, v8 a0.m.x8, v8 a0.m.x9, v8 a0.m.x10, v8 a0.m.x11] 31]) (by kernel_rfl) ?_
                refine t_env [1, 4] (E' := [(1, (pg g1)), (4, .slice A12 t9.length c12)]) (by kernel_rfl) ?_
                obtain rfl := Option.some.inj hm
                exact e_inv (fun a w ha hw => ⟨A12, c12, ha, hw⟩)
              · refine w_tail 10 [.blk g1 [vb a0.hM, v16 a0.ms, vb a0.hS, v8 a0.sc, vb a0.sO, .slice none 0 0, vb a0.hT, v32 a0.va, v32 a0.ec, vb a0.hO, v8 a0.ki, v8 a0.ni, v8 a0.m.x0, v8 a0.m.x1, v8 a0.m.x2, v8 a0.m.x3, v8 a0.m.x4, v8 a0.m.x5, v8 a0.m.x6, v8 a0.m.x7, v8 a0.m.x8, v8 a0.m.x9, v8 a0.m.x10, v8 a0.m.x11] 31] (by kernel_rfl) mixed (by kernel_rfl) ?_
                refine tt_run [0, 3, 4, 5, 6, 7, 8] [1, 4, 35, 40, 43] [1] 3 (listed' := #[true, false, false, true, true, true, true, true, true, false, false, false]) (l := [(⟨g1, 7, none⟩, v32 a0.va), (⟨g1, 8, none⟩, v32 a0.ec)]) (.one (at_blk (j := 0) rfl rfl) (.one (at_blk (j := 0) rfl rfl) .nil)) (E' := [(1, (pg g1)), (4, .slice A3 ((t4).length) c3), (35, .slice A3 ((t4).length) c3), (40, w64 (U64 a0.va)), (43, w64 (U64 a0.ec))]) (by kernel_rfl) (by kernel_rfl) (by kernel_rfl) (Ext.refl _) (by kernel_rfl) (by kernel_rfl) ?_
                refine tt_all [1, 9] [1] (Ext.refl _) (by kernel_rfl) (by kernel_rfl) (by kernel_rfl) (by kernel_rfl) ⟨?_, ?_, trivial⟩
                · refine s_new 36 (fun g6 => .slice (ag g6) 2 2) [v8 8, v8 10] 5 (fun _ => by kernel_rfl) (fun g6 => ?_)
                  refine tt_all [2, 9] [2] (Ext.refl _) (by kernel_rfl) (by kernel_rfl) (by kernel_rfl) (by kernel_rfl) ⟨?_, ?_, trivial⟩
                  · refine s_app (z := v8 0) (enc := (encI .u8)) (ys := [8, 10]) (k := 2) (bytes := 1) 37 32 32 (.tmp 35) (.tmp 36) 1 hx10 rfl rfl (by kernel_rfl) (by kernel_rfl) (by kernel_rfl) (by kernel_rfl) (by kernel_rfl) (by kernel_rfl) rfl (src_blk (e := 5) (j := 0) (by kernel_rfl) rfl (by kernel_rfl) rfl (by kernel_rfl)) (by decide) (fun A13 c13 => ?_)
                    refine t_L (L' := [.blk g6 [v8 8, v8 10] 5, .own A13 l7.length c13 (rowOf e8 l7) 1 5, .blk g1 [vb a0.hM, v16 a0.ms, vb a0.hS, v8 a0.sc, vb a0.sO, .slice none 0 0, vb a0.hT, v32 a0.va, v32 a0.ec, vb a0.hO, v8 a0.ki, v8 a0.ni, v8 a0.m.x0, v8 a0.m.x1, v8 a0.m.x2, v8 a0.m.x3, v8 a0.m.x4, v8 a0.m.x5, v8 a0.m.x6, v8 a0.m.x7, v8 a0.m.x8, v8 a0.m.x9, v8 a0.m.x10, v8 a0.m.x11] 31]) (by kernel_rfl) ?_
                    refine tt_stp 9 [2] (Ext.refl _) (by kernel_rfl) (by kernel_rfl) (by kernel_rfl) (by kernel_rfl) ?_
                    refine s_new 44 (fun g7 => .slice (ag g7) 2 2) [w64 (U64 a0.va), w64 (U64 a0.ec)] 60 (fun _ => by kernel_rfl) (fun g7 => ?_)
                    refine tt_end [3] (Ext.refl _) (by kernel_rfl) (by kernel_rfl) (by kernel_rfl) ?_
                    refine t_drop [2, 0, 1, 3] (by kernel_rfl) ?_
                    refine t_L (L' := [.own A13 l7.length c13 (rowOf e8 l7) 1 5, .blk g7 [w64 (U64 a0.va), w64 (U64 a0.ec)] 60, .blk g6 [v8 8, v8 10] 5, .blk g1 [vb a0.hM, v16 a0.ms, vb a0.hS, v8 a0.sc, vb a0.sO, .slice none 0 0, vb a0.hT, v32 a0.va, v32 a0.ec, vb a0.hO, v8 a0.ki, v8 a0.ni, v8 a0.m.x0, v8 a0.m.x1, v8 a0.m.x2, v8 a0.m.x3, v8 a0.m.x4, v8 a0.m.x5, v8 a0.m.x6, v8 a0.m.x7, v8 a0.m.x8, v8 a0.m.x9, v8 a0.m.x10, v8 a0.m.x11] 31]) (by kernel_rfl) ?_
                    refine t_lendS (kI .u8) rfl rfl (fun B3 hx14 hs3 hb5 => ?_)
                    refine t_blk_own (m := 2) (sz := 1) (by rfl) (by rfl) ?_
                    refine t_L (L' := [.own (ag g7) ([U64 a0.va, U64 a0.ec].length) 2 (rowOf (encI .u64) [U64 a0.va, U64 a0.ec]) 1 60, .blk g6 [v8 8, v8 10] 5, .blk g1 [vb a0.hM, v16 a0.ms, vb a0.hS, v8 a0.sc, vb a0.sO, .slice none 0 0, vb a0.hT, v32 a0.va, v32 a0.ec, vb a0.hO, v8 a0.ki, v8 a0.ni, v8 a0.m.x0, v8 a0.m.x1, v8 a0.m.x2, v8 a0.m.x3, v8 a0.m.x4, v8 a0.m.x5, v8 a0.m.x6, v8 a0.m.x7, v8 a0.m.x8, v8 a0.m.x9, v8 a0.m.x10, v8 a0.m.x11] 31]) (by kernel_rfl) ?_
                    refine t_frozS (kI .u64) rfl rfl (fun B4 hx15 hs4 => ?_)
                    refine o_stp ?_ (by kernel_rfl)
                    refine s_call 45 30 #[.slice A13 l7.length c13, v64 4, .slice (ag g7) [U64 a0.va, U64 a0.ec].length 2] [] [0, 1] (by kernel_rfl) (by kernel_rfl) (fun w hs => octets_Put_ok k l7 4 [U64 a0.va, U64 a0.ec] t9 hx13 B4 _ A13 c13 (ag g7) 2 (hs3.up hx15) hs4 w (St.cast (by kernel_rfl) hs)) (fun x hx => ?_)
                    obtain ⟨A14, c14⟩ := x
                    refine t_L (L' := [.own A14 t9.length c14 (rowOf e8 t9) 1 5, .blk g6 [v8 8, v8 10] 5, .blk g1 [vb a0.hM, v16 a0.ms, vb a0.hS, v8 a0.sc, vb a0.sO, .slice none 0 0, vb a0.hT, v32 a0.va, v32 a0.ec, vb a0.hO, v8 a0.ki, v8 a0.ni, v8 a0.m.x0, v8 a0.m.x1, v8 a0.m.x2, v8 a0.m.x3, v8 a0.m.x4, v8 a0.m.x5, v8 a0.m.x6, v8 a0.m.x7, v8 a0.m.x8, v8 a0.m.x9, v8 a0.m.x10, v8 a0.m.x11] 31]) (by kernel_rfl) ?_
                    refine t_back hb5 hx15 ?_
                    refine o_run 1 [1, 4] (l := []) .nil (E' := [(1, (pg g1)), (4, .slice A14 t9.length c14)]) (by kernel_rfl) ?_
                    refine o_end (by kernel_rfl) ?_
                    refine t_drop [0, 1, 2, 3] (by kernel_rfl) ?_
                    refine t_L (L' := [.own A13 l7.length c13 (rowOf e8 l7) 1 5, .own A14 t9.length c14 (rowOf e8 t9) 1 5, .blk g6 [v8 8, v8 10] 5, .blk g1 [vb a0.hM, v16 a0.ms, vb a0.hS, v8 a0.sc, vb a0.sO, .slice none 0 0, vb a0.hT, v32 a0.va, v32 a0.ec, vb a0.hO, v8 a0.ki, v8 a0.ni, v8 a0.m.x0, v8 a0.m.x1, v8 a0.m.x2, v8 a0.m.x3, v8 a0.m.x4, v8 a0.m.x5, v8 a0.m.x6, v8 a0.m.x7, v8 a0.m.x8, v8 a0.m.x9, v8 a0.m.x10, v8 a0.m.x11] 31]) (by kernel_rfl) ?_
                    refine t_env [1, 4] (E' := [(1, (pg g1)), (4, .slice A14 t9.length c14)]) (by kernel_rfl) ?_
                    exact e_inv (fun a w ha hw => ⟨A13, c13, A14, c14, g6, ha, hw⟩)
                  · refine s_new 44 (fun g8 => .slice (ag g8) 2 2) [w64 (U64 a0.va), w64 (U64 a0.ec)] 60 (fun _ => by kernel_rfl) (fun g8 => ?_)
                    refine tt_stp 2 [3] (Ext.refl _) (by kernel_rfl) (by kernel_rfl) (by kernel_rfl) (by kernel_rfl) ?_
                    refine s_app (z := v8 0) (enc := (encI .u8)) (ys := [8, 10]) (k := 2) (bytes := 1) 37 32 32 (.tmp 35) (.tmp 36) 2 hx10 rfl rfl (by kernel_rfl) (by kernel_rfl) (by kernel_rfl) (by kernel_rfl) (by kernel_rfl) (by kernel_rfl) rfl (src_blk (e := 5) (j := 1) (by kernel_rfl) rfl (by kernel_rfl) rfl (by kernel_rfl)) (by decide) (fun A15 c15 => ?_)
                    refine t_L (L' := [.blk g8 [w64 (U64 a0.va), w64 (U64 a0.ec)] 60, .blk g6 [v8 8, v8 10] 5, .own A15 l7.length c15 (rowOf e8 l7) 1 5, .blk g1 [vb a0.hM, v16 a0.ms, vb a0.hS, v8 a0.sc, vb a0.sO, .slice none 0 0, vb a0.hT, v32 a0.va, v32 a0.ec, vb a0.hO, v8 a0.ki, v8 a0.ni, v8 a0.m.x0, v8 a0.m.x1, v8 a0.m.x2, v8 a0.m.x3, v8 a0.m.x4, v8 a0.m.x5, v8 a0.m.x6, v8 a0.m.x7, v8 a0.m.x8, v8 a0.m.x9, v8 a0.m.x10, v8 a0.m.x11] 31]) (by kernel_rfl) ?_
                    refine tt_end [3] (Ext.refl _) (by kernel_rfl) (by kernel_rfl) (by kernel_rfl) ?_
                    refine t_drop [2, 0, 1, 3] (by kernel_rfl) ?_
                    refine t_L (L' := [.own A15 l7.length c15 (rowOf e8 l7) 1 5, .blk g8 [w64 (U64 a0.va), w64 (U64 a0.ec)] 60, .blk g6 [v8 8, v8 10] 5, .blk g1 [vb a0.hM, v16 a0.ms, vb a0.hS, v8 a0.sc, vb a0.sO, .slice none 0 0, vb a0.hT, v32 a0.va, v32 a0.ec, vb a0.hO, v8 a0.ki, v8 a0.ni, v8 a0.m.x0, v8 a0.m.x1, v8 a0.m.x2, v8 a0.m.x3, v8 a0.m.x4, v8 a0.m.x5, v8 a0.m.x6, v8 a0.m.x7, v8 a0.m.x8, v8 a0.m.x9, v8 a0.m.x10, v8 a0.m.x11] 31]) (by kernel_rfl) ?_
                    refine t_lendS (kI .u8) rfl rfl (fun B5 hx16 hs5 hb6 => ?_)
                    refine t_blk_own (m := 2) (sz := 1) (by rfl) (by rfl) ?_
                    refine t_L (L' := [.own (ag g8) ([U64 a0.va, U64 a0.ec].length) 2 (rowOf (encI .u64) [U64 a0.va, U64 a0.ec]) 1 60, .blk g6 [v8 8, v8 10] 5, .blk g1 [vb a0.hM, v16 a0.ms, vb a0.hS, v8 a0.sc, vb a0.sO, .slice none 0 0, vb a0.hT, v32 a0.va, v32 a0.ec, vb a0.hO, v8 a0.ki, v8 a0.ni, v8 a0.m.x0, v8 a0.m.x1, v8 a0.m.x2, v8 a0.m.x3, v8 a0.m.x4, v8 a0.m.x5, v8 a0.m.x6, v8 a0.m.x7, v8 a0.m.x8, v8 a0.m.x9, v8 a0.m.x10, v8 a0.m.x11] 31]) (by kernel_rfl) ?_
                    refine t_frozS (kI .u64) rfl rfl (fun B6 hx17 hs6 => ?_)
                    refine o_stp ?_ (by kernel_rfl)
                    refine s_call 45 30 #[.slice A15 l7.length c15, v64 4, .slice (ag g8) [U64 a0.va, U64 a0.ec].length 2] [] [0, 1] (by kernel_rfl) (by kernel_rfl) (fun w hs => octets_Put_ok k l7 4 [U64 a0.va, U64 a0.ec] t9 hx13 B6 _ A15 c15 (ag g8) 2 (hs5.up hx17) hs6 w (St.cast (by kernel_rfl) hs)) (fun x hx => ?_)
                    obtain ⟨A16, c16⟩ := x
                    refine t_L (L' := [.own A16 t9.length c16 (rowOf e8 t9) 1 5, .blk g6 [v8 8, v8 10] 5, .blk g1 [vb a0.hM, v16 a0.ms, vb a0.hS, v8 a0.sc, vb a0.sO, .slice none 0 0, vb a0.hT, v32 a0.va, v32 a0.ec, vb a0.hO, v8 a0.ki, v8 a0.ni, v8 a0.m.x0, v8 a0.m.x1, v8 a0.m.x2, v8 a0.m.x3, v8 a0.m.x4, v8 a0.m.x5, v8 a0.m.x6, v8 a0.m.x7, v8 a0.m.x8, v8 a0.m.x9, v8 a0.m.x10, v8 a0.m.x11] 31]) (by kernel_rfl) ?_
                    refine t_back hb6 hx17 ?_
                    refine o_run 1 [1, 4] (l := []) .nil (E' := [(1, (pg g1)), (4, .slice A16 t9.length c16)]) (by kernel_rfl) ?_
                    refine o_end (by kernel_rfl) ?_
                    refine t_drop [0, 1, 2, 3] (by kernel_rfl) ?_
                    refine t_L (L' := [.own A15 l7.length c15 (rowOf e8 l7) 1 5, .own A16 t9.length c16 (rowOf e8 t9) 1 5, .blk g6 [v8 8, v8 10] 5, .blk g1 [vb a0.hM, v16 a0.ms, vb a0.hS, v8 a0.sc, vb a0.sO, .slice none 0 0, vb a0.hT, v32 a0.va, v32 a0.ec, vb a0.hO, v8 a0.ki, v8 a0.ni, v8 a0.m.x0, v8 a0.m.x1, v8 a0.m.x2, v8 a0.m.x3, v8 a0.m.x4, v8 a0.m.x5, v8 a0.m.x6, v8 a0.m.x7, v8 a0.m.x8, v8 a0.m.x9, v8 a0.m.x10, v8 a0.m.x11] 31]) (by kernel_rfl) ?_
                    refine t_env [1, 4] (E' := [(1, (pg g1)), (4, .slice A16 t9.length c16)]) (by kernel_rfl) ?_
                    exact e_inv (fun a w ha hw => ⟨A15, c15, A16, c16, g6, ha, hw⟩)
                · refine s_new 44 (fun g9 => .slice (ag g9) 2 2) [w64 (U64 a0.va), w64 (U64 a0.ec)] 60 (fun _ => by kernel_rfl) (fun g9 => ?_)
                  refine tt_stp 1 [2] (Ext.refl _) (by kernel_rfl) (by kernel_rfl) (by kernel_rfl) (by kernel_rfl) ?_
                  refine s_new 36 (fun g10 => .slice (ag g10) 2 2) [v8 8, v8 10] 5 (fun _ => by kernel_rfl) (fun g10 => ?_)
                  refine tt_stp 2 [3] (Ext.refl _) (by kernel_rfl) (by kernel_rfl) (by kernel_rfl) (by kernel_rfl) ?_
                  refine s_app (z := v8 0) (enc := (encI .u8)) (ys := [8, 10]) (k := 2) (bytes := 1) 37 32 32 (.tmp 35) (.tmp 36) 2 hx10 rfl rfl (by kernel_rfl) (by kernel_rfl) (by kernel_rfl) (by kernel_rfl) (by kernel_rfl) (by kernel_rfl) rfl (src_blk (e := 5) (j := 0) (by kernel_rfl) rfl (by kernel_rfl) rfl (by kernel_rfl)) (by decide) (fun A17 c17 => ?_)
                  refine t_L (L' := [.blk g10 [v8 8, v8 10] 5, .blk g9 [w64 (U64 a0.va), w64 (U64 a0.ec)] 60, .own A17 l7.length c17 (rowOf e8 l7) 1 5, .blk g1 [vb a0.hM, v16 a0.ms, vb a0.hS, v8 a0.sc, vb a0.sO, .slice none 0 0, vb a0.hT, v32 a0.va, v32 a0.ec, vb a0.hO, v8 a0.ki, v8 a0.ni, v8 a0.m.x0, v8 a0.m.x1, v8 a0.m.x2, v8 a0.m.x3, v8 a0.m.x4, v8 a0.m.x5, v8 a0.m.x6, v8 a0.m.x7, v8 a0.m.x8, v8 a0.m.x9, v8 a0.m.x10, v8 a0.m.x11] 31]) (by kernel_rfl) ?_
                  refine tt_end [3] (Ext.refl _) (by kernel_rfl) (by kernel_rfl) (by kernel_rfl) ?_
                  refine t_drop [2, 0, 1, 3] (by kernel_rfl) ?_
                  refine t_L (L' := [.own A17 l7.length c17 (rowOf e8 l7) 1 5, .blk g10 [v8 8, v8 10] 5, .blk g9 [w64 (U64 a0.va), w64 (U64 a0.ec)] 60, .blk g1 [vb a0.hM, v16 a0.ms, vb a0.hS, v8 a0.sc, vb a0.sO, .slice none 0 0, vb a0.hT, v32 a0.va, v32 a0.ec, vb a0.hO, v8 a0.ki, v8 a0.ni, v8 a0.m.x0, v8 a0.m.x1, v8 a0.m.x2, v8 a0.m.x3, v8 a0.m.x4, v8 a0.m.x5, v8 a0.m.x6, v8 a0.m.x7, v8 a0.m.x8, v8 a0.m.x9, v8 a0.m.x10, v8 a0.m.x11] 31]) (by kernel_rfl) ?_
                  refine t_lendS (kI .u8) rfl rfl (fun B7 hx18 hs7 hb7 => ?_)
                  refine t_drop [1, 0, 2] (by kernel_rfl) ?_
                  refine t_L (L' := [.blk g9 [w64 (U64 a0.va), w64 (U64 a0.ec)] 60, .blk g10 [v8 8, v8 10] 5, .blk g1 [vb a0.hM, v16 a0.ms, vb a0.hS, v8 a0.sc, vb a0.sO, .slice none 0 0, vb a0.hT, v32 a0.va, v32 a0.ec, vb a0.hO, v8 a0.ki, v8 a0.ni, v8 a0.m.x0, v8 a0.m.x1, v8 a0.m.x2, v8 a0.m.x3, v8 a0.m.x4, v8 a0.m.x5, v8 a0.m.x6, v8 a0.m.x7, v8 a0.m.x8, v8 a0.m.x9, v8 a0.m.x10, v8 a0.m.x11] 31]) (by kernel_rfl) ?_
                  refine t_blk_own (m := 2) (sz := 1) (by rfl) (by rfl) ?_
                  refine t_L (L' := [.own (ag g9) ([U64 a0.va, U64 a0.ec].length) 2 (rowOf (encI .u64) [U64 a0.va, U64 a0.ec]) 1 60, .blk g10 [v8 8, v8 10] 5, .blk g1 [vb a0.hM, v16 a0.ms, vb a0.hS, v8 a0.sc, vb a0.sO, .slice none 0 0, vb a0.hT, v32 a0.va, v32 a0.ec, vb a0.hO, v8 a0.ki, v8 a0.ni, v8 a0.m.x0, v8 a0.m.x1, v8 a0.m.x2, v8 a0.m.x3, v8 a0.m.x4, v8 a0.m.x5, v8 a0.m.x6, v8 a0.m.x7, v8 a0.m.x8, v8 a0.m.x9, v8 a0.m.x10, v8 a0.m.x11] 31]) (by kernel_rfl) ?_
                  refine t_frozS (kI .u64) rfl rfl (fun B8 hx19 hs8 => ?_)
                  refine o_stp ?_ (by kernel_rfl)
                  refine s_call 45 30 #[.slice A17 l7.length c17, v64 4, .slice (ag g9) [U64 a0.va, U64 a0.ec].length 2] [] [0, 1] (by kernel_rfl) (by kernel_rfl) (fun w hs => octets_Put_ok k l7 4 [U64 a0.va, U64 a0.ec] t9 hx13 B8 _ A17 c17 (ag g9) 2 (hs7.up hx19) hs8 w (St.cast (by kernel_rfl) hs)) (fun x hx => ?_)
                  obtain ⟨A18, c18⟩ := x
                  refine t_L (L' := [.own A18 t9.length c18 (rowOf e8 t9) 1 5, .blk g10 [v8 8, v8 10] 5, .blk g1 [vb a0.hM, v16 a0.ms, vb a0.hS, v8 a0.sc, vb a0.sO, .slice none 0 0, vb a0.hT, v32 a0.va, v32 a0.ec, vb a0.hO, v8 a0.ki, v8 a0.ni, v8 a0.m.x0, v8 a0.m.x1, v8 a0.m.x2, v8 a0.m.x3, v8 a0.m.x4, v8 a0.m.x5, v8 a0.m.x6, v8 a0.m.x7, v8 a0.m.x8, v8 a0.m.x9, v8 a0.m.x10, v8 a0.m.x11] 31]) (by kernel_rfl) ?_
                  refine t_back hb7 hx19 ?_
                  refine o_run 1 [1, 4] (l := []) .nil (E' := [(1, (pg g1)), (4, .slice A18 t9.length c18)]) (by kernel_rfl) ?_
                  refine o_end (by kernel_rfl) ?_
                  refine t_drop [0, 1, 2, 3] (by kernel_rfl) ?_
                  refine t_L (L' := [.own A17 l7.length c17 (rowOf e8 l7) 1 5, .own A18 t9.length c18 (rowOf e8 t9) 1 5, .blk g10 [v8 8, v8 10] 5, .blk g1 [vb a0.hM, v16 a0.ms, vb a0.hS, v8 a0.sc, vb a0.sO, .slice none 0 0, vb a0.hT, v32 a0.va, v32 a0.ec, vb a0.hO, v8 a0.ki, v8 a0.ni, v8 a0.m.x0, v8 a0.m.x1, v8 a0.m.x2, v8 a0.m.x3, v8 a0.m.x4, v8 a0.m.x5, v8 a0.m.x6, v8 a0.m.x7, v8 a0.m.x8, v8 a0.m.x9, v8 a0.m.x10, v8 a0.m.x11] 31]) (by kernel_rfl) ?_
                  refine t_env [1, 4] (E' := [(1, (pg g1)), (4, .slice A18 t9.length c18)]) (by kernel_rfl) ?_
                  exact e_inv (fun a w ha hw => ⟨A17, c17, A18, c18, g10, ha, hw⟩)
            · replace hm := ite_f hb3 hm
              refine w_skip (by kernel_rfl) ?_
              refine t_drop [0, 1] (by kernel_rfl) ?_
              refine t_L (L' := [.own A3 ((t4).length) c3 (rowOf e8 t4) 1 5, .blk g1 [vb a0.hM, v16 a0.ms, vb a0.hS, v8 a0.sc, vb a0.sO, .slice none 0 0, vb a0.hT, v32 a0.va, v32 a0.ec, vb a0.hO, v8 a0.ki, v8 a0.ni, v8 a0.m.x0, v8 a0.m.x1, v8 a0.m.x2, v8 a0.m.x3, v8 a0.m.x4, v8 a0.m.x5, v8 a0.m.x6, v8 a0.m.x7, v8 a0.m.x8, v8 a0.m.x9, v8 a0.m.x10, v8 a0.m.x11] 31]) (by kernel_rfl) ?_
              refine t_env [1, 4] (E' := [(1, (pg g1)), (4, .slice A3 ((t4).length) c3)]) (by kernel_rfl) ?_
              obtain rfl := Option.some.inj hm
              exact e_inv (fun a w ha hw => ⟨A3, c3, ha, hw⟩)
        · have hm := ht3
          refine w_cond (.tmp 29) 506 507 a0.sO (by kernel_rfl) (by kernel_rfl) (fun hb8 => ?_) (fun hb8 => ?_)
          · replace hm := ite_t hb8 hm
            refine w_region (by kernel_rfl) ?_
            refine o_run 1 [1, 30] (l := []) .nil (E' := [(1, (pg g1)), (30, .slice A2 ((t3).length) c2)]) (by kernel_rfl) ?_
            refine o_stp ?_ (by kernel_rfl)
            refine s_new 31 (fun g11 => .slice (ag g11) 2 2) [v8 4, v8 2] 5 (fun _ => by kernel_rfl) (fun g11 => ?_)
            obtain ⟨l8, hx20, hm⟩ := bind_some hm
            refine o_stp ?_ (by kernel_rfl)
            refine s_app (z := v8 0) (enc := (encI .u8)) (ys := [4, 2]) (k := 2) (bytes := 1) 32 32 32 (.tmp 30) (.tmp 31) 1 hx20 rfl rfl (by kernel_rfl) (by kernel_rfl) (by kernel_rfl) (by kernel_rfl) (by kernel_rfl) (by kernel_rfl) rfl (src_blk (e := 5) (j := 0) (by kernel_rfl) rfl (by kernel_rfl) rfl (by kernel_rfl)) (by decide) (fun A19 c19 => ?_)
            refine t_L (L' := [.blk g11 [v8 4, v8 2] 5, .own A19 l8.length c19 (rowOf e8 l8) 1 5, .blk g1 [vb a0.hM, v16 a0.ms, vb a0.hS, v8 a0.sc, vb a0.sO, .slice none 0 0, vb a0.hT, v32 a0.va, v32 a0.ec, vb a0.hO, v8 a0.ki, v8 a0.ni, v8 a0.m.x0, v8 a0.m.x1, v8 a0.m.x2, v8 a0.m.x3, v8 a0.m.x4, v8 a0.m.x5, v8 a0.m.x6, v8 a0.m.x7, v8 a0.m.x8, v8 a0.m.x9, v8 a0.m.x10, v8 a0.m.x11] 31]) (by kernel_rfl) ?_
            refine o_run 1 [1, 4] (l := []) .nil (E' := [(1, (pg g1)), (4, .slice A19 l8.length c19)]) (by kernel_rfl) ?_
            refine o_end (by kernel_rfl) ?_
            refine t_drop [1, 2] (by kernel_rfl) ?_
            refine t_L (L' := [.own A19 l8.length c19 (rowOf e8 l8) 1 5, .blk g1 [vb a0.hM, v16 a0.ms, vb a0.hS, v8 a0.sc, vb a0.sO, .slice none 0 0, vb a0.hT, v32 a0.va, v32 a0.ec, vb a0.hO, v8 a0.ki, v8 a0.ni, v8 a0.m.x0, v8 a0.m.x1, v8 a0.m.x2, v8 a0.m.x3, v8 a0.m.x4, v8 a0.m.x5, v8 a0.m.x6, v8 a0.m.x7, v8 a0.m.x8, v8 a0.m.x9, v8 a0.m.x10, v8 a0.m.x11] 31]) (by kernel_rfl) ?_
            refine t_env [1, 4] (E' := [(1, (pg g1)), (4, .slice A19 l8.length c19)]) (by kernel_rfl) ?_
            obtain rfl := Option.some.inj hm
            exact e_inv (fun a w ha hw => ⟨A19, c19, ha, hw⟩)
          · replace hm := ite_f hb8 hm
            refine w_skip (by kernel_rfl) ?_
            refine t_drop [0, 1] (by kernel_rfl) ?_
            refine t_L (L' := [.own A2 ((t3).length) c2 (rowOf e8 t3) 1 5, .blk g1 [vb a0.hM, v16 a0.ms, vb a0.hS, v8 a0.sc, vb a0.sO, .slice none 0 0, vb a0.hT, v32 a0.va, v32 a0.ec, vb a0.hO, v8 a0.ki, v8 a0.ni, v8 a0.m.x0, v8 a0.m.x1, v8 a0.m.x2, v8 a0.m.x3, v8 a0.m.x4, v8 a0.m.x5, v8 a0.m.x6, v8 a0.m.x7, v8 a0.m.x8, v8 a0.m.x9, v8 a0.m.x10, v8 a0.m.x11] 31]) (by kernel_rfl) ?_
            refine t_env [1, 4] (E' := [(1, (pg g1)), (4, .slice A2 ((t3).length) c2)]) (by kernel_rfl) ?_
            obtain rfl := Option.some.inj hm
            exact e_inv (fun a w ha hw => ⟨A2, c2, ha, hw⟩)
      · have hm := ht2
        refine w_cond (.tmp 22) 250 251 a0.hS (by kernel_rfl) (by kernel_rfl) (fun hb9 => ?_) (fun hb9 => ?_)
        · replace hm := ite_t hb9 hm
          refine w_region (by kernel_rfl) ?_
          refine o_run 3 [1, 23, 25] (l := [(⟨g1, 3, none⟩, v8 a0.sc)]) (.one (at_blk (j := 1) rfl rfl) .nil) (E' := [(1, (pg g1)), (23, .slice A1 ((t2).length) c1), (25, v8 a0.sc)]) (by kernel_rfl) ?_
          refine o_stp ?_ (by kernel_rfl)
          refine s_new 26 (fun g12 => .slice (ag g12) 3 3) [v8 3, v8 3, v8 a0.sc] 5 (fun _ => by kernel_rfl) (fun g12 => ?_)
          obtain ⟨l9, hx21, hm⟩ := bind_some hm
          refine o_stp ?_ (by kernel_rfl)
          refine s_app (z := v8 0) (enc := (encI .u8)) (ys := [3, 3, a0.sc]) (k := 3) (bytes := 1) 27 32 32 (.tmp 23) (.tmp 26) 1 hx21 rfl rfl (by kernel_rfl) (by kernel_rfl) (by kernel_rfl) (by kernel_rfl) (by kernel_rfl) (by kernel_rfl) rfl (src_blk (e := 5) (j := 0) (by kernel_rfl) rfl (by kernel_rfl) rfl (by kernel_rfl)) (by decide) (fun A20 c20 => ?_)
          refine t_L (L' := [.blk g12 [v8 3, v8 3, v8 a0.sc] 5, .own A20 l9.length c20 (rowOf e8 l9) 1 5, .blk g1 [vb a0.hM, v16 a0.ms, vb a0.hS, v8 a0.sc, vb a0.sO, .slice none 0 0, vb a0.hT, v32 a0.va, v32 a0.ec, vb a0.hO, v8 a0.ki, v8 a0.ni, v8 a0.m.x0, v8 a0.m.x1, v8 a0.m.x2, v8 a0.m.x3, v8 a0.m.x4, v8 a0.m.x5, v8 a0.m.x6, v8 a0.m.x7, v8 a0.m.x8, v8 a0.m.x9, v8 a0.m.x10, v8 a0.m.x11] 31]) (by kernel_rfl) ?_
          refine o_run 1 [1, 4] (l := []) .nil (E' := [(1, (pg g1)), (4, .slice A20 l9.length c20)]) (by kernel_rfl) ?_
          refine o_end (by kernel_rfl) ?_
          refine t_drop [1, 2] (by kernel_rfl) ?_
          refine t_L (L' := [.own A20 l9.length c20 (rowOf e8 l9) 1 5, .blk g1 [vb a0.hM, v16 a0.ms, vb a0.hS, v8 a0.sc, vb a0.sO, .slice none 0 0, vb a0.hT, v32 a0.va, v32 a0.ec, vb a0.hO, v8 a0.ki, v8 a0.ni, v8 a0.m.x0, v8 a0.m.x1, v8 a0.m.x2, v8 a0.m.x3, v8 a0.m.x4, v8 a0.m.x5, v8 a0.m.x6, v8 a0.m.x7, v8 a0.m.x8, v8 a0.m.x9, v8 a0.m.x10, v8 a0.m.x11] 31]) (by kernel_rfl) ?_
          refine t_env [1, 4] (E' := [(1, (pg g1)), (4, .slice A20 l9.length c20)]) (by kernel_rfl) ?_
          obtain rfl := Option.some.inj hm
          exact e_inv (fun a w ha hw => ⟨A20, c20, ha, hw⟩)
        · replace hm := ite_f hb9 hm
          refine w_skip (by kernel_rfl) ?_
          refine t_drop [0, 1] (by kernel_rfl) ?_
          refine t_L (L' := [.own A1 ((t2).length) c1 (rowOf e8 t2) 1 5, .blk g1 [vb a0.hM, v16 a0.ms, vb a0.hS, v8 a0.sc, vb a0.sO, .slice none 0 0, vb a0.hT, v32 a0.va, v32 a0.ec, vb a0.hO, v8 a0.ki, v8 a0.ni, v8 a0.m.x0, v8 a0.m.x1, v8 a0.m.x2, v8 a0.m.x3, v8 a0.m.x4, v8 a0.m.x5, v8 a0.m.x6, v8 a0.m.x7, v8 a0.m.x8, v8 a0.m.x9, v8 a0.m.x10, v8 a0.m.x11] 31]) (by kernel_rfl) ?_
          refine t_env [1, 4] (E' := [(1, (pg g1)), (4, .slice A1 ((t2).length) c1)]) (by kernel_rfl) ?_
          obtain rfl := Option.some.inj hm
          exact e_inv (fun a w ha hw => ⟨A1, c1, ha, hw⟩)
    · have hm := ht1
      refine w_cond (.tmp 12) 122 123 a0.hM (by kernel_rfl) (by kernel_rfl) (fun hb10 => ?_) (fun hb10 => ?_)
      · replace hm := ite_t hb10 hm
        obtain ⟨l10, hx22, hm⟩ := bind_some hm
        obtain ⟨t10, hx25, hm⟩ := bind_some hm
        refine w_joinJ (fun a w => ∃ (A23 : Option Addr) (c23 : Nat) (A24 : Option Addr) (c24 : Nat) (g15 : Nat), EnvOk [(1, (pg g1)), (4, .slice A24 t10.length c24)] Try.f29.ntmps a ∧ St B G [.own A23 l10.length c23 (rowOf e8 l10) 1 5, .own A24 t10.length c24 (rowOf e8 t10) 1 5, .blk g15 [v8 2, v8 4] 5, .blk g1 [vb a0.hM, v16 a0.ms, vb a0.hS, v8 a0.sc, vb a0.sO, .slice none 0 0, vb a0.hT, v32 a0.va, v32 a0.ec, vb a0.hO, v8 a0.ki, v8 a0.ni, v8 a0.m.x0, v8 a0.m.x1, v8 a0.m.x2, v8 a0.m.x3, v8 a0.m.x4, v8 a0.m.x5, v8 a0.m.x6, v8 a0.m.x7, v8 a0.m.x8, v8 a0.m.x9, v8 a0.m.x10, v8 a0.m.x11] 31] w) ?_ ?_
        · rintro a w ⟨A23, c23, A24, c24, g15, ha, hw⟩
          refine we_of (E := [(1, (pg g1)), (4, .slice A24 t10.length c24)]) (B := B) (G := G) (L := [.own A23 l10.length c23 (rowOf e8 l10) 1 5, .own A24 t10.length c24 (rowOf e8 t10) 1 5, .blk g15 [v8 2, v8 4] 5, .blk g1 [vb a0.hM, v16 a0.ms, vb a0.hS, v8 a0.sc, vb a0.sO, .slice none 0 0, vb a0.hT, v32 a0.va, v32 a0.ec, vb a0.hO, v8 a0.ki, v8 a0.ni, v8 a0.m.x0, v8 a0.m.x1, v8 a0.m.x2, v8 a0.m.x3, v8 a0.m.x4, v8 a0.m.x5, v8 a0.m.x6, v8 a0.m.x7, v8 a0.m.x8, v8 a0.m.x9, v8 a0.m.x10, v8 a0.m.x11] 31]) ?_ ha hw
          refine t_drop [1, 3] (by kernel_rfl) ?_
          refine t_L (L' := [.own A24 t10.length c24 (rowOf e8 t10) 1 5, .blk g1 [vb a0.hM, v16 a0.ms, vb a0.hS, v8 a0.sc, vb a0.sO, .slice none 0 0, vb a0.hT, v32 a0.va, v32 a0.ec, vb a0.hO, v8 a0.ki, v8 a0.ni, v8 a0.m.x0, v8 a0.m.x1, v8 a0.m.x2, v8 a0.m.x3, v8 a0.m.x4, v8 a0.m.x5, v8 a0.m.x6, v8 a0.m.x7, v8 a0.m.x8, v8 a0.m.x9, v8 a0.m.x10, v8 a0.m.x11] 31]) (by kernel_rfl) ?_
          refine t_env [1, 4] (E' := [(1, (pg g1)), (4, .slice A24 t10.length c24)]) (by kernel_rfl) ?_
          obtain rfl := Option.some.inj hm
          exact e_inv (fun a w ha hw => ⟨A24, c24, ha, hw⟩)
        · refine w_tail 7 [.blk g1 [vb a0.hM, v16 a0.ms, vb a0.hS, v8 a0.sc, vb a0.sO, .slice none 0 0, vb a0.hT, v32 a0.va, v32 a0.ec, vb a0.hO, v8 a0.ki, v8 a0.ni, v8 a0.m.x0, v8 a0.m.x1, v8 a0.m.x2, v8 a0.m.x3, v8 a0.m.x4, v8 a0.m.x5, v8 a0.m.x6, v8 a0.m.x7, v8 a0.m.x8, v8 a0.m.x9, v8 a0.m.x10, v8 a0.m.x11] 31] (by kernel_rfl) mixed (by kernel_rfl) ?_
          refine tt_run [0, 3, 4, 5] [1, 4, 13, 18] [0] 3 (listed' := #[true, false, false, true, true, true, false, false, false]) (l := [(⟨g1, 1, none⟩, v16 a0.ms)]) (.one (at_blk (j := 0) rfl rfl) .nil) (E' := [(1, (pg g1)), (4, .slice none 0 0), (13, .slice none 0 0), (18, w64 (U64 a0.ms))]) (by kernel_rfl) (by kernel_rfl) (by kernel_rfl) (Ext.refl _) (by kernel_rfl) (by kernel_rfl) ?_
          refine tt_all [1, 6] [0] (Ext.refl _) (by kernel_rfl) (by kernel_rfl) (by kernel_rfl) (by kernel_rfl) ⟨?_, ?_, trivial⟩
          · refine s_new 14 (fun g16 => .slice (ag g16) 2 2) [v8 2, v8 4] 5 (fun _ => by kernel_rfl) (fun g16 => ?_)
            refine tt_all [2, 6] [1] (Ext.refl _) (by kernel_rfl) (by kernel_rfl) (by kernel_rfl) (by kernel_rfl) ⟨?_, ?_, trivial⟩
            · refine t_nil 5 1 ?_
              refine t_L (L' := [.own none (([] : List Int).length) 0 (rowOf e8 ([] : List Int)) 1 5, .blk g16 [v8 2, v8 4] 5, .blk g1 [vb a0.hM, v16 a0.ms, vb a0.hS, v8 a0.sc, vb a0.sO, .slice none 0 0, vb a0.hT, v32 a0.va, v32 a0.ec, vb a0.hO, v8 a0.ki, v8 a0.ni, v8 a0.m.x0, v8 a0.m.x1, v8 a0.m.x2, v8 a0.m.x3, v8 a0.m.x4, v8 a0.m.x5, v8 a0.m.x6, v8 a0.m.x7, v8 a0.m.x8, v8 a0.m.x9, v8 a0.m.x10, v8 a0.m.x11] 31]) (by kernel_rfl) ?_
              refine s_app (z := v8 0) (enc := (encI .u8)) (ys := [2, 4]) (k := 2) (bytes := 1) 15 32 32 (.tmp 13) (.tmp 14) 0 hx22 rfl rfl (by kernel_rfl) (by kernel_rfl) (by kernel_rfl) (by kernel_rfl) (by kernel_rfl) (by kernel_rfl) rfl (src_blk (e := 5) (j := 1) (by kernel_rfl) rfl (by kernel_rfl) rfl (by kernel_rfl)) (by decide) (fun A25 c25 => ?_)
              refine t_L (L' := [.own A25 l10.length c25 (rowOf e8 l10) 1 5, .blk g16 [v8 2, v8 4] 5, .blk g1 [vb a0.hM, v16 a0.ms, vb a0.hS, v8 a0.sc, vb a0.sO, .slice none 0 0, vb a0.hT, v32 a0.va, v32 a0.ec, vb a0.hO, v8 a0.ki, v8 a0.ni, v8 a0.m.x0, v8 a0.m.x1, v8 a0.m.x2, v8 a0.m.x3, v8 a0.m.x4, v8 a0.m.x5, v8 a0.m.x6, v8 a0.m.x7, v8 a0.m.x8, v8 a0.m.x9, v8 a0.m.x10, v8 a0.m.x11] 31]) (by kernel_rfl) ?_
              refine tt_stp 6 [2] (Ext.refl _) (by kernel_rfl) (by kernel_rfl) (by kernel_rfl) (by kernel_rfl) ?_
              refine s_new 19 (fun g17 => .slice (ag g17) 1 1) [w64 (U64 a0.ms)] 60 (fun _ => by kernel_rfl) (fun g17 => ?_)
              refine tt_end [3] (Ext.refl _) (by kernel_rfl) (by kernel_rfl) (by kernel_rfl) ?_
              refine t_drop [1, 0, 2, 3] (by kernel_rfl) ?_
              refine t_L (L' := [.own A25 l10.length c25 (rowOf e8 l10) 1 5, .blk g17 [w64 (U64 a0.ms)] 60, .blk g16 [v8 2, v8 4] 5, .blk g1 [vb a0.hM, v16 a0.ms, vb a0.hS, v8 a0.sc, vb a0.sO, .slice none 0 0, vb a0.hT, v32 a0.va, v32 a0.ec, vb a0.hO, v8 a0.ki, v8 a0.ni, v8 a0.m.x0, v8 a0.m.x1, v8 a0.m.x2, v8 a0.m.x3, v8 a0.m.x4, v8 a0.m.x5, v8 a0.m.x6, v8 a0.m.x7, v8 a0.m.x8, v8 a0.m.x9, v8 a0.m.x10, v8 a0.m.x11] 31]) (by kernel_rfl) ?_
              refine t_lendS (kI .u8) rfl rfl (fun B11 hx26 hs11 hb12 => ?_)
              refine t_blk_own (m := 1) (sz := 1) (by rfl) (by rfl) ?_
              refine t_L (L' := [.own (ag g17) ([U64 a0.ms].length) 1 (rowOf (encI .u64) [U64 a0.ms]) 1 60, .blk g16 [v8 2, v8 4] 5, .blk g1 [vb a0.hM, v16 a0.ms, vb a0.hS, v8 a0.sc, vb a0.sO, .slice none 0 0, vb a0.hT, v32 a0.va, v32 a0.ec, vb a0.hO, v8 a0.ki, v8 a0.ni, v8 a0.m.x0, v8 a0.m.x1, v8 a0.m.x2, v8 a0.m.x3, v8 a0.m.x4, v8 a0.m.x5, v8 a0.m.x6, v8 a0.m.x7, v8 a0.m.x8, v8 a0.m.x9, v8 a0.m.x10, v8 a0.m.x11] 31]) (by kernel_rfl) ?_
              refine t_frozS (kI .u64) rfl rfl (fun B12 hx27 hs12 => ?_)
              refine o_stp ?_ (by kernel_rfl)
              refine s_call 20 30 #[.slice A25 l10.length c25, v64 2, .slice (ag g17) [U64 a0.ms].length 1] [] [0, 1] (by kernel_rfl) (by kernel_rfl) (fun w hs => octets_Put_ok k l10 2 [U64 a0.ms] t10 hx25 B12 _ A25 c25 (ag g17) 1 (hs11.up hx27) hs12 w (St.cast (by kernel_rfl) hs)) (fun x hx => ?_)
              obtain ⟨A26, c26⟩ := x
              refine t_L (L' := [.own A26 t10.length c26 (rowOf e8 t10) 1 5, .blk g16 [v8 2, v8 4] 5, .blk g1 [vb a0.hM, v16 a0.ms, vb a0.hS, v8 a0.sc, vb a0.sO, .slice none 0 0, vb a0.hT, v32 a0.va, v32 a0.ec, vb a0.hO, v8 a0.ki, v8 a0.ni, v8 a0.m.x0, v8 a0.m.x1, v8 a0.m.x2, v8 a0.m.x3, v8 a0.m.x4, v8 a0.m.x5, v8 a0.m.x6, v8 a0.m.x7, v8 a0.m.x8, v8 a0.m.x9, v8 a0.m.x10, v8 a0.m.x11] 31]) (by kernel_rfl) ?_
              refine t_back hb12 hx27 ?_
              refine o_run 1 [1, 4] (l := []) .nil (E' := [(1, (pg g1)), (4, .slice A26 t10.length c26)]) (by kernel_rfl) ?_
              refine o_end (by kernel_rfl) ?_
              refine t_drop [0, 1, 2, 3] (by kernel_rfl) ?_
              refine t_L (L' := [.own A25 l10.length c25 (rowOf e8 l10) 1 5, .own A26 t10.length c26 (rowOf e8 t10) 1 5, .blk g16 [v8 2, v8 4] 5, .blk g1 [vb a0.hM, v16 a0.ms, vb a0.hS, v8 a0.sc, vb a0.sO, .slice none 0 0, vb a0.hT, v32 a0.va, v32 a0.ec, vb a0.hO, v8 a0.ki, v8 a0.ni, v8 a0.m.x0, v8 a0.m.x1, v8 a0.m.x2, v8 a0.m.x3, v8 a0.m.x4, v8 a0.m.x5, v8 a0.m.x6, v8 a0.m.x7, v8 a0.m.x8, v8 a0.m.x9, v8 a0.m.x10, v8 a0.m.x11] 31]) (by kernel_rfl) ?_
              refine t_env [1, 4] (E' := [(1, (pg g1)), (4, .slice A26 t10.length c26)]) (by kernel_rfl) ?_
              exact e_inv (fun a w ha hw => ⟨A25, c25, A26, c26, g16, ha, hw⟩)
            · refine s_new 19 (fun g18 => .slice (ag g18) 1 1) [w64 (U64 a0.ms)] 60 (fun _ => by kernel_rfl) (fun g18 => ?_)
              refine t_nil 5 1 ?_
              refine t_L (L' := [.own none (([] : List Int).length) 0 (rowOf e8 ([] : List Int)) 1 5, .blk g18 [w64 (U64 a0.ms)] 60, .blk g16 [v8 2, v8 4] 5, .blk g1 [vb a0.hM, v16 a0.ms, vb a0.hS, v8 a0.sc, vb a0.sO, .slice none 0 0, vb a0.hT, v32 a0.va, v32 a0.ec, vb a0.hO, v8 a0.ki, v8 a0.ni, v8 a0.m.x0, v8 a0.m.x1, v8 a0.m.x2, v8 a0.m.x3, v8 a0.m.x4, v8 a0.m.x5, v8 a0.m.x6, v8 a0.m.x7, v8 a0.m.x8, v8 a0.m.x9, v8 a0.m.x10, v8 a0.m.x11] 31]) (by kernel_rfl) ?_
              refine tt_stp 2 [3] (Ext.refl _) (by kernel_rfl) (by kernel_rfl) (by kernel_rfl) (by kernel_rfl) ?_
              refine s_app (z := v8 0) (enc := (encI .u8)) (ys := [2, 4]) (k := 2) (bytes := 1) 15 32 32 (.tmp 13) (.tmp 14) 0 hx22 rfl rfl (by kernel_rfl) (by kernel_rfl) (by kernel_rfl) (by kernel_rfl) (by kernel_rfl) (by kernel_rfl) rfl (src_blk (e := 5) (j := 2) (by kernel_rfl) rfl (by kernel_rfl) rfl (by kernel_rfl)) (by decide) (fun A27 c27 => ?_)
              refine t_L (L' := [.own A27 l10.length c27 (rowOf e8 l10) 1 5, .blk g18 [w64 (U64 a0.ms)] 60, .blk g16 [v8 2, v8 4] 5, .blk g1 [vb a0.hM, v16 a0.ms, vb a0.hS, v8 a0.sc, vb a0.sO, .slice none 0 0, vb a0.hT, v32 a0.va, v32 a0.ec, vb a0.hO, v8 a0.ki, v8 a0.ni, v8 a0.m.x0, v8 a0.m.x1, v8 a0.m.x2, v8 a0.m.x3, v8 a0.m.x4, v8 a0.m.x5, v8 a0.m.x6, v8 a0.m.x7, v8 a0.m.x8, v8 a0.m.x9, v8 a0.m.x10, v8 a0.m.x11] 31]) (by kernel_rfl) ?_
              refine tt_end [3] (Ext.refl _) (by kernel_rfl) (by kernel_rfl) (by kernel_rfl) ?_
              refine t_lendS (kI .u8) rfl rfl (fun B13 hx28 hs13 hb13 => ?_)
              refine t_blk_own (m := 1) (sz := 1) (by rfl) (by rfl) ?_
              refine t_L (L' := [.own (ag g18) ([U64 a0.ms].length) 1 (rowOf (encI .u64) [U64 a0.ms]) 1 60, .blk g16 [v8 2, v8 4] 5, .blk g1 [vb a0.hM, v16 a0.ms, vb a0.hS, v8 a0.sc, vb a0.sO, .slice none 0 0, vb a0.hT, v32 a0.va, v32 a0.ec, vb a0.hO, v8 a0.ki, v8 a0.ni, v8 a0.m.x0, v8 a0.m.x1, v8 a0.m.x2, v8 a0.m.x3, v8 a0.m.x4, v8 a0.m.x5, v8 a0.m.x6, v8 a0.m.x7, v8 a0.m.x8, v8 a0.m.x9, v8 a0.m.x10, v8 a0.m.x11] 31]) (by kernel_rfl) ?_
              refine t_frozS (kI .u64) rfl rfl (fun B14 hx29 hs14 => ?_)
              refine o_stp ?_ (by kernel_rfl)
              refine s_call 20 30 #[.slice A27 l10.length c27, v64 2, .slice (ag g18) [U64 a0.ms].length 1] [] [0, 1] (by kernel_rfl) (by kernel_rfl) (fun w hs => octets_Put_ok k l10 2 [U64 a0.ms] t10 hx25 B14 _ A27 c27 (ag g18) 1 (hs13.up hx29) hs14 w (St.cast (by kernel_rfl) hs)) (fun x hx => ?_)
              obtain ⟨A28, c28⟩ := x
              refine t_L (L' := [.own A28 t10.length c28 (rowOf e8 t10) 1 5, .blk g16 [v8 2, v8 4] 5, .blk g1 [vb a0.hM, v16 a0.ms, vb a0.hS, v8 a0.sc, vb a0.sO, .slice none 0 0, vb a0.hT, v32 a0.va, v32 a0.ec, vb a0.hO, v8 a0.ki, v8 a0.ni, v8 a0.m.x0, v8 a0.m.x1, v8 a0.m.x2, v8 a0.m.x3, v8 a0.m.x4, v8 a0.m.x5, v8 a0.m.x6, v8 a0.m.x7, v8 a0.m.x8, v8 a0.m.x9, v8 a0.m.x10, v8 a0.m.x11] 31]) (by kernel_rfl) ?_
              refine t_back hb13 hx29 ?_
              refine o_run 1 [1, 4] (l := []) .nil (E' := [(1, (pg g1)), (4, .slice A28 t10.length c28)]) (by kernel_rfl) ?_
              refine o_end (by kernel_rfl) ?_
              refine t_drop [0, 1, 2, 3] (by kernel_rfl) ?_
              refine t_L (L' := [.own A27 l10.length c27 (rowOf e8 l10) 1 5, .own A28 t10.length c28 (rowOf e8 t10) 1 5, .blk g16 [v8 2, v8 4] 5, .blk g1 [vb a0.hM, v16 a0.ms, vb a0.hS, v8 a0.sc, vb a0.sO, .slice none 0 0, vb a0.hT, v32 a0.va, v32 a0.ec, vb a0.hO, v8 a0.ki, v8 a0.ni, v8 a0.m.x0, v8 a0.m.x1, v8 a0.m.x2, v8 a0.m.x3, v8 a0.m.x4, v8 a0.m.x5, v8 a0.m.x6, v8 a0.m.x7, v8 a0.m.x8, v8 a0.m.x9, v8 a0.m.x10, v8 a0.m.x11] 31]) (by kernel_rfl) ?_
              refine t_env [1, 4] (E' := [(1, (pg g1)), (4, .slice A28 t10.length c28)]) (by kernel_rfl) ?_
              exact e_inv (fun a w ha hw => ⟨A27, c27, A28, c28, g16, ha, hw⟩)
          · refine s_new 19 (fun g19 => .slice (ag g19) 1 1) [w64 (U64 a0.ms)] 60 (fun _ => by kernel_rfl) (fun g19 => ?_)
            refine tt_stp 1 [1] (Ext.refl _) (by kernel_rfl) (by kernel_rfl) (by kernel_rfl) (by kernel_rfl) ?_
            refine s_new 14 (fun g20 => .slice (ag g20) 2 2) [v8 2, v8 4] 5 (fun _ => by kernel_rfl) (fun g20 => ?_)
            refine t_nil 5 1 ?_
            refine t_L (L' := [.own none (([] : List Int).length) 0 (rowOf e8 ([] : List Int)) 1 5, .blk g20 [v8 2, v8 4] 5, .blk g19 [w64 (U64 a0.ms)] 60, .blk g1 [vb a0.hM, v16 a0.ms, vb a0.hS, v8 a0.sc, vb a0.sO, .slice none 0 0, vb a0.hT, v32 a0.va, v32 a0.ec, vb a0.hO, v8 a0.ki, v8 a0.ni, v8 a0.m.x0, v8 a0.m.x1, v8 a0.m.x2, v8 a0.m.x3, v8 a0.m.x4, v8 a0.m.x5, v8 a0.m.x6, v8 a0.m.x7, v8 a0.m.x8, v8 a0.m.x9, v8 a0.m.x10, v8 a0.m.x11] 31]) (by kernel_rfl) ?_
            refine tt_stp 2 [3] (Ext.refl _) (by kernel_rfl) (by kernel_rfl) (by kernel_rfl) (by kernel_rfl) ?_
            refine s_app (z := v8 0) (enc := (encI .u8)) (ys := [2, 4]) (k := 2) (bytes := 1) 15 32 32 (.tmp 13) (.tmp 14) 0 hx22 rfl rfl (by kernel_rfl) (by kernel_rfl) (by kernel_rfl) (by kernel_rfl) (by kernel_rfl) (by kernel_rfl) rfl (src_blk (e := 5) (j := 1) (by kernel_rfl) rfl (by kernel_rfl) rfl (by kernel_rfl)) (by decide) (fun A29 c29 => ?_)
            refine t_L (L' := [.own A29 l10.length c29 (rowOf e8 l10) 1 5, .blk g20 [v8 2, v8 4] 5, .blk g19 [w64 (U64 a0.ms)] 60, .blk g1 [vb a0.hM, v16 a0.ms, vb a0.hS, v8 a0.sc, vb a0.sO, .slice none 0 0, vb a0.hT, v32 a0.va, v32 a0.ec, vb a0.hO, v8 a0.ki, v8 a0.ni, v8 a0.m.x0, v8 a0.m.x1, v8 a0.m.x2, v8 a0.m.x3, v8 a0.m.x4, v8 a0.m.x5, v8 a0.m.x6, v8 a0.m.x7, v8 a0.m.x8, v8 a0.m.x9, v8 a0.m.x10, v8 a0.m.x11] 31]) (by kernel_rfl) ?_
            refine tt_end [3] (Ext.refl _) (by kernel_rfl) (by kernel_rfl) (by kernel_rfl) ?_
            refine t_lendS (kI .u8) rfl rfl (fun B15 hx30 hs15 hb14 => ?_)
            refine t_drop [1, 0, 2] (by kernel_rfl) ?_
            refine t_L (L' := [.blk g19 [w64 (U64 a0.ms)] 60, .blk g20 [v8 2, v8 4] 5, .blk g1 [vb a0.hM, v16 a0.ms, vb a0.hS, v8 a0.sc, vb a0.sO, .slice none 0 0, vb a0.hT, v32 a0.va, v32 a0.ec, vb a0.hO, v8 a0.ki, v8 a0.ni, v8 a0.m.x0, v8 a0.m.x1, v8 a0.m.x2, v8 a0.m.x3, v8 a0.m.x4, v8 a0.m.x5, v8 a0.m.x6, v8 a0.m.x7, v8 a0.m.x8, v8 a0.m.x9, v8 a0.m.x10, v8 a0.m.x11] 31]) (by kernel_rfl) ?_
            refine t_blk_own (m := 1) (sz := 1) (by rfl) (by rfl) ?_
            refine t_L (L' := [.own (ag g19) ([U64 a0.ms].length) 1 (rowOf (encI .u64) [U64 a0.ms]) 1 60, .blk g20 [v8 2, v8 4] 5, .blk g1 [vb a0.hM, v16 a0.ms, vb a0.hS, v8 a0.sc, vb a0.sO, .slice none 0 0, vb a0.hT, v32 a0.va, v32 a0.ec, vb a0.hO, v8 a0.ki, v8 a0.ni, v8 a0.m.x0, v8 a0.m.x1, v8 a0.m.x2, v8 a0.m.x3, v8 a0.m.x4, v8 a0.m.x5, v8 a0.m.x6, v8 a0.m.x7, v8 a0.m.x8, v8 a0.m.x9, v8 a0.m.x10, v8 a0.m.x11] 31]) (by kernel_rfl) ?_
            refine t_frozS (kI .u64) rfl rfl (fun B16 hx31 hs16 => ?_)
            refine o_stp ?_ (by kernel_rfl)
            refine s_call 20 30 #[.slice A29 l10.length c29, v64 2, .slice (ag g19) [U64 a0.ms].length 1] [] [0, 1] (by kernel_rfl) (by kernel_rfl) (fun w hs => octets_Put_ok k l10 2 [U64 a0.ms] t10 hx25 B16 _ A29 c29 (ag g19) 1 (hs15.up hx31) hs16 w (St.cast (by kernel_rfl) hs)) (fun x hx => ?_)
            obtain ⟨A30, c30⟩ := x
            refine t_L (L' := [.own A30 t10.length c30 (rowOf e8 t10) 1 5, .blk g20 [v8 2, v8 4] 5, .blk g1 [vb a0.hM, v16 a0.ms, vb a0.hS, v8 a0.sc, vb a0.sO, .slice none 0 0, vb a0.hT, v32 a0.va, v32 a0.ec, vb a0.hO, v8 a0.ki, v8 a0.ni, v8 a0.m.x0, v8 a0.m.x1, v8 a0.m.x2, v8 a0.m.x3, v8 a0.m.x4, v8 a0.m.x5, v8 a0.m.x6, v8 a0.m.x7, v8 a0.m.x8, v8 a0.m.x9, v8 a0.m.x10, v8 a0.m.x11] 31]) (by kernel_rfl) ?_
            refine t_back hb14 hx31 ?_
            refine o_run 1 [1, 4] (l := []) .nil (E' := [(1, (pg g1)), (4, .slice A30 t10.length c30)]) (by kernel_rfl) ?_
            refine o_end (by kernel_rfl) ?_
            refine t_drop [0, 1, 2, 3] (by kernel_rfl) ?_
            refine t_L (L' := [.own A29 l10.length c29 (rowOf e8 l10) 1 5, .own A30 t10.length c30 (rowOf e8 t10) 1 5, .blk g20 [v8 2, v8 4] 5, .blk g1 [vb a0.hM, v16 a0.ms, vb a0.hS, v8 a0.sc, vb a0.sO, .slice none 0 0, vb a0.hT, v32 a0.va, v32 a0.ec, vb a0.hO, v8 a0.ki, v8 a0.ni, v8 a0.m.x0, v8 a0.m.x1, v8 a0.m.x2, v8 a0.m.x3, v8 a0.m.x4, v8 a0.m.x5, v8 a0.m.x6, v8 a0.m.x7, v8 a0.m.x8, v8 a0.m.x9, v8 a0.m.x10, v8 a0.m.x11] 31]) (by kernel_rfl) ?_
            refine t_env [1, 4] (E' := [(1, (pg g1)), (4, .slice A30 t10.length c30)]) (by kernel_rfl) ?_
            exact e_inv (fun a w ha hw => ⟨A29, c29, A30, c30, g20, ha, hw⟩)
      · replace hm := ite_f hb10 hm
        refine w_skip (by kernel_rfl) ?_
        refine t_nil 5 1 ?_
        refine t_L (L' := [.own none (([] : List Int).length) 0 (rowOf e8 ([] : List Int)) 1 5, .blk g1 [vb a0.hM, v16 a0.ms, vb a0.hS, v8 a0.sc, vb a0.sO, .slice none 0 0, vb a0.hT, v32 a0.va, v32 a0.ec, vb a0.hO, v8 a0.ki, v8 a0.ni, v8 a0.m.x0, v8 a0.m.x1, v8 a0.m.x2, v8 a0.m.x3, v8 a0.m.x4, v8 a0.m.x5, v8 a0.m.x6, v8 a0.m.x7, v8 a0.m.x8, v8 a0.m.x9, v8 a0.m.x10, v8 a0.m.x11] 31]) (by kernel_rfl) ?_
        refine t_drop [0, 1] (by kernel_rfl) ?_
        refine t_L (L' := [.own none (([] : List Int).length) 0 (rowOf e8 ([] : List Int)) 1 5, .blk g1 [vb a0.hM, v16 a0.ms, vb a0.hS, v8 a0.sc, vb a0.sO, .slice none 0 0, vb a0.hT, v32 a0.va, v32 a0.ec, vb a0.hO, v8 a0.ki, v8 a0.ni, v8 a0.m.x0, v8 a0.m.x1, v8 a0.m.x2, v8 a0.m.x3, v8 a0.m.x4, v8 a0.m.x5, v8 a0.m.x6, v8 a0.m.x7, v8 a0.m.x8, v8 a0.m.x9, v8 a0.m.x10, v8 a0.m.x11] 31]) (by kernel_rfl) ?_
        refine t_env [1, 4] (E' := [(1, (pg g1)), (4, .slice none (([] : List Int).length) 0)]) (by kernel_rfl) ?_
        obtain rfl := Option.some.inj hm
        exact e_inv (fun a w ha hw => ⟨none, 0, ha, hw⟩)
def chksum_Pseudo.f (a0 : TA) (a1 : TA) (a2 : Int) (a3 : Int) : Option ((List Int)) :=
  (if !a0.xSix then (if !a1.xSix then ((app [a0.xB.x0, a0.xB.x1, a0.xB.x2, a0.xB.x3] [a1.xB.x0, a1.xB.x1, a1.xB.x2, a1.xB.x3]).bind fun l1 => ((app l1 [0, a2, U8 (bshr .i64 a3 8), U8 a3]).bind fun l2 => (some l2))) else ((app [a0.xB.x0, a0.xB.x1, a0.xB.x2, a0.xB.x3, a0.xB.x4, a0.xB.x5, a0.xB.x6, a0.xB.x7, a0.xB.x8, a0.xB.x9, a0.xB.x10, a0.xB.x11, a0.xB.x12, a0.xB.x13, a0.xB.x14, a0.xB.x15] [a1.xB.x0, a1.xB.x1, a1.xB.x2, a1.xB.x3, a1.xB.x4, a1.xB.x5, a1.xB.x6, a1.xB.x7, a1.xB.x8, a1.xB.x9, a1.xB.x10, a1.xB.x11, a1.xB.x12, a1.xB.x13, a1.xB.x14, a1.xB.x15]).bind fun l3 => ((app l3 [U8 (bshr .i64 a3 24), U8 (bshr .i64 a3 16), U8 (bshr .i64 a3 8), U8 a3, 0, 0, 0, a2]).bind fun l4 => (some l4)))) else ((app [a0.xB.x0, a0.xB.x1, a0.xB.x2, a0.xB.x3, a0.xB.x4, a0.xB.x5, a0.xB.x6, a0.xB.x7, a0.xB.x8, a0.xB.x9, a0.xB.x10, a0.xB.x11, a0.xB.x12, a0.xB.x13, a0.xB.x14, a0.xB.x15] [a1.xB.x0, a1.xB.x1, a1.xB.x2, a1.xB.x3, a1.xB.x4, a1.xB.x5, a1.xB.x6, a1.xB.x7, a1.xB.x8, a1.xB.x9, a1.xB.x10, a1.xB.x11, a1.xB.x12, a1.xB.x13, a1.xB.x14, a1.xB.x15]).bind fun l5 => ((app l5 [U8 (bshr .i64 a3 24), U8 (bshr .i64 a3 16), U8 (bshr .i64 a3 8), U8 a3, 0, 0, 0, a2]).bind fun l6 => (some l6))))
theorem chksum_Pseudo_ok (a0 : TA) (a1 : TA) (a2 : Int) (a3 : Int) (r : (List Int)) (hm : chksum_Pseudo.f a0 a1 a2 a3 = some r) (B G : Asn) (w : World) (hs : St B G [] w) :
    Calls Try.prog 55 #[.agg #[vb a0.xSix, v8 a0.xB.x0, v8 a0.xB.x1, v8 a0.xB.x2, v8 a0.xB.x3, v8 a0.xB.x4, v8 a0.xB.x5, v8 a0.xB.x6, v8 a0.xB.x7, v8 a0.xB.x8, v8 a0.xB.x9, v8 a0.xB.x10, v8 a0.xB.x11, v8 a0.xB.x12, v8 a0.xB.x13, v8 a0.xB.x14, v8 a0.xB.x15], .agg #[vb a1.xSix, v8 a1.xB.x0, v8 a1.xB.x1, v8 a1.xB.x2, v8 a1.xB.x3, v8 a1.xB.x4, v8 a1.xB.x5, v8 a1.xB.x6, v8 a1.xB.x7, v8 a1.xB.x8, v8 a1.xB.x9, v8 a1.xB.x10, v8 a1.xB.x11, v8 a1.xB.x12, v8 a1.xB.x13, v8 a1.xB.x14, v8 a1.xB.x15], v8 a2, v64 a3] w (Post (X := (Option Addr) × Nat) (fun x => .slice x.1 r.length x.2) (fun x => B) G (fun x => [.own x.1 r.length x.2 (rowOf e8 r) 1 5]) (fun x => True)) := by
  unfold chksum_Pseudo.f at hm
  refine calls_W (F := Try.f55) Try.func55 rfl (by kernel_rfl) (L := []) ?_ hs
  refine w_seq 2 3 (by kernel_rfl) ?_
  refine w_region (by kernel_rfl) ?_
  refine o_stp ?_ (by kernel_rfl)
  refine s_new 4 (fun g1 => (pg g1)) [vb a0.xSix, v8 a0.xB.x0, v8 a0.xB.x1, v8 a0.xB.x2, v8 a0.xB.x3, v8 a0.xB.x4, v8 a0.xB.x5, v8 a0.xB.x6, v8 a0.xB.x7, v8 a0.xB.x8, v8 a0.xB.x9, v8 a0.xB.x10, v8 a0.xB.x11, v8 a0.xB.x12, v8 a0.xB.x13, v8 a0.xB.x14, v8 a0.xB.x15] 24 (fun _ => by kernel_rfl) (fun g1 => ?_)
  refine o_stp ?_ (by kernel_rfl)
  refine s_new 5 (fun g2 => (pg g2)) [vb a1.xSix, v8 a1.xB.x0, v8 a1.xB.x1, v8 a1.xB.x2, v8 a1.xB.x3, v8 a1.xB.x4, v8 a1.xB.x5, v8 a1.xB.x6, v8 a1.xB.x7, v8 a1.xB.x8, v8 a1.xB.x9, v8 a1.xB.x10, v8 a1.xB.x11, v8 a1.xB.x12, v8 a1.xB.x13, v8 a1.xB.x14, v8 a1.xB.x15] 24 (fun _ => by kernel_rfl) (fun g2 => ?_)
  refine o_run 1 [2, 3, 4, 5] (l := []) .nil (E' := [(2, v8 a2), (3, v64 a3), (4, (pg g1)), (5, (pg g2))]) (by kernel_rfl) ?_
  refine o_end (by kernel_rfl) ?_
  refine e_seq ?_
  refine w_seq 6 7 (by kernel_rfl) ?_
  refine w_seq 12 13 (by kernel_rfl) ?_
  refine w_region (by kernel_rfl) ?_
  refine o_run 4 [2, 3, 4, 5, 14] (l := [(⟨g1, 0, none⟩, vb a0.xSix)]) (.one (at_blk (j := 1) rfl rfl) .nil) (E' := [(2, v8 a2), (3, v64 a3), (4, (pg g1)), (5, (pg g2)), (14, vb (!a0.xSix))]) (by kernel_rfl) ?_
  refine o_split 14 (!a0.xSix) (by kernel_rfl) (fun hb1 => ?_) (fun hb1 => ?_)
  · replace hm := ite_t hb1 hm
    refine o_run 4 [2, 3, 4, 5, 18] (l := [(⟨g2, 0, none⟩, vb a1.xSix)]) (.one (at_blk (j := 0) rfl rfl) .nil) (E' := [(2, v8 a2), (3, v64 a3), (4, (pg g1)), (5, (pg g2)), (18, vb (!a1.xSix))]) (by kernel_rfl) ?_
    refine o_end (by kernel_rfl) ?_
    refine e_seq ?_
    refine w_cond (.tmp 18) 26 27 (!a1.xSix) (by kernel_rfl) (by kernel_rfl) (fun hb2 => ?_) (fun hb2 => ?_)
    · replace hm := ite_t hb2 hm
      refine w_seq 52 53 (by kernel_rfl) ?_
      obtain ⟨l1, hx1, hm⟩ := bind_some hm
      refine w_tail 4 [.blk g2 [vb a1.xSix, v8 a1.xB.x0, v8 a1.xB.x1, v8 a1.xB.x2, v8 a1.xB.x3, v8 a1.xB.x4, v8 a1.xB.x5, v8 a1.xB.x6, v8 a1.xB.x7, v8 a1.xB.x8, v8 a1.xB.x9, v8 a1.xB.x10, v8 a1.xB.x11, v8 a1.xB.x12, v8 a1.xB.x13, v8 a1.xB.x14, v8 a1.xB.x15] 24, .blk g1 [vb a0.xSix, v8 a0.xB.x0, v8 a0.xB.x1, v8 a0.xB.x2, v8 a0.xB.x3, v8 a0.xB.x4, v8 a0.xB.x5, v8 a0.xB.x6, v8 a0.xB.x7, v8 a0.xB.x8, v8 a0.xB.x9, v8 a0.xB.x10, v8 a0.xB.x11, v8 a0.xB.x12, v8 a0.xB.x13, v8 a0.xB.x14, v8 a0.xB.x15] 24] (by kernel_rfl) mixed (by kernel_rfl) ?_
      refine tt_run [0, 2] [2, 3, 19, 21] [0, 1] 2 (listed' := #[true, false, true, false, false, false]) (l := []) .nil (E' := [(2, v8 a2), (3, v64 a3), (19, .pointer (some ⟨g1, 1, none⟩)), (21, .pointer (some ⟨g2, 1, none⟩))]) (by kernel_rfl) (by kernel_rfl) (by kernel_rfl) (Ext.refl _) (by kernel_rfl) (by kernel_rfl) ?_
      refine tt_val 1 20 (.slice 22 (.tmp 19) none (some (.const (v64 4))) (some (.const (v64 4)))) (.slice (some ⟨g1, 1, none⟩) 4 4) [0, 1] (by kernel_rfl) (v_sliceA (a := ⟨g1, 1, none⟩) (N := 16) (sz := 1) (l := none) (h := (some 4)) (k := (some 4)) (l' := 0) (h' := 4) (k' := 4) (by kernel_rfl) (by kernel_rfl) (by kernel_rfl) (by kernel_rfl) (by kernel_rfl) (fun _ => rfl) rfl rfl rfl rfl rfl rfl (by kernel_rfl)) (by kernel_rfl) (Ext.refl _) (by kernel_rfl) (by kernel_rfl) ?_
      refine tt_val 3 22 (.slice 22 (.tmp 21) none (some (.const (v64 4))) none) (.slice (some ⟨g2, 1, none⟩) 4 16) [0, 1] (by kernel_rfl) (v_sliceA (a := ⟨g2, 1, none⟩) (N := 16) (sz := 1) (l := none) (h := (some 4)) (k := none) (l' := 0) (h' := 4) (k' := 16) (by kernel_rfl) (by kernel_rfl) (by kernel_rfl) (by kernel_rfl) (by kernel_rfl) (fun h => by cases h) rfl rfl rfl rfl rfl rfl (by kernel_rfl)) (by kernel_rfl) (Ext.refl _) (by kernel_rfl) (by kernel_rfl) ?_
      refine tt_end [0, 1] (Ext.refl _) (by kernel_rfl) (by kernel_rfl) (by kernel_rfl) ?_
      refine o_stp ?_ (by kernel_rfl)
      refine s_appG (e := 5) (z := v8 0) (enc := (encI .u8)) (xs := [a0.xB.x0, a0.xB.x1, a0.xB.x2, a0.xB.x3]) (ys := [a1.xB.x0, a1.xB.x1, a1.xB.x2, a1.xB.x3]) (q := 4) (k := 4) (c := 4) (a := ⟨g1, 1, none⟩) (bytes := 1) 23 32 32 (.tmp 20) (.tmp 22) hx1 rfl rfl (by kernel_rfl) (by kernel_rfl) (by kernel_rfl) (by kernel_rfl) (by kernel_rfl) (by kernel_rfl) (at_blk (j := 1) rfl (by kernel_rfl)) (by kernel_rfl) (by kernel_rfl) (src_part (e := 5) (j := 0) (l := rowOf e8 [a1.xB.x0, a1.xB.x1, a1.xB.x2, a1.xB.x3]) (sz := 1) (o := 1) (c := 16) (k := 4) (by kernel_rfl) rfl (by kernel_rfl) (by kernel_rfl) (by kernel_rfl)) (by decide) rfl (fun A2 c2 => ?_)
      refine t_L (L' := [.own A2 l1.length c2 (rowOf e8 l1) 1 5, .blk g2 [vb a1.xSix, v8 a1.xB.x0, v8 a1.xB.x1, v8 a1.xB.x2, v8 a1.xB.x3, v8 a1.xB.x4, v8 a1.xB.x5, v8 a1.xB.x6, v8 a1.xB.x7, v8 a1.xB.x8, v8 a1.xB.x9, v8 a1.xB.x10, v8 a1.xB.x11, v8 a1.xB.x12, v8 a1.xB.x13, v8 a1.xB.x14, v8 a1.xB.x15] 24, .blk g1 [vb a0.xSix, v8 a0.xB.x0, v8 a0.xB.x1, v8 a0.xB.x2, v8 a0.xB.x3, v8 a0.xB.x4, v8 a0.xB.x5, v8 a0.xB.x6, v8 a0.xB.x7, v8 a0.xB.x8, v8 a0.xB.x9, v8 a0.xB.x10, v8 a0.xB.x11, v8 a0.xB.x12, v8 a0.xB.x13, v8 a0.xB.x14, v8 a0.xB.x15] 24]) (by kernel_rfl) ?_
      refine o_run 1 [2, 3, 9] (l := []) .nil (E' := [(2, v8 a2), (3, v64 a3), (9, .slice A2 l1.length c2)]) (by kernel_rfl) ?_
      refine o_end (by kernel_rfl) ?_
      refine e_seq ?_
      refine w_seq 106 107 (by kernel_rfl) ?_
      refine w_region (by kernel_rfl) ?_
      refine o_run 7 [24, 25, 28, 30] (l := []) .nil (E' := [(24, .slice A2 l1.length c2), (25, v8 a2), (28, v8 (U8 (bshr .i64 a3 8))), (30, v8 (U8 a3))]) (by kernel_rfl) ?_
      refine o_stp ?_ (by kernel_rfl)
      refine s_new 31 (fun g3 => .slice (ag g3) 4 4) [v8 0, v8 a2, v8 (U8 (bshr .i64 a3 8)), v8 (U8 a3)] 5 (fun _ => by kernel_rfl) (fun g3 => ?_)
      obtain ⟨l2, hx2, hm⟩ := bind_some hm
      refine o_stp ?_ (by kernel_rfl)
      refine s_app (z := v8 0) (enc := (encI .u8)) (ys := [0, a2, U8 (bshr .i64 a3 8), U8 a3]) (k := 4) (bytes := 1) 32 32 32 (.tmp 24) (.tmp 31) 1 hx2 rfl rfl (by kernel_rfl) (by kernel_rfl) (by kernel_rfl) (by kernel_rfl) (by kernel_rfl) (by kernel_rfl) rfl (src_blk (e := 5) (j := 0) (by kernel_rfl) rfl (by kernel_rfl) rfl (by kernel_rfl)) (by decide) (fun A3 c3 => ?_)
      refine t_L (L' := [.blk g3 [v8 0, v8 a2, v8 (U8 (bshr .i64 a3 8)), v8 (U8 a3)] 5, .own A3 l2.length c3 (rowOf e8 l2) 1 5, .blk g2 [vb a1.xSix, v8 a1.xB.x0, v8 a1.xB.x1, v8 a1.xB.x2, v8 a1.xB.x3, v8 a1.xB.x4, v8 a1.xB.x5, v8 a1.xB.x6, v8 a1.xB.x7, v8 a1.xB.x8, v8 a1.xB.x9, v8 a1.xB.x10, v8 a1.xB.x11, v8 a1.xB.x12, v8 a1.xB.x13, v8 a1.xB.x14, v8 a1.xB.x15] 24, .blk g1 [vb a0.xSix, v8 a0.xB.x0, v8 a0.xB.x1, v8 a0.xB.x2, v8 a0.xB.x3, v8 a0.xB.x4, v8 a0.xB.x5, v8 a0.xB.x6, v8 a0.xB.x7, v8 a0.xB.x8, v8 a0.xB.x9, v8 a0.xB.x10, v8 a0.xB.x11, v8 a0.xB.x12, v8 a0.xB.x13, v8 a0.xB.x14, v8 a0.xB.x15] 24]) (by kernel_rfl) ?_
      refine o_run 1 [8] (l := []) .nil (E' := [(8, .slice A3 l2.length c3)]) (by kernel_rfl) ?_
      refine o_end (by kernel_rfl) ?_
      refine e_seq ?_
      refine w_ret (by kernel_rfl) ?_
      obtain rfl := Option.some.inj hm
      exact e_retP (A3, c3) (.slice A3 l2.length c3) [1] (by kernel_rfl) (by kernel_rfl) rfl (by kernel_rfl) (by kernel_rfl) trivial
    · replace hm := ite_f hb2 hm
      refine w_skip (by kernel_rfl) ?_
      refine e_seq ?_
      refine w_seq 14 15 (by kernel_rfl) ?_
      obtain ⟨l3, hx3, hm⟩ := bind_some hm
      refine w_tail 4 [.blk g2 [vb a1.xSix, v8 a1.xB.x0, v8 a1.xB.x1, v8 a1.xB.x2, v8 a1.xB.x3, v8 a1.xB.x4, v8 a1.xB.x5, v8 a1.xB.x6, v8 a1.xB.x7, v8 a1.xB.x8, v8 a1.xB.x9, v8 a1.xB.x10, v8 a1.xB.x11, v8 a1.xB.x12, v8 a1.xB.x13, v8 a1.xB.x14, v8 a1.xB.x15] 24, .blk g1 [vb a0.xSix, v8 a0.xB.x0, v8 a0.xB.x1, v8 a0.xB.x2, v8 a0.xB.x3, v8 a0.xB.x4, v8 a0.xB.x5, v8 a0.xB.x6, v8 a0.xB.x7, v8 a0.xB.x8, v8 a0.xB.x9, v8 a0.xB.x10, v8 a0.xB.x11, v8 a0.xB.x12, v8 a0.xB.x13, v8 a0.xB.x14, v8 a0.xB.x15] 24] (by kernel_rfl) mixed (by kernel_rfl) ?_
      refine tt_run [0, 2] [2, 3, 33, 35] [0, 1] 2 (listed' := #[true, false, true, false, false, false]) (l := []) .nil (E' := [(2, v8 a2), (3, v64 a3), (33, .pointer (some ⟨g1, 1, none⟩)), (35, .pointer (some ⟨g2, 1, none⟩))]) (by kernel_rfl) (by kernel_rfl) (by kernel_rfl) (Ext.refl _) (by kernel_rfl) (by kernel_rfl) ?_
      refine tt_val 1 34 (.slice 22 (.tmp 33) none (some (.const (v64 16))) (some (.const (v64 16)))) (.slice (some ⟨g1, 1, none⟩) 16 16) [0, 1] (by kernel_rfl) (v_sliceA (a := ⟨g1, 1, none⟩) (N := 16) (sz := 1) (l := none) (h := (some 16)) (k := (some 16)) (l' := 0) (h' := 16) (k' := 16) (by kernel_rfl) (by kernel_rfl) (by kernel_rfl) (by kernel_rfl) (by kernel_rfl) (fun _ => rfl) rfl rfl rfl rfl rfl rfl (by kernel_rfl)) (by kernel_rfl) (Ext.refl _) (by kernel_rfl) (by kernel_rfl) ?_
      refine tt_val 3 36 (.slice 22 (.tmp 35) none none none) (.slice (some ⟨g2, 1, none⟩) 16 16) [0, 1] (by kernel_rfl) (v_sliceA (a := ⟨g2, 1, none⟩) (N := 16) (sz := 1) (l := none) (h := none) (k := none) (l' := 0) (h' := 16) (k' := 16) (by kernel_rfl) (by kernel_rfl) (by kernel_rfl) (by kernel_rfl) (by kernel_rfl) (fun h => by cases h) rfl rfl rfl rfl rfl rfl (by kernel_rfl)) (by kernel_rfl) (Ext.refl _) (by kernel_rfl) (by kernel_rfl) ?_
      refine tt_end [0, 1] (Ext.refl _) (by kernel_rfl) (by kernel_rfl) (by kernel_rfl) ?_
      refine o_stp ?_ (by kernel_rfl)
      refine s_appG (e := 5) (z := v8 0) (enc := (encI .u8)) (xs := [a0.xB.x0, a0.xB.x1, a0.xB.x2, a0.xB.x3, a0.xB.x4, a0.xB.x5, a0.xB.x6, a0.xB.x7, a0.xB.x8, a0.xB.x9, a0.xB.x10, a0.xB.x11, a0.xB.x12, a0.xB.x13, a0.xB.x14, a0.xB.x15]) (ys := [a1.xB.x0, a1.xB.x1, a1.xB.x2, a1.xB.x3, a1.xB.x4, a1.xB.x5, a1.xB.x6, a1.xB.x7, a1.xB.x8, a1.xB.x9, a1.xB.x10, a1.xB.x11, a1.xB.x12, a1.xB.x13, a1.xB.x14, a1.xB.x15]) (q := 16) (k := 16) (c := 16) (a := ⟨g1, 1, none⟩) (bytes := 1) 37 32 32 (.tmp 34) (.tmp 36) hx3 rfl rfl (by kernel_rfl) (by kernel_rfl) (by kernel_rfl) (by kernel_rfl) (by kernel_rfl) (by kernel_rfl) (at_blk (j := 1) rfl (by kernel_rfl)) (by kernel_rfl) (by kernel_rfl) (src_part (e := 5) (j := 0) (l := rowOf e8 [a1.xB.x0, a1.xB.x1, a1.xB.x2, a1.xB.x3, a1.xB.x4, a1.xB.x5, a1.xB.x6, a1.xB.x7, a1.xB.x8, a1.xB.x9, a1.xB.x10, a1.xB.x11, a1.xB.x12, a1.xB.x13, a1.xB.x14, a1.xB.x15]) (sz := 1) (o := 1) (c := 16) (k := 16) (by kernel_rfl) rfl (by kernel_rfl) (by kernel_rfl) (by kernel_rfl)) (by decide) rfl (fun A5 c5 => ?_)
      refine t_L (L' := [.own A5 l3.length c5 (rowOf e8 l3) 1 5, .blk g2 [vb a1.xSix, v8 a1.xB.x0, v8 a1.xB.x1, v8 a1.xB.x2, v8 a1.xB.x3, v8 a1.xB.x4, v8 a1.xB.x5, v8 a1.xB.x6, v8 a1.xB.x7, v8 a1.xB.x8, v8 a1.xB.x9, v8 a1.xB.x10, v8 a1.xB.x11, v8 a1.xB.x12, v8 a1.xB.x13, v8 a1.xB.x14, v8 a1.xB.x15] 24, .blk g1 [vb a0.xSix, v8 a0.xB.x0, v8 a0.xB.x1, v8 a0.xB.x2, v8 a0.xB.x3, v8 a0.xB.x4, v8 a0.xB.x5, v8 a0.xB.x6, v8 a0.xB.x7, v8 a0.xB.x8, v8 a0.xB.x9, v8 a0.xB.x10, v8 a0.xB.x11, v8 a0.xB.x12, v8 a0.xB.x13, v8 a0.xB.x14, v8 a0.xB.x15] 24]) (by kernel_rfl) ?_
      refine o_run 1 [2, 3, 10] (l := []) .nil (E' := [(2, v8 a2), (3, v64 a3), (10, .slice A5 l3.length c5)]) (by kernel_rfl) ?_
      refine o_end (by kernel_rfl) ?_
      refine e_seq ?_
      refine w_seq 30 31 (by kernel_rfl) ?_
      refine w_region (by kernel_rfl) ?_
      refine o_run 13 [38, 41, 44, 47, 49, 50] (l := []) .nil (E' := [(38, .slice A5 l3.length c5), (41, v8 (U8 (bshr .i64 a3 24))), (44, v8 (U8 (bshr .i64 a3 16))), (47, v8 (U8 (bshr .i64 a3 8))), (49, v8 (U8 a3)), (50, v8 a2)]) (by kernel_rfl) ?_
      refine o_stp ?_ (by kernel_rfl)
      refine s_new 51 (fun g4 => .slice (ag g4) 8 8) [v8 (U8 (bshr .i64 a3 24)), v8 (U8 (bshr .i64 a3 16)), v8 (U8 (bshr .i64 a3 8)), v8 (U8 a3), v8 0, v8 0, v8 0, v8 a2] 5 (fun _ => by kernel_rfl) (fun g4 => ?_)
      obtain ⟨l4, hx4, hm⟩ := bind_some hm
      refine o_stp ?_ (by kernel_rfl)
      refine s_app (z := v8 0) (enc := (encI .u8)) (ys := [U8 (bshr .i64 a3 24), U8 (bshr .i64 a3 16), U8 (bshr .i64 a3 8), U8 a3, 0, 0, 0, a2]) (k := 8) (bytes := 1) 52 32 32 (.tmp 38) (.tmp 51) 1 hx4 rfl rfl (by kernel_rfl) (by kernel_rfl) (by kernel_rfl) (by kernel_rfl) (by kernel_rfl) (by kernel_rfl) rfl (src_blk (e := 5) (j := 0) (by kernel_rfl) rfl (by kernel_rfl) rfl (by kernel_rfl)) (by decide) (fun A6 c6 => ?_)
      refine t_L (L' := [.blk g4 [v8 (U8 (bshr .i64 a3 24)), v8 (U8 (bshr .i64 a3 16)), v8 (U8 (bshr .i64 a3 8)), v8 (U8 a3), v8 0, v8 0, v8 0, v8 a2] 5, .own A6 l4.length c6 (rowOf e8 l4) 1 5, .blk g2 [vb a1.xSix, v8 a1.xB.x0, v8 a1.xB.x1, v8 a1.xB.x2, v8 a1.xB.x3, v8 a1.xB.x4, v8 a1.xB.x5, v8 a1.xB.x6, v8 a1.xB.x7, v8 a1.xB.x8, v8 a1.xB.x9, v8 a1.xB.x10, v8 a1.xB.x11, v8 a1.xB.x12, v8 a1.xB.x13, v8 a1.xB.x14, v8 a1.xB.x15] 24, .blk g1 [vb a0.xSix, v8 a0.xB.x0, v8 a0.xB.x1, v8 a0.xB.x2, v8 a0.xB.x3, v8 a0.xB.x4, v8 a0.xB.x5, v8 a0.xB.x6, v8 a0.xB.x7, v8 a0.xB.x8, v8 a0.xB.x9, v8 a0.xB.x10, v8 a0.xB.x11, v8 a0.xB.x12, v8 a0.xB.x13, v8 a0.xB.x14, v8 a0.xB.x15] 24]) (by kernel_rfl) ?_
      refine o_run 1 [8] (l := []) .nil (E' := [(8, .slice A6 l4.length c6)]) (by kernel_rfl) ?_
      refine o_end (by kernel_rfl) ?_
      refine e_seq ?_
      refine w_ret (by kernel_rfl) ?_
      obtain rfl := Option.some.inj hm
      exact e_retP (A6, c6) (.slice A6 l4.length c6) [1] (by kernel_rfl) (by kernel_rfl) rfl (by kernel_rfl) (by kernel_rfl) trivial
  · replace hm := ite_f hb1 hm
    refine o_run 4 [2, 3, 4, 5, 18] (l := []) .nil (E' := [(2, v8 a2), (3, v64 a3), (4, (pg g1)), (5, (pg g2)), (18, vb false)]) (by kernel_rfl) ?_
    refine o_end (by kernel_rfl) ?_
    refine e_seq ?_
    refine w_cond_f (.tmp 18) 26 27 (by kernel_rfl) (by kernel_rfl) ?_
    refine w_skip (by kernel_rfl) ?_
    refine e_seq ?_
    refine w_seq 14 15 (by kernel_rfl) ?_
    obtain ⟨l5, hx5, hm⟩ := bind_some hm
    refine w_tail 4 [.blk g2 [vb a1.xSix, v8 a1.xB.x0, v8 a1.xB.x1, v8 a1.xB.x2, v8 a1.xB.x3, v8 a1.xB.x4, v8 a1.xB.x5, v8 a1.xB.x6, v8 a1.xB.x7, v8 a1.xB.x8, v8 a1.xB.x9, v8 a1.xB.x10, v8 a1.xB.x11, v8 a1.xB.x12, v8 a1.xB.x13, v8 a1.xB.x14, v8 a1.xB.x15] 24, .blk g1 [vb a0.xSix, v8 a0.xB.x0, v8 a0.xB.x1, v8 a0.xB.x2, v8 a0.xB.x3, v8 a0.xB.x4, v8 a0.xB.x5, v8 a0.xB.x6, v8 a0.xB.x7, v8 a0.xB.x8, v8 a0.xB.x9, v8 a0.xB.x10, v8 a0.xB.x11, v8 a0.xB.x12, v8 a0.xB.x13, v8 a0.xB.x14, v8 a0.xB.x15] 24] (by kernel_rfl) mixed (by kernel_rfl) ?_
    refine tt_run [0, 2] [2, 3, 33, 35] [0, 1] 2 (listed' := #[true, false, true, false, false, false]) (l := []) .nil (E' := [(2, v8 a2), (3, v64 a3), (33, .pointer (some ⟨g1, 1, none⟩)), (35, .pointer (some ⟨g2, 1, none⟩))]) (by kernel_rfl) (by kernel_rfl) (by kernel_rfl) (Ext.refl _) (by kernel_rfl) (by kernel_rfl) ?_
    refine tt_val 1 34 (.slice 22 (.tmp 33) none (some (.const (v64 16))) (some (.const (v64 16)))) (.slice (some ⟨g1, 1, none⟩) 16 16) [0, 1] (by kernel_rfl) (v_sliceA (a := ⟨g1, 1, none⟩) (N := 16) (sz := 1) (l := none) (h := (some 16)) (k := (some 16)) (l' := 0) (h' := 16) (k' := 16) (by kernel_rfl) (by kernel_rfl) (by kernel_rfl) (by kernel_rfl) (by kernel_rfl) (fun _ => rfl) rfl rfl rfl rfl rfl rfl (by kernel_rfl)) (by kernel_rfl) (Ext.refl _) (by kernel_rfl) (by kernel_rfl) ?_
    refine tt_val 3 36 (.slice 22 (.tmp 35) none none none) (.slice (some ⟨g2, 1, none⟩) 16 16) [0, 1] (by kernel_rfl) (v_sliceA (a := ⟨g2, 1, none⟩) (N := 16) (sz := 1) (l := none) (h := none) (k := none) (l' := 0) (h' := 16) (k' := 16) (by kernel_rfl) (by kernel_rfl) (by kernel_rfl) (by kernel_rfl) (by kernel_rfl) (fun h => by cases h) rfl rfl rfl rfl rfl rfl (by kernel_rfl)) (by kernel_rfl) (Ext.refl _) (by kernel_rfl) (by kernel_rfl) ?_
    refine tt_end [0, 1] (Ext.refl _) (by kernel_rfl) (by kernel_rfl) (by kernel_rfl) ?_
    refine o_stp ?_ (by kernel_rfl)
    refine s_appG (e := 5) (z := v8 0) (enc := (encI .u8)) (xs := [a0.xB.x0, a0.xB.x1, a0.xB.x2, a0.xB.x3, a0.xB.x4, a0.xB.x5, a0.xB.x6, a0.xB.x7, a0.xB.x8, a0.xB.x9, a0.xB.x10, a0.xB.x11, a0.xB.x12, a0.xB.x13, a0.xB.x14, a0.xB.x15]) (ys := [a1.xB.x0, a1.xB.x1, a1.xB.x2, a1.xB.x3, a1.xB.x4, a1.xB.x5, a1.xB.x6, a1.xB.x7, a1.xB.x8, a1.xB.x9, a1.xB.x10, a1.xB.x11, a1.xB.x12, a1.xB.x13, a1.xB.x14, a1.xB.x15]) (q := 16) (k := 16) (c := 16) (a := ⟨g1, 1, none⟩) (bytes := 1) 37 32 32 (.tmp 34) (.tmp 36) hx5 rfl rfl (by kernel_rfl) (by kernel_rfl) (by kernel_rfl) (by kernel_rfl) (by kernel_rfl) (by kernel_rfl) (at_blk (j := 1) rfl (by kernel_rfl)) (by kernel_rfl) (by kernel_rfl) (src_part (e := 5) (j := 0) (l := rowOf e8 [a1.xB.x0, a1.xB.x1, a1.xB.x2, a1.xB.x3, a1.xB.x4, a1.xB.x5, a1.xB.x6, a1.xB.x7, a1.xB.x8, a1.xB.x9, a1.xB.x10, a1.xB.x11, a1.xB.x12, a1.xB.x13, a1.xB.x14, a1.xB.x15]) (sz := 1) (o := 1) (c := 16) (k := 16) (by kernel_rfl) rfl (by kernel_rfl) (by kernel_rfl) (by kernel_rfl)) (by decide) rfl (fun A8 c8 => ?_)
    refine t_L (L' := [.own A8 l5.length c8 (rowOf e8 l5) 1 5, .blk g2 [vb a1.xSix, v8 a1.xB.x0, v8 a1.xB.x1, v8 a1.xB.x2, v8 a1.xB.x3, v8 a1.xB.x4, v8 a1.xB.x5, v8 a1.xB.x6, v8 a1.xB.x7, v8 a1.xB.x8, v8 a1.xB.x9, v8 a1.xB.x10, v8 a1.xB.x11, v8 a1.xB.x12, v8 a1.xB.x13, v8 a1.xB.x14, v8 a1.xB.x15] 24, .blk g1 [vb a0.xSix, v8 a0.xB.x0, v8 a0.xB.x1, v8 a0.xB.x2, v8 a0.xB.x3, v8 a0.xB.x4, v8 a0.xB.x5, v8 a0.xB.x6, v8 a0.xB.x7, v8 a0.xB.x8, v8 a0.xB.x9, v8 a0.xB.x10, v8 a0.xB.x11, v8 a0.xB.x12, v8 a0.xB.x13, v8 a0.xB.x14, v8 a0.xB.x15] 24]) (by kernel_rfl) ?_
    refine o_run 1 [2, 3, 10] (l := []) .nil (E' := [(2, v8 a2), (3, v64 a3), (10, .slice A8 l5.length c8)]) (by kernel_rfl) ?_
    refine o_end (by kernel_rfl) ?_
    refine e_seq ?_
    refine w_seq 30 31 (by kernel_rfl) ?_
    refine w_region (by kernel_rfl) ?_
    refine o_run 13 [38, 41, 44, 47, 49, 50] (l := []) .nil (E' := [(38, .slice A8 l5.length c8), (41, v8 (U8 (bshr .i64 a3 24))), (44, v8 (U8 (bshr .i64 a3 16))), (47, v8 (U8 (bshr .i64 a3 8))), (49, v8 (U8 a3)), (50, v8 a2)]) (by kernel_rfl) ?_
    refine o_stp ?_ (by kernel_rfl)
    refine s_new 51 (fun g5 => .slice (ag g5) 8 8) [v8 (U8 (bshr .i64 a3 24)), v8 (U8 (bshr .i64 a3 16)), v8 (U8 (bshr .i64 a3 8)), v8 (U8 a3), v8 0, v8 0, v8 0, v8 a2] 5 (fun _ => by kernel_rfl) (fun g5 => ?_)
    obtain ⟨l6, hx6, hm⟩ := bind_some hm
    refine o_stp ?_ (by kernel_rfl)
    refine s_app (z := v8 0) (enc := (encI .u8)) (ys := [U8 (bshr .i64 a3 24), U8 (bshr .i64 a3 16), U8 (bshr .i64 a3 8), U8 a3, 0, 0, 0, a2]) (k := 8) (bytes := 1) 52 32 32 (.tmp 38) (.tmp 51) 1 hx6 rfl rfl (by kernel_rfl) (by kernel_rfl) (by kernel_rfl) (by kernel_rfl) (by kernel_rfl) (by kernel_rfl) rfl (src_blk (e := 5) (j := 0) (by kernel_rfl) rfl (by kernel_rfl) rfl (by kernel_rfl)) (by decide) (fun A9 c9 => ?_)
    refine t_L (L' := [.blk g5 [v8 (U8 (bshr .i64 a3 24)), v8 (U8 (bshr .i64 a3 16)), v8 (U8 (bshr .i64 a3 8)), v8 (U8 a3), v8 0, v8 0, v8 0, v8 a2] 5, .own A9 l6.length c9 (rowOf e8 l6) 1 5, .blk g2 [vb a1.xSix, v8 a1.xB.x0, v8 a1.xB.x1, v8 a1.xB.x2, v8 a1.xB.x3, v8 a1.xB.x4, v8 a1.xB.x5, v8 a1.xB.x6, v8 a1.xB.x7, v8 a1.xB.x8, v8 a1.xB.x9, v8 a1.xB.x10, v8 a1.xB.x11, v8 a1.xB.x12, v8 a1.xB.x13, v8 a1.xB.x14, v8 a1.xB.x15] 24, .blk g1 [vb a0.xSix, v8 a0.xB.x0, v8 a0.xB.x1, v8 a0.xB.x2, v8 a0.xB.x3, v8 a0.xB.x4, v8 a0.xB.x5, v8 a0.xB.x6, v8 a0.xB.x7, v8 a0.xB.x8, v8 a0.xB.x9, v8 a0.xB.x10, v8 a0.xB.x11, v8 a0.xB.x12, v8 a0.xB.x13, v8 a0.xB.x14, v8 a0.xB.x15] 24]) (by kernel_rfl) ?_
    refine o_run 1 [8] (l := []) .nil (E' := [(8, .slice A9 l6.length c9)]) (by kernel_rfl) ?_
    refine o_end (by kernel_rfl) ?_
    refine e_seq ?_
    refine w_ret (by kernel_rfl) ?_
    obtain rfl := Option.some.inj hm
    exact e_retP (A9, c9) (.slice A9 l6.length c9) [1] (by kernel_rfl) (by kernel_rfl) rfl (by kernel_rfl) (by kernel_rfl) trivial
def chksum_fold.l1 : Nat → Int → Option (Int)
  | 0, _ => none
  | k + 1, p1 => (if decide (p1 > 65535) then (chksum_fold.l1 k (U64 ((band .u64 p1 65535) + (bshr .u64 p1 16)))) else (some p1))
def chksum_fold.f (k : Nat) (a0 : Int) : Option (Int) :=
  ((chksum_fold.l1 k a0).bind fun t1 => (some (U16 t1)))
theorem chksum_fold_ok (k : Nat) (a0 : Int) (r : Int) (hm : chksum_fold.f k a0 = some r) (B G : Asn) (w : World) (hs : St B G [] w) :
    Calls Try.prog 74 #[w64 a0] w (Post (X := Unit) (fun x => v16 r) (fun x => B) G (fun x => []) (fun x => True)) := by
  unfold chksum_fold.f at hm
  refine calls_W (F := Try.f74) Try.func74 rfl (by kernel_rfl) (L := []) ?_ hs
  refine w_seq 2 3 (by kernel_rfl) ?_
  refine w_region (by kernel_rfl) ?_
  refine o_run 1 [0] (l := []) .nil (E' := [(0, w64 a0)]) (by kernel_rfl) ?_
  refine o_end (by kernel_rfl) ?_
  refine e_seq ?_
  refine w_seq 6 7 (by kernel_rfl) ?_
  refine w_block 0 12 (by kernel_rfl) ?_
  obtain ⟨t1, ht1, ho1⟩ := bind_some hm
  refine t_env [0] (E' := [(0, w64 a0)]) (by kernel_rfl) ?_
  refine w_loopJ 24 0 (fun k a w => ∃ (p1 : Int), chksum_fold.l1 k p1 = some t1 ∧ EnvOk [(0, w64 p1)] Try.f74.ntmps a ∧ St B G [] w) (fun a w => EnvOk [(0, w64 t1)] Try.f74.ntmps a ∧ St B G [] w) (by kernel_rfl) ?_ ?_ k ?_
  · rintro a w ⟨ha, hw⟩
    refine we_of (E := [(0, w64 t1)]) (B := B) (G := G) (L := []) ?_ ha hw
    have hm := ho1
    refine e_seq ?_
    refine w_seq 14 15 (by kernel_rfl) ?_
    refine w_region (by kernel_rfl) ?_
    refine o_run 3 [2] (l := []) .nil (E' := [(2, v16 (U16 t1))]) (by kernel_rfl) ?_
    refine o_end (by kernel_rfl) ?_
    refine e_seq ?_
    refine w_ret (by kernel_rfl) ?_
    obtain rfl := Option.some.inj hm
    exact e_retP () (v16 (U16 t1)) [] (by kernel_rfl) (by kernel_rfl) rfl (by kernel_rfl) (by kernel_rfl) trivial
  · rintro k a w ⟨p1, hm, ha, hw⟩
    cases k with
    | zero => exact absurd hm (by simp [chksum_fold.l1])
    | succ k =>
      unfold chksum_fold.l1 at hm
      refine wc_of (E := [(0, w64 p1)]) (B := B) (G := G) (L := []) ?_ ha hw
      refine w_seq 48 49 (by kernel_rfl) ?_
      refine w_seq 96 97 (by kernel_rfl) ?_
      refine w_region (by kernel_rfl) ?_
      refine o_run 2 [0, 4] (l := []) .nil (E' := [(0, w64 p1), (4, vb (decide (p1 > 65535)))]) (by kernel_rfl) ?_
      refine o_end (by kernel_rfl) ?_
      refine e_seq ?_
      refine w_cond (.tmp 4) 194 195 (decide (p1 > 65535)) (by kernel_rfl) (by kernel_rfl) (fun hb1 => ?_) (fun hb1 => ?_)
      · replace hm := ite_t hb1 hm
        refine w_skip (by kernel_rfl) ?_
        refine e_seq ?_
        refine w_block 1 98 (by kernel_rfl) ?_
        refine w_region (by kernel_rfl) ?_
        refine o_run 6 [0] (l := []) .nil (E' := [(0, w64 (U64 ((band .u64 p1 65535) + (bshr .u64 p1 16))))]) (by kernel_rfl) ?_
        refine o_end (by kernel_rfl) ?_
        refine e_blk ?_
        refine t_drop [] (by kernel_rfl) ?_
        refine t_L (L' := []) (by kernel_rfl) ?_
        refine t_env [0] (E' := [(0, w64 (U64 ((band .u64 p1 65535) + (bshr .u64 p1 16))))]) (by kernel_rfl) ?_
        exact e_inv (fun a w ha hw => ⟨k, Nat.lt_succ_self k, (U64 ((band .u64 p1 65535) + (bshr .u64 p1 16))), hm, ha, hw⟩)
      · replace hm := ite_f hb1 hm
        refine w_exit 0 (by kernel_rfl) ?_
        refine e_x_seq ?_
        refine e_x_inv ?_
        refine e_x_here ?_
        refine t_drop [] (by kernel_rfl) ?_
        refine t_L (L' := []) (by kernel_rfl) ?_
        refine t_env [0] (E' := [(0, w64 p1)]) (by kernel_rfl) ?_
        obtain rfl := Option.some.inj hm
        exact e_inv (fun a w ha hw => ⟨ha, hw⟩)
  · exact fun a w ha hw => ⟨a0, ht1, ha, hw⟩
def chksum_Sum.l2 : Nat → Int → (List Int) → Option (Int × (List Int))
  | 0, _, _ => none
  | k + 1, p3, p4 => (if decide ((p4.length : Int) > 1) then ((idx p4 0).bind fun e3 => ((idx p4 1).bind fun e4 => ((cut p4 2 (p4.length : Int)).bind fun l1 => (chksum_Sum.l2 k (U64 (p3 + (bor .u64 (bshl .u64 (U64 e3) 8) (U64 e4)))) l1)))) else (some (p3, p4)))
def chksum_Sum.l1 : Nat → (List (List Int)) → Int → Int → Option (Int)
  | 0, _, _, _ => none
  | k + 1, a0, p1, p2 => (if decide (p2 < (a0.length : Int)) then ((idx a0 p2).bind fun e1 => ((chksum_Sum.l2 k p1 e1).bind fun t3 => (if (t3.2.length : Int) == 1 then ((idx t3.2 0).bind fun e2 => (chksum_Sum.l1 k a0 (U64 (t3.1 + (bshl .u64 (U64 e2) 8))) (I64 (p2 + 1)))) else (chksum_Sum.l1 k a0 t3.1 (I64 (p2 + 1)))))) else (some p1))
def chksum_Sum.f (k : Nat) (a0 : List (List Int)) : Option (Int) :=
  ((chksum_Sum.l1 k a0 0 0).bind fun t1 => ((chksum_fold.f k t1).bind fun t2 => (some t2)))
theorem chksum_Sum_ok (k : Nat) (a0 : List (List Int)) (r : Int) (hm : chksum_Sum.f k a0 = some r) (B G : Asn) (A1 : Option Addr) (c1 : Nat) (hs1 : Sl (kSl (kI .u8)) B A1 c1 a0) (w : World) (hs : St B G [] w) :
    Calls Try.prog 61 #[.slice A1 a0.length c1] w (Post (X := Unit) (fun x => v16 r) (fun x => B) G (fun x => []) (fun x => True)) := by
  unfold chksum_Sum.f at hm
  refine calls_W (F := Try.f61) Try.func61 rfl (by kernel_rfl) (L := []) ?_ hs
  refine w_seq 2 3 (by kernel_rfl) ?_
  refine w_region (by kernel_rfl) ?_
  refine o_run 1 [0] (l := []) .nil (E' := [(0, .slice A1 a0.length c1)]) (by kernel_rfl) ?_
  refine o_end (by kernel_rfl) ?_
  refine e_seq ?_
  refine w_seq 6 7 (by kernel_rfl) ?_
  refine w_region (by kernel_rfl) ?_
  refine o_run 1 [0, 3] (l := []) .nil (E' := [(0, .slice A1 a0.length c1), (3, w64 0)]) (by kernel_rfl) ?_
  refine o_end (by kernel_rfl) ?_
  refine e_seq ?_
  refine w_seq 14 15 (by kernel_rfl) ?_
  refine w_seq 28 29 (by kernel_rfl) ?_
  refine w_region (by kernel_rfl) ?_
  refine o_run 3 [3, 6, 7, 8] (l := []) .nil (E' := [(3, w64 0), (6, .slice A1 a0.length c1), (7, v64 (a0.length : Int)), (8, v64 0)]) (by kernel_rfl) ?_
  refine o_end (by kernel_rfl) ?_
  refine e_seq ?_
  refine w_block 0 58 (by kernel_rfl) ?_
  obtain ⟨t1, ht1, ho1⟩ := bind_some hm
  refine t_env [3, 6, 7, 8] (E' := [(3, w64 0), (6, .slice A1 a0.length c1), (7, v64 (a0.length : Int)), (8, v64 0)]) (by kernel_rfl) ?_
  refine w_loopJ 116 0 (fun k a w => ∃ (p1 : Int) (p2 : Int), chksum_Sum.l1 k a0 p1 p2 = some t1 ∧ EnvOk [(3, w64 p1), (6, .slice A1 a0.length c1), (7, v64 (a0.length : Int)), (8, v64 p2)] Try.f61.ntmps a ∧ St B G [] w) (fun a w => EnvOk [(3, w64 t1)] Try.f61.ntmps a ∧ St B G [] w) (by kernel_rfl) ?_ ?_ k ?_
  · rintro a w ⟨ha, hw⟩
    refine we_of (E := [(3, w64 t1)]) (B := B) (G := G) (L := []) ?_ ha hw
    have hm := ho1
    refine e_seq ?_
    refine w_seq 30 31 (by kernel_rfl) ?_
    refine w_region (by kernel_rfl) ?_
    refine o_run 1 [40] (l := []) .nil (E' := [(40, w64 t1)]) (by kernel_rfl) ?_
    obtain ⟨t2, hx1, hm⟩ := bind_some hm
    refine o_stp ?_ (by kernel_rfl)
    refine s_call 41 74 #[w64 t1] [] [] (by kernel_rfl) (by kernel_rfl) (fun w hs => chksum_fold_ok k t1 t2 hx1 B _ w (St.cast (by kernel_rfl) hs)) (fun _ hx => ?_)
    refine t_L (L' := []) (by kernel_rfl) ?_
    refine o_run 1 [2] (l := []) .nil (E' := [(2, v16 t2)]) (by kernel_rfl) ?_
    refine o_end (by kernel_rfl) ?_
    refine e_seq ?_
    refine w_ret (by kernel_rfl) ?_
    obtain rfl := Option.some.inj hm
    exact e_retP () (v16 t2) [] (by kernel_rfl) (by kernel_rfl) rfl (by kernel_rfl) (by kernel_rfl) trivial
  · rintro k a w ⟨p1, p2, hm, ha, hw⟩
    cases k with
    | zero => exact absurd hm (by simp [chksum_Sum.l1])
    | succ k =>
      unfold chksum_Sum.l1 at hm
      refine wc_of (E := [(3, w64 p1), (6, .slice A1 a0.length c1), (7, v64 (a0.length : Int)), (8, v64 p2)]) (B := B) (G := G) (L := []) ?_ ha hw
      refine w_seq 232 233 (by kernel_rfl) ?_
      refine w_region (by kernel_rfl) ?_
      refine o_run 1 [3, 6, 7, 8, 9] (l := []) .nil (E' := [(3, w64 p1), (6, .slice A1 a0.length c1), (7, v64 (a0.length : Int)), (8, v64 p2), (9, vb (decide (p2 < (a0.length : Int))))]) (by kernel_rfl) ?_
      refine o_end (by kernel_rfl) ?_
      refine e_seq ?_
      refine w_seq 466 467 (by kernel_rfl) ?_
      refine w_cond (.tmp 9) 932 933 (decide (p2 < (a0.length : Int))) (by kernel_rfl) (by kernel_rfl) (fun hb1 => ?_) (fun hb1 => ?_)
      · replace hm := ite_t hb1 hm
        refine w_skip (by kernel_rfl) ?_
        refine e_seq ?_
        refine w_seq 934 935 (by kernel_rfl) ?_
        refine w_block 1 1868 (by kernel_rfl) ?_
        refine w_seq 3736 3737 (by kernel_rfl) ?_
        refine w_region (by kernel_rfl) ?_
        obtain ⟨e1, hx2, hm⟩ := bind_some hm
        obtain ⟨hi1, hi2, hg1⟩ := idx_some hx2
        obtain ⟨cs1, hk1, hc1⟩ := (hs1).at hg1
        obtain ⟨A2, c2, hs2, rfl⟩ := hk1
        refine o_val 10 (.indexAddr 74 (.tmp 6) (.tmp 8)) (.pointer (some (adr A1 (Int.toNat p2 * 1)))) (by kernel_rfl) (v_index (k := .i64) (c := c1) (by kernel_rfl) (by kernel_rfl) (by kernel_rfl) hi1 hi2 ((hs1).some hg1)) ?_
        refine o_run 2 [3, 5, 6, 7, 8] (l := [((adr A1 (Int.toNat p2 * 1)), .slice A2 e1.length c2)]) (.one ((at_sl hc1).sub 0 rfl) .nil) (E' := [(3, w64 p1), (5, .slice A2 e1.length c2), (6, .slice A1 a0.length c1), (7, v64 (a0.length : Int)), (8, v64 p2)]) (by kernel_rfl) ?_
        refine o_end (by kernel_rfl) ?_
        refine e_seq ?_
        refine w_seq 7474 7475 (by kernel_rfl) ?_
        refine w_block 2 14948 (by kernel_rfl) ?_
        obtain ⟨t3, ht2, ho2⟩ := bind_some hm
        refine t_env [3, 5, 6, 7, 8] (E' := [(3, w64 p1), (5, .slice A2 e1.length c2), (6, .slice A1 a0.length c1), (7, v64 (a0.length : Int)), (8, v64 p2)]) (by kernel_rfl) ?_
        refine w_loopJ 29896 2 (fun k a w => ∃ (p3 : Int) (p4 : List Int) (A3 : Option Addr) (c3 : Nat), chksum_Sum.l2 k p3 p4 = some t3 ∧ Sl (kI .u8) B A3 c3 p4 ∧ EnvOk [(3, w64 p3), (5, .slice A3 p4.length c3), (6, .slice A1 a0.length c1), (7, v64 (a0.length : Int)), (8, v64 p2)] Try.f61.ntmps a ∧ St B G [] w) (fun a w => ∃ (A4 : Option Addr) (c4 : Nat), Sl (kI .u8) B A4 c4 (t3.2) ∧ EnvOk [(3, w64 t3.1), (5, .slice A4 t3.2.length c4), (6, .slice A1 a0.length c1), (7, v64 (a0.length : Int)), (8, v64 p2)] Try.f61.ntmps a ∧ St B G [] w) (by kernel_rfl) ?_ ?_ k ?_
        · rintro a w ⟨A4, c4, hs4, ha, hw⟩
          refine we_of (E := [(3, w64 t3.1), (5, .slice A4 t3.2.length c4), (6, .slice A1 a0.length c1), (7, v64 (a0.length : Int)), (8, v64 p2)]) (B := B) (G := G) (L := []) ?_ ha hw
          have hm := ho2
          refine e_seq ?_
          refine w_seq 14950 14951 (by kernel_rfl) ?_
          refine w_region (by kernel_rfl) ?_
          refine o_run 3 [3, 5, 6, 7, 8, 31] (l := []) .nil (E' := [(3, w64 t3.1), (5, .slice A4 t3.2.length c4), (6, .slice A1 a0.length c1), (7, v64 (a0.length : Int)), (8, v64 p2), (31, vb ((t3.2.length : Int) == 1))]) (by kernel_rfl) ?_
          refine o_end (by kernel_rfl) ?_
          refine e_seq ?_
          refine w_cond (.tmp 31) 29902 29903 ((t3.2.length : Int) == 1) (by kernel_rfl) (by kernel_rfl) (fun hb2 => ?_) (fun hb2 => ?_)
          · replace hm := ite_t hb2 hm
            refine w_region (by kernel_rfl) ?_
            refine o_run 2 [6, 7, 8, 32, 33] (l := []) .nil (E' := [(6, .slice A1 a0.length c1), (7, v64 (a0.length : Int)), (8, v64 p2), (32, w64 t3.1), (33, .slice A4 t3.2.length c4)]) (by kernel_rfl) ?_
            obtain ⟨e2, hx3, hm⟩ := bind_some hm
            obtain ⟨hi3, hi4, hg2⟩ := idx_some hx3
            obtain ⟨cs2, hk2, hc2⟩ := (hs4).at hg2
            obtain rfl := hk2
            refine o_val 34 (.indexAddr 32 (.tmp 33) (.const (v64 0))) (.pointer (some (adr A4 (Int.toNat 0 * 1)))) (by kernel_rfl) (v_index (k := .i64) (c := c4) (by kernel_rfl) (by kernel_rfl) (by kernel_rfl) hi3 hi4 ((hs4).some hg2)) ?_
            refine o_run 5 [3, 6, 7, 8] (l := [((adr A4 (Int.toNat 0 * 1)), v8 e2)]) (.one ((at_sl hc2).sub 0 rfl) .nil) (E' := [(3, w64 (U64 (t3.1 + (bshl .u64 (U64 e2) 8)))), (6, .slice A1 a0.length c1), (7, v64 (a0.length : Int)), (8, v64 p2)]) (by kernel_rfl) ?_
            refine o_end (by kernel_rfl) ?_
            refine e_blk ?_
            refine e_seq ?_
            refine w_region (by kernel_rfl) ?_
            refine o_run 2 [3, 6, 7, 8] (l := []) .nil (E' := [(3, w64 (U64 (t3.1 + (bshl .u64 (U64 e2) 8)))), (6, .slice A1 a0.length c1), (7, v64 (a0.length : Int)), (8, v64 (I64 (p2 + 1)))]) (by kernel_rfl) ?_
            refine o_end (by kernel_rfl) ?_
            refine t_drop [] (by kernel_rfl) ?_
            refine t_L (L' := []) (by kernel_rfl) ?_
            refine t_env [3, 6, 7, 8] (E' := [(3, w64 (U64 (t3.1 + (bshl .u64 (U64 e2) 8)))), (6, .slice A1 a0.length c1), (7, v64 (a0.length : Int)), (8, v64 (I64 (p2 + 1)))]) (by kernel_rfl) ?_
            exact e_inv (fun a w ha hw => ⟨k, Nat.lt_succ_self k, (U64 (t3.1 + (bshl .u64 (U64 e2) 8))), (I64 (p2 + 1)), hm, ha, hw⟩)
          · replace hm := ite_f hb2 hm
            refine w_skip (by kernel_rfl) ?_
            refine e_blk ?_
            refine e_seq ?_
            refine w_region (by kernel_rfl) ?_
            refine o_run 2 [3, 6, 7, 8] (l := []) .nil (E' := [(3, w64 t3.1), (6, .slice A1 a0.length c1), (7, v64 (a0.length : Int)), (8, v64 (I64 (p2 + 1)))]) (by kernel_rfl) ?_
            refine o_end (by kernel_rfl) ?_
            refine t_drop [] (by kernel_rfl) ?_
            refine t_L (L' := []) (by kernel_rfl) ?_
            refine t_env [3, 6, 7, 8] (E' := [(3, w64 t3.1), (6, .slice A1 a0.length c1), (7, v64 (a0.length : Int)), (8, v64 (I64 (p2 + 1)))]) (by kernel_rfl) ?_
            exact e_inv (fun a w ha hw => ⟨k, Nat.lt_succ_self k, t3.1, (I64 (p2 + 1)), hm, ha, hw⟩)
        · rintro k a w ⟨p3, p4, A3, c3, hm, hs3, ha, hw⟩
          cases k with
          | zero => exact absurd hm (by simp [chksum_Sum.l2])
          | succ k =>
            unfold chksum_Sum.l2 at hm
            refine wc_of (E := [(3, w64 p3), (5, .slice A3 p4.length c3), (6, .slice A1 a0.length c1), (7, v64 (a0.length : Int)), (8, v64 p2)]) (B := B) (G := G) (L := []) ?_ ha hw
            refine w_seq 59792 59793 (by kernel_rfl) ?_
            refine w_seq 119584 119585 (by kernel_rfl) ?_
            refine w_region (by kernel_rfl) ?_
            refine o_run 3 [3, 5, 6, 7, 8, 14] (l := []) .nil (E' := [(3, w64 p3), (5, .slice A3 p4.length c3), (6, .slice A1 a0.length c1), (7, v64 (a0.length : Int)), (8, v64 p2), (14, vb (decide ((p4.length : Int) > 1)))]) (by kernel_rfl) ?_
            refine o_end (by kernel_rfl) ?_
            refine e_seq ?_
            refine w_cond (.tmp 14) 239170 239171 (decide ((p4.length : Int) > 1)) (by kernel_rfl) (by kernel_rfl) (fun hb3 => ?_) (fun hb3 => ?_)
            · replace hm := ite_t hb3 hm
              refine w_skip (by kernel_rfl) ?_
              refine e_seq ?_
              refine w_block 3 119586 (by kernel_rfl) ?_
              refine w_seq 239172 239173 (by kernel_rfl) ?_
              refine w_quiet (by kernel_rfl) mixed (by kernel_rfl) ?_
              refine q_run 2 [5, 6, 7, 8, 15, 16] (l := []) .nil (E' := [(5, .slice A3 p4.length c3), (6, .slice A1 a0.length c1), (7, v64 (a0.length : Int)), (8, v64 p2), (15, w64 p3), (16, .slice A3 p4.length c3)]) (by kernel_rfl) ?_
              obtain ⟨e3, hx4, hm⟩ := bind_some hm
              obtain ⟨hi5, hi6, hg3⟩ := idx_some hx4
              obtain ⟨cs3, hk3, hc3⟩ := (hs3).at hg3
              obtain rfl := hk3
              refine q_val 17 (.indexAddr 32 (.tmp 16) (.const (v64 0))) (.pointer (some (adr A3 (Int.toNat 0 * 1)))) (by kernel_rfl) (v_index (k := .i64) (c := c3) (by kernel_rfl) (by kernel_rfl) (by kernel_rfl) hi5 hi6 ((hs3).some hg3)) ?_
              refine q_run 4 [5, 6, 7, 8, 15, 20, 21] (l := [((adr A3 (Int.toNat 0 * 1)), v8 e3)]) (.one ((at_sl hc3).sub 0 rfl) .nil) (E' := [(5, .slice A3 p4.length c3), (6, .slice A1 a0.length c1), (7, v64 (a0.length : Int)), (8, v64 p2), (15, w64 p3), (20, w64 (bshl .u64 (U64 e3) 8)), (21, .slice A3 p4.length c3)]) (by kernel_rfl) ?_
              obtain ⟨e4, hx5, hm⟩ := bind_some hm
              obtain ⟨hi7, hi8, hg4⟩ := idx_some hx5
              obtain ⟨cs4, hk4, hc4⟩ := (hs3).at hg4
              obtain rfl := hk4
              refine q_val 22 (.indexAddr 32 (.tmp 21) (.const (v64 1))) (.pointer (some (adr A3 (Int.toNat 1 * 1)))) (by kernel_rfl) (v_index (k := .i64) (c := c3) (by kernel_rfl) (by kernel_rfl) (by kernel_rfl) hi7 hi8 ((hs3).some hg4)) ?_
              refine q_run 5 [3, 5, 6, 7, 8] (l := [((adr A3 (Int.toNat 1 * 1)), v8 e4)]) (.one ((at_sl hc4).sub 0 rfl) .nil) (E' := [(3, w64 (U64 (p3 + (bor .u64 (bshl .u64 (U64 e3) 8) (U64 e4))))), (5, .slice A3 p4.length c3), (6, .slice A1 a0.length c1), (7, v64 (a0.length : Int)), (8, v64 p2)]) (by kernel_rfl) ?_
              refine q_end (by kernel_rfl) ?_
              refine e_seq ?_
              refine w_region (by kernel_rfl) ?_
              refine o_run 1 [3, 6, 7, 8, 27] (l := []) .nil (E' := [(3, w64 (U64 (p3 + (bor .u64 (bshl .u64 (U64 e3) 8) (U64 e4))))), (6, .slice A1 a0.length c1), (7, v64 (a0.length : Int)), (8, v64 p2), (27, .slice A3 p4.length c3)]) (by kernel_rfl) ?_
              obtain ⟨l1, hx6, hm⟩ := bind_some hm
              refine o_val 28 (.slice 32 (.tmp 27) (some (.const (v64 2))) none none) (.slice (cutA A3 (Int.toNat 2) c3 1) l1.length (c3 - Int.toNat 2)) (by kernel_rfl) (i_slice 32 (.tmp 27) (some (.const (v64 2))) none hs3 hx6 (by kernel_rfl) (by kernel_rfl) (by kernel_rfl) (by kernel_rfl)) ?_
              have hs5 := sl_cut hs3 hx6
              refine o_run 1 [3, 5, 6, 7, 8] (l := []) .nil (E' := [(3, w64 (U64 (p3 + (bor .u64 (bshl .u64 (U64 e3) 8) (U64 e4))))), (5, .slice (cutA A3 (Int.toNat 2) c3 1) l1.length (c3 - Int.toNat 2)), (6, .slice A1 a0.length c1), (7, v64 (a0.length : Int)), (8, v64 p2)]) (by kernel_rfl) ?_
              refine o_end (by kernel_rfl) ?_
              refine e_blk ?_
              refine t_drop [] (by kernel_rfl) ?_
              refine t_L (L' := []) (by kernel_rfl) ?_
              refine t_env [3, 5, 6, 7, 8] (E' := [(3, w64 (U64 (p3 + (bor .u64 (bshl .u64 (U64 e3) 8) (U64 e4))))), (5, .slice (cutA A3 (Int.toNat 2) c3 1) l1.length (c3 - Int.toNat 2)), (6, .slice A1 a0.length c1), (7, v64 (a0.length : Int)), (8, v64 p2)]) (by kernel_rfl) ?_
              exact e_inv (fun a w ha hw => ⟨k, Nat.lt_succ_self k, (U64 (p3 + (bor .u64 (bshl .u64 (U64 e3) 8) (U64 e4)))), l1, (cutA A3 (Int.toNat 2) c3 1), (c3 - Int.toNat 2), hm, hs5, ha, hw⟩)
            · replace hm := ite_f hb3 hm
              refine w_exit 2 (by kernel_rfl) ?_
              refine e_x_seq ?_
              refine e_x_inv ?_
              refine e_x_here ?_
              refine t_drop [] (by kernel_rfl) ?_
              refine t_L (L' := []) (by kernel_rfl) ?_
              refine t_env [3, 5, 6, 7, 8] (E' := [(3, w64 p3), (5, .slice A3 p4.length c3), (6, .slice A1 a0.length c1), (7, v64 (a0.length : Int)), (8, v64 p2)]) (by kernel_rfl) ?_
              obtain rfl := Option.some.inj hm
              exact e_inv (fun a w ha hw => ⟨A3, c3, hs3, ha, hw⟩)
        · exact fun a w ha hw => ⟨p1, e1, A2, c2, ht2, hs2, ha, hw⟩
      · replace hm := ite_f hb1 hm
        refine w_exit 0 (by kernel_rfl) ?_
        refine e_x_seq ?_
        refine e_x_inv ?_
        refine e_x_here ?_
        refine t_drop [] (by kernel_rfl) ?_
        refine t_L (L' := []) (by kernel_rfl) ?_
        refine t_env [3] (E' := [(3, w64 p1)]) (by kernel_rfl) ?_
        obtain rfl := Option.some.inj hm
        exact e_inv (fun a w ha hw => ⟨ha, hw⟩)
  · exact fun a w ha hw => ⟨0, 0, ht1, ha, hw⟩
def chksum_Check.f (k : Nat) (a0 : List (List Int)) : Option (Int) :=
  ((chksum_Sum.f k a0).bind fun t1 => (some (bxor .u16 65535 t1)))
theorem chksum_Check_ok (k : Nat) (a0 : List (List Int)) (r : Int) (hm : chksum_Check.f k a0 = some r) (B G : Asn) (A1 : Option Addr) (c1 : Nat) (hs1 : Sl (kSl (kI .u8)) B A1 c1 a0) (w : World) (hs : St B G [] w) :
    Calls Try.prog 54 #[.slice A1 a0.length c1] w (Post (X := Unit) (fun x => v16 r) (fun x => B) G (fun x => []) (fun x => True)) := by
  unfold chksum_Check.f at hm
  refine calls_W (F := Try.f54) Try.func54 rfl (by kernel_rfl) (L := []) ?_ hs
  refine w_seq 2 3 (by kernel_rfl) ?_
  refine w_region (by kernel_rfl) ?_
  refine o_run 1 [0] (l := []) .nil (E' := [(0, .slice A1 a0.length c1)]) (by kernel_rfl) ?_
  refine o_end (by kernel_rfl) ?_
  refine e_seq ?_
  refine w_seq 6 7 (by kernel_rfl) ?_
  refine w_region (by kernel_rfl) ?_
  refine o_run 1 [3] (l := []) .nil (E' := [(3, .slice A1 a0.length c1)]) (by kernel_rfl) ?_
  obtain ⟨t1, hx1, hm⟩ := bind_some hm
  refine o_stp ?_ (by kernel_rfl)
  refine s_call 4 61 #[.slice A1 a0.length c1] [] [] (by kernel_rfl) (by kernel_rfl) (fun w hs => chksum_Sum_ok k a0 t1 hx1 B _ A1 c1 hs1 w (St.cast (by kernel_rfl) hs)) (fun _ hx => ?_)
  refine t_L (L' := []) (by kernel_rfl) ?_
  refine o_run 2 [2] (l := []) .nil (E' := [(2, v16 (bxor .u16 65535 t1))]) (by kernel_rfl) ?_
  refine o_end (by kernel_rfl) ?_
  refine e_seq ?_
  refine w_ret (by kernel_rfl) ?_
  obtain rfl := Option.some.inj hm
  exact e_retP () (v16 (bxor .u16 65535 t1)) [] (by kernel_rfl) (by kernel_rfl) rfl (by kernel_rfl) (by kernel_rfl) trivial
def chksum_Load.f (k : Nat) (a0 : TA) (a1 : TA) (a2 : Int) (a3 : List Int) : Option (Int) :=
  ((chksum_Pseudo.f a0 a1 a2 (a3.length : Int)).bind fun t1 => ((chksum_Check.f k [t1, a3]).bind fun t2 => (some t2)))
theorem chksum_Load_ok (k : Nat) (a0 : TA) (a1 : TA) (a2 : Int) (a3 : List Int) (r : Int) (hm : chksum_Load.f k a0 a1 a2 a3 = some r) (B G : Asn) (A1 : Option Addr) (c1 : Nat) (hs1 : Sl (kI .u8) B A1 c1 a3) (w : World) (hs : St B G [] w) :
    Calls Try.prog 31 #[.agg #[vb a0.xSix, v8 a0.xB.x0, v8 a0.xB.x1, v8 a0.xB.x2, v8 a0.xB.x3, v8 a0.xB.x4, v8 a0.xB.x5, v8 a0.xB.x6, v8 a0.xB.x7, v8 a0.xB.x8, v8 a0.xB.x9, v8 a0.xB.x10, v8 a0.xB.x11, v8 a0.xB.x12, v8 a0.xB.x13, v8 a0.xB.x14, v8 a0.xB.x15], .agg #[vb a1.xSix, v8 a1.xB.x0, v8 a1.xB.x1, v8 a1.xB.x2, v8 a1.xB.x3, v8 a1.xB.x4, v8 a1.xB.x5, v8 a1.xB.x6, v8 a1.xB.x7, v8 a1.xB.x8, v8 a1.xB.x9, v8 a1.xB.x10, v8 a1.xB.x11, v8 a1.xB.x12, v8 a1.xB.x13, v8 a1.xB.x14, v8 a1.xB.x15], v8 a2, .slice A1 a3.length c1] w (Post (X := Asn) (fun x => v16 r) (fun x => x) G (fun x => []) (fun x => (Ext B x))) := by
  unfold chksum_Load.f at hm
  refine calls_W (F := Try.f31) Try.func31 rfl (by kernel_rfl) (L := []) ?_ hs
  refine w_seq 2 3 (by kernel_rfl) ?_
  refine w_region (by kernel_rfl) ?_
  refine o_stp ?_ (by kernel_rfl)
  refine s_new 4 (fun g1 => (pg g1)) [vb a0.xSix, v8 a0.xB.x0, v8 a0.xB.x1, v8 a0.xB.x2, v8 a0.xB.x3, v8 a0.xB.x4, v8 a0.xB.x5, v8 a0.xB.x6, v8 a0.xB.x7, v8 a0.xB.x8, v8 a0.xB.x9, v8 a0.xB.x10, v8 a0.xB.x11, v8 a0.xB.x12, v8 a0.xB.x13, v8 a0.xB.x14, v8 a0.xB.x15] 24 (fun _ => by kernel_rfl) (fun g1 => ?_)
  refine o_stp ?_ (by kernel_rfl)
  refine s_new 5 (fun g2 => (pg g2)) [vb a1.xSix, v8 a1.xB.x0, v8 a1.xB.x1, v8 a1.xB.x2, v8 a1.xB.x3, v8 a1.xB.x4, v8 a1.xB.x5, v8 a1.xB.x6, v8 a1.xB.x7, v8 a1.xB.x8, v8 a1.xB.x9, v8 a1.xB.x10, v8 a1.xB.x11, v8 a1.xB.x12, v8 a1.xB.x13, v8 a1.xB.x14, v8 a1.xB.x15] 24 (fun _ => by kernel_rfl) (fun g2 => ?_)
  refine o_run 1 [2, 3, 4, 5] (l := []) .nil (E' := [(2, v8 a2), (3, .slice A1 a3.length c1), (4, (pg g1)), (5, (pg g2))]) (by kernel_rfl) ?_
  refine o_end (by kernel_rfl) ?_
  refine e_seq ?_
  refine w_seq 6 7 (by kernel_rfl) ?_
  refine w_region (by kernel_rfl) ?_
  refine o_val 9 (.load 24 (.tmp 4)) (.agg #[vb a0.xSix, v8 a0.xB.x0, v8 a0.xB.x1, v8 a0.xB.x2, v8 a0.xB.x3, v8 a0.xB.x4, v8 a0.xB.x5, v8 a0.xB.x6, v8 a0.xB.x7, v8 a0.xB.x8, v8 a0.xB.x9, v8 a0.xB.x10, v8 a0.xB.x11, v8 a0.xB.x12, v8 a0.xB.x13, v8 a0.xB.x14, v8 a0.xB.x15]) (by kernel_rfl) (v_load (l := [vb a0.xSix, v8 a0.xB.x0, v8 a0.xB.x1, v8 a0.xB.x2, v8 a0.xB.x3, v8 a0.xB.x4, v8 a0.xB.x5, v8 a0.xB.x6, v8 a0.xB.x7, v8 a0.xB.x8, v8 a0.xB.x9, v8 a0.xB.x10, v8 a0.xB.x11, v8 a0.xB.x12, v8 a0.xB.x13, v8 a0.xB.x14, v8 a0.xB.x15]) (a := ⟨g1, 0, none⟩) (by kernel_rfl) (by kernel_rfl) (at_blk (j := 1) rfl rfl)) ?_
  refine o_val 10 (.load 24 (.tmp 5)) (.agg #[vb a1.xSix, v8 a1.xB.x0, v8 a1.xB.x1, v8 a1.xB.x2, v8 a1.xB.x3, v8 a1.xB.x4, v8 a1.xB.x5, v8 a1.xB.x6, v8 a1.xB.x7, v8 a1.xB.x8, v8 a1.xB.x9, v8 a1.xB.x10, v8 a1.xB.x11, v8 a1.xB.x12, v8 a1.xB.x13, v8 a1.xB.x14, v8 a1.xB.x15]) (by kernel_rfl) (v_load (l := [vb a1.xSix, v8 a1.xB.x0, v8 a1.xB.x1, v8 a1.xB.x2, v8 a1.xB.x3, v8 a1.xB.x4, v8 a1.xB.x5, v8 a1.xB.x6, v8 a1.xB.x7, v8 a1.xB.x8, v8 a1.xB.x9, v8 a1.xB.x10, v8 a1.xB.x11, v8 a1.xB.x12, v8 a1.xB.x13, v8 a1.xB.x14, v8 a1.xB.x15]) (a := ⟨g2, 0, none⟩) (by kernel_rfl) (by kernel_rfl) (at_blk (j := 0) rfl rfl)) ?_
  refine o_run 3 [3, 9, 10, 11, 13] (l := []) .nil (E' := [(3, .slice A1 a3.length c1), (9, .agg #[vb a0.xSix, v8 a0.xB.x0, v8 a0.xB.x1, v8 a0.xB.x2, v8 a0.xB.x3, v8 a0.xB.x4, v8 a0.xB.x5, v8 a0.xB.x6, v8 a0.xB.x7, v8 a0.xB.x8, v8 a0.xB.x9, v8 a0.xB.x10, v8 a0.xB.x11, v8 a0.xB.x12, v8 a0.xB.x13, v8 a0.xB.x14, v8 a0.xB.x15]), (10, .agg #[vb a1.xSix, v8 a1.xB.x0, v8 a1.xB.x1, v8 a1.xB.x2, v8 a1.xB.x3, v8 a1.xB.x4, v8 a1.xB.x5, v8 a1.xB.x6, v8 a1.xB.x7, v8 a1.xB.x8, v8 a1.xB.x9, v8 a1.xB.x10, v8 a1.xB.x11, v8 a1.xB.x12, v8 a1.xB.x13, v8 a1.xB.x14, v8 a1.xB.x15]), (11, v8 a2), (13, v64 (a3.length : Int))]) (by kernel_rfl) ?_
  obtain ⟨t1, hx1, hm⟩ := bind_some hm
  refine o_stp ?_ (by kernel_rfl)
  refine s_call 14 55 #[.agg #[vb a0.xSix, v8 a0.xB.x0, v8 a0.xB.x1, v8 a0.xB.x2, v8 a0.xB.x3, v8 a0.xB.x4, v8 a0.xB.x5, v8 a0.xB.x6, v8 a0.xB.x7, v8 a0.xB.x8, v8 a0.xB.x9, v8 a0.xB.x10, v8 a0.xB.x11, v8 a0.xB.x12, v8 a0.xB.x13, v8 a0.xB.x14, v8 a0.xB.x15], .agg #[vb a1.xSix, v8 a1.xB.x0, v8 a1.xB.x1, v8 a1.xB.x2, v8 a1.xB.x3, v8 a1.xB.x4, v8 a1.xB.x5, v8 a1.xB.x6, v8 a1.xB.x7, v8 a1.xB.x8, v8 a1.xB.x9, v8 a1.xB.x10, v8 a1.xB.x11, v8 a1.xB.x12, v8 a1.xB.x13, v8 a1.xB.x14, v8 a1.xB.x15], v8 a2, v64 (a3.length : Int)] [] [0, 1] (by kernel_rfl) (by kernel_rfl) (fun w hs => chksum_Pseudo_ok a0 a1 a2 (a3.length : Int) t1 hx1 B _ w (St.cast (by kernel_rfl) hs)) (fun x hx => ?_)
  obtain ⟨A2, c2⟩ := x
  refine t_L (L' := [.own A2 t1.length c2 (rowOf e8 t1) 1 5, .blk g2 [vb a1.xSix, v8 a1.xB.x0, v8 a1.xB.x1, v8 a1.xB.x2, v8 a1.xB.x3, v8 a1.xB.x4, v8 a1.xB.x5, v8 a1.xB.x6, v8 a1.xB.x7, v8 a1.xB.x8, v8 a1.xB.x9, v8 a1.xB.x10, v8 a1.xB.x11, v8 a1.xB.x12, v8 a1.xB.x13, v8 a1.xB.x14, v8 a1.xB.x15] 24, .blk g1 [vb a0.xSix, v8 a0.xB.x0, v8 a0.xB.x1, v8 a0.xB.x2, v8 a0.xB.x3, v8 a0.xB.x4, v8 a0.xB.x5, v8 a0.xB.x6, v8 a0.xB.x7, v8 a0.xB.x8, v8 a0.xB.x9, v8 a0.xB.x10, v8 a0.xB.x11, v8 a0.xB.x12, v8 a0.xB.x13, v8 a0.xB.x14, v8 a0.xB.x15] 24]) (by kernel_rfl) ?_
  refine o_run 1 [14, 15] (l := []) .nil (E' := [(14, .slice A2 t1.length c2), (15, .slice A1 a3.length c1)]) (by kernel_rfl) ?_
  refine o_stp ?_ (by kernel_rfl)
  refine s_new 16 (fun g3 => .slice (ag g3) 2 2) [.slice A2 t1.length c2, .slice A1 a3.length c1] 32 (fun _ => by kernel_rfl) (fun g3 => ?_)
  refine t_drop [1, 0, 2, 3] (by kernel_rfl) ?_
  refine t_L (L' := [.own A2 t1.length c2 (rowOf e8 t1) 1 5, .blk g3 [.slice A2 t1.length c2, .slice A1 a3.length c1] 32, .blk g2 [vb a1.xSix, v8 a1.xB.x0, v8 a1.xB.x1, v8 a1.xB.x2, v8 a1.xB.x3, v8 a1.xB.x4, v8 a1.xB.x5, v8 a1.xB.x6, v8 a1.xB.x7, v8 a1.xB.x8, v8 a1.xB.x9, v8 a1.xB.x10, v8 a1.xB.x11, v8 a1.xB.x12, v8 a1.xB.x13, v8 a1.xB.x14, v8 a1.xB.x15] 24, .blk g1 [vb a0.xSix, v8 a0.xB.x0, v8 a0.xB.x1, v8 a0.xB.x2, v8 a0.xB.x3, v8 a0.xB.x4, v8 a0.xB.x5, v8 a0.xB.x6, v8 a0.xB.x7, v8 a0.xB.x8, v8 a0.xB.x9, v8 a0.xB.x10, v8 a0.xB.x11, v8 a0.xB.x12, v8 a0.xB.x13, v8 a0.xB.x14, v8 a0.xB.x15] 24]) (by kernel_rfl) ?_
  refine t_frozS (kI .u8) rfl rfl (fun B1 hx2 hs2 => ?_)
  refine t_frozL (kSl (kI .u8)) (xs := [t1, a3]) (css := [[.slice A2 t1.length c2], [.slice A1 a3.length c1]]) ⟨⟨A2, c2, hs2, rfl⟩, ⟨⟨A1, c1, (hs1.up hx2), rfl⟩, trivial⟩⟩ rfl (fun B2 hx3 hs3 => ?_)
  obtain ⟨t2, hx4, hm⟩ := bind_some hm
  refine o_stp ?_ (by kernel_rfl)
  refine s_call 17 54 #[.slice (ag g3) [t1, a3].length ([t1, a3].length)] [] [0, 1] (by kernel_rfl) (by kernel_rfl) (fun w hs => chksum_Check_ok k [t1, a3] t2 hx4 B2 _ (ag g3) ([t1, a3].length) hs3 w (St.cast (by kernel_rfl) hs)) (fun _ hx => ?_)
  refine t_L (L' := [.blk g2 [vb a1.xSix, v8 a1.xB.x0, v8 a1.xB.x1, v8 a1.xB.x2, v8 a1.xB.x3, v8 a1.xB.x4, v8 a1.xB.x5, v8 a1.xB.x6, v8 a1.xB.x7, v8 a1.xB.x8, v8 a1.xB.x9, v8 a1.xB.x10, v8 a1.xB.x11, v8 a1.xB.x12, v8 a1.xB.x13, v8 a1.xB.x14, v8 a1.xB.x15] 24, .blk g1 [vb a0.xSix, v8 a0.xB.x0, v8 a0.xB.x1, v8 a0.xB.x2, v8 a0.xB.x3, v8 a0.xB.x4, v8 a0.xB.x5, v8 a0.xB.x6, v8 a0.xB.x7, v8 a0.xB.x8, v8 a0.xB.x9, v8 a0.xB.x10, v8 a0.xB.x11, v8 a0.xB.x12, v8 a0.xB.x13, v8 a0.xB.x14, v8 a0.xB.x15] 24]) (by kernel_rfl) ?_
  refine o_run 1 [8] (l := []) .nil (E' := [(8, v16 t2)]) (by kernel_rfl) ?_
  refine o_end (by kernel_rfl) ?_
  refine e_seq ?_
  refine w_ret (by kernel_rfl) ?_
  obtain rfl := Option.some.inj hm
  exact e_retP B2 (v16 t2) [] (by kernel_rfl) (by kernel_rfl) rfl (by kernel_rfl) (by kernel_rfl) (Ext.trans hx2 hx3)
def seg_Lay.f (k : Nat) (a0 : TA) (a1 : TA) (a2 : TS_o) : Option ((List Int) × Int) :=
  ((seg_May.f a2).bind fun t1 => (if !t1 then (some (([] : List Int), 1)) else ((opts_Lay.f k a2.o).bind fun t2 => (if t2.2 != 0 then (some (([] : List Int), t2.2)) else ((octets_Put.f k ([] : List Int) 2 [U64 a2.sr, U64 a2.ds]).bind fun t3 => ((octets_Put.f k t3 4 [U64 a2.sq, U64 a2.ak]).bind fun t4 => ((app t4 [bshl .u8 (U8 (I64 (20 + (t2.1.length : Int)))) 2, a2.fl]).bind fun l1 => ((octets_Put.f k l1 2 [U64 a2.wi, 0, U64 a2.ur]).bind fun t5 => ((app t5 t2.1).bind fun l2 => ((app l2 ([] : List Int)).bind fun l3 => ((chksum_Load.f k a0 a1 6 l3).bind fun t6 => ((idx l3 16).bind fun e1 => ((idx (l3.set (Int.toNat 16) (U8 (bshr .u16 t6 8))) 17).bind fun e2 => (some (((l3.set (Int.toNat 16) (U8 (bshr .u16 t6 8))).set (Int.toNat 17) (U8 t6)), 0)))))))))))))))
theorem seg_Lay_ok (k : Nat) (a0 : TA) (a1 : TA) (a2 : TS_o) (r : (List Int) × Int) (hm : seg_Lay.f k a0 a1 a2 = some r) (B G : Asn) (w : World) (hs : St B G [] w) :
    Calls Try.prog 11 #[.agg #[vb a0.xSix, v8 a0.xB.x0, v8 a0.xB.x1, v8 a0.xB.x2, v8 a0.xB.x3, v8 a0.xB.x4, v8 a0.xB.x5, v8 a0.xB.x6, v8 a0.xB.x7, v8 a0.xB.x8, v8 a0.xB.x9, v8 a0.xB.x10, v8 a0.xB.x11, v8 a0.xB.x12, v8 a0.xB.x13, v8 a0.xB.x14, v8 a0.xB.x15], .agg #[vb a1.xSix, v8 a1.xB.x0, v8 a1.xB.x1, v8 a1.xB.x2, v8 a1.xB.x3, v8 a1.xB.x4, v8 a1.xB.x5, v8 a1.xB.x6, v8 a1.xB.x7, v8 a1.xB.x8, v8 a1.xB.x9, v8 a1.xB.x10, v8 a1.xB.x11, v8 a1.xB.x12, v8 a1.xB.x13, v8 a1.xB.x14, v8 a1.xB.x15], .agg #[v16 a2.sr, v16 a2.ds, v32 a2.sq, v32 a2.ak, v8 a2.fl, v16 a2.wi, v16 a2.ur, vb a2.o.hM, v16 a2.o.ms, vb a2.o.hS, v8 a2.o.sc, vb a2.o.sO, .slice none 0 0, vb a2.o.hT, v32 a2.o.va, v32 a2.o.ec, vb a2.o.hO, v8 a2.o.ki, v8 a2.o.ni, v8 a2.o.m.x0, v8 a2.o.m.x1, v8 a2.o.m.x2, v8 a2.o.m.x3, v8 a2.o.m.x4, v8 a2.o.m.x5, v8 a2.o.m.x6, v8 a2.o.m.x7, v8 a2.o.m.x8, v8 a2.o.m.x9, v8 a2.o.m.x10, v8 a2.o.m.x11, .slice none 0 0]] w (Post (X := Asn × (Option Addr) × Nat) (fun x => .tuple #[.slice x.2.1 r.1.length x.2.2, v64 r.2]) (fun x => x.1) G (fun x => [.own x.2.1 r.1.length x.2.2 (rowOf e8 r.1) 1 5]) (fun x => (Ext B x.1))) := by
  unfold seg_Lay.f at hm
  refine calls_W (F := Try.f11) Try.func11 rfl (by kernel_rfl) (L := []) ?_ hs
  refine w_seq 2 3 (by kernel_rfl) ?_
  refine w_region (by kernel_rfl) ?_
  refine o_stp ?_ (by kernel_rfl)
  refine s_new 3 (fun g1 => (pg g1)) [vb a0.xSix, v8 a0.xB.x0, v8 a0.xB.x1, v8 a0.xB.x2, v8 a0.xB.x3, v8 a0.xB.x4, v8 a0.xB.x5, v8 a0.xB.x6, v8 a0.xB.x7, v8 a0.xB.x8, v8 a0.xB.x9, v8 a0.xB.x10, v8 a0.xB.x11, v8 a0.xB.x12, v8 a0.xB.x13, v8 a0.xB.x14, v8 a0.xB.x15] 24 (fun _ => by kernel_rfl) (fun g1 => ?_)
  refine o_stp ?_ (by kernel_rfl)
  refine s_new 4 (fun g2 => (pg g2)) [vb a1.xSix, v8 a1.xB.x0, v8 a1.xB.x1, v8 a1.xB.x2, v8 a1.xB.x3, v8 a1.xB.x4, v8 a1.xB.x5, v8 a1.xB.x6, v8 a1.xB.x7, v8 a1.xB.x8, v8 a1.xB.x9, v8 a1.xB.x10, v8 a1.xB.x11, v8 a1.xB.x12, v8 a1.xB.x13, v8 a1.xB.x14, v8 a1.xB.x15] 24 (fun _ => by kernel_rfl) (fun g2 => ?_)
  refine o_stp ?_ (by kernel_rfl)
  refine s_new 5 (fun g3 => (pg g3)) [v16 a2.sr, v16 a2.ds, v32 a2.sq, v32 a2.ak, v8 a2.fl, v16 a2.wi, v16 a2.ur, vb a2.o.hM, v16 a2.o.ms, vb a2.o.hS, v8 a2.o.sc, vb a2.o.sO, .slice none 0 0, vb a2.o.hT, v32 a2.o.va, v32 a2.o.ec, vb a2.o.hO, v8 a2.o.ki, v8 a2.o.ni, v8 a2.o.m.x0, v8 a2.o.m.x1, v8 a2.o.m.x2, v8 a2.o.m.x3, v8 a2.o.m.x4, v8 a2.o.m.x5, v8 a2.o.m.x6, v8 a2.o.m.x7, v8 a2.o.m.x8, v8 a2.o.m.x9, v8 a2.o.m.x10, v8 a2.o.m.x11, .slice none 0 0] 34 (fun _ => by kernel_rfl) (fun g3 => ?_)
  refine o_run 2 [3, 4, 5] (l := []) .nil (E' := [(3, (pg g1)), (4, (pg g2)), (5, (pg g3))]) (by kernel_rfl) ?_
  refine o_end (by kernel_rfl) ?_
  refine e_seq ?_
  refine w_seq 6 7 (by kernel_rfl) ?_
  refine w_seq 12 13 (by kernel_rfl) ?_
  refine w_region (by kernel_rfl) ?_
  refine o_val 12 (.load 34 (.tmp 5)) (.agg #[v16 a2.sr, v16 a2.ds, v32 a2.sq, v32 a2.ak, v8 a2.fl, v16 a2.wi, v16 a2.ur, vb a2.o.hM, v16 a2.o.ms, vb a2.o.hS, v8 a2.o.sc, vb a2.o.sO, .slice none 0 0, vb a2.o.hT, v32 a2.o.va, v32 a2.o.ec, vb a2.o.hO, v8 a2.o.ki, v8 a2.o.ni, v8 a2.o.m.x0, v8 a2.o.m.x1, v8 a2.o.m.x2, v8 a2.o.m.x3, v8 a2.o.m.x4, v8 a2.o.m.x5, v8 a2.o.m.x6, v8 a2.o.m.x7, v8 a2.o.m.x8, v8 a2.o.m.x9, v8 a2.o.m.x10, v8 a2.o.m.x11, .slice none 0 0]) (by kernel_rfl) (v_load (l := [v16 a2.sr, v16 a2.ds, v32 a2.sq, v32 a2.ak, v8 a2.fl, v16 a2.wi, v16 a2.ur, vb a2.o.hM, v16 a2.o.ms, vb a2.o.hS, v8 a2.o.sc, vb a2.o.sO, .slice none 0 0, vb a2.o.hT, v32 a2.o.va, v32 a2.o.ec, vb a2.o.hO, v8 a2.o.ki, v8 a2.o.ni, v8 a2.o.m.x0, v8 a2.o.m.x1, v8 a2.o.m.x2, v8 a2.o.m.x3, v8 a2.o.m.x4, v8 a2.o.m.x5, v8 a2.o.m.x6, v8 a2.o.m.x7, v8 a2.o.m.x8, v8 a2.o.m.x9, v8 a2.o.m.x10, v8 a2.o.m.x11, .slice none 0 0]) (a := ⟨g3, 0, none⟩) (by kernel_rfl) (by kernel_rfl) (at_blk (j := 0) rfl rfl)) ?_
  obtain ⟨t1, hx1, hm⟩ := bind_some hm
  refine o_stp ?_ (by kernel_rfl)
  refine s_call 13 13 #[.agg #[v16 a2.sr, v16 a2.ds, v32 a2.sq, v32 a2.ak, v8 a2.fl, v16 a2.wi, v16 a2.ur, vb a2.o.hM, v16 a2.o.ms, vb a2.o.hS, v8 a2.o.sc, vb a2.o.sO, .slice none 0 0, vb a2.o.hT, v32 a2.o.va, v32 a2.o.ec, vb a2.o.hO, v8 a2.o.ki, v8 a2.o.ni, v8 a2.o.m.x0, v8 a2.o.m.x1, v8 a2.o.m.x2, v8 a2.o.m.x3, v8 a2.o.m.x4, v8 a2.o.m.x5, v8 a2.o.m.x6, v8 a2.o.m.x7, v8 a2.o.m.x8, v8 a2.o.m.x9, v8 a2.o.m.x10, v8 a2.o.m.x11, .slice none 0 0]] [] [0, 1, 2] (by kernel_rfl) (by kernel_rfl) (fun w hs => seg_May_ok a2 t1 hx1 B _ w (St.cast (by kernel_rfl) hs)) (fun _ hx => ?_)
  refine t_L (L' := [.blk g3 [v16 a2.sr, v16 a2.ds, v32 a2.sq, v32 a2.ak, v8 a2.fl, v16 a2.wi, v16 a2.ur, vb a2.o.hM, v16 a2.o.ms, vb a2.o.hS, v8 a2.o.sc, vb a2.o.sO, .slice none 0 0, vb a2.o.hT, v32 a2.o.va, v32 a2.o.ec, vb a2.o.hO, v8 a2.o.ki, v8 a2.o.ni, v8 a2.o.m.x0, v8 a2.o.m.x1, v8 a2.o.m.x2, v8 a2.o.m.x3, v8 a2.o.m.x4, v8 a2.o.m.x5, v8 a2.o.m.x6, v8 a2.o.m.x7, v8 a2.o.m.x8, v8 a2.o.m.x9, v8 a2.o.m.x10, v8 a2.o.m.x11, .slice none 0 0] 34, .blk g2 [vb a1.xSix, v8 a1.xB.x0, v8 a1.xB.x1, v8 a1.xB.x2, v8 a1.xB.x3, v8 a1.xB.x4, v8 a1.xB.x5, v8 a1.xB.x6, v8 a1.xB.x7, v8 a1.xB.x8, v8 a1.xB.x9, v8 a1.xB.x10, v8 a1.xB.x11, v8 a1.xB.x12, v8 a1.xB.x13, v8 a1.xB.x14, v8 a1.xB.x15] 24, .blk g1 [vb a0.xSix, v8 a0.xB.x0, v8 a0.xB.x1, v8 a0.xB.x2, v8 a0.xB.x3, v8 a0.xB.x4, v8 a0.xB.x5, v8 a0.xB.x6, v8 a0.xB.x7, v8 a0.xB.x8, v8 a0.xB.x9, v8 a0.xB.x10, v8 a0.xB.x11, v8 a0.xB.x12, v8 a0.xB.x13, v8 a0.xB.x14, v8 a0.xB.x15] 24]) (by kernel_rfl) ?_
  refine o_run 1 [3, 4, 5, 14] (l := []) .nil (E' := [(3, (pg g1)), (4, (pg g2)), (5, (pg g3)), (14, vb (!t1))]) (by kernel_rfl) ?_
  refine o_end (by kernel_rfl) ?_
  refine e_seq ?_
  refine w_cond (.tmp 14) 26 27 (!t1) (by kernel_rfl) (by kernel_rfl) (fun hb1 => ?_) (fun hb1 => ?_)
  · replace hm := ite_t hb1 hm
    refine w_seq 52 53 (by kernel_rfl) ?_
    refine w_region (by kernel_rfl) ?_
    refine o_run 2 [6, 7] (l := []) .nil (E' := [(6, .slice none 0 0), (7, v64 1)]) (by kernel_rfl) ?_
    refine o_end (by kernel_rfl) ?_
    refine e_seq ?_
    refine w_ret (by kernel_rfl) ?_
    refine t_nil 5 1 ?_
    refine t_L (L' := [.own none (([] : List Int).length) 0 (rowOf e8 ([] : List Int)) 1 5, .blk g3 [v16 a2.sr, v16 a2.ds, v32 a2.sq, v32 a2.ak, v8 a2.fl, v16 a2.wi, v16 a2.ur, vb a2.o.hM, v16 a2.o.ms, vb a2.o.hS, v8 a2.o.sc, vb a2.o.sO, .slice none 0 0, vb a2.o.hT, v32 a2.o.va, v32 a2.o.ec, vb a2.o.hO, v8 a2.o.ki, v8 a2.o.ni, v8 a2.o.m.x0, v8 a2.o.m.x1, v8 a2.o.m.x2, v8 a2.o.m.x3, v8 a2.o.m.x4, v8 a2.o.m.x5, v8 a2.o.m.x6, v8 a2.o.m.x7, v8 a2.o.m.x8, v8 a2.o.m.x9, v8 a2.o.m.x10, v8 a2.o.m.x11, .slice none 0 0] 34, .blk g2 [vb a1.xSix, v8 a1.xB.x0, v8 a1.xB.x1, v8 a1.xB.x2, v8 a1.xB.x3, v8 a1.xB.x4, v8 a1.xB.x5, v8 a1.xB.x6, v8 a1.xB.x7, v8 a1.xB.x8, v8 a1.xB.x9, v8 a1.xB.x10, v8 a1.xB.x11, v8 a1.xB.x12, v8 a1.xB.x13, v8 a1.xB.x14, v8 a1.xB.x15] 24, .blk g1 [vb a0.xSix, v8 a0.xB.x0, v8 a0.xB.x1, v8 a0.xB.x2, v8 a0.xB.x3, v8 a0.xB.x4, v8 a0.xB.x5, v8 a0.xB.x6, v8 a0.xB.x7, v8 a0.xB.x8, v8 a0.xB.x9, v8 a0.xB.x10, v8 a0.xB.x11, v8 a0.xB.x12, v8 a0.xB.x13, v8 a0.xB.x14, v8 a0.xB.x15] 24]) (by kernel_rfl) ?_
    obtain rfl := Option.some.inj hm
    exact e_retP (B, none, 0) (.tuple #[.slice none (([] : List Int).length) 0, v64 1]) [0] (by kernel_rfl) (by kernel_rfl) rfl (by kernel_rfl) (by kernel_rfl) (Ext.refl _)
  · replace hm := ite_f hb1 hm
    refine w_skip (by kernel_rfl) ?_
    refine e_seq ?_
    refine w_seq 14 15 (by kernel_rfl) ?_
    refine w_region (by kernel_rfl) ?_
    refine o_run 1 [3, 4, 5, 16] (l := []) .nil (E' := [(3, (pg g1)), (4, (pg g2)), (5, (pg g3)), (16, .pointer (some ⟨g3, 7, none⟩))]) (by kernel_rfl) ?_
    refine o_val 17 (.load 31 (.tmp 16)) (.agg #[vb a2.o.hM, v16 a2.o.ms, vb a2.o.hS, v8 a2.o.sc, vb a2.o.sO, .slice none 0 0, vb a2.o.hT, v32 a2.o.va, v32 a2.o.ec, vb a2.o.hO, v8 a2.o.ki, v8 a2.o.ni, v8 a2.o.m.x0, v8 a2.o.m.x1, v8 a2.o.m.x2, v8 a2.o.m.x3, v8 a2.o.m.x4, v8 a2.o.m.x5, v8 a2.o.m.x6, v8 a2.o.m.x7, v8 a2.o.m.x8, v8 a2.o.m.x9, v8 a2.o.m.x10, v8 a2.o.m.x11]) (by kernel_rfl) (v_load (l := [vb a2.o.hM, v16 a2.o.ms, vb a2.o.hS, v8 a2.o.sc, vb a2.o.sO, .slice none 0 0, vb a2.o.hT, v32 a2.o.va, v32 a2.o.ec, vb a2.o.hO, v8 a2.o.ki, v8 a2.o.ni, v8 a2.o.m.x0, v8 a2.o.m.x1, v8 a2.o.m.x2, v8 a2.o.m.x3, v8 a2.o.m.x4, v8 a2.o.m.x5, v8 a2.o.m.x6, v8 a2.o.m.x7, v8 a2.o.m.x8, v8 a2.o.m.x9, v8 a2.o.m.x10, v8 a2.o.m.x11]) (a := ⟨g3, 7, none⟩) (by kernel_rfl) (by kernel_rfl) (at_blk (j := 0) rfl rfl)) ?_
    obtain ⟨t2, hx2, hm⟩ := bind_some hm
    refine o_stp ?_ (by kernel_rfl)
    refine s_call 18 29 #[.agg #[vb a2.o.hM, v16 a2.o.ms, vb a2.o.hS, v8 a2.o.sc, vb a2.o.sO, .slice none 0 0, vb a2.o.hT, v32 a2.o.va, v32 a2.o.ec, vb a2.o.hO, v8 a2.o.ki, v8 a2.o.ni, v8 a2.o.m.x0, v8 a2.o.m.x1, v8 a2.o.m.x2, v8 a2.o.m.x3, v8 a2.o.m.x4, v8 a2.o.m.x5, v8 a2.o.m.x6, v8 a2.o.m.x7, v8 a2.o.m.x8, v8 a2.o.m.x9, v8 a2.o.m.x10, v8 a2.o.m.x11]] [] [0, 1, 2] (by kernel_rfl) (by kernel_rfl) (fun w hs => opts_Lay_ok k a2.o t2 hx2 B _ w (St.cast (by kernel_rfl) hs)) (fun x hx => ?_)
    obtain ⟨A1, c1⟩ := x
    refine t_L (L' := [.own A1 t2.1.length c1 (rowOf e8 t2.1) 1 5, .blk g3 [v16 a2.sr, v16 a2.ds, v32 a2.sq, v32 a2.ak, v8 a2.fl, v16 a2.wi, v16 a2.ur, vb a2.o.hM, v16 a2.o.ms, vb a2.o.hS, v8 a2.o.sc, vb a2.o.sO, .slice none 0 0, vb a2.o.hT, v32 a2.o.va, v32 a2.o.ec, vb a2.o.hO, v8 a2.o.ki, v8 a2.o.ni, v8 a2.o.m.x0, v8 a2.o.m.x1, v8 a2.o.m.x2, v8 a2.o.m.x3, v8 a2.o.m.x4, v8 a2.o.m.x5, v8 a2.o.m.x6, v8 a2.o.m.x7, v8 a2.o.m.x8, v8 a2.o.m.x9, v8 a2.o.m.x10, v8 a2.o.m.x11, .slice none 0 0] 34, .blk g2 [vb a1.xSix, v8 a1.xB.x0, v8 a1.xB.x1, v8 a1.xB.x2, v8 a1.xB.x3, v8 a1.xB.x4, v8 a1.xB.x5, v8 a1.xB.x6, v8 a1.xB.x7, v8 a1.xB.x8, v8 a1.xB.x9, v8 a1.xB.x10, v8 a1.xB.x11, v8 a1.xB.x12, v8 a1.xB.x13, v8 a1.xB.x14, v8 a1.xB.x15] 24, .blk g1 [vb a0.xSix, v8 a0.xB.x0, v8 a0.xB.x1, v8 a0.xB.x2, v8 a0.xB.x3, v8 a0.xB.x4, v8 a0.xB.x5, v8 a0.xB.x6, v8 a0.xB.x7, v8 a0.xB.x8, v8 a0.xB.x9, v8 a0.xB.x10, v8 a0.xB.x11, v8 a0.xB.x12, v8 a0.xB.x13, v8 a0.xB.x14, v8 a0.xB.x15] 24]) (by kernel_rfl) ?_
    refine o_run 5 [3, 4, 5, 8, 9] (l := []) .nil (E' := [(3, (pg g1)), (4, (pg g2)), (5, (pg g3)), (8, .slice A1 t2.1.length c1), (9, v64 t2.2)]) (by kernel_rfl) ?_
    refine o_end (by kernel_rfl) ?_
    refine e_seq ?_
    refine w_seq 30 31 (by kernel_rfl) ?_
    refine w_seq 60 61 (by kernel_rfl) ?_
    refine w_region (by kernel_rfl) ?_
    refine o_run 2 [3, 4, 5, 8, 9, 22] (l := []) .nil (E' := [(3, (pg g1)), (4, (pg g2)), (5, (pg g3)), (8, .slice A1 t2.1.length c1), (9, v64 t2.2), (22, vb (t2.2 != 0))]) (by kernel_rfl) ?_
    refine o_end (by kernel_rfl) ?_
    refine e_seq ?_
    refine w_cond (.tmp 22) 122 123 (t2.2 != 0) (by kernel_rfl) (by kernel_rfl) (fun hb2 => ?_) (fun hb2 => ?_)
    · replace hm := ite_t hb2 hm
      refine w_seq 244 245 (by kernel_rfl) ?_
      refine w_region (by kernel_rfl) ?_
      refine o_run 3 [6, 7] (l := []) .nil (E' := [(6, .slice none 0 0), (7, v64 t2.2)]) (by kernel_rfl) ?_
      refine o_end (by kernel_rfl) ?_
      refine e_seq ?_
      refine w_ret (by kernel_rfl) ?_
      refine t_nil 5 1 ?_
      refine t_L (L' := [.own none (([] : List Int).length) 0 (rowOf e8 ([] : List Int)) 1 5, .own A1 t2.1.length c1 (rowOf e8 t2.1) 1 5, .blk g3 [v16 a2.sr, v16 a2.ds, v32 a2.sq, v32 a2.ak, v8 a2.fl, v16 a2.wi, v16 a2.ur, vb a2.o.hM, v16 a2.o.ms, vb a2.o.hS, v8 a2.o.sc, vb a2.o.sO, .slice none 0 0, vb a2.o.hT, v32 a2.o.va, v32 a2.o.ec, vb a2.o.hO, v8 a2.o.ki, v8 a2.o.ni, v8 a2.o.m.x0, v8 a2.o.m.x1, v8 a2.o.m.x2, v8 a2.o.m.x3, v8 a2.o.m.x4, v8 a2.o.m.x5, v8 a2.o.m.x6, v8 a2.o.m.x7, v8 a2.o.m.x8, v8 a2.o.m.x9, v8 a2.o.m.x10, v8 a2.o.m.x11, .slice none 0 0] 34, .blk g2 [vb a1.xSix, v8 a1.xB.x0, v8 a1.xB.x1, v8 a1.xB.x2, v8 a1.xB.x3, v8 a1.xB.x4, v8 a1.xB.x5, v8 a1.xB.x6, v8 a1.xB.x7, v8 a1.xB.x8, v8 a1.xB.x9, v8 a1.xB.x10, v8 a1.xB.x11, v8 a1.xB.x12, v8 a1.xB.x13, v8 a1.xB.x14, v8 a1.xB.x15] 24, .blk g1 [vb a0.xSix, v8 a0.xB.x0, v8 a0.xB.x1, v8 a0.xB.x2, v8 a0.xB.x3, v8 a0.xB.x4, v8 a0.xB.x5, v8 a0.xB.x6, v8 a0.xB.x7, v8 a0.xB.x8, v8 a0.xB.x9, v8 a0.xB.x10, v8 a0.xB.x11, v8 a0.xB.x12, v8 a0.xB.x13, v8 a0.xB.x14, v8 a0.xB.x15] 24]) (by kernel_rfl) ?_
      obtain rfl := Option.some.inj hm
      exact e_retP (B, none, 0) (.tuple #[.slice none (([] : List Int).length) 0, v64 t2.2]) [0] (by kernel_rfl) (by kernel_rfl) rfl (by kernel_rfl) (by kernel_rfl) (Ext.refl _)
    · replace hm := ite_f hb2 hm
      refine w_skip (by kernel_rfl) ?_
      refine e_seq ?_
      refine w_seq 62 63 (by kernel_rfl) ?_
      refine w_region (by kernel_rfl) ?_
      refine o_run 6 [3, 4, 5, 8, 26, 29] (l := [(⟨g3, 0, none⟩, v16 a2.sr), (⟨g3, 1, none⟩, v16 a2.ds)]) (.one (at_blk (j := 1) rfl rfl) (.one (at_blk (j := 1) rfl rfl) .nil)) (E' := [(3, (pg g1)), (4, (pg g2)), (5, (pg g3)), (8, .slice A1 t2.1.length c1), (26, w64 (U64 a2.sr)), (29, w64 (U64 a2.ds))]) (by kernel_rfl) ?_
      refine o_stp ?_ (by kernel_rfl)
      refine s_new 30 (fun g4 => .slice (ag g4) 2 2) [w64 (U64 a2.sr), w64 (U64 a2.ds)] 60 (fun _ => by kernel_rfl) (fun g4 => ?_)
      refine t_blk_own (m := 2) (sz := 1) (by rfl) (by rfl) ?_
      refine t_L (L' := [.own (ag g4) ([U64 a2.sr, U64 a2.ds].length) 2 (rowOf (encI .u64) [U64 a2.sr, U64 a2.ds]) 1 60, .own A1 t2.1.length c1 (rowOf e8 t2.1) 1 5, .blk g3 [v16 a2.sr, v16 a2.ds, v32 a2.sq, v32 a2.ak, v8 a2.fl, v16 a2.wi, v16 a2.ur, vb a2.o.hM, v16 a2.o.ms, vb a2.o.hS, v8 a2.o.sc, vb a2.o.sO, .slice none 0 0, vb a2.o.hT, v32 a2.o.va, v32 a2.o.ec, vb a2.o.hO, v8 a2.o.ki, v8 a2.o.ni, v8 a2.o.m.x0, v8 a2.o.m.x1, v8 a2.o.m.x2, v8 a2.o.m.x3, v8 a2.o.m.x4, v8 a2.o.m.x5, v8 a2.o.m.x6, v8 a2.o.m.x7, v8 a2.o.m.x8, v8 a2.o.m.x9, v8 a2.o.m.x10, v8 a2.o.m.x11, .slice none 0 0] 34, .blk g2 [vb a1.xSix, v8 a1.xB.x0, v8 a1.xB.x1, v8 a1.xB.x2, v8 a1.xB.x3, v8 a1.xB.x4, v8 a1.xB.x5, v8 a1.xB.x6, v8 a1.xB.x7, v8 a1.xB.x8, v8 a1.xB.x9, v8 a1.xB.x10, v8 a1.xB.x11, v8 a1.xB.x12, v8 a1.xB.x13, v8 a1.xB.x14, v8 a1.xB.x15] 24, .blk g1 [vb a0.xSix, v8 a0.xB.x0, v8 a0.xB.x1, v8 a0.xB.x2, v8 a0.xB.x3, v8 a0.xB.x4, v8 a0.xB.x5, v8 a0.xB.x6, v8 a0.xB.x7, v8 a0.xB.x8, v8 a0.xB.x9, v8 a0.xB.x10, v8 a0.xB.x11, v8 a0.xB.x12, v8 a0.xB.x13, v8 a0.xB.x14, v8 a0.xB.x15] 24]) (by kernel_rfl) ?_
      refine t_frozS (kI .u64) rfl rfl (fun B1 hx3 hs1 => ?_)
      obtain ⟨t3, hx4, hm⟩ := bind_some hm
      refine o_stp ?_ (by kernel_rfl)
      refine s_call 31 30 #[.slice none ([] : List Int).length 0, v64 2, .slice (ag g4) [U64 a2.sr, U64 a2.ds].length 2] [] [0, 1, 2, 3] (by kernel_rfl) (by kernel_rfl) (fun w hs => octets_Put_ok k ([] : List Int) 2 [U64 a2.sr, U64 a2.ds] t3 hx4 B1 _ none 0 (ag g4) 2 ((Sl.nil (kI .u8) B none 0).up hx3) hs1 w (St.cast (by kernel_rfl) hs)) (fun x hx => ?_)
      obtain ⟨A2, c2⟩ := x
      refine t_L (L' := [.own A2 t3.length c2 (rowOf e8 t3) 1 5, .own A1 t2.1.length c1 (rowOf e8 t2.1) 1 5, .blk g3 [v16 a2.sr, v16 a2.ds, v32 a2.sq, v32 a2.ak, v8 a2.fl, v16 a2.wi, v16 a2.ur, vb a2.o.hM, v16 a2.o.ms, vb a2.o.hS, v8 a2.o.sc, vb a2.o.sO, .slice none 0 0, vb a2.o.hT, v32 a2.o.va, v32 a2.o.ec, vb a2.o.hO, v8 a2.o.ki, v8 a2.o.ni, v8 a2.o.m.x0, v8 a2.o.m.x1, v8 a2.o.m.x2, v8 a2.o.m.x3, v8 a2.o.m.x4, v8 a2.o.m.x5, v8 a2.o.m.x6, v8 a2.o.m.x7, v8 a2.o.m.x8, v8 a2.o.m.x9, v8 a2.o.m.x10, v8 a2.o.m.x11, .slice none 0 0] 34, .blk g2 [vb a1.xSix, v8 a1.xB.x0, v8 a1.xB.x1, v8 a1.xB.x2, v8 a1.xB.x3, v8 a1.xB.x4, v8 a1.xB.x5, v8 a1.xB.x6, v8 a1.xB.x7, v8 a1.xB.x8, v8 a1.xB.x9, v8 a1.xB.x10, v8 a1.xB.x11, v8 a1.xB.x12, v8 a1.xB.x13, v8 a1.xB.x14, v8 a1.xB.x15] 24, .blk g1 [vb a0.xSix, v8 a0.xB.x0, v8 a0.xB.x1, v8 a0.xB.x2, v8 a0.xB.x3, v8 a0.xB.x4, v8 a0.xB.x5, v8 a0.xB.x6, v8 a0.xB.x7, v8 a0.xB.x8, v8 a0.xB.x9, v8 a0.xB.x10, v8 a0.xB.x11, v8 a0.xB.x12, v8 a0.xB.x13, v8 a0.xB.x14, v8 a0.xB.x15] 24]) (by kernel_rfl) ?_
      refine o_run 1 [3, 4, 5, 8, 10] (l := []) .nil (E' := [(3, (pg g1)), (4, (pg g2)), (5, (pg g3)), (8, .slice A1 t2.1.length c1), (10, .slice A2 t3.length c2)]) (by kernel_rfl) ?_
      refine o_end (by kernel_rfl) ?_
      refine e_seq ?_
      refine w_seq 126 127 (by kernel_rfl) ?_
      refine w_region (by kernel_rfl) ?_
      refine o_run 7 [3, 4, 5, 8, 32, 35, 38] (l := [(⟨g3, 2, none⟩, v32 a2.sq), (⟨g3, 3, none⟩, v32 a2.ak)]) (.one (at_blk (j := 2) rfl rfl) (.one (at_blk (j := 2) rfl rfl) .nil)) (E' := [(3, (pg g1)), (4, (pg g2)), (5, (pg g3)), (8, .slice A1 t2.1.length c1), (32, .slice A2 t3.length c2), (35, w64 (U64 a2.sq)), (38, w64 (U64 a2.ak))]) (by kernel_rfl) ?_
      refine o_stp ?_ (by kernel_rfl)
      refine s_new 39 (fun g5 => .slice (ag g5) 2 2) [w64 (U64 a2.sq), w64 (U64 a2.ak)] 60 (fun _ => by kernel_rfl) (fun g5 => ?_)
      refine t_drop [1, 0, 2, 3, 4, 5] (by kernel_rfl) ?_
      refine t_L (L' := [.own A2 t3.length c2 (rowOf e8 t3) 1 5, .blk g5 [w64 (U64 a2.sq), w64 (U64 a2.ak)] 60, .own A1 t2.1.length c1 (rowOf e8 t2.1) 1 5, .blk g3 [v16 a2.sr, v16 a2.ds, v32 a2.sq, v32 a2.ak, v8 a2.fl, v16 a2.wi, v16 a2.ur, vb a2.o.hM, v16 a2.o.ms, vb a2.o.hS, v8 a2.o.sc, vb a2.o.sO, .slice none 0 0, vb a2.o.hT, v32 a2.o.va, v32 a2.o.ec, vb a2.o.hO, v8 a2.o.ki, v8 a2.o.ni, v8 a2.o.m.x0, v8 a2.o.m.x1, v8 a2.o.m.x2, v8 a2.o.m.x3, v8 a2.o.m.x4, v8 a2.o.m.x5, v8 a2.o.m.x6, v8 a2.o.m.x7, v8 a2.o.m.x8, v8 a2.o.m.x9, v8 a2.o.m.x10, v8 a2.o.m.x11, .slice none 0 0] 34, .blk g2 [vb a1.xSix, v8 a1.xB.x0, v8 a1.xB.x1, v8 a1.xB.x2, v8 a1.xB.x3, v8 a1.xB.x4, v8 a1.xB.x5, v8 a1.xB.x6, v8 a1.xB.x7, v8 a1.xB.x8, v8 a1.xB.x9, v8 a1.xB.x10, v8 a1.xB.x11, v8 a1.xB.x12, v8 a1.xB.x13, v8 a1.xB.x14, v8 a1.xB.x15] 24, .blk g1 [vb a0.xSix, v8 a0.xB.x0, v8 a0.xB.x1, v8 a0.xB.x2, v8 a0.xB.x3, v8 a0.xB.x4, v8 a0.xB.x5, v8 a0.xB.x6, v8 a0.xB.x7, v8 a0.xB.x8, v8 a0.xB.x9, v8 a0.xB.x10, v8 a0.xB.x11, v8 a0.xB.x12, v8 a0.xB.x13, v8 a0.xB.x14, v8 a0.xB.x15] 24]) (by kernel_rfl) ?_
      refine t_lendS (kI .u8) rfl rfl (fun B2 hx5 hs2 hb3 => ?_)
      refine t_blk_own (m := 2) (sz := 1) (by rfl) (by rfl) ?_
      refine t_L (L' := [.own (ag g5) ([U64 a2.sq, U64 a2.ak].length) 2 (rowOf (encI .u64) [U64 a2.sq, U64 a2.ak]) 1 60, .own A1 t2.1.length c1 (rowOf e8 t2.1) 1 5, .blk g3 [v16 a2.sr, v16 a2.ds, v32 a2.sq, v32 a2.ak, v8 a2.fl, v16 a2.wi, v16 a2.ur, vb a2.o.hM, v16 a2.o.ms, vb a2.o.hS, v8 a2.o.sc, vb a2.o.sO, .slice none 0 0, vb a2.o.hT, v32 a2.o.va, v32 a2.o.ec, vb a2.o.hO, v8 a2.o.ki, v8 a2.o.ni, v8 a2.o.m.x0, v8 a2.o.m.x1, v8 a2.o.m.x2, v8 a2.o.m.x3, v8 a2.o.m.x4, v8 a2.o.m.x5, v8 a2.o.m.x6, v8 a2.o.m.x7, v8 a2.o.m.x8, v8 a2.o.m.x9, v8 a2.o.m.x10, v8 a2.o.m.x11, .slice none 0 0] 34, .blk g2 [vb a1.xSix, v8 a1.xB.x0, v8 a1.xB.x1, v8 a1.xB.x2, v8 a1.xB.x3, v8 a1.xB.x4, v8 a1.xB.x5, v8 a1.xB.x6, v8 a1.xB.x7, v8 a1.xB.x8, v8 a1.xB.x9, v8 a1.xB.x10, v8 a1.xB.x11, v8 a1.xB.x12, v8 a1.xB.x13, v8 a1.xB.x14, v8 a1.xB.x15] 24, .blk g1 [vb a0.xSix, v8 a0.xB.x0, v8 a0.xB.x1, v8 a0.xB.x2, v8 a0.xB.x3, v8 a0.xB.x4, v8 a0.xB.x5, v8 a0.xB.x6, v8 a0.xB.x7, v8 a0.xB.x8, v8 a0.xB.x9, v8 a0.xB.x10, v8 a0.xB.x11, v8 a0.xB.x12, v8 a0.xB.x13, v8 a0.xB.x14, v8 a0.xB.x15] 24]) (by kernel_rfl) ?_
      refine t_frozS (kI .u64) rfl rfl (fun B3 hx6 hs3 => ?_)
      obtain ⟨t4, hx7, hm⟩ := bind_some hm
      refine o_stp ?_ (by kernel_rfl)
      refine s_call 40 30 #[.slice A2 t3.length c2, v64 4, .slice (ag g5) [U64 a2.sq, U64 a2.ak].length 2] [] [0, 1, 2, 3] (by kernel_rfl) (by kernel_rfl) (fun w hs => octets_Put_ok k t3 4 [U64 a2.sq, U64 a2.ak] t4 hx7 B3 _ A2 c2 (ag g5) 2 (hs2.up hx6) hs3 w (St.cast (by kernel_rfl) hs)) (fun x hx => ?_)
      obtain ⟨A3, c3⟩ := x
      refine t_L (L' := [.own A3 t4.length c3 (rowOf e8 t4) 1 5, .own A1 t2.1.length c1 (rowOf e8 t2.1) 1 5, .blk g3 [v16 a2.sr, v16 a2.ds, v32 a2.sq, v32 a2.ak, v8 a2.fl, v16 a2.wi, v16 a2.ur, vb a2.o.hM, v16 a2.o.ms, vb a2.o.hS, v8 a2.o.sc, vb a2.o.sO, .slice none 0 0, vb a2.o.hT, v32 a2.o.va, v32 a2.o.ec, vb a2.o.hO, v8 a2.o.ki, v8 a2.o.ni, v8 a2.o.m.x0, v8 a2.o.m.x1, v8 a2.o.m.x2, v8 a2.o.m.x3, v8 a2.o.m.x4, v8 a2.o.m.x5, v8 a2.o.m.x6, v8 a2.o.m.x7, v8 a2.o.m.x8, v8 a2.o.m.x9, v8 a2.o.m.x10, v8 a2.o.m.x11, .slice none 0 0] 34, .blk g2 [vb a1.xSix, v8 a1.xB.x0, v8 a1.xB.x1, v8 a1.xB.x2, v8 a1.xB.x3, v8 a1.xB.x4, v8 a1.xB.x5, v8 a1.xB.x6, v8 a1.xB.x7, v8 a1.xB.x8, v8 a1.xB.x9, v8 a1.xB.x10, v8 a1.xB.x11, v8 a1.xB.x12, v8 a1.xB.x13, v8 a1.xB.x14, v8 a1.xB.x15] 24, .blk g1 [vb a0.xSix, v8 a0.xB.x0, v8 a0.xB.x1, v8 a0.xB.x2, v8 a0.xB.x3, v8 a0.xB.x4, v8 a0.xB.x5, v8 a0.xB.x6, v8 a0.xB.x7, v8 a0.xB.x8, v8 a0.xB.x9, v8 a0.xB.x10, v8 a0.xB.x11, v8 a0.xB.x12, v8 a0.xB.x13, v8 a0.xB.x14, v8 a0.xB.x15] 24]) (by kernel_rfl) ?_
      refine t_back hb3 hx6 ?_
      refine o_run 1 [3, 4, 5, 8, 10] (l := []) .nil (E' := [(3, (pg g1)), (4, (pg g2)), (5, (pg g3)), (8, .slice A1 t2.1.length c1), (10, .slice A3 t4.length c3)]) (by kernel_rfl) ?_
      refine o_end (by kernel_rfl) ?_
      refine e_seq ?_
      refine w_seq 254 255 (by kernel_rfl) ?_
      refine w_region (by kernel_rfl) ?_
      refine o_run 8 [3, 4, 5, 8, 41, 46, 48] (l := [(⟨g3, 4, none⟩, v8 a2.fl)]) (.one (at_blk (j := 3) rfl rfl) .nil) (E' := [(3, (pg g1)), (4, (pg g2)), (5, (pg g3)), (8, .slice A1 t2.1.length c1), (41, .slice A3 t4.length c3), (46, v8 (bshl .u8 (U8 (I64 (20 + (t2.1.length : Int)))) 2)), (48, v8 a2.fl)]) (by kernel_rfl) ?_
      refine o_stp ?_ (by kernel_rfl)
      refine s_new 49 (fun g6 => .slice (ag g6) 2 2) [v8 (bshl .u8 (U8 (I64 (20 + (t2.1.length : Int)))) 2), v8 a2.fl] 5 (fun _ => by kernel_rfl) (fun g6 => ?_)
      obtain ⟨l1, hx8, hm⟩ := bind_some hm
      refine o_stp ?_ (by kernel_rfl)
      refine s_app (z := v8 0) (enc := (encI .u8)) (ys := [bshl .u8 (U8 (I64 (20 + (t2.1.length : Int)))) 2, a2.fl]) (k := 2) (bytes := 1) 50 32 32 (.tmp 41) (.tmp 49) 2 hx8 rfl rfl (by kernel_rfl) (by kernel_rfl) (by kernel_rfl) (by kernel_rfl) (by kernel_rfl) (by kernel_rfl) rfl (src_blk (e := 5) (j := 0) (by kernel_rfl) rfl (by kernel_rfl) rfl (by kernel_rfl)) (by decide) (fun A4 c4 => ?_)
      refine t_L (L' := [.blk g6 [v8 (bshl .u8 (U8 (I64 (20 + (t2.1.length : Int)))) 2), v8 a2.fl] 5, .own A2 t3.length c2 (rowOf e8 t3) 1 5, .own A4 l1.length c4 (rowOf e8 l1) 1 5, .own A1 t2.1.length c1 (rowOf e8 t2.1) 1 5, .blk g3 [v16 a2.sr, v16 a2.ds, v32 a2.sq, v32 a2.ak, v8 a2.fl, v16 a2.wi, v16 a2.ur, vb a2.o.hM, v16 a2.o.ms, vb a2.o.hS, v8 a2.o.sc, vb a2.o.sO, .slice none 0 0, vb a2.o.hT, v32 a2.o.va, v32 a2.o.ec, vb a2.o.hO, v8 a2.o.ki, v8 a2.o.ni, v8 a2.o.m.x0, v8 a2.o.m.x1, v8 a2.o.m.x2, v8 a2.o.m.x3, v8 a2.o.m.x4, v8 a2.o.m.x5, v8 a2.o.m.x6, v8 a2.o.m.x7, v8 a2.o.m.x8, v8 a2.o.m.x9, v8 a2.o.m.x10, v8 a2.o.m.x11, .slice none 0 0] 34, .blk g2 [vb a1.xSix, v8 a1.xB.x0, v8 a1.xB.x1, v8 a1.xB.x2, v8 a1.xB.x3, v8 a1.xB.x4, v8 a1.xB.x5, v8 a1.xB.x6, v8 a1.xB.x7, v8 a1.xB.x8, v8 a1.xB.x9, v8 a1.xB.x10, v8 a1.xB.x11, v8 a1.xB.x12, v8 a1.xB.x13, v8 a1.xB.x14, v8 a1.xB.x15] 24, .blk g1 [vb a0.xSix, v8 a0.xB.x0, v8 a0.xB.x1, v8 a0.xB.x2, v8 a0.xB.x3, v8 a0.xB.x4, v8 a0.xB.x5, v8 a0.xB.x6, v8 a0.xB.x7, v8 a0.xB.x8, v8 a0.xB.x9, v8 a0.xB.x10, v8 a0.xB.x11, v8 a0.xB.x12, v8 a0.xB.x13, v8 a0.xB.x14, v8 a0.xB.x15] 24]) (by kernel_rfl) ?_
      refine o_run 1 [3, 4, 5, 8, 10] (l := []) .nil (E' := [(3, (pg g1)), (4, (pg g2)), (5, (pg g3)), (8, .slice A1 t2.1.length c1), (10, .slice A4 l1.length c4)]) (by kernel_rfl) ?_
      refine o_end (by kernel_rfl) ?_
      refine e_seq ?_
      refine w_seq 510 511 (by kernel_rfl) ?_
      refine w_region (by kernel_rfl) ?_
      refine o_run 7 [3, 4, 5, 8, 51, 54, 57] (l := [(⟨g3, 5, none⟩, v16 a2.wi), (⟨g3, 6, none⟩, v16 a2.ur)]) (.one (at_blk (j := 4) rfl rfl) (.one (at_blk (j := 4) rfl rfl) .nil)) (E' := [(3, (pg g1)), (4, (pg g2)), (5, (pg g3)), (8, .slice A1 t2.1.length c1), (51, .slice A4 l1.length c4), (54, w64 (U64 a2.wi)), (57, w64 (U64 a2.ur))]) (by kernel_rfl) ?_
      refine o_stp ?_ (by kernel_rfl)
      refine s_new 58 (fun g7 => .slice (ag g7) 3 3) [w64 (U64 a2.wi), w64 0, w64 (U64 a2.ur)] 60 (fun _ => by kernel_rfl) (fun g7 => ?_)
      refine t_drop [3, 0, 1, 2, 4, 5, 6, 7] (by kernel_rfl) ?_
      refine t_L (L' := [.own A4 l1.length c4 (rowOf e8 l1) 1 5, .blk g7 [w64 (U64 a2.wi), w64 0, w64 (U64 a2.ur)] 60, .blk g6 [v8 (bshl .u8 (U8 (I64 (20 + (t2.1.length : Int)))) 2), v8 a2.fl] 5, .own A2 t3.length c2 (rowOf e8 t3) 1 5, .own A1 t2.1.length c1 (rowOf e8 t2.1) 1 5, .blk g3 [v16 a2.sr, v16 a2.ds, v32 a2.sq, v32 a2.ak, v8 a2.fl, v16 a2.wi, v16 a2.ur, vb a2.o.hM, v16 a2.o.ms, vb a2.o.hS, v8 a2.o.sc, vb a2.o.sO, .slice none 0 0, vb a2.o.hT, v32 a2.o.va, v32 a2.o.ec, vb a2.o.hO, v8 a2.o.ki, v8 a2.o.ni, v8 a2.o.m.x0, v8 a2.o.m.x1, v8 a2.o.m.x2, v8 a2.o.m.x3, v8 a2.o.m.x4, v8 a2.o.m.x5, v8 a2.o.m.x6, v8 a2.o.m.x7, v8 a2.o.m.x8, v8 a2.o.m.x9, v8 a2.o.m.x10, v8 a2.o.m.x11, .slice none 0 0] 34, .blk g2 [vb a1.xSix, v8 a1.xB.x0, v8 a1.xB.x1, v8 a1.xB.x2, v8 a1.xB.x3, v8 a1.xB.x4, v8 a1.xB.x5, v8 a1.xB.x6, v8 a1.xB.x7, v8 a1.xB.x8, v8 a1.xB.x9, v8 a1.xB.x10, v8 a1.xB.x11, v8 a1.xB.x12, v8 a1.xB.x13, v8 a1.xB.x14, v8 a1.xB.x15] 24, .blk g1 [vb a0.xSix, v8 a0.xB.x0, v8 a0.xB.x1, v8 a0.xB.x2, v8 a0.xB.x3, v8 a0.xB.x4, v8 a0.xB.x5, v8 a0.xB.x6, v8 a0.xB.x7, v8 a0.xB.x8, v8 a0.xB.x9, v8 a0.xB.x10, v8 a0.xB.x11, v8 a0.xB.x12, v8 a0.xB.x13, v8 a0.xB.x14, v8 a0.xB.x15] 24]) (by kernel_rfl) ?_
      refine t_lendS (kI .u8) rfl rfl (fun B4 hx9 hs4 hb4 => ?_)
      refine t_blk_own (m := 3) (sz := 1) (by rfl) (by rfl) ?_
      refine t_L (L' := [.own (ag g7) ([U64 a2.wi, 0, U64 a2.ur].length) 3 (rowOf (encI .u64) [U64 a2.wi, 0, U64 a2.ur]) 1 60, .blk g6 [v8 (bshl .u8 (U8 (I64 (20 + (t2.1.length : Int)))) 2), v8 a2.fl] 5, .own A2 t3.length c2 (rowOf e8 t3) 1 5, .own A1 t2.1.length c1 (rowOf e8 t2.1) 1 5, .blk g3 [v16 a2.sr, v16 a2.ds, v32 a2.sq, v32 a2.ak, v8 a2.fl, v16 a2.wi, v16 a2.ur, vb a2.o.hM, v16 a2.o.ms, vb a2.o.hS, v8 a2.o.sc, vb a2.o.sO, .slice none 0 0, vb a2.o.hT, v32 a2.o.va, v32 a2.o.ec, vb a2.o.hO, v8 a2.o.ki, v8 a2.o.ni, v8 a2.o.m.x0, v8 a2.o.m.x1, v8 a2.o.m.x2, v8 a2.o.m.x3, v8 a2.o.m.x4, v8 a2.o.m.x5, v8 a2.o.m.x6, v8 a2.o.m.x7, v8 a2.o.m.x8, v8 a2.o.m.x9, v8 a2.o.m.x10, v8 a2.o.m.x11, .slice none 0 0] 34, .blk g2 [vb a1.xSix, v8 a1.xB.x0, v8 a1.xB.x1, v8 a1.xB.x2, v8 a1.xB.x3, v8 a1.xB.x4, v8 a1.xB.x5, v8 a1.xB.x6, v8 a1.xB.x7, v8 a1.xB.x8, v8 a1.xB.x9, v8 a1.xB.x10, v8 a1.xB.x11, v8 a1.xB.x12, v8 a1.xB.x13, v8 a1.xB.x14, v8 a1.xB.x15] 24, .blk g1 [vb a0.xSix, v8 a0.xB.x0, v8 a0.xB.x1, v8 a0.xB.x2, v8 a0.xB.x3, v8 a0.xB.x4, v8 a0.xB.x5, v8 a0.xB.x6, v8 a0.xB.x7, v8 a0.xB.x8, v8 a0.xB.x9, v8 a0.xB.x10, v8 a0.xB.x11, v8 a0.xB.x12, v8 a0.xB.x13, v8 a0.xB.x14, v8 a0.xB.x15] 24]) (by kernel_rfl) ?_
      refine t_frozS (kI .u64) rfl rfl (fun B5 hx10 hs5 => ?_)
      obtain ⟨t5, hx11, hm⟩ := bind_some hm
      refine o_stp ?_ (by kernel_rfl)
      refine s_call 59 30 #[.slice A4 l1.length c4, v64 2, .slice (ag g7) [U64 a2.wi, 0, U64 a2.ur].length 3] [] [0, 1, 2, 3, 4, 5] (by kernel_rfl) (by kernel_rfl) (fun w hs => octets_Put_ok k l1 2 [U64 a2.wi, 0, U64 a2.ur] t5 hx11 B5 _ A4 c4 (ag g7) 3 (hs4.up hx10) hs5 w (St.cast (by kernel_rfl) hs)) (fun x hx => ?_)
      obtain ⟨A5, c5⟩ := x
      refine t_L (L' := [.own A5 t5.length c5 (rowOf e8 t5) 1 5, .blk g6 [v8 (bshl .u8 (U8 (I64 (20 + (t2.1.length : Int)))) 2), v8 a2.fl] 5, .own A2 t3.length c2 (rowOf e8 t3) 1 5, .own A1 t2.1.length c1 (rowOf e8 t2.1) 1 5, .blk g3 [v16 a2.sr, v16 a2.ds, v32 a2.sq, v32 a2.ak, v8 a2.fl, v16 a2.wi, v16 a2.ur, vb a2.o.hM, v16 a2.o.ms, vb a2.o.hS, v8 a2.o.sc, vb a2.o.sO, .slice none 0 0, vb a2.o.hT, v32 a2.o.va, v32 a2.o.ec, vb a2.o.hO, v8 a2.o.ki, v8 a2.o.ni, v8 a2.o.m.x0, v8 a2.o.m.x1, v8 a2.o.m.x2, v8 a2.o.m.x3, v8 a2.o.m.x4, v8 a2.o.m.x5, v8 a2.o.m.x6, v8 a2.o.m.x7, v8 a2.o.m.x8, v8 a2.o.m.x9, v8 a2.o.m.x10, v8 a2.o.m.x11, .slice none 0 0] 34, .blk g2 [vb a1.xSix, v8 a1.xB.x0, v8 a1.xB.x1, v8 a1.xB.x2, v8 a1.xB.x3, v8 a1.xB.x4, v8 a1.xB.x5, v8 a1.xB.x6, v8 a1.xB.x7, v8 a1.xB.x8, v8 a1.xB.x9, v8 a1.xB.x10, v8 a1.xB.x11, v8 a1.xB.x12, v8 a1.xB.x13, v8 a1.xB.x14, v8 a1.xB.x15] 24, .blk g1 [vb a0.xSix, v8 a0.xB.x0, v8 a0.xB.x1, v8 a0.xB.x2, v8 a0.xB.x3, v8 a0.xB.x4, v8 a0.xB.x5, v8 a0.xB.x6, v8 a0.xB.x7, v8 a0.xB.x8, v8 a0.xB.x9, v8 a0.xB.x10, v8 a0.xB.x11, v8 a0.xB.x12, v8 a0.xB.x13, v8 a0.xB.x14, v8 a0.xB.x15] 24]) (by kernel_rfl) ?_
      refine t_back hb4 hx10 ?_
      refine o_run 1 [3, 4, 5, 8, 10] (l := []) .nil (E' := [(3, (pg g1)), (4, (pg g2)), (5, (pg g3)), (8, .slice A1 t2.1.length c1), (10, .slice A5 t5.length c5)]) (by kernel_rfl) ?_
      refine o_end (by kernel_rfl) ?_
      refine e_seq ?_
      refine w_seq 1022 1023 (by kernel_rfl) ?_
      obtain ⟨l2, hx12, hm⟩ := bind_some hm
      obtain ⟨l3, hx13, hm⟩ := bind_some hm
      refine w_tail 5 [.own A4 l1.length c4 (rowOf e8 l1) 1 5, .blk g6 [v8 (bshl .u8 (U8 (I64 (20 + (t2.1.length : Int)))) 2), v8 a2.fl] 5, .own A2 t3.length c2 (rowOf e8 t3) 1 5, .own A1 t2.1.length c1 (rowOf e8 t2.1) 1 5, .blk g3 [v16 a2.sr, v16 a2.ds, v32 a2.sq, v32 a2.ak, v8 a2.fl, v16 a2.wi, v16 a2.ur, vb a2.o.hM, v16 a2.o.ms, vb a2.o.hS, v8 a2.o.sc, vb a2.o.sO, .slice none 0 0, vb a2.o.hT, v32 a2.o.va, v32 a2.o.ec, vb a2.o.hO, v8 a2.o.ki, v8 a2.o.ni, v8 a2.o.m.x0, v8 a2.o.m.x1, v8 a2.o.m.x2, v8 a2.o.m.x3, v8 a2.o.m.x4, v8 a2.o.m.x5, v8 a2.o.m.x6, v8 a2.o.m.x7, v8 a2.o.m.x8, v8 a2.o.m.x9, v8 a2.o.m.x10, v8 a2.o.m.x11, .slice none 0 0] 34, .blk g2 [vb a1.xSix, v8 a1.xB.x0, v8 a1.xB.x1, v8 a1.xB.x2, v8 a1.xB.x3, v8 a1.xB.x4, v8 a1.xB.x5, v8 a1.xB.x6, v8 a1.xB.x7, v8 a1.xB.x8, v8 a1.xB.x9, v8 a1.xB.x10, v8 a1.xB.x11, v8 a1.xB.x12, v8 a1.xB.x13, v8 a1.xB.x14, v8 a1.xB.x15] 24, .blk g1 [vb a0.xSix, v8 a0.xB.x0, v8 a0.xB.x1, v8 a0.xB.x2, v8 a0.xB.x3, v8 a0.xB.x4, v8 a0.xB.x5, v8 a0.xB.x6, v8 a0.xB.x7, v8 a0.xB.x8, v8 a0.xB.x9, v8 a0.xB.x10, v8 a0.xB.x11, v8 a0.xB.x12, v8 a0.xB.x13, v8 a0.xB.x14, v8 a0.xB.x15] 24] (by kernel_rfl) mixed (by kernel_rfl) ?_
      refine tt_run [0, 1, 3, 4] [3, 4, 10, 60, 61, 64] [0, 2, 3, 4, 5, 6, 7] 1 (listed' := #[true, true, false, true, true, false, false]) (l := [(⟨g3, 31, none⟩, .slice none 0 0)]) (.one (at_blk (j := 4) rfl rfl) .nil) (E' := [(3, (pg g1)), (4, (pg g2)), (10, .slice A5 t5.length c5), (60, .slice A5 t5.length c5), (61, .slice A1 t2.1.length c1), (64, .slice none 0 0)]) (by kernel_rfl) (by kernel_rfl) (by kernel_rfl) (Ext.refl _) (by kernel_rfl) (by kernel_rfl) ?_
      refine tt_stp 2 [0, 2, 3, 4, 5, 6, 7] (Ext.refl _) (by kernel_rfl) (by kernel_rfl) (by kernel_rfl) (by kernel_rfl) ?_
      refine s_app (z := v8 0) (enc := (encI .u8)) (ys := t2.1) (k := t2.1.length) (bytes := 1) 62 32 32 (.tmp 60) (.tmp 61) 1 hx12 rfl rfl (by kernel_rfl) (by kernel_rfl) (by kernel_rfl) (by kernel_rfl) (by kernel_rfl) (by kernel_rfl) rfl (src_own (e := 5) (j := 4) (by kernel_rfl) rfl) (by decide) (fun A8 c8 => ?_)
      refine t_L (L' := [.own A4 l1.length c4 (rowOf e8 l1) 1 5, .own A8 l2.length c8 (rowOf e8 l2) 1 5, .blk g6 [v8 (bshl .u8 (U8 (I64 (20 + (t2.1.length : Int)))) 2), v8 a2.fl] 5, .own A2 t3.length c2 (rowOf e8 t3) 1 5, .own A1 t2.1.length c1 (rowOf e8 t2.1) 1 5, .blk g3 [v16 a2.sr, v16 a2.ds, v32 a2.sq, v32 a2.ak, v8 a2.fl, v16 a2.wi, v16 a2.ur, vb a2.o.hM, v16 a2.o.ms, vb a2.o.hS, v8 a2.o.sc, vb a2.o.sO, .slice none 0 0, vb a2.o.hT, v32 a2.o.va, v32 a2.o.ec, vb a2.o.hO, v8 a2.o.ki, v8 a2.o.ni, v8 a2.o.m.x0, v8 a2.o.m.x1, v8 a2.o.m.x2, v8 a2.o.m.x3, v8 a2.o.m.x4, v8 a2.o.m.x5, v8 a2.o.m.x6, v8 a2.o.m.x7, v8 a2.o.m.x8, v8 a2.o.m.x9, v8 a2.o.m.x10, v8 a2.o.m.x11, .slice none 0 0] 34, .blk g2 [vb a1.xSix, v8 a1.xB.x0, v8 a1.xB.x1, v8 a1.xB.x2, v8 a1.xB.x3, v8 a1.xB.x4, v8 a1.xB.x5, v8 a1.xB.x6, v8 a1.xB.x7, v8 a1.xB.x8, v8 a1.xB.x9, v8 a1.xB.x10, v8 a1.xB.x11, v8 a1.xB.x12, v8 a1.xB.x13, v8 a1.xB.x14, v8 a1.xB.x15] 24, .blk g1 [vb a0.xSix, v8 a0.xB.x0, v8 a0.xB.x1, v8 a0.xB.x2, v8 a0.xB.x3, v8 a0.xB.x4, v8 a0.xB.x5, v8 a0.xB.x6, v8 a0.xB.x7, v8 a0.xB.x8, v8 a0.xB.x9, v8 a0.xB.x10, v8 a0.xB.x11, v8 a0.xB.x12, v8 a0.xB.x13, v8 a0.xB.x14, v8 a0.xB.x15] 24]) (by kernel_rfl) ?_
      refine tt_end [0, 2, 3, 4, 5, 6, 7] (Ext.refl _) (by kernel_rfl) (by kernel_rfl) (by kernel_rfl) ?_
      refine o_stp ?_ (by kernel_rfl)
      refine s_app (z := v8 0) (enc := (encI .u8)) (ys := ([] : List Int)) (k := 0) (bytes := 1) 65 32 32 (.tmp 62) (.tmp 64) 1 hx13 rfl rfl (by kernel_rfl) (by kernel_rfl) (by kernel_rfl) (by kernel_rfl) (by kernel_rfl) (by kernel_rfl) rfl (src_nil (e := 5) (α := Int) (by kernel_rfl)) (by decide) (fun A9 c9 => ?_)
      refine t_L (L' := [.own A4 l1.length c4 (rowOf e8 l1) 1 5, .own A9 l3.length c9 (rowOf e8 l3) 1 5, .blk g6 [v8 (bshl .u8 (U8 (I64 (20 + (t2.1.length : Int)))) 2), v8 a2.fl] 5, .own A2 t3.length c2 (rowOf e8 t3) 1 5, .own A1 t2.1.length c1 (rowOf e8 t2.1) 1 5, .blk g3 [v16 a2.sr, v16 a2.ds, v32 a2.sq, v32 a2.ak, v8 a2.fl, v16 a2.wi, v16 a2.ur, vb a2.o.hM, v16 a2.o.ms, vb a2.o.hS, v8 a2.o.sc, vb a2.o.sO, .slice none 0 0, vb a2.o.hT, v32 a2.o.va, v32 a2.o.ec, vb a2.o.hO, v8 a2.o.ki, v8 a2.o.ni, v8 a2.o.m.x0, v8 a2.o.m.x1, v8 a2.o.m.x2, v8 a2.o.m.x3, v8 a2.o.m.x4, v8 a2.o.m.x5, v8 a2.o.m.x6, v8 a2.o.m.x7, v8 a2.o.m.x8, v8 a2.o.m.x9, v8 a2.o.m.x10, v8 a2.o.m.x11, .slice none 0 0] 34, .blk g2 [vb a1.xSix, v8 a1.xB.x0, v8 a1.xB.x1, v8 a1.xB.x2, v8 a1.xB.x3, v8 a1.xB.x4, v8 a1.xB.x5, v8 a1.xB.x6, v8 a1.xB.x7, v8 a1.xB.x8, v8 a1.xB.x9, v8 a1.xB.x10, v8 a1.xB.x11, v8 a1.xB.x12, v8 a1.xB.x13, v8 a1.xB.x14, v8 a1.xB.x15] 24, .blk g1 [vb a0.xSix, v8 a0.xB.x0, v8 a0.xB.x1, v8 a0.xB.x2, v8 a0.xB.x3, v8 a0.xB.x4, v8 a0.xB.x5, v8 a0.xB.x6, v8 a0.xB.x7, v8 a0.xB.x8, v8 a0.xB.x9, v8 a0.xB.x10, v8 a0.xB.x11, v8 a0.xB.x12, v8 a0.xB.x13, v8 a0.xB.x14, v8 a0.xB.x15] 24]) (by kernel_rfl) ?_
      refine o_run 1 [3, 4, 10] (l := []) .nil (E' := [(3, (pg g1)), (4, (pg g2)), (10, .slice A9 l3.length c9)]) (by kernel_rfl) ?_
      refine o_end (by kernel_rfl) ?_
      refine e_seq ?_
      refine w_seq 2046 2047 (by kernel_rfl) ?_
      refine w_region (by kernel_rfl) ?_
      refine o_val 66 (.load 24 (.tmp 3)) (.agg #[vb a0.xSix, v8 a0.xB.x0, v8 a0.xB.x1, v8 a0.xB.x2, v8 a0.xB.x3, v8 a0.xB.x4, v8 a0.xB.x5, v8 a0.xB.x6, v8 a0.xB.x7, v8 a0.xB.x8, v8 a0.xB.x9, v8 a0.xB.x10, v8 a0.xB.x11, v8 a0.xB.x12, v8 a0.xB.x13, v8 a0.xB.x14, v8 a0.xB.x15]) (by kernel_rfl) (v_load (l := [vb a0.xSix, v8 a0.xB.x0, v8 a0.xB.x1, v8 a0.xB.x2, v8 a0.xB.x3, v8 a0.xB.x4, v8 a0.xB.x5, v8 a0.xB.x6, v8 a0.xB.x7, v8 a0.xB.x8, v8 a0.xB.x9, v8 a0.xB.x10, v8 a0.xB.x11, v8 a0.xB.x12, v8 a0.xB.x13, v8 a0.xB.x14, v8 a0.xB.x15]) (a := ⟨g1, 0, none⟩) (by kernel_rfl) (by kernel_rfl) (at_blk (j := 7) rfl rfl)) ?_
      refine o_val 67 (.load 24 (.tmp 4)) (.agg #[vb a1.xSix, v8 a1.xB.x0, v8 a1.xB.x1, v8 a1.xB.x2, v8 a1.xB.x3, v8 a1.xB.x4, v8 a1.xB.x5, v8 a1.xB.x6, v8 a1.xB.x7, v8 a1.xB.x8, v8 a1.xB.x9, v8 a1.xB.x10, v8 a1.xB.x11, v8 a1.xB.x12, v8 a1.xB.x13, v8 a1.xB.x14, v8 a1.xB.x15]) (by kernel_rfl) (v_load (l := [vb a1.xSix, v8 a1.xB.x0, v8 a1.xB.x1, v8 a1.xB.x2, v8 a1.xB.x3, v8 a1.xB.x4, v8 a1.xB.x5, v8 a1.xB.x6, v8 a1.xB.x7, v8 a1.xB.x8, v8 a1.xB.x9, v8 a1.xB.x10, v8 a1.xB.x11, v8 a1.xB.x12, v8 a1.xB.x13, v8 a1.xB.x14, v8 a1.xB.x15]) (a := ⟨g2, 0, none⟩) (by kernel_rfl) (by kernel_rfl) (at_blk (j := 6) rfl rfl)) ?_
      refine o_run 1 [10, 66, 67, 68] (l := []) .nil (E' := [(10, .slice A9 l3.length c9), (66, .agg #[vb a0.xSix, v8 a0.xB.x0, v8 a0.xB.x1, v8 a0.xB.x2, v8 a0.xB.x3, v8 a0.xB.x4, v8 a0.xB.x5, v8 a0.xB.x6, v8 a0.xB.x7, v8 a0.xB.x8, v8 a0.xB.x9, v8 a0.xB.x10, v8 a0.xB.x11, v8 a0.xB.x12, v8 a0.xB.x13, v8 a0.xB.x14, v8 a0.xB.x15]), (67, .agg #[vb a1.xSix, v8 a1.xB.x0, v8 a1.xB.x1, v8 a1.xB.x2, v8 a1.xB.x3, v8 a1.xB.x4, v8 a1.xB.x5, v8 a1.xB.x6, v8 a1.xB.x7, v8 a1.xB.x8, v8 a1.xB.x9, v8 a1.xB.x10, v8 a1.xB.x11, v8 a1.xB.x12, v8 a1.xB.x13, v8 a1.xB.x14, v8 a1.xB.x15]), (68, .slice A9 l3.length c9)]) (by kernel_rfl) ?_
      refine t_drop [1, 0, 2, 3, 4, 5, 6, 7] (by kernel_rfl) ?_
      refine t_L (L' := [.own A9 l3.length c9 (rowOf e8 l3) 1 5, .own A4 l1.length c4 (rowOf e8 l1) 1 5, .blk g6 [v8 (bshl .u8 (U8 (I64 (20 + (t2.1.length : Int)))) 2), v8 a2.fl] 5, .own A2 t3.length c2 (rowOf e8 t3) 1 5, .own A1 t2.1.length c1 (rowOf e8 t2.1) 1 5, .blk g3 [v16 a2.sr, v16 a2.ds, v32 a2.sq, v32 a2.ak, v8 a2.fl, v16 a2.wi, v16 a2.ur, vb a2.o.hM, v16 a2.o.ms, vb a2.o.hS, v8 a2.o.sc, vb a2.o.sO, .slice none 0 0, vb a2.o.hT, v32 a2.o.va, v32 a2.o.ec, vb a2.o.hO, v8 a2.o.ki, v8 a2.o.ni, v8 a2.o.m.x0, v8 a2.o.m.x1, v8 a2.o.m.x2, v8 a2.o.m.x3, v8 a2.o.m.x4, v8 a2.o.m.x5, v8 a2.o.m.x6, v8 a2.o.m.x7, v8 a2.o.m.x8, v8 a2.o.m.x9, v8 a2.o.m.x10, v8 a2.o.m.x11, .slice none 0 0] 34, .blk g2 [vb a1.xSix, v8 a1.xB.x0, v8 a1.xB.x1, v8 a1.xB.x2, v8 a1.xB.x3, v8 a1.xB.x4, v8 a1.xB.x5, v8 a1.xB.x6, v8 a1.xB.x7, v8 a1.xB.x8, v8 a1.xB.x9, v8 a1.xB.x10, v8 a1.xB.x11, v8 a1.xB.x12, v8 a1.xB.x13, v8 a1.xB.x14, v8 a1.xB.x15] 24, .blk g1 [vb a0.xSix, v8 a0.xB.x0, v8 a0.xB.x1, v8 a0.xB.x2, v8 a0.xB.x3, v8 a0.xB.x4, v8 a0.xB.x5, v8 a0.xB.x6, v8 a0.xB.x7, v8 a0.xB.x8, v8 a0.xB.x9, v8 a0.xB.x10, v8 a0.xB.x11, v8 a0.xB.x12, v8 a0.xB.x13, v8 a0.xB.x14, v8 a0.xB.x15] 24]) (by kernel_rfl) ?_
      refine t_lendS (kI .u8) rfl rfl (fun B6 hx14 hs6 hb5 => ?_)
      obtain ⟨t6, hx15, hm⟩ := bind_some hm
      refine o_stp ?_ (by kernel_rfl)
      refine s_call 69 31 #[.agg #[vb a0.xSix, v8 a0.xB.x0, v8 a0.xB.x1, v8 a0.xB.x2, v8 a0.xB.x3, v8 a0.xB.x4, v8 a0.xB.x5, v8 a0.xB.x6, v8 a0.xB.x7, v8 a0.xB.x8, v8 a0.xB.x9, v8 a0.xB.x10, v8 a0.xB.x11, v8 a0.xB.x12, v8 a0.xB.x13, v8 a0.xB.x14, v8 a0.xB.x15], .agg #[vb a1.xSix, v8 a1.xB.x0, v8 a1.xB.x1, v8 a1.xB.x2, v8 a1.xB.x3, v8 a1.xB.x4, v8 a1.xB.x5, v8 a1.xB.x6, v8 a1.xB.x7, v8 a1.xB.x8, v8 a1.xB.x9, v8 a1.xB.x10, v8 a1.xB.x11, v8 a1.xB.x12, v8 a1.xB.x13, v8 a1.xB.x14, v8 a1.xB.x15], v8 6, .slice A9 l3.length c9] [] [0, 1, 2, 3, 4, 5, 6] (by kernel_rfl) (by kernel_rfl) (fun w hs => chksum_Load_ok k a0 a1 6 l3 t6 hx15 B6 _ A9 c9 hs6 w (St.cast (by kernel_rfl) hs)) (fun B7 hx => ?_)
      have hx16 := hx
      refine t_L (L' := [.own A4 l1.length c4 (rowOf e8 l1) 1 5, .blk g6 [v8 (bshl .u8 (U8 (I64 (20 + (t2.1.length : Int)))) 2), v8 a2.fl] 5, .own A2 t3.length c2 (rowOf e8 t3) 1 5, .own A1 t2.1.length c1 (rowOf e8 t2.1) 1 5, .blk g3 [v16 a2.sr, v16 a2.ds, v32 a2.sq, v32 a2.ak, v8 a2.fl, v16 a2.wi, v16 a2.ur, vb a2.o.hM, v16 a2.o.ms, vb a2.o.hS, v8 a2.o.sc, vb a2.o.sO, .slice none 0 0, vb a2.o.hT, v32 a2.o.va, v32 a2.o.ec, vb a2.o.hO, v8 a2.o.ki, v8 a2.o.ni, v8 a2.o.m.x0, v8 a2.o.m.x1, v8 a2.o.m.x2, v8 a2.o.m.x3, v8 a2.o.m.x4, v8 a2.o.m.x5, v8 a2.o.m.x6, v8 a2.o.m.x7, v8 a2.o.m.x8, v8 a2.o.m.x9, v8 a2.o.m.x10, v8 a2.o.m.x11, .slice none 0 0] 34, .blk g2 [vb a1.xSix, v8 a1.xB.x0, v8 a1.xB.x1, v8 a1.xB.x2, v8 a1.xB.x3, v8 a1.xB.x4, v8 a1.xB.x5, v8 a1.xB.x6, v8 a1.xB.x7, v8 a1.xB.x8, v8 a1.xB.x9, v8 a1.xB.x10, v8 a1.xB.x11, v8 a1.xB.x12, v8 a1.xB.x13, v8 a1.xB.x14, v8 a1.xB.x15] 24, .blk g1 [vb a0.xSix, v8 a0.xB.x0, v8 a0.xB.x1, v8 a0.xB.x2, v8 a0.xB.x3, v8 a0.xB.x4, v8 a0.xB.x5, v8 a0.xB.x6, v8 a0.xB.x7, v8 a0.xB.x8, v8 a0.xB.x9, v8 a0.xB.x10, v8 a0.xB.x11, v8 a0.xB.x12, v8 a0.xB.x13, v8 a0.xB.x14, v8 a0.xB.x15] 24]) (by kernel_rfl) ?_
      refine t_back hb5 hx16 ?_
      refine o_run 1 [10, 11] (l := []) .nil (E' := [(10, .slice A9 l3.length c9), (11, v16 t6)]) (by kernel_rfl) ?_
      refine o_end (by kernel_rfl) ?_
      refine e_seq ?_
      refine w_seq 4094 4095 (by kernel_rfl) ?_
      refine w_region (by kernel_rfl) ?_
      refine o_run 7 [10, 70, 71, 74, 76] (l := []) .nil (E' := [(10, .slice A9 l3.length c9), (70, .slice A9 l3.length c9), (71, .slice A9 l3.length c9), (74, v8 (U8 (bshr .u16 t6 8))), (76, v8 (U8 t6))]) (by kernel_rfl) ?_
      obtain ⟨e1, hx17, hm⟩ := bind_some hm
      obtain ⟨hi1, hi2, hg1⟩ := idx_some hx17
      refine o_val 77 (.indexAddr 32 (.tmp 70) (.const (v64 16))) (.pointer (some (adr A9 (Int.toNat 16 * 1)))) (by kernel_rfl) (v_index (k := .i64) (c := c9) (by kernel_rfl) (by kernel_rfl) (by kernel_rfl) hi1 hi2 (own_some (j := 0) rfl hi2 hi1)) ?_
      refine o_stp ?_ (by kernel_rfl)
      refine s_setE (enc := (encI .u8)) (v := v8 (U8 (bshr .u16 t6 8))) 5 (.tmp 77) (.tmp 74) 0 (x := U8 (bshr .u16 t6 8)) (by kernel_rfl) (by kernel_rfl) (by kernel_rfl) rfl (by kernel_rfl) rfl (fun _ => rfl) hg1 (fun u hu => by cases List.mem_singleton.1 hu; rfl) (by decide) ?_
      have hl1 : l3.length = (l3.set (Int.toNat 16) (U8 (bshr .u16 t6 8))).length := Eq.trans rfl List.length_set.symm
      obtain ⟨e2, hx18, hm⟩ := bind_some hm
      obtain ⟨hi3, hi4, hg2⟩ := idx_some hx18
      refine o_val 78 (.indexAddr 32 (.tmp 71) (.const (v64 17))) (.pointer (some (adr A9 (Int.toNat 17 * 1)))) (by kernel_rfl) (v_index (k := .i64) (c := c9) (by kernel_rfl) (by kernel_rfl) (by kernel_rfl) hi3 (len_lt hl1 hi4) (own_some (j := 0) rfl (len_lt hl1 hi4) hi3)) ?_
      refine o_stp ?_ (by kernel_rfl)
      refine s_setE (enc := (encI .u8)) (v := v8 (U8 t6)) 5 (.tmp 78) (.tmp 76) 0 (x := U8 t6) (by kernel_rfl) (by kernel_rfl) (by kernel_rfl) rfl (by kernel_rfl) rfl (fun _ => rfl) hg2 (fun u hu => by cases List.mem_singleton.1 hu; rfl) (by decide) ?_
      have hl2 : l3.length = ((l3.set (Int.toNat 16) (U8 (bshr .u16 t6 8))).set (Int.toNat 17) (U8 t6)).length := Eq.trans hl1 List.length_set.symm
      refine o_end (by kernel_rfl) ?_
      refine e_seq ?_
      refine w_seq 8190 8191 (by kernel_rfl) ?_
      refine w_region (by kernel_rfl) ?_
      refine o_run 3 [6, 7] (l := []) .nil (E' := [(6, .slice A9 l3.length c9), (7, v64 0)]) (by kernel_rfl) ?_
      refine o_end (by kernel_rfl) ?_
      refine e_seq ?_
      refine w_ret (by kernel_rfl) ?_
      refine t_env [6, 7] (E' := [(6, .slice A9 l3.length c9), (7, v64 0)]) (by kernel_rfl) ?_
      refine t_EL (E' := [(6, .slice A9 (((l3.set (Int.toNat 16) (U8 (bshr .u16 t6 8))).set (Int.toNat 17) (U8 t6)).length) c9), (7, v64 0)]) (L' := [.own A9 (((l3.set (Int.toNat 16) (U8 (bshr .u16 t6 8))).set (Int.toNat 17) (U8 t6)).length) c9 (rowOf e8 ((l3.set (Int.toNat 16) (U8 (bshr .u16 t6 8))).set (Int.toNat 17) (U8 t6))) 1 5, .own A4 l1.length c4 (rowOf e8 l1) 1 5, .blk g6 [v8 (bshl .u8 (U8 (I64 (20 + (t2.1.length : Int)))) 2), v8 a2.fl] 5, .own A2 t3.length c2 (rowOf e8 t3) 1 5, .own A1 t2.1.length c1 (rowOf e8 t2.1) 1 5, .blk g3 [v16 a2.sr, v16 a2.ds, v32 a2.sq, v32 a2.ak, v8 a2.fl, v16 a2.wi, v16 a2.ur, vb a2.o.hM, v16 a2.o.ms, vb a2.o.hS, v8 a2.o.sc, vb a2.o.sO, .slice none 0 0, vb a2.o.hT, v32 a2.o.va, v32 a2.o.ec, vb a2.o.hO, v8 a2.o.ki, v8 a2.o.ni, v8 a2.o.m.x0, v8 a2.o.m.x1, v8 a2.o.m.x2, v8 a2.o.m.x3, v8 a2.o.m.x4, v8 a2.o.m.x5, v8 a2.o.m.x6, v8 a2.o.m.x7, v8 a2.o.m.x8, v8 a2.o.m.x9, v8 a2.o.m.x10, v8 a2.o.m.x11, .slice none 0 0] 34, .blk g2 [vb a1.xSix, v8 a1.xB.x0, v8 a1.xB.x1, v8 a1.xB.x2, v8 a1.xB.x3, v8 a1.xB.x4, v8 a1.xB.x5, v8 a1.xB.x6, v8 a1.xB.x7, v8 a1.xB.x8, v8 a1.xB.x9, v8 a1.xB.x10, v8 a1.xB.x11, v8 a1.xB.x12, v8 a1.xB.x13, v8 a1.xB.x14, v8 a1.xB.x15] 24, .blk g1 [vb a0.xSix, v8 a0.xB.x0, v8 a0.xB.x1, v8 a0.xB.x2, v8 a0.xB.x3, v8 a0.xB.x4, v8 a0.xB.x5, v8 a0.xB.x6, v8 a0.xB.x7, v8 a0.xB.x8, v8 a0.xB.x9, v8 a0.xB.x10, v8 a0.xB.x11, v8 a0.xB.x12, v8 a0.xB.x13, v8 a0.xB.x14, v8 a0.xB.x15] 24]) (eq_of_len hl2 (fun n => ([(6, .slice A9 n c9), (7, v64 0)], [.own A9 n c9 (rowOf e8 ((l3.set (Int.toNat 16) (U8 (bshr .u16 t6 8))).set (Int.toNat 17) (U8 t6))) 1 5, .own A4 l1.length c4 (rowOf e8 l1) 1 5, .blk g6 [v8 (bshl .u8 (U8 (I64 (20 + (t2.1.length : Int)))) 2), v8 a2.fl] 5, .own A2 t3.length c2 (rowOf e8 t3) 1 5, .own A1 t2.1.length c1 (rowOf e8 t2.1) 1 5, .blk g3 [v16 a2.sr, v16 a2.ds, v32 a2.sq, v32 a2.ak, v8 a2.fl, v16 a2.wi, v16 a2.ur, vb a2.o.hM, v16 a2.o.ms, vb a2.o.hS, v8 a2.o.sc, vb a2.o.sO, .slice none 0 0, vb a2.o.hT, v32 a2.o.va, v32 a2.o.ec, vb a2.o.hO, v8 a2.o.ki, v8 a2.o.ni, v8 a2.o.m.x0, v8 a2.o.m.x1, v8 a2.o.m.x2, v8 a2.o.m.x3, v8 a2.o.m.x4, v8 a2.o.m.x5, v8 a2.o.m.x6, v8 a2.o.m.x7, v8 a2.o.m.x8, v8 a2.o.m.x9, v8 a2.o.m.x10, v8 a2.o.m.x11, .slice none 0 0] 34, .blk g2 [vb a1.xSix, v8 a1.xB.x0, v8 a1.xB.x1, v8 a1.xB.x2, v8 a1.xB.x3, v8 a1.xB.x4, v8 a1.xB.x5, v8 a1.xB.x6, v8 a1.xB.x7, v8 a1.xB.x8, v8 a1.xB.x9, v8 a1.xB.x10, v8 a1.xB.x11, v8 a1.xB.x12, v8 a1.xB.x13, v8 a1.xB.x14, v8 a1.xB.x15] 24, .blk g1 [vb a0.xSix, v8 a0.xB.x0, v8 a0.xB.x1, v8 a0.xB.x2, v8 a0.xB.x3, v8 a0.xB.x4, v8 a0.xB.x5, v8 a0.xB.x6, v8 a0.xB.x7, v8 a0.xB.x8, v8 a0.xB.x9, v8 a0.xB.x10, v8 a0.xB.x11, v8 a0.xB.x12, v8 a0.xB.x13, v8 a0.xB.x14, v8 a0.xB.x15] 24])) rfl rfl) ?_
      obtain rfl := Option.some.inj hm
      exact e_retP (B1, A9, c9) (.tuple #[.slice A9 (((l3.set (Int.toNat 16) (U8 (bshr .u16 t6 8))).set (Int.toNat 17) (U8 t6)).length) c9, v64 0]) [0] (by kernel_rfl) (by kernel_rfl) rfl (by kernel_rfl) (by kernel_rfl) hx3
def chksum_Good.f (k : Nat) (a0 : TA) (a1 : TA) (a2 : Int) (a3 : List Int) : Option (Bool) :=
  ((chksum_Pseudo.f a0 a1 a2 (a3.length : Int)).bind fun t1 => ((chksum_Sum.f k [t1, a3]).bind fun t2 => (some (t2 == 65535))))
theorem chksum_Good_ok (k : Nat) (a0 : TA) (a1 : TA) (a2 : Int) (a3 : List Int) (r : Bool) (hm : chksum_Good.f k a0 a1 a2 a3 = some r) (B G : Asn) (A1 : Option Addr) (c1 : Nat) (hs1 : Sl (kI .u8) B A1 c1 a3) (w : World) (hs : St B G [] w) :
    Calls Try.prog 39 #[.agg #[vb a0.xSix, v8 a0.xB.x0, v8 a0.xB.x1, v8 a0.xB.x2, v8 a0.xB.x3, v8 a0.xB.x4, v8 a0.xB.x5, v8 a0.xB.x6, v8 a0.xB.x7, v8 a0.xB.x8, v8 a0.xB.x9, v8 a0.xB.x10, v8 a0.xB.x11, v8 a0.xB.x12, v8 a0.xB.x13, v8 a0.xB.x14, v8 a0.xB.x15], .agg #[vb a1.xSix, v8 a1.xB.x0, v8 a1.xB.x1, v8 a1.xB.x2, v8 a1.xB.x3, v8 a1.xB.x4, v8 a1.xB.x5, v8 a1.xB.x6, v8 a1.xB.x7, v8 a1.xB.x8, v8 a1.xB.x9, v8 a1.xB.x10, v8 a1.xB.x11, v8 a1.xB.x12, v8 a1.xB.x13, v8 a1.xB.x14, v8 a1.xB.x15], v8 a2, .slice A1 a3.length c1] w (Post (X := Asn) (fun x => vb r) (fun x => x) G (fun x => []) (fun x => (Ext B x))) := by
  unfold chksum_Good.f at hm
  refine calls_W (F := Try.f39) Try.func39 rfl (by kernel_rfl) (L := []) ?_ hs
  refine w_seq 2 3 (by kernel_rfl) ?_
  refine w_region (by kernel_rfl) ?_
  refine o_stp ?_ (by kernel_rfl)
  refine s_new 4 (fun g1 => (pg g1)) [vb a0.xSix, v8 a0.xB.x0, v8 a0.xB.x1, v8 a0.xB.x2, v8 a0.xB.x3, v8 a0.xB.x4, v8 a0.xB.x5, v8 a0.xB.x6, v8 a0.xB.x7, v8 a0.xB.x8, v8 a0.xB.x9, v8 a0.xB.x10, v8 a0.xB.x11, v8 a0.xB.x12, v8 a0.xB.x13, v8 a0.xB.x14, v8 a0.xB.x15] 24 (fun _ => by kernel_rfl) (fun g1 => ?_)
  refine o_stp ?_ (by kernel_rfl)
  refine s_new 5 (fun g2 => (pg g2)) [vb a1.xSix, v8 a1.xB.x0, v8 a1.xB.x1, v8 a1.xB.x2, v8 a1.xB.x3, v8 a1.xB.x4, v8 a1.xB.x5, v8 a1.xB.x6, v8 a1.xB.x7, v8 a1.xB.x8, v8 a1.xB.x9, v8 a1.xB.x10, v8 a1.xB.x11, v8 a1.xB.x12, v8 a1.xB.x13, v8 a1.xB.x14, v8 a1.xB.x15] 24 (fun _ => by kernel_rfl) (fun g2 => ?_)
  refine o_run 1 [2, 3, 4, 5] (l := []) .nil (E' := [(2, v8 a2), (3, .slice A1 a3.length c1), (4, (pg g1)), (5, (pg g2))]) (by kernel_rfl) ?_
  refine o_end (by kernel_rfl) ?_
  refine e_seq ?_
  refine w_seq 6 7 (by kernel_rfl) ?_
  refine w_region (by kernel_rfl) ?_
  refine o_val 9 (.load 24 (.tmp 4)) (.agg #[vb a0.xSix, v8 a0.xB.x0, v8 a0.xB.x1, v8 a0.xB.x2, v8 a0.xB.x3, v8 a0.xB.x4, v8 a0.xB.x5, v8 a0.xB.x6, v8 a0.xB.x7, v8 a0.xB.x8, v8 a0.xB.x9, v8 a0.xB.x10, v8 a0.xB.x11, v8 a0.xB.x12, v8 a0.xB.x13, v8 a0.xB.x14, v8 a0.xB.x15]) (by kernel_rfl) (v_load (l := [vb a0.xSix, v8 a0.xB.x0, v8 a0.xB.x1, v8 a0.xB.x2, v8 a0.xB.x3, v8 a0.xB.x4, v8 a0.xB.x5, v8 a0.xB.x6, v8 a0.xB.x7, v8 a0.xB.x8, v8 a0.xB.x9, v8 a0.xB.x10, v8 a0.xB.x11, v8 a0.xB.x12, v8 a0.xB.x13, v8 a0.xB.x14, v8 a0.xB.x15]) (a := ⟨g1, 0, none⟩) (by kernel_rfl) (by kernel_rfl) (at_blk (j := 1) rfl rfl)) ?_
  refine o_val 10 (.load 24 (.tmp 5)) (.agg #[vb a1.xSix, v8 a1.xB.x0, v8 a1.xB.x1, v8 a1.xB.x2, v8 a1.xB.x3, v8 a1.xB.x4, v8 a1.xB.x5, v8 a1.xB.x6, v8 a1.xB.x7, v8 a1.xB.x8, v8 a1.xB.x9, v8 a1.xB.x10, v8 a1.xB.x11, v8 a1.xB.x12, v8 a1.xB.x13, v8 a1.xB.x14, v8 a1.xB.x15]) (by kernel_rfl) (v_load (l := [vb a1.xSix, v8 a1.xB.x0, v8 a1.xB.x1, v8 a1.xB.x2, v8 a1.xB.x3, v8 a1.xB.x4, v8 a1.xB.x5, v8 a1.xB.x6, v8 a1.xB.x7, v8 a1.xB.x8, v8 a1.xB.x9, v8 a1.xB.x10, v8 a1.xB.x11, v8 a1.xB.x12, v8 a1.xB.x13, v8 a1.xB.x14, v8 a1.xB.x15]) (a := ⟨g2, 0, none⟩) (by kernel_rfl) (by kernel_rfl) (at_blk (j := 0) rfl rfl)) ?_
  refine o_run 3 [3, 9, 10, 11, 13] (l := []) .nil (E' := [(3, .slice A1 a3.length c1), (9, .agg #[vb a0.xSix, v8 a0.xB.x0, v8 a0.xB.x1, v8 a0.xB.x2, v8 a0.xB.x3, v8 a0.xB.x4, v8 a0.xB.x5, v8 a0.xB.x6, v8 a0.xB.x7, v8 a0.xB.x8, v8 a0.xB.x9, v8 a0.xB.x10, v8 a0.xB.x11, v8 a0.xB.x12, v8 a0.xB.x13, v8 a0.xB.x14, v8 a0.xB.x15]), (10, .agg #[vb a1.xSix, v8 a1.xB.x0, v8 a1.xB.x1, v8 a1.xB.x2, v8 a1.xB.x3, v8 a1.xB.x4, v8 a1.xB.x5, v8 a1.xB.x6, v8 a1.xB.x7, v8 a1.xB.x8, v8 a1.xB.x9, v8 a1.xB.x10, v8 a1.xB.x11, v8 a1.xB.x12, v8 a1.xB.x13, v8 a1.xB.x14, v8 a1.xB.x15]), (11, v8 a2), (13, v64 (a3.length : Int))]) (by kernel_rfl) ?_
  obtain ⟨t1, hx1, hm⟩ := bind_some hm
  refine o_stp ?_ (by kernel_rfl)
  refine s_call 14 55 #[.agg #[vb a0.xSix, v8 a0.xB.x0, v8 a0.xB.x1, v8 a0.xB.x2, v8 a0.xB.x3, v8 a0.xB.x4, v8 a0.xB.x5, v8 a0.xB.x6, v8 a0.xB.x7, v8 a0.xB.x8, v8 a0.xB.x9, v8 a0.xB.x10, v8 a0.xB.x11, v8 a0.xB.x12, v8 a0.xB.x13, v8 a0.xB.x14, v8 a0.xB.x15], .agg #[vb a1.xSix, v8 a1.xB.x0, v8 a1.xB.x1, v8 a1.xB.x2, v8 a1.xB.x3, v8 a1.xB.x4, v8 a1.xB.x5, v8 a1.xB.x6, v8 a1.xB.x7, v8 a1.xB.x8, v8 a1.xB.x9, v8 a1.xB.x10, v8 a1.xB.x11, v8 a1.xB.x12, v8 a1.xB.x13, v8 a1.xB.x14, v8 a1.xB.x15], v8 a2, v64 (a3.length : Int)] [] [0, 1] (by kernel_rfl) (by kernel_rfl) (fun w hs => chksum_Pseudo_ok a0 a1 a2 (a3.length : Int) t1 hx1 B _ w (St.cast (by kernel_rfl) hs)) (fun x hx => ?_)
  obtain ⟨A2, c2⟩ := x
  refine t_L (L' := [.own A2 t1.length c2 (rowOf e8 t1) 1 5, .blk g2 [vb a1.xSix, v8 a1.xB.x0, v8 a1.xB.x1, v8 a1.xB.x2, v8 a1.xB.x3, v8 a1.xB.x4, v8 a1.xB.x5, v8 a1.xB.x6, v8 a1.xB.x7, v8 a1.xB.x8, v8 a1.xB.x9, v8 a1.xB.x10, v8 a1.xB.x11, v8 a1.xB.x12, v8 a1.xB.x13, v8 a1.xB.x14, v8 a1.xB.x15] 24, .blk g1 [vb a0.xSix, v8 a0.xB.x0, v8 a0.xB.x1, v8 a0.xB.x2, v8 a0.xB.x3, v8 a0.xB.x4, v8 a0.xB.x5, v8 a0.xB.x6, v8 a0.xB.x7, v8 a0.xB.x8, v8 a0.xB.x9, v8 a0.xB.x10, v8 a0.xB.x11, v8 a0.xB.x12, v8 a0.xB.x13, v8 a0.xB.x14, v8 a0.xB.x15] 24]) (by kernel_rfl) ?_
  refine o_run 1 [14, 15] (l := []) .nil (E' := [(14, .slice A2 t1.length c2), (15, .slice A1 a3.length c1)]) (by kernel_rfl) ?_
  refine o_stp ?_ (by kernel_rfl)
  refine s_new 16 (fun g3 => .slice (ag g3) 2 2) [.slice A2 t1.length c2, .slice A1 a3.length c1] 32 (fun _ => by kernel_rfl) (fun g3 => ?_)
  refine t_drop [1, 0, 2, 3] (by kernel_rfl) ?_
  refine t_L (L' := [.own A2 t1.length c2 (rowOf e8 t1) 1 5, .blk g3 [.slice A2 t1.length c2, .slice A1 a3.length c1] 32, .blk g2 [vb a1.xSix, v8 a1.xB.x0, v8 a1.xB.x1, v8 a1.xB.x2, v8 a1.xB.x3, v8 a1.xB.x4, v8 a1.xB.x5, v8 a1.xB.x6, v8 a1.xB.x7, v8 a1.xB.x8, v8 a1.xB.x9, v8 a1.xB.x10, v8 a1.xB.x11, v8 a1.xB.x12, v8 a1.xB.x13, v8 a1.xB.x14, v8 a1.xB.x15] 24, .blk g1 [vb a0.xSix, v8 a0.xB.x0, v8 a0.xB.x1, v8 a0.xB.x2, v8 a0.xB.x3, v8 a0.xB.x4, v8 a0.xB.x5, v8 a0.xB.x6, v8 a0.xB.x7, v8 a0.xB.x8, v8 a0.xB.x9, v8 a0.xB.x10, v8 a0.xB.x11, v8 a0.xB.x12, v8 a0.xB.x13, v8 a0.xB.x14, v8 a0.xB.x15] 24]) (by kernel_rfl) ?_
  refine t_frozS (kI .u8) rfl rfl (fun B1 hx2 hs2 => ?_)
  refine t_frozL (kSl (kI .u8)) (xs := [t1, a3]) (css := [[.slice A2 t1.length c2], [.slice A1 a3.length c1]]) ⟨⟨A2, c2, hs2, rfl⟩, ⟨⟨A1, c1, (hs1.up hx2), rfl⟩, trivial⟩⟩ rfl (fun B2 hx3 hs3 => ?_)
  obtain ⟨t2, hx4, hm⟩ := bind_some hm
  refine o_stp ?_ (by kernel_rfl)
  refine s_call 17 61 #[.slice (ag g3) [t1, a3].length ([t1, a3].length)] [] [0, 1] (by kernel_rfl) (by kernel_rfl) (fun w hs => chksum_Sum_ok k [t1, a3] t2 hx4 B2 _ (ag g3) ([t1, a3].length) hs3 w (St.cast (by kernel_rfl) hs)) (fun _ hx => ?_)
  refine t_L (L' := [.blk g2 [vb a1.xSix, v8 a1.xB.x0, v8 a1.xB.x1, v8 a1.xB.x2, v8 a1.xB.x3, v8 a1.xB.x4, v8 a1.xB.x5, v8 a1.xB.x6, v8 a1.xB.x7, v8 a1.xB.x8, v8 a1.xB.x9, v8 a1.xB.x10, v8 a1.xB.x11, v8 a1.xB.x12, v8 a1.xB.x13, v8 a1.xB.x14, v8 a1.xB.x15] 24, .blk g1 [vb a0.xSix, v8 a0.xB.x0, v8 a0.xB.x1, v8 a0.xB.x2, v8 a0.xB.x3, v8 a0.xB.x4, v8 a0.xB.x5, v8 a0.xB.x6, v8 a0.xB.x7, v8 a0.xB.x8, v8 a0.xB.x9, v8 a0.xB.x10, v8 a0.xB.x11, v8 a0.xB.x12, v8 a0.xB.x13, v8 a0.xB.x14, v8 a0.xB.x15] 24]) (by kernel_rfl) ?_
  refine o_run 2 [8] (l := []) .nil (E' := [(8, vb (t2 == 65535))]) (by kernel_rfl) ?_
  refine o_end (by kernel_rfl) ?_
  refine e_seq ?_
  refine w_ret (by kernel_rfl) ?_
  obtain rfl := Option.some.inj hm
  exact e_retP B2 (vb (t2 == 65535)) [] (by kernel_rfl) (by kernel_rfl) rfl (by kernel_rfl) (by kernel_rfl) (Ext.trans hx2 hx3)
def octets_Read.f (a0 : List Int) : Option (TR) :=
  ((bytes_Clone.f a0).bind fun t1 => (some (⟨t1⟩ : TR)))
theorem octets_Read_ok (a0 : List Int) (r : TR) (hm : octets_Read.f a0 = some r) (B G : Asn) (A1 : Option Addr) (c1 : Nat) (hs1 : Sl (kI .u8) B A1 c1 a0) (w : World) (hs : St B G [] w) :
    Calls Try.prog 62 #[.slice A1 a0.length c1] w (Post (X := Nat × (Option Addr) × Nat) (fun x => (pg x.1)) (fun x => B) G (fun x => [.blk x.1 [.slice x.2.1 r.xb.length x.2.2] 110, .own x.2.1 r.xb.length x.2.2 (rowOf e8 r.xb) 1 5]) (fun x => True)) := by
  unfold octets_Read.f at hm
  refine calls_W (F := Try.f62) Try.func62 rfl (by kernel_rfl) (L := []) ?_ hs
  refine w_seq 2 3 (by kernel_rfl) ?_
  refine w_region (by kernel_rfl) ?_
  refine o_run 1 [0] (l := []) .nil (E' := [(0, .slice A1 a0.length c1)]) (by kernel_rfl) ?_
  refine o_end (by kernel_rfl) ?_
  refine e_seq ?_
  refine w_seq 6 7 (by kernel_rfl) ?_
  refine w_region (by kernel_rfl) ?_
  refine o_run 1 [3] (l := []) .nil (E' := [(3, .slice A1 a0.length c1)]) (by kernel_rfl) ?_
  obtain ⟨t1, hx1, hm⟩ := bind_some hm
  refine o_stp ?_ (by kernel_rfl)
  refine s_call 4 42 #[.slice A1 a0.length c1] [] [] (by kernel_rfl) (by kernel_rfl) (fun w hs => bytes_Clone_ok a0 t1 hx1 B _ A1 c1 hs1 w (St.cast (by kernel_rfl) hs)) (fun x hx => ?_)
  obtain ⟨A2, c2⟩ := x
  refine t_L (L' := [.own A2 t1.length c2 (rowOf e8 t1) 1 5]) (by kernel_rfl) ?_
  refine o_run 1 [5] (l := []) .nil (E' := [(5, .agg #[.slice A2 t1.length c2])]) (by kernel_rfl) ?_
  refine o_stp ?_ (by kernel_rfl)
  refine s_new 6 (fun g1 => (pg g1)) [.slice A2 t1.length c2] 110 (fun _ => by kernel_rfl) (fun g1 => ?_)
  refine o_run 1 [2] (l := []) .nil (E' := [(2, (pg g1))]) (by kernel_rfl) ?_
  refine o_end (by kernel_rfl) ?_
  refine e_seq ?_
  refine w_ret (by kernel_rfl) ?_
  obtain rfl := Option.some.inj hm
  exact e_retP (g1, A2, c2) ((pg g1)) [0, 1] (by kernel_rfl) (by kernel_rfl) rfl (by kernel_rfl) (by kernel_rfl) trivial
end Go.V
