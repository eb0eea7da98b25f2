/- Printed by a program of this work: Go functions as Lean functions, and that the machine comes to the same. -/
import Derived.Test.YtafghfchflngiaaVl
import Derived.Test.YtafghfchflngiaaProg
set_option maxRecDepth 100000
set_option linter.unusedVariables false
namespace Go.V
open Go Go.Proofs
abbrev v8 (x : Int) : Value := .int .u8 x
abbrev v16 (x : Int) : Value := .int .u16 x
abbrev v32 (x : Int) : Value := .int .u32 x
abbrev v64 (x : Int) : Value := .int .i64 x
abbrev w64 (x : Int) : Value := .int .u64 x
abbrev pg (g : Nat) : Value := .pointer (some ⟨g, 0, none⟩)
abbrev ag (g : Nat) : Option Addr := some ⟨g, 0, none⟩
abbrev e8 : Int → List Value := encI .u8
abbrev vb (x : Bool) : Value := .bool x
theorem mixed : Try.prog.follows .mixedOrders = true := by kernel_rfl
structure TB where
  le : Int
  ri : Int
def encTB (x : TB) : List Value := [v32 x.le, v32 x.ri]
theorem encTB_one (x : TB) : ∀ u ∈ encTB x, u.oneCell' = true := by
  intro u hu
  simp only [encTB, List.mem_cons, List.mem_nil_iff, or_false] at hu
  (rcases hu with rfl | rfl) <;> rfl
def kTB : Kd TB := flat encTB 2 (by decide) (fun _ => rfl) encTB_one
structure TM where
  x0 : Int
  x1 : Int
  x2 : Int
  x3 : Int
  x4 : Int
  x5 : Int
  x6 : Int
  x7 : Int
  x8 : Int
  x9 : Int
  x10 : Int
  x11 : Int
def encTM (x : TM) : List Value := [v8 x.x0, v8 x.x1, v8 x.x2, v8 x.x3, v8 x.x4, v8 x.x5, v8 x.x6, v8 x.x7, v8 x.x8, v8 x.x9, v8 x.x10, v8 x.x11]
theorem encTM_one (x : TM) : ∀ u ∈ encTM x, u.oneCell' = true := by
  intro u hu
  simp only [encTM, List.mem_cons, List.mem_nil_iff, or_false] at hu
  (rcases hu with rfl | rfl | rfl | rfl | rfl | rfl | rfl | rfl | rfl | rfl | rfl | rfl) <;> rfl
def kTM : Kd TM := flat encTM 12 (by decide) (fun _ => rfl) encTM_one
structure TO where
  hM : Bool
  ms : Int
  hS : Bool
  sc : Int
  sO : Bool
  sk : List TB
  hT : Bool
  va : Int
  ec : Int
  hO : Bool
  ki : Int
  ni : Int
  m : TM
def kTO : Kd TO where
  sz := 24
  pos := by decide
  K := fun B x cs => ∃ (A5 : Option Addr) (c5 : Nat), Sl kTB B A5 c5 x.sk ∧ cs = [vb x.hM, v16 x.ms, vb x.hS, v8 x.sc, vb x.sO, .slice A5 x.sk.length c5, vb x.hT, v32 x.va, v32 x.ec, vb x.hO, v8 x.ki, v8 x.ni, v8 x.m.x0, v8 x.m.x1, v8 x.m.x2, v8 x.m.x3, v8 x.m.x4, v8 x.m.x5, v8 x.m.x6, v8 x.m.x7, v8 x.m.x8, v8 x.m.x9, v8 x.m.x10, v8 x.m.x11]
  len := fun ⟨_A5, _c5, _h5, e⟩ => by rw [e]; rfl
  one := fun ⟨A5, c5, _h5, e⟩ u hu => by
    rw [e] at hu
    simp only [List.mem_cons, List.mem_nil_iff, or_false] at hu
    (rcases hu with rfl | rfl | rfl | rfl | rfl | rfl | rfl | rfl | rfl | rfl | rfl | rfl | rfl | rfl | rfl | rfl | rfl | rfl | rfl | rfl | rfl | rfl | rfl | rfl) <;> rfl
  up := fun y ⟨A5, c5, h5, e⟩ => ⟨A5, c5, h5.up y, e⟩
structure TS where
  sr : Int
  ds : Int
  sq : Int
  ak : Int
  fl : Int
  wi : Int
  ur : Int
  o : TO
  da : List Int
def kTS : Kd TS where
  sz := 32
  pos := by decide
  K := fun B x cs => ∃ (A12 : Option Addr) (c12 : Nat) (A31 : Option Addr) (c31 : Nat), Sl kTB B A12 c12 x.o.sk ∧ Sl (kI .u8) B A31 c31 x.da ∧ cs = [v16 x.sr, v16 x.ds, v32 x.sq, v32 x.ak, v8 x.fl, v16 x.wi, v16 x.ur, vb x.o.hM, v16 x.o.ms, vb x.o.hS, v8 x.o.sc, vb x.o.sO, .slice A12 x.o.sk.length c12, vb x.o.hT, v32 x.o.va, v32 x.o.ec, vb x.o.hO, v8 x.o.ki, v8 x.o.ni, v8 x.o.m.x0, v8 x.o.m.x1, v8 x.o.m.x2, v8 x.o.m.x3, v8 x.o.m.x4, v8 x.o.m.x5, v8 x.o.m.x6, v8 x.o.m.x7, v8 x.o.m.x8, v8 x.o.m.x9, v8 x.o.m.x10, v8 x.o.m.x11, .slice A31 x.da.length c31]
  len := fun ⟨_A12, _c12, _A31, _c31, _h12, _h31, e⟩ => by rw [e]; rfl
  one := fun ⟨A12, c12, A31, c31, _h12, _h31, e⟩ u hu => by
    rw [e] at hu
    simp only [List.mem_cons, List.mem_nil_iff, or_false] at hu
    (rcases hu with rfl | rfl | rfl | rfl | rfl | rfl | rfl | rfl | rfl | rfl | rfl | rfl | rfl | rfl | rfl | rfl | rfl | rfl | rfl | rfl | rfl | rfl | rfl | rfl | rfl | rfl | rfl | rfl | rfl | rfl | rfl | rfl) <;> rfl
  up := fun y ⟨A12, c12, A31, c31, h12, h31, e⟩ => ⟨A12, c12, A31, c31, h12.up y, h31.up y, e⟩
structure T_anon22 where
  x0 : Int
  x1 : Int
  x2 : Int
  x3 : Int
  x4 : Int
  x5 : Int
  x6 : Int
  x7 : Int
  x8 : Int
  x9 : Int
  x10 : Int
  x11 : Int
  x12 : Int
  x13 : Int
  x14 : Int
  x15 : Int
def encT_anon22 (x : T_anon22) : List Value := [v8 x.x0, v8 x.x1, v8 x.x2, v8 x.x3, v8 x.x4, v8 x.x5, v8 x.x6, v8 x.x7, v8 x.x8, v8 x.x9, v8 x.x10, v8 x.x11, v8 x.x12, v8 x.x13, v8 x.x14, v8 x.x15]
theorem encT_anon22_one (x : T_anon22) : ∀ u ∈ encT_anon22 x, u.oneCell' = true := by
  intro u hu
  simp only [encT_anon22, List.mem_cons, List.mem_nil_iff, or_false] at hu
  (rcases hu with rfl | rfl | rfl | rfl | rfl | rfl | rfl | rfl | rfl | rfl | rfl | rfl | rfl | rfl | rfl | rfl) <;> rfl
def kT_anon22 : Kd T_anon22 := flat encT_anon22 16 (by decide) (fun _ => rfl) encT_anon22_one
structure TA where
  xSix : Bool
  xB : T_anon22
def encTA (x : TA) : List Value := [vb x.xSix, v8 x.xB.x0, v8 x.xB.x1, v8 x.xB.x2, v8 x.xB.x3, v8 x.xB.x4, v8 x.xB.x5, v8 x.xB.x6, v8 x.xB.x7, v8 x.xB.x8, v8 x.xB.x9, v8 x.xB.x10, v8 x.xB.x11, v8 x.xB.x12, v8 x.xB.x13, v8 x.xB.x14, v8 x.xB.x15]
theorem encTA_one (x : TA) : ∀ u ∈ encTA x, u.oneCell' = true := by
  intro u hu
  simp only [encTA, List.mem_cons, List.mem_nil_iff, or_false] at hu
  (rcases hu with rfl | rfl | rfl | rfl | rfl | rfl | rfl | rfl | rfl | rfl | rfl | rfl | rfl | rfl | rfl | rfl | rfl) <;> rfl
def kTA : Kd TA := flat encTA 17 (by decide) (fun _ => rfl) encTA_one
structure TO_o where
  hM : Bool
  ms : Int
  hS : Bool
  sc : Int
  sO : Bool
  hT : Bool
  va : Int
  ec : Int
  hO : Bool
  ki : Int
  ni : Int
  m : TM
structure TS_o where
  sr : Int
  ds : Int
  sq : Int
  ak : Int
  fl : Int
  wi : Int
  ur : Int
  o : TO_o
structure TR where
  xb : List Int
def kTR : Kd TR where
  sz := 1
  pos := by decide
  K := fun B x cs => ∃ (A0 : Option Addr) (c0 : Nat), Sl (kI .u8) B A0 c0 x.xb ∧ cs = [.slice A0 x.xb.length c0]
  len := fun ⟨_A0, _c0, _h0, e⟩ => by rw [e]; rfl
  one := fun ⟨A0, c0, _h0, e⟩ u hu => by
    rw [e] at hu
    simp only [List.mem_cons, List.mem_nil_iff, or_false] at hu
    (rcases hu with rfl) <;> rfl
  up := fun y ⟨A0, c0, h0, e⟩ => ⟨A0, c0, h0.up y, e⟩
def r_ahead.f (a0 : Int) (a1 : Int) : Option (Int) :=
  (if decide ((Int.tmod (I64 ((I64 a1) - (I64 a0))) 4294967296) < 0) then (some (I64 ((Int.tmod (I64 ((I64 a1) - (I64 a0))) 4294967296) + 4294967296))) else (some (Int.tmod (I64 ((I64 a1) - (I64 a0))) 4294967296)))
theorem r_ahead_ok (a0 : Int) (a1 : Int) (r : Int) (hm : r_ahead.f a0 a1 = some r) (B G : Asn) (w : World) (hs : St B G [] w) :
    Calls Try.prog 52 #[v32 a0, v32 a1] w (Post (X := Unit) (fun x => v64 r) (fun x => B) G (fun x => []) (fun x => True)) := by
  unfold r_ahead.f at hm
  refine calls_W (F := Try.f52) Try.func52 rfl (by kernel_rfl) (L := []) ?_ hs
  refine w_seq 2 3 (by kernel_rfl) ?_
  refine w_region (by kernel_rfl) ?_
  refine o_run 1 [0, 1] (l := []) .nil (E' := [(0, v32 a0), (1, v32 a1)]) (by kernel_rfl) ?_
  refine o_end (by kernel_rfl) ?_
  refine e_seq ?_
  refine w_seq 6 7 (by kernel_rfl) ?_
  refine w_region (by kernel_rfl) ?_
  refine o_run 7 [5] (l := []) .nil (E' := [(5, v64 (Int.tmod (I64 ((I64 a1) - (I64 a0))) 4294967296))]) (by kernel_rfl) ?_
  refine o_end (by kernel_rfl) ?_
  refine e_seq ?_
  refine w_seq 14 15 (by kernel_rfl) ?_
  refine w_seq 28 29 (by kernel_rfl) ?_
  refine w_region (by kernel_rfl) ?_
  refine o_run 2 [5, 13] (l := []) .nil (E' := [(5, v64 (Int.tmod (I64 ((I64 a1) - (I64 a0))) 4294967296)), (13, vb (decide ((Int.tmod (I64 ((I64 a1) - (I64 a0))) 4294967296) < 0)))]) (by kernel_rfl) ?_
  refine o_end (by kernel_rfl) ?_
  refine e_seq ?_
  refine w_cond (.tmp 13) 58 59 (decide ((Int.tmod (I64 ((I64 a1) - (I64 a0))) 4294967296) < 0)) (by kernel_rfl) (by kernel_rfl) (fun hb1 => ?_) (fun hb1 => ?_)
  · replace hm := ite_t hb1 hm
    refine w_region (by kernel_rfl) ?_
    refine o_run 3 [5] (l := []) .nil (E' := [(5, v64 (I64 ((Int.tmod (I64 ((I64 a1) - (I64 a0))) 4294967296) + 4294967296)))]) (by kernel_rfl) ?_
    refine o_end (by kernel_rfl) ?_
    refine e_seq ?_
    refine w_seq 30 31 (by kernel_rfl) ?_
    refine w_region (by kernel_rfl) ?_
    refine o_run 2 [4] (l := []) .nil (E' := [(4, v64 (I64 ((Int.tmod (I64 ((I64 a1) - (I64 a0))) 4294967296) + 4294967296)))]) (by kernel_rfl) ?_
    refine o_end (by kernel_rfl) ?_
    refine e_seq ?_
    refine w_ret (by kernel_rfl) ?_
    obtain rfl := Option.some.inj hm
    exact e_retP () (v64 (I64 ((Int.tmod (I64 ((I64 a1) - (I64 a0))) 4294967296) + 4294967296))) [] (by kernel_rfl) (by kernel_rfl) rfl (by kernel_rfl) (by kernel_rfl) trivial
  · replace hm := ite_f hb1 hm
    refine w_skip (by kernel_rfl) ?_
    refine e_seq ?_
    refine w_seq 30 31 (by kernel_rfl) ?_
    refine w_region (by kernel_rfl) ?_
    refine o_run 2 [4] (l := []) .nil (E' := [(4, v64 (Int.tmod (I64 ((I64 a1) - (I64 a0))) 4294967296))]) (by kernel_rfl) ?_
    refine o_end (by kernel_rfl) ?_
    refine e_seq ?_
    refine w_ret (by kernel_rfl) ?_
    obtain rfl := Option.some.inj hm
    exact e_retP () (v64 (Int.tmod (I64 ((I64 a1) - (I64 a0))) 4294967296)) [] (by kernel_rfl) (by kernel_rfl) rfl (by kernel_rfl) (by kernel_rfl) trivial
def r_Diff.f (a0 : Int) (a1 : Int) : Option (Int) :=
  ((r_ahead.f a0 a1).bind fun t1 => (if decide (t1 ≥ 2147483648) then (some (I32 (I64 (t1 - 4294967296)))) else (some (I32 t1))))
theorem r_Diff_ok (a0 : Int) (a1 : Int) (r : Int) (hm : r_Diff.f a0 a1 = some r) (B G : Asn) (w : World) (hs : St B G [] w) :
    Calls Try.prog 27 #[v32 a0, v32 a1] w (Post (X := Unit) (fun x => .int .i32 r) (fun x => B) G (fun x => []) (fun x => True)) := by
  unfold r_Diff.f at hm
  refine calls_W (F := Try.f27) Try.func27 rfl (by kernel_rfl) (L := []) ?_ hs
  refine w_seq 2 3 (by kernel_rfl) ?_
  refine w_region (by kernel_rfl) ?_
  refine o_run 1 [0, 1] (l := []) .nil (E' := [(0, v32 a0), (1, v32 a1)]) (by kernel_rfl) ?_
  refine o_end (by kernel_rfl) ?_
  refine e_seq ?_
  refine w_seq 6 7 (by kernel_rfl) ?_
  refine w_region (by kernel_rfl) ?_
  refine o_run 2 [6, 7] (l := []) .nil (E' := [(6, v32 a0), (7, v32 a1)]) (by kernel_rfl) ?_
  obtain ⟨t1, hx1, hm⟩ := bind_some hm
  refine o_stp ?_ (by kernel_rfl)
  refine s_call 8 52 #[v32 a0, v32 a1] [] [] (by kernel_rfl) (by kernel_rfl) (fun w hs => r_ahead_ok a0 a1 t1 hx1 B _ w (St.cast (by kernel_rfl) hs)) (fun _ hx => ?_)
  refine t_L (L' := []) (by kernel_rfl) ?_
  refine o_run 1 [5] (l := []) .nil (E' := [(5, v64 t1)]) (by kernel_rfl) ?_
  refine o_end (by kernel_rfl) ?_
  refine e_seq ?_
  refine w_seq 14 15 (by kernel_rfl) ?_
  refine w_seq 28 29 (by kernel_rfl) ?_
  refine w_region (by kernel_rfl) ?_
  refine o_run 2 [5, 10] (l := []) .nil (E' := [(5, v64 t1), (10, vb (decide (t1 ≥ 2147483648)))]) (by kernel_rfl) ?_
  refine o_end (by kernel_rfl) ?_
  refine e_seq ?_
  refine w_cond (.tmp 10) 58 59 (decide (t1 ≥ 2147483648)) (by kernel_rfl) (by kernel_rfl) (fun hb1 => ?_) (fun hb1 => ?_)
  · replace hm := ite_t hb1 hm
    refine w_region (by kernel_rfl) ?_
    refine o_run 3 [5] (l := []) .nil (E' := [(5, v64 (I64 (t1 - 4294967296)))]) (by kernel_rfl) ?_
    refine o_end (by kernel_rfl) ?_
    refine e_seq ?_
    refine w_seq 30 31 (by kernel_rfl) ?_
    refine w_region (by kernel_rfl) ?_
    refine o_run 3 [4] (l := []) .nil (E' := [(4, .int .i32 (I32 (I64 (t1 - 4294967296))))]) (by kernel_rfl) ?_
    refine o_end (by kernel_rfl) ?_
    refine e_seq ?_
    refine w_ret (by kernel_rfl) ?_
    obtain rfl := Option.some.inj hm
    exact e_retP () (.int .i32 (I32 (I64 (t1 - 4294967296)))) [] (by kernel_rfl) (by kernel_rfl) rfl (by kernel_rfl) (by kernel_rfl) trivial
  · replace hm := ite_f hb1 hm
    refine w_skip (by kernel_rfl) ?_
    refine e_seq ?_
    refine w_seq 30 31 (by kernel_rfl) ?_
    refine w_region (by kernel_rfl) ?_
    refine o_run 3 [4] (l := []) .nil (E' := [(4, .int .i32 (I32 t1))]) (by kernel_rfl) ?_
    refine o_end (by kernel_rfl) ?_
    refine e_seq ?_
    refine w_ret (by kernel_rfl) ?_
    obtain rfl := Option.some.inj hm
    exact e_retP () (.int .i32 (I32 t1)) [] (by kernel_rfl) (by kernel_rfl) rfl (by kernel_rfl) (by kernel_rfl) trivial
def w_far.f (a0 : TS) : Option (Bool) :=
  (if decide ((a0.da.length : Int) > 1500) then (if decide ((a0.da.length : Int) ≤ 16384) then (some true) else (if decide ((a0.o.sk.length : Int) > 500) then (some true) else (some (decide ((a0.da.length : Int) > 20000))))) else (if decide ((a0.o.sk.length : Int) > 500) then (some true) else (some (decide ((a0.da.length : Int) > 20000)))))
theorem w_far_ok (a0 : TS) (r : Bool) (hm : w_far.f a0 = some r) (B G : Asn) (A1 : Option Addr) (c1 : Nat) (A2 : Option Addr) (c2 : Nat) (hs1 : Sl kTB B A1 c1 a0.o.sk) (hs2 : Sl (kI .u8) B A2 c2 a0.da) (w : World) (hs : St B G [] w) :
    Calls Try.prog 9 #[.agg #[v16 a0.sr, v16 a0.ds, v32 a0.sq, v32 a0.ak, v8 a0.fl, v16 a0.wi, v16 a0.ur, vb a0.o.hM, v16 a0.o.ms, vb a0.o.hS, v8 a0.o.sc, vb a0.o.sO, .slice A1 a0.o.sk.length c1, vb a0.o.hT, v32 a0.o.va, v32 a0.o.ec, vb a0.o.hO, v8 a0.o.ki, v8 a0.o.ni, v8 a0.o.m.x0, v8 a0.o.m.x1, v8 a0.o.m.x2, v8 a0.o.m.x3, v8 a0.o.m.x4, v8 a0.o.m.x5, v8 a0.o.m.x6, v8 a0.o.m.x7, v8 a0.o.m.x8, v8 a0.o.m.x9, v8 a0.o.m.x10, v8 a0.o.m.x11, .slice A2 a0.da.length c2]] w (Post (X := Unit) (fun x => vb r) (fun x => B) G (fun x => []) (fun x => True)) := by
  unfold w_far.f at hm
  refine calls_W (F := Try.f9) Try.func9 rfl (by kernel_rfl) (L := []) ?_ hs
  refine w_seq 2 3 (by kernel_rfl) ?_
  refine w_region (by kernel_rfl) ?_
  refine o_stp ?_ (by kernel_rfl)
  refine s_new 1 (fun g1 => (pg g1)) [v16 a0.sr, v16 a0.ds, v32 a0.sq, v32 a0.ak, v8 a0.fl, v16 a0.wi, v16 a0.ur, vb a0.o.hM, v16 a0.o.ms, vb a0.o.hS, v8 a0.o.sc, vb a0.o.sO, .slice A1 a0.o.sk.length c1, vb a0.o.hT, v32 a0.o.va, v32 a0.o.ec, vb a0.o.hO, v8 a0.o.ki, v8 a0.o.ni, v8 a0.o.m.x0, v8 a0.o.m.x1, v8 a0.o.m.x2, v8 a0.o.m.x3, v8 a0.o.m.x4, v8 a0.o.m.x5, v8 a0.o.m.x6, v8 a0.o.m.x7, v8 a0.o.m.x8, v8 a0.o.m.x9, v8 a0.o.m.x10, v8 a0.o.m.x11, .slice A2 a0.da.length c2] 34 (fun _ => by kernel_rfl) (fun g1 => ?_)
  refine o_run 1 [1] (l := []) .nil (E' := [(1, (pg g1))]) (by kernel_rfl) ?_
  refine o_end (by kernel_rfl) ?_
  refine e_seq ?_
  refine w_seq 6 7 (by kernel_rfl) ?_
  refine w_region (by kernel_rfl) ?_
  refine o_run 5 [1, 7] (l := [(⟨g1, 31, none⟩, .slice A2 a0.da.length c2)]) (.one (at_blk (j := 0) rfl rfl) .nil) (E' := [(1, (pg g1)), (7, vb (decide ((a0.da.length : Int) > 1500)))]) (by kernel_rfl) ?_
  refine o_split 7 (decide ((a0.da.length : Int) > 1500)) (by kernel_rfl) (fun hb1 => ?_) (fun hb1 => ?_)
  · replace hm := ite_t hb1 hm
    refine o_run 6 [1, 13] (l := [(⟨g1, 31, none⟩, .slice A2 a0.da.length c2)]) (.one (at_blk (j := 0) rfl rfl) .nil) (E' := [(1, (pg g1)), (13, vb (decide ((a0.da.length : Int) ≤ 16384)))]) (by kernel_rfl) ?_
    refine o_split 13 (decide ((a0.da.length : Int) ≤ 16384)) (by kernel_rfl) (fun hb2 => ?_) (fun hb2 => ?_)
    · replace hm := ite_t hb2 hm
      refine o_run 13 [2] (l := []) .nil (E' := [(2, vb true)]) (by kernel_rfl) ?_
      refine o_end (by kernel_rfl) ?_
      refine e_seq ?_
      refine w_ret (by kernel_rfl) ?_
      obtain rfl := Option.some.inj hm
      exact e_retP () (vb true) [] (by kernel_rfl) (by kernel_rfl) rfl (by kernel_rfl) (by kernel_rfl) trivial
    · replace hm := ite_f hb2 hm
      refine o_run 7 [1, 20] (l := [(⟨g1, 12, none⟩, .slice A1 a0.o.sk.length c1)]) (.one (at_blk (j := 0) rfl rfl) .nil) (E' := [(1, (pg g1)), (20, vb (decide ((a0.o.sk.length : Int) > 500)))]) (by kernel_rfl) ?_
      refine o_split 20 (decide ((a0.o.sk.length : Int) > 500)) (by kernel_rfl) (fun hb3 => ?_) (fun hb3 => ?_)
      · replace hm := ite_t hb3 hm
        refine o_run 6 [2] (l := []) .nil (E' := [(2, vb true)]) (by kernel_rfl) ?_
        refine o_end (by kernel_rfl) ?_
        refine e_seq ?_
        refine w_ret (by kernel_rfl) ?_
        obtain rfl := Option.some.inj hm
        exact e_retP () (vb true) [] (by kernel_rfl) (by kernel_rfl) rfl (by kernel_rfl) (by kernel_rfl) trivial
      · replace hm := ite_f hb3 hm
        refine o_run 6 [2] (l := [(⟨g1, 31, none⟩, .slice A2 a0.da.length c2)]) (.one (at_blk (j := 0) rfl rfl) .nil) (E' := [(2, vb (decide ((a0.da.length : Int) > 20000)))]) (by kernel_rfl) ?_
        refine o_end (by kernel_rfl) ?_
        refine e_seq ?_
        refine w_ret (by kernel_rfl) ?_
        obtain rfl := Option.some.inj hm
        exact e_retP () (vb (decide ((a0.da.length : Int) > 20000))) [] (by kernel_rfl) (by kernel_rfl) rfl (by kernel_rfl) (by kernel_rfl) trivial
  · replace hm := ite_f hb1 hm
    refine o_run 13 [1, 20] (l := [(⟨g1, 12, none⟩, .slice A1 a0.o.sk.length c1)]) (.one (at_blk (j := 0) rfl rfl) .nil) (E' := [(1, (pg g1)), (20, vb (decide ((a0.o.sk.length : Int) > 500)))]) (by kernel_rfl) ?_
    refine o_split 20 (decide ((a0.o.sk.length : Int) > 500)) (by kernel_rfl) (fun hb4 => ?_) (fun hb4 => ?_)
    · replace hm := ite_t hb4 hm
      refine o_run 6 [2] (l := []) .nil (E' := [(2, vb true)]) (by kernel_rfl) ?_
      refine o_end (by kernel_rfl) ?_
      refine e_seq ?_
      refine w_ret (by kernel_rfl) ?_
      obtain rfl := Option.some.inj hm
      exact e_retP () (vb true) [] (by kernel_rfl) (by kernel_rfl) rfl (by kernel_rfl) (by kernel_rfl) trivial
    · replace hm := ite_f hb4 hm
      refine o_run 6 [2] (l := [(⟨g1, 31, none⟩, .slice A2 a0.da.length c2)]) (.one (at_blk (j := 0) rfl rfl) .nil) (E' := [(2, vb (decide ((a0.da.length : Int) > 20000)))]) (by kernel_rfl) ?_
      refine o_end (by kernel_rfl) ?_
      refine e_seq ?_
      refine w_ret (by kernel_rfl) ?_
      obtain rfl := Option.some.inj hm
      exact e_retP () (vb (decide ((a0.da.length : Int) > 20000))) [] (by kernel_rfl) (by kernel_rfl) rfl (by kernel_rfl) (by kernel_rfl) trivial
def opts_sizes.f (a0 : Int) : Option (Int) :=
  (if a0 == 2 then (some 4) else (if a0 == 3 then (some 3) else (if a0 == 4 then (some 2) else (if a0 == 8 then (some 10) else (if a0 == 29 then (some 16) else (if a0 == 5 then (some 0) else (some (-1))))))))
theorem opts_sizes_ok (a0 : Int) (r : Int) (hm : opts_sizes.f a0 = some r) (B G : Asn) (w : World) (hs : St B G [] w) :
    Calls Try.prog 73 #[v8 a0] w (Post (X := Unit) (fun x => v64 r) (fun x => B) G (fun x => []) (fun x => True)) := by
  unfold opts_sizes.f at hm
  refine calls_W (F := Try.f73) Try.func73 rfl (by kernel_rfl) (L := []) ?_ hs
  refine w_seq 2 3 (by kernel_rfl) ?_
  refine w_region (by kernel_rfl) ?_
  refine o_run 1 [0] (l := []) .nil (E' := [(0, v8 a0)]) (by kernel_rfl) ?_
  refine o_end (by kernel_rfl) ?_
  refine e_seq ?_
  refine w_seq 6 7 (by kernel_rfl) ?_
  refine w_seq 12 13 (by kernel_rfl) ?_
  refine w_region (by kernel_rfl) ?_
  refine o_run 1 [3] (l := []) .nil (E' := [(3, v8 a0)]) (by kernel_rfl) ?_
  refine o_end (by kernel_rfl) ?_
  refine e_seq ?_
  refine w_block 0 26 (by kernel_rfl) ?_
  refine w_seq 52 53 (by kernel_rfl) ?_
  refine w_region (by kernel_rfl) ?_
  refine o_run 2 [3, 4] (l := []) .nil (E' := [(3, v8 a0), (4, vb (a0 == 2))]) (by kernel_rfl) ?_
  refine o_end (by kernel_rfl) ?_
  refine e_seq ?_
  refine w_cond (.tmp 4) 106 107 (a0 == 2) (by kernel_rfl) (by kernel_rfl) (fun hb1 => ?_) (fun hb1 => ?_)
  · replace hm := ite_t hb1 hm
    refine w_seq 212 213 (by kernel_rfl) ?_
    refine w_region (by kernel_rfl) ?_
    refine o_run 1 [2] (l := []) .nil (E' := [(2, v64 4)]) (by kernel_rfl) ?_
    refine o_end (by kernel_rfl) ?_
    refine e_seq ?_
    refine w_ret (by kernel_rfl) ?_
    obtain rfl := Option.some.inj hm
    exact e_retP () (v64 4) [] (by kernel_rfl) (by kernel_rfl) rfl (by kernel_rfl) (by kernel_rfl) trivial
  · replace hm := ite_f hb1 hm
    refine w_seq 214 215 (by kernel_rfl) ?_
    refine w_region (by kernel_rfl) ?_
    refine o_run 2 [3, 6] (l := []) .nil (E' := [(3, v8 a0), (6, vb (a0 == 3))]) (by kernel_rfl) ?_
    refine o_end (by kernel_rfl) ?_
    refine e_seq ?_
    refine w_cond (.tmp 6) 430 431 (a0 == 3) (by kernel_rfl) (by kernel_rfl) (fun hb2 => ?_) (fun hb2 => ?_)
    · replace hm := ite_t hb2 hm
      refine w_seq 860 861 (by kernel_rfl) ?_
      refine w_region (by kernel_rfl) ?_
      refine o_run 1 [2] (l := []) .nil (E' := [(2, v64 3)]) (by kernel_rfl) ?_
      refine o_end (by kernel_rfl) ?_
      refine e_seq ?_
      refine w_ret (by kernel_rfl) ?_
      obtain rfl := Option.some.inj hm
      exact e_retP () (v64 3) [] (by kernel_rfl) (by kernel_rfl) rfl (by kernel_rfl) (by kernel_rfl) trivial
    · replace hm := ite_f hb2 hm
      refine w_seq 862 863 (by kernel_rfl) ?_
      refine w_region (by kernel_rfl) ?_
      refine o_run 2 [3, 8] (l := []) .nil (E' := [(3, v8 a0), (8, vb (a0 == 4))]) (by kernel_rfl) ?_
      refine o_end (by kernel_rfl) ?_
      refine e_seq ?_
      refine w_cond (.tmp 8) 1726 1727 (a0 == 4) (by kernel_rfl) (by kernel_rfl) (fun hb3 => ?_) (fun hb3 => ?_)
      · replace hm := ite_t hb3 hm
        refine w_seq 3452 3453 (by kernel_rfl) ?_
        refine w_region (by kernel_rfl) ?_
        refine o_run 1 [2] (l := []) .nil (E' := [(2, v64 2)]) (by kernel_rfl) ?_
        refine o_end (by kernel_rfl) ?_
        refine e_seq ?_
        refine w_ret (by kernel_rfl) ?_
        obtain rfl := Option.some.inj hm
        exact e_retP () (v64 2) [] (by kernel_rfl) (by kernel_rfl) rfl (by kernel_rfl) (by kernel_rfl) trivial
      · replace hm := ite_f hb3 hm
        refine w_seq 3454 3455 (by kernel_rfl) ?_
        refine w_region (by kernel_rfl) ?_
        refine o_run 2 [3, 10] (l := []) .nil (E' := [(3, v8 a0), (10, vb (a0 == 8))]) (by kernel_rfl) ?_
        refine o_end (by kernel_rfl) ?_
        refine e_seq ?_
        refine w_cond (.tmp 10) 6910 6911 (a0 == 8) (by kernel_rfl) (by kernel_rfl) (fun hb4 => ?_) (fun hb4 => ?_)
        · replace hm := ite_t hb4 hm
          refine w_seq 13820 13821 (by kernel_rfl) ?_
          refine w_region (by kernel_rfl) ?_
          refine o_run 1 [2] (l := []) .nil (E' := [(2, v64 10)]) (by kernel_rfl) ?_
          refine o_end (by kernel_rfl) ?_
          refine e_seq ?_
          refine w_ret (by kernel_rfl) ?_
          obtain rfl := Option.some.inj hm
          exact e_retP () (v64 10) [] (by kernel_rfl) (by kernel_rfl) rfl (by kernel_rfl) (by kernel_rfl) trivial
        · replace hm := ite_f hb4 hm
          refine w_seq 13822 13823 (by kernel_rfl) ?_
          refine w_region (by kernel_rfl) ?_
          refine o_run 2 [3, 12] (l := []) .nil (E' := [(3, v8 a0), (12, vb (a0 == 29))]) (by kernel_rfl) ?_
          refine o_end (by kernel_rfl) ?_
          refine e_seq ?_
          refine w_cond (.tmp 12) 27646 27647 (a0 == 29) (by kernel_rfl) (by kernel_rfl) (fun hb5 => ?_) (fun hb5 => ?_)
          · replace hm := ite_t hb5 hm
            refine w_seq 55292 55293 (by kernel_rfl) ?_
            refine w_region (by kernel_rfl) ?_
            refine o_run 1 [2] (l := []) .nil (E' := [(2, v64 16)]) (by kernel_rfl) ?_
            refine o_end (by kernel_rfl) ?_
            refine e_seq ?_
            refine w_ret (by kernel_rfl) ?_
            obtain rfl := Option.some.inj hm
            exact e_retP () (v64 16) [] (by kernel_rfl) (by kernel_rfl) rfl (by kernel_rfl) (by kernel_rfl) trivial
          · replace hm := ite_f hb5 hm
            refine w_seq 55294 55295 (by kernel_rfl) ?_
            refine w_region (by kernel_rfl) ?_
            refine o_run 2 [14] (l := []) .nil (E' := [(14, vb (a0 == 5))]) (by kernel_rfl) ?_
            refine o_end (by kernel_rfl) ?_
            refine e_seq ?_
            refine w_cond (.tmp 14) 110590 110591 (a0 == 5) (by kernel_rfl) (by kernel_rfl) (fun hb6 => ?_) (fun hb6 => ?_)
            · replace hm := ite_t hb6 hm
              refine w_seq 221180 221181 (by kernel_rfl) ?_
              refine w_region (by kernel_rfl) ?_
              refine o_run 1 [2] (l := []) .nil (E' := [(2, v64 0)]) (by kernel_rfl) ?_
              refine o_end (by kernel_rfl) ?_
              refine e_seq ?_
              refine w_ret (by kernel_rfl) ?_
              obtain rfl := Option.some.inj hm
              exact e_retP () (v64 0) [] (by kernel_rfl) (by kernel_rfl) rfl (by kernel_rfl) (by kernel_rfl) trivial
            · replace hm := ite_f hb6 hm
              refine w_skip (by kernel_rfl) ?_
              refine e_blk ?_
              refine e_seq ?_
              refine w_seq 14 15 (by kernel_rfl) ?_
              refine w_region (by kernel_rfl) ?_
              refine o_run 1 [2] (l := []) .nil (E' := [(2, v64 (-1))]) (by kernel_rfl) ?_
              refine o_end (by kernel_rfl) ?_
              refine e_seq ?_
              refine w_ret (by kernel_rfl) ?_
              obtain rfl := Option.some.inj hm
              exact e_retP () (v64 (-1)) [] (by kernel_rfl) (by kernel_rfl) rfl (by kernel_rfl) (by kernel_rfl) trivial
def opts_Size_1.f (a0 : Bool) (a1 : Int) (a2 : Int) : Option (Int) :=
  (if a0 then ((opts_sizes.f a1).bind fun t1 => (some (I64 (a2 + t1)))) else (some a2))
theorem opts_Size_1_ok (a0 : Bool) (a1 : Int) (a2 : Int) (r : Int) (hm : opts_Size_1.f a0 a1 a2 = some r) (B G : Asn) (g1 : Nat) (w : World) (hs : St B G [.blk g1 [v64 a2] 3] w) :
    Calls Try.prog 72 #[vb a0, v8 a1, pg g1] w (Post (X := Unit) (fun x => .tuple #[]) (fun x => B) G (fun x => [.blk g1 [v64 r] 3]) (fun x => True)) := by
  unfold opts_Size_1.f at hm
  refine calls_W (F := Try.f72) Try.func72 rfl (by kernel_rfl) (L := [.blk g1 [v64 a2] 3]) ?_ hs
  refine w_seq 2 3 (by kernel_rfl) ?_
  refine w_region (by kernel_rfl) ?_
  refine o_run 1 [1, 2, 5] (l := []) .nil (E' := [(1, v8 a1), (2, (pg g1)), (5, vb a0)]) (by kernel_rfl) ?_
  refine o_end (by kernel_rfl) ?_
  refine e_seq ?_
  refine w_cond (.tmp 5) 6 7 a0 (by kernel_rfl) (by kernel_rfl) (fun hb1 => ?_) (fun hb1 => ?_)
  · replace hm := ite_t hb1 hm
    obtain ⟨t1, hx1, hm⟩ := bind_some hm
    refine w_tail 3 [.blk g1 [v64 a2] 3] (by kernel_rfl) mixed (by kernel_rfl) ?_
    refine tt_run [0, 1] [2, 6, 7] [0] 1 (listed' := #[true, true, false, false, false]) (l := [(⟨g1, 0, none⟩, v64 a2)]) (.one (at_blk (j := 0) rfl rfl) .nil) (E' := [(2, (pg g1)), (6, v64 a2), (7, v8 a1)]) (by kernel_rfl) (by kernel_rfl) (by kernel_rfl) (Ext.refl _) (by kernel_rfl) (by kernel_rfl) ?_
    refine tt_call 2 8 73 #[v8 a1] (v64 t1) [] [0] (by kernel_rfl) (by kernel_rfl) (by kernel_rfl) (fun B' hx' G' w hs => post_same (opts_sizes_ok a1 t1 hx1 _ _ w (St.cast (by kernel_rfl) hs))) (by kernel_rfl) (Ext.refl _) (by kernel_rfl) (by kernel_rfl) ?_
    refine tt_end [0] (Ext.refl _) (by kernel_rfl) (by kernel_rfl) (by kernel_rfl) ?_
    refine o_run 1 [2, 9] (l := []) .nil (E' := [(2, (pg g1)), (9, v64 (I64 (a2 + t1)))]) (by kernel_rfl) ?_
    refine o_stp ?_ (by kernel_rfl)
    refine s_store 0 g1 [v64 a2] 3 [(0, v64 (I64 (a2 + t1)))] (by kernel_rfl) (by kernel_rfl) (by kernel_rfl) ?_
    refine t_L (L' := [.blk g1 [v64 (I64 (a2 + t1))] 3]) (by kernel_rfl) ?_
    refine o_end (by kernel_rfl) ?_
    obtain rfl := Option.some.inj hm
    exact e_endP () (.tuple #[]) [0] (by kernel_rfl) (by kernel_rfl) rfl (by kernel_rfl) (by kernel_rfl) trivial
  · replace hm := ite_f hb1 hm
    refine w_skip (by kernel_rfl) ?_
    obtain rfl := Option.some.inj hm
    exact e_endP () (.tuple #[]) [0] (by kernel_rfl) (by kernel_rfl) rfl (by kernel_rfl) (by kernel_rfl) trivial
def opts_Size.f (a0 : TO_o) : Option (Int) :=
  ((opts_Size_1.f a0.hM 2 0).bind fun t1 => ((opts_Size_1.f a0.hS 3 t1).bind fun t2 => ((opts_Size_1.f a0.sO 4 t2).bind fun t3 => ((opts_Size_1.f a0.hT 8 t3).bind fun t4 => ((opts_Size_1.f a0.hO 29 t4).bind fun t5 => (some (I64 ((I64 (Int.tdiv (I64 (t5 + 3)) 4)) * 4))))))))
theorem opts_Size_ok (a0 : TO_o) (r : Int) (hm : opts_Size.f a0 = some r) (B G : Asn) (w : World) (hs : St B G [] w) :
    Calls Try.prog 53 #[.agg #[vb a0.hM, v16 a0.ms, vb a0.hS, v8 a0.sc, vb a0.sO, .slice none 0 0, vb a0.hT, v32 a0.va, v32 a0.ec, vb a0.hO, v8 a0.ki, v8 a0.ni, v8 a0.m.x0, v8 a0.m.x1, v8 a0.m.x2, v8 a0.m.x3, v8 a0.m.x4, v8 a0.m.x5, v8 a0.m.x6, v8 a0.m.x7, v8 a0.m.x8, v8 a0.m.x9, v8 a0.m.x10, v8 a0.m.x11]] w (Post (X := Unit) (fun x => v64 r) (fun x => B) G (fun x => []) (fun x => True)) := by
  unfold opts_Size.f at hm
  refine calls_W (F := Try.f53) Try.func53 rfl (by kernel_rfl) (L := []) ?_ hs
  refine w_seq 2 3 (by kernel_rfl) ?_
  refine w_region (by kernel_rfl) ?_
  refine o_stp ?_ (by kernel_rfl)
  refine s_new 1 (fun g1 => (pg g1)) [vb a0.hM, v16 a0.ms, vb a0.hS, v8 a0.sc, vb a0.sO, .slice none 0 0, vb a0.hT, v32 a0.va, v32 a0.ec, vb a0.hO, v8 a0.ki, v8 a0.ni, v8 a0.m.x0, v8 a0.m.x1, v8 a0.m.x2, v8 a0.m.x3, v8 a0.m.x4, v8 a0.m.x5, v8 a0.m.x6, v8 a0.m.x7, v8 a0.m.x8, v8 a0.m.x9, v8 a0.m.x10, v8 a0.m.x11] 31 (fun _ => by kernel_rfl) (fun g1 => ?_)
  refine o_run 1 [1] (l := []) .nil (E' := [(1, (pg g1))]) (by kernel_rfl) ?_
  refine o_end (by kernel_rfl) ?_
  refine e_seq ?_
  refine w_seq 6 7 (by kernel_rfl) ?_
  refine w_region (by kernel_rfl) ?_
  refine o_stp ?_ (by kernel_rfl)
  refine s_new 3 (fun g2 => (pg g2)) [v64 0] 3 (fun _ => by kernel_rfl) (fun g2 => ?_)
  refine o_stp ?_ (by kernel_rfl)
  refine s_store 0 g2 [v64 0] 3 [(0, v64 0)] (by kernel_rfl) (by kernel_rfl) (by kernel_rfl) ?_
  refine t_L (L' := [.blk g2 [v64 0] 3, .blk g1 [vb a0.hM, v16 a0.ms, vb a0.hS, v8 a0.sc, vb a0.sO, .slice none 0 0, vb a0.hT, v32 a0.va, v32 a0.ec, vb a0.hO, v8 a0.ki, v8 a0.ni, v8 a0.m.x0, v8 a0.m.x1, v8 a0.m.x2, v8 a0.m.x3, v8 a0.m.x4, v8 a0.m.x5, v8 a0.m.x6, v8 a0.m.x7, v8 a0.m.x8, v8 a0.m.x9, v8 a0.m.x10, v8 a0.m.x11] 31]) (by kernel_rfl) ?_
  refine o_end (by kernel_rfl) ?_
  refine e_seq ?_
  refine w_seq 14 15 (by kernel_rfl) ?_
  refine w_region (by kernel_rfl) ?_
  refine o_run 2 [1, 3, 4] (l := []) .nil (E' := [(1, (pg g1)), (3, (pg g2)), (4, .func (.func 72) #[] #[pg g2])]) (by kernel_rfl) ?_
  refine o_end (by kernel_rfl) ?_
  refine e_seq ?_
  refine w_seq 30 31 (by kernel_rfl) ?_
  refine w_region (by kernel_rfl) ?_
  refine o_run 3 [1, 3, 4, 6, 8] (l := [(⟨g1, 0, none⟩, vb a0.hM)]) (.one (at_blk (j := 1) rfl rfl) .nil) (E' := [(1, (pg g1)), (3, (pg g2)), (4, .func (.func 72) #[] #[pg g2]), (6, .func (.func 72) #[] #[pg g2]), (8, vb a0.hM)]) (by kernel_rfl) ?_
  obtain ⟨t1, hx1, hm⟩ := bind_some hm
  refine o_stp ?_ (by kernel_rfl)
  refine s_call 9 72 #[vb a0.hM, v8 2, pg g2] [0] [1] (by kernel_rfl) (by kernel_rfl) (fun w hs => opts_Size_1_ok a0.hM 2 0 t1 hx1 B _ g2 w (St.cast (by kernel_rfl) hs)) (fun _ hx => ?_)
  refine t_L (L' := [.blk g2 [v64 t1] 3, .blk g1 [vb a0.hM, v16 a0.ms, vb a0.hS, v8 a0.sc, vb a0.sO, .slice none 0 0, vb a0.hT, v32 a0.va, v32 a0.ec, vb a0.hO, v8 a0.ki, v8 a0.ni, v8 a0.m.x0, v8 a0.m.x1, v8 a0.m.x2, v8 a0.m.x3, v8 a0.m.x4, v8 a0.m.x5, v8 a0.m.x6, v8 a0.m.x7, v8 a0.m.x8, v8 a0.m.x9, v8 a0.m.x10, v8 a0.m.x11] 31]) (by kernel_rfl) ?_
  refine o_end (by kernel_rfl) ?_
  refine e_seq ?_
  refine w_seq 62 63 (by kernel_rfl) ?_
  refine w_region (by kernel_rfl) ?_
  refine o_run 3 [1, 3, 4, 10, 12] (l := [(⟨g1, 2, none⟩, vb a0.hS)]) (.one (at_blk (j := 1) rfl rfl) .nil) (E' := [(1, (pg g1)), (3, (pg g2)), (4, .func (.func 72) #[] #[pg g2]), (10, .func (.func 72) #[] #[pg g2]), (12, vb a0.hS)]) (by kernel_rfl) ?_
  obtain ⟨t2, hx2, hm⟩ := bind_some hm
  refine o_stp ?_ (by kernel_rfl)
  refine s_call 13 72 #[vb a0.hS, v8 3, pg g2] [0] [1] (by kernel_rfl) (by kernel_rfl) (fun w hs => opts_Size_1_ok a0.hS 3 t1 t2 hx2 B _ g2 w (St.cast (by kernel_rfl) hs)) (fun _ hx => ?_)
  refine t_L (L' := [.blk g2 [v64 t2] 3, .blk g1 [vb a0.hM, v16 a0.ms, vb a0.hS, v8 a0.sc, vb a0.sO, .slice none 0 0, vb a0.hT, v32 a0.va, v32 a0.ec, vb a0.hO, v8 a0.ki, v8 a0.ni, v8 a0.m.x0, v8 a0.m.x1, v8 a0.m.x2, v8 a0.m.x3, v8 a0.m.x4, v8 a0.m.x5, v8 a0.m.x6, v8 a0.m.x7, v8 a0.m.x8, v8 a0.m.x9, v8 a0.m.x10, v8 a0.m.x11] 31]) (by kernel_rfl) ?_
  refine o_end (by kernel_rfl) ?_
  refine e_seq ?_
  refine w_seq 126 127 (by kernel_rfl) ?_
  refine w_region (by kernel_rfl) ?_
  refine o_run 3 [1, 3, 4, 14, 16] (l := [(⟨g1, 4, none⟩, vb a0.sO)]) (.one (at_blk (j := 1) rfl rfl) .nil) (E' := [(1, (pg g1)), (3, (pg g2)), (4, .func (.func 72) #[] #[pg g2]), (14, .func (.func 72) #[] #[pg g2]), (16, vb a0.sO)]) (by kernel_rfl) ?_
  obtain ⟨t3, hx3, hm⟩ := bind_some hm
  refine o_stp ?_ (by kernel_rfl)
  refine s_call 17 72 #[vb a0.sO, v8 4, pg g2] [0] [1] (by kernel_rfl) (by kernel_rfl) (fun w hs => opts_Size_1_ok a0.sO 4 t2 t3 hx3 B _ g2 w (St.cast (by kernel_rfl) hs)) (fun _ hx => ?_)
  refine t_L (L' := [.blk g2 [v64 t3] 3, .blk g1 [vb a0.hM, v16 a0.ms, vb a0.hS, v8 a0.sc, vb a0.sO, .slice none 0 0, vb a0.hT, v32 a0.va, v32 a0.ec, vb a0.hO, v8 a0.ki, v8 a0.ni, v8 a0.m.x0, v8 a0.m.x1, v8 a0.m.x2, v8 a0.m.x3, v8 a0.m.x4, v8 a0.m.x5, v8 a0.m.x6, v8 a0.m.x7, v8 a0.m.x8, v8 a0.m.x9, v8 a0.m.x10, v8 a0.m.x11] 31]) (by kernel_rfl) ?_
  refine o_end (by kernel_rfl) ?_
  refine e_seq ?_
  refine w_seq 254 255 (by kernel_rfl) ?_
  refine w_region (by kernel_rfl) ?_
  refine o_run 3 [1, 3, 4, 18, 20] (l := [(⟨g1, 6, none⟩, vb a0.hT)]) (.one (at_blk (j := 1) rfl rfl) .nil) (E' := [(1, (pg g1)), (3, (pg g2)), (4, .func (.func 72) #[] #[pg g2]), (18, .func (.func 72) #[] #[pg g2]), (20, vb a0.hT)]) (by kernel_rfl) ?_
  obtain ⟨t4, hx4, hm⟩ := bind_some hm
  refine o_stp ?_ (by kernel_rfl)
  refine s_call 21 72 #[vb a0.hT, v8 8, pg g2] [0] [1] (by kernel_rfl) (by kernel_rfl) (fun w hs => opts_Size_1_ok a0.hT 8 t3 t4 hx4 B _ g2 w (St.cast (by kernel_rfl) hs)) (fun _ hx => ?_)
  refine t_L (L' := [.blk g2 [v64 t4] 3, .blk g1 [vb a0.hM, v16 a0.ms, vb a0.hS, v8 a0.sc, vb a0.sO, .slice none 0 0, vb a0.hT, v32 a0.va, v32 a0.ec, vb a0.hO, v8 a0.ki, v8 a0.ni, v8 a0.m.x0, v8 a0.m.x1, v8 a0.m.x2, v8 a0.m.x3, v8 a0.m.x4, v8 a0.m.x5, v8 a0.m.x6, v8 a0.m.x7, v8 a0.m.x8, v8 a0.m.x9, v8 a0.m.x10, v8 a0.m.x11] 31]) (by kernel_rfl) ?_
  refine o_end (by kernel_rfl) ?_
  refine e_seq ?_
  refine w_seq 510 511 (by kernel_rfl) ?_
  refine w_region (by kernel_rfl) ?_
  refine o_run 3 [1, 3, 22, 24] (l := [(⟨g1, 9, none⟩, vb a0.hO)]) (.one (at_blk (j := 1) rfl rfl) .nil) (E' := [(1, (pg g1)), (3, (pg g2)), (22, .func (.func 72) #[] #[pg g2]), (24, vb a0.hO)]) (by kernel_rfl) ?_
  obtain ⟨t5, hx5, hm⟩ := bind_some hm
  refine o_stp ?_ (by kernel_rfl)
  refine s_call 25 72 #[vb a0.hO, v8 29, pg g2] [0] [1] (by kernel_rfl) (by kernel_rfl) (fun w hs => opts_Size_1_ok a0.hO 29 t4 t5 hx5 B _ g2 w (St.cast (by kernel_rfl) hs)) (fun _ hx => ?_)
  refine t_L (L' := [.blk g2 [v64 t5] 3, .blk g1 [vb a0.hM, v16 a0.ms, vb a0.hS, v8 a0.sc, vb a0.sO, .slice none 0 0, vb a0.hT, v32 a0.va, v32 a0.ec, vb a0.hO, v8 a0.ki, v8 a0.ni, v8 a0.m.x0, v8 a0.m.x1, v8 a0.m.x2, v8 a0.m.x3, v8 a0.m.x4, v8 a0.m.x5, v8 a0.m.x6, v8 a0.m.x7, v8 a0.m.x8, v8 a0.m.x9, v8 a0.m.x10, v8 a0.m.x11] 31]) (by kernel_rfl) ?_
  refine o_end (by kernel_rfl) ?_
  refine e_seq ?_
  refine w_seq 1022 1023 (by kernel_rfl) ?_
  refine w_seq 2044 2045 (by kernel_rfl) ?_
  refine w_region (by kernel_rfl) ?_
  refine o_run 4 [1, 3, 29] (l := [(⟨g1, 5, none⟩, .slice none 0 0)]) (.one (at_blk (j := 1) rfl rfl) .nil) (E' := [(1, (pg g1)), (3, (pg g2)), (29, vb false)]) (by kernel_rfl) ?_
  refine o_end (by kernel_rfl) ?_
  refine e_seq ?_
  refine w_cond_f (.tmp 29) 4090 4091 (by kernel_rfl) (by kernel_rfl) ?_
  refine w_skip (by kernel_rfl) ?_
  refine e_seq ?_
  refine w_seq 2046 2047 (by kernel_rfl) ?_
  refine w_region (by kernel_rfl) ?_
  refine o_run 5 [2] (l := [(⟨g2, 0, none⟩, v64 t5)]) (.one (at_blk (j := 0) rfl rfl) .nil) (E' := [(2, v64 (I64 ((I64 (Int.tdiv (I64 (t5 + 3)) 4)) * 4)))]) (by kernel_rfl) ?_
  refine o_end (by kernel_rfl) ?_
  refine e_seq ?_
  refine w_ret (by kernel_rfl) ?_
  obtain rfl := Option.some.inj hm
  exact e_retP () (v64 (I64 ((I64 (Int.tdiv (I64 (t5 + 3)) 4)) * 4))) [] (by kernel_rfl) (by kernel_rfl) rfl (by kernel_rfl) (by kernel_rfl) trivial
def opts_May.f (a0 : TO_o) : Option (Bool) :=
  (if !a0.hM then (if a0.ms != 0 then (some false) else (if !a0.hS then (if a0.sc != 0 then (some false) else (if decide (a0.sc > 14) then (some false) else (if !a0.hT then (if a0.va != 0 then (some false) else (if a0.ec != 0 then (some false) else (if !a0.hO then (if a0.ki != 0 then (some false) else (if a0.ni != 0 then (some false) else (if !((a0.m.x0 == 0) && ((a0.m.x1 == 0) && ((a0.m.x2 == 0) && ((a0.m.x3 == 0) && ((a0.m.x4 == 0) && ((a0.m.x5 == 0) && ((a0.m.x6 == 0) && ((a0.m.x7 == 0) && ((a0.m.x8 == 0) && ((a0.m.x9 == 0) && ((a0.m.x10 == 0) && (a0.m.x11 == 0)))))))))))) then (some false) else ((opts_Size.f a0).bind fun t1 => (some (decide (t1 ≤ 40))))))) else ((opts_Size.f a0).bind fun t2 => (some (decide (t2 ≤ 40))))))) else (if !a0.hO then (if a0.ki != 0 then (some false) else (if a0.ni != 0 then (some false) else (if !((a0.m.x0 == 0) && ((a0.m.x1 == 0) && ((a0.m.x2 == 0) && ((a0.m.x3 == 0) && ((a0.m.x4 == 0) && ((a0.m.x5 == 0) && ((a0.m.x6 == 0) && ((a0.m.x7 == 0) && ((a0.m.x8 == 0) && ((a0.m.x9 == 0) && ((a0.m.x10 == 0) && (a0.m.x11 == 0)))))))))))) then (some false) else ((opts_Size.f a0).bind fun t3 => (some (decide (t3 ≤ 40))))))) else ((opts_Size.f a0).bind fun t4 => (some (decide (t4 ≤ 40)))))))) else (if decide (a0.sc > 14) then (some false) else (if !a0.hT then (if a0.va != 0 then (some false) else (if a0.ec != 0 then (some false) else (if !a0.hO then (if a0.ki != 0 then (some false) else (if a0.ni != 0 then (some false) else (if !((a0.m.x0 == 0) && ((a0.m.x1 == 0) && ((a0.m.x2 == 0) && ((a0.m.x3 == 0) && ((a0.m.x4 == 0) && ((a0.m.x5 == 0) && ((a0.m.x6 == 0) && ((a0.m.x7 == 0) && ((a0.m.x8 == 0) && ((a0.m.x9 == 0) && ((a0.m.x10 == 0) && (a0.m.x11 == 0)))))))))))) then (some false) else ((opts_Size.f a0).bind fun t5 => (some (decide (t5 ≤ 40))))))) else ((opts_Size.f a0).bind fun t6 => (some (decide (t6 ≤ 40))))))) else (if !a0.hO then (if a0.ki != 0 then (some false) else (if a0.ni != 0 then (some false) else (if !((a0.m.x0 == 0) && ((a0.m.x1 == 0) && ((a0.m.x2 == 0) && ((a0.m.x3 == 0) && ((a0.m.x4 == 0) && ((a0.m.x5 == 0) && ((a0.m.x6 == 0) && ((a0.m.x7 == 0) && ((a0.m.x8 == 0) && ((a0.m.x9 == 0) && ((a0.m.x10 == 0) && (a0.m.x11 == 0)))))))))))) then (some false) else ((opts_Size.f a0).bind fun t7 => (some (decide (t7 ≤ 40))))))) else ((opts_Size.f a0).bind fun t8 => (some (decide (t8 ≤ 40))))))))) else (if !a0.hS then (if a0.sc != 0 then (some false) else (if decide (a0.sc > 14) then (some false) else (if !a0.hT then (if a0.va != 0 then (some false) else (if a0.ec != 0 then (some false) else (if !a0.hO then (if a0.ki != 0 then (some false) else (if a0.ni != 0 then (some false) else (if !((a0.m.x0 == 0) && ((a0.m.x1 == 0) && ((a0.m.x2 == 0) && ((a0.m.x3 == 0) && ((a0.m.x4 == 0) && ((a0.m.x5 == 0) && ((a0.m.x6 == 0) && ((a0.m.x7 == 0) && ((a0.m.x8 == 0) && ((a0.m.x9 == 0) && ((a0.m.x10 == 0) && (a0.m.x11 == 0)))))))))))) then (some false) else ((opts_Size.f a0).bind fun t9 => (some (decide (t9 ≤ 40))))))) else ((opts_Size.f a0).bind fun t10 => (some (decide (t10 ≤ 40))))))) else (if !a0.hO then (if a0.ki != 0 then (some false) else (if a0.ni != 0 then (some false) else (if !((a0.m.x0 == 0) && ((a0.m.x1 == 0) && ((a0.m.x2 == 0) && ((a0.m.x3 == 0) && ((a0.m.x4 == 0) && ((a0.m.x5 == 0) && ((a0.m.x6 == 0) && ((a0.m.x7 == 0) && ((a0.m.x8 == 0) && ((a0.m.x9 == 0) && ((a0.m.x10 == 0) && (a0.m.x11 == 0)))))))))))) then (some false) else ((opts_Size.f a0).bind fun t11 => (some (decide (t11 ≤ 40))))))) else ((opts_Size.f a0).bind fun t12 => (some (decide (t12 ≤ 40)))))))) else (if decide (a0.sc > 14) then (some false) else (if !a0.hT then (if a0.va != 0 then (some false) else (if a0.ec != 0 then (some false) else (if !a0.hO then (if a0.ki != 0 then (some false) else (if a0.ni != 0 then (some false) else (if !((a0.m.x0 == 0) && ((a0.m.x1 == 0) && ((a0.m.x2 == 0) && ((a0.m.x3 == 0) && ((a0.m.x4 == 0) && ((a0.m.x5 == 0) && ((a0.m.x6 == 0) && ((a0.m.x7 == 0) && ((a0.m.x8 == 0) && ((a0.m.x9 == 0) && ((a0.m.x10 == 0) && (a0.m.x11 == 0)))))))))))) then (some false) else ((opts_Size.f a0).bind fun t13 => (some (decide (t13 ≤ 40))))))) else ((opts_Size.f a0).bind fun t14 => (some (decide (t14 ≤ 40))))))) else (if !a0.hO then (if a0.ki != 0 then (some false) else (if a0.ni != 0 then (some false) else (if !((a0.m.x0 == 0) && ((a0.m.x1 == 0) && ((a0.m.x2 == 0) && ((a0.m.x3 == 0) && ((a0.m.x4 == 0) && ((a0.m.x5 == 0) && ((a0.m.x6 == 0) && ((a0.m.x7 == 0) && ((a0.m.x8 == 0) && ((a0.m.x9 == 0) && ((a0.m.x10 == 0) && (a0.m.x11 == 0)))))))))))) then (some false) else ((opts_Size.f a0).bind fun t15 => (some (decide (t15 ≤ 40))))))) else ((opts_Size.f a0).bind fun t16 => (some (decide (t16 ≤ 40)))))))))
theorem opts_May_ok (a0 : TO_o) (r : Bool) (hm : opts_May.f a0 = some r) (B G : Asn) (w : World) (hs : St B G [] w) :
    Calls Try.prog 34 #[.agg #[vb a0.hM, v16 a0.ms, vb a0.hS, v8 a0.sc, vb a0.sO, .slice none 0 0, vb a0.hT, v32 a0.va, v32 a0.ec, vb a0.hO, v8 a0.ki, v8 a0.ni, v8 a0.m.x0, v8 a0.m.x1, v8 a0.m.x2, v8 a0.m.x3, v8 a0.m.x4, v8 a0.m.x5, v8 a0.m.x6, v8 a0.m.x7, v8 a0.m.x8, v8 a0.m.x9, v8 a0.m.x10, v8 a0.m.x11]] w (Post (X := Unit) (fun x => vb r) (fun x => B) G (fun x => []) (fun x => True)) := by
  unfold opts_May.f at hm
  refine calls_W (F := Try.f34) Try.func34 rfl (by kernel_rfl) (L := []) ?_ hs
  refine w_seq 2 3 (by kernel_rfl) ?_
  refine w_region (by kernel_rfl) ?_
  refine o_stp ?_ (by kernel_rfl)
  refine s_new 1 (fun g1 => (pg g1)) [vb a0.hM, v16 a0.ms, vb a0.hS, v8 a0.sc, vb a0.sO, .slice none 0 0, vb a0.hT, v32 a0.va, v32 a0.ec, vb a0.hO, v8 a0.ki, v8 a0.ni, v8 a0.m.x0, v8 a0.m.x1, v8 a0.m.x2, v8 a0.m.x3, v8 a0.m.x4, v8 a0.m.x5, v8 a0.m.x6, v8 a0.m.x7, v8 a0.m.x8, v8 a0.m.x9, v8 a0.m.x10, v8 a0.m.x11] 31 (fun _ => by kernel_rfl) (fun g1 => ?_)
  refine o_run 1 [1] (l := []) .nil (E' := [(1, (pg g1))]) (by kernel_rfl) ?_
  refine o_end (by kernel_rfl) ?_
  refine e_seq ?_
  refine w_seq 6 7 (by kernel_rfl) ?_
  refine w_block 0 12 (by kernel_rfl) ?_
  refine w_seq 24 25 (by kernel_rfl) ?_
  refine w_region (by kernel_rfl) ?_
  refine o_run 4 [1, 7] (l := [(⟨g1, 0, none⟩, vb a0.hM)]) (.one (at_blk (j := 0) rfl rfl) .nil) (E' := [(1, (pg g1)), (7, vb (!a0.hM))]) (by kernel_rfl) ?_
  refine o_split 7 (!a0.hM) (by kernel_rfl) (fun hb1 => ?_) (fun hb1 => ?_)
  · replace hm := ite_t hb1 hm
    refine o_run 5 [1, 12] (l := [(⟨g1, 1, none⟩, v16 a0.ms)]) (.one (at_blk (j := 0) rfl rfl) .nil) (E' := [(1, (pg g1)), (12, vb (a0.ms != 0))]) (by kernel_rfl) ?_
    refine o_split 12 (a0.ms != 0) (by kernel_rfl) (fun hb2 => ?_) (fun hb2 => ?_)
    · replace hm := ite_t hb2 hm
      refine o_run 15 [1, 3] (l := []) .nil (E' := [(1, (pg g1)), (3, vb true)]) (by kernel_rfl) ?_
      refine o_end (by kernel_rfl) ?_
      refine e_seq ?_
      refine w_cond_t (.tmp 3) 50 51 (by kernel_rfl) (by kernel_rfl) ?_
      refine w_seq 100 101 (by kernel_rfl) ?_
      refine w_region (by kernel_rfl) ?_
      refine o_run 1 [2] (l := []) .nil (E' := [(2, vb false)]) (by kernel_rfl) ?_
      refine o_end (by kernel_rfl) ?_
      refine e_seq ?_
      refine w_ret (by kernel_rfl) ?_
      obtain rfl := Option.some.inj hm
      exact e_retP () (vb false) [] (by kernel_rfl) (by kernel_rfl) rfl (by kernel_rfl) (by kernel_rfl) trivial
    · replace hm := ite_f hb2 hm
      refine o_run 4 [1, 12, 16] (l := [(⟨g1, 2, none⟩, vb a0.hS)]) (.one (at_blk (j := 0) rfl rfl) .nil) (E' := [(1, (pg g1)), (12, vb false), (16, vb (!a0.hS))]) (by kernel_rfl) ?_
      refine o_split 16 (!a0.hS) (by kernel_rfl) (fun hb3 => ?_) (fun hb3 => ?_)
      · replace hm := ite_t hb3 hm
        refine o_run 6 [1, 22] (l := [(⟨g1, 3, none⟩, v8 a0.sc)]) (.one (at_blk (j := 0) rfl rfl) .nil) (E' := [(1, (pg g1)), (22, vb (a0.sc != 0))]) (by kernel_rfl) ?_
        refine o_split 22 (a0.sc != 0) (by kernel_rfl) (fun hb4 => ?_) (fun hb4 => ?_)
        · replace hm := ite_t hb4 hm
          refine o_run 5 [1, 3] (l := []) .nil (E' := [(1, (pg g1)), (3, vb true)]) (by kernel_rfl) ?_
          refine o_end (by kernel_rfl) ?_
          refine e_seq ?_
          refine w_cond_t (.tmp 3) 50 51 (by kernel_rfl) (by kernel_rfl) ?_
          refine w_seq 100 101 (by kernel_rfl) ?_
          refine w_region (by kernel_rfl) ?_
          refine o_run 1 [2] (l := []) .nil (E' := [(2, vb false)]) (by kernel_rfl) ?_
          refine o_end (by kernel_rfl) ?_
          refine e_seq ?_
          refine w_ret (by kernel_rfl) ?_
          obtain rfl := Option.some.inj hm
          exact e_retP () (vb false) [] (by kernel_rfl) (by kernel_rfl) rfl (by kernel_rfl) (by kernel_rfl) trivial
        · replace hm := ite_f hb4 hm
          refine o_run 5 [1, 3] (l := [(⟨g1, 3, none⟩, v8 a0.sc)]) (.one (at_blk (j := 0) rfl rfl) .nil) (E' := [(1, (pg g1)), (3, vb (decide (a0.sc > 14)))]) (by kernel_rfl) ?_
          refine o_end (by kernel_rfl) ?_
          refine e_seq ?_
          refine w_cond (.tmp 3) 50 51 (decide (a0.sc > 14)) (by kernel_rfl) (by kernel_rfl) (fun hb5 => ?_) (fun hb5 => ?_)
          · replace hm := ite_t hb5 hm
            refine w_seq 100 101 (by kernel_rfl) ?_
            refine w_region (by kernel_rfl) ?_
            refine o_run 1 [2] (l := []) .nil (E' := [(2, vb false)]) (by kernel_rfl) ?_
            refine o_end (by kernel_rfl) ?_
            refine e_seq ?_
            refine w_ret (by kernel_rfl) ?_
            obtain rfl := Option.some.inj hm
            exact e_retP () (vb false) [] (by kernel_rfl) (by kernel_rfl) rfl (by kernel_rfl) (by kernel_rfl) trivial
          · replace hm := ite_f hb5 hm
            refine w_seq 102 103 (by kernel_rfl) ?_
            refine w_region (by kernel_rfl) ?_
            refine o_run 4 [1, 31] (l := [(⟨g1, 6, none⟩, vb a0.hT)]) (.one (at_blk (j := 0) rfl rfl) .nil) (E' := [(1, (pg g1)), (31, vb (!a0.hT))]) (by kernel_rfl) ?_
            refine o_split 31 (!a0.hT) (by kernel_rfl) (fun hb6 => ?_) (fun hb6 => ?_)
            · replace hm := ite_t hb6 hm
              refine o_run 4 [1, 31, 35] (l := [(⟨g1, 7, none⟩, v32 a0.va)]) (.one (at_blk (j := 0) rfl rfl) .nil) (E' := [(1, (pg g1)), (31, vb true), (35, vb (a0.va != 0))]) (by kernel_rfl) ?_
              refine o_split 35 (a0.va != 0) (by kernel_rfl) (fun hb7 => ?_) (fun hb7 => ?_)
              · replace hm := ite_t hb7 hm
                refine o_run 6 [1, 27] (l := []) .nil (E' := [(1, (pg g1)), (27, vb true)]) (by kernel_rfl) ?_
                refine o_end (by kernel_rfl) ?_
                refine e_seq ?_
                refine w_cond_t (.tmp 27) 206 207 (by kernel_rfl) (by kernel_rfl) ?_
                refine w_seq 412 413 (by kernel_rfl) ?_
                refine w_region (by kernel_rfl) ?_
                refine o_run 1 [2] (l := []) .nil (E' := [(2, vb false)]) (by kernel_rfl) ?_
                refine o_end (by kernel_rfl) ?_
                refine e_seq ?_
                refine w_ret (by kernel_rfl) ?_
                obtain rfl := Option.some.inj hm
                exact e_retP () (vb false) [] (by kernel_rfl) (by kernel_rfl) rfl (by kernel_rfl) (by kernel_rfl) trivial
              · replace hm := ite_f hb7 hm
                refine o_run 6 [1, 27] (l := [(⟨g1, 8, none⟩, v32 a0.ec)]) (.one (at_blk (j := 0) rfl rfl) .nil) (E' := [(1, (pg g1)), (27, vb (a0.ec != 0))]) (by kernel_rfl) ?_
                refine o_end (by kernel_rfl) ?_
                refine e_seq ?_
                refine w_cond (.tmp 27) 206 207 (a0.ec != 0) (by kernel_rfl) (by kernel_rfl) (fun hb8 => ?_) (fun hb8 => ?_)
                · replace hm := ite_t hb8 hm
                  refine w_seq 412 413 (by kernel_rfl) ?_
                  refine w_region (by kernel_rfl) ?_
                  refine o_run 1 [2] (l := []) .nil (E' := [(2, vb false)]) (by kernel_rfl) ?_
                  refine o_end (by kernel_rfl) ?_
                  refine e_seq ?_
                  refine w_ret (by kernel_rfl) ?_
                  obtain rfl := Option.some.inj hm
                  exact e_retP () (vb false) [] (by kernel_rfl) (by kernel_rfl) rfl (by kernel_rfl) (by kernel_rfl) trivial
                · replace hm := ite_f hb8 hm
                  refine w_seq 414 415 (by kernel_rfl) ?_
                  refine w_region (by kernel_rfl) ?_
                  refine o_run 4 [1, 45] (l := [(⟨g1, 9, none⟩, vb a0.hO)]) (.one (at_blk (j := 0) rfl rfl) .nil) (E' := [(1, (pg g1)), (45, vb (!a0.hO))]) (by kernel_rfl) ?_
                  refine o_split 45 (!a0.hO) (by kernel_rfl) (fun hb9 => ?_) (fun hb9 => ?_)
                  · replace hm := ite_t hb9 hm
                    refine o_run 4 [1, 45, 49] (l := [(⟨g1, 10, none⟩, v8 a0.ki)]) (.one (at_blk (j := 0) rfl rfl) .nil) (E' := [(1, (pg g1)), (45, vb true), (49, vb (a0.ki != 0))]) (by kernel_rfl) ?_
                    refine o_split 49 (a0.ki != 0) (by kernel_rfl) (fun hb10 => ?_) (fun hb10 => ?_)
                    · replace hm := ite_t hb10 hm
                      refine o_run 12 [1, 41] (l := []) .nil (E' := [(1, (pg g1)), (41, vb true)]) (by kernel_rfl) ?_
                      refine o_end (by kernel_rfl) ?_
                      refine e_seq ?_
                      refine w_cond_t (.tmp 41) 830 831 (by kernel_rfl) (by kernel_rfl) ?_
                      refine w_seq 1660 1661 (by kernel_rfl) ?_
                      refine w_region (by kernel_rfl) ?_
                      refine o_run 1 [2] (l := []) .nil (E' := [(2, vb false)]) (by kernel_rfl) ?_
                      refine o_end (by kernel_rfl) ?_
                      refine e_seq ?_
                      refine w_ret (by kernel_rfl) ?_
                      obtain rfl := Option.some.inj hm
                      exact e_retP () (vb false) [] (by kernel_rfl) (by kernel_rfl) rfl (by kernel_rfl) (by kernel_rfl) trivial
                    · replace hm := ite_f hb10 hm
                      refine o_run 5 [1, 45, 54] (l := [(⟨g1, 11, none⟩, v8 a0.ni)]) (.one (at_blk (j := 0) rfl rfl) .nil) (E' := [(1, (pg g1)), (45, vb true), (54, vb (a0.ni != 0))]) (by kernel_rfl) ?_
                      refine o_split 54 (a0.ni != 0) (by kernel_rfl) (fun hb11 => ?_) (fun hb11 => ?_)
                      · replace hm := ite_t hb11 hm
                        refine o_run 7 [1, 41] (l := []) .nil (E' := [(1, (pg g1)), (41, vb true)]) (by kernel_rfl) ?_
                        refine o_end (by kernel_rfl) ?_
                        refine e_seq ?_
                        refine w_cond_t (.tmp 41) 830 831 (by kernel_rfl) (by kernel_rfl) ?_
                        refine w_seq 1660 1661 (by kernel_rfl) ?_
                        refine w_region (by kernel_rfl) ?_
                        refine o_run 1 [2] (l := []) .nil (E' := [(2, vb false)]) (by kernel_rfl) ?_
                        refine o_end (by kernel_rfl) ?_
                        refine e_seq ?_
                        refine w_ret (by kernel_rfl) ?_
                        obtain rfl := Option.some.inj hm
                        exact e_retP () (vb false) [] (by kernel_rfl) (by kernel_rfl) rfl (by kernel_rfl) (by kernel_rfl) trivial
                      · replace hm := ite_f hb11 hm
                        refine o_run 1 [1, 45, 54, 55] (l := []) .nil (E' := [(1, (pg g1)), (45, vb true), (54, vb false), (55, .pointer (some ⟨g1, 12, none⟩))]) (by kernel_rfl) ?_
                        refine o_val 56 (.load 29 (.tmp 55)) (.agg #[v8 a0.m.x0, v8 a0.m.x1, v8 a0.m.x2, v8 a0.m.x3, v8 a0.m.x4, v8 a0.m.x5, v8 a0.m.x6, v8 a0.m.x7, v8 a0.m.x8, v8 a0.m.x9, v8 a0.m.x10, v8 a0.m.x11]) (by kernel_rfl) (v_load (l := [v8 a0.m.x0, v8 a0.m.x1, v8 a0.m.x2, v8 a0.m.x3, v8 a0.m.x4, v8 a0.m.x5, v8 a0.m.x6, v8 a0.m.x7, v8 a0.m.x8, v8 a0.m.x9, v8 a0.m.x10, v8 a0.m.x11]) (a := ⟨g1, 12, none⟩) (by kernel_rfl) (by kernel_rfl) (at_blk (j := 0) rfl rfl)) ?_
                        refine o_run 1 [1, 45, 54, 56, 57] (l := []) .nil (E' := [(1, (pg g1)), (45, vb true), (54, vb false), (56, .agg #[v8 a0.m.x0, v8 a0.m.x1, v8 a0.m.x2, v8 a0.m.x3, v8 a0.m.x4, v8 a0.m.x5, v8 a0.m.x6, v8 a0.m.x7, v8 a0.m.x8, v8 a0.m.x9, v8 a0.m.x10, v8 a0.m.x11]), (57, .agg #[v8 0, v8 0, v8 0, v8 0, v8 0, v8 0, v8 0, v8 0, v8 0, v8 0, v8 0, v8 0])]) (by kernel_rfl) ?_
                        refine o_val 58 (.binOp .neq 29 (.tmp 56) (.tmp 57) 29) (vb (!((a0.m.x0 == 0) && ((a0.m.x1 == 0) && ((a0.m.x2 == 0) && ((a0.m.x3 == 0) && ((a0.m.x4 == 0) && ((a0.m.x5 == 0) && ((a0.m.x6 == 0) && ((a0.m.x7 == 0) && ((a0.m.x8 == 0) && ((a0.m.x9 == 0) && ((a0.m.x10 == 0) && (a0.m.x11 == 0)))))))))))))) (by kernel_rfl) (v_neS (xs := #[v8 a0.m.x0, v8 a0.m.x1, v8 a0.m.x2, v8 a0.m.x3, v8 a0.m.x4, v8 a0.m.x5, v8 a0.m.x6, v8 a0.m.x7, v8 a0.m.x8, v8 a0.m.x9, v8 a0.m.x10, v8 a0.m.x11]) (ys := #[v8 0, v8 0, v8 0, v8 0, v8 0, v8 0, v8 0, v8 0, v8 0, v8 0, v8 0, v8 0]) (b := ((a0.m.x0 == 0) && ((a0.m.x1 == 0) && ((a0.m.x2 == 0) && ((a0.m.x3 == 0) && ((a0.m.x4 == 0) && ((a0.m.x5 == 0) && ((a0.m.x6 == 0) && ((a0.m.x7 == 0) && ((a0.m.x8 == 0) && ((a0.m.x9 == 0) && ((a0.m.x10 == 0) && (a0.m.x11 == 0))))))))))))) (by kernel_rfl) (by kernel_rfl) (by kernel_rfl) (by kernel_rfl)) ?_
                        refine o_run 3 [1, 41] (l := []) .nil (E' := [(1, (pg g1)), (41, vb (!((a0.m.x0 == 0) && ((a0.m.x1 == 0) && ((a0.m.x2 == 0) && ((a0.m.x3 == 0) && ((a0.m.x4 == 0) && ((a0.m.x5 == 0) && ((a0.m.x6 == 0) && ((a0.m.x7 == 0) && ((a0.m.x8 == 0) && ((a0.m.x9 == 0) && ((a0.m.x10 == 0) && (a0.m.x11 == 0))))))))))))))]) (by kernel_rfl) ?_
                        refine o_end (by kernel_rfl) ?_
                        refine e_seq ?_
                        refine w_cond (.tmp 41) 830 831 (!((a0.m.x0 == 0) && ((a0.m.x1 == 0) && ((a0.m.x2 == 0) && ((a0.m.x3 == 0) && ((a0.m.x4 == 0) && ((a0.m.x5 == 0) && ((a0.m.x6 == 0) && ((a0.m.x7 == 0) && ((a0.m.x8 == 0) && ((a0.m.x9 == 0) && ((a0.m.x10 == 0) && (a0.m.x11 == 0))))))))))))) (by kernel_rfl) (by kernel_rfl) (fun hb12 => ?_) (fun hb12 => ?_)
                        · replace hm := ite_t hb12 hm
                          refine w_seq 1660 1661 (by kernel_rfl) ?_
                          refine w_region (by kernel_rfl) ?_
                          refine o_run 1 [2] (l := []) .nil (E' := [(2, vb false)]) (by kernel_rfl) ?_
                          refine o_end (by kernel_rfl) ?_
                          refine e_seq ?_
                          refine w_ret (by kernel_rfl) ?_
                          obtain rfl := Option.some.inj hm
                          exact e_retP () (vb false) [] (by kernel_rfl) (by kernel_rfl) rfl (by kernel_rfl) (by kernel_rfl) trivial
                        · replace hm := ite_f hb12 hm
                          refine w_skip (by kernel_rfl) ?_
                          refine e_blk ?_
                          refine e_seq ?_
                          refine w_seq 14 15 (by kernel_rfl) ?_
                          refine w_region (by kernel_rfl) ?_
                          refine o_run 5 [1, 65] (l := [(⟨g1, 5, none⟩, .slice none 0 0)]) (.one (at_blk (j := 0) rfl rfl) .nil) (E' := [(1, (pg g1)), (65, vb true)]) (by kernel_rfl) ?_
                          refine o_val 66 (.load 31 (.tmp 1)) (.agg #[vb a0.hM, v16 a0.ms, vb a0.hS, v8 a0.sc, vb a0.sO, .slice none 0 0, vb a0.hT, v32 a0.va, v32 a0.ec, vb a0.hO, v8 a0.ki, v8 a0.ni, v8 a0.m.x0, v8 a0.m.x1, v8 a0.m.x2, v8 a0.m.x3, v8 a0.m.x4, v8 a0.m.x5, v8 a0.m.x6, v8 a0.m.x7, v8 a0.m.x8, v8 a0.m.x9, v8 a0.m.x10, v8 a0.m.x11]) (by kernel_rfl) (v_load (l := [vb a0.hM, v16 a0.ms, vb a0.hS, v8 a0.sc, vb a0.sO, .slice none 0 0, vb a0.hT, v32 a0.va, v32 a0.ec, vb a0.hO, v8 a0.ki, v8 a0.ni, v8 a0.m.x0, v8 a0.m.x1, v8 a0.m.x2, v8 a0.m.x3, v8 a0.m.x4, v8 a0.m.x5, v8 a0.m.x6, v8 a0.m.x7, v8 a0.m.x8, v8 a0.m.x9, v8 a0.m.x10, v8 a0.m.x11]) (a := ⟨g1, 0, none⟩) (by kernel_rfl) (by kernel_rfl) (at_blk (j := 0) rfl rfl)) ?_
                          obtain ⟨t1, hx1, hm⟩ := bind_some hm
                          refine o_stp ?_ (by kernel_rfl)
                          refine s_call 67 53 #[.agg #[vb a0.hM, v16 a0.ms, vb a0.hS, v8 a0.sc, vb a0.sO, .slice none 0 0, vb a0.hT, v32 a0.va, v32 a0.ec, vb a0.hO, v8 a0.ki, v8 a0.ni, v8 a0.m.x0, v8 a0.m.x1, v8 a0.m.x2, v8 a0.m.x3, v8 a0.m.x4, v8 a0.m.x5, v8 a0.m.x6, v8 a0.m.x7, v8 a0.m.x8, v8 a0.m.x9, v8 a0.m.x10, v8 a0.m.x11]] [] [0] (by kernel_rfl) (by kernel_rfl) (fun w hs => opts_Size_ok a0 t1 hx1 B _ w (St.cast (by kernel_rfl) hs)) (fun _ hx => ?_)
                          refine t_L (L' := [.blk g1 [vb a0.hM, v16 a0.ms, vb a0.hS, v8 a0.sc, vb a0.sO, .slice none 0 0, vb a0.hT, v32 a0.va, v32 a0.ec, vb a0.hO, v8 a0.ki, v8 a0.ni, v8 a0.m.x0, v8 a0.m.x1, v8 a0.m.x2, v8 a0.m.x3, v8 a0.m.x4, v8 a0.m.x5, v8 a0.m.x6, v8 a0.m.x7, v8 a0.m.x8, v8 a0.m.x9, v8 a0.m.x10, v8 a0.m.x11] 31]) (by kernel_rfl) ?_
                          refine o_run 3 [2] (l := []) .nil (E' := [(2, vb (decide (t1 ≤ 40)))]) (by kernel_rfl) ?_
                          refine o_end (by kernel_rfl) ?_
                          refine e_seq ?_
                          refine w_ret (by kernel_rfl) ?_
                          obtain rfl := Option.some.inj hm
                          exact e_retP () (vb (decide (t1 ≤ 40))) [] (by kernel_rfl) (by kernel_rfl) rfl (by kernel_rfl) (by kernel_rfl) trivial
                  · replace hm := ite_f hb9 hm
                    refine o_run 16 [1, 41] (l := []) .nil (E' := [(1, (pg g1)), (41, vb false)]) (by kernel_rfl) ?_
                    refine o_end (by kernel_rfl) ?_
                    refine e_seq ?_
                    refine w_cond_f (.tmp 41) 830 831 (by kernel_rfl) (by kernel_rfl) ?_
                    refine w_skip (by kernel_rfl) ?_
                    refine e_blk ?_
                    refine e_seq ?_
                    refine w_seq 14 15 (by kernel_rfl) ?_
                    refine w_region (by kernel_rfl) ?_
                    refine o_run 5 [1, 65] (l := [(⟨g1, 5, none⟩, .slice none 0 0)]) (.one (at_blk (j := 0) rfl rfl) .nil) (E' := [(1, (pg g1)), (65, vb true)]) (by kernel_rfl) ?_
                    refine o_val 66 (.load 31 (.tmp 1)) (.agg #[vb a0.hM, v16 a0.ms, vb a0.hS, v8 a0.sc, vb a0.sO, .slice none 0 0, vb a0.hT, v32 a0.va, v32 a0.ec, vb a0.hO, v8 a0.ki, v8 a0.ni, v8 a0.m.x0, v8 a0.m.x1, v8 a0.m.x2, v8 a0.m.x3, v8 a0.m.x4, v8 a0.m.x5, v8 a0.m.x6, v8 a0.m.x7, v8 a0.m.x8, v8 a0.m.x9, v8 a0.m.x10, v8 a0.m.x11]) (by kernel_rfl) (v_load (l := [vb a0.hM, v16 a0.ms, vb a0.hS, v8 a0.sc, vb a0.sO, .slice none 0 0, vb a0.hT, v32 a0.va, v32 a0.ec, vb a0.hO, v8 a0.ki, v8 a0.ni, v8 a0.m.x0, v8 a0.m.x1, v8 a0.m.x2, v8 a0.m.x3, v8 a0.m.x4, v8 a0.m.x5, v8 a0.m.x6, v8 a0.m.x7, v8 a0.m.x8, v8 a0.m.x9, v8 a0.m.x10, v8 a0.m.x11]) (a := ⟨g1, 0, none⟩) (by kernel_rfl) (by kernel_rfl) (at_blk (j := 0) rfl rfl)) ?_
                    obtain ⟨t2, hx2, hm⟩ := bind_some hm
                    refine o_stp ?_ (by kernel_rfl)
                    refine s_call 67 53 #[.agg #[vb a0.hM, v16 a0.ms, vb a0.hS, v8 a0.sc, vb a0.sO, .slice none 0 0, vb a0.hT, v32 a0.va, v32 a0.ec, vb a0.hO, v8 a0.ki, v8 a0.ni, v8 a0.m.x0, v8 a0.m.x1, v8 a0.m.x2, v8 a0.m.x3, v8 a0.m.x4, v8 a0.m.x5, v8 a0.m.x6, v8 a0.m.x7, v8 a0.m.x8, v8 a0.m.x9, v8 a0.m.x10, v8 a0.m.x11]] [] [0] (by kernel_rfl) (by kernel_rfl) (fun w hs => opts_Size_ok a0 t2 hx2 B _ w (St.cast (by kernel_rfl) hs)) (fun _ hx => ?_)
                    refine t_L (L' := [.blk g1 [vb a0.hM, v16 a0.ms, vb a0.hS, v8 a0.sc, vb a0.sO, .slice none 0 0, vb a0.hT, v32 a0.va, v32 a0.ec, vb a0.hO, v8 a0.ki, v8 a0.ni, v8 a0.m.x0, v8 a0.m.x1, v8 a0.m.x2, v8 a0.m.x3, v8 a0.m.x4, v8 a0.m.x5, v8 a0.m.x6, v8 a0.m.x7, v8 a0.m.x8, v8 a0.m.x9, v8 a0.m.x10, v8 a0.m.x11] 31]) (by kernel_rfl) ?_
                    refine o_run 3 [2] (l := []) .nil (E' := [(2, vb (decide (t2 ≤ 40)))]) (by kernel_rfl) ?_
                    refine o_end (by kernel_rfl) ?_
                    refine e_seq ?_
                    refine w_ret (by kernel_rfl) ?_
                    obtain rfl := Option.some.inj hm
                    exact e_retP () (vb (decide (t2 ≤ 40))) [] (by kernel_rfl) (by kernel_rfl) rfl (by kernel_rfl) (by kernel_rfl) trivial
            · replace hm := ite_f hb6 hm
              refine o_run 10 [1, 27] (l := []) .nil (E' := [(1, (pg g1)), (27, vb false)]) (by kernel_rfl) ?_
              refine o_end (by kernel_rfl) ?_
              refine e_seq ?_
              refine w_cond_f (.tmp 27) 206 207 (by kernel_rfl) (by kernel_rfl) ?_
              refine w_seq 414 415 (by kernel_rfl) ?_
              refine w_region (by kernel_rfl) ?_
              refine o_run 4 [1, 45] (l := [(⟨g1, 9, none⟩, vb a0.hO)]) (.one (at_blk (j := 0) rfl rfl) .nil) (E' := [(1, (pg g1)), (45, vb (!a0.hO))]) (by kernel_rfl) ?_
              refine o_split 45 (!a0.hO) (by kernel_rfl) (fun hb13 => ?_) (fun hb13 => ?_)
              · replace hm := ite_t hb13 hm
                refine o_run 4 [1, 45, 49] (l := [(⟨g1, 10, none⟩, v8 a0.ki)]) (.one (at_blk (j := 0) rfl rfl) .nil) (E' := [(1, (pg g1)), (45, vb true), (49, vb (a0.ki != 0))]) (by kernel_rfl) ?_
                refine o_split 49 (a0.ki != 0) (by kernel_rfl) (fun hb14 => ?_) (fun hb14 => ?_)
                · replace hm := ite_t hb14 hm
                  refine o_run 12 [1, 41] (l := []) .nil (E' := [(1, (pg g1)), (41, vb true)]) (by kernel_rfl) ?_
                  refine o_end (by kernel_rfl) ?_
                  refine e_seq ?_
                  refine w_cond_t (.tmp 41) 830 831 (by kernel_rfl) (by kernel_rfl) ?_
                  refine w_seq 1660 1661 (by kernel_rfl) ?_
                  refine w_region (by kernel_rfl) ?_
                  refine o_run 1 [2] (l := []) .nil (E' := [(2, vb false)]) (by kernel_rfl) ?_
                  refine o_end (by kernel_rfl) ?_
                  refine e_seq ?_
                  refine w_ret (by kernel_rfl) ?_
                  obtain rfl := Option.some.inj hm
                  exact e_retP () (vb false) [] (by kernel_rfl) (by kernel_rfl) rfl (by kernel_rfl) (by kernel_rfl) trivial
                · replace hm := ite_f hb14 hm
                  refine o_run 5 [1, 45, 54] (l := [(⟨g1, 11, none⟩, v8 a0.ni)]) (.one (at_blk (j := 0) rfl rfl) .nil) (E' := [(1, (pg g1)), (45, vb true), (54, vb (a0.ni != 0))]) (by kernel_rfl) ?_
                  refine o_split 54 (a0.ni != 0) (by kernel_rfl) (fun hb15 => ?_) (fun hb15 => ?_)
                  · replace hm := ite_t hb15 hm
                    refine o_run 7 [1, 41] (l := []) .nil (E' := [(1, (pg g1)), (41, vb true)]) (by kernel_rfl) ?_
                    refine o_end (by kernel_rfl) ?_
                    refine e_seq ?_
                    refine w_cond_t (.tmp 41) 830 831 (by kernel_rfl) (by kernel_rfl) ?_
                    refine w_seq 1660 1661 (by kernel_rfl) ?_
                    refine w_region (by kernel_rfl) ?_
                    refine o_run 1 [2] (l := []) .nil (E' := [(2, vb false)]) (by kernel_rfl) ?_
                    refine o_end (by kernel_rfl) ?_
                    refine e_seq ?_
                    refine w_ret (by kernel_rfl) ?_
                    obtain rfl := Option.some.inj hm
                    exact e_retP () (vb false) [] (by kernel_rfl) (by kernel_rfl) rfl (by kernel_rfl) (by kernel_rfl) trivial
                  · replace hm := ite_f hb15 hm
                    refine o_run 1 [1, 45, 54, 55] (l := []) .nil (E' := [(1, (pg g1)), (45, vb true), (54, vb false), (55, .pointer (some ⟨g1, 12, none⟩))]) (by kernel_rfl) ?_
                    refine o_val 56 (.load 29 (.tmp 55)) (.agg #[v8 a0.m.x0, v8 a0.m.x1, v8 a0.m.x2, v8 a0.m.x3, v8 a0.m.x4, v8 a0.m.x5, v8 a0.m.x6, v8 a0.m.x7, v8 a0.m.x8, v8 a0.m.x9, v8 a0.m.x10, v8 a0.m.x11]) (by kernel_rfl) (v_load (l := [v8 a0.m.x0, v8 a0.m.x1, v8 a0.m.x2, v8 a0.m.x3, v8 a0.m.x4, v8 a0.m.x5, v8 a0.m.x6, v8 a0.m.x7, v8 a0.m.x8, v8 a0.m.x9, v8 a0.m.x10, v8 a0.m.x11]) (a := ⟨g1, 12, none⟩) (by kernel_rfl) (by kernel_rfl) (at_blk (j := 0) rfl rfl)) ?_
                    refine o_run 1 [1, 45, 54, 56, 57] (l := []) .nil (E' := [(1, (pg g1)), (45, vb true), (54, vb false), (56, .agg #[v8 a0.m.x0, v8 a0.m.x1, v8 a0.m.x2, v8 a0.m.x3, v8 a0.m.x4, v8 a0.m.x5, v8 a0.m.x6, v8 a0.m.x7, v8 a0.m.x8, v8 a0.m.x9, v8 a0.m.x10, v8 a0.m.x11]), (57, .agg #[v8 0, v8 0, v8 0, v8 0, v8 0, v8 0, v8 0, v8 0, v8 0, v8 0, v8 0, v8 0])]) (by kernel_rfl) ?_
                    refine o_val 58 (.binOp .neq 29 (.tmp 56) (.tmp 57) 29) (vb (!((a0.m.x0 == 0) && ((a0.m.x1 == 0) && ((a0.m.x2 == 0) && ((a0.m.x3 == 0) && ((a0.m.x4 == 0) && ((a0.m.x5 == 0) && ((a0.m.x6 == 0) && ((a0.m.x7 == 0) && ((a0.m.x8 == 0) && ((a0.m.x9 == 0) && ((a0.m.x10 == 0) && (a0.m.x11 == 0)))))))))))))) (by kernel_rfl) (v_neS (xs := #[v8 a0.m.x0, v8 a0.m.x1, v8 a0.m.x2, v8 a0.m.x3, v8 a0.m.x4, v8 a0.m.x5, v8 a0.m.x6, v8 a0.m.x7, v8 a0.m.x8, v8 a0.m.x9, v8 a0.m.x10, v8 a0.m.x11]) (ys := #[v8 0, v8 0, v8 0, v8 0, v8 0, v8 0, v8 0, v8 0, v8 0, v8 0, v8 0, v8 0]) (b := ((a0.m.x0 == 0) && ((a0.m.x1 == 0) && ((a0.m.x2 == 0) && ((a0.m.x3 == 0) && ((a0.m.x4 == 0) && ((a0.m.x5 == 0) && ((a0.m.x6 == 0) && ((a0.m.x7 == 0) && ((a0.m.x8 == 0) && ((a0.m.x9 == 0) && ((a0.m.x10 == 0) && (a0.m.x11 == 0))))))))))))) (by kernel_rfl) (by kernel_rfl) (by kernel_rfl) (by kernel_rfl)) ?_
                    refine o_run 3 [1, 41] (l := []) .nil (E' := [(1, (pg g1)), (41, vb (!((a0.m.x0 == 0) && ((a0.m.x1 == 0) && ((a0.m.x2 == 0) && ((a0.m.x3 == 0) && ((a0.m.x4 == 0) && ((a0.m.x5 == 0) && ((a0.m.x6 == 0) && ((a0.m.x7 == 0) && ((a0.m.x8 == 0) && ((a0.m.x9 == 0) && ((a0.m.x10 == 0) && (a0.m.x11 == 0))))))))))))))]) (by kernel_rfl) ?_
                    refine o_end (by kernel_rfl) ?_
                    refine e_seq ?_
                    refine w_cond (.tmp 41) 830 831 (!((a0.m.x0 == 0) && ((a0.m.x1 == 0) && ((a0.m.x2 == 0) && ((a0.m.x3 == 0) && ((a0.m.x4 == 0) && ((a0.m.x5 == 0) && ((a0.m.x6 == 0) && ((a0.m.x7 == 0) && ((a0.m.x8 == 0) && ((a0.m.x9 == 0) && ((a0.m.x10 == 0) && (a0.m.x11 == 0))))))))))))) (by kernel_rfl) (by kernel_rfl) (fun hb16 => ?_) (fun hb16 => ?_)
                    · replace hm := ite_t hb16 hm
                      refine w_seq 1660 1661 (by kernel_rfl) ?_
                      refine w_region (by kernel_rfl) ?_
                      refine o_run 1 [2] (l := []) .nil (E' := [(2, vb false)]) (by kernel_rfl) ?_
                      refine o_end (by kernel_rfl) ?_
                      refine e_seq ?_
                      refine w_ret (by kernel_rfl) ?_
                      obtain rfl := Option.some.inj hm
                      exact e_retP () (vb false) [] (by kernel_rfl) (by kernel_rfl) rfl (by kernel_rfl) (by kernel_rfl) trivial
                    · replace hm := ite_f hb16 hm
                      refine w_skip (by kernel_rfl) ?_
                      refine e_blk ?_
                      refine e_seq ?_
                      refine w_seq 14 15 (by kernel_rfl) ?_
                      refine w_region (by kernel_rfl) ?_
                      refine o_run 5 [1, 65] (l := [(⟨g1, 5, none⟩, .slice none 0 0)]) (.one (at_blk (j := 0) rfl rfl) .nil) (E' := [(1, (pg g1)), (65, vb true)]) (by kernel_rfl) ?_
                      refine o_val 66 (.load 31 (.tmp 1)) (.agg #[vb a0.hM, v16 a0.ms, vb a0.hS, v8 a0.sc, vb a0.sO, .slice none 0 0, vb a0.hT, v32 a0.va, v32 a0.ec, vb a0.hO, v8 a0.ki, v8 a0.ni, v8 a0.m.x0, v8 a0.m.x1, v8 a0.m.x2, v8 a0.m.x3, v8 a0.m.x4, v8 a0.m.x5, v8 a0.m.x6, v8 a0.m.x7, v8 a0.m.x8, v8 a0.m.x9, v8 a0.m.x10, v8 a0.m.x11]) (by kernel_rfl) (v_load (l := [vb a0.hM, v16 a0.ms, vb a0.hS, v8 a0.sc, vb a0.sO, .slice none 0 0, vb a0.hT, v32 a0.va, v32 a0.ec, vb a0.hO, v8 a0.ki, v8 a0.ni, v8 a0.m.x0, v8 a0.m.x1, v8 a0.m.x2, v8 a0.m.x3, v8 a0.m.x4, v8 a0.m.x5, v8 a0.m.x6, v8 a0.m.x7, v8 a0.m.x8, v8 a0.m.x9, v8 a0.m.x10, v8 a0.m.x11]) (a := ⟨g1, 0, none⟩) (by kernel_rfl) (by kernel_rfl) (at_blk (j := 0) rfl rfl)) ?_
                      obtain ⟨t3, hx3, hm⟩ := bind_some hm
                      refine o_stp ?_ (by kernel_rfl)
                      refine s_call 67 53 #[.agg #[vb a0.hM, v16 a0.ms, vb a0.hS, v8 a0.sc, vb a0.sO, .slice none 0 0, vb a0.hT, v32 a0.va, v32 a0.ec, vb a0.hO, v8 a0.ki, v8 a0.ni, v8 a0.m.x0, v8 a0.m.x1, v8 a0.m.x2, v8 a0.m.x3, v8 a0.m.x4, v8 a0.m.x5, v8 a0.m.x6, v8 a0.m.x7, v8 a0.m.x8, v8 a0.m.x9, v8 a0.m.x10, v8 a0.m.x11]] [] [0] (by kernel_rfl) (by kernel_rfl) (fun w hs => opts_Size_ok a0 t3 hx3 B _ w (St.cast (by kernel_rfl) hs)) (fun _ hx => ?_)
                      refine t_L (L' := [.blk g1 [vb a0.hM, v16 a0.ms, vb a0.hS, v8 a0.sc, vb a0.sO, .slice none 0 0, vb a0.hT, v32 a0.va, v32 a0.ec, vb a0.hO, v8 a0.ki, v8 a0.ni, v8 a0.m.x0, v8 a0.m.x1, v8 a0.m.x2, v8 a0.m.x3, v8 a0.m.x4, v8 a0.m.x5, v8 a0.m.x6, v8 a0.m.x7, v8 a0.m.x8, v8 a0.m.x9, v8 a0.m.x10, v8 a0.m.x11] 31]) (by kernel_rfl) ?_
                      refine o_run 3 [2] (l := []) .nil (E' := [(2, vb (decide (t3 ≤ 40)))]) (by kernel_rfl) ?_
                      refine o_end (by kernel_rfl) ?_
                      refine e_seq ?_
                      refine w_ret (by kernel_rfl) ?_
                      obtain rfl := Option.some.inj hm
                      exact e_retP () (vb (decide (t3 ≤ 40))) [] (by kernel_rfl) (by kernel_rfl) rfl (by kernel_rfl) (by kernel_rfl) trivial
              · replace hm := ite_f hb13 hm
                refine o_run 16 [1, 41] (l := []) .nil (E' := [(1, (pg g1)), (41, vb false)]) (by kernel_rfl) ?_
                refine o_end (by kernel_rfl) ?_
                refine e_seq ?_
                refine w_cond_f (.tmp 41) 830 831 (by kernel_rfl) (by kernel_rfl) ?_
                refine w_skip (by kernel_rfl) ?_
                refine e_blk ?_
                refine e_seq ?_
                refine w_seq 14 15 (by kernel_rfl) ?_
                refine w_region (by kernel_rfl) ?_
                refine o_run 5 [1, 65] (l := [(⟨g1, 5, none⟩, .slice none 0 0)]) (.one (at_blk (j := 0) rfl rfl) .nil) (E' := [(1, (pg g1)), (65, vb true)]) (by kernel_rfl) ?_
                refine o_val 66 (.load 31 (.tmp 1)) (.agg #[vb a0.hM, v16 a0.ms, vb a0.hS, v8 a0.sc, vb a0.sO, .slice none 0 0, vb a0.hT, v32 a0.va, v32 a0.ec, vb a0.hO, v8 a0.ki, v8 a0.ni, v8 a0.m.x0, v8 a0.m.x1, v8 a0.m.x2, v8 a0.m.x3, v8 a0.m.x4, v8 a0.m.x5, v8 a0.m.x6, v8 a0.m.x7, v8 a0.m.x8, v8 a0.m.x9, v8 a0.m.x10, v8 a0.m.x11]) (by kernel_rfl) (v_load (l := [vb a0.hM, v16 a0.ms, vb a0.hS, v8 a0.sc, vb a0.sO, .slice none 0 0, vb a0.hT, v32 a0.va, v32 a0.ec, vb a0.hO, v8 a0.ki, v8 a0.ni, v8 a0.m.x0, v8 a0.m.x1, v8 a0.m.x2, v8 a0.m.x3, v8 a0.m.x4, v8 a0.m.x5, v8 a0.m.x6, v8 a0.m.x7, v8 a0.m.x8, v8 a0.m.x9, v8 a0.m.x10, v8 a0.m.x11]) (a := ⟨g1, 0, none⟩) (by kernel_rfl) (by kernel_rfl) (at_blk (j := 0) rfl rfl)) ?_
                obtain ⟨t4, hx4, hm⟩ := bind_some hm
                refine o_stp ?_ (by kernel_rfl)
                refine s_call 67 53 #[.agg #[vb a0.hM, v16 a0.ms, vb a0.hS, v8 a0.sc, vb a0.sO, .slice none 0 0, vb a0.hT, v32 a0.va, v32 a0.ec, vb a0.hO, v8 a0.ki, v8 a0.ni, v8 a0.m.x0, v8 a0.m.x1, v8 a0.m.x2, v8 a0.m.x3, v8 a0.m.x4, v8 a0.m.x5, v8 a0.m.x6, v8 a0.m.x7, v8 a0.m.x8, v8 a0.m.x9, v8 a0.m.x10, v8 a0.m.x11]] [] [0] (by kernel_rfl) (by kernel_rfl) (fun w hs => opts_Size_ok a0 t4 hx4 B _ w (St.cast (by kernel_rfl) hs)) (fun _ hx => ?_)
                refine t_L (L' := [.blk g1 [vb a0.hM, v16 a0.ms, vb a0.hS, v8 a0.sc, vb a0.sO, .slice none 0 0, vb a0.hT, v32 a0.va, v32 a0.ec, vb a0.hO, v8 a0.ki, v8 a0.ni, v8 a0.m.x0, v8 a0.m.x1, v8 a0.m.x2, v8 a0.m.x3, v8 a0.m.x4, v8 a0.m.x5, v8 a0.m.x6, v8 a0.m.x7, v8 a0.m.x8, v8 a0.m.x9, v8 a0.m.x10, v8 a0.m.x11] 31]) (by kernel_rfl) ?_
                refine o_run 3 [2] (l := []) .nil (E' := [(2, vb (decide (t4 ≤ 40)))]) (by kernel_rfl) ?_
                refine o_end (by kernel_rfl) ?_
                refine e_seq ?_
                refine w_ret (by kernel_rfl) ?_
                obtain rfl := Option.some.inj hm
                exact e_retP () (vb (decide (t4 ≤ 40))) [] (by kernel_rfl) (by kernel_rfl) rfl (by kernel_rfl) (by kernel_rfl) trivial
      · replace hm := ite_f hb3 hm
        refine o_run 11 [1, 3] (l := [(⟨g1, 3, none⟩, v8 a0.sc)]) (.one (at_blk (j := 0) rfl rfl) .nil) (E' := [(1, (pg g1)), (3, vb (decide (a0.sc > 14)))]) (by kernel_rfl) ?_
        refine o_end (by kernel_rfl) ?_
        refine e_seq ?_
        refine w_cond (.tmp 3) 50 51 (decide (a0.sc > 14)) (by kernel_rfl) (by kernel_rfl) (fun hb17 => ?_) (fun hb17 => ?_)
        · replace hm := ite_t hb17 hm
          refine w_seq 100 101 (by kernel_rfl) ?_
          refine w_region (by kernel_rfl) ?_
          refine o_run 1 [2] (l := []) .nil (E' := [(2, vb false)]) (by kernel_rfl) ?_
          refine o_end (by kernel_rfl) ?_
          refine e_seq ?_
          refine w_ret (by kernel_rfl) ?_
          obtain rfl := Option.some.inj hm
          exact e_retP () (vb false) [] (by kernel_rfl) (by kernel_rfl) rfl (by kernel_rfl) (by kernel_rfl) trivial
        · replace hm := ite_f hb17 hm
          refine w_seq 102 103 (by kernel_rfl) ?_
          refine w_region (by kernel_rfl) ?_
          refine o_run 4 [1, 31] (l := [(⟨g1, 6, none⟩, vb a0.hT)]) (.one (at_blk (j := 0) rfl rfl) .nil) (E' := [(1, (pg g1)), (31, vb (!a0.hT))]) (by kernel_rfl) ?_
          refine o_split 31 (!a0.hT) (by kernel_rfl) (fun hb18 => ?_) (fun hb18 => ?_)
          · replace hm := ite_t hb18 hm
            refine o_run 4 [1, 31, 35] (l := [(⟨g1, 7, none⟩, v32 a0.va)]) (.one (at_blk (j := 0) rfl rfl) .nil) (E' := [(1, (pg g1)), (31, vb true), (35, vb (a0.va != 0))]) (by kernel_rfl) ?_
            refine o_split 35 (a0.va != 0) (by kernel_rfl) (fun hb19 => ?_) (fun hb19 => ?_)
            · replace hm := ite_t hb19 hm
              refine o_run 6 [1, 27] (l := []) .nil (E' := [(1, (pg g1)), (27, vb true)]) (by kernel_rfl) ?_
              refine o_end (by kernel_rfl) ?_
              refine e_seq ?_
              refine w_cond_t (.tmp 27) 206 207 (by kernel_rfl) (by kernel_rfl) ?_
              refine w_seq 412 413 (by kernel_rfl) ?_
              refine w_region (by kernel_rfl) ?_
              refine o_run 1 [2] (l := []) .nil (E' := [(2, vb false)]) (by kernel_rfl) ?_
              refine o_end (by kernel_rfl) ?_
              refine e_seq ?_
              refine w_ret (by kernel_rfl) ?_
              obtain rfl := Option.some.inj hm
              exact e_retP () (vb false) [] (by kernel_rfl) (by kernel_rfl) rfl (by kernel_rfl) (by kernel_rfl) trivial
            · replace hm := ite_f hb19 hm
              refine o_run 6 [1, 27] (l := [(⟨g1, 8, none⟩, v32 a0.ec)]) (.one (at_blk (j := 0) rfl rfl) .nil) (E' := [(1, (pg g1)), (27, vb (a0.ec != 0))]) (by kernel_rfl) ?_
              refine o_end (by kernel_rfl) ?_
              refine e_seq ?_
              refine w_cond (.tmp 27) 206 207 (a0.ec != 0) (by kernel_rfl) (by kernel_rfl) (fun hb20 => ?_) (fun hb20 => ?_)
              · replace hm := ite_t hb20 hm
                refine w_seq 412 413 (by kernel_rfl) ?_
                refine w_region (by kernel_rfl) ?_
                refine o_run 1 [2] (l := []) .nil (E' := [(2, vb false)]) (by kernel_rfl) ?_
                refine o_end (by kernel_rfl) ?_
                refine e_seq ?_
                refine w_ret (by kernel_rfl) ?_
                obtain rfl := Option.some.inj hm
                exact e_retP () (vb false) [] (by kernel_rfl) (by kernel_rfl) rfl (by kernel_rfl) (by kernel_rfl) trivial
              · replace hm := ite_f hb20 hm
                refine w_seq 414 415 (by kernel_rfl) ?_
                refine w_region (by kernel_rfl) ?_
                refine o_run 4 [1, 45] (l := [(⟨g1, 9, none⟩, vb a0.hO)]) (.one (at_blk (j := 0) rfl rfl) .nil) (E' := [(1, (pg g1)), (45, vb (!a0.hO))]) (by kernel_rfl) ?_
                refine o_split 45 (!a0.hO) (by kernel_rfl) (fun hb21 => ?_) (fun hb21 => ?_)
                · replace hm := ite_t hb21 hm
                  refine o_run 4 [1, 45, 49] (l := [(⟨g1, 10, none⟩, v8 a0.ki)]) (.one (at_blk (j := 0) rfl rfl) .nil) (E' := [(1, (pg g1)), (45, vb true), (49, vb (a0.ki != 0))]) (by kernel_rfl) ?_
                  refine o_split 49 (a0.ki != 0) (by kernel_rfl) (fun hb22 => ?_) (fun hb22 => ?_)
                  · replace hm := ite_t hb22 hm
                    refine o_run 12 [1, 41] (l := []) .nil (E' := [(1, (pg g1)), (41, vb true)]) (by kernel_rfl) ?_
                    refine o_end (by kernel_rfl) ?_
                    refine e_seq ?_
                    refine w_cond_t (.tmp 41) 830 831 (by kernel_rfl) (by kernel_rfl) ?_
                    refine w_seq 1660 1661 (by kernel_rfl) ?_
                    refine w_region (by kernel_rfl) ?_
                    refine o_run 1 [2] (l := []) .nil (E' := [(2, vb false)]) (by kernel_rfl) ?_
                    refine o_end (by kernel_rfl) ?_
                    refine e_seq ?_
                    refine w_ret (by kernel_rfl) ?_
                    obtain rfl := Option.some.inj hm
                    exact e_retP () (vb false) [] (by kernel_rfl) (by kernel_rfl) rfl (by kernel_rfl) (by kernel_rfl) trivial
                  · replace hm := ite_f hb22 hm
                    refine o_run 5 [1, 45, 54] (l := [(⟨g1, 11, none⟩, v8 a0.ni)]) (.one (at_blk (j := 0) rfl rfl) .nil) (E' := [(1, (pg g1)), (45, vb true), (54, vb (a0.ni != 0))]) (by kernel_rfl) ?_
                    refine o_split 54 (a0.ni != 0) (by kernel_rfl) (fun hb23 => ?_) (fun hb23 => ?_)
                    · replace hm := ite_t hb23 hm
                      refine o_run 7 [1, 41] (l := []) .nil (E' := [(1, (pg g1)), (41, vb true)]) (by kernel_rfl) ?_
                      refine o_end (by kernel_rfl) ?_
                      refine e_seq ?_
                      refine w_cond_t (.tmp 41) 830 831 (by kernel_rfl) (by kernel_rfl) ?_
                      refine w_seq 1660 1661 (by kernel_rfl) ?_
                      refine w_region (by kernel_rfl) ?_
                      refine o_run 1 [2] (l := []) .nil (E' := [(2, vb false)]) (by kernel_rfl) ?_
                      refine o_end (by kernel_rfl) ?_
                      refine e_seq ?_
                      refine w_ret (by kernel_rfl) ?_
                      obtain rfl := Option.some.inj hm
                      exact e_retP () (vb false) [] (by kernel_rfl) (by kernel_rfl) rfl (by kernel_rfl) (by kernel_rfl) trivial
                    · replace hm := ite_f hb23 hm
                      refine o_run 1 [1, 45, 54, 55] (l := []) .nil (E' := [(1, (pg g1)), (45, vb true), (54, vb false), (55, .pointer (some ⟨g1, 12, none⟩))]) (by kernel_rfl) ?_
                      refine o_val 56 (.load 29 (.tmp 55)) (.agg #[v8 a0.m.x0, v8 a0.m.x1, v8 a0.m.x2, v8 a0.m.x3, v8 a0.m.x4, v8 a0.m.x5, v8 a0.m.x6, v8 a0.m.x7, v8 a0.m.x8, v8 a0.m.x9, v8 a0.m.x10, v8 a0.m.x11]) (by kernel_rfl) (v_load (l := [v8 a0.m.x0, v8 a0.m.x1, v8 a0.m.x2, v8 a0.m.x3, v8 a0.m.x4, v8 a0.m.x5, v8 a0.m.x6, v8 a0.m.x7, v8 a0.m.x8, v8 a0.m.x9, v8 a0.m.x10, v8 a0.m.x11]) (a := ⟨g1, 12, none⟩) (by kernel_rfl) (by kernel_rfl) (at_blk (j := 0) rfl rfl)) ?_
                      refine o_run 1 [1, 45, 54, 56, 57] (l := []) .nil (E' := [(1, (pg g1)), (45, vb true), (54, vb false), (56, .agg #[v8 a0.m.x0, v8 a0.m.x1, v8 a0.m.x2, v8 a0.m.x3, v8 a0.m.x4, v8 a0.m.x5, v8 a0.m.x6, v8 a0.m.x7, v8 a0.m.x8, v8 a0.m.x9, v8 a0.m.x10, v8 a0.m.x11]), (57, .agg #[v8 0, v8 0, v8 0, v8 0, v8 0, v8 0, v8 0, v8 0, v8 0, v8 0, v8 0, v8 0])]) (by kernel_rfl) ?_
                      refine o_val 58 (.binOp .neq 29 (.tmp 56) (.tmp 57) 29) (vb (!((a0.m.x0 == 0) && ((a0.m.x1 == 0) && ((a0.m.x2 == 0) && ((a0.m.x3 == 0) && ((a0.m.x4 == 0) && ((a0.m.x5 == 0) && ((a0.m.x6 == 0) && ((a0.m.x7 == 0) && ((a0.m.x8 == 0) && ((a0.m.x9 == 0) && ((a0.m.x10 == 0) && (a0.m.x11 == 0)))))))))))))) (by kernel_rfl) (v_neS (xs := #[v8 a0.m.x0, v8 a0.m.x1, v8 a0.m.x2, v8 a0.m.x3, v8 a0.m.x4, v8 a0.m.x5, v8 a0.m.x6, v8 a0.m.x7, v8 a0.m.x8, v8 a0.m.x9, v8 a0.m.x10, v8 a0.m.x11]) (ys := #[v8 0, v8 0, v8 0, v8 0, v8 0, v8 0, v8 0, v8 0, v8 0, v8 0, v8 0, v8 0]) (b := ((a0.m.x0 == 0) && ((a0.m.x1 == 0) && ((a0.m.x2 == 0) && ((a0.m.x3 == 0) && ((a0.m.x4 == 0) && ((a0.m.x5 == 0) && ((a0.m.x6 == 0) && ((a0.m.x7 == 0) && ((a0.m.x8 == 0) && ((a0.m.x9 == 0) && ((a0.m.x10 == 0) && (a0.m.x11 == 0))))))))))))) (by kernel_rfl) (by kernel_rfl) (by kernel_rfl) (by kernel_rfl)) ?_
                      refine o_run 3 [1, 41] (l := []) .nil (E' := [(1, (pg g1)), (41, vb (!((a0.m.x0 == 0) && ((a0.m.x1 == 0) && ((a0.m.x2 == 0) && ((a0.m.x3 == 0) && ((a0.m.x4 == 0) && ((a0.m.x5 == 0) && ((a0.m.x6 == 0) && ((a0.m.x7 == 0) && ((a0.m.x8 == 0) && ((a0.m.x9 == 0) && ((a0.m.x10 == 0) && (a0.m.x11 == 0))))))))))))))]) (by kernel_rfl) ?_
                      refine o_end (by kernel_rfl) ?_
                      refine e_seq ?_
                      refine w_cond (.tmp 41) 830 831 (!((a0.m.x0 == 0) && ((a0.m.x1 == 0) && ((a0.m.x2 == 0) && ((a0.m.x3 == 0) && ((a0.m.x4 == 0) && ((a0.m.x5 == 0) && ((a0.m.x6 == 0) && ((a0.m.x7 == 0) && ((a0.m.x8 == 0) && ((a0.m.x9 == 0) && ((a0.m.x10 == 0) && (a0.m.x11 == 0))))))))))))) (by kernel_rfl) (by kernel_rfl) (fun hb24 => ?_) (fun hb24 => ?_)
                      · replace hm := ite_t hb24 hm
                        refine w_seq 1660 1661 (by kernel_rfl) ?_
                        refine w_region (by kernel_rfl) ?_
                        refine o_run 1 [2] (l := []) .nil (E' := [(2, vb false)]) (by kernel_rfl) ?_
                        refine o_end (by kernel_rfl) ?_
                        refine e_seq ?_
                        refine w_ret (by kernel_rfl) ?_
                        obtain rfl := Option.some.inj hm
                        exact e_retP () (vb false) [] (by kernel_rfl) (by kernel_rfl) rfl (by kernel_rfl) (by kernel_rfl) trivial
                      · replace hm := ite_f hb24 hm
                        refine w_skip (by kernel_rfl) ?_
                        refine e_blk ?_
                        refine e_seq ?_
                        refine w_seq 14 15 (by kernel_rfl) ?_
                        refine w_region (by kernel_rfl) ?_
                        refine o_run 5 [1, 65] (l := [(⟨g1, 5, none⟩, .slice none 0 0)]) (.one (at_blk (j := 0) rfl rfl) .nil) (E' := [(1, (pg g1)), (65, vb true)]) (by kernel_rfl) ?_
                        refine o_val 66 (.load 31 (.tmp 1)) (.agg #[vb a0.hM, v16 a0.ms, vb a0.hS, v8 a0.sc, vb a0.sO, .slice none 0 0, vb a0.hT, v32 a0.va, v32 a0.ec, vb a0.hO, v8 a0.ki, v8 a0.ni, v8 a0.m.x0, v8 a0.m.x1, v8 a0.m.x2, v8 a0.m.x3, v8 a0.m.x4, v8 a0.m.x5, v8 a0.m.x6, v8 a0.m.x7, v8 a0.m.x8, v8 a0.m.x9, v8 a0.m.x10, v8 a0.m.x11]) (by kernel_rfl) (v_load (l := [vb a0.hM, v16 a0.ms, vb a0.hS, v8 a0.sc, vb a0.sO, .slice none 0 0, vb a0.hT, v32 a0.va, v32 a0.ec, vb a0.hO, v8 a0.ki, v8 a0.ni, v8 a0.m.x0, v8 a0.m.x1, v8 a0.m.x2, v8 a0.m.x3, v8 a0.m.x4, v8 a0.m.x5, v8 a0.m.x6, v8 a0.m.x7, v8 a0.m.x8, v8 a0.m.x9, v8 a0.m.x10, v8 a0.m.x11]) (a := ⟨g1, 0, none⟩) (by kernel_rfl) (by kernel_rfl) (at_blk (j := 0) rfl rfl)) ?_
                        obtain ⟨t5, hx5, hm⟩ := bind_some hm
                        refine o_stp ?_ (by kernel_rfl)
                        refine s_call 67 53 #[.agg #[vb a0.hM, v16 a0.ms, vb a0.hS, v8 a0.sc, vb a0.sO, .slice none 0 0, vb a0.hT, v32 a0.va, v32 a0.ec, vb a0.hO, v8 a0.ki, v8 a0.ni, v8 a0.m.x0, v8 a0.m.x1, v8 a0.m.x2, v8 a0.m.x3, v8 a0.m.x4, v8 a0.m.x5, v8 a0.m.x6, v8 a0.m.x7, v8 a0.m.x8, v8 a0.m.x9, v8 a0.m.x10, v8 a0.m.x11]] [] [0] (by kernel_rfl) (by kernel_rfl) (fun w hs => opts_Size_ok a0 t5 hx5 B _ w (St.cast (by kernel_rfl) hs)) (fun _ hx => ?_)
                        refine t_L (L' := [.blk g1 [vb a0.hM, v16 a0.ms, vb a0.hS, v8 a0.sc, vb a0.sO, .slice none 0 0, vb a0.hT, v32 a0.va, v32 a0.ec, vb a0.hO, v8 a0.ki, v8 a0.ni, v8 a0.m.x0, v8 a0.m.x1, v8 a0.m.x2, v8 a0.m.x3, v8 a0.m.x4, v8 a0.m.x5, v8 a0.m.x6, v8 a0.m.x7, v8 a0.m.x8, v8 a0.m.x9, v8 a0.m.x10, v8 a0.m.x11] 31]) (by kernel_rfl) ?_
                        refine o_run 3 [2] (l := []) .nil (E' := [(2, vb (decide (t5 ≤ 40)))]) (by kernel_rfl) ?_
                        refine o_end (by kernel_rfl) ?_
                        refine e_seq ?_
                        refine w_ret (by kernel_rfl) ?_
                        obtain rfl := Option.some.inj hm
                        exact e_retP () (vb (decide (t5 ≤ 40))) [] (by kernel_rfl) (by kernel_rfl) rfl (by kernel_rfl) (by kernel_rfl) trivial
                · replace hm := ite_f hb21 hm
                  refine o_run 16 [1, 41] (l := []) .nil (E' := [(1, (pg g1)), (41, vb false)]) (by kernel_rfl) ?_
                  refine o_end (by kernel_rfl) ?_
                  refine e_seq ?_
                  refine w_cond_f (.tmp 41) 830 831 (by kernel_rfl) (by kernel_rfl) ?_
                  refine w_skip (by kernel_rfl) ?_
                  refine e_blk ?_
                  refine e_seq ?_
                  refine w_seq 14 15 (by kernel_rfl) ?_
                  refine w_region (by kernel_rfl) ?_
                  refine o_run 5 [1, 65] (l := [(⟨g1, 5, none⟩, .slice none 0 0)]) (.one (at_blk (j := 0) rfl rfl) .nil) (E' := [(1, (pg g1)), (65, vb true)]) (by kernel_rfl) ?_
                  refine o_val 66 (.load 31 (.tmp 1)) (.agg #[vb a0.hM, v16 a0.ms, vb a0.hS, v8 a0.sc, vb a0.sO, .slice none 0 0, vb a0.hT, v32 a0.va, v32 a0.ec, vb a0.hO, v8 a0.ki, v8 a0.ni, v8 a0.m.x0, v8 a0.m.x1, v8 a0.m.x2, v8 a0.m.x3, v8 a0.m.x4, v8 a0.m.x5, v8 a0.m.x6, v8 a0.m.x7, v8 a0.m.x8, v8 a0.m.x9, v8 a0.m.x10, v8 a0.m.x11]) (by kernel_rfl) (v_load (l := [vb a0.hM, v16 a0.ms, vb a0.hS, v8 a0.sc, vb a0.sO, .slice none 0 0, vb a0.hT, v32 a0.va, v32 a0.ec, vb a0.hO, v8 a0.ki, v8 a0.ni, v8 a0.m.x0, v8 a0.m.x1, v8 a0.m.x2, v8 a0.m.x3, v8 a0.m.x4, v8 a0.m.x5, v8 a0.m.x6, v8 a0.m.x7, v8 a0.m.x8, v8 a0.m.x9, v8 a0.m.x10, v8 a0.m.x11]) (a := ⟨g1, 0, none⟩) (by kernel_rfl) (by kernel_rfl) (at_blk (j := 0) rfl rfl)) ?_
                  obtain ⟨t6, hx6, hm⟩ := bind_some hm
                  refine o_stp ?_ (by kernel_rfl)
                  refine s_call 67 53 #[.agg #[vb a0.hM, v16 a0.ms, vb a0.hS, v8 a0.sc, vb a0.sO, .slice none 0 0, vb a0.hT, v32 a0.va, v32 a0.ec, vb a0.hO, v8 a0.ki, v8 a0.ni, v8 a0.m.x0, v8 a0.m.x1, v8 a0.m.x2, v8 a0.m.x3, v8 a0.m.x4, v8 a0.m.x5, v8 a0.m.x6, v8 a0.m.x7, v8 a0.m.x8, v8 a0.m.x9, v8 a0.m.x10, v8 a0.m.x11]] [] [0] (by kernel_rfl) (by kernel_rfl) (fun w hs => opts_Size_ok a0 t6 hx6 B _ w (St.cast (by kernel_rfl) hs)) (fun _ hx => ?_)
                  refine t_L (L' := [.blk g1 [vb a0.hM, v16 a0.ms, vb a0.hS, v8 a0.sc, vb a0.sO, .slice none 0 0, vb a0.hT, v32 a0.va, v32 a0.ec, vb a0.hO, v8 a0.ki, v8 a0.ni, v8 a0.m.x0, v8 a0.m.x1, v8 a0.m.x2, v8 a0.m.x3, v8 a0.m.x4, v8 a0.m.x5, v8 a0.m.x6, v8 a0.m.x7, v8 a0.m.x8, v8 a0.m.x9, v8 a0.m.x10, v8 a0.m.x11] 31]) (by kernel_rfl) ?_
                  refine o_run 3 [2] (l := []) .nil (E' := [(2, vb (decide (t6 ≤ 40)))]) (by kernel_rfl) ?_
                  refine o_end (by kernel_rfl) ?_
                  refine e_seq ?_
                  refine w_ret (by kernel_rfl) ?_
                  obtain rfl := Option.some.inj hm
                  exact e_retP () (vb (decide (t6 ≤ 40))) [] (by kernel_rfl) (by kernel_rfl) rfl (by kernel_rfl) (by kernel_rfl) trivial
          · replace hm := ite_f hb18 hm
            refine o_run 10 [1, 27] (l := []) .nil (E' := [(1, (pg g1)), (27, vb false)]) (by kernel_rfl) ?_
            refine o_end (by kernel_rfl) ?_
            refine e_seq ?_
            refine w_cond_f (.tmp 27) 206 207 (by kernel_rfl) (by kernel_rfl) ?_
            refine w_seq 414 415 (by kernel_rfl) ?_
            refine w_region (by kernel_rfl) ?_
            refine o_run 4 [1, 45] (l := [(⟨g1, 9, none⟩, vb a0.hO)]) (.one (at_blk (j := 0) rfl rfl) .nil) (E' := [(1, (pg g1)), (45, vb (!a0.hO))]) (by kernel_rfl) ?_
            refine o_split 45 (!a0.hO) (by kernel_rfl) (fun hb25 => ?_) (fun hb25 => ?_)
            · replace hm := ite_t hb25 hm
              refine o_run 4 [1, 45, 49] (l := [(⟨g1, 10, none⟩, v8 a0.ki)]) (.one (at_blk (j := 0) rfl rfl) .nil) (E' := [(1, (pg g1)), (45, vb true), (49, vb (a0.ki != 0))]) (by kernel_rfl) ?_
              refine o_split 49 (a0.ki != 0) (by kernel_rfl) (fun hb26 => ?_) (fun hb26 => ?_)
              · replace hm := ite_t hb26 hm
                refine o_run 12 [1, 41] (l := []) .nil (E' := [(1, (pg g1)), (41, vb true)]) (by kernel_rfl) ?_
                refine o_end (by kernel_rfl) ?_
                refine e_seq ?_
                refine w_cond_t (.tmp 41) 830 831 (by kernel_rfl) (by kernel_rfl) ?_
                refine w_seq 1660 1661 (by kernel_rfl) ?_
                refine w_region (by kernel_rfl) ?_
                refine o_run 1 [2] (l := []) .nil (E' := [(2, vb false)]) (by kernel_rfl) ?_
                refine o_end (by kernel_rfl) ?_
                refine e_seq ?_
                refine w_ret (by kernel_rfl) ?_
                obtain rfl := Option.some.inj hm
                exact e_retP () (vb false) [] (by kernel_rfl) (by kernel_rfl) rfl (by kernel_rfl) (by kernel_rfl) trivial
              · replace hm := ite_f hb26 hm
                refine o_run 5 [1, 45, 54] (l := [(⟨g1, 11, none⟩, v8 a0.ni)]) (.one (at_blk (j := 0) rfl rfl) .nil) (E' := [(1, (pg g1)), (45, vb true), (54, vb (a0.ni != 0))]) (by kernel_rfl) ?_
                refine o_split 54 (a0.ni != 0) (by kernel_rfl) (fun hb27 => ?_) (fun hb27 => ?_)
                · replace hm := ite_t hb27 hm
                  refine o_run 7 [1, 41] (l := []) .nil (E' := [(1, (pg g1)), (41, vb true)]) (by kernel_rfl) ?_
                  refine o_end (by kernel_rfl) ?_
                  refine e_seq ?_
                  refine w_cond_t (.tmp 41) 830 831 (by kernel_rfl) (by kernel_rfl) ?_
                  refine w_seq 1660 1661 (by kernel_rfl) ?_
                  refine w_region (by kernel_rfl) ?_
                  refine o_run 1 [2] (l := []) .nil (E' := [(2, vb false)]) (by kernel_rfl) ?_
                  refine o_end (by kernel_rfl) ?_
                  refine e_seq ?_
                  refine w_ret (by kernel_rfl) ?_
                  obtain rfl := Option.some.inj hm
                  exact e_retP () (vb false) [] (by kernel_rfl) (by kernel_rfl) rfl (by kernel_rfl) (by kernel_rfl) trivial
                · replace hm := ite_f hb27 hm
                  refine o_run 1 [1, 45, 54, 55] (l := []) .nil (E' := [(1, (pg g1)), (45, vb true), (54, vb false), (55, .pointer (some ⟨g1, 12, none⟩))]) (by kernel_rfl) ?_
                  refine o_val 56 (.load 29 (.tmp 55)) (.agg #[v8 a0.m.x0, v8 a0.m.x1, v8 a0.m.x2, v8 a0.m.x3, v8 a0.m.x4, v8 a0.m.x5, v8 a0.m.x6, v8 a0.m.x7, v8 a0.m.x8, v8 a0.m.x9, v8 a0.m.x10, v8 a0.m.x11]) (by kernel_rfl) (v_load (l := [v8 a0.m.x0, v8 a0.m.x1, v8 a0.m.x2, v8 a0.m.x3, v8 a0.m.x4, v8 a0.m.x5, v8 a0.m.x6, v8 a0.m.x7, v8 a0.m.x8, v8 a0.m.x9, v8 a0.m.x10, v8 a0.m.x11]) (a := ⟨g1, 12, none⟩) (by kernel_rfl) (by kernel_rfl) (at_blk (j := 0) rfl rfl)) ?_
                  refine o_run 1 [1, 45, 54, 56, 57] (l := []) .nil (E' := [(1, (pg g1)), (45, vb true), (54, vb false), (56, .agg #[v8 a0.m.x0, v8 a0.m.x1, v8 a0.m.x2, v8 a0.m.x3, v8 a0.m.x4, v8 a0.m.x5, v8 a0.m.x6, v8 a0.m.x7, v8 a0.m.x8, v8 a0.m.x9, v8 a0.m.x10, v8 a0.m.x11]), (57, .agg #[v8 0, v8 0, v8 0, v8 0, v8 0, v8 0, v8 0, v8 0, v8 0, v8 0, v8 0, v8 0])]) (by kernel_rfl) ?_
                  refine o_val 58 (.binOp .neq 29 (.tmp 56) (.tmp 57) 29) (vb (!((a0.m.x0 == 0) && ((a0.m.x1 == 0) && ((a0.m.x2 == 0) && ((a0.m.x3 == 0) && ((a0.m.x4 == 0) && ((a0.m.x5 == 0) && ((a0.m.x6 == 0) && ((a0.m.x7 == 0) && ((a0.m.x8 == 0) && ((a0.m.x9 == 0) && ((a0.m.x10 == 0) && (a0.m.x11 == 0)))))))))))))) (by kernel_rfl) (v_neS (xs := #[v8 a0.m.x0, v8 a0.m.x1, v8 a0.m.x2, v8 a0.m.x3, v8 a0.m.x4, v8 a0.m.x5, v8 a0.m.x6, v8 a0.m.x7, v8 a0.m.x8, v8 a0.m.x9, v8 a0.m.x10, v8 a0.m.x11]) (ys := #[v8 0, v8 0, v8 0, v8 0, v8 0, v8 0, v8 0, v8 0, v8 0, v8 0, v8 0, v8 0]) (b := ((a0.m.x0 == 0) && ((a0.m.x1 == 0) && ((a0.m.x2 == 0) && ((a0.m.x3 == 0) && ((a0.m.x4 == 0) && ((a0.m.x5 == 0) && ((a0.m.x6 == 0) && ((a0.m.x7 == 0) && ((a0.m.x8 == 0) && ((a0.m.x9 == 0) && ((a0.m.x10 == 0) && (a0.m.x11 == 0))))))))))))) (by kernel_rfl) (by kernel_rfl) (by kernel_rfl) (by kernel_rfl)) ?_
                  refine o_run 3 [1, 41] (l := []) .nil (E' := [(1, (pg g1)), (41, vb (!((a0.m.x0 == 0) && ((a0.m.x1 == 0) && ((a0.m.x2 == 0) && ((a0.m.x3 == 0) && ((a0.m.x4 == 0) && ((a0.m.x5 == 0) && ((a0.m.x6 == 0) && ((a0.m.x7 == 0) && ((a0.m.x8 == 0) && ((a0.m.x9 == 0) && ((a0.m.x10 == 0) && (a0.m.x11 == 0))))))))))))))]) (by kernel_rfl) ?_
                  refine o_end (by kernel_rfl) ?_
                  refine e_seq ?_
                  refine w_cond (.tmp 41) 830 831 (!((a0.m.x0 == 0) && ((a0.m.x1 == 0) && ((a0.m.x2 == 0) && ((a0.m.x3 == 0) && ((a0.m.x4 == 0) && ((a0.m.x5 == 0) && ((a0.m.x6 == 0) && ((a0.m.x7 == 0) && ((a0.m.x8 == 0) && ((a0.m.x9 == 0) && ((a0.m.x10 == 0) && (a0.m.x11 == 0))))))))))))) (by kernel_rfl) (by kernel_rfl) (fun hb28 => ?_) (fun hb28 => ?_)
                  · replace hm := ite_t hb28 hm
                    refine w_seq 1660 1661 (by kernel_rfl) ?_
                    refine w_region (by kernel_rfl) ?_
                    refine o_run 1 [2] (l := []) .nil (E' := [(2, vb false)]) (by kernel_rfl) ?_
                    refine o_end (by kernel_rfl) ?_
                    refine e_seq ?_
                    refine w_ret (by kernel_rfl) ?_
                    obtain rfl := Option.some.inj hm
                    exact e_retP () (vb false) [] (by kernel_rfl) (by kernel_rfl) rfl (by kernel_rfl) (by kernel_rfl) trivial
                  · replace hm := ite_f hb28 hm
                    refine w_skip (by kernel_rfl) ?_
                    refine e_blk ?_
                    refine e_seq ?_
                    refine w_seq 14 15 (by kernel_rfl) ?_
                    refine w_region (by kernel_rfl) ?_
                    refine o_run 5 [1, 65] (l := [(⟨g1, 5, none⟩, .slice none 0 0)]) (.one (at_blk (j := 0) rfl rfl) .nil) (E' := [(1, (pg g1)), (65, vb true)]) (by kernel_rfl) ?_
                    refine o_val 66 (.load 31 (.tmp 1)) (.agg #[vb a0.hM, v16 a0.ms, vb a0.hS, v8 a0.sc, vb a0.sO, .slice none 0 0, vb a0.hT, v32 a0.va, v32 a0.ec, vb a0.hO, v8 a0.ki, v8 a0.ni, v8 a0.m.x0, v8 a0.m.x1, v8 a0.m.x2, v8 a0.m.x3, v8 a0.m.x4, v8 a0.m.x5, v8 a0.m.x6, v8 a0.m.x7, v8 a0.m.x8, v8 a0.m.x9, v8 a0.m.x10, v8 a0.m.x11]) (by kernel_rfl) (v_load (l := [vb a0.hM, v16 a0.ms, vb a0.hS, v8 a0.sc, vb a0.sO, .slice none 0 0, vb a0.hT, v32 a0.va, v32 a0.ec, vb a0.hO, v8 a0.ki, v8 a0.ni, v8 a0.m.x0, v8 a0.m.x1, v8 a0.m.x2, v8 a0.m.x3, v8 a0.m.x4, v8 a0.m.x5, v8 a0.m.x6, v8 a0.m.x7, v8 a0.m.x8, v8 a0.m.x9, v8 a0.m.x10, v8 a0.m.x11]) (a := ⟨g1, 0, none⟩) (by kernel_rfl) (by kernel_rfl) (at_blk (j := 0) rfl rfl)) ?_
                    obtain ⟨t7, hx7, hm⟩ := bind_some hm
                    refine o_stp ?_ (by kernel_rfl)
                    refine s_call 67 53 #[.agg #[vb a0.hM, v16 a0.ms, vb a0.hS, v8 a0.sc, vb a0.sO, .slice none 0 0, vb a0.hT, v32 a0.va, v32 a0.ec, vb a0.hO, v8 a0.ki, v8 a0.ni, v8 a0.m.x0, v8 a0.m.x1, v8 a0.m.x2, v8 a0.m.x3, v8 a0.m.x4, v8 a0.m.x5, v8 a0.m.x6, v8 a0.m.x7, v8 a0.m.x8, v8 a0.m.x9, v8 a0.m.x10, v8 a0.m.x11]] [] [0] (by kernel_rfl) (by kernel_rfl) (fun w hs => opts_Size_ok a0 t7 hx7 B _ w (St.cast (by kernel_rfl) hs)) (fun _ hx => ?_)
                    refine t_L (L' := [.blk g1 [vb a0.hM, v16 a0.ms, vb a0.hS, v8 a0.sc, vb a0.sO, .slice none 0 0, vb a0.hT, v32 a0.va, v32 a0.ec, vb a0.hO, v8 a0.ki, v8 a0.ni, v8 a0.m.x0, v8 a0.m.x1, v8 a0.m.x2, v8 a0.m.x3, v8 a0.m.x4, v8 a0.m.x5, v8 a0.m.x6, v8 a0.m.x7, v8 a0.m.x8, v8 a0.m.x9, v8 a0.m.x10, v8 a0.m.x11] 31]) (by kernel_rfl) ?_
                    refine o_run 3 [2] (l := []) .nil (E' := [(2, vb (decide (t7 ≤ 40)))]) (by kernel_rfl) ?_
                    refine o_end (by kernel_rfl) ?_
                    refine e_seq ?_
                    refine w_ret (by kernel_rfl) ?_
                    obtain rfl := Option.some.inj hm
                    exact e_retP () (vb (decide (t7 ≤ 40))) [] (by kernel_rfl) (by kernel_rfl) rfl (by kernel_rfl) (by kernel_rfl) trivial
            · replace hm := ite_f hb25 hm
              refine o_run 16 [1, 41] (l := []) .nil (E' := [(1, (pg g1)), (41, vb false)]) (by kernel_rfl) ?_
              refine o_end (by kernel_rfl) ?_
              refine e_seq ?_
              refine w_cond_f (.tmp 41) 830 831 (by kernel_rfl) (by kernel_rfl) ?_
              refine w_skip (by kernel_rfl) ?_
              refine e_blk ?_
              refine e_seq ?_
              refine w_seq 14 15 (by kernel_rfl) ?_
              refine w_region (by kernel_rfl) ?_
              refine o_run 5 [1, 65] (l := [(⟨g1, 5, none⟩, .slice none 0 0)]) (.one (at_blk (j := 0) rfl rfl) .nil) (E' := [(1, (pg g1)), (65, vb true)]) (by kernel_rfl) ?_
              refine o_val 66 (.load 31 (.tmp 1)) (.agg #[vb a0.hM, v16 a0.ms, vb a0.hS, v8 a0.sc, vb a0.sO, .slice none 0 0, vb a0.hT, v32 a0.va, v32 a0.ec, vb a0.hO, v8 a0.ki, v8 a0.ni, v8 a0.m.x0, v8 a0.m.x1, v8 a0.m.x2, v8 a0.m.x3, v8 a0.m.x4, v8 a0.m.x5, v8 a0.m.x6, v8 a0.m.x7, v8 a0.m.x8, v8 a0.m.x9, v8 a0.m.x10, v8 a0.m.x11]) (by kernel_rfl) (v_load (l := [vb a0.hM, v16 a0.ms, vb a0.hS, v8 a0.sc, vb a0.sO, .slice none 0 0, vb a0.hT, v32 a0.va, v32 a0.ec, vb a0.hO, v8 a0.ki, v8 a0.ni, v8 a0.m.x0, v8 a0.m.x1, v8 a0.m.x2, v8 a0.m.x3, v8 a0.m.x4, v8 a0.m.x5, v8 a0.m.x6, v8 a0.m.x7, v8 a0.m.x8, v8 a0.m.x9, v8 a0.m.x10, v8 a0.m.x11]) (a := ⟨g1, 0, none⟩) (by kernel_rfl) (by kernel_rfl) (at_blk (j := 0) rfl rfl)) ?_
              obtain ⟨t8, hx8, hm⟩ := bind_some hm
              refine o_stp ?_ (by kernel_rfl)
              refine s_call 67 53 #[.agg #[vb a0.hM, v16 a0.ms, vb a0.hS, v8 a0.sc, vb a0.sO, .slice none 0 0, vb a0.hT, v32 a0.va, v32 a0.ec, vb a0.hO, v8 a0.ki, v8 a0.ni, v8 a0.m.x0, v8 a0.m.x1, v8 a0.m.x2, v8 a0.m.x3, v8 a0.m.x4, v8 a0.m.x5, v8 a0.m.x6, v8 a0.m.x7, v8 a0.m.x8, v8 a0.m.x9, v8 a0.m.x10, v8 a0.m.x11]] [] [0] (by kernel_rfl) (by kernel_rfl) (fun w hs => opts_Size_ok a0 t8 hx8 B _ w (St.cast (by kernel_rfl) hs)) (fun _ hx => ?_)
              refine t_L (L' := [.blk g1 [vb a0.hM, v16 a0.ms, vb a0.hS, v8 a0.sc, vb a0.sO, .slice none 0 0, vb a0.hT, v32 a0.va, v32 a0.ec, vb a0.hO, v8 a0.ki, v8 a0.ni, v8 a0.m.x0, v8 a0.m.x1, v8 a0.m.x2, v8 a0.m.x3, v8 a0.m.x4, v8 a0.m.x5, v8 a0.m.x6, v8 a0.m.x7, v8 a0.m.x8, v8 a0.m.x9, v8 a0.m.x10, v8 a0.m.x11] 31]) (by kernel_rfl) ?_
              refine o_run 3 [2] (l := []) .nil (E' := [(2, vb (decide (t8 ≤ 40)))]) (by kernel_rfl) ?_
              refine o_end (by kernel_rfl) ?_
              refine e_seq ?_
              refine w_ret (by kernel_rfl) ?_
              obtain rfl := Option.some.inj hm
              exact e_retP () (vb (decide (t8 ≤ 40))) [] (by kernel_rfl) (by kernel_rfl) rfl (by kernel_rfl) (by kernel_rfl) trivial
  · replace hm := ite_f hb1 hm
    refine o_run 9 [1, 12, 16] (l := [(⟨g1, 2, none⟩, vb a0.hS)]) (.one (at_blk (j := 0) rfl rfl) .nil) (E' := [(1, (pg g1)), (12, vb false), (16, vb (!a0.hS))]) (by kernel_rfl) ?_
    refine o_split 16 (!a0.hS) (by kernel_rfl) (fun hb29 => ?_) (fun hb29 => ?_)
    · replace hm := ite_t hb29 hm
      refine o_run 6 [1, 22] (l := [(⟨g1, 3, none⟩, v8 a0.sc)]) (.one (at_blk (j := 0) rfl rfl) .nil) (E' := [(1, (pg g1)), (22, vb (a0.sc != 0))]) (by kernel_rfl) ?_
      refine o_split 22 (a0.sc != 0) (by kernel_rfl) (fun hb30 => ?_) (fun hb30 => ?_)
      · replace hm := ite_t hb30 hm
        refine o_run 5 [1, 3] (l := []) .nil (E' := [(1, (pg g1)), (3, vb true)]) (by kernel_rfl) ?_
        refine o_end (by kernel_rfl) ?_
        refine e_seq ?_
        refine w_cond_t (.tmp 3) 50 51 (by kernel_rfl) (by kernel_rfl) ?_
        refine w_seq 100 101 (by kernel_rfl) ?_
        refine w_region (by kernel_rfl) ?_
        refine o_run 1 [2] (l := []) .nil (E' := [(2, vb false)]) (by kernel_rfl) ?_
        refine o_end (by kernel_rfl) ?_
        refine e_seq ?_
        refine w_ret (by kernel_rfl) ?_
        obtain rfl := Option.some.inj hm
        exact e_retP () (vb false) [] (by kernel_rfl) (by kernel_rfl) rfl (by kernel_rfl) (by kernel_rfl) trivial
      · replace hm := ite_f hb30 hm
        refine o_run 5 [1, 3] (l := [(⟨g1, 3, none⟩, v8 a0.sc)]) (.one (at_blk (j := 0) rfl rfl) .nil) (E' := [(1, (pg g1)), (3, vb (decide (a0.sc > 14)))]) (by kernel_rfl) ?_
        refine o_end (by kernel_rfl) ?_
        refine e_seq ?_
        refine w_cond (.tmp 3) 50 51 (decide (a0.sc > 14)) (by kernel_rfl) (by kernel_rfl) (fun hb31 => ?_) (fun hb31 => ?_)
        · replace hm := ite_t hb31 hm
          refine w_seq 100 101 (by kernel_rfl) ?_
          refine w_region (by kernel_rfl) ?_
          refine o_run 1 [2] (l := []) .nil (E' := [(2, vb false)]) (by kernel_rfl) ?_
          refine o_end (by kernel_rfl) ?_
          refine e_seq ?_
          refine w_ret (by kernel_rfl) ?_
          obtain rfl := Option.some.inj hm
          exact e_retP () (vb false) [] (by kernel_rfl) (by kernel_rfl) rfl (by kernel_rfl) (by kernel_rfl) trivial
        · replace hm := ite_f hb31 hm
          refine w_seq 102 103 (by kernel_rfl) ?_
          refine w_region (by kernel_rfl) ?_
          refine o_run 4 [1, 31] (l := [(⟨g1, 6, none⟩, vb a0.hT)]) (.one (at_blk (j := 0) rfl rfl) .nil) (E' := [(1, (pg g1)), (31, vb (!a0.hT))]) (by kernel_rfl) ?_
          refine o_split 31 (!a0.hT) (by kernel_rfl) (fun hb32 => ?_) (fun hb32 => ?_)
          · replace hm := ite_t hb32 hm
            refine o_run 4 [1, 31, 35] (l := [(⟨g1, 7, none⟩, v32 a0.va)]) (.one (at_blk (j := 0) rfl rfl) .nil) (E' := [(1, (pg g1)), (31, vb true), (35, vb (a0.va != 0))]) (by kernel_rfl) ?_
            refine o_split 35 (a0.va != 0) (by kernel_rfl) (fun hb33 => ?_) (fun hb33 => ?_)
            · replace hm := ite_t hb33 hm
              refine o_run 6 [1, 27] (l := []) .nil (E' := [(1, (pg g1)), (27, vb true)]) (by kernel_rfl) ?_
              refine o_end (by kernel_rfl) ?_
              refine e_seq ?_
              refine w_cond_t (.tmp 27) 206 207 (by kernel_rfl) (by kernel_rfl) ?_
              refine w_seq 412 413 (by kernel_rfl) ?_
              refine w_region (by kernel_rfl) ?_
              refine o_run 1 [2] (l := []) .nil (E' := [(2, vb false)]) (by kernel_rfl) ?_
              refine o_end (by kernel_rfl) ?_
              refine e_seq ?_
              refine w_ret (by kernel_rfl) ?_
              obtain rfl := Option.some.inj hm
              exact e_retP () (vb false) [] (by kernel_rfl) (by kernel_rfl) rfl (by kernel_rfl) (by kernel_rfl) trivial
            · replace hm := ite_f hb33 hm
              refine o_run 6 [1, 27] (l := [(⟨g1, 8, none⟩, v32 a0.ec)]) (.one (at_blk (j := 0) rfl rfl) .nil) (E' := [(1, (pg g1)), (27, vb (a0.ec != 0))]) (by kernel_rfl) ?_
              refine o_end (by kernel_rfl) ?_
              refine e_seq ?_
              refine w_cond (.tmp 27) 206 207 (a0.ec != 0) (by kernel_rfl) (by kernel_rfl) (fun hb34 => ?_) (fun hb34 => ?_)
              · replace hm := ite_t hb34 hm
                refine w_seq 412 413 (by kernel_rfl) ?_
                refine w_region (by kernel_rfl) ?_
                refine o_run 1 [2] (l := []) .nil (E' := [(2, vb false)]) (by kernel_rfl) ?_
                refine o_end (by kernel_rfl) ?_
                refine e_seq ?_
                refine w_ret (by kernel_rfl) ?_
                obtain rfl := Option.some.inj hm
                exact e_retP () (vb false) [] (by kernel_rfl) (by kernel_rfl) rfl (by kernel_rfl) (by kernel_rfl) trivial
              · replace hm := ite_f hb34 hm
                refine w_seq 414 415 (by kernel_rfl) ?_
                refine w_region (by kernel_rfl) ?_
                refine o_run 4 [1, 45] (l := [(⟨g1, 9, none⟩, vb a0.hO)]) (.one (at_blk (j := 0) rfl rfl) .nil) (E' := [(1, (pg g1)), (45, vb (!a0.hO))]) (by kernel_rfl) ?_
                refine o_split 45 (!a0.hO) (by kernel_rfl) (fun hb35 => ?_) (fun hb35 => ?_)
                · replace hm := ite_t hb35 hm
                  refine o_run 4 [1, 45, 49] (l := [(⟨g1, 10, none⟩, v8 a0.ki)]) (.one (at_blk (j := 0) rfl rfl) .nil) (E' := [(1, (pg g1)), (45, vb true), (49, vb (a0.ki != 0))]) (by kernel_rfl) ?_
                  refine o_split 49 (a0.ki != 0) (by kernel_rfl) (fun hb36 => ?_) (fun hb36 => ?_)
                  · replace hm := ite_t hb36 hm
                    refine o_run 12 [1, 41] (l := []) .nil (E' := [(1, (pg g1)), (41, vb true)]) (by kernel_rfl) ?_
                    refine o_end (by kernel_rfl) ?_
                    refine e_seq ?_
                    refine w_cond_t (.tmp 41) 830 831 (by kernel_rfl) (by kernel_rfl) ?_
                    refine w_seq 1660 1661 (by kernel_rfl) ?_
                    refine w_region (by kernel_rfl) ?_
                    refine o_run 1 [2] (l := []) .nil (E' := [(2, vb false)]) (by kernel_rfl) ?_
                    refine o_end (by kernel_rfl) ?_
                    refine e_seq ?_
                    refine w_ret (by kernel_rfl) ?_
                    obtain rfl := Option.some.inj hm
                    exact e_retP () (vb false) [] (by kernel_rfl) (by kernel_rfl) rfl (by kernel_rfl) (by kernel_rfl) trivial
                  · replace hm := ite_f hb36 hm
                    refine o_run 5 [1, 45, 54] (l := [(⟨g1, 11, none⟩, v8 a0.ni)]) (.one (at_blk (j := 0) rfl rfl) .nil) (E' := [(1, (pg g1)), (45, vb true), (54, vb (a0.ni != 0))]) (by kernel_rfl) ?_
                    refine o_split 54 (a0.ni != 0) (by kernel_rfl) (fun hb37 => ?_) (fun hb37 => ?_)
                    · replace hm := ite_t hb37 hm
                      refine o_run 7 [1, 41] (l := []) .nil (E' := [(1, (pg g1)), (41, vb true)]) (by kernel_rfl) ?_
                      refine o_end (by kernel_rfl) ?_
                      refine e_seq ?_
                      refine w_cond_t (.tmp 41) 830 831 (by kernel_rfl) (by kernel_rfl) ?_
                      refine w_seq 1660 1661 (by kernel_rfl) ?_
                      refine w_region (by kernel_rfl) ?_
                      refine o_run 1 [2] (l := []) .nil (E' := [(2, vb false)]) (by kernel_rfl) ?_
                      refine o_end (by kernel_rfl) ?_
                      refine e_seq ?_
                      refine w_ret (by kernel_rfl) ?_
                      obtain rfl := Option.some.inj hm
                      exact e_retP () (vb false) [] (by kernel_rfl) (by kernel_rfl) rfl (by kernel_rfl) (by kernel_rfl) trivial
                    · replace hm := ite_f hb37 hm
                      refine o_run 1 [1, 45, 54, 55] (l := []) .nil (E' := [(1, (pg g1)), (45, vb true), (54, vb false), (55, .pointer (some ⟨g1, 12, none⟩))]) (by kernel_rfl) ?_
                      refine o_val 56 (.load 29 (.tmp 55)) (.agg #[v8 a0.m.x0, v8 a0.m.x1, v8 a0.m.x2, v8 a0.m.x3, v8 a0.m.x4, v8 a0.m.x5, v8 a0.m.x6, v8 a0.m.x7, v8 a0.m.x8, v8 a0.m.x9, v8 a0.m.x10, v8 a0.m.x11]) (by kernel_rfl) (v_load (l := [v8 a0.m.x0, v8 a0.m.x1, v8 a0.m.x2, v8 a0.m.x3, v8 a0.m.x4, v8 a0.m.x5, v8 a0.m.x6, v8 a0.m.x7, v8 a0.m.x8, v8 a0.m.x9, v8 a0.m.x10, v8 a0.m.x11]) (a := ⟨g1, 12, none⟩) (by kernel_rfl) (by kernel_rfl) (at_blk (j := 0) rfl rfl)) ?_
                      refine o_run 1 [1, 45, 54, 56, 57] (l := []) .nil (E' := [(1, (pg g1)), (45, vb true), (54, vb false), (56, .agg #[v8 a0.m.x0, v8 a0.m.x1, v8 a0.m.x2, v8 a0.m.x3, v8 a0.m.x4, v8 a0.m.x5, v8 a0.m.x6, v8 a0.m.x7, v8 a0.m.x8, v8 a0.m.x9, v8 a0.m.x10, v8 a0.m.x11]), (57, .agg #[v8 0, v8 0, v8 0, v8 0, v8 0, v8 0, v8 0, v8 0, v8 0, v8 0, v8 0, v8 0])]) (by kernel_rfl) ?_
                      refine o_val 58 (.binOp .neq 29 (.tmp 56) (.tmp 57) 29) (vb (!((a0.m.x0 == 0) && ((a0.m.x1 == 0) && ((a0.m.x2 == 0) && ((a0.m.x3 == 0) && ((a0.m.x4 == 0) && ((a0.m.x5 == 0) && ((a0.m.x6 == 0) && ((a0.m.x7 == 0) && ((a0.m.x8 == 0) && ((a0.m.x9 == 0) && ((a0.m.x10 == 0) && (a0.m.x11 == 0)))))))))))))) (by kernel_rfl) (v_neS (xs := #[v8 a0.m.x0, v8 a0.m.x1, v8 a0.m.x2, v8 a0.m.x3, v8 a0.m.x4, v8 a0.m.x5, v8 a0.m.x6, v8 a0.m.x7, v8 a0.m.x8, v8 a0.m.x9, v8 a0.m.x10, v8 a0.m.x11]) (ys := #[v8 0, v8 0, v8 0, v8 0, v8 0, v8 0, v8 0, v8 0, v8 0, v8 0, v8 0, v8 0]) (b := ((a0.m.x0 == 0) && ((a0.m.x1 == 0) && ((a0.m.x2 == 0) && ((a0.m.x3 == 0) && ((a0.m.x4 == 0) && ((a0.m.x5 == 0) && ((a0.m.x6 == 0) && ((a0.m.x7 == 0) && ((a0.m.x8 == 0) && ((a0.m.x9 == 0) && ((a0.m.x10 == 0) && (a0.m.x11 == 0))))))))))))) (by kernel_rfl) (by kernel_rfl) (by kernel_rfl) (by kernel_rfl)) ?_
                      refine o_run 3 [1, 41] (l := []) .nil (E' := [(1, (pg g1)), (41, vb (!((a0.m.x0 == 0) && ((a0.m.x1 == 0) && ((a0.m.x2 == 0) && ((a0.m.x3 == 0) && ((a0.m.x4 == 0) && ((a0.m.x5 == 0) && ((a0.m.x6 == 0) && ((a0.m.x7 == 0) && ((a0.m.x8 == 0) && ((a0.m.x9 == 0) && ((a0.m.x10 == 0) && (a0.m.x11 == 0))))))))))))))]) (by kernel_rfl) ?_
                      refine o_end (by kernel_rfl) ?_
                      refine e_seq ?_
                      refine w_cond (.tmp 41) 830 831 (!((a0.m.x0 == 0) && ((a0.m.x1 == 0) && ((a0.m.x2 == 0) && ((a0.m.x3 == 0) && ((a0.m.x4 == 0) && ((a0.m.x5 == 0) && ((a0.m.x6 == 0) && ((a0.m.x7 == 0) && ((a0.m.x8 == 0) && ((a0.m.x9 == 0) && ((a0.m.x10 == 0) && (a0.m.x11 == 0))))))))))))) (by kernel_rfl) (by kernel_rfl) (fun hb38 => ?_) (fun hb38 => ?_)
                      · replace hm := ite_t hb38 hm
                        refine w_seq 1660 1661 (by kernel_rfl) ?_
                        refine w_region (by kernel_rfl) ?_
                        refine o_run 1 [2] (l := []) .nil (E' := [(2, vb false)]) (by kernel_rfl) ?_
                        refine o_end (by kernel_rfl) ?_
                        refine e_seq ?_
                        refine w_ret (by kernel_rfl) ?_
                        obtain rfl := Option.some.inj hm
                        exact e_retP () (vb false) [] (by kernel_rfl) (by kernel_rfl) rfl (by kernel_rfl) (by kernel_rfl) trivial
                      · replace hm := ite_f hb38 hm
                        refine w_skip (by kernel_rfl) ?_
                        refine e_blk ?_
                        refine e_seq ?_
                        refine w_seq 14 15 (by kernel_rfl) ?_
                        refine w_region (by kernel_rfl) ?_
                        refine o_run 5 [1, 65] (l := [(⟨g1, 5, none⟩, .slice none 0 0)]) (.one (at_blk (j := 0) rfl rfl) .nil) (E' := [(1, (pg g1)), (65, vb true)]) (by kernel_rfl) ?_
                        refine o_val 66 (.load 31 (.tmp 1)) (.agg #[vb a0.hM, v16 a0.ms, vb a0.hS, v8 a0.sc, vb a0.sO, .slice none 0 0, vb a0.hT, v32 a0.va, v32 a0.ec, vb a0.hO, v8 a0.ki, v8 a0.ni, v8 a0.m.x0, v8 a0.m.x1, v8 a0.m.x2, v8 a0.m.x3, v8 a0.m.x4, v8 a0.m.x5, v8 a0.m.x6, v8 a0.m.x7, v8 a0.m.x8, v8 a0.m.x9, v8 a0.m.x10, v8 a0.m.x11]) (by kernel_rfl) (v_load (l := [vb a0.hM, v16 a0.ms, vb a0.hS, v8 a0.sc, vb a0.sO, .slice none 0 0, vb a0.hT, v32 a0.va, v32 a0.ec, vb a0.hO, v8 a0.ki, v8 a0.ni, v8 a0.m.x0, v8 a0.m.x1, v8 a0.m.x2, v8 a0.m.x3, v8 a0.m.x4, v8 a0.m.x5, v8 a0.m.x6, v8 a0.m.x7, v8 a0.m.x8, v8 a0.m.x9, v8 a0.m.x10, v8 a0.m.x11]) (a := ⟨g1, 0, none⟩) (by kernel_rfl) (by kernel_rfl) (at_blk (j := 0) rfl rfl)) ?_
                        obtain ⟨t9, hx9, hm⟩ := bind_some hm
                        refine o_stp ?_ (by kernel_rfl)
                        refine s_call 67 53 #[.agg #[vb a0.hM, v16 a0.ms, vb a0.hS, v8 a0.sc, vb a0.sO, .slice none 0 0, vb a0.hT, v32 a0.va, v32 a0.ec, vb a0.hO, v8 a0.ki, v8 a0.ni, v8 a0.m.x0, v8 a0.m.x1, v8 a0.m.x2, v8 a0.m.x3, v8 a0.m.x4, v8 a0.m.x5, v8 a0.m.x6, v8 a0.m.x7, v8 a0.m.x8, v8 a0.m.x9, v8 a0.m.x10, v8 a0.m.x11]] [] [0] (by kernel_rfl) (by kernel_rfl) (fun w hs => opts_Size_ok a0 t9 hx9 B _ w (St.cast (by kernel_rfl) hs)) (fun _ hx => ?_)
                        refine t_L (L' := [.blk g1 [vb a0.hM, v16 a0.ms, vb a0.hS, v8 a0.sc, vb a0.sO, .slice none 0 0, vb a0.hT, v32 a0.va, v32 a0.ec, vb a0.hO, v8 a0.ki, v8 a0.ni, v8 a0.m.x0, v8 a0.m.x1, v8 a0.m.x2, v8 a0.m.x3, v8 a0.m.x4, v8 a0.m.x5, v8 a0.m.x6, v8 a0.m.x7, v8 a0.m.x8, v8 a0.m.x9, v8 a0.m.x10, v8 a0.m.x11] 31]) (by kernel_rfl) ?_
                        refine o_run 3 [2] (l := []) .nil (E' := [(2, vb (decide (t9 ≤ 40)))]) (by kernel_rfl) ?_
                        refine o_end (by kernel_rfl) ?_
                        refine e_seq ?_
                        refine w_ret (by kernel_rfl) ?_
                        obtain rfl := Option.some.inj hm
                        exact e_retP () (vb (decide (t9 ≤ 40))) [] (by kernel_rfl) (by kernel_rfl) rfl (by kernel_rfl) (by kernel_rfl) trivial
                · replace hm := ite_f hb35 hm
                  refine o_run 16 [1, 41] (l := []) .nil (E' := [(1, (pg g1)), (41, vb false)]) (by kernel_rfl) ?_
                  refine o_end (by kernel_rfl) ?_
                  refine e_seq ?_
                  refine w_cond_f (.tmp 41) 830 831 (by kernel_rfl) (by kernel_rfl) ?_
                  refine w_skip (by kernel_rfl) ?_
                  refine e_blk ?_
                  refine e_seq ?_
                  refine w_seq 14 15 (by kernel_rfl) ?_
                  refine w_region (by kernel_rfl) ?_
                  refine o_run 5 [1, 65] (l := [(⟨g1, 5, none⟩, .slice none 0 0)]) (.one (at_blk (j := 0) rfl rfl) .nil) (E' := [(1, (pg g1)), (65, vb true)]) (by kernel_rfl) ?_
                  refine o_val 66 (.load 31 (.tmp 1)) (.agg #[vb a0.hM, v16 a0.ms, vb a0.hS, v8 a0.sc, vb a0.sO, .slice none 0 0, vb a0.hT, v32 a0.va, v32 a0.ec, vb a0.hO, v8 a0.ki, v8 a0.ni, v8 a0.m.x0, v8 a0.m.x1, v8 a0.m.x2, v8 a0.m.x3, v8 a0.m.x4, v8 a0.m.x5, v8 a0.m.x6, v8 a0.m.x7, v8 a0.m.x8, v8 a0.m.x9, v8 a0.m.x10, v8 a0.m.x11]) (by kernel_rfl) (v_load (l := [vb a0.hM, v16 a0.ms, vb a0.hS, v8 a0.sc, vb a0.sO, .slice none 0 0, vb a0.hT, v32 a0.va, v32 a0.ec, vb a0.hO, v8 a0.ki, v8 a0.ni, v8 a0.m.x0, v8 a0.m.x1, v8 a0.m.x2, v8 a0.m.x3, v8 a0.m.x4, v8 a0.m.x5, v8 a0.m.x6, v8 a0.m.x7, v8 a0.m.x8, v8 a0.m.x9, v8 a0.m.x10, v8 a0.m.x11]) (a := ⟨g1, 0, none⟩) (by kernel_rfl) (by kernel_rfl) (at_blk (j := 0) rfl rfl)) ?_
                  obtain ⟨t10, hx10, hm⟩ := bind_some hm
                  refine o_stp ?_ (by kernel_rfl)
                  refine s_call 67 53 #[.agg #[vb a0.hM, v16 a0.ms, vb a0.hS, v8 a0.sc, vb a0.sO, .slice none 0 0, vb a0.hT, v32 a0.va, v32 a0.ec, vb a0.hO, v8 a0.ki, v8 a0.ni, v8 a0.m.x0, v8 a0.m.x1, v8 a0.m.x2, v8 a0.m.x3, v8 a0.m.x4, v8 a0.m.x5, v8 a0.m.x6, v8 a0.m.x7, v8 a0.m.x8, v8 a0.m.x9, v8 a0.m.x10, v8 a0.m.x11]] [] [0] (by kernel_rfl) (by kernel_rfl) (fun w hs => opts_Size_ok a0 t10 hx10 B _ w (St.cast (by kernel_rfl) hs)) (fun _ hx => ?_)
                  refine t_L (L' := [.blk g1 [vb a0.hM, v16 a0.ms, vb a0.hS, v8 a0.sc, vb a0.sO, .slice none 0 0, vb a0.hT, v32 a0.va, v32 a0.ec, vb a0.hO, v8 a0.ki, v8 a0.ni, v8 a0.m.x0, v8 a0.m.x1, v8 a0.m.x2, v8 a0.m.x3, v8 a0.m.x4, v8 a0.m.x5, v8 a0.m.x6, v8 a0.m.x7, v8 a0.m.x8, v8 a0.m.x9, v8 a0.m.x10, v8 a0.m.x11] 31]) (by kernel_rfl) ?_
                  refine o_run 3 [2] (l := []) .nil (E' := [(2, vb (decide (t10 ≤ 40)))]) (by kernel_rfl) ?_
                  refine o_end (by kernel_rfl) ?_
                  refine e_seq ?_
                  refine w_ret (by kernel_rfl) ?_
                  obtain rfl := Option.some.inj hm
                  exact e_retP () (vb (decide (t10 ≤ 40))) [] (by kernel_rfl) (by kernel_rfl) rfl (by kernel_rfl) (by kernel_rfl) trivial
          · replace hm := ite_f hb32 hm
            refine o_run 10 [1, 27] (l := []) .nil (E' := [(1, (pg g1)), (27, vb false)]) (by kernel_rfl) ?_
            refine o_end (by kernel_rfl) ?_
            refine e_seq ?_
            refine w_cond_f (.tmp 27) 206 207 (by kernel_rfl) (by kernel_rfl) ?_
            refine w_seq 414 415 (by kernel_rfl) ?_
            refine w_region (by kernel_rfl) ?_
            refine o_run 4 [1, 45] (l := [(⟨g1, 9, none⟩, vb a0.hO)]) (.one (at_blk (j := 0) rfl rfl) .nil) (E' := [(1, (pg g1)), (45, vb (!a0.hO))]) (by kernel_rfl) ?_
            refine o_split 45 (!a0.hO) (by kernel_rfl) (fun hb39 => ?_) (fun hb39 => ?_)
            · replace hm := ite_t hb39 hm
              refine o_run 4 [1, 45, 49] (l := [(⟨g1, 10, none⟩, v8 a0.ki)]) (.one (at_blk (j := 0) rfl rfl) .nil) (E' := [(1, (pg g1)), (45, vb true), (49, vb (a0.ki != 0))]) (by kernel_rfl) ?_
              refine o_split 49 (a0.ki != 0) (by kernel_rfl) (fun hb40 => ?_) (fun hb40 => ?_)
              · replace hm := ite_t hb40 hm
                refine o_run 12 [1, 41] (l := []) .nil (E' := [(1, (pg g1)), (41, vb true)]) (by kernel_rfl) ?_
                refine o_end (by kernel_rfl) ?_
                refine e_seq ?_
                refine w_cond_t (.tmp 41) 830 831 (by kernel_rfl) (by kernel_rfl) ?_
                refine w_seq 1660 1661 (by kernel_rfl) ?_
                refine w_region (by kernel_rfl) ?_
                refine o_run 1 [2] (l := []) .nil (E' := [(2, vb false)]) (by kernel_rfl) ?_
                refine o_end (by kernel_rfl) ?_
                refine e_seq ?_
                refine w_ret (by kernel_rfl) ?_
                obtain rfl := Option.some.inj hm
                exact e_retP () (vb false) [] (by kernel_rfl) (by kernel_rfl) rfl (by kernel_rfl) (by kernel_rfl) trivial
              · replace hm := ite_f hb40 hm
                refine o_run 5 [1, 45, 54] (l := [(⟨g1, 11, none⟩, v8 a0.ni)]) (.one (at_blk (j := 0) rfl rfl) .nil) (E' := [(1, (pg g1)), (45, vb true), (54, vb (a0.ni != 0))]) (by kernel_rfl) ?_
                refine o_split 54 (a0.ni != 0) (by kernel_rfl) (fun hb41 => ?_) (fun hb41 => ?_)
                · replace hm := ite_t hb41 hm
                  refine o_run 7 [1, 41] (l := []) .nil (E' := [(1, (pg g1)), (41, vb true)]) (by kernel_rfl) ?_
                  refine o_end (by kernel_rfl) ?_
                  refine e_seq ?_
                  refine w_cond_t (.tmp 41) 830 831 (by kernel_rfl) (by kernel_rfl) ?_
                  refine w_seq 1660 1661 (by kernel_rfl) ?_
                  refine w_region (by kernel_rfl) ?_
                  refine o_run 1 [2] (l := []) .nil (E' := [(2, vb false)]) (by kernel_rfl) ?_
                  refine o_end (by kernel_rfl) ?_
                  refine e_seq ?_
                  refine w_ret (by kernel_rfl) ?_
                  obtain rfl := Option.some.inj hm
                  exact e_retP () (vb false) [] (by kernel_rfl) (by kernel_rfl) rfl (by kernel_rfl) (by kernel_rfl) trivial
                · replace hm := ite_f hb41 hm
                  refine o_run 1 [1, 45, 54, 55] (l := []) .nil (E' := [(1, (pg g1)), (45, vb true), (54, vb false), (55, .pointer (some ⟨g1, 12, none⟩))]) (by kernel_rfl) ?_
                  refine o_val 56 (.load 29 (.tmp 55)) (.agg #[v8 a0.m.x0, v8 a0.m.x1, v8 a0.m.x2, v8 a0.m.x3, v8 a0.m.x4, v8 a0.m.x5, v8 a0.m.x6, v8 a0.m.x7, v8 a0.m.x8, v8 a0.m.x9, v8 a0.m.x10, v8 a0.m.x11]) (by kernel_rfl) (v_load (l := [v8 a0.m.x0, v8 a0.m.x1, v8 a0.m.x2, v8 a0.m.x3, v8 a0.m.x4, v8 a0.m.x5, v8 a0.m.x6, v8 a0.m.x7, v8 a0.m.x8, v8 a0.m.x9, v8 a0.m.x10, v8 a0.m.x11]) (a := ⟨g1, 12, none⟩) (by kernel_rfl) (by kernel_rfl) (at_blk (j := 0) rfl rfl)) ?_
                  refine o_run 1 [1, 45, 54, 56, 57] (l := []) .nil (E' := [(1, (pg g1)), (45, vb true), (54, vb false), (56, .agg #[v8 a0.m.x0, v8 a0.m.x1, v8 a0.m.x2, v8 a0.m.x3, v8 a0.m.x4, v8 a0.m.x5, v8 a0.m.x6, v8 a0.m.x7, v8 a0.m.x8, v8 a0.m.x9, v8 a0.m.x10, v8 a0.m.x11]), (57, .agg #[v8 0, v8 0, v8 0, v8 0, v8 0, v8 0, v8 0, v8 0, v8 0, v8 0, v8 0, v8 0])]) (by kernel_rfl) ?_
                  refine o_val 58 (.binOp .neq 29 (.tmp 56) (.tmp 57) 29) (vb (!((a0.m.x0 == 0) && ((a0.m.x1 == 0) && ((a0.m.x2 == 0) && ((a0.m.x3 == 0) && ((a0.m.x4 == 0) && ((a0.m.x5 == 0) && ((a0.m.x6 == 0) && ((a0.m.x7 == 0) && ((a0.m.x8 == 0) && ((a0.m.x9 == 0) && ((a0.m.x10 == 0) && (a0.m.x11 == 0)))))))))))))) (by kernel_rfl) (v_neS (xs := #[v8 a0.m.x0, v8 a0.m.x1, v8 a0.m.x2, v8 a0.m.x3, v8 a0.m.x4, v8 a0.m.x5, v8 a0.m.x6, v8 a0.m.x7, v8 a0.m.x8, v8 a0.m.x9, v8 a0.m.x10, v8 a0.m.x11]) (ys := #[v8 0, v8 0, v8 0, v8 0, v8 0, v8 0, v8 0, v8 0, v8 0, v8 0, v8 0, v8 0]) (b := ((a0.m.x0 == 0) && ((a0.m.x1 == 0) && ((a0.m.x2 == 0) && ((a0.m.x3 == 0) && ((a0.m.x4 == 0) && ((a0.m.x5 == 0) && ((a0.m.x6 == 0) && ((a0.m.x7 == 0) && ((a0.m.x8 == 0) && ((a0.m.x9 == 0) && ((a0.m.x10 == 0) && (a0.m.x11 == 0))))))))))))) (by kernel_rfl) (by kernel_rfl) (by kernel_rfl) (by kernel_rfl)) ?_
                  refine o_run 3 [1, 41] (l := []) .nil (E' := [(1, (pg g1)), (41, vb (!((a0.m.x0 == 0) && ((a0.m.x1 == 0) && ((a0.m.x2 == 0) && ((a0.m.x3 == 0) && ((a0.m.x4 == 0) && ((a0.m.x5 == 0) && ((a0.m.x6 == 0) && ((a0.m.x7 == 0) && ((a0.m.x8 == 0) && ((a0.m.x9 == 0) && ((a0.m.x10 == 0) && (a0.m.x11 == 0))))))))))))))]) (by kernel_rfl) ?_
                  refine o_end (by kernel_rfl) ?_
                  refine e_seq ?_
                  refine w_cond (.tmp 41) 830 831 (!((a0.m.x0 == 0) && ((a0.m.x1 == 0) && ((a0.m.x2 == 0) && ((a0.m.x3 == 0) && ((a0.m.x4 == 0) && ((a0.m.x5 == 0) && ((a0.m.x6 == 0) && ((a0.m.x7 == 0) && ((a0.m.x8 == 0) && ((a0.m.x9 == 0) && ((a0.m.x10 == 0) && (a0.m.x11 == 0))))))))))))) (by kernel_rfl) (by kernel_rfl) (fun hb42 => ?_) (fun hb42 => ?_)
                  · replace hm := ite_t hb42 hm
                    refine w_seq 1660 1661 (by kernel_rfl) ?_
                    refine w_region (by kernel_rfl) ?_
                    refine o_run 1 [2] (l := []) .nil (E' := [(2, vb false)]) (by kernel_rfl) ?_
                    refine o_end (by kernel_rfl) ?_
                    refine e_seq ?_
                    refine w_ret (by kernel_rfl) ?_
                    obtain rfl := Option.some.inj hm
                    exact e_retP () (vb false) [] (by kernel_rfl) (by kernel_rfl) rfl (by kernel_rfl) (by kernel_rfl) trivial
                  · replace hm := ite_f hb42 hm
                    refine w_skip (by kernel_rfl) ?_
                    refine e_blk ?_
                    refine e_seq ?_
                    refine w_seq 14 15 (by kernel_rfl) ?_
                    refine w_region (by kernel_rfl) ?_
                    refine o_run 5 [1, 65] (l := [(⟨g1, 5, none⟩, .slice none 0 0)]) (.one (at_blk (j := 0) rfl rfl) .nil) (E' := [(1, (pg g1)), (65, vb true)]) (by kernel_rfl) ?_
                    refine o_val 66 (.load 31 (.tmp 1)) (.agg #[vb a0.hM, v16 a0.ms, vb a0.hS, v8 a0.sc, vb a0.sO, .slice none 0 0, vb a0.hT, v32 a0.va, v32 a0.ec, vb a0.hO, v8 a0.ki, v8 a0.ni, v8 a0.m.x0, v8 a0.m.x1, v8 a0.m.x2, v8 a0.m.x3, v8 a0.m.x4, v8 a0.m.x5, v8 a0.m.x6, v8 a0.m.x7, v8 a0.m.x8, v8 a0.m.x9, v8 a0.m.x10, v8 a0.m.x11]) (by kernel_rfl) (v_load (l := [vb a0.hM, v16 a0.ms, vb a0.hS, v8 a0.sc, vb a0.sO, .slice none 0 0, vb a0.hT, v32 a0.va, v32 a0.ec, vb a0.hO, v8 a0.ki, v8 a0.ni, v8 a0.m.x0, v8 a0.m.x1, v8 a0.m.x2, v8 a0.m.x3, v8 a0.m.x4, v8 a0.m.x5, v8 a0.m.x6, v8 a0.m.x7, v8 a0.m.x8, v8 a0.m.x9, v8 a0.m.x10, v8 a0.m.x11]) (a := ⟨g1, 0, none⟩) (by kernel_rfl) (by kernel_rfl) (at_blk (j := 0) rfl rfl)) ?_
                    obtain ⟨t11, hx11, hm⟩ := bind_some hm
                    refine o_stp ?_ (by kernel_rfl)
                    refine s_call 67 53 #[.agg #[vb a0.hM, v16 a0.ms, vb a0.hS, v8 a0.sc, vb a0.sO, .slice none 0 0, vb a0.hT, v32 a0.va, v32 a0.ec, vb a0.hO, v8 a0.ki, v8 a0.ni, v8 a0.m.x0, v8 a0.m.x1, v8 a0.m.x2, v8 a0.m.x3, v8 a0.m.x4, v8 a0.m.x5, v8 a0.m.x6, v8 a0.m.x7, v8 a0.m.x8, v8 a0.m.x9, v8 a0.m.x10, v8 a0.m.x11]] [] [0] (by kernel_rfl) (by kernel_rfl) (fun w hs => opts_Size_ok a0 t11 hx11 B _ w (St.cast (by kernel_rfl) hs)) (fun _ hx => ?_)
                    refine t_L (L' := [.blk g1 [vb a0.hM, v16 a0.ms, vb a0.hS, v8 a0.sc, vb a0.sO, .slice none 0 0, vb a0.hT, v32 a0.va, v32 a0.ec, vb a0.hO, v8 a0.ki, v8 a0.ni, v8 a0.m.x0, v8 a0.m.x1, v8 a0.m.x2, v8 a0.m.x3, v8 a0.m.x4, v8 a0.m.x5, v8 a0.m.x6, v8 a0.m.x7, v8 a0.m.x8, v8 a0.m.x9, v8 a0.m.x10, v8 a0.m.x11] 31]) (by kernel_rfl) ?_
                    refine o_run 3 [2] (l := []) .nil (E' := [(2, vb (decide (t11 ≤ 40)))]) (by kernel_rfl) ?_
                    refine o_end (by kernel_rfl) ?_
                    refine e_seq ?_
                    refine w_ret (by kernel_rfl) ?_
                    obtain rfl := Option.some.inj hm
                    exact e_retP () (vb (decide (t11 ≤ 40))) [] (by kernel_rfl) (by kernel_rfl) rfl (by kernel_rfl) (by kernel_rfl) trivial
            · replace hm := ite_f hb39 hm
              refine o_run 16 [1, 41] (l := []) .nil (E' := [(1, (pg g1)), (41, vb false)]) (by kernel_rfl) ?_
              refine o_end (by kernel_rfl) ?_
              refine e_seq ?_
              refine w_cond_f (.tmp 41) 830 831 (by kernel_rfl) (by kernel_rfl) ?_
              refine w_skip (by kernel_rfl) ?_
              refine e_blk ?_
              refine e_seq ?_
              refine w_seq 14 15 (by kernel_rfl) ?_
              refine w_region (by kernel_rfl) ?_
              refine o_run 5 [1, 65] (l := [(⟨g1, 5, none⟩, .slice none 0 0)]) (.one (at_blk (j := 0) rfl rfl) .nil) (E' := [(1, (pg g1)), (65, vb true)]) (by kernel_rfl) ?_
              refine o_val 66 (.load 31 (.tmp 1)) (.agg #[vb a0.hM, v16 a0.ms, vb a0.hS, v8 a0.sc, vb a0.sO, .slice none 0 0, vb a0.hT, v32 a0.va, v32 a0.ec, vb a0.hO, v8 a0.ki, v8 a0.ni, v8 a0.m.x0, v8 a0.m.x1, v8 a0.m.x2, v8 a0.m.x3, v8 a0.m.x4, v8 a0.m.x5, v8 a0.m.x6, v8 a0.m.x7, v8 a0.m.x8, v8 a0.m.x9, v8 a0.m.x10, v8 a0.m.x11]) (by kernel_rfl) (v_load (l := [vb a0.hM, v16 a0.ms, vb a0.hS, v8 a0.sc, vb a0.sO, .slice none 0 0, vb a0.hT, v32 a0.va, v32 a0.ec, vb a0.hO, v8 a0.ki, v8 a0.ni, v8 a0.m.x0, v8 a0.m.x1, v8 a0.m.x2, v8 a0.m.x3, v8 a0.m.x4, v8 a0.m.x5, v8 a0.m.x6, v8 a0.m.x7, v8 a0.m.x8, v8 a0.m.x9, v8 a0.m.x10, v8 a0.m.x11]) (a := ⟨g1, 0, none⟩) (by kernel_rfl) (by kernel_rfl) (at_blk (j := 0) rfl rfl)) ?_
              obtain ⟨t12, hx12, hm⟩ := bind_some hm
              refine o_stp ?_ (by kernel_rfl)
              refine s_call 67 53 #[.agg #[vb a0.hM, v16 a0.ms, vb a0.hS, v8 a0.sc, vb a0.sO, .slice none 0 0, vb a0.hT, v32 a0.va, v32 a0.ec, vb a0.hO, v8 a0.ki, v8 a0.ni, v8 a0.m.x0, v8 a0.m.x1, v8 a0.m.x2, v8 a0.m.x3, v8 a0.m.x4, v8 a0.m.x5, v8 a0.m.x6, v8 a0.m.x7, v8 a0.m.x8, v8 a0.m.x9, v8 a0.m.x10, v8 a0.m.x11]] [] [0] (by kernel_rfl) (by kernel_rfl) (fun w hs => opts_Size_ok a0 t12 hx12 B _ w (St.cast (by kernel_rfl) hs)) (fun _ hx => ?_)
              refine t_L (L' := [.blk g1 [vb a0.hM, v16 a0.ms, vb a0.hS, v8 a0.sc, vb a0.sO, .slice none 0 0, vb a0.hT, v32 a0.va, v32 a0.ec, vb a0.hO, v8 a0.ki, v8 a0.ni, v8 a0.m.x0, v8 a0.m.x1, v8 a0.m.x2, v8 a0.m.x3, v8 a0.m.x4, v8 a0.m.x5, v8 a0.m.x6, v8 a0.m.x7, v8 a0.m.x8, v8 a0.m.x9, v8 a0.m.x10, v8 a0.m.x11] 31]) (by kernel_rfl) ?_
              refine o_run 3 [2] (l := []) .nil (E' := [(2, vb (decide (t12 ≤ 40)))]) (by kernel_rfl) ?_
              refine o_end (by kernel_rfl) ?_
              refine e_seq ?_
              refine w_ret (by kernel_rfl) ?_
              obtain rfl := Option.some.inj hm
              exact e_retP () (vb (decide (t12 ≤ 40))) [] (by kernel_rfl) (by kernel_rfl) rfl (by kernel_rfl) (by kernel_rfl) trivial
    · replace hm := ite_f hb29 hm
      refine o_run 11 [1, 3] (l := [(⟨g1, 3, none⟩, v8 a0.sc)]) (.one (at_blk (j := 0) rfl rfl) .nil) (E' := [(1, (pg g1)), (3, vb (decide (a0.sc > 14)))]) (by kernel_rfl) ?_
      refine o_end (by kernel_rfl) ?_
      refine e_seq ?_
      refine w_cond (.tmp 3) 50 51 (decide (a0.sc > 14)) (by kernel_rfl) (by kernel_rfl) (fun hb43 => ?_) (fun hb43 => ?_)
      · replace hm := ite_t hb43 hm
        refine w_seq 100 101 (by kernel_rfl) ?_
        refine w_region (by kernel_rfl) ?_
        refine o_run 1 [2] (l := []) .nil (E' := [(2, vb false)]) (by kernel_rfl) ?_
        refine o_end (by kernel_rfl) ?_
        refine e_seq ?_
        refine w_ret (by kernel_rfl) ?_
        obtain rfl := Option.some.inj hm
        exact e_retP () (vb false) [] (by kernel_rfl) (by kernel_rfl) rfl (by kernel_rfl) (by kernel_rfl) trivial
      · replace hm := ite_f hb43 hm
        refine w_seq 102 103 (by kernel_rfl) ?_
        refine w_region (by kernel_rfl) ?_
        refine o_run 4 [1, 31] (l := [(⟨g1, 6, none⟩, vb a0.hT)]) (.one (at_blk (j := 0) rfl rfl) .nil) (E' := [(1, (pg g1)), (31, vb (!a0.hT))]) (by kernel_rfl) ?_
        refine o_split 31 (!a0.hT) (by kernel_rfl) (fun hb44 => ?_) (fun hb44 => ?_)
        · replace hm := ite_t hb44 hm
          refine o_run 4 [1, 31, 35] (l := [(⟨g1, 7, none⟩, v32 a0.va)]) (.one (at_blk (j := 0) rfl rfl) .nil) (E' := [(1, (pg g1)), (31, vb true), (35, vb (a0.va != 0))]) (by kernel_rfl) ?_
          refine o_split 35 (a0.va != 0) (by kernel_rfl) (fun hb45 => ?_) (fun hb45 => ?_)
          · replace hm := ite_t hb45 hm
            refine o_run 6 [1, 27] (l := []) .nil (E' := [(1, (pg g1)), (27, vb true)]) (by kernel_rfl) ?_
            refine o_end (by kernel_rfl) ?_
            refine e_seq ?_
            refine w_cond_t (.tmp 27) 206 207 (by kernel_rfl) (by kernel_rfl) ?_
            refine w_seq 412 413 (by kernel_rfl) ?_
            refine w_region (by kernel_rfl) ?_
            refine o_run 1 [2] (l := []) .nil (E' := [(2, vb false)]) (by kernel_rfl) ?_
            refine o_end (by kernel_rfl) ?_
            refine e_seq ?_
            refine w_ret (by kernel_rfl) ?_
            obtain rfl := Option.some.inj hm
            exact e_retP () (vb false) [] (by kernel_rfl) (by kernel_rfl) rfl (by kernel_rfl) (by kernel_rfl) trivial
          · replace hm := ite_f hb45 hm
            refine o_run 6 [1, 27] (l := [(⟨g1, 8, none⟩, v32 a0.ec)]) (.one (at_blk (j := 0) rfl rfl) .nil) (E' := [(1, (pg g1)), (27, vb (a0.ec != 0))]) (by kernel_rfl) ?_
            refine o_end (by kernel_rfl) ?_
            refine e_seq ?_
            refine w_cond (.tmp 27) 206 207 (a0.ec != 0) (by kernel_rfl) (by kernel_rfl) (fun hb46 => ?_) (fun hb46 => ?_)
            · replace hm := ite_t hb46 hm
              refine w_seq 412 413 (by kernel_rfl) ?_
              refine w_region (by kernel_rfl) ?_
              refine o_run 1 [2] (l := []) .nil (E' := [(2, vb false)]) (by kernel_rfl) ?_
              refine o_end (by kernel_rfl) ?_
              refine e_seq ?_
              refine w_ret (by kernel_rfl) ?_
              obtain rfl := Option.some.inj hm
              exact e_retP () (vb false) [] (by kernel_rfl) (by kernel_rfl) rfl (by kernel_rfl) (by kernel_rfl) trivial
            · replace hm := ite_f hb46 hm
              refine w_seq 414 415 (by kernel_rfl) ?_
              refine w_region (by kernel_rfl) ?_
              refine o_run 4 [1, 45] (l := [(⟨g1, 9, none⟩, vb a0.hO)]) (.one (at_blk (j := 0) rfl rfl) .nil) (E' := [(1, (pg g1)), (45, vb (!a0.hO))]) (by kernel_rfl) ?_
              refine o_split 45 (!a0.hO) (by kernel_rfl) (fun hb47 => ?_) (fun hb47 => ?_)
              · replace hm := ite_t hb47 hm
                refine o_run 4 [1, 45, 49] (l := [(⟨g1, 10, none⟩, v8 a0.ki)]) (.one (at_blk (j := 0) rfl rfl) .nil) (E' := [(1, (pg g1)), (45, vb true), (49, vb (a0.ki != 0))]) (by kernel_rfl) ?_
                refine o_split 49 (a0.ki != 0) (by kernel_rfl) (fun hb48 => ?_) (fun hb48 => ?_)
                · replace hm := ite_t hb48 hm
                  refine o_run 12 [1, 41] (l := []) .nil (E' := [(1, (pg g1)), (41, vb true)]) (by kernel_rfl) ?_
                  refine o_end (by kernel_rfl) ?_
                  refine e_seq ?_
                  refine w_cond_t (.tmp 41) 830 831 (by kernel_rfl) (by kernel_rfl) ?_
                  refine w_seq 1660 1661 (by kernel_rfl) ?_
                  refine w_region (by kernel_rfl) ?_
                  refine o_run 1 [2] (l := []) .nil (E' := [(2, vb false)]) (by kernel_rfl) ?_
                  refine o_end (by kernel_rfl) ?_
                  refine e_seq ?_
                  refine w_ret (by kernel_rfl) ?_
                  obtain rfl := Option.some.inj hm
                  exact e_retP () (vb false) [] (by kernel_rfl) (by kernel_rfl) rfl (by kernel_rfl) (by kernel_rfl) trivial
                · replace hm := ite_f hb48 hm
                  refine o_run 5 [1, 45, 54] (l := [(⟨g1, 11, none⟩, v8 a0.ni)]) (.one (at_blk (j := 0) rfl rfl) .nil) (E' := [(1, (pg g1)), (45, vb true), (54, vb (a0.ni != 0))]) (by kernel_rfl) ?_
                  refine o_split 54 (a0.ni != 0) (by kernel_rfl) (fun hb49 => ?_) (fun hb49 => ?_)
                  · replace hm := ite_t hb49 hm
                    refine o_run 7 [1, 41] (l := []) .nil (E' := [(1, (pg g1)), (41, vb true)]) (by kernel_rfl) ?_
                    refine o_end (by kernel_rfl) ?_
                    refine e_seq ?_
                    refine w_cond_t (.tmp 41) 830 831 (by kernel_rfl) (by kernel_rfl) ?_
                    refine w_seq 1660 1661 (by kernel_rfl) ?_
                    refine w_region (by kernel_rfl) ?_
                    refine o_run 1 [2] (l := []) .nil (E' := [(2, vb false)]) (by kernel_rfl) ?_
                    refine o_end (by kernel_rfl) ?_
                    refine e_seq ?_
                    refine w_ret (by kernel_rfl) ?_
                    obtain rfl := Option.some.inj hm
                    exact e_retP () (vb false) [] (by kernel_rfl) (by kernel_rfl) rfl (by kernel_rfl) (by kernel_rfl) trivial
                  · replace hm := ite_f hb49 hm
                    refine o_run 1 [1, 45, 54, 55] (l := []) .nil (E' := [(1, (pg g1)), (45, vb true), (54, vb false), (55, .pointer (some ⟨g1, 12, none⟩))]) (by kernel_rfl) ?_
                    refine o_val 56 (.load 29 (.tmp 55)) (.agg #[v8 a0.m.x0, v8 a0.m.x1, v8 a0.m.x2, v8 a0.m.x3, v8 a0.m.x4, v8 a0.m.x5, v8 a0.m.x6, v8 a0.m.x7, v8 a0.m.x8, v8 a0.m.x9, v8 a0.m.x10, v8 a0.m.x11]) (by kernel_rfl) (v_load (l := [v8 a0.m.x0, v8 a0.m.x1, v8 a0.m.x2, v8 a0.m.x3, v8 a0.m.x4, v8 a0.m.x5, v8 a0.m.x6, v8 a0.m.x7, v8 a0.m.x8, v8 a0.m.x9, v8 a0.m.x10, v8 a0.m.x11]) (a := ⟨g1, 12, none⟩) (by kernel_rfl) (by kernel_rfl) (at_blk (j := 0) rfl rfl)) ?_
                    refine o_run 1 [1, 45, 54, 56, 57] (l := []) .nil (E' := [(1, (pg g1)), (45, vb true), (54, vb false), (56, .agg #[v8 a0.m.x0, v8 a0.m.x1, v8 a0.m.x2, v8 a0.m.x3, v8 a0.m.x4, v8 a0.m.x5, v8 a0.m.x6, v8 a0.m.x7, v8 a0.m.x8, v8 a0.m.x9, v8 a0.m.x10, v8 a0.m.x11]), (57, .agg #[v8 0, v8 0, v8 0, v8 0, v8 0, v8 0, v8 0, v8 0, v8 0, v8 0, v8 0, v8 0])]) (by kernel_rfl) ?_
                    refine o_val 58 (.binOp .neq 29 (.tmp 56) (.tmp 57) 29) (vb (!((a0.m.x0 == 0) && ((a0.m.x1 == 0) && ((a0.m.x2 == 0) && ((a0.m.x3 == 0) && ((a0.m.x4 == 0) && ((a0.m.x5 == 0) && ((a0.m.x6 == 0) && ((a0.m.x7 == 0) && ((a0.m.x8 == 0) && ((a0.m.x9 == 0) && ((a0.m.x10 == 0) && (a0.m.x11 == 0)))))))))))))) (by kernel_rfl) (v_neS (xs := #[v8 a0.m.x0, v8 a0.m.x1, v8 a0.m.x2, v8 a0.m.x3, v8 a0.m.x4, v8 a0.m.x5, v8 a0.m.x6, v8 a0.m.x7, v8 a0.m.x8, v8 a0.m.x9, v8 a0.m.x10, v8 a0.m.x11]) (ys := #[v8 0, v8 0, v8 0, v8 0, v8 0, v8 0, v8 0, v8 0, v8 0, v8 0, v8 0, v8 0]) (b := ((a0.m.x0 == 0) && ((a0.m.x1 == 0) && ((a0.m.x2 == 0) && ((a0.m.x3 == 0) && ((a0.m.x4 == 0) && ((a0.m.x5 == 0) && ((a0.m.x6 == 0) && ((a0.m.x7 == 0) && ((a0.m.x8 == 0) && ((a0.m.x9 == 0) && ((a0.m.x10 == 0) && (a0.m.x11 == 0))))))))))))) (by kernel_rfl) (by kernel_rfl) (by kernel_rfl) (by kernel_rfl)) ?_
                    refine o_run 3 [1, 41] (l := []) .nil (E' := [(1, (pg g1)), (41, vb (!((a0.m.x0 == 0) && ((a0.m.x1 == 0) && ((a0.m.x2 == 0) && ((a0.m.x3 == 0) && ((a0.m.x4 == 0) && ((a0.m.x5 == 0) && ((a0.m.x6 == 0) && ((a0.m.x7 == 0) && ((a0.m.x8 == 0) && ((a0.m.x9 == 0) && ((a0.m.x10 == 0) && (a0.m.x11 == 0))))))))))))))]) (by kernel_rfl) ?_
                    refine o_end (by kernel_rfl) ?_
                    refine e_seq ?_
                    refine w_cond (.tmp 41) 830 831 (!((a0.m.x0 == 0) && ((a0.m.x1 == 0) && ((a0.m.x2 == 0) && ((a0.m.x3 == 0) && ((a0.m.x4 == 0) && ((a0.m.x5 == 0) && ((a0.m.x6 == 0) && ((a0.m.x7 == 0) && ((a0.m.x8 == 0) && ((a0.m.x9 == 0) && ((a0.m.x10 == 0) && (a0.m.x11 == 0))))))))))))) (by kernel_rfl) (by kernel_rfl) (fun hb50 => ?_) (fun hb50 => ?_)
                    · replace hm := ite_t hb50 hm
                      refine w_seq 1660 1661 (by kernel_rfl) ?_
                      refine w_region (by kernel_rfl) ?_
                      refine o_run 1 [2] (l := []) .nil (E' := [(2, vb false)]) (by kernel_rfl) ?_
                      refine o_end (by kernel_rfl) ?_
                      refine e_seq ?_
                      refine w_ret (by kernel_rfl) ?_
                      obtain rfl := Option.some.inj hm
                      exact e_retP () (vb false) [] (by kernel_rfl) (by kernel_rfl) rfl (by kernel_rfl) (by kernel_rfl) trivial
                    · replace hm := ite_f hb50 hm
                      refine w_skip (by kernel_rfl) ?_
                      refine e_blk ?_
                      refine e_seq ?_
                      refine w_seq 14 15 (by kernel_rfl) ?_
                      refine w_region (by kernel_rfl) ?_
                      refine o_run 5 [1, 65] (l := [(⟨g1, 5, none⟩, .slice none 0 0)]) (.one (at_blk (j := 0) rfl rfl) .nil) (E' := [(1, (pg g1)), (65, vb true)]) (by kernel_rfl) ?_
                      refine o_val 66 (.load 31 (.tmp 1)) (.agg #[vb a0.hM, v16 a0.ms, vb a0.hS, v8 a0.sc, vb a0.sO, .slice none 0 0, vb a0.hT, v32 a0.va, v32 a0.ec, vb a0.hO, v8 a0.ki, v8 a0.ni, v8 a0.m.x0, v8 a0.m.x1, v8 a0.m.x2, v8 a0.m.x3, v8 a0.m.x4, v8 a0.m.x5, v8 a0.m.x6, v8 a0.m.x7, v8 a0.m.x8, v8 a0.m.x9, v8 a0.m.x10, v8 a0.m.x11]) (by kernel_rfl) (v_load (l := [vb a0.hM, v16 a0.ms, vb a0.hS, v8 a0.sc, vb a0.sO, .slice none 0 0, vb a0.hT, v32 a0.va, v32 a0.ec, vb a0.hO, v8 a0.ki, v8 a0.ni, v8 a0.m.x0, v8 a0.m.x1, v8 a0.m.x2, v8 a0.m.x3, v8 a0.m.x4, v8 a0.m.x5, v8 a0.m.x6, v8 a0.m.x7, v8 a0.m.x8, v8 a0.m.x9, v8 a0.m.x10, v8 a0.m.x11]) (a := ⟨g1, 0, none⟩) (by kernel_rfl) (by kernel_rfl) (at_blk (j := 0) rfl rfl)) ?_
                      obtain ⟨t13, hx13, hm⟩ := bind_some hm
                      refine o_stp ?_ (by kernel_rfl)
                      refine s_call 67 53 #[.agg #[vb a0.hM, v16 a0.ms, vb a0.hS, v8 a0.sc, vb a0.sO, .slice none 0 0, vb a0.hT, v32 a0.va, v32 a0.ec, vb a0.hO, v8 a0.ki, v8 a0.ni, v8 a0.m.x0, v8 a0.m.x1, v8 a0.m.x2, v8 a0.m.x3, v8 a0.m.x4, v8 a0.m.x5, v8 a0.m.x6, v8 a0.m.x7, v8 a0.m.x8, v8 a0.m.x9, v8 a0.m.x10, v8 a0.m.x11]] [] [0] (by kernel_rfl) (by kernel_rfl) (fun w hs => opts_Size_ok a0 t13 hx13 B _ w (St.cast (by kernel_rfl) hs)) (fun _ hx => ?_)
                      refine t_L (L' := [.blk g1 [vb a0.hM, v16 a0.ms, vb a0.hS, v8 a0.sc, vb a0.sO, .slice none 0 0, vb a0.hT, v32 a0.va, v32 a0.ec, vb a0.hO, v8 a0.ki, v8 a0.ni, v8 a0.m.x0, v8 a0.m.x1, v8 a0.m.x2, v8 a0.m.x3, v8 a0.m.x4, v8 a0.m.x5, v8 a0.m.x6, v8 a0.m.x7, v8 a0.m.x8, v8 a0.m.x9, v8 a0.m.x10, v8 a0.m.x11] 31]) (by kernel_rfl) ?_
                      refine o_run 3 [2] (l := []) .nil (E' := [(2, vb (decide (t13 ≤ 40)))]) (by kernel_rfl) ?_
                      refine o_end (by kernel_rfl) ?_
                      refine e_seq ?_
                      refine w_ret (by kernel_rfl) ?_
                      obtain rfl := Option.some.inj hm
                      exact e_retP () (vb (decide (t13 ≤ 40))) [] (by kernel_rfl) (by kernel_rfl) rfl (by kernel_rfl) (by kernel_rfl) trivial
              · replace hm := ite_f hb47 hm
                refine o_run 16 [1, 41] (l := []) .nil (E' := [(1, (pg g1)), (41, vb false)]) (by kernel_rfl) ?_
                refine o_end (by kernel_rfl) ?_
                refine e_seq ?_
                refine w_cond_f (.tmp 41) 830 831 (by kernel_rfl) (by kernel_rfl) ?_
                refine w_skip (by kernel_rfl) ?_
                refine e_blk ?_
                refine e_seq ?_
                refine w_seq 14 15 (by kernel_rfl) ?_
                refine w_region (by kernel_rfl) ?_
                refine o_run 5 [1, 65] (l := [(⟨g1, 5, none⟩, .slice none 0 0)]) (.one (at_blk (j := 0) rfl rfl) .nil) (E' := [(1, (pg g1)), (65, vb true)]) (by kernel_rfl) ?_
                refine o_val 66 (.load 31 (.tmp 1)) (.agg #[vb a0.hM, v16 a0.ms, vb a0.hS, v8 a0.sc, vb a0.sO, .slice none 0 0, vb a0.hT, v32 a0.va, v32 a0.ec, vb a0.hO, v8 a0.ki, v8 a0.ni, v8 a0.m.x0, v8 a0.m.x1, v8 a0.m.x2, v8 a0.m.x3, v8 a0.m.x4, v8 a0.m.x5, v8 a0.m.x6, v8 a0.m.x7, v8 a0.m.x8, v8 a0.m.x9, v8 a0.m.x10, v8 a0.m.x11]) (by kernel_rfl) (v_load (l := [vb a0.hM, v16 a0.ms, vb a0.hS, v8 a0.sc, vb a0.sO, .slice none 0 0, vb a0.hT, v32 a0.va, v32 a0.ec, vb a0.hO, v8 a0.ki, v8 a0.ni, v8 a0.m.x0, v8 a0.m.x1, v8 a0.m.x2, v8 a0.m.x3, v8 a0.m.x4, v8 a0.m.x5, v8 a0.m.x6, v8 a0.m.x7, v8 a0.m.x8, v8 a0.m.x9, v8 a0.m.x10, v8 a0.m.x11]) (a := ⟨g1, 0, none⟩) (by kernel_rfl) (by kernel_rfl) (at_blk (j := 0) rfl rfl)) ?_
                obtain ⟨t14, hx14, hm⟩ := bind_some hm
                refine o_stp ?_ (by kernel_rfl)
                refine s_call 67 53 #[.agg #[vb a0.hM, v16 a0.ms, vb a0.hS, v8 a0.sc, vb a0.sO, .slice none 0 0, vb a0.hT, v32 a0.va, v32 a0.ec, vb a0.hO, v8 a0.ki, v8 a0.ni, v8 a0.m.x0, v8 a0.m.x1, v8 a0.m.x2, v8 a0.m.x3, v8 a0.m.x4, v8 a0.m.x5, v8 a0.m.x6, v8 a0.m.x7, v8 a0.m.x8, v8 a0.m.x9, v8 a0.m.x10, v8 a0.m.x11]] [] [0] (by kernel_rfl) (by kernel_rfl) (fun w hs => opts_Size_ok a0 t14 hx14 B _ w (St.cast (by kernel_rfl) hs)) (fun _ hx => ?_)
                refine t_L (L' := [.blk g1 [vb a0.hM, v16 a0.ms, vb a0.hS, v8 a0.sc, vb a0.sO, .slice none 0 0, vb a0.hT, v32 a0.va, v32 a0.ec, vb a0.hO, v8 a0.ki, v8 a0.ni, v8 a0.m.x0, v8 a0.m.x1, v8 a0.m.x2, v8 a0.m.x3, v8 a0.m.x4, v8 a0.m.x5, v8 a0.m.x6, v8 a0.m.x7, v8 a0.m.x8, v8 a0.m.x9, v8 a0.m.x10, v8 a0.m.x11] 31]) (by kernel_rfl) ?_
                refine o_run 3 [2] (l := []) .nil (E' := [(2, vb (decide (t14 ≤ 40)))]) (by kernel_rfl) ?_
                refine o_end (by kernel_rfl) ?_
                refine e_seq ?_
                refine w_ret (by kernel_rfl) ?_
                obtain rfl := Option.some.inj hm
                exact e_retP () (vb (decide (t14 ≤ 40))) [] (by kernel_rfl) (by kernel_rfl) rfl (by kernel_rfl) (by kernel_rfl) trivial
        · replace hm := ite_f hb44 hm
          refine o_run 10 [1, 27] (l := []) .nil (E' := [(1, (pg g1)), (27, vb false)]) (by kernel_rfl) ?_
          refine o_end (by kernel_rfl) ?_
          refine e_seq ?_
          refine w_cond_f (.tmp 27) 206 207 (by kernel_rfl) (by kernel_rfl) ?_
          refine w_seq 414 415 (by kernel_rfl) ?_
          refine w_region (by kernel_rfl) ?_
          refine o_run 4 [1, 45] (l := [(⟨g1, 9, none⟩, vb a0.hO)]) (.one (at_blk (j := 0) rfl rfl) .nil) (E' := [(1, (pg g1)), (45, vb (!a0.hO))]) (by kernel_rfl) ?_
          refine o_split 45 (!a0.hO) (by kernel_rfl) (fun hb51 => ?_) (fun hb51 => ?_)
          · replace hm := ite_t hb51 hm
            refine o_run 4 [1, 45, 49] (l := [(⟨g1, 10, none⟩, v8 a0.ki)]) (.one (at_blk (j := 0) rfl rfl) .nil) (E' := [(1, (pg g1)), (45, vb true), (49, vb (a0.ki != 0))]) (by kernel_rfl) ?_
            refine o_split 49 (a0.ki != 0) (by kernel_rfl) (fun hb52 => ?_) (fun hb52 => ?_)
            · replace hm := ite_t hb52 hm
              refine o_run 12 [1, 41] (l := []) .nil (E' := [(1, (pg g1)), (41, vb true)]) (by kernel_rfl) ?_
              refine o_end (by kernel_rfl) ?_
              refine e_seq ?_
              refine w_cond_t (.tmp 41) 830 831 (by kernel_rfl) (by kernel_rfl) ?_
              refine w_seq 1660 1661 (by kernel_rfl) ?_
              refine w_region (by kernel_rfl) ?_
              refine o_run 1 [2] (l := []) .nil (E' := [(2, vb false)]) (by kernel_rfl) ?_
              refine o_end (by kernel_rfl) ?_
              refine e_seq ?_
              refine w_ret (by kernel_rfl) ?_
              obtain rfl := Option.some.inj hm
              exact e_retP () (vb false) [] (by kernel_rfl) (by kernel_rfl) rfl (by kernel_rfl) (by kernel_rfl) trivial
            · replace hm := ite_f hb52 hm
              refine o_run 5 [1, 45, 54] (l := [(⟨g1, 11, none⟩, v8 a0.ni)]) (.one (at_blk (j := 0) rfl rfl) .nil) (E' := [(1, (pg g1)), (45, vb true), (54, vb (a0.ni != 0))]) (by kernel_rfl) ?_
              refine o_split 54 (a0.ni != 0) (by kernel_rfl) (fun hb53 => ?_) (fun hb53 => ?_)
              · replace hm := ite_t hb53 hm
                refine o_run 7 [1, 41] (l := []) .nil (E' := [(1, (pg g1)), (41, vb true)]) (by kernel_rfl) ?_
                refine o_end (by kernel_rfl) ?_
                refine e_seq ?_
                refine w_cond_t (.tmp 41) 830 831 (by kernel_rfl) (by kernel_rfl) ?_
                refine w_seq 1660 1661 (by kernel_rfl) ?_
                refine w_region (by kernel_rfl) ?_
                refine o_run 1 [2] (l := []) .nil (E' := [(2, vb false)]) (by kernel_rfl) ?_
                refine o_end (by kernel_rfl) ?_
                refine e_seq ?_
                refine w_ret (by kernel_rfl) ?_
                obtain rfl := Option.some.inj hm
                exact e_retP () (vb false) [] (by kernel_rfl) (by kernel_rfl) rfl (by kernel_rfl) (by kernel_rfl) trivial
              · replace hm := ite_f hb53 hm
                refine o_run 1 [1, 45, 54, 55] (l := []) .nil (E' := [(1, (pg g1)), (45, vb true), (54, vb false), (55, .pointer (some ⟨g1, 12, none⟩))]) (by kernel_rfl) ?_
                refine o_val 56 (.load 29 (.tmp 55)) (.agg #[v8 a0.m.x0, v8 a0.m.x1, v8 a0.m.x2, v8 a0.m.x3, v8 a0.m.x4, v8 a0.m.x5, v8 a0.m.x6, v8 a0.m.x7, v8 a0.m.x8, v8 a0.m.x9, v8 a0.m.x10, v8 a0.m.x11]) (by kernel_rfl) (v_load (l := [v8 a0.m.x0, v8 a0.m.x1, v8 a0.m.x2, v8 a0.m.x3, v8 a0.m.x4, v8 a0.m.x5, v8 a0.m.x6, v8 a0.m.x7, v8 a0.m.x8, v8 a0.m.x9, v8 a0.m.x10, v8 a0.m.x11]) (a := ⟨g1, 12, none⟩) (by kernel_rfl) (by kernel_rfl) (at_blk (j := 0) rfl rfl)) ?_
                refine o_run 1 [1, 45, 54, 56, 57] (l := []) .nil (E' := [(1, (pg g1)), (45, vb true), (54, vb false), (56, .agg #[v8 a0.m.x0, v8 a0.m.x1, v8 a0.m.x2, v8 a0.m.x3, v8 a0.m.x4, v8 a0.m.x5, v8 a0.m.x6, v8 a0.m.x7, v8 a0.m.x8, v8 a0.m.x9, v8 a0.m.x10, v8 a0.m.x11]), (57, .agg #[v8 0, v8 0, v8 0, v8 0, v8 0, v8 0, v8 0, v8 0, v8 0, v8 0, v8 0, v8 0])]) (by kernel_rfl) ?_
                refine o_val 58 (.binOp .neq 29 (.tmp 56) (.tmp 57) 29) (vb (!((a0.m.x0 == 0) && ((a0.m.x1 == 0) && ((a0.m.x2 == 0) && ((a0.m.x3 == 0) && ((a0.m.x4 == 0) && ((a0.m.x5 == 0) && ((a0.m.x6 == 0) && ((a0.m.x7 == 0) && ((a0.m.x8 == 0) && ((a0.m.x9 == 0) && ((a0.m.x10 == 0) && (a0.m.x11 == 0)))))))))))))) (by kernel_rfl) (v_neS (xs := #[v8 a0.m.x0, v8 a0.m.x1, v8 a0.m.x2, v8 a0.m.x3, v8 a0.m.x4, v8 a0.m.x5, v8 a0.m.x6, v8 a0.m.x7, v8 a0.m.x8, v8 a0.m.x9, v8 a0.m.x10, v8 a0.m.x11]) (ys := #[v8 0, v8 0, v8 0, v8 0, v8 0, v8 0, v8 0, v8 0, v8 0, v8 0, v8 0, v8 0]) (b := ((a0.m.x0 == 0) && ((a0.m.x1 == 0) && ((a0.m.x2 == 0) && ((a0.m.x3 == 0) && ((a0.m.x4 == 0) && ((a0.m.x5 == 0) && ((a0.m.x6 == 0) && ((a0.m.x7 == 0) && ((a0.m.x8 == 0) && ((a0.m.x9 == 0) && ((a0.m.x10 == 0) && (a0.m.x11 == 0))))))))))))) (by kernel_rfl) (by kernel_rfl) (by kernel_rfl) (by kernel_rfl)) ?_
                refine o_run 3 [1, 41] (l := []) .nil (E' := [(1, (pg g1)), (41, vb (!((a0.m.x0 == 0) && ((a0.m.x1 == 0) && ((a0.m.x2 == 0) && ((a0.m.x3 == 0) && ((a0.m.x4 == 0) && ((a0.m.x5 == 0) && ((a0.m.x6 == 0) && ((a0.m.x7 == 0) && ((a0.m.x8 == 0) && ((a0.m.x9 == 0) && ((a0.m.x10 == 0) && (a0.m.x11 == 0))))))))))))))]) (by kernel_rfl) ?_
                refine o_end (by kernel_rfl) ?_
                refine e_seq ?_
                refine w_cond (.tmp 41) 830 831 (!((a0.m.x0 == 0) && ((a0.m.x1 == 0) && ((a0.m.x2 == 0) && ((a0.m.x3 == 0) && ((a0.m.x4 == 0) && ((a0.m.x5 == 0) && ((a0.m.x6 == 0) && ((a0.m.x7 == 0) && ((a0.m.x8 == 0) && ((a0.m.x9 == 0) && ((a0.m.x10 == 0) && (a0.m.x11 == 0))))))))))))) (by kernel_rfl) (by kernel_rfl) (fun hb54 => ?_) (fun hb54 => ?_)
                · replace hm := ite_t hb54 hm
                  refine w_seq 1660 1661 (by kernel_rfl) ?_
                  refine w_region (by kernel_rfl) ?_
                  refine o_run 1 [2] (l := []) .nil (E' := [(2, vb false)]) (by kernel_rfl) ?_
                  refine o_end (by kernel_rfl) ?_
                  refine e_seq ?_
                  refine w_ret (by kernel_rfl) ?_
                  obtain rfl := Option.some.inj hm
                  exact e_retP () (vb false) [] (by kernel_rfl) (by kernel_rfl) rfl (by kernel_rfl) (by kernel_rfl) trivial
                · replace hm := ite_f hb54 hm
                  refine w_skip (by kernel_rfl) ?_
                  refine e_blk ?_
                  refine e_seq ?_
                  refine w_seq 14 15 (by kernel_rfl) ?_
                  refine w_region (by kernel_rfl) ?_
                  refine o_run 5 [1, 65] (l := [(⟨g1, 5, none⟩, .slice none 0 0)]) (.one (at_blk (j := 0) rfl rfl) .nil) (E' := [(1, (pg g1)), (65, vb true)]) (by kernel_rfl) ?_
                  refine o_val 66 (.load 31 (.tmp 1)) (.agg #[vb a0.hM, v16 a0.ms, vb a0.hS, v8 a0.sc, vb a0.sO, .slice none 0 0, vb a0.hT, v32 a0.va, v32 a0.ec, vb a0.hO, v8 a0.ki, v8 a0.ni, v8 a0.m.x0, v8 a0.m.x1, v8 a0.m.x2, v8 a0.m.x3, v8 a0.m.x4, v8 a0.m.x5, v8 a0.m.x6, v8 a0.m.x7, v8 a0.m.x8, v8 a0.m.x9, v8 a0.m.x10, v8 a0.m.x11]) (by kernel_rfl) (v_load (l := [vb a0.hM, v16 a0.ms, vb a0.hS, v8 a0.sc, vb a0.sO, .slice none 0 0, vb a0.hT, v32 a0.va, v32 a0.ec, vb a0.hO, v8 a0.ki, v8 a0.ni, v8 a0.m.x0, v8 a0.m.x1, v8 a0.m.x2, v8 a0.m.x3, v8 a0.m.x4, v8 a0.m.x5, v8 a0.m.x6, v8 a0.m.x7, v8 a0.m.x8, v8 a0.m.x9, v8 a0.m.x10, v8 a0.m.x11]) (a := ⟨g1, 0, none⟩) (by kernel_rfl) (by kernel_rfl) (at_blk (j := 0) rfl rfl)) ?_
                  obtain ⟨t15, hx15, hm⟩ := bind_some hm
                  refine o_stp ?_ (by kernel_rfl)
                  refine s_call 67 53 #[.agg #[vb a0.hM, v16 a0.ms, vb a0.hS, v8 a0.sc, vb a0.sO, .slice none 0 0, vb a0.hT, v32 a0.va, v32 a0.ec, vb a0.hO, v8 a0.ki, v8 a0.ni, v8 a0.m.x0, v8 a0.m.x1, v8 a0.m.x2, v8 a0.m.x3, v8 a0.m.x4, v8 a0.m.x5, v8 a0.m.x6, v8 a0.m.x7, v8 a0.m.x8, v8 a0.m.x9, v8 a0.m.x10, v8 a0.m.x11]] [] [0] (by kernel_rfl) (by kernel_rfl) (fun w hs => opts_Size_ok a0 t15 hx15 B _ w (St.cast (by kernel_rfl) hs)) (fun _ hx => ?_)
                  refine t_L (L' := [.blk g1 [vb a0.hM, v16 a0.ms, vb a0.hS, v8 a0.sc, vb a0.sO, .slice none 0 0, vb a0.hT, v32 a0.va, v32 a0.ec, vb a0.hO, v8 a0.ki, v8 a0.ni, v8 a0.m.x0, v8 a0.m.x1, v8 a0.m.x2, v8 a0.m.x3, v8 a0.m.x4, v8 a0.m.x5, v8 a0.m.x6, v8 a0.m.x7, v8 a0.m.x8, v8 a0.m.x9, v8 a0.m.x10, v8 a0.m.x11] 31]) (by kernel_rfl) ?_
                  refine o_run 3 [2] (l := []) .nil (E' := [(2, vb (decide (t15 ≤ 40)))]) (by kernel_rfl) ?_
                  refine o_end (by kernel_rfl) ?_
                  refine e_seq ?_
                  refine w_ret (by kernel_rfl) ?_
                  obtain rfl := Option.some.inj hm
                  exact e_retP () (vb (decide (t15 ≤ 40))) [] (by kernel_rfl) (by kernel_rfl) rfl (by kernel_rfl) (by kernel_rfl) trivial
          · replace hm := ite_f hb51 hm
            refine o_run 16 [1, 41] (l := []) .nil (E' := [(1, (pg g1)), (41, vb false)]) (by kernel_rfl) ?_
            refine o_end (by kernel_rfl) ?_
            refine e_seq ?_
            refine w_cond_f (.tmp 41) 830 831 (by kernel_rfl) (by kernel_rfl) ?_
            refine w_skip (by kernel_rfl) ?_
            refine e_blk ?_
            refine e_seq ?_
            refine w_seq 14 15 (by kernel_rfl) ?_
            refine w_region (by kernel_rfl) ?_
            refine o_run 5 [1, 65] (l := [(⟨g1, 5, none⟩, .slice none 0 0)]) (.one (at_blk (j := 0) rfl rfl) .nil) (E' := [(1, (pg g1)), (65, vb true)]) (by kernel_rfl) ?_
            refine o_val 66 (.load 31 (.tmp 1)) (.agg #[vb a0.hM, v16 a0.ms, vb a0.hS, v8 a0.sc, vb a0.sO, .slice none 0 0, vb a0.hT, v32 a0.va, v32 a0.ec, vb a0.hO, v8 a0.ki, v8 a0.ni, v8 a0.m.x0, v8 a0.m.x1, v8 a0.m.x2, v8 a0.m.x3, v8 a0.m.x4, v8 a0.m.x5, v8 a0.m.x6, v8 a0.m.x7, v8 a0.m.x8, v8 a0.m.x9, v8 a0.m.x10, v8 a0.m.x11]) (by kernel_rfl) (v_load (l := [vb a0.hM, v16 a0.ms, vb a0.hS, v8 a0.sc, vb a0.sO, .slice none 0 0, vb a0.hT, v32 a0.va, v32 a0.ec, vb a0.hO, v8 a0.ki, v8 a0.ni, v8 a0.m.x0, v8 a0.m.x1, v8 a0.m.x2, v8 a0.m.x3, v8 a0.m.x4, v8 a0.m.x5, v8 a0.m.x6, v8 a0.m.x7, v8 a0.m.x8, v8 a0.m.x9, v8 a0.m.x10, v8 a0.m.x11]) (a := ⟨g1, 0, none⟩) (by kernel_rfl) (by kernel_rfl) (at_blk (j := 0) rfl rfl)) ?_
            obtain ⟨t16, hx16, hm⟩ := bind_some hm
            refine o_stp ?_ (by kernel_rfl)
            refine s_call 67 53 #[.agg #[vb a0.hM, v16 a0.ms, vb a0.hS, v8 a0.sc, vb a0.sO, .slice none 0 0, vb a0.hT, v32 a0.va, v32 a0.ec, vb a0.hO, v8 a0.ki, v8 a0.ni, v8 a0.m.x0, v8 a0.m.x1, v8 a0.m.x2, v8 a0.m.x3, v8 a0.m.x4, v8 a0.m.x5, v8 a0.m.x6, v8 a0.m.x7, v8 a0.m.x8, v8 a0.m.x9, v8 a0.m.x10, v8 a0.m.x11]] [] [0] (by kernel_rfl) (by kernel_rfl) (fun w hs => opts_Size_ok a0 t16 hx16 B _ w (St.cast (by kernel_rfl) hs)) (fun _ hx => ?_)
            refine t_L (L' := [.blk g1 [vb a0.hM, v16 a0.ms, vb a0.hS, v8 a0.sc, vb a0.sO, .slice none 0 0, vb a0.hT, v32 a0.va, v32 a0.ec, vb a0.hO, v8 a0.ki, v8 a0.ni, v8 a0.m.x0, v8 a0.m.x1, v8 a0.m.x2, v8 a0.m.x3, v8 a0.m.x4, v8 a0.m.x5, v8 a0.m.x6, v8 a0.m.x7, v8 a0.m.x8, v8 a0.m.x9, v8 a0.m.x10, v8 a0.m.x11] 31]) (by kernel_rfl) ?_
            refine o_run 3 [2] (l := []) .nil (E' := [(2, vb (decide (t16 ≤ 40)))]) (by kernel_rfl) ?_
            refine o_end (by kernel_rfl) ?_
            refine e_seq ?_
            refine w_ret (by kernel_rfl) ?_
            obtain rfl := Option.some.inj hm
            exact e_retP () (vb (decide (t16 ≤ 40))) [] (by kernel_rfl) (by kernel_rfl) rfl (by kernel_rfl) (by kernel_rfl) trivial
def seg_May.f (a0 : TS_o) : Option (Bool) :=
  ((opts_May.f a0.o).bind fun t1 => (if t1 then (if decide (a0.fl ≤ 63) then (some true) else (some false)) else (some false)))
theorem seg_May_ok (a0 : TS_o) (r : Bool) (hm : seg_May.f a0 = some r) (B G : Asn) (w : World) (hs : St B G [] w) :
    Calls Try.prog 13 #[.agg #[v16 a0.sr, v16 a0.ds, v32 a0.sq, v32 a0.ak, v8 a0.fl, v16 a0.wi, v16 a0.ur, vb a0.o.hM, v16 a0.o.ms, vb a0.o.hS, v8 a0.o.sc, vb a0.o.sO, .slice none 0 0, vb a0.o.hT, v32 a0.o.va, v32 a0.o.ec, vb a0.o.hO, v8 a0.o.ki, v8 a0.o.ni, v8 a0.o.m.x0, v8 a0.o.m.x1, v8 a0.o.m.x2, v8 a0.o.m.x3, v8 a0.o.m.x4, v8 a0.o.m.x5, v8 a0.o.m.x6, v8 a0.o.m.x7, v8 a0.o.m.x8, v8 a0.o.m.x9, v8 a0.o.m.x10, v8 a0.o.m.x11, .slice none 0 0]] w (Post (X := Unit) (fun x => vb r) (fun x => B) G (fun x => []) (fun x => True)) := by
  unfold seg_May.f at hm
  refine calls_W (F := Try.f13) Try.func13 rfl (by kernel_rfl) (L := []) ?_ hs
  refine w_seq 2 3 (by kernel_rfl) ?_
  refine w_region (by kernel_rfl) ?_
  refine o_stp ?_ (by kernel_rfl)
  refine s_new 1 (fun g1 => (pg g1)) [v16 a0.sr, v16 a0.ds, v32 a0.sq, v32 a0.ak, v8 a0.fl, v16 a0.wi, v16 a0.ur, vb a0.o.hM, v16 a0.o.ms, vb a0.o.hS, v8 a0.o.sc, vb a0.o.sO, .slice none 0 0, vb a0.o.hT, v32 a0.o.va, v32 a0.o.ec, vb a0.o.hO, v8 a0.o.ki, v8 a0.o.ni, v8 a0.o.m.x0, v8 a0.o.m.x1, v8 a0.o.m.x2, v8 a0.o.m.x3, v8 a0.o.m.x4, v8 a0.o.m.x5, v8 a0.o.m.x6, v8 a0.o.m.x7, v8 a0.o.m.x8, v8 a0.o.m.x9, v8 a0.o.m.x10, v8 a0.o.m.x11, .slice none 0 0] 34 (fun _ => by kernel_rfl) (fun g1 => ?_)
  refine o_run 1 [1] (l := []) .nil (E' := [(1, (pg g1))]) (by kernel_rfl) ?_
  refine o_end (by kernel_rfl) ?_
  refine e_seq ?_
  refine w_seq 6 7 (by kernel_rfl) ?_
  refine w_region (by kernel_rfl) ?_
  refine o_run 1 [1, 3] (l := []) .nil (E' := [(1, (pg g1)), (3, .pointer (some ⟨g1, 7, none⟩))]) (by kernel_rfl) ?_
  refine o_val 4 (.load 31 (.tmp 3)) (.agg #[vb a0.o.hM, v16 a0.o.ms, vb a0.o.hS, v8 a0.o.sc, vb a0.o.sO, .slice none 0 0, vb a0.o.hT, v32 a0.o.va, v32 a0.o.ec, vb a0.o.hO, v8 a0.o.ki, v8 a0.o.ni, v8 a0.o.m.x0, v8 a0.o.m.x1, v8 a0.o.m.x2, v8 a0.o.m.x3, v8 a0.o.m.x4, v8 a0.o.m.x5, v8 a0.o.m.x6, v8 a0.o.m.x7, v8 a0.o.m.x8, v8 a0.o.m.x9, v8 a0.o.m.x10, v8 a0.o.m.x11]) (by kernel_rfl) (v_load (l := [vb a0.o.hM, v16 a0.o.ms, vb a0.o.hS, v8 a0.o.sc, vb a0.o.sO, .slice none 0 0, vb a0.o.hT, v32 a0.o.va, v32 a0.o.ec, vb a0.o.hO, v8 a0.o.ki, v8 a0.o.ni, v8 a0.o.m.x0, v8 a0.o.m.x1, v8 a0.o.m.x2, v8 a0.o.m.x3, v8 a0.o.m.x4, v8 a0.o.m.x5, v8 a0.o.m.x6, v8 a0.o.m.x7, v8 a0.o.m.x8, v8 a0.o.m.x9, v8 a0.o.m.x10, v8 a0.o.m.x11]) (a := ⟨g1, 7, none⟩) (by kernel_rfl) (by kernel_rfl) (at_blk (j := 0) rfl rfl)) ?_
  obtain ⟨t1, hx1, hm⟩ := bind_some hm
  refine o_stp ?_ (by kernel_rfl)
  refine s_call 5 34 #[.agg #[vb a0.o.hM, v16 a0.o.ms, vb a0.o.hS, v8 a0.o.sc, vb a0.o.sO, .slice none 0 0, vb a0.o.hT, v32 a0.o.va, v32 a0.o.ec, vb a0.o.hO, v8 a0.o.ki, v8 a0.o.ni, v8 a0.o.m.x0, v8 a0.o.m.x1, v8 a0.o.m.x2, v8 a0.o.m.x3, v8 a0.o.m.x4, v8 a0.o.m.x5, v8 a0.o.m.x6, v8 a0.o.m.x7, v8 a0.o.m.x8, v8 a0.o.m.x9, v8 a0.o.m.x10, v8 a0.o.m.x11]] [] [0] (by kernel_rfl) (by kernel_rfl) (fun w hs => opts_May_ok a0.o t1 hx1 B _ w (St.cast (by kernel_rfl) hs)) (fun _ hx => ?_)
  refine t_L (L' := [.blk g1 [v16 a0.sr, v16 a0.ds, v32 a0.sq, v32 a0.ak, v8 a0.fl, v16 a0.wi, v16 a0.ur, vb a0.o.hM, v16 a0.o.ms, vb a0.o.hS, v8 a0.o.sc, vb a0.o.sO, .slice none 0 0, vb a0.o.hT, v32 a0.o.va, v32 a0.o.ec, vb a0.o.hO, v8 a0.o.ki, v8 a0.o.ni, v8 a0.o.m.x0, v8 a0.o.m.x1, v8 a0.o.m.x2, v8 a0.o.m.x3, v8 a0.o.m.x4, v8 a0.o.m.x5, v8 a0.o.m.x6, v8 a0.o.m.x7, v8 a0.o.m.x8, v8 a0.o.m.x9, v8 a0.o.m.x10, v8 a0.o.m.x11, .slice none 0 0] 34]) (by kernel_rfl) ?_
  refine o_run 1 [1, 6] (l := []) .nil (E' := [(1, (pg g1)), (6, vb t1)]) (by kernel_rfl) ?_
  refine o_split 6 t1 (by kernel_rfl) (fun hb1 => ?_) (fun hb1 => ?_)
  · replace hm := ite_t hb1 hm
    refine o_run 5 [1, 11] (l := [(⟨g1, 4, none⟩, v8 a0.fl)]) (.one (at_blk (j := 0) rfl rfl) .nil) (E' := [(1, (pg g1)), (11, vb (decide (a0.fl ≤ 63)))]) (by kernel_rfl) ?_
    refine o_split 11 (decide (a0.fl ≤ 63)) (by kernel_rfl) (fun hb2 => ?_) (fun hb2 => ?_)
    · replace hm := ite_t hb2 hm
      refine o_run 6 [2] (l := [(⟨g1, 31, none⟩, .slice none 0 0)]) (.one (at_blk (j := 0) rfl rfl) .nil) (E' := [(2, vb true)]) (by kernel_rfl) ?_
      refine o_end (by kernel_rfl) ?_
      refine e_seq ?_
      refine w_ret (by kernel_rfl) ?_
      obtain rfl := Option.some.inj hm
      exact e_retP () (vb true) [] (by kernel_rfl) (by kernel_rfl) rfl (by kernel_rfl) (by kernel_rfl) trivial
    · replace hm := ite_f hb2 hm
      refine o_run 6 [2] (l := []) .nil (E' := [(2, vb false)]) (by kernel_rfl) ?_
      refine o_end (by kernel_rfl) ?_
      refine e_seq ?_
      refine w_ret (by kernel_rfl) ?_
      obtain rfl := Option.some.inj hm
      exact e_retP () (vb false) [] (by kernel_rfl) (by kernel_rfl) rfl (by kernel_rfl) (by kernel_rfl) trivial
  · replace hm := ite_f hb1 hm
    refine o_run 11 [2] (l := []) .nil (E' := [(2, vb false)]) (by kernel_rfl) ?_
    refine o_end (by kernel_rfl) ?_
    refine e_seq ?_
    refine w_ret (by kernel_rfl) ?_
    obtain rfl := Option.some.inj hm
    exact e_retP () (vb false) [] (by kernel_rfl) (by kernel_rfl) rfl (by kernel_rfl) (by kernel_rfl) trivial
def bytes_Clone.f (a0 : List Int) : Option (List Int) := app [] a0
theorem bytes_Clone_ok (a0 : List Int) (r : List Int) (hm : bytes_Clone.f a0 = some r) (B G : Asn) (A1 : Option Addr) (c1 : Nat) (hs1 : Sl (kI .u8) B A1 c1 a0) (w : World) (hs : St B G [] w) :
    Calls Try.prog 42 #[.slice A1 a0.length c1] w (Post (X := (Option Addr) × Nat) (fun x => .slice x.1 r.length x.2) (fun x => B) G (fun x => [.own x.1 r.length x.2 (rowOf e8 r) 1 5]) (fun x => True)) := by
  have hr : r = a0 := by have := (app_some hm).1; simpa using this
  subst hr
  cases A1 with
  | none =>
    have hx : r = [] := (sl_cells hs1 w hs).1 rfl
    refine calls_W (F := Try.f42) Try.func42 rfl (by kernel_rfl) (L := []) ?_ hs
    refine w_seq 2 3 (by kernel_rfl) ?_
    refine w_region (by kernel_rfl) ?_
    refine o_run 1 [0] (l := []) .nil (E' := [(0, .slice none r.length c1)]) (by kernel_rfl) ?_
    refine o_end (by kernel_rfl) ?_
    refine e_seq ?_
    refine w_seq 6 7 (by kernel_rfl) ?_
    refine w_seq 12 13 (by kernel_rfl) ?_
    refine w_region (by kernel_rfl) ?_
    refine o_run 2 [0, 4] (l := []) .nil (E' := [(0, .slice none r.length c1), (4, vb true)]) (by kernel_rfl) ?_
    refine o_end (by kernel_rfl) ?_
    refine e_seq ?_
    refine w_cond_t (.tmp 4) 26 27 (by kernel_rfl) (by kernel_rfl) ?_
    refine w_seq 52 53 (by kernel_rfl) ?_
    refine w_region (by kernel_rfl) ?_
    refine o_run 1 [2] (l := []) .nil (E' := [(2, .slice none 0 0)]) (by kernel_rfl) ?_
    refine o_end (by kernel_rfl) ?_
    refine e_seq ?_
    refine w_ret (by kernel_rfl) ?_
    subst hx
    refine t_nil 5 1 ?_
    exact e_retP (none, 0) (.slice none 0 0) [0] (by kernel_rfl) (by kernel_rfl) rfl (by kernel_rfl) (by kernel_rfl) trivial
  | some a =>
    refine calls_W (F := Try.f42) Try.func42 rfl (by kernel_rfl) (L := []) ?_ hs
    refine w_seq 2 3 (by kernel_rfl) ?_
    refine w_region (by kernel_rfl) ?_
    refine o_run 1 [0] (l := []) .nil (E' := [(0, .slice (some a) r.length c1)]) (by kernel_rfl) ?_
    refine o_end (by kernel_rfl) ?_
    refine e_seq ?_
    refine w_seq 6 7 (by kernel_rfl) ?_
    refine w_seq 12 13 (by kernel_rfl) ?_
    refine w_region (by kernel_rfl) ?_
    refine o_run 2 [0, 4] (l := []) .nil (E' := [(0, .slice (some a) r.length c1), (4, vb false)]) (by kernel_rfl) ?_
    refine o_end (by kernel_rfl) ?_
    refine e_seq ?_
    refine w_cond_f (.tmp 4) 26 27 (by kernel_rfl) (by kernel_rfl) ?_
    refine w_skip (by kernel_rfl) ?_
    refine e_seq ?_
    refine w_seq 14 15 (by kernel_rfl) ?_
    refine w_region (by kernel_rfl) ?_
    refine o_stp ?_ (by kernel_rfl)
    refine s_new 5 (fun g => .slice (some ⟨g, 0, none⟩) 0 0) [] 5 (fun _ => by kernel_rfl) (fun g => ?_)
    refine t_blk_own (m := 0) (sz := 1) (by rfl) (by rfl) ?_
    refine t_L (L' := [.own (some ⟨g, 0, none⟩) 0 0 (rowOf e8 ([] : List Int)) 1 5]) (by kernel_rfl) ?_
    refine o_run 1 [5, 6] (l := []) .nil (E' := [(5, .slice (some ⟨g, 0, none⟩) 0 0), (6, .slice (some a) r.length c1)]) (by kernel_rfl) ?_
    refine o_stp ?_ (by kernel_rfl)
    refine s_app (z := v8 0) (enc := (encI .u8)) (ys := r) (k := r.length) (bytes := 1) 7 32 32 (.tmp 5) (.tmp 6) 0 hm rfl rfl (by kernel_rfl) (by kernel_rfl) (by kernel_rfl) (by kernel_rfl) (by kernel_rfl) (by kernel_rfl) rfl (src_sl (e := 5) rfl (by kernel_rfl) hs1) (by decide) (fun A3 c3 => ?_)
    refine o_run 1 [2] (l := []) .nil (E' := [(2, .slice A3 r.length c3)]) (by kernel_rfl) ?_
    refine o_end (by kernel_rfl) ?_
    refine e_seq ?_
    refine w_ret (by kernel_rfl) ?_
    exact e_retP (A3, c3) (.slice A3 r.length c3) [0] (by kernel_rfl) (by kernel_rfl) rfl (by kernel_rfl) (by kernel_rfl) trivial
def octets_Put.l2 : Nat → Int → Int → (List Int) → Option ((List Int))
  | 0, _, _, _ => none
  | k + 1, e1, p3, p4 => (if decide (p3 ≥ 0) then ((shrq .u64 e1 (I64 (8 * p3))).bind fun e2 => ((app p4 [U8 e2]).bind fun l1 => (octets_Put.l2 k e1 (I64 (p3 - 1)) l1))) else (some p4))
def octets_Put.l1 : Nat → Int → (List Int) → Int → (List Int) → Option ((List Int))
  | 0, _, _, _, _ => none
  | k + 1, a1, a2, p1, p2 => (if decide (p1 < (a2.length : Int)) then ((idx a2 p1).bind fun e1 => ((octets_Put.l2 k e1 (I64 ((imin (imax a1 0) 8) - 1)) p2).bind fun t3 => (octets_Put.l1 k a1 a2 (I64 (p1 + 1)) t3))) else (some p2))
def octets_Put.f (k : Nat) (a0 : List Int) (a1 : Int) (a2 : List Int) : Option ((List Int)) :=
  ((bytes_Clone.f a0).bind fun t1 => ((octets_Put.l1 k a1 a2 0 t1).bind fun t2 => (some t2)))
theorem octets_Put_ok (k : Nat) (a0 : List Int) (a1 : Int) (a2 : List Int) (r : (List Int)) (hm : octets_Put.f k a0 a1 a2 = some r) (B G : Asn) (A1 : Option Addr) (c1 : Nat) (A2 : Option Addr) (c2 : Nat) (hs1 : Sl (kI .u8) B A1 c1 a0) (hs2 : Sl (kI .u64) B A2 c2 a2) (w : World) (hs : St B G [] w) :
    Calls Try.prog 30 #[.slice A1 a0.length c1, v64 a1, .slice A2 a2.length c2] w (Post (X := (Option Addr) × Nat) (fun x => .slice x.1 r.length x.2) (fun x => B) G (fun x => [.own x.1 r.length x.2 (rowOf e8 r) 1 5]) (fun x => True)) := by
  unfold octets_Put.f at hm
  refine calls_W (F := Try.f30) Try.func30 rfl (by kernel_rfl) (L := []) ?_ hs
  refine w_seq 2 3 (by kernel_rfl) ?_
  refine w_region (by kernel_rfl) ?_
  refine o_run 1 [0, 1, 2] (l := []) .nil (E' := [(0, .slice A1 a0.length c1), (1, v64 a1), (2, .slice A2 a2.length c2)]) (by kernel_rfl) ?_
  refine o_end (by kernel_rfl) ?_
  refine e_seq ?_
  refine w_seq 6 7 (by kernel_rfl) ?_
  refine w_region (by kernel_rfl) ?_
  refine o_run 1 [1, 2, 11] (l := []) .nil (E' := [(1, v64 a1), (2, .slice A2 a2.length c2), (11, .slice A1 a0.length c1)]) (by kernel_rfl) ?_
  obtain ⟨t1, hx1, hm⟩ := bind_some hm
  refine o_stp ?_ (by kernel_rfl)
  refine s_call 12 42 #[.slice A1 a0.length c1] [] [] (by kernel_rfl) (by kernel_rfl) (fun w hs => bytes_Clone_ok a0 t1 hx1 B _ A1 c1 hs1 w (St.cast (by kernel_rfl) hs)) (fun x hx => ?_)
  obtain ⟨A3, c3⟩ := x
  refine t_L (L' := [.own A3 t1.length c3 (rowOf e8 t1) 1 5]) (by kernel_rfl) ?_
  refine o_run 1 [1, 2, 7] (l := []) .nil (E' := [(1, v64 a1), (2, .slice A2 a2.length c2), (7, .slice A3 t1.length c3)]) (by kernel_rfl) ?_
  refine o_end (by kernel_rfl) ?_
  refine e_seq ?_
  refine w_seq 14 15 (by kernel_rfl) ?_
  refine w_seq 28 29 (by kernel_rfl) ?_
  refine w_region (by kernel_rfl) ?_
  refine o_run 3 [1, 7, 13, 14, 15] (l := []) .nil (E' := [(1, v64 a1), (7, .slice A3 t1.length c3), (13, .slice A2 a2.length c2), (14, v64 (a2.length : Int)), (15, v64 0)]) (by kernel_rfl) ?_
  refine o_end (by kernel_rfl) ?_
  refine e_seq ?_
  refine w_block 0 58 (by kernel_rfl) ?_
  obtain ⟨t2, ht1, ho1⟩ := bind_some hm
  refine t_env [1, 7, 13, 14, 15] (E' := [(1, v64 a1), (7, .slice A3 t1.length c3), (13, .slice A2 a2.length c2), (14, v64 (a2.length : Int)), (15, v64 0)]) (by kernel_rfl) ?_
  refine w_loopJ 116 0 (fun k a w => ∃ (p1 : Int) (p2 : List Int) (A4 : Option Addr) (c4 : Nat), octets_Put.l1 k a1 a2 p1 p2 = some t2 ∧ EnvOk [(1, v64 a1), (7, .slice A4 p2.length c4), (13, .slice A2 a2.length c2), (14, v64 (a2.length : Int)), (15, v64 p1)] Try.f30.ntmps a ∧ St B G [.own A4 p2.length c4 (rowOf e8 p2) 1 5] w) (fun a w => ∃ (A5 : Option Addr) (c5 : Nat), EnvOk [(7, .slice A5 ((t2).length) c5)] Try.f30.ntmps a ∧ St B G [.own A5 ((t2).length) c5 (rowOf e8 t2) 1 5] w) (by kernel_rfl) ?_ ?_ k ?_
  · rintro a w ⟨A5, c5, ha, hw⟩
    refine we_of (E := [(7, .slice A5 ((t2).length) c5)]) (B := B) (G := G) (L := [.own A5 ((t2).length) c5 (rowOf e8 t2) 1 5]) ?_ ha hw
    have hm := ho1
    refine e_seq ?_
    refine w_seq 30 31 (by kernel_rfl) ?_
    refine w_region (by kernel_rfl) ?_
    refine o_run 2 [6] (l := []) .nil (E' := [(6, .slice A5 ((t2).length) c5)]) (by kernel_rfl) ?_
    refine o_end (by kernel_rfl) ?_
    refine e_seq ?_
    refine w_ret (by kernel_rfl) ?_
    refine t_env [6] (E' := [(6, .slice A5 ((t2).length) c5)]) (by kernel_rfl) ?_
    refine t_EL (E' := [(6, .slice A5 t2.length c5)]) (L' := [.own A5 t2.length c5 (rowOf e8 t2) 1 5]) (eq_of_len rfl (fun n => ([(6, .slice A5 n c5)], [.own A5 n c5 (rowOf e8 t2) 1 5])) rfl rfl) ?_
    obtain rfl := Option.some.inj hm
    exact e_retP (A5, c5) (.slice A5 t2.length c5) [0] (by kernel_rfl) (by kernel_rfl) rfl (by kernel_rfl) (by kernel_rfl) trivial
  · rintro k a w ⟨p1, p2, A4, c4, hm, ha, hw⟩
    cases k with
    | zero => exact absurd hm (by simp [octets_Put.l1])
    | succ k =>
      unfold octets_Put.l1 at hm
      refine wc_of (E := [(1, v64 a1), (7, .slice A4 p2.length c4), (13, .slice A2 a2.length c2), (14, v64 (a2.length : Int)), (15, v64 p1)]) (B := B) (G := G) (L := [.own A4 p2.length c4 (rowOf e8 p2) 1 5]) ?_ ha hw
      refine w_seq 232 233 (by kernel_rfl) ?_
      refine w_region (by kernel_rfl) ?_
      refine o_run 1 [1, 7, 13, 14, 15, 16] (l := []) .nil (E' := [(1, v64 a1), (7, .slice A4 p2.length c4), (13, .slice A2 a2.length c2), (14, v64 (a2.length : Int)), (15, v64 p1), (16, vb (decide (p1 < (a2.length : Int))))]) (by kernel_rfl) ?_
      refine o_end (by kernel_rfl) ?_
      refine e_seq ?_
      refine w_seq 466 467 (by kernel_rfl) ?_
      refine w_cond (.tmp 16) 932 933 (decide (p1 < (a2.length : Int))) (by kernel_rfl) (by kernel_rfl) (fun hb1 => ?_) (fun hb1 => ?_)
      · replace hm := ite_t hb1 hm
        refine w_skip (by kernel_rfl) ?_
        refine e_seq ?_
        refine w_seq 934 935 (by kernel_rfl) ?_
        refine w_block 1 1868 (by kernel_rfl) ?_
        refine w_seq 3736 3737 (by kernel_rfl) ?_
        refine w_region (by kernel_rfl) ?_
        obtain ⟨e1, hx2, hm⟩ := bind_some hm
        obtain ⟨hi1, hi2, hg1⟩ := idx_some hx2
        obtain ⟨cs1, hk1, hc1⟩ := (hs2).at hg1
        obtain rfl := hk1
        refine o_val 17 (.indexAddr 86 (.tmp 13) (.tmp 15)) (.pointer (some (adr A2 (Int.toNat p1 * 1)))) (by kernel_rfl) (v_index (k := .i64) (c := c2) (by kernel_rfl) (by kernel_rfl) (by kernel_rfl) hi1 hi2 ((hs2).some hg1)) ?_
        refine o_run 2 [1, 7, 9, 13, 14, 15] (l := [((adr A2 (Int.toNat p1 * 1)), w64 e1)]) (.one ((at_sl hc1).sub 0 rfl) .nil) (E' := [(1, v64 a1), (7, .slice A4 p2.length c4), (9, w64 e1), (13, .slice A2 a2.length c2), (14, v64 (a2.length : Int)), (15, v64 p1)]) (by kernel_rfl) ?_
        refine o_end (by kernel_rfl) ?_
        refine e_seq ?_
        refine w_seq 7474 7475 (by kernel_rfl) ?_
        refine w_region (by kernel_rfl) ?_
        refine o_run 5 [1, 7, 9, 10, 13, 14, 15] (l := []) .nil (E' := [(1, v64 a1), (7, .slice A4 p2.length c4), (9, w64 e1), (10, v64 (I64 ((imin (imax a1 0) 8) - 1))), (13, .slice A2 a2.length c2), (14, v64 (a2.length : Int)), (15, v64 p1)]) (by kernel_rfl) ?_
        refine o_end (by kernel_rfl) ?_
        refine e_seq ?_
        refine w_block 2 14950 (by kernel_rfl) ?_
        obtain ⟨t3, ht2, ho2⟩ := bind_some hm
        refine t_env [1, 7, 9, 10, 13, 14, 15] (E' := [(1, v64 a1), (7, .slice A4 p2.length c4), (9, w64 e1), (10, v64 (I64 ((imin (imax a1 0) 8) - 1))), (13, .slice A2 a2.length c2), (14, v64 (a2.length : Int)), (15, v64 p1)]) (by kernel_rfl) ?_
        refine w_loopJ 29900 2 (fun k a w => ∃ (p3 : Int) (p4 : List Int) (A6 : Option Addr) (c6 : Nat), octets_Put.l2 k e1 p3 p4 = some t3 ∧ EnvOk [(1, v64 a1), (7, .slice A6 p4.length c6), (9, w64 e1), (10, v64 p3), (13, .slice A2 a2.length c2), (14, v64 (a2.length : Int)), (15, v64 p1)] Try.f30.ntmps a ∧ St B G [.own A6 p4.length c6 (rowOf e8 p4) 1 5] w) (fun a w => ∃ (A7 : Option Addr) (c7 : Nat), EnvOk [(1, v64 a1), (7, .slice A7 ((t3).length) c7), (13, .slice A2 a2.length c2), (14, v64 (a2.length : Int)), (15, v64 p1)] Try.f30.ntmps a ∧ St B G [.own A7 ((t3).length) c7 (rowOf e8 t3) 1 5] w) (by kernel_rfl) ?_ ?_ k ?_
        · rintro a w ⟨A7, c7, ha, hw⟩
          refine we_of (E := [(1, v64 a1), (7, .slice A7 ((t3).length) c7), (13, .slice A2 a2.length c2), (14, v64 (a2.length : Int)), (15, v64 p1)]) (B := B) (G := G) (L := [.own A7 ((t3).length) c7 (rowOf e8 t3) 1 5]) ?_ ha hw
          have hm := ho2
          refine e_blk ?_
          refine e_seq ?_
          refine w_region (by kernel_rfl) ?_
          refine o_run 2 [1, 7, 13, 14, 15] (l := []) .nil (E' := [(1, v64 a1), (7, .slice A7 ((t3).length) c7), (13, .slice A2 a2.length c2), (14, v64 (a2.length : Int)), (15, v64 (I64 (p1 + 1)))]) (by kernel_rfl) ?_
          refine o_end (by kernel_rfl) ?_
          refine t_env [1, 7, 13, 14, 15] (E' := [(1, v64 a1), (7, .slice A7 ((t3).length) c7), (13, .slice A2 a2.length c2), (14, v64 (a2.length : Int)), (15, v64 (I64 (p1 + 1)))]) (by kernel_rfl) ?_
          refine t_EL (E' := [(1, v64 a1), (7, .slice A7 t3.length c7), (13, .slice A2 a2.length c2), (14, v64 (a2.length : Int)), (15, v64 (I64 (p1 + 1)))]) (L' := [.own A7 t3.length c7 (rowOf e8 t3) 1 5]) (eq_of_len rfl (fun n => ([(1, v64 a1), (7, .slice A7 n c7), (13, .slice A2 a2.length c2), (14, v64 (a2.length : Int)), (15, v64 (I64 (p1 + 1)))], [.own A7 n c7 (rowOf e8 t3) 1 5])) rfl rfl) ?_
          refine t_drop [0] (by kernel_rfl) ?_
          refine t_L (L' := [.own A7 t3.length c7 (rowOf e8 t3) 1 5]) (by kernel_rfl) ?_
          refine t_env [1, 7, 13, 14, 15] (E' := [(1, v64 a1), (7, .slice A7 t3.length c7), (13, .slice A2 a2.length c2), (14, v64 (a2.length : Int)), (15, v64 (I64 (p1 + 1)))]) (by kernel_rfl) ?_
          exact e_inv (fun a w ha hw => ⟨k, Nat.lt_succ_self k, (I64 (p1 + 1)), t3, A7, c7, hm, ha, hw⟩)
        · rintro k a w ⟨p3, p4, A6, c6, hm, ha, hw⟩
          cases k with
          | zero => exact absurd hm (by simp [octets_Put.l2])
          | succ k =>
            unfold octets_Put.l2 at hm
            refine wc_of (E := [(1, v64 a1), (7, .slice A6 p4.length c6), (9, w64 e1), (10, v64 p3), (13, .slice A2 a2.length c2), (14, v64 (a2.length : Int)), (15, v64 p1)]) (B := B) (G := G) (L := [.own A6 p4.length c6 (rowOf e8 p4) 1 5]) ?_ ha hw
            refine w_seq 59800 59801 (by kernel_rfl) ?_
            refine w_seq 119600 119601 (by kernel_rfl) ?_
            refine w_region (by kernel_rfl) ?_
            refine o_run 2 [1, 7, 9, 10, 13, 14, 15, 24] (l := []) .nil (E' := [(1, v64 a1), (7, .slice A6 p4.length c6), (9, w64 e1), (10, v64 p3), (13, .slice A2 a2.length c2), (14, v64 (a2.length : Int)), (15, v64 p1), (24, vb (decide (p3 ≥ 0)))]) (by kernel_rfl) ?_
            refine o_end (by kernel_rfl) ?_
            refine e_seq ?_
            refine w_cond (.tmp 24) 239202 239203 (decide (p3 ≥ 0)) (by kernel_rfl) (by kernel_rfl) (fun hb2 => ?_) (fun hb2 => ?_)
            · replace hm := ite_t hb2 hm
              refine w_skip (by kernel_rfl) ?_
              refine e_seq ?_
              refine w_seq 119602 119603 (by kernel_rfl) ?_
              refine w_block 3 239204 (by kernel_rfl) ?_
              refine w_region (by kernel_rfl) ?_
              refine o_run 4 [1, 9, 10, 13, 14, 15, 27, 28, 30] (l := []) .nil (E' := [(1, v64 a1), (9, w64 e1), (10, v64 p3), (13, .slice A2 a2.length c2), (14, v64 (a2.length : Int)), (15, v64 p1), (27, .slice A6 p4.length c6), (28, w64 e1), (30, v64 (I64 (8 * p3)))]) (by kernel_rfl) ?_
              obtain ⟨e2, hx3, hm⟩ := bind_some hm
              refine o_val 31 (.binOp .shr 60 (.tmp 28) (.tmp 30) 3) (w64 e2) (by kernel_rfl) (v_shr (k' := .i64) hx3 (by kernel_rfl) (by kernel_rfl)) ?_
              refine o_run 1 [1, 9, 10, 13, 14, 15, 27, 32] (l := []) .nil (E' := [(1, v64 a1), (9, w64 e1), (10, v64 p3), (13, .slice A2 a2.length c2), (14, v64 (a2.length : Int)), (15, v64 p1), (27, .slice A6 p4.length c6), (32, v8 (U8 e2))]) (by kernel_rfl) ?_
              refine o_stp ?_ (by kernel_rfl)
              refine s_new 33 (fun g1 => .slice (ag g1) 1 1) [v8 (U8 e2)] 5 (fun _ => by kernel_rfl) (fun g1 => ?_)
              obtain ⟨l1, hx4, hm⟩ := bind_some hm
              refine o_stp ?_ (by kernel_rfl)
              refine s_app (z := v8 0) (enc := (encI .u8)) (ys := [U8 e2]) (k := 1) (bytes := 1) 34 32 32 (.tmp 27) (.tmp 33) 1 hx4 rfl rfl (by kernel_rfl) (by kernel_rfl) (by kernel_rfl) (by kernel_rfl) (by kernel_rfl) (by kernel_rfl) rfl (src_blk (e := 5) (j := 0) (by kernel_rfl) rfl (by kernel_rfl) rfl (by kernel_rfl)) (by decide) (fun A8 c8 => ?_)
              refine t_L (L' := [.blk g1 [v8 (U8 e2)] 5, .own A8 l1.length c8 (rowOf e8 l1) 1 5]) (by kernel_rfl) ?_
              refine o_run 1 [1, 7, 9, 10, 13, 14, 15] (l := []) .nil (E' := [(1, v64 a1), (7, .slice A8 l1.length c8), (9, w64 e1), (10, v64 p3), (13, .slice A2 a2.length c2), (14, v64 (a2.length : Int)), (15, v64 p1)]) (by kernel_rfl) ?_
              refine o_end (by kernel_rfl) ?_
              refine e_blk ?_
              refine e_seq ?_
              refine w_region (by kernel_rfl) ?_
              refine o_run 3 [1, 7, 9, 10, 13, 14, 15] (l := []) .nil (E' := [(1, v64 a1), (7, .slice A8 l1.length c8), (9, w64 e1), (10, v64 (I64 (p3 - 1))), (13, .slice A2 a2.length c2), (14, v64 (a2.length : Int)), (15, v64 p1)]) (by kernel_rfl) ?_
              refine o_end (by kernel_rfl) ?_
              refine t_drop [1] (by kernel_rfl) ?_
              refine t_L (L' := [.own A8 l1.length c8 (rowOf e8 l1) 1 5]) (by kernel_rfl) ?_
              refine t_env [1, 7, 9, 10, 13, 14, 15] (E' := [(1, v64 a1), (7, .slice A8 l1.length c8), (9, w64 e1), (10, v64 (I64 (p3 - 1))), (13, .slice A2 a2.length c2), (14, v64 (a2.length : Int)), (15, v64 p1)]) (by kernel_rfl) ?_
              exact e_inv (fun a w ha hw => ⟨k, Nat.lt_succ_self k, (I64 (p3 - 1)), l1, A8, c8, hm, ha, hw⟩)
            · replace hm := ite_f hb2 hm
              refine w_exit 2 (by kernel_rfl) ?_
              refine e_x_seq ?_
              refine e_x_inv ?_
              refine e_x_here ?_
              refine t_drop [0] (by kernel_rfl) ?_
              refine t_L (L' := [.own A6 p4.length c6 (rowOf e8 p4) 1 5]) (by kernel_rfl) ?_
              refine t_env [1, 7, 13, 14, 15] (E' := [(1, v64 a1), (7, .slice A6 p4.length c6), (13, .slice A2 a2.length c2), (14, v64 (a2.length : Int)), (15, v64 p1)]) (by kernel_rfl) ?_
              obtain rfl := Option.some.inj hm
              exact e_inv (fun a w ha hw => ⟨A6, c6, ha, hw⟩)
        · exact fun a w ha hw => ⟨(I64 ((imin (imax a1 0) 8) - 1)), p2, A4, c4, ht2, ha, hw⟩
      · replace hm := ite_f hb1 hm
        refine w_exit 0 (by kernel_rfl) ?_
        refine e_x_seq ?_
        refine e_x_inv ?_
        refine e_x_here ?_
        refine t_drop [0] (by kernel_rfl) ?_
        refine t_L (L' := [.own A4 p2.length c4 (rowOf e8 p2) 1 5]) (by kernel_rfl) ?_
        refine t_env [7] (E' := [(7, .slice A4 p2.length c4)]) (by kernel_rfl) ?_
        obtain rfl := Option.some.inj hm
        exact e_inv (fun a w ha hw => ⟨A4, c4, ha, hw⟩)
  · exact fun a w ha hw => ⟨0, t1, A3, c3, ht1, ha, hw⟩
end Go.V
