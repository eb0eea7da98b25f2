/- Printed by a program of this work: Go functions as Lean functions, and that the machine comes to the same. -/
import Derived.Test.YtidkijkkolfooaaVj
import Derived.Test.YtidkijkkolfooaaProg
set_option maxRecDepth 100000
set_option linter.unusedVariables false
namespace Go.V
open Go Go.Proofs
theorem mixed : Try.prog.follows .mixedOrders = true := by kernel_rfl
structure T_downhaullaw26_Step where
  xRead : Bool
  xN : Int
  xAhead : Int
  xBytes : List Int
def kT_downhaullaw26_Step : Kd T_downhaullaw26_Step where
  sz := 4
  pos := by decide
  K := fun B x cs => ∃ (A3 : Option Addr) (c3 : Nat), Sl (kI .u8) B A3 c3 x.xBytes ∧ cs = [.bool x.xRead, .int .i64 x.xN, .int .i32 x.xAhead, .slice A3 x.xBytes.length c3]
  len := fun ⟨_A3, _c3, _h3, e⟩ => by rw [e]; rfl
  one := fun ⟨A3, c3, _h3, e⟩ u hu => by
    rw [e] at hu
    simp only [List.mem_cons, List.mem_nil_iff, or_false] at hu
    (rcases hu with rfl | rfl | rfl | rfl) <;> rfl
  up := fun y ⟨A3, c3, h3, e⟩ => ⟨A3, c3, h3.up y, e⟩
structure T_sack_run where
  xfrom : Int
  xto : Int
def encT_sack_run (x : T_sack_run) : List Value := [.int .i64 x.xfrom, .int .i64 x.xto]
theorem encT_sack_run_one (x : T_sack_run) : ∀ u ∈ encT_sack_run x, u.oneCell' = true := by
  intro u hu
  simp only [encT_sack_run, List.mem_cons, List.mem_nil_iff, or_false] at hu
  (rcases hu with rfl | rfl) <;> rfl
def kT_sack_run : Kd T_sack_run := flat encT_sack_run 2 (by decide) (fun _ => rfl) encT_sack_run_one
structure T_sack_Board where
  xmade : Bool
  xfirst : Int
  xruns : List T_sack_run
def kT_sack_Board : Kd T_sack_Board where
  sz := 3
  pos := by decide
  K := fun B x cs => ∃ (A2 : Option Addr) (c2 : Nat), Sl kT_sack_run B A2 c2 x.xruns ∧ cs = [.bool x.xmade, .int .u32 x.xfirst, .slice A2 x.xruns.length c2]
  len := fun ⟨_A2, _c2, _h2, e⟩ => by rw [e]; rfl
  one := fun ⟨A2, c2, _h2, e⟩ u hu => by
    rw [e] at hu
    simp only [List.mem_cons, List.mem_nil_iff, or_false] at hu
    (rcases hu with rfl | rfl | rfl) <;> rfl
  up := fun y ⟨A2, c2, h2, e⟩ => ⟨A2, c2, h2.up y, e⟩
structure T_rbuf_Buffer_o where
  xBoard : T_sack_Board
  xbytes : List Int
  xbegin : Int
  xn : Int
  xlast : Int
  xkept : Bool
structure T_downhaulref26_Buffer where
  xRoom : Int
  xNext : Int
  xIn : List Int
  xCame : List Bool
  xOut : List Int
  xLast : Int
  xHas : Bool
def kT_downhaulref26_Buffer : Kd T_downhaulref26_Buffer where
  sz := 7
  pos := by decide
  K := fun B x cs => ∃ (A2 : Option Addr) (c2 : Nat) (A3 : Option Addr) (c3 : Nat) (A4 : Option Addr) (c4 : Nat), Sl (kI .u8) B A2 c2 x.xIn ∧ Sl kB B A3 c3 x.xCame ∧ Sl (kI .u8) B A4 c4 x.xOut ∧ cs = [.int .i64 x.xRoom, .int .u32 x.xNext, .slice A2 x.xIn.length c2, .slice A3 x.xCame.length c3, .slice A4 x.xOut.length c4, .int .u32 x.xLast, .bool x.xHas]
  len := fun ⟨_A2, _c2, _A3, _c3, _A4, _c4, _h2, _h3, _h4, e⟩ => by rw [e]; rfl
  one := fun ⟨A2, c2, A3, c3, A4, c4, _h2, _h3, _h4, e⟩ u hu => by
    rw [e] at hu
    simp only [List.mem_cons, List.mem_nil_iff, or_false] at hu
    (rcases hu with rfl | rfl | rfl | rfl | rfl | rfl | rfl) <;> rfl
  up := fun y ⟨A2, c2, A3, c3, A4, c4, h2, h3, h4, e⟩ => ⟨A2, c2, A3, c3, A4, c4, h2.up y, h3.up y, h4.up y, e⟩
structure T_api_Block where
  xLeft : Int
  xRight : Int
def encT_api_Block (x : T_api_Block) : List Value := [.int .u32 x.xLeft, .int .u32 x.xRight]
theorem encT_api_Block_one (x : T_api_Block) : ∀ u ∈ encT_api_Block x, u.oneCell' = true := by
  intro u hu
  simp only [encT_api_Block, List.mem_cons, List.mem_nil_iff, or_false] at hu
  (rcases hu with rfl | rfl) <;> rfl
def kT_api_Block : Kd T_api_Block := flat encT_api_Block 2 (by decide) (fun _ => rfl) encT_api_Block_one
structure T_rbuf_Buffer_o2 where
  xbegin : Int
  xn : Int
  xlast : Int
  xkept : Bool
def sack_New.f (a0 : Int) : Option (T_sack_Board) :=
  (some (⟨true, a0, ([] : List T_sack_run)⟩ : T_sack_Board))
theorem sack_New_ok (a0 : Int) (r : T_sack_Board) (hm : sack_New.f a0 = some r) (B G : Asn) (w : World) (hs : St B G [] w) :
    Calls Try.prog 25 #[.int .u32 a0] w (Post (X := Nat × (Option Addr) × Nat) (fun x => .pointer (some ⟨x.1, 0, none⟩)) (fun x => B) G (fun x => [.blk x.1 [.bool r.xmade, .int .u32 r.xfirst, .slice x.2.1 r.xruns.length x.2.2] 76]) (fun x => (Sl kT_sack_run B x.2.1 x.2.2 r.xruns))) := by
  unfold sack_New.f at hm
  refine calls_W (F := Try.f25) Try.func25 rfl (by kernel_rfl) (L := []) ?_ hs
  refine w_seq 2 3 (by kernel_rfl) ?_
  refine w_region (by kernel_rfl) ?_
  refine o_run 1 [0] (l := []) .nil (E' := [(0, .int .u32 a0)]) (by kernel_rfl) ?_
  refine o_end (by kernel_rfl) ?_
  refine e_seq ?_
  refine w_seq 6 7 (by kernel_rfl) ?_
  refine w_region (by kernel_rfl) ?_
  refine o_run 2 [4] (l := []) .nil (E' := [(4, .agg #[.bool true, .int .u32 a0, .slice none 0 0])]) (by kernel_rfl) ?_
  refine o_stp ?_ (by kernel_rfl)
  refine s_new 5 (fun g1 => .pointer (some ⟨g1, 0, none⟩)) [.bool true, .int .u32 a0, .slice none 0 0] 76 (fun _ => by kernel_rfl) (fun g1 => ?_)
  refine o_run 1 [2] (l := []) .nil (E' := [(2, .pointer (some ⟨g1, 0, none⟩))]) (by kernel_rfl) ?_
  refine o_end (by kernel_rfl) ?_
  refine e_seq ?_
  refine w_ret (by kernel_rfl) ?_
  obtain rfl := Option.some.inj hm
  exact e_retP (g1, none, 0) (.pointer (some ⟨g1, 0, none⟩)) [0] (by kernel_rfl) (by kernel_rfl) rfl (by kernel_rfl) (by kernel_rfl) (Sl.nil kT_sack_run B none 0)
def rbuf_New.f (a0 : Int) (a1 : Int) : Option ((Option T_rbuf_Buffer_o) × Int) :=
  (if decide (a0 < 1) then (some (none, 1)) else (if decide (a0 > 8192) then (some (none, 1)) else ((sack_New.f a1).bind fun t1 => ((mk a0 (0 : Int)).bind fun l1 => (some ((some (⟨t1, l1, 0, 0, 0, false⟩ : T_rbuf_Buffer_o)), 0))))))
theorem rbuf_New_ok (a0 : Int) (a1 : Int) (r : (Option T_rbuf_Buffer_o) × Int) (hm : rbuf_New.f a0 a1 = some r) (B G : Asn) (w : World) (hs : St B G [] w) :
    Calls Try.prog 7 #[.int .i64 a0, .int .u32 a1] w (Post (X := Nat × Nat × (Option Addr) × Nat × (Option Addr) × Nat) (fun x => .tuple #[ptrV r.1 x.1, .int .i64 r.2]) (fun x => B) G (fun x => ptrL r.1 (fun y => [.blk x.1 [.pointer (some ⟨x.2.1, 0, none⟩), .slice x.2.2.2.2.1 y.xbytes.length x.2.2.2.2.2, .int .i64 y.xbegin, .int .i64 y.xn, .int .u32 y.xlast, .bool y.xkept] 50, .blk x.2.1 [.bool y.xBoard.xmade, .int .u32 y.xBoard.xfirst, .slice x.2.2.1 y.xBoard.xruns.length x.2.2.2.1] 76, .own x.2.2.2.2.1 y.xbytes.length x.2.2.2.2.2 (rowOf (encI .u8) y.xbytes) 1 5])) (fun x => (∀ y, r.1 = some y → Sl kT_sack_run B x.2.2.1 x.2.2.2.1 y.xBoard.xruns))) := by
  unfold rbuf_New.f at hm
  refine calls_W (F := Try.f7) Try.func7 rfl (by kernel_rfl) (L := []) ?_ hs
  refine w_seq 2 3 (by kernel_rfl) ?_
  refine w_region (by kernel_rfl) ?_
  refine o_run 2 [0, 1] (l := []) .nil (E' := [(0, .int .i64 a0), (1, .int .u32 a1)]) (by kernel_rfl) ?_
  refine o_end (by kernel_rfl) ?_
  refine e_seq ?_
  refine w_seq 6 7 (by kernel_rfl) ?_
  refine w_seq 12 13 (by kernel_rfl) ?_
  refine w_region (by kernel_rfl) ?_
  refine o_run 3 [0, 1, 8] (l := []) .nil (E' := [(0, .int .i64 a0), (1, .int .u32 a1), (8, .bool (decide (a0 < 1)))]) (by kernel_rfl) ?_
  refine o_split 8 (decide (a0 < 1)) (by kernel_rfl) (fun hb1 => ?_) (fun hb1 => ?_)
  · replace hm := ite_t hb1 hm
    refine o_run 3 [0, 1, 11] (l := []) .nil (E' := [(0, .int .i64 a0), (1, .int .u32 a1), (11, .bool true)]) (by kernel_rfl) ?_
    refine o_end (by kernel_rfl) ?_
    refine e_seq ?_
    refine w_cond_t (.tmp 11) 26 27 (by kernel_rfl) (by kernel_rfl) ?_
    refine w_seq 52 53 (by kernel_rfl) ?_
    refine w_region (by kernel_rfl) ?_
    refine o_run 2 [4, 5] (l := []) .nil (E' := [(4, .pointer none), (5, .int .i64 1)]) (by kernel_rfl) ?_
    refine o_end (by kernel_rfl) ?_
    refine e_seq ?_
    refine w_ret (by kernel_rfl) ?_
    obtain rfl := Option.some.inj hm
    exact e_retP (0, 0, none, 0, none, 0) (.tuple #[.pointer none, .int .i64 1]) [] (by kernel_rfl) (by kernel_rfl) rfl (by kernel_rfl) (by kernel_rfl) (fun _ h => by cases h)
  · replace hm := ite_f hb1 hm
    refine o_run 3 [0, 1, 11] (l := []) .nil (E' := [(0, .int .i64 a0), (1, .int .u32 a1), (11, .bool (decide (a0 > 8192)))]) (by kernel_rfl) ?_
    refine o_end (by kernel_rfl) ?_
    refine e_seq ?_
    refine w_cond (.tmp 11) 26 27 (decide (a0 > 8192)) (by kernel_rfl) (by kernel_rfl) (fun hb2 => ?_) (fun hb2 => ?_)
    · replace hm := ite_t hb2 hm
      refine w_seq 52 53 (by kernel_rfl) ?_
      refine w_region (by kernel_rfl) ?_
      refine o_run 2 [4, 5] (l := []) .nil (E' := [(4, .pointer none), (5, .int .i64 1)]) (by kernel_rfl) ?_
      refine o_end (by kernel_rfl) ?_
      refine e_seq ?_
      refine w_ret (by kernel_rfl) ?_
      obtain rfl := Option.some.inj hm
      exact e_retP (0, 0, none, 0, none, 0) (.tuple #[.pointer none, .int .i64 1]) [] (by kernel_rfl) (by kernel_rfl) rfl (by kernel_rfl) (by kernel_rfl) (fun _ h => by cases h)
    · replace hm := ite_f hb2 hm
      refine w_skip (by kernel_rfl) ?_
      refine e_seq ?_
      refine w_seq 14 15 (by kernel_rfl) ?_
      obtain ⟨t1, hx1, hm⟩ := bind_some hm
      obtain ⟨l1, hx2, hm⟩ := bind_some hm
      refine w_joinJ (fun a w => ∃ (g3 : Nat) (g4 : Nat) (A3 : Option Addr) (c2 : Nat) (A4 : Option Addr) (c3 : Nat), Sl kT_sack_run B A3 c2 t1.xruns ∧ EnvOk [(4, .pointer (some ⟨g3, 0, none⟩)), (5, .int .i64 0)] Try.f7.ntmps a ∧ St B G [.blk g3 [.pointer (some ⟨g4, 0, none⟩), .slice A4 l1.length c3, .int .i64 0, .int .i64 0, .int .u32 0, .bool false] 50, .own A4 l1.length c3 (rowOf (encI .u8) l1) 1 5, .blk g4 [.bool t1.xmade, .int .u32 t1.xfirst, .slice A3 t1.xruns.length c2] 76] w) ?_ ?_
      · rintro a w ⟨g3, g4, A3, c2, A4, c3, hs2, ha, hw⟩
        refine we_of (E := [(4, .pointer (some ⟨g3, 0, none⟩)), (5, .int .i64 0)]) (B := B) (G := G) (L := [.blk g3 [.pointer (some ⟨g4, 0, none⟩), .slice A4 l1.length c3, .int .i64 0, .int .i64 0, .int .u32 0, .bool false] 50, .own A4 l1.length c3 (rowOf (encI .u8) l1) 1 5, .blk g4 [.bool t1.xmade, .int .u32 t1.xfirst, .slice A3 t1.xruns.length c2] 76]) ?_ ha hw
        refine e_seq ?_
        refine w_ret (by kernel_rfl) ?_
        obtain rfl := Option.some.inj hm
        exact e_retP (g3, g4, A3, c2, A4, c3) (.tuple #[.pointer (some ⟨g3, 0, none⟩), .int .i64 0]) [0, 2, 1] (by kernel_rfl) (by kernel_rfl) rfl (by kernel_rfl) (by kernel_rfl) (fun _ h => by cases h; exact hs2)
      · refine w_tail 4 [] (by kernel_rfl) mixed (by kernel_rfl) ?_
        refine tt_run [0, 2] [12, 14] [] 2 (listed' := #[true, false, true, false, false, false, false, false]) (l := []) .nil (E' := [(12, .int .u32 a1), (14, .int .i64 a0)]) (by kernel_rfl) (by kernel_rfl) (by kernel_rfl) (Ext.refl _) (by kernel_rfl) (by kernel_rfl) ?_
        refine tt_all [1, 3] [] (Ext.refl _) (by kernel_rfl) (by kernel_rfl) (by kernel_rfl) (by kernel_rfl) ⟨?_, ?_, trivial⟩
        · refine s_call 13 25 #[.int .u32 a1] [] [] (by kernel_rfl) (by kernel_rfl) (fun w hs => sack_New_ok a1 t1 hx1 B _ w (St.cast (by kernel_rfl) hs)) (fun x hx => ?_)
          obtain ⟨g5, A5, c4⟩ := x
          have hs3 := hx
          refine t_L (L' := [.blk g5 [.bool t1.xmade, .int .u32 t1.xfirst, .slice A5 t1.xruns.length c4] 76]) (by kernel_rfl) ?_
          obtain ⟨n2, hn4, hn5, hn6⟩ := mk_some hx2
          refine tt_stp 3 [] (Ext.refl _) (by kernel_rfl) (by kernel_rfl) (by kernel_rfl) (by kernel_rfl) ?_
          refine s_make (α := Int) (kl := .i64) (kc := .i64) (bytes := 1) (e := 5) 15 32 (.tmp 14) (.tmp 14) (z := .int .u8 0) (zx := 0) (enc := (encI .u8)) hn6 (by kernel_rfl) (ev_int (by kernel_rfl) hn4) (ev_int (by kernel_rfl) hn4) (by kernel_rfl) (by kernel_rfl) rfl rfl (by omega) (by omega) rfl (fun A6 => ?_)
          refine tt_end [] (Ext.refl _) (by kernel_rfl) (by kernel_rfl) (by kernel_rfl) ?_
          refine o_run 1 [16] (l := []) .nil (E' := [(16, .agg #[.pointer (some ⟨g5, 0, none⟩), .slice A6 l1.length l1.length, .int .i64 0, .int .i64 0, .int .u32 0, .bool false])]) (by kernel_rfl) ?_
          refine o_stp ?_ (by kernel_rfl)
          refine s_new 17 (fun g6 => .pointer (some ⟨g6, 0, none⟩)) [.pointer (some ⟨g5, 0, none⟩), .slice A6 l1.length l1.length, .int .i64 0, .int .i64 0, .int .u32 0, .bool false] 50 (fun _ => by kernel_rfl) (fun g6 => ?_)
          refine o_run 2 [4, 5] (l := []) .nil (E' := [(4, .pointer (some ⟨g6, 0, none⟩)), (5, .int .i64 0)]) (by kernel_rfl) ?_
          refine o_end (by kernel_rfl) ?_
          refine t_drop [0, 1, 2] (by kernel_rfl) ?_
          refine t_L (L' := [.blk g6 [.pointer (some ⟨g5, 0, none⟩), .slice A6 l1.length l1.length, .int .i64 0, .int .i64 0, .int .u32 0, .bool false] 50, .own A6 l1.length l1.length (rowOf (encI .u8) l1) 1 5, .blk g5 [.bool t1.xmade, .int .u32 t1.xfirst, .slice A5 t1.xruns.length c4] 76]) (by kernel_rfl) ?_
          refine t_env [4, 5] (E' := [(4, .pointer (some ⟨g6, 0, none⟩)), (5, .int .i64 0)]) (by kernel_rfl) ?_
          exact e_inv (fun a w ha hw => ⟨g6, g5, A5, c4, A6, l1.length, hs3, ha, hw⟩)
        · obtain ⟨n3, hn7, hn8, hn9⟩ := mk_some hx2
          refine s_make (α := Int) (kl := .i64) (kc := .i64) (bytes := 1) (e := 5) 15 32 (.tmp 14) (.tmp 14) (z := .int .u8 0) (zx := 0) (enc := (encI .u8)) hn9 (by kernel_rfl) (ev_int (by kernel_rfl) hn7) (ev_int (by kernel_rfl) hn7) (by kernel_rfl) (by kernel_rfl) rfl rfl (by omega) (by omega) rfl (fun A7 => ?_)
          refine tt_stp 1 [] (Ext.refl _) (by kernel_rfl) (by kernel_rfl) (by kernel_rfl) (by kernel_rfl) ?_
          refine s_call 13 25 #[.int .u32 a1] [] [0] (by kernel_rfl) (by kernel_rfl) (fun w hs => sack_New_ok a1 t1 hx1 B _ w (St.cast (by kernel_rfl) hs)) (fun x hx => ?_)
          obtain ⟨g7, A8, c5⟩ := x
          have hs4 := hx
          refine t_L (L' := [.blk g7 [.bool t1.xmade, .int .u32 t1.xfirst, .slice A8 t1.xruns.length c5] 76, .own A7 l1.length l1.length (rowOf (encI .u8) l1) 1 5]) (by kernel_rfl) ?_
          refine tt_end [] (Ext.refl _) (by kernel_rfl) (by kernel_rfl) (by kernel_rfl) ?_
          refine o_run 1 [16] (l := []) .nil (E' := [(16, .agg #[.pointer (some ⟨g7, 0, none⟩), .slice A7 l1.length l1.length, .int .i64 0, .int .i64 0, .int .u32 0, .bool false])]) (by kernel_rfl) ?_
          refine o_stp ?_ (by kernel_rfl)
          refine s_new 17 (fun g8 => .pointer (some ⟨g8, 0, none⟩)) [.pointer (some ⟨g7, 0, none⟩), .slice A7 l1.length l1.length, .int .i64 0, .int .i64 0, .int .u32 0, .bool false] 50 (fun _ => by kernel_rfl) (fun g8 => ?_)
          refine o_run 2 [4, 5] (l := []) .nil (E' := [(4, .pointer (some ⟨g8, 0, none⟩)), (5, .int .i64 0)]) (by kernel_rfl) ?_
          refine o_end (by kernel_rfl) ?_
          refine t_drop [0, 2, 1] (by kernel_rfl) ?_
          refine t_L (L' := [.blk g8 [.pointer (some ⟨g7, 0, none⟩), .slice A7 l1.length l1.length, .int .i64 0, .int .i64 0, .int .u32 0, .bool false] 50, .own A7 l1.length l1.length (rowOf (encI .u8) l1) 1 5, .blk g7 [.bool t1.xmade, .int .u32 t1.xfirst, .slice A8 t1.xruns.length c5] 76]) (by kernel_rfl) ?_
          refine t_env [4, 5] (E' := [(4, .pointer (some ⟨g8, 0, none⟩)), (5, .int .i64 0)]) (by kernel_rfl) ?_
          exact e_inv (fun a w ha hw => ⟨g8, g7, A8, c5, A7, l1.length, hs4, ha, hw⟩)
def downhaulref26_New.f (a0 : Int) (a1 : Int) : Option (T_downhaulref26_Buffer × Int) :=
  (if decide (a0 < 1) then (some ((⟨0, 0, ([] : List Int), ([] : List Bool), ([] : List Int), 0, false⟩ : T_downhaulref26_Buffer), 1)) else (if decide (a0 > 8192) then (some ((⟨0, 0, ([] : List Int), ([] : List Bool), ([] : List Int), 0, false⟩ : T_downhaulref26_Buffer), 1)) else ((mk (I64 (a0 + 1)) (false : Bool)).bind fun l1 => ((mk (I64 (a0 + 1)) (0 : Int)).bind fun l2 => (some ((⟨a0, a1, ([] : List Int), l1, l2, 0, false⟩ : T_downhaulref26_Buffer), 0))))))
theorem downhaulref26_New_ok (a0 : Int) (a1 : Int) (r : T_downhaulref26_Buffer × Int) (hm : downhaulref26_New.f a0 a1 = some r) (B G : Asn) (w : World) (hs : St B G [] w) :
    Calls Try.prog 15 #[.int .i64 a0, .int .u32 a1] w (Post (X := (Option Addr) × Nat × (Option Addr) × Nat × (Option Addr) × Nat) (fun x => .tuple #[.agg #[.int .i64 r.1.xRoom, .int .u32 r.1.xNext, .slice x.1 r.1.xIn.length x.2.1, .slice x.2.2.1 r.1.xCame.length x.2.2.2.1, .slice x.2.2.2.2.1 r.1.xOut.length x.2.2.2.2.2, .int .u32 r.1.xLast, .bool r.1.xHas], .int .i64 r.2]) (fun x => B) G (fun x => [.own x.2.2.1 r.1.xCame.length x.2.2.2.1 (rowOf encB r.1.xCame) 1 4, .own x.2.2.2.2.1 r.1.xOut.length x.2.2.2.2.2 (rowOf (encI .u8) r.1.xOut) 1 5]) (fun x => (Sl (kI .u8) B x.1 x.2.1 r.1.xIn))) := by
  unfold downhaulref26_New.f at hm
  refine calls_W (F := Try.f15) Try.func15 rfl (by kernel_rfl) (L := []) ?_ hs
  refine w_seq 2 3 (by kernel_rfl) ?_
  refine w_region (by kernel_rfl) ?_
  refine o_stp ?_ (by kernel_rfl)
  refine s_new 4 (fun g1 => .pointer (some ⟨g1, 0, none⟩)) [.int .i64 0, .int .u32 0, .slice none 0 0, .slice none 0 0, .slice none 0 0, .int .u32 0, .bool false] 42 (fun _ => by kernel_rfl) (fun g1 => ?_)
  refine o_run 1 [0, 1, 4] (l := []) .nil (E' := [(0, .int .i64 a0), (1, .int .u32 a1), (4, .pointer (some ⟨g1, 0, none⟩))]) (by kernel_rfl) ?_
  refine o_end (by kernel_rfl) ?_
  refine e_seq ?_
  refine w_seq 6 7 (by kernel_rfl) ?_
  refine w_seq 12 13 (by kernel_rfl) ?_
  refine w_region (by kernel_rfl) ?_
  refine o_run 3 [0, 1, 4, 8] (l := []) .nil (E' := [(0, .int .i64 a0), (1, .int .u32 a1), (4, .pointer (some ⟨g1, 0, none⟩)), (8, .bool (decide (a0 < 1)))]) (by kernel_rfl) ?_
  refine o_split 8 (decide (a0 < 1)) (by kernel_rfl) (fun hb1 => ?_) (fun hb1 => ?_)
  · replace hm := ite_t hb1 hm
    refine o_run 3 [0, 1, 4, 11] (l := []) .nil (E' := [(0, .int .i64 a0), (1, .int .u32 a1), (4, .pointer (some ⟨g1, 0, none⟩)), (11, .bool true)]) (by kernel_rfl) ?_
    refine o_end (by kernel_rfl) ?_
    refine e_seq ?_
    refine w_cond_t (.tmp 11) 26 27 (by kernel_rfl) (by kernel_rfl) ?_
    refine w_seq 52 53 (by kernel_rfl) ?_
    refine w_region (by kernel_rfl) ?_
    refine o_run 1 [4, 12] (l := []) .nil (E' := [(4, .pointer (some ⟨g1, 0, none⟩)), (12, .agg #[.int .i64 0, .int .u32 0, .slice none 0 0, .slice none 0 0, .slice none 0 0, .int .u32 0, .bool false])]) (by kernel_rfl) ?_
    refine o_stp ?_ (by kernel_rfl)
    refine s_store 0 g1 [.int .i64 0, .int .u32 0, .slice none 0 0, .slice none 0 0, .slice none 0 0, .int .u32 0, .bool false] 42 [(0, .int .i64 0), (1, .int .u32 0), (2, .slice none 0 0), (3, .slice none 0 0), (4, .slice none 0 0), (5, .int .u32 0), (6, .bool false)] (by kernel_rfl) (by kernel_rfl) (by kernel_rfl) ?_
    refine t_L (L' := [.blk g1 [.int .i64 0, .int .u32 0, .slice none 0 0, .slice none 0 0, .slice none 0 0, .int .u32 0, .bool false] 42]) (by kernel_rfl) ?_
    refine o_run 1 [4, 5] (l := []) .nil (E' := [(4, .pointer (some ⟨g1, 0, none⟩)), (5, .int .i64 1)]) (by kernel_rfl) ?_
    refine o_end (by kernel_rfl) ?_
    refine e_seq ?_
    refine w_ret (by kernel_rfl) ?_
    refine t_nil 4 1 ?_
    refine t_L (L' := [.own none (([] : List Bool).length) 0 (rowOf encB ([] : List Bool)) 1 4, .blk g1 [.int .i64 0, .int .u32 0, .slice none 0 0, .slice none 0 0, .slice none 0 0, .int .u32 0, .bool false] 42]) (by kernel_rfl) ?_
    refine t_nil 5 1 ?_
    refine t_L (L' := [.own none (([] : List Int).length) 0 (rowOf (encI .u8) ([] : List Int)) 1 5, .own none (([] : List Bool).length) 0 (rowOf encB ([] : List Bool)) 1 4, .blk g1 [.int .i64 0, .int .u32 0, .slice none 0 0, .slice none 0 0, .slice none 0 0, .int .u32 0, .bool false] 42]) (by kernel_rfl) ?_
    obtain rfl := Option.some.inj hm
    exact e_retL (none, 0, none, 0, none, 0) (.tuple #[.agg #[.int .i64 0, .int .u32 0, .slice none ([] : List Int).length 0, .slice none (([] : List Bool).length) 0, .slice none (([] : List Int).length) 0, .int .u32 0, .bool false], .int .i64 1]) [1, 0] [(⟨g1, 0, none⟩, .int .i64 0), (⟨g1, 1, none⟩, .int .u32 0), (⟨g1, 2, none⟩, .slice none ([] : List Int).length 0), (⟨g1, 3, none⟩, .slice none (([] : List Bool).length) 0), (⟨g1, 4, none⟩, .slice none (([] : List Int).length) 0), (⟨g1, 5, none⟩, .int .u32 0), (⟨g1, 6, none⟩, .bool false)] (.one (at_blk (j := 2) rfl rfl) (.one (at_blk (j := 2) rfl rfl) (.one (at_blk (j := 2) rfl rfl) (.one (at_blk (j := 2) rfl rfl) (.one (at_blk (j := 2) rfl rfl) (.one (at_blk (j := 2) rfl rfl) (.one (at_blk (j := 2) rfl rfl) .nil))))))) (by kernel_rfl) (by kernel_rfl) rfl (by kernel_rfl) (by kernel_rfl) (Sl.nil (kI .u8) B none 0)
  · replace hm := ite_f hb1 hm
    refine o_run 3 [0, 1, 4, 11] (l := []) .nil (E' := [(0, .int .i64 a0), (1, .int .u32 a1), (4, .pointer (some ⟨g1, 0, none⟩)), (11, .bool (decide (a0 > 8192)))]) (by kernel_rfl) ?_
    refine o_end (by kernel_rfl) ?_
    refine e_seq ?_
    refine w_cond (.tmp 11) 26 27 (decide (a0 > 8192)) (by kernel_rfl) (by kernel_rfl) (fun hb2 => ?_) (fun hb2 => ?_)
    · replace hm := ite_t hb2 hm
      refine w_seq 52 53 (by kernel_rfl) ?_
      refine w_region (by kernel_rfl) ?_
      refine o_run 1 [4, 12] (l := []) .nil (E' := [(4, .pointer (some ⟨g1, 0, none⟩)), (12, .agg #[.int .i64 0, .int .u32 0, .slice none 0 0, .slice none 0 0, .slice none 0 0, .int .u32 0, .bool false])]) (by kernel_rfl) ?_
      refine o_stp ?_ (by kernel_rfl)
      refine s_store 0 g1 [.int .i64 0, .int .u32 0, .slice none 0 0, .slice none 0 0, .slice none 0 0, .int .u32 0, .bool false] 42 [(0, .int .i64 0), (1, .int .u32 0), (2, .slice none 0 0), (3, .slice none 0 0), (4, .slice none 0 0), (5, .int .u32 0), (6, .bool false)] (by kernel_rfl) (by kernel_rfl) (by kernel_rfl) ?_
      refine t_L (L' := [.blk g1 [.int .i64 0, .int .u32 0, .slice none 0 0, .slice none 0 0, .slice none 0 0, .int .u32 0, .bool false] 42]) (by kernel_rfl) ?_
      refine o_run 1 [4, 5] (l := []) .nil (E' := [(4, .pointer (some ⟨g1, 0, none⟩)), (5, .int .i64 1)]) (by kernel_rfl) ?_
      refine o_end (by kernel_rfl) ?_
      refine e_seq ?_
      refine w_ret (by kernel_rfl) ?_
      refine t_nil 4 1 ?_
      refine t_L (L' := [.own none (([] : List Bool).length) 0 (rowOf encB ([] : List Bool)) 1 4, .blk g1 [.int .i64 0, .int .u32 0, .slice none 0 0, .slice none 0 0, .slice none 0 0, .int .u32 0, .bool false] 42]) (by kernel_rfl) ?_
      refine t_nil 5 1 ?_
      refine t_L (L' := [.own none (([] : List Int).length) 0 (rowOf (encI .u8) ([] : List Int)) 1 5, .own none (([] : List Bool).length) 0 (rowOf encB ([] : List Bool)) 1 4, .blk g1 [.int .i64 0, .int .u32 0, .slice none 0 0, .slice none 0 0, .slice none 0 0, .int .u32 0, .bool false] 42]) (by kernel_rfl) ?_
      obtain rfl := Option.some.inj hm
      exact e_retL (none, 0, none, 0, none, 0) (.tuple #[.agg #[.int .i64 0, .int .u32 0, .slice none ([] : List Int).length 0, .slice none (([] : List Bool).length) 0, .slice none (([] : List Int).length) 0, .int .u32 0, .bool false], .int .i64 1]) [1, 0] [(⟨g1, 0, none⟩, .int .i64 0), (⟨g1, 1, none⟩, .int .u32 0), (⟨g1, 2, none⟩, .slice none ([] : List Int).length 0), (⟨g1, 3, none⟩, .slice none (([] : List Bool).length) 0), (⟨g1, 4, none⟩, .slice none (([] : List Int).length) 0), (⟨g1, 5, none⟩, .int .u32 0), (⟨g1, 6, none⟩, .bool false)] (.one (at_blk (j := 2) rfl rfl) (.one (at_blk (j := 2) rfl rfl) (.one (at_blk (j := 2) rfl rfl) (.one (at_blk (j := 2) rfl rfl) (.one (at_blk (j := 2) rfl rfl) (.one (at_blk (j := 2) rfl rfl) (.one (at_blk (j := 2) rfl rfl) .nil))))))) (by kernel_rfl) (by kernel_rfl) rfl (by kernel_rfl) (by kernel_rfl) (Sl.nil (kI .u8) B none 0)
    · replace hm := ite_f hb2 hm
      refine w_skip (by kernel_rfl) ?_
      refine e_seq ?_
      refine w_seq 14 15 (by kernel_rfl) ?_
      obtain ⟨l1, hx1, hm⟩ := bind_some hm
      obtain ⟨l2, hx2, hm⟩ := bind_some hm
      refine w_joinJ (fun a w => ∃ (A3 : Option Addr) (c1 : Nat) (A4 : Option Addr) (c2 : Nat), EnvOk [(4, .pointer (some ⟨g1, 0, none⟩)), (5, .int .i64 0)] Try.f15.ntmps a ∧ St B G [.own A4 l2.length c2 (rowOf (encI .u8) l2) 1 5, .own A3 l1.length c1 (rowOf encB l1) 1 4, .blk g1 [.int .i64 a0, .int .u32 a1, .slice none 0 0, .slice A3 l1.length c1, .slice A4 l2.length c2, .int .u32 0, .bool false] 42] w) ?_ ?_
      · rintro a w ⟨A3, c1, A4, c2, ha, hw⟩
        refine we_of (E := [(4, .pointer (some ⟨g1, 0, none⟩)), (5, .int .i64 0)]) (B := B) (G := G) (L := [.own A4 l2.length c2 (rowOf (encI .u8) l2) 1 5, .own A3 l1.length c1 (rowOf encB l1) 1 4, .blk g1 [.int .i64 a0, .int .u32 a1, .slice none 0 0, .slice A3 l1.length c1, .slice A4 l2.length c2, .int .u32 0, .bool false] 42]) ?_ ha hw
        refine e_seq ?_
        refine w_ret (by kernel_rfl) ?_
        obtain rfl := Option.some.inj hm
        exact e_retL (none, 0, A3, c1, A4, c2) (.tuple #[.agg #[.int .i64 a0, .int .u32 a1, .slice none ([] : List Int).length 0, .slice A3 l1.length c1, .slice A4 l2.length c2, .int .u32 0, .bool false], .int .i64 0]) [1, 0] [(⟨g1, 0, none⟩, .int .i64 a0), (⟨g1, 1, none⟩, .int .u32 a1), (⟨g1, 2, none⟩, .slice none ([] : List Int).length 0), (⟨g1, 3, none⟩, .slice A3 l1.length c1), (⟨g1, 4, none⟩, .slice A4 l2.length c2), (⟨g1, 5, none⟩, .int .u32 0), (⟨g1, 6, none⟩, .bool false)] (.one (at_blk (j := 2) rfl rfl) (.one (at_blk (j := 2) rfl rfl) (.one (at_blk (j := 2) rfl rfl) (.one (at_blk (j := 2) rfl rfl) (.one (at_blk (j := 2) rfl rfl) (.one (at_blk (j := 2) rfl rfl) (.one (at_blk (j := 2) rfl rfl) .nil))))))) (by kernel_rfl) (by kernel_rfl) rfl (by kernel_rfl) (by kernel_rfl) (Sl.nil (kI .u8) B none 0)
      · refine w_tail 8 [.blk g1 [.int .i64 0, .int .u32 0, .slice none 0 0, .slice none 0 0, .slice none 0 0, .int .u32 0, .bool false] 42] (by kernel_rfl) mixed (by kernel_rfl) ?_
        refine tt_run [0, 1, 2, 3, 5, 6] [4, 13, 14, 16, 19] [0] 2 (listed' := #[true, true, true, true, false, true, true, false, false, false, false]) (l := []) .nil (E' := [(4, .pointer (some ⟨g1, 0, none⟩)), (13, .int .i64 a0), (14, .int .u32 a1), (16, .int .i64 (I64 (a0 + 1))), (19, .int .i64 (I64 (a0 + 1)))]) (by kernel_rfl) (by kernel_rfl) (by kernel_rfl) (Ext.refl _) (by kernel_rfl) (by kernel_rfl) ?_
        refine tt_all [4, 7] [0] (Ext.refl _) (by kernel_rfl) (by kernel_rfl) (by kernel_rfl) (by kernel_rfl) ⟨?_, ?_, trivial⟩
        · obtain ⟨n3, hn7, hn8, hn9⟩ := mk_some hx1
          refine s_make (α := Bool) (kl := .i64) (kc := .i64) (bytes := 1) (e := 4) 17 40 (.tmp 16) (.tmp 16) (z := .bool false) (zx := false) (enc := encB) hn9 (by kernel_rfl) (ev_int (by kernel_rfl) hn7) (ev_int (by kernel_rfl) hn7) (by kernel_rfl) (by kernel_rfl) rfl rfl (by omega) (by omega) rfl (fun A5 => ?_)
          obtain ⟨n4, hn10, hn11, hn12⟩ := mk_some hx2
          refine tt_stp 7 [1] (Ext.refl _) (by kernel_rfl) (by kernel_rfl) (by kernel_rfl) (by kernel_rfl) ?_
          refine s_make (α := Int) (kl := .i64) (kc := .i64) (bytes := 1) (e := 5) 20 32 (.tmp 19) (.tmp 19) (z := .int .u8 0) (zx := 0) (enc := (encI .u8)) hn12 (by kernel_rfl) (ev_int (by kernel_rfl) hn10) (ev_int (by kernel_rfl) hn10) (by kernel_rfl) (by kernel_rfl) rfl rfl (by omega) (by omega) rfl (fun A6 => ?_)
          refine tt_end [2] (Ext.refl _) (by kernel_rfl) (by kernel_rfl) (by kernel_rfl) ?_
          refine o_run 1 [4, 21] (l := []) .nil (E' := [(4, .pointer (some ⟨g1, 0, none⟩)), (21, .agg #[.int .i64 a0, .int .u32 a1, .slice none 0 0, .slice A5 l1.length l1.length, .slice A6 l2.length l2.length, .int .u32 0, .bool false])]) (by kernel_rfl) ?_
          refine o_stp ?_ (by kernel_rfl)
          refine s_store 2 g1 [.int .i64 0, .int .u32 0, .slice none 0 0, .slice none 0 0, .slice none 0 0, .int .u32 0, .bool false] 42 [(0, .int .i64 a0), (1, .int .u32 a1), (2, .slice none 0 0), (3, .slice A5 l1.length l1.length), (4, .slice A6 l2.length l2.length), (5, .int .u32 0), (6, .bool false)] (by kernel_rfl) (by kernel_rfl) (by kernel_rfl) ?_
          refine t_L (L' := [.own A6 l2.length l2.length (rowOf (encI .u8) l2) 1 5, .own A5 l1.length l1.length (rowOf encB l1) 1 4, .blk g1 [.int .i64 a0, .int .u32 a1, .slice none 0 0, .slice A5 l1.length l1.length, .slice A6 l2.length l2.length, .int .u32 0, .bool false] 42]) (by kernel_rfl) ?_
          refine o_run 1 [4, 5] (l := []) .nil (E' := [(4, .pointer (some ⟨g1, 0, none⟩)), (5, .int .i64 0)]) (by kernel_rfl) ?_
          refine o_end (by kernel_rfl) ?_
          refine t_drop [0, 1, 2] (by kernel_rfl) ?_
          refine t_L (L' := [.own A6 l2.length l2.length (rowOf (encI .u8) l2) 1 5, .own A5 l1.length l1.length (rowOf encB l1) 1 4, .blk g1 [.int .i64 a0, .int .u32 a1, .slice none 0 0, .slice A5 l1.length l1.length, .slice A6 l2.length l2.length, .int .u32 0, .bool false] 42]) (by kernel_rfl) ?_
          refine t_env [4, 5] (E' := [(4, .pointer (some ⟨g1, 0, none⟩)), (5, .int .i64 0)]) (by kernel_rfl) ?_
          exact e_inv (fun a w ha hw => ⟨A5, l1.length, A6, l2.length, ha, hw⟩)
        · obtain ⟨n5, hn13, hn14, hn15⟩ := mk_some hx2
          refine s_make (α := Int) (kl := .i64) (kc := .i64) (bytes := 1) (e := 5) 20 32 (.tmp 19) (.tmp 19) (z := .int .u8 0) (zx := 0) (enc := (encI .u8)) hn15 (by kernel_rfl) (ev_int (by kernel_rfl) hn13) (ev_int (by kernel_rfl) hn13) (by kernel_rfl) (by kernel_rfl) rfl rfl (by omega) (by omega) rfl (fun A7 => ?_)
          obtain ⟨n6, hn16, hn17, hn18⟩ := mk_some hx1
          refine tt_stp 4 [1] (Ext.refl _) (by kernel_rfl) (by kernel_rfl) (by kernel_rfl) (by kernel_rfl) ?_
          refine s_make (α := Bool) (kl := .i64) (kc := .i64) (bytes := 1) (e := 4) 17 40 (.tmp 16) (.tmp 16) (z := .bool false) (zx := false) (enc := encB) hn18 (by kernel_rfl) (ev_int (by kernel_rfl) hn16) (ev_int (by kernel_rfl) hn16) (by kernel_rfl) (by kernel_rfl) rfl rfl (by omega) (by omega) rfl (fun A8 => ?_)
          refine tt_end [2] (Ext.refl _) (by kernel_rfl) (by kernel_rfl) (by kernel_rfl) ?_
          refine o_run 1 [4, 21] (l := []) .nil (E' := [(4, .pointer (some ⟨g1, 0, none⟩)), (21, .agg #[.int .i64 a0, .int .u32 a1, .slice none 0 0, .slice A8 l1.length l1.length, .slice A7 l2.length l2.length, .int .u32 0, .bool false])]) (by kernel_rfl) ?_
          refine o_stp ?_ (by kernel_rfl)
          refine s_store 2 g1 [.int .i64 0, .int .u32 0, .slice none 0 0, .slice none 0 0, .slice none 0 0, .int .u32 0, .bool false] 42 [(0, .int .i64 a0), (1, .int .u32 a1), (2, .slice none 0 0), (3, .slice A8 l1.length l1.length), (4, .slice A7 l2.length l2.length), (5, .int .u32 0), (6, .bool false)] (by kernel_rfl) (by kernel_rfl) (by kernel_rfl) ?_
          refine t_L (L' := [.own A8 l1.length l1.length (rowOf encB l1) 1 4, .own A7 l2.length l2.length (rowOf (encI .u8) l2) 1 5, .blk g1 [.int .i64 a0, .int .u32 a1, .slice none 0 0, .slice A8 l1.length l1.length, .slice A7 l2.length l2.length, .int .u32 0, .bool false] 42]) (by kernel_rfl) ?_
          refine o_run 1 [4, 5] (l := []) .nil (E' := [(4, .pointer (some ⟨g1, 0, none⟩)), (5, .int .i64 0)]) (by kernel_rfl) ?_
          refine o_end (by kernel_rfl) ?_
          refine t_drop [1, 0, 2] (by kernel_rfl) ?_
          refine t_L (L' := [.own A7 l2.length l2.length (rowOf (encI .u8) l2) 1 5, .own A8 l1.length l1.length (rowOf encB l1) 1 4, .blk g1 [.int .i64 a0, .int .u32 a1, .slice none 0 0, .slice A8 l1.length l1.length, .slice A7 l2.length l2.length, .int .u32 0, .bool false] 42]) (by kernel_rfl) ?_
          refine t_env [4, 5] (E' := [(4, .pointer (some ⟨g1, 0, none⟩)), (5, .int .i64 0)]) (by kernel_rfl) ?_
          exact e_inv (fun a w ha hw => ⟨A8, l1.length, A7, l2.length, ha, hw⟩)
def rbuf_Buffer_ok.f (a0 : T_rbuf_Buffer_o) : Option (Bool) :=
  (some true)
theorem rbuf_Buffer_ok_ok (a0 : T_rbuf_Buffer_o) (r : Bool) (hm : rbuf_Buffer_ok.f a0 = some r) (B G : Asn) (g1 : Nat) (g2 : Nat) (A1 : Option Addr) (c1 : Nat) (A2 : Option Addr) (c2 : Nat) (hs1 : Sl kT_sack_run B A1 c1 a0.xBoard.xruns) (w : World) (hs : St B G [.blk g1 [.pointer (some ⟨g2, 0, none⟩), .slice A2 a0.xbytes.length c2, .int .i64 a0.xbegin, .int .i64 a0.xn, .int .u32 a0.xlast, .bool a0.xkept] 50, .blk g2 [.bool a0.xBoard.xmade, .int .u32 a0.xBoard.xfirst, .slice A1 a0.xBoard.xruns.length c1] 76, .own A2 a0.xbytes.length c2 (rowOf (encI .u8) a0.xbytes) 1 5] w) :
    Calls Try.prog 27 #[.pointer (some ⟨g1, 0, none⟩)] w (Post (X := Unit) (fun x => .bool r) (fun x => B) G (fun x => [.blk g1 [.pointer (some ⟨g2, 0, none⟩), .slice A2 a0.xbytes.length c2, .int .i64 a0.xbegin, .int .i64 a0.xn, .int .u32 a0.xlast, .bool a0.xkept] 50, .blk g2 [.bool a0.xBoard.xmade, .int .u32 a0.xBoard.xfirst, .slice A1 a0.xBoard.xruns.length c1] 76, .own A2 a0.xbytes.length c2 (rowOf (encI .u8) a0.xbytes) 1 5]) (fun x => True)) := by
  unfold rbuf_Buffer_ok.f at hm
  refine calls_W (F := Try.f27) Try.func27 rfl (by kernel_rfl) (L := [.blk g1 [.pointer (some ⟨g2, 0, none⟩), .slice A2 a0.xbytes.length c2, .int .i64 a0.xbegin, .int .i64 a0.xn, .int .u32 a0.xlast, .bool a0.xkept] 50, .blk g2 [.bool a0.xBoard.xmade, .int .u32 a0.xBoard.xfirst, .slice A1 a0.xBoard.xruns.length c1] 76, .own A2 a0.xbytes.length c2 (rowOf (encI .u8) a0.xbytes) 1 5]) ?_ hs
  refine w_seq 2 3 (by kernel_rfl) ?_
  refine w_region (by kernel_rfl) ?_
  refine o_run 1 [0] (l := []) .nil (E' := [(0, .pointer (some ⟨g1, 0, none⟩))]) (by kernel_rfl) ?_
  refine o_end (by kernel_rfl) ?_
  refine e_seq ?_
  refine w_seq 6 7 (by kernel_rfl) ?_
  refine w_region (by kernel_rfl) ?_
  refine o_run 10 [2] (l := [(⟨g1, 0, none⟩, .pointer (some ⟨g2, 0, none⟩))]) (.one (at_blk (j := 0) rfl rfl) .nil) (E' := [(2, .bool true)]) (by kernel_rfl) ?_
  refine o_end (by kernel_rfl) ?_
  refine e_seq ?_
  refine w_ret (by kernel_rfl) ?_
  obtain rfl := Option.some.inj hm
  exact e_retP () (.bool true) [0, 1, 2] (by kernel_rfl) (by kernel_rfl) rfl (by kernel_rfl) (by kernel_rfl) trivial
def sack_Board_ok.f (a0 : T_sack_Board) : Option (Bool) :=
  (some a0.xmade)
theorem sack_Board_ok_ok (a0 : T_sack_Board) (r : Bool) (hm : sack_Board_ok.f a0 = some r) (B G : Asn) (g1 : Nat) (A1 : Option Addr) (c1 : Nat) (hs1 : Sl kT_sack_run B A1 c1 a0.xruns) (w : World) (hs : St B G [.blk g1 [.bool a0.xmade, .int .u32 a0.xfirst, .slice A1 a0.xruns.length c1] 76] w) :
    Calls Try.prog 43 #[.pointer (some ⟨g1, 0, none⟩)] w (Post (X := Unit) (fun x => .bool r) (fun x => B) G (fun x => [.blk g1 [.bool a0.xmade, .int .u32 a0.xfirst, .slice A1 a0.xruns.length c1] 76]) (fun x => True)) := by
  unfold sack_Board_ok.f at hm
  refine calls_W (F := Try.f43) Try.func43 rfl (by kernel_rfl) (L := [.blk g1 [.bool a0.xmade, .int .u32 a0.xfirst, .slice A1 a0.xruns.length c1] 76]) ?_ hs
  refine w_seq 2 3 (by kernel_rfl) ?_
  refine w_region (by kernel_rfl) ?_
  refine o_run 1 [0] (l := []) .nil (E' := [(0, .pointer (some ⟨g1, 0, none⟩))]) (by kernel_rfl) ?_
  refine o_end (by kernel_rfl) ?_
  refine e_seq ?_
  refine w_seq 6 7 (by kernel_rfl) ?_
  refine w_region (by kernel_rfl) ?_
  refine o_run 9 [2] (l := [(⟨g1, 0, none⟩, .bool a0.xmade)]) (.one (at_blk (j := 0) rfl rfl) .nil) (E' := [(2, .bool a0.xmade)]) (by kernel_rfl) ?_
  refine o_end (by kernel_rfl) ?_
  refine e_seq ?_
  refine w_ret (by kernel_rfl) ?_
  obtain rfl := Option.some.inj hm
  exact e_retP () (.bool a0.xmade) [0] (by kernel_rfl) (by kernel_rfl) rfl (by kernel_rfl) (by kernel_rfl) trivial
def sack_Board_First.f (a0 : T_sack_Board) : Option (Int) :=
  ((sack_Board_ok.f a0).bind fun t1 => (if !t1 then (some 0) else (some a0.xfirst)))
theorem sack_Board_First_ok (a0 : T_sack_Board) (r : Int) (hm : sack_Board_First.f a0 = some r) (B G : Asn) (g1 : Nat) (A1 : Option Addr) (c1 : Nat) (hs1 : Sl kT_sack_run B A1 c1 a0.xruns) (w : World) (hs : St B G [.blk g1 [.bool a0.xmade, .int .u32 a0.xfirst, .slice A1 a0.xruns.length c1] 76] w) :
    Calls Try.prog 33 #[.pointer (some ⟨g1, 0, none⟩)] w (Post (X := Unit) (fun x => .int .u32 r) (fun x => B) G (fun x => [.blk g1 [.bool a0.xmade, .int .u32 a0.xfirst, .slice A1 a0.xruns.length c1] 76]) (fun x => True)) := by
  unfold sack_Board_First.f at hm
  refine calls_W (F := Try.f33) Try.func33 rfl (by kernel_rfl) (L := [.blk g1 [.bool a0.xmade, .int .u32 a0.xfirst, .slice A1 a0.xruns.length c1] 76]) ?_ hs
  refine w_seq 2 3 (by kernel_rfl) ?_
  refine w_region (by kernel_rfl) ?_
  refine o_run 1 [0] (l := []) .nil (E' := [(0, .pointer (some ⟨g1, 0, none⟩))]) (by kernel_rfl) ?_
  refine o_end (by kernel_rfl) ?_
  refine e_seq ?_
  refine w_seq 6 7 (by kernel_rfl) ?_
  refine w_seq 12 13 (by kernel_rfl) ?_
  refine w_region (by kernel_rfl) ?_
  refine o_run 1 [0, 3] (l := []) .nil (E' := [(0, .pointer (some ⟨g1, 0, none⟩)), (3, .pointer (some ⟨g1, 0, none⟩))]) (by kernel_rfl) ?_
  obtain ⟨t1, hx1, hm⟩ := bind_some hm
  refine o_stp ?_ (by kernel_rfl)
  refine s_call 4 43 #[.pointer (some ⟨g1, 0, none⟩)] [0] [] (by kernel_rfl) (by kernel_rfl) (fun w hs => sack_Board_ok_ok a0 t1 hx1 B _ g1 A1 c1 hs1 w (St.cast (by kernel_rfl) hs)) (fun _ hx => ?_)
  refine t_L (L' := [.blk g1 [.bool a0.xmade, .int .u32 a0.xfirst, .slice A1 a0.xruns.length c1] 76]) (by kernel_rfl) ?_
  refine o_run 1 [0, 5] (l := []) .nil (E' := [(0, .pointer (some ⟨g1, 0, none⟩)), (5, .bool (!t1))]) (by kernel_rfl) ?_
  refine o_end (by kernel_rfl) ?_
  refine e_seq ?_
  refine w_cond (.tmp 5) 26 27 (!t1) (by kernel_rfl) (by kernel_rfl) (fun hb1 => ?_) (fun hb1 => ?_)
  · replace hm := ite_t hb1 hm
    refine w_seq 52 53 (by kernel_rfl) ?_
    refine w_region (by kernel_rfl) ?_
    refine o_run 1 [2] (l := []) .nil (E' := [(2, .int .u32 0)]) (by kernel_rfl) ?_
    refine o_end (by kernel_rfl) ?_
    refine e_seq ?_
    refine w_ret (by kernel_rfl) ?_
    obtain rfl := Option.some.inj hm
    exact e_retP () (.int .u32 0) [0] (by kernel_rfl) (by kernel_rfl) rfl (by kernel_rfl) (by kernel_rfl) trivial
  · replace hm := ite_f hb1 hm
    refine w_skip (by kernel_rfl) ?_
    refine e_seq ?_
    refine w_seq 14 15 (by kernel_rfl) ?_
    refine w_region (by kernel_rfl) ?_
    refine o_run 5 [2] (l := [(⟨g1, 1, none⟩, .int .u32 a0.xfirst)]) (.one (at_blk (j := 0) rfl rfl) .nil) (E' := [(2, .int .u32 a0.xfirst)]) (by kernel_rfl) ?_
    refine o_end (by kernel_rfl) ?_
    refine e_seq ?_
    refine w_ret (by kernel_rfl) ?_
    obtain rfl := Option.some.inj hm
    exact e_retP () (.int .u32 a0.xfirst) [0] (by kernel_rfl) (by kernel_rfl) rfl (by kernel_rfl) (by kernel_rfl) trivial
def rbuf_Buffer_Next.f (a0 : T_rbuf_Buffer_o) : Option (Int) :=
  ((rbuf_Buffer_ok.f a0).bind fun t1 => ((sack_Board_First.f a0.xBoard).bind fun t2 => (some t2)))
theorem rbuf_Buffer_Next_ok (a0 : T_rbuf_Buffer_o) (r : Int) (hm : rbuf_Buffer_Next.f a0 = some r) (B G : Asn) (g1 : Nat) (g2 : Nat) (A1 : Option Addr) (c1 : Nat) (A2 : Option Addr) (c2 : Nat) (hs1 : Sl kT_sack_run B A1 c1 a0.xBoard.xruns) (w : World) (hs : St B G [.blk g1 [.pointer (some ⟨g2, 0, none⟩), .slice A2 a0.xbytes.length c2, .int .i64 a0.xbegin, .int .i64 a0.xn, .int .u32 a0.xlast, .bool a0.xkept] 50, .blk g2 [.bool a0.xBoard.xmade, .int .u32 a0.xBoard.xfirst, .slice A1 a0.xBoard.xruns.length c1] 76, .own A2 a0.xbytes.length c2 (rowOf (encI .u8) a0.xbytes) 1 5] w) :
    Calls Try.prog 13 #[.pointer (some ⟨g1, 0, none⟩)] w (Post (X := Unit) (fun x => .int .u32 r) (fun x => B) G (fun x => [.blk g1 [.pointer (some ⟨g2, 0, none⟩), .slice A2 a0.xbytes.length c2, .int .i64 a0.xbegin, .int .i64 a0.xn, .int .u32 a0.xlast, .bool a0.xkept] 50, .blk g2 [.bool a0.xBoard.xmade, .int .u32 a0.xBoard.xfirst, .slice A1 a0.xBoard.xruns.length c1] 76, .own A2 a0.xbytes.length c2 (rowOf (encI .u8) a0.xbytes) 1 5]) (fun x => True)) := by
  unfold rbuf_Buffer_Next.f at hm
  refine calls_W (F := Try.f13) Try.func13 rfl (by kernel_rfl) (L := [.blk g1 [.pointer (some ⟨g2, 0, none⟩), .slice A2 a0.xbytes.length c2, .int .i64 a0.xbegin, .int .i64 a0.xn, .int .u32 a0.xlast, .bool a0.xkept] 50, .blk g2 [.bool a0.xBoard.xmade, .int .u32 a0.xBoard.xfirst, .slice A1 a0.xBoard.xruns.length c1] 76, .own A2 a0.xbytes.length c2 (rowOf (encI .u8) a0.xbytes) 1 5]) ?_ hs
  refine w_seq 2 3 (by kernel_rfl) ?_
  refine w_region (by kernel_rfl) ?_
  refine o_run 1 [0] (l := []) .nil (E' := [(0, .pointer (some ⟨g1, 0, none⟩))]) (by kernel_rfl) ?_
  refine o_end (by kernel_rfl) ?_
  refine e_seq ?_
  refine w_seq 6 7 (by kernel_rfl) ?_
  refine w_seq 12 13 (by kernel_rfl) ?_
  refine w_region (by kernel_rfl) ?_
  refine o_run 1 [0, 3] (l := []) .nil (E' := [(0, .pointer (some ⟨g1, 0, none⟩)), (3, .pointer (some ⟨g1, 0, none⟩))]) (by kernel_rfl) ?_
  obtain ⟨t1, hx1, hm⟩ := bind_some hm
  obtain rfl : true = t1 := Option.some.inj (show some true = some t1 from hx1)
  refine o_stp ?_ (by kernel_rfl)
  refine s_call 4 27 #[.pointer (some ⟨g1, 0, none⟩)] [0, 1, 2] [] (by kernel_rfl) (by kernel_rfl) (fun w hs => rbuf_Buffer_ok_ok a0 true hx1 B _ g1 g2 A1 c1 A2 c2 hs1 w (St.cast (by kernel_rfl) hs)) (fun _ hx => ?_)
  refine t_L (L' := [.blk g1 [.pointer (some ⟨g2, 0, none⟩), .slice A2 a0.xbytes.length c2, .int .i64 a0.xbegin, .int .i64 a0.xn, .int .u32 a0.xlast, .bool a0.xkept] 50, .blk g2 [.bool a0.xBoard.xmade, .int .u32 a0.xBoard.xfirst, .slice A1 a0.xBoard.xruns.length c1] 76, .own A2 a0.xbytes.length c2 (rowOf (encI .u8) a0.xbytes) 1 5]) (by kernel_rfl) ?_
  refine o_run 1 [0, 5] (l := []) .nil (E' := [(0, .pointer (some ⟨g1, 0, none⟩)), (5, .bool false)]) (by kernel_rfl) ?_
  refine o_end (by kernel_rfl) ?_
  refine e_seq ?_
  refine w_cond_f (.tmp 5) 26 27 (by kernel_rfl) (by kernel_rfl) ?_
  refine w_skip (by kernel_rfl) ?_
  refine e_seq ?_
  refine w_seq 14 15 (by kernel_rfl) ?_
  refine w_region (by kernel_rfl) ?_
  refine o_run 4 [9] (l := [(⟨g1, 0, none⟩, .pointer (some ⟨g2, 0, none⟩))]) (.one (at_blk (j := 0) rfl rfl) .nil) (E' := [(9, .pointer (some ⟨g2, 0, none⟩))]) (by kernel_rfl) ?_
  obtain ⟨t2, hx2, hm⟩ := bind_some hm
  refine o_stp ?_ (by kernel_rfl)
  refine s_call 10 33 #[.pointer (some ⟨g2, 0, none⟩)] [1] [0, 2] (by kernel_rfl) (by kernel_rfl) (fun w hs => sack_Board_First_ok a0.xBoard t2 hx2 B _ g2 A1 c1 hs1 w (St.cast (by kernel_rfl) hs)) (fun _ hx => ?_)
  refine t_L (L' := [.blk g2 [.bool a0.xBoard.xmade, .int .u32 a0.xBoard.xfirst, .slice A1 a0.xBoard.xruns.length c1] 76, .blk g1 [.pointer (some ⟨g2, 0, none⟩), .slice A2 a0.xbytes.length c2, .int .i64 a0.xbegin, .int .i64 a0.xn, .int .u32 a0.xlast, .bool a0.xkept] 50, .own A2 a0.xbytes.length c2 (rowOf (encI .u8) a0.xbytes) 1 5]) (by kernel_rfl) ?_
  refine o_run 1 [2] (l := []) .nil (E' := [(2, .int .u32 t2)]) (by kernel_rfl) ?_
  refine o_end (by kernel_rfl) ?_
  refine e_seq ?_
  refine w_ret (by kernel_rfl) ?_
  obtain rfl := Option.some.inj hm
  exact e_retP () (.int .u32 t2) [1, 0, 2] (by kernel_rfl) (by kernel_rfl) rfl (by kernel_rfl) (by kernel_rfl) trivial
def ring_Diff.f (a0 : Int) (a1 : Int) : Option (Int) :=
  (some (I32 (U32 (a1 - a0))))
theorem ring_Diff_ok (a0 : Int) (a1 : Int) (r : Int) (hm : ring_Diff.f a0 a1 = some r) (B G : Asn) (w : World) (hs : St B G [] w) :
    Calls Try.prog 42 #[.int .u32 a0, .int .u32 a1] w (Post (X := Unit) (fun x => .int .i32 r) (fun x => B) G (fun x => []) (fun x => True)) := by
  unfold ring_Diff.f at hm
  refine calls_W (F := Try.f42) Try.func42 rfl (by kernel_rfl) (L := []) ?_ hs
  refine w_seq 2 3 (by kernel_rfl) ?_
  refine w_region (by kernel_rfl) ?_
  refine o_run 1 [0, 1] (l := []) .nil (E' := [(0, .int .u32 a0), (1, .int .u32 a1)]) (by kernel_rfl) ?_
  refine o_end (by kernel_rfl) ?_
  refine e_seq ?_
  refine w_seq 6 7 (by kernel_rfl) ?_
  refine w_region (by kernel_rfl) ?_
  refine o_run 5 [4] (l := []) .nil (E' := [(4, .int .i32 (I32 (U32 (a1 - a0))))]) (by kernel_rfl) ?_
  refine o_end (by kernel_rfl) ?_
  refine e_seq ?_
  refine w_ret (by kernel_rfl) ?_
  obtain rfl := Option.some.inj hm
  exact e_retP () (.int .i32 (I32 (U32 (a1 - a0)))) [] (by kernel_rfl) (by kernel_rfl) rfl (by kernel_rfl) (by kernel_rfl) trivial
def rbuf_Buffer_Window.f (a0 : T_rbuf_Buffer_o) : Option (Int) :=
  ((rbuf_Buffer_ok.f a0).bind fun t1 => (some (I64 ((a0.xbytes.length : Int) - a0.xn))))
theorem rbuf_Buffer_Window_ok (a0 : T_rbuf_Buffer_o) (r : Int) (hm : rbuf_Buffer_Window.f a0 = some r) (B G : Asn) (g1 : Nat) (g2 : Nat) (A1 : Option Addr) (c1 : Nat) (A2 : Option Addr) (c2 : Nat) (hs1 : Sl kT_sack_run B A1 c1 a0.xBoard.xruns) (w : World) (hs : St B G [.blk g1 [.pointer (some ⟨g2, 0, none⟩), .slice A2 a0.xbytes.length c2, .int .i64 a0.xbegin, .int .i64 a0.xn, .int .u32 a0.xlast, .bool a0.xkept] 50, .blk g2 [.bool a0.xBoard.xmade, .int .u32 a0.xBoard.xfirst, .slice A1 a0.xBoard.xruns.length c1] 76, .own A2 a0.xbytes.length c2 (rowOf (encI .u8) a0.xbytes) 1 5] w) :
    Calls Try.prog 18 #[.pointer (some ⟨g1, 0, none⟩)] w (Post (X := Unit) (fun x => .int .i64 r) (fun x => B) G (fun x => [.blk g1 [.pointer (some ⟨g2, 0, none⟩), .slice A2 a0.xbytes.length c2, .int .i64 a0.xbegin, .int .i64 a0.xn, .int .u32 a0.xlast, .bool a0.xkept] 50, .blk g2 [.bool a0.xBoard.xmade, .int .u32 a0.xBoard.xfirst, .slice A1 a0.xBoard.xruns.length c1] 76, .own A2 a0.xbytes.length c2 (rowOf (encI .u8) a0.xbytes) 1 5]) (fun x => True)) := by
  unfold rbuf_Buffer_Window.f at hm
  refine calls_W (F := Try.f18) Try.func18 rfl (by kernel_rfl) (L := [.blk g1 [.pointer (some ⟨g2, 0, none⟩), .slice A2 a0.xbytes.length c2, .int .i64 a0.xbegin, .int .i64 a0.xn, .int .u32 a0.xlast, .bool a0.xkept] 50, .blk g2 [.bool a0.xBoard.xmade, .int .u32 a0.xBoard.xfirst, .slice A1 a0.xBoard.xruns.length c1] 76, .own A2 a0.xbytes.length c2 (rowOf (encI .u8) a0.xbytes) 1 5]) ?_ hs
  refine w_seq 2 3 (by kernel_rfl) ?_
  refine w_region (by kernel_rfl) ?_
  refine o_run 1 [0] (l := []) .nil (E' := [(0, .pointer (some ⟨g1, 0, none⟩))]) (by kernel_rfl) ?_
  refine o_end (by kernel_rfl) ?_
  refine e_seq ?_
  refine w_seq 6 7 (by kernel_rfl) ?_
  refine w_seq 12 13 (by kernel_rfl) ?_
  refine w_region (by kernel_rfl) ?_
  refine o_run 1 [0, 3] (l := []) .nil (E' := [(0, .pointer (some ⟨g1, 0, none⟩)), (3, .pointer (some ⟨g1, 0, none⟩))]) (by kernel_rfl) ?_
  obtain ⟨t1, hx1, hm⟩ := bind_some hm
  obtain rfl : true = t1 := Option.some.inj (show some true = some t1 from hx1)
  refine o_stp ?_ (by kernel_rfl)
  refine s_call 4 27 #[.pointer (some ⟨g1, 0, none⟩)] [0, 1, 2] [] (by kernel_rfl) (by kernel_rfl) (fun w hs => rbuf_Buffer_ok_ok a0 true hx1 B _ g1 g2 A1 c1 A2 c2 hs1 w (St.cast (by kernel_rfl) hs)) (fun _ hx => ?_)
  refine t_L (L' := [.blk g1 [.pointer (some ⟨g2, 0, none⟩), .slice A2 a0.xbytes.length c2, .int .i64 a0.xbegin, .int .i64 a0.xn, .int .u32 a0.xlast, .bool a0.xkept] 50, .blk g2 [.bool a0.xBoard.xmade, .int .u32 a0.xBoard.xfirst, .slice A1 a0.xBoard.xruns.length c1] 76, .own A2 a0.xbytes.length c2 (rowOf (encI .u8) a0.xbytes) 1 5]) (by kernel_rfl) ?_
  refine o_run 1 [0, 5] (l := []) .nil (E' := [(0, .pointer (some ⟨g1, 0, none⟩)), (5, .bool false)]) (by kernel_rfl) ?_
  refine o_end (by kernel_rfl) ?_
  refine e_seq ?_
  refine w_cond_f (.tmp 5) 26 27 (by kernel_rfl) (by kernel_rfl) ?_
  refine w_skip (by kernel_rfl) ?_
  refine e_seq ?_
  refine w_seq 14 15 (by kernel_rfl) ?_
  refine w_quiet (by kernel_rfl) mixed (by kernel_rfl) ?_
  refine q_run 11 [2] (l := [(⟨g1, 1, none⟩, .slice A2 a0.xbytes.length c2), (⟨g1, 3, none⟩, .int .i64 a0.xn)]) (.one (at_blk (j := 0) rfl rfl) (.one (at_blk (j := 0) rfl rfl) .nil)) (E' := [(2, .int .i64 (I64 ((a0.xbytes.length : Int) - a0.xn)))]) (by kernel_rfl) ?_
  refine q_end (by kernel_rfl) ?_
  refine e_seq ?_
  refine w_ret (by kernel_rfl) ?_
  obtain rfl := Option.some.inj hm
  exact e_retP () (.int .i64 (I64 ((a0.xbytes.length : Int) - a0.xn))) [0, 1, 2] (by kernel_rfl) (by kernel_rfl) rfl (by kernel_rfl) (by kernel_rfl) trivial
def rbuf_Buffer_within.f (a0 : T_rbuf_Buffer_o) (a1 : Int) (a2 : List Int) : Option (Int × (List Int)) :=
  ((rbuf_Buffer_Next.f a0).bind fun t1 => ((ring_Diff.f t1 a1).bind fun t2 => (if decide ((I64 t2) < 0) then ((cut a2 (imin (I64 (0 - (I64 t2))) (a2.length : Int)) (a2.length : Int)).bind fun l1 => ((rbuf_Buffer_Next.f a0).bind fun t3 => ((rbuf_Buffer_Window.f a0).bind fun t4 => ((cut l1 0 (imin (imax (I64 (t4 - 0)) 0) (l1.length : Int))).bind fun l2 => (some (t3, l2)))))) else ((rbuf_Buffer_Window.f a0).bind fun t5 => ((cut a2 0 (imin (imax (I64 (t5 - (I64 t2))) 0) (a2.length : Int))).bind fun l3 => (some (a1, l3)))))))
theorem rbuf_Buffer_within_ok (a0 : T_rbuf_Buffer_o) (a1 : Int) (a2 : List Int) (r : Int × (List Int)) (hm : rbuf_Buffer_within.f a0 a1 a2 = some r) (B G : Asn) (g1 : Nat) (g2 : Nat) (A1 : Option Addr) (c1 : Nat) (A2 : Option Addr) (c2 : Nat) (A3 : Option Addr) (c3 : Nat) (hs1 : Sl kT_sack_run B A1 c1 a0.xBoard.xruns) (hs2 : Sl (kI .u8) B A3 c3 a2) (w : World) (hs : St B G [.blk g1 [.pointer (some ⟨g2, 0, none⟩), .slice A2 a0.xbytes.length c2, .int .i64 a0.xbegin, .int .i64 a0.xn, .int .u32 a0.xlast, .bool a0.xkept] 50, .blk g2 [.bool a0.xBoard.xmade, .int .u32 a0.xBoard.xfirst, .slice A1 a0.xBoard.xruns.length c1] 76, .own A2 a0.xbytes.length c2 (rowOf (encI .u8) a0.xbytes) 1 5] w) :
    Calls Try.prog 28 #[.pointer (some ⟨g1, 0, none⟩), .int .u32 a1, .slice A3 a2.length c3] w (Post (X := (Option Addr) × Nat) (fun x => .tuple #[.int .u32 r.1, .slice x.1 r.2.length x.2]) (fun x => B) G (fun x => [.blk g1 [.pointer (some ⟨g2, 0, none⟩), .slice A2 a0.xbytes.length c2, .int .i64 a0.xbegin, .int .i64 a0.xn, .int .u32 a0.xlast, .bool a0.xkept] 50, .blk g2 [.bool a0.xBoard.xmade, .int .u32 a0.xBoard.xfirst, .slice A1 a0.xBoard.xruns.length c1] 76, .own A2 a0.xbytes.length c2 (rowOf (encI .u8) a0.xbytes) 1 5]) (fun x => (Sl (kI .u8) B x.1 x.2 r.2))) := by
  unfold rbuf_Buffer_within.f at hm
  refine calls_W (F := Try.f28) Try.func28 rfl (by kernel_rfl) (L := [.blk g1 [.pointer (some ⟨g2, 0, none⟩), .slice A2 a0.xbytes.length c2, .int .i64 a0.xbegin, .int .i64 a0.xn, .int .u32 a0.xlast, .bool a0.xkept] 50, .blk g2 [.bool a0.xBoard.xmade, .int .u32 a0.xBoard.xfirst, .slice A1 a0.xBoard.xruns.length c1] 76, .own A2 a0.xbytes.length c2 (rowOf (encI .u8) a0.xbytes) 1 5]) ?_ hs
  refine w_seq 2 3 (by kernel_rfl) ?_
  refine w_region (by kernel_rfl) ?_
  refine o_run 2 [0, 1, 2] (l := []) .nil (E' := [(0, .pointer (some ⟨g1, 0, none⟩)), (1, .int .u32 a1), (2, .slice A3 a2.length c3)]) (by kernel_rfl) ?_
  refine o_end (by kernel_rfl) ?_
  refine e_seq ?_
  refine w_seq 6 7 (by kernel_rfl) ?_
  refine w_region (by kernel_rfl) ?_
  refine o_run 1 [0, 1, 2, 10] (l := []) .nil (E' := [(0, .pointer (some ⟨g1, 0, none⟩)), (1, .int .u32 a1), (2, .slice A3 a2.length c3), (10, .pointer (some ⟨g1, 0, none⟩))]) (by kernel_rfl) ?_
  obtain ⟨t1, hx1, hm⟩ := bind_some hm
  refine o_stp ?_ (by kernel_rfl)
  refine s_call 11 13 #[.pointer (some ⟨g1, 0, none⟩)] [0, 1, 2] [] (by kernel_rfl) (by kernel_rfl) (fun w hs => rbuf_Buffer_Next_ok a0 t1 hx1 B _ g1 g2 A1 c1 A2 c2 hs1 w (St.cast (by kernel_rfl) hs)) (fun _ hx => ?_)
  refine t_L (L' := [.blk g1 [.pointer (some ⟨g2, 0, none⟩), .slice A2 a0.xbytes.length c2, .int .i64 a0.xbegin, .int .i64 a0.xn, .int .u32 a0.xlast, .bool a0.xkept] 50, .blk g2 [.bool a0.xBoard.xmade, .int .u32 a0.xBoard.xfirst, .slice A1 a0.xBoard.xruns.length c1] 76, .own A2 a0.xbytes.length c2 (rowOf (encI .u8) a0.xbytes) 1 5]) (by kernel_rfl) ?_
  refine o_run 1 [0, 1, 2, 11, 12] (l := []) .nil (E' := [(0, .pointer (some ⟨g1, 0, none⟩)), (1, .int .u32 a1), (2, .slice A3 a2.length c3), (11, .int .u32 t1), (12, .int .u32 a1)]) (by kernel_rfl) ?_
  obtain ⟨t2, hx2, hm⟩ := bind_some hm
  refine o_stp ?_ (by kernel_rfl)
  refine s_call 13 42 #[.int .u32 t1, .int .u32 a1] [] [0, 1, 2] (by kernel_rfl) (by kernel_rfl) (fun w hs => ring_Diff_ok t1 a1 t2 hx2 B _ w (St.cast (by kernel_rfl) hs)) (fun _ hx => ?_)
  refine t_L (L' := [.blk g1 [.pointer (some ⟨g2, 0, none⟩), .slice A2 a0.xbytes.length c2, .int .i64 a0.xbegin, .int .i64 a0.xn, .int .u32 a0.xlast, .bool a0.xkept] 50, .blk g2 [.bool a0.xBoard.xmade, .int .u32 a0.xBoard.xfirst, .slice A1 a0.xBoard.xruns.length c1] 76, .own A2 a0.xbytes.length c2 (rowOf (encI .u8) a0.xbytes) 1 5]) (by kernel_rfl) ?_
  refine o_run 2 [0, 1, 2, 8] (l := []) .nil (E' := [(0, .pointer (some ⟨g1, 0, none⟩)), (1, .int .u32 a1), (2, .slice A3 a2.length c3), (8, .int .i64 (I64 t2))]) (by kernel_rfl) ?_
  refine o_end (by kernel_rfl) ?_
  refine e_seq ?_
  refine w_seq 14 15 (by kernel_rfl) ?_
  refine w_seq 28 29 (by kernel_rfl) ?_
  refine w_region (by kernel_rfl) ?_
  refine o_run 2 [0, 1, 2, 8, 16] (l := []) .nil (E' := [(0, .pointer (some ⟨g1, 0, none⟩)), (1, .int .u32 a1), (2, .slice A3 a2.length c3), (8, .int .i64 (I64 t2)), (16, .bool (decide ((I64 t2) < 0)))]) (by kernel_rfl) ?_
  refine o_end (by kernel_rfl) ?_
  refine e_seq ?_
  refine w_cond (.tmp 16) 58 59 (decide ((I64 t2) < 0)) (by kernel_rfl) (by kernel_rfl) (fun hb1 => ?_) (fun hb1 => ?_)
  · replace hm := ite_t hb1 hm
    refine w_seq 116 117 (by kernel_rfl) ?_
    refine w_region (by kernel_rfl) ?_
    refine o_run 6 [0, 17, 22] (l := []) .nil (E' := [(0, .pointer (some ⟨g1, 0, none⟩)), (17, .slice A3 a2.length c3), (22, .int .i64 (imin (I64 (0 - (I64 t2))) (a2.length : Int)))]) (by kernel_rfl) ?_
    obtain ⟨l1, hx3, hm⟩ := bind_some hm
    refine o_val 23 (.slice 32 (.tmp 17) (some (.tmp 22)) none none) (.slice (cutA A3 (Int.toNat (imin (I64 (0 - (I64 t2))) (a2.length : Int))) c3 1) l1.length (c3 - Int.toNat (imin (I64 (0 - (I64 t2))) (a2.length : Int)))) (by kernel_rfl) (i_slice 32 (.tmp 17) (some (.tmp 22)) none hs2 hx3 (by kernel_rfl) (by kernel_rfl) (by kernel_rfl) (by kernel_rfl)) ?_
    have hs3 := sl_cut hs2 hx3
    refine o_run 1 [0, 2] (l := []) .nil (E' := [(0, .pointer (some ⟨g1, 0, none⟩)), (2, .slice (cutA A3 (Int.toNat (imin (I64 (0 - (I64 t2))) (a2.length : Int))) c3 1) l1.length (c3 - Int.toNat (imin (I64 (0 - (I64 t2))) (a2.length : Int))))]) (by kernel_rfl) ?_
    refine o_end (by kernel_rfl) ?_
    refine e_seq ?_
    refine w_region (by kernel_rfl) ?_
    refine o_run 1 [0, 2, 24] (l := []) .nil (E' := [(0, .pointer (some ⟨g1, 0, none⟩)), (2, .slice (cutA A3 (Int.toNat (imin (I64 (0 - (I64 t2))) (a2.length : Int))) c3 1) l1.length (c3 - Int.toNat (imin (I64 (0 - (I64 t2))) (a2.length : Int)))), (24, .pointer (some ⟨g1, 0, none⟩))]) (by kernel_rfl) ?_
    obtain ⟨t3, hx4, hm⟩ := bind_some hm
    refine o_stp ?_ (by kernel_rfl)
    refine s_call 25 13 #[.pointer (some ⟨g1, 0, none⟩)] [0, 1, 2] [] (by kernel_rfl) (by kernel_rfl) (fun w hs => rbuf_Buffer_Next_ok a0 t3 hx4 B _ g1 g2 A1 c1 A2 c2 hs1 w (St.cast (by kernel_rfl) hs)) (fun _ hx => ?_)
    refine t_L (L' := [.blk g1 [.pointer (some ⟨g2, 0, none⟩), .slice A2 a0.xbytes.length c2, .int .i64 a0.xbegin, .int .i64 a0.xn, .int .u32 a0.xlast, .bool a0.xkept] 50, .blk g2 [.bool a0.xBoard.xmade, .int .u32 a0.xBoard.xfirst, .slice A1 a0.xBoard.xruns.length c1] 76, .own A2 a0.xbytes.length c2 (rowOf (encI .u8) a0.xbytes) 1 5]) (by kernel_rfl) ?_
    refine o_run 2 [0, 1, 2, 8] (l := []) .nil (E' := [(0, .pointer (some ⟨g1, 0, none⟩)), (1, .int .u32 t3), (2, .slice (cutA A3 (Int.toNat (imin (I64 (0 - (I64 t2))) (a2.length : Int))) c3 1) l1.length (c3 - Int.toNat (imin (I64 (0 - (I64 t2))) (a2.length : Int)))), (8, .int .i64 0)]) (by kernel_rfl) ?_
    refine o_end (by kernel_rfl) ?_
    refine e_seq ?_
    refine w_seq 30 31 (by kernel_rfl) ?_
    refine w_region (by kernel_rfl) ?_
    refine o_run 1 [1, 2, 8, 26] (l := []) .nil (E' := [(1, .int .u32 t3), (2, .slice (cutA A3 (Int.toNat (imin (I64 (0 - (I64 t2))) (a2.length : Int))) c3 1) l1.length (c3 - Int.toNat (imin (I64 (0 - (I64 t2))) (a2.length : Int)))), (8, .int .i64 0), (26, .pointer (some ⟨g1, 0, none⟩))]) (by kernel_rfl) ?_
    obtain ⟨t4, hx5, hm⟩ := bind_some hm
    refine o_stp ?_ (by kernel_rfl)
    refine s_call 27 18 #[.pointer (some ⟨g1, 0, none⟩)] [0, 1, 2] [] (by kernel_rfl) (by kernel_rfl) (fun w hs => rbuf_Buffer_Window_ok a0 t4 hx5 B _ g1 g2 A1 c1 A2 c2 hs1 w (St.cast (by kernel_rfl) hs)) (fun _ hx => ?_)
    refine t_L (L' := [.blk g1 [.pointer (some ⟨g2, 0, none⟩), .slice A2 a0.xbytes.length c2, .int .i64 a0.xbegin, .int .i64 a0.xn, .int .u32 a0.xlast, .bool a0.xkept] 50, .blk g2 [.bool a0.xBoard.xmade, .int .u32 a0.xBoard.xfirst, .slice A1 a0.xBoard.xruns.length c1] 76, .own A2 a0.xbytes.length c2 (rowOf (encI .u8) a0.xbytes) 1 5]) (by kernel_rfl) ?_
    refine o_run 4 [1, 2, 9] (l := []) .nil (E' := [(1, .int .u32 t3), (2, .slice (cutA A3 (Int.toNat (imin (I64 (0 - (I64 t2))) (a2.length : Int))) c3 1) l1.length (c3 - Int.toNat (imin (I64 (0 - (I64 t2))) (a2.length : Int)))), (9, .int .i64 (imax (I64 (t4 - 0)) 0))]) (by kernel_rfl) ?_
    refine o_end (by kernel_rfl) ?_
    refine e_seq ?_
    refine w_seq 62 63 (by kernel_rfl) ?_
    refine w_quiet (by kernel_rfl) mixed (by kernel_rfl) ?_
    refine q_run 6 [31, 32, 36] (l := []) .nil (E' := [(31, .int .u32 t3), (32, .slice (cutA A3 (Int.toNat (imin (I64 (0 - (I64 t2))) (a2.length : Int))) c3 1) l1.length (c3 - Int.toNat (imin (I64 (0 - (I64 t2))) (a2.length : Int)))), (36, .int .i64 (imin (imax (I64 (t4 - 0)) 0) (l1.length : Int)))]) (by kernel_rfl) ?_
    obtain ⟨l2, hx6, hm⟩ := bind_some hm
    refine q_val 37 (.slice 32 (.tmp 32) none (some (.tmp 36)) none) (.slice (cutA (cutA A3 (Int.toNat (imin (I64 (0 - (I64 t2))) (a2.length : Int))) c3 1) (Int.toNat 0) (c3 - Int.toNat (imin (I64 (0 - (I64 t2))) (a2.length : Int))) 1) l2.length ((c3 - Int.toNat (imin (I64 (0 - (I64 t2))) (a2.length : Int))) - Int.toNat 0)) (by kernel_rfl) (i_slice 32 (.tmp 32) none (some (.tmp 36)) hs3 hx6 (by kernel_rfl) (by kernel_rfl) (by kernel_rfl) (by kernel_rfl)) ?_
    have hs4 := sl_cut hs3 hx6
    refine q_run 2 [6, 7] (l := []) .nil (E' := [(6, .int .u32 t3), (7, .slice (cutA (cutA A3 (Int.toNat (imin (I64 (0 - (I64 t2))) (a2.length : Int))) c3 1) (Int.toNat 0) (c3 - Int.toNat (imin (I64 (0 - (I64 t2))) (a2.length : Int))) 1) l2.length ((c3 - Int.toNat (imin (I64 (0 - (I64 t2))) (a2.length : Int))) - Int.toNat 0))]) (by kernel_rfl) ?_
    refine q_end (by kernel_rfl) ?_
    refine e_seq ?_
    refine w_ret (by kernel_rfl) ?_
    obtain rfl := Option.some.inj hm
    exact e_retP ((cutA (cutA A3 (Int.toNat (imin (I64 (0 - (I64 t2))) (a2.length : Int))) c3 1) (Int.toNat 0) (c3 - Int.toNat (imin (I64 (0 - (I64 t2))) (a2.length : Int))) 1), ((c3 - Int.toNat (imin (I64 (0 - (I64 t2))) (a2.length : Int))) - Int.toNat 0)) (.tuple #[.int .u32 t3, .slice (cutA (cutA A3 (Int.toNat (imin (I64 (0 - (I64 t2))) (a2.length : Int))) c3 1) (Int.toNat 0) (c3 - Int.toNat (imin (I64 (0 - (I64 t2))) (a2.length : Int))) 1) l2.length ((c3 - Int.toNat (imin (I64 (0 - (I64 t2))) (a2.length : Int))) - Int.toNat 0)]) [0, 1, 2] (by kernel_rfl) (by kernel_rfl) rfl (by kernel_rfl) (by kernel_rfl) hs4
  · replace hm := ite_f hb1 hm
    refine w_skip (by kernel_rfl) ?_
    refine e_seq ?_
    refine w_seq 30 31 (by kernel_rfl) ?_
    refine w_region (by kernel_rfl) ?_
    refine o_run 1 [1, 2, 8, 26] (l := []) .nil (E' := [(1, .int .u32 a1), (2, .slice A3 a2.length c3), (8, .int .i64 (I64 t2)), (26, .pointer (some ⟨g1, 0, none⟩))]) (by kernel_rfl) ?_
    obtain ⟨t5, hx7, hm⟩ := bind_some hm
    refine o_stp ?_ (by kernel_rfl)
    refine s_call 27 18 #[.pointer (some ⟨g1, 0, none⟩)] [0, 1, 2] [] (by kernel_rfl) (by kernel_rfl) (fun w hs => rbuf_Buffer_Window_ok a0 t5 hx7 B _ g1 g2 A1 c1 A2 c2 hs1 w (St.cast (by kernel_rfl) hs)) (fun _ hx => ?_)
    refine t_L (L' := [.blk g1 [.pointer (some ⟨g2, 0, none⟩), .slice A2 a0.xbytes.length c2, .int .i64 a0.xbegin, .int .i64 a0.xn, .int .u32 a0.xlast, .bool a0.xkept] 50, .blk g2 [.bool a0.xBoard.xmade, .int .u32 a0.xBoard.xfirst, .slice A1 a0.xBoard.xruns.length c1] 76, .own A2 a0.xbytes.length c2 (rowOf (encI .u8) a0.xbytes) 1 5]) (by kernel_rfl) ?_
    refine o_run 4 [1, 2, 9] (l := []) .nil (E' := [(1, .int .u32 a1), (2, .slice A3 a2.length c3), (9, .int .i64 (imax (I64 (t5 - (I64 t2))) 0))]) (by kernel_rfl) ?_
    refine o_end (by kernel_rfl) ?_
    refine e_seq ?_
    refine w_seq 62 63 (by kernel_rfl) ?_
    refine w_quiet (by kernel_rfl) mixed (by kernel_rfl) ?_
    refine q_run 6 [31, 32, 36] (l := []) .nil (E' := [(31, .int .u32 a1), (32, .slice A3 a2.length c3), (36, .int .i64 (imin (imax (I64 (t5 - (I64 t2))) 0) (a2.length : Int)))]) (by kernel_rfl) ?_
    obtain ⟨l3, hx8, hm⟩ := bind_some hm
    refine q_val 37 (.slice 32 (.tmp 32) none (some (.tmp 36)) none) (.slice (cutA A3 (Int.toNat 0) c3 1) l3.length (c3 - Int.toNat 0)) (by kernel_rfl) (i_slice 32 (.tmp 32) none (some (.tmp 36)) hs2 hx8 (by kernel_rfl) (by kernel_rfl) (by kernel_rfl) (by kernel_rfl)) ?_
    have hs5 := sl_cut hs2 hx8
    refine q_run 2 [6, 7] (l := []) .nil (E' := [(6, .int .u32 a1), (7, .slice (cutA A3 (Int.toNat 0) c3 1) l3.length (c3 - Int.toNat 0))]) (by kernel_rfl) ?_
    refine q_end (by kernel_rfl) ?_
    refine e_seq ?_
    refine w_ret (by kernel_rfl) ?_
    obtain rfl := Option.some.inj hm
    exact e_retP ((cutA A3 (Int.toNat 0) c3 1), (c3 - Int.toNat 0)) (.tuple #[.int .u32 a1, .slice (cutA A3 (Int.toNat 0) c3 1) l3.length (c3 - Int.toNat 0)]) [0, 1, 2] (by kernel_rfl) (by kernel_rfl) rfl (by kernel_rfl) (by kernel_rfl) hs5
def sack_Board_ahead.f (a0 : T_sack_Board) (a1 : Int) : Option (Int) :=
  (some (I64 (U32 (a1 - a0.xfirst))))
theorem sack_Board_ahead_ok (a0 : T_sack_Board) (a1 : Int) (r : Int) (hm : sack_Board_ahead.f a0 a1 = some r) (B G : Asn) (g1 : Nat) (A1 : Option Addr) (c1 : Nat) (hs1 : Sl kT_sack_run B A1 c1 a0.xruns) (w : World) (hs : St B G [.blk g1 [.bool a0.xmade, .int .u32 a0.xfirst, .slice A1 a0.xruns.length c1] 76] w) :
    Calls Try.prog 44 #[.pointer (some ⟨g1, 0, none⟩), .int .u32 a1] w (Post (X := Unit) (fun x => .int .i64 r) (fun x => B) G (fun x => [.blk g1 [.bool a0.xmade, .int .u32 a0.xfirst, .slice A1 a0.xruns.length c1] 76]) (fun x => True)) := by
  unfold sack_Board_ahead.f at hm
  refine calls_W (F := Try.f44) Try.func44 rfl (by kernel_rfl) (L := [.blk g1 [.bool a0.xmade, .int .u32 a0.xfirst, .slice A1 a0.xruns.length c1] 76]) ?_ hs
  refine w_seq 2 3 (by kernel_rfl) ?_
  refine w_region (by kernel_rfl) ?_
  refine o_run 1 [0, 1] (l := []) .nil (E' := [(0, .pointer (some ⟨g1, 0, none⟩)), (1, .int .u32 a1)]) (by kernel_rfl) ?_
  refine o_end (by kernel_rfl) ?_
  refine e_seq ?_
  refine w_seq 6 7 (by kernel_rfl) ?_
  refine w_region (by kernel_rfl) ?_
  refine o_run 8 [4] (l := [(⟨g1, 1, none⟩, .int .u32 a0.xfirst)]) (.one (at_blk (j := 0) rfl rfl) .nil) (E' := [(4, .int .i64 (I64 (U32 (a1 - a0.xfirst))))]) (by kernel_rfl) ?_
  refine o_end (by kernel_rfl) ?_
  refine e_seq ?_
  refine w_ret (by kernel_rfl) ?_
  obtain rfl := Option.some.inj hm
  exact e_retP () (.int .i64 (I64 (U32 (a1 - a0.xfirst)))) [0] (by kernel_rfl) (by kernel_rfl) rfl (by kernel_rfl) (by kernel_rfl) trivial
def sack_Board_Has_1.f (a0 : T_sack_run) (a1 : Int) : Option (Bool) :=
  (if decide (a0.xfrom ≤ a1) then (some (decide (a1 < a0.xto))) else (some false))
theorem sack_Board_Has_1_ok (a0 : T_sack_run) (a1 : Int) (r : Bool) (hm : sack_Board_Has_1.f a0 a1 = some r) (B G : Asn) (g1 : Nat) (w : World) (hs : St B G [.blk g1 [.int .i64 a1] 3] w) :
    Calls Try.prog 46 #[.agg #[.int .i64 a0.xfrom, .int .i64 a0.xto], .pointer (some ⟨g1, 0, none⟩)] w (Post (X := Unit) (fun x => .bool r) (fun x => B) G (fun x => [.blk g1 [.int .i64 a1] 3]) (fun x => True)) := by
  unfold sack_Board_Has_1.f at hm
  refine calls_W (F := Try.f46) Try.func46 rfl (by kernel_rfl) (L := [.blk g1 [.int .i64 a1] 3]) ?_ hs
  refine w_seq 2 3 (by kernel_rfl) ?_
  refine w_region (by kernel_rfl) ?_
  refine o_stp ?_ (by kernel_rfl)
  refine s_new 2 (fun g2 => .pointer (some ⟨g2, 0, none⟩)) [.int .i64 a0.xfrom, .int .i64 a0.xto] 81 (fun _ => by kernel_rfl) (fun g2 => ?_)
  refine o_run 1 [1, 2] (l := []) .nil (E' := [(1, .pointer (some ⟨g1, 0, none⟩)), (2, .pointer (some ⟨g2, 0, none⟩))]) (by kernel_rfl) ?_
  refine o_end (by kernel_rfl) ?_
  refine e_seq ?_
  refine w_seq 6 7 (by kernel_rfl) ?_
  refine w_region (by kernel_rfl) ?_
  refine o_run 5 [1, 2, 8] (l := [(⟨g2, 0, none⟩, .int .i64 a0.xfrom), (⟨g1, 0, none⟩, .int .i64 a1)]) (.one (at_blk (j := 0) rfl rfl) (.one (at_blk (j := 1) rfl rfl) .nil)) (E' := [(1, .pointer (some ⟨g1, 0, none⟩)), (2, .pointer (some ⟨g2, 0, none⟩)), (8, .bool (decide (a0.xfrom ≤ a1)))]) (by kernel_rfl) ?_
  refine o_split 8 (decide (a0.xfrom ≤ a1)) (by kernel_rfl) (fun hb1 => ?_) (fun hb1 => ?_)
  · replace hm := ite_t hb1 hm
    refine o_run 6 [3] (l := [(⟨g1, 0, none⟩, .int .i64 a1), (⟨g2, 1, none⟩, .int .i64 a0.xto)]) (.one (at_blk (j := 1) rfl rfl) (.one (at_blk (j := 0) rfl rfl) .nil)) (E' := [(3, .bool (decide (a1 < a0.xto)))]) (by kernel_rfl) ?_
    refine o_end (by kernel_rfl) ?_
    refine e_seq ?_
    refine w_ret (by kernel_rfl) ?_
    obtain rfl := Option.some.inj hm
    exact e_retP () (.bool (decide (a1 < a0.xto))) [1] (by kernel_rfl) (by kernel_rfl) rfl (by kernel_rfl) (by kernel_rfl) trivial
  · replace hm := ite_f hb1 hm
    refine o_run 6 [3] (l := []) .nil (E' := [(3, .bool false)]) (by kernel_rfl) ?_
    refine o_end (by kernel_rfl) ?_
    refine e_seq ?_
    refine w_ret (by kernel_rfl) ?_
    obtain rfl := Option.some.inj hm
    exact e_retP () (.bool false) [1] (by kernel_rfl) (by kernel_rfl) rfl (by kernel_rfl) (by kernel_rfl) trivial
def slices_IndexFunc_sack_run.l1 : Nat → (List T_sack_run) → Int → Int → Option ((Int) ⊕ (Unit))
  | 0, _, _, _ => none
  | k + 1, a0, a1, p1 => (if decide (p1 < (a0.length : Int)) then ((idx a0 p1).bind fun e1 => ((sack_Board_Has_1.f e1 a1).bind fun t2 => (if t2 then (some (.inl p1)) else (slices_IndexFunc_sack_run.l1 k a0 a1 (I64 (p1 + 1)))))) else (some (.inr ())))
def slices_IndexFunc_sack_run.f (k : Nat) (a0 : List T_sack_run) (a1 : Int) : Option (Int) :=
  ((slices_IndexFunc_sack_run.l1 k a0 a1 0).bind fun t1 => brk t1 (fun r => some r) (fun u1 => (some (-1))))
theorem slices_IndexFunc_sack_run_ok (k : Nat) (a0 : List T_sack_run) (a1 : Int) (r : Int) (hm : slices_IndexFunc_sack_run.f k a0 a1 = some r) (B G : Asn) (A1 : Option Addr) (c1 : Nat) (g1 : Nat) (hs1 : Sl kT_sack_run B A1 c1 a0) (w : World) (hs : St B G [.blk g1 [.int .i64 a1] 3] w) :
    Calls Try.prog 50 #[.slice A1 a0.length c1, .func (.func 46) #[] #[.pointer (some ⟨g1, 0, none⟩)]] w (Post (X := Unit) (fun x => .int .i64 r) (fun x => B) G (fun x => [.blk g1 [.int .i64 a1] 3]) (fun x => True)) := by
  unfold slices_IndexFunc_sack_run.f at hm
  refine calls_W (F := Try.f50) Try.func50 rfl (by kernel_rfl) (L := [.blk g1 [.int .i64 a1] 3]) ?_ hs
  refine w_seq 2 3 (by kernel_rfl) ?_
  refine w_region (by kernel_rfl) ?_
  refine o_run 1 [0, 1] (l := []) .nil (E' := [(0, .slice A1 a0.length c1), (1, .func (.func 46) #[] #[.pointer (some ⟨g1, 0, none⟩)])]) (by kernel_rfl) ?_
  refine o_end (by kernel_rfl) ?_
  refine e_seq ?_
  refine w_seq 6 7 (by kernel_rfl) ?_
  refine w_seq 12 13 (by kernel_rfl) ?_
  refine w_region (by kernel_rfl) ?_
  refine o_run 3 [0, 1, 7, 8] (l := []) .nil (E' := [(0, .slice A1 a0.length c1), (1, .func (.func 46) #[] #[.pointer (some ⟨g1, 0, none⟩)]), (7, .int .i64 (a0.length : Int)), (8, .int .i64 0)]) (by kernel_rfl) ?_
  refine o_end (by kernel_rfl) ?_
  refine e_seq ?_
  refine w_block 0 26 (by kernel_rfl) ?_
  obtain ⟨t1, ht1, ho1⟩ := bind_some hm
  refine t_env [0, 1, 7, 8] (E' := [(0, .slice A1 a0.length c1), (1, .func (.func 46) #[] #[.pointer (some ⟨g1, 0, none⟩)]), (7, .int .i64 (a0.length : Int)), (8, .int .i64 0)]) (by kernel_rfl) ?_
  refine w_loopJ 52 0 (fun k a w => ∃ (p1 : Int), slices_IndexFunc_sack_run.l1 k a0 a1 p1 = some t1 ∧ EnvOk [(0, .slice A1 a0.length c1), (1, .func (.func 46) #[] #[.pointer (some ⟨g1, 0, none⟩)]), (7, .int .i64 (a0.length : Int)), (8, .int .i64 p1)] Try.f50.ntmps a ∧ St B G [.blk g1 [.int .i64 a1] 3] w) (fun a w => ∃ (u1 : Unit), t1 = .inr u1 ∧ EnvOk [] Try.f50.ntmps a ∧ St B G [.blk g1 [.int .i64 a1] 3] w) (by kernel_rfl) ?_ ?_ k ?_
  · rintro a w ⟨u1, hu, ha, hw⟩
    refine we_of (E := []) (B := B) (G := G) (L := [.blk g1 [.int .i64 a1] 3]) ?_ ha hw
    subst hu
    replace hm := brk_inr ho1
    refine e_seq ?_
    refine w_seq 14 15 (by kernel_rfl) ?_
    refine w_region (by kernel_rfl) ?_
    refine o_run 1 [4] (l := []) .nil (E' := [(4, .int .i64 (-1))]) (by kernel_rfl) ?_
    refine o_end (by kernel_rfl) ?_
    refine e_seq ?_
    refine w_ret (by kernel_rfl) ?_
    obtain rfl := Option.some.inj hm
    exact e_retP () (.int .i64 (-1)) [0] (by kernel_rfl) (by kernel_rfl) rfl (by kernel_rfl) (by kernel_rfl) trivial
  · rintro k a w ⟨p1, hm, ha, hw⟩
    cases k with
    | zero => exact absurd hm (by simp [slices_IndexFunc_sack_run.l1])
    | succ k =>
      unfold slices_IndexFunc_sack_run.l1 at hm
      refine wc_of (E := [(0, .slice A1 a0.length c1), (1, .func (.func 46) #[] #[.pointer (some ⟨g1, 0, none⟩)]), (7, .int .i64 (a0.length : Int)), (8, .int .i64 p1)]) (B := B) (G := G) (L := [.blk g1 [.int .i64 a1] 3]) ?_ ha hw
      refine w_seq 104 105 (by kernel_rfl) ?_
      refine w_region (by kernel_rfl) ?_
      refine o_run 1 [0, 1, 7, 8, 9] (l := []) .nil (E' := [(0, .slice A1 a0.length c1), (1, .func (.func 46) #[] #[.pointer (some ⟨g1, 0, none⟩)]), (7, .int .i64 (a0.length : Int)), (8, .int .i64 p1), (9, .bool (decide (p1 < (a0.length : Int))))]) (by kernel_rfl) ?_
      refine o_end (by kernel_rfl) ?_
      refine e_seq ?_
      refine w_seq 210 211 (by kernel_rfl) ?_
      refine w_cond (.tmp 9) 420 421 (decide (p1 < (a0.length : Int))) (by kernel_rfl) (by kernel_rfl) (fun hb1 => ?_) (fun hb1 => ?_)
      · replace hm := ite_t hb1 hm
        refine w_skip (by kernel_rfl) ?_
        refine e_seq ?_
        refine w_seq 422 423 (by kernel_rfl) ?_
        refine w_block 1 844 (by kernel_rfl) ?_
        refine w_seq 1688 1689 (by kernel_rfl) ?_
        refine w_region (by kernel_rfl) ?_
        refine o_run 2 [0, 1, 5, 7, 8] (l := []) .nil (E' := [(0, .slice A1 a0.length c1), (1, .func (.func 46) #[] #[.pointer (some ⟨g1, 0, none⟩)]), (5, .int .i64 p1), (7, .int .i64 (a0.length : Int)), (8, .int .i64 p1)]) (by kernel_rfl) ?_
        refine o_end (by kernel_rfl) ?_
        refine e_seq ?_
        refine w_seq 3378 3379 (by kernel_rfl) ?_
        refine w_region (by kernel_rfl) ?_
        refine o_run 3 [0, 1, 5, 7, 8, 11, 12, 13] (l := []) .nil (E' := [(0, .slice A1 a0.length c1), (1, .func (.func 46) #[] #[.pointer (some ⟨g1, 0, none⟩)]), (5, .int .i64 p1), (7, .int .i64 (a0.length : Int)), (8, .int .i64 p1), (11, .func (.func 46) #[] #[.pointer (some ⟨g1, 0, none⟩)]), (12, .slice A1 a0.length c1), (13, .int .i64 p1)]) (by kernel_rfl) ?_
        obtain ⟨e1, hx1, hm⟩ := bind_some hm
        obtain ⟨hi1, hi2, hg1⟩ := idx_some hx1
        obtain ⟨cs1, hk1, hc1⟩ := (hs1).at hg1
        obtain rfl := hk1
        refine o_val 14 (.indexAddr 74 (.tmp 12) (.tmp 13)) (.pointer (some (adr A1 (Int.toNat p1 * 2)))) (by kernel_rfl) (v_index (k := .i64) (c := c1) (by kernel_rfl) (by kernel_rfl) (by kernel_rfl) hi1 hi2 ((hs1).some hg1)) ?_
        refine o_run 1 [0, 1, 5, 7, 8, 11, 15] (l := [((adr A1 (Int.toNat p1 * 2)), .int .i64 e1.xfrom), (((adr A1 (Int.toNat p1 * 2)).add 1), .int .i64 e1.xto)]) (.one ((at_sl hc1).sub 0 rfl) (.one ((at_sl hc1).sub 1 rfl) .nil)) (E' := [(0, .slice A1 a0.length c1), (1, .func (.func 46) #[] #[.pointer (some ⟨g1, 0, none⟩)]), (5, .int .i64 p1), (7, .int .i64 (a0.length : Int)), (8, .int .i64 p1), (11, .func (.func 46) #[] #[.pointer (some ⟨g1, 0, none⟩)]), (15, .agg #[.int .i64 e1.xfrom, .int .i64 e1.xto])]) (by kernel_rfl) ?_
        obtain ⟨t2, hx2, hm⟩ := bind_some hm
        refine o_stp ?_ (by kernel_rfl)
        refine s_call 16 46 #[.agg #[.int .i64 e1.xfrom, .int .i64 e1.xto], .pointer (some ⟨g1, 0, none⟩)] [0] [] (by kernel_rfl) (by kernel_rfl) (fun w hs => sack_Board_Has_1_ok e1 a1 t2 hx2 B _ g1 w (St.cast (by kernel_rfl) hs)) (fun _ hx => ?_)
        refine t_L (L' := [.blk g1 [.int .i64 a1] 3]) (by kernel_rfl) ?_
        refine o_end (by kernel_rfl) ?_
        refine e_seq ?_
        refine w_cond (.tmp 16) 6758 6759 t2 (by kernel_rfl) (by kernel_rfl) (fun hb2 => ?_) (fun hb2 => ?_)
        · replace hm := ite_t hb2 hm
          refine w_seq 13516 13517 (by kernel_rfl) ?_
          refine w_region (by kernel_rfl) ?_
          refine o_run 2 [4] (l := []) .nil (E' := [(4, .int .i64 p1)]) (by kernel_rfl) ?_
          refine o_end (by kernel_rfl) ?_
          refine e_seq ?_
          refine w_ret (by kernel_rfl) ?_
          obtain rfl := Option.some.inj hm
          replace hm := brk_inl ho1
          obtain rfl := Option.some.inj hm
          exact e_retP () (.int .i64 p1) [0] (by kernel_rfl) (by kernel_rfl) rfl (by kernel_rfl) (by kernel_rfl) trivial
        · replace hm := ite_f hb2 hm
          refine w_skip (by kernel_rfl) ?_
          refine e_blk ?_
          refine e_seq ?_
          refine w_region (by kernel_rfl) ?_
          refine o_run 2 [0, 1, 7, 8] (l := []) .nil (E' := [(0, .slice A1 a0.length c1), (1, .func (.func 46) #[] #[.pointer (some ⟨g1, 0, none⟩)]), (7, .int .i64 (a0.length : Int)), (8, .int .i64 (I64 (p1 + 1)))]) (by kernel_rfl) ?_
          refine o_end (by kernel_rfl) ?_
          refine t_drop [0] (by kernel_rfl) ?_
          refine t_L (L' := [.blk g1 [.int .i64 a1] 3]) (by kernel_rfl) ?_
          refine t_env [0, 1, 7, 8] (E' := [(0, .slice A1 a0.length c1), (1, .func (.func 46) #[] #[.pointer (some ⟨g1, 0, none⟩)]), (7, .int .i64 (a0.length : Int)), (8, .int .i64 (I64 (p1 + 1)))]) (by kernel_rfl) ?_
          exact e_inv (fun a w ha hw => ⟨k, Nat.lt_succ_self k, (I64 (p1 + 1)), hm, ha, hw⟩)
      · replace hm := ite_f hb1 hm
        refine w_exit 0 (by kernel_rfl) ?_
        refine e_x_seq ?_
        refine e_x_inv ?_
        refine e_x_here ?_
        refine t_drop [0] (by kernel_rfl) ?_
        refine t_L (L' := [.blk g1 [.int .i64 a1] 3]) (by kernel_rfl) ?_
        refine t_env [] (E' := []) (by kernel_rfl) ?_
        obtain rfl := Option.some.inj hm
        exact e_inv (fun a w ha hw => ⟨(), rfl, ha, hw⟩)
  · exact fun a w ha hw => ⟨0, ht1, ha, hw⟩
def slices_ContainsFunc_sack_run.f (k : Nat) (a0 : List T_sack_run) (a1 : Int) : Option (Bool) :=
  ((slices_IndexFunc_sack_run.f k a0 a1).bind fun t1 => (some (decide (t1 ≥ 0))))
theorem slices_ContainsFunc_sack_run_ok (k : Nat) (a0 : List T_sack_run) (a1 : Int) (r : Bool) (hm : slices_ContainsFunc_sack_run.f k a0 a1 = some r) (B G : Asn) (A1 : Option Addr) (c1 : Nat) (g1 : Nat) (hs1 : Sl kT_sack_run B A1 c1 a0) (w : World) (hs : St B G [.blk g1 [.int .i64 a1] 3] w) :
    Calls Try.prog 45 #[.slice A1 a0.length c1, .func (.func 46) #[] #[.pointer (some ⟨g1, 0, none⟩)]] w (Post (X := Unit) (fun x => .bool r) (fun x => B) G (fun x => [.blk g1 [.int .i64 a1] 3]) (fun x => True)) := by
  unfold slices_ContainsFunc_sack_run.f at hm
  refine calls_W (F := Try.f45) Try.func45 rfl (by kernel_rfl) (L := [.blk g1 [.int .i64 a1] 3]) ?_ hs
  refine w_seq 2 3 (by kernel_rfl) ?_
  refine w_region (by kernel_rfl) ?_
  refine o_run 1 [0, 1] (l := []) .nil (E' := [(0, .slice A1 a0.length c1), (1, .func (.func 46) #[] #[.pointer (some ⟨g1, 0, none⟩)])]) (by kernel_rfl) ?_
  refine o_end (by kernel_rfl) ?_
  refine e_seq ?_
  refine w_seq 6 7 (by kernel_rfl) ?_
  refine w_region (by kernel_rfl) ?_
  refine o_run 2 [5, 6] (l := []) .nil (E' := [(5, .slice A1 a0.length c1), (6, .func (.func 46) #[] #[.pointer (some ⟨g1, 0, none⟩)])]) (by kernel_rfl) ?_
  obtain ⟨t1, hx1, hm⟩ := bind_some hm
  refine o_stp ?_ (by kernel_rfl)
  refine s_call 7 50 #[.slice A1 a0.length c1, .func (.func 46) #[] #[.pointer (some ⟨g1, 0, none⟩)]] [0] [] (by kernel_rfl) (by kernel_rfl) (fun w hs => slices_IndexFunc_sack_run_ok k a0 a1 t1 hx1 B _ A1 c1 g1 hs1 w (St.cast (by kernel_rfl) hs)) (fun _ hx => ?_)
  refine t_L (L' := [.blk g1 [.int .i64 a1] 3]) (by kernel_rfl) ?_
  refine o_run 2 [4] (l := []) .nil (E' := [(4, .bool (decide (t1 ≥ 0)))]) (by kernel_rfl) ?_
  refine o_end (by kernel_rfl) ?_
  refine e_seq ?_
  refine w_ret (by kernel_rfl) ?_
  obtain rfl := Option.some.inj hm
  exact e_retP () (.bool (decide (t1 ≥ 0))) [0] (by kernel_rfl) (by kernel_rfl) rfl (by kernel_rfl) (by kernel_rfl) trivial
def sack_Board_Has.f (k : Nat) (a0 : T_sack_Board) (a1 : Int) : Option (Bool) :=
  ((sack_Board_ok.f a0).bind fun t1 => (if !t1 then (some false) else ((sack_Board_ahead.f a0 a1).bind fun t2 => ((slices_ContainsFunc_sack_run.f k a0.xruns t2).bind fun t3 => (some t3)))))
theorem sack_Board_Has_ok (k : Nat) (a0 : T_sack_Board) (a1 : Int) (r : Bool) (hm : sack_Board_Has.f k a0 a1 = some r) (B G : Asn) (g1 : Nat) (A1 : Option Addr) (c1 : Nat) (hs1 : Sl kT_sack_run B A1 c1 a0.xruns) (w : World) (hs : St B G [.blk g1 [.bool a0.xmade, .int .u32 a0.xfirst, .slice A1 a0.xruns.length c1] 76] w) :
    Calls Try.prog 29 #[.pointer (some ⟨g1, 0, none⟩), .int .u32 a1] w (Post (X := Unit) (fun x => .bool r) (fun x => B) G (fun x => [.blk g1 [.bool a0.xmade, .int .u32 a0.xfirst, .slice A1 a0.xruns.length c1] 76]) (fun x => True)) := by
  unfold sack_Board_Has.f at hm
  refine calls_W (F := Try.f29) Try.func29 rfl (by kernel_rfl) (L := [.blk g1 [.bool a0.xmade, .int .u32 a0.xfirst, .slice A1 a0.xruns.length c1] 76]) ?_ hs
  refine w_seq 2 3 (by kernel_rfl) ?_
  refine w_region (by kernel_rfl) ?_
  refine o_run 1 [0, 1] (l := []) .nil (E' := [(0, .pointer (some ⟨g1, 0, none⟩)), (1, .int .u32 a1)]) (by kernel_rfl) ?_
  refine o_end (by kernel_rfl) ?_
  refine e_seq ?_
  refine w_seq 6 7 (by kernel_rfl) ?_
  refine w_seq 12 13 (by kernel_rfl) ?_
  refine w_region (by kernel_rfl) ?_
  refine o_run 1 [0, 1, 6] (l := []) .nil (E' := [(0, .pointer (some ⟨g1, 0, none⟩)), (1, .int .u32 a1), (6, .pointer (some ⟨g1, 0, none⟩))]) (by kernel_rfl) ?_
  obtain ⟨t1, hx1, hm⟩ := bind_some hm
  refine o_stp ?_ (by kernel_rfl)
  refine s_call 7 43 #[.pointer (some ⟨g1, 0, none⟩)] [0] [] (by kernel_rfl) (by kernel_rfl) (fun w hs => sack_Board_ok_ok a0 t1 hx1 B _ g1 A1 c1 hs1 w (St.cast (by kernel_rfl) hs)) (fun _ hx => ?_)
  refine t_L (L' := [.blk g1 [.bool a0.xmade, .int .u32 a0.xfirst, .slice A1 a0.xruns.length c1] 76]) (by kernel_rfl) ?_
  refine o_run 1 [0, 1, 8] (l := []) .nil (E' := [(0, .pointer (some ⟨g1, 0, none⟩)), (1, .int .u32 a1), (8, .bool (!t1))]) (by kernel_rfl) ?_
  refine o_end (by kernel_rfl) ?_
  refine e_seq ?_
  refine w_cond (.tmp 8) 26 27 (!t1) (by kernel_rfl) (by kernel_rfl) (fun hb1 => ?_) (fun hb1 => ?_)
  · replace hm := ite_t hb1 hm
    refine w_seq 52 53 (by kernel_rfl) ?_
    refine w_region (by kernel_rfl) ?_
    refine o_run 1 [4] (l := []) .nil (E' := [(4, .bool false)]) (by kernel_rfl) ?_
    refine o_end (by kernel_rfl) ?_
    refine e_seq ?_
    refine w_ret (by kernel_rfl) ?_
    obtain rfl := Option.some.inj hm
    exact e_retP () (.bool false) [0] (by kernel_rfl) (by kernel_rfl) rfl (by kernel_rfl) (by kernel_rfl) trivial
  · replace hm := ite_f hb1 hm
    refine w_skip (by kernel_rfl) ?_
    refine e_seq ?_
    refine w_seq 14 15 (by kernel_rfl) ?_
    refine w_region (by kernel_rfl) ?_
    refine o_run 2 [0, 9, 10] (l := []) .nil (E' := [(0, .pointer (some ⟨g1, 0, none⟩)), (9, .pointer (some ⟨g1, 0, none⟩)), (10, .int .u32 a1)]) (by kernel_rfl) ?_
    obtain ⟨t2, hx2, hm⟩ := bind_some hm
    refine o_stp ?_ (by kernel_rfl)
    refine s_call 11 44 #[.pointer (some ⟨g1, 0, none⟩), .int .u32 a1] [0] [] (by kernel_rfl) (by kernel_rfl) (fun w hs => sack_Board_ahead_ok a0 a1 t2 hx2 B _ g1 A1 c1 hs1 w (St.cast (by kernel_rfl) hs)) (fun _ hx => ?_)
    refine t_L (L' := [.blk g1 [.bool a0.xmade, .int .u32 a0.xfirst, .slice A1 a0.xruns.length c1] 76]) (by kernel_rfl) ?_
    refine o_stp ?_ (by kernel_rfl)
    refine s_new 5 (fun g2 => .pointer (some ⟨g2, 0, none⟩)) [.int .i64 0] 3 (fun _ => by kernel_rfl) (fun g2 => ?_)
    refine o_stp ?_ (by kernel_rfl)
    refine s_store 0 g2 [.int .i64 0] 3 [(0, .int .i64 t2)] (by kernel_rfl) (by kernel_rfl) (by kernel_rfl) ?_
    refine t_L (L' := [.blk g2 [.int .i64 t2] 3, .blk g1 [.bool a0.xmade, .int .u32 a0.xfirst, .slice A1 a0.xruns.length c1] 76]) (by kernel_rfl) ?_
    refine o_end (by kernel_rfl) ?_
    refine e_seq ?_
    refine w_seq 30 31 (by kernel_rfl) ?_
    refine w_region (by kernel_rfl) ?_
    refine o_run 5 [15, 16] (l := [(⟨g1, 2, none⟩, .slice A1 a0.xruns.length c1)]) (.one (at_blk (j := 1) rfl rfl) .nil) (E' := [(15, .slice A1 a0.xruns.length c1), (16, .func (.func 46) #[] #[.pointer (some ⟨g2, 0, none⟩)])]) (by kernel_rfl) ?_
    obtain ⟨t3, hx3, hm⟩ := bind_some hm
    refine o_stp ?_ (by kernel_rfl)
    refine s_call 17 45 #[.slice A1 a0.xruns.length c1, .func (.func 46) #[] #[.pointer (some ⟨g2, 0, none⟩)]] [0] [1] (by kernel_rfl) (by kernel_rfl) (fun w hs => slices_ContainsFunc_sack_run_ok k a0.xruns t2 t3 hx3 B _ A1 c1 g2 hs1 w (St.cast (by kernel_rfl) hs)) (fun _ hx => ?_)
    refine t_L (L' := [.blk g2 [.int .i64 t2] 3, .blk g1 [.bool a0.xmade, .int .u32 a0.xfirst, .slice A1 a0.xruns.length c1] 76]) (by kernel_rfl) ?_
    refine o_run 1 [4] (l := []) .nil (E' := [(4, .bool t3)]) (by kernel_rfl) ?_
    refine o_end (by kernel_rfl) ?_
    refine e_seq ?_
    refine w_ret (by kernel_rfl) ?_
    obtain rfl := Option.some.inj hm
    exact e_retP () (.bool t3) [1] (by kernel_rfl) (by kernel_rfl) rfl (by kernel_rfl) (by kernel_rfl) trivial
def rbuf_Buffer_place.f (a0 : T_rbuf_Buffer_o) (a1 : Int) : Option ((Int × Int)) :=
  ((rbuf_Buffer_Next.f a0).bind fun t1 => ((divr (I64 (a0.xbegin + (I64 (U32 (a1 - (U32 (t1 - (U32 a0.xn)))))))) (a0.xbytes.length : Int)).bind fun e1 => ((idx a0.xbytes e1).bind fun e2 => (some (e1, e2)))))
theorem rbuf_Buffer_place_ok (a0 : T_rbuf_Buffer_o) (a1 : Int) (r : (Int × Int)) (hm : rbuf_Buffer_place.f a0 a1 = some r) (B G : Asn) (g1 : Nat) (g2 : Nat) (A1 : Option Addr) (c1 : Nat) (A2 : Option Addr) (c2 : Nat) (hs1 : Sl kT_sack_run B A1 c1 a0.xBoard.xruns) (w : World) (hs : St B G [.blk g1 [.pointer (some ⟨g2, 0, none⟩), .slice A2 a0.xbytes.length c2, .int .i64 a0.xbegin, .int .i64 a0.xn, .int .u32 a0.xlast, .bool a0.xkept] 50, .blk g2 [.bool a0.xBoard.xmade, .int .u32 a0.xBoard.xfirst, .slice A1 a0.xBoard.xruns.length c1] 76, .own A2 a0.xbytes.length c2 (rowOf (encI .u8) a0.xbytes) 1 5] w) :
    Calls Try.prog 26 #[.pointer (some ⟨g1, 0, none⟩), .int .u32 a1] w (Post (X := Unit) (fun x => .pointer (some (adr A2 (Int.toNat r.1 * 1)))) (fun x => B) G (fun x => [.blk g1 [.pointer (some ⟨g2, 0, none⟩), .slice A2 a0.xbytes.length c2, .int .i64 a0.xbegin, .int .i64 a0.xn, .int .u32 a0.xlast, .bool a0.xkept] 50, .blk g2 [.bool a0.xBoard.xmade, .int .u32 a0.xBoard.xfirst, .slice A1 a0.xBoard.xruns.length c1] 76, .own A2 a0.xbytes.length c2 (rowOf (encI .u8) a0.xbytes) 1 5]) (fun x => (a0.xbytes[Int.toNat r.1]? = some r.2))) := by
  unfold rbuf_Buffer_place.f at hm
  refine calls_W (F := Try.f26) Try.func26 rfl (by kernel_rfl) (L := [.blk g1 [.pointer (some ⟨g2, 0, none⟩), .slice A2 a0.xbytes.length c2, .int .i64 a0.xbegin, .int .i64 a0.xn, .int .u32 a0.xlast, .bool a0.xkept] 50, .blk g2 [.bool a0.xBoard.xmade, .int .u32 a0.xBoard.xfirst, .slice A1 a0.xBoard.xruns.length c1] 76, .own A2 a0.xbytes.length c2 (rowOf (encI .u8) a0.xbytes) 1 5]) ?_ hs
  refine w_seq 2 3 (by kernel_rfl) ?_
  refine w_region (by kernel_rfl) ?_
  refine o_run 1 [0, 1] (l := []) .nil (E' := [(0, .pointer (some ⟨g1, 0, none⟩)), (1, .int .u32 a1)]) (by kernel_rfl) ?_
  refine o_end (by kernel_rfl) ?_
  refine e_seq ?_
  refine w_seq 6 7 (by kernel_rfl) ?_
  obtain ⟨t1, hx1, hm⟩ := bind_some hm
  refine w_tail 9 [.blk g1 [.pointer (some ⟨g2, 0, none⟩), .slice A2 a0.xbytes.length c2, .int .i64 a0.xbegin, .int .i64 a0.xn, .int .u32 a0.xlast, .bool a0.xkept] 50, .blk g2 [.bool a0.xBoard.xmade, .int .u32 a0.xBoard.xfirst, .slice A1 a0.xBoard.xruns.length c1] 76, .own A2 a0.xbytes.length c2 (rowOf (encI .u8) a0.xbytes) 1 5] (by kernel_rfl) mixed (by kernel_rfl) ?_
  refine tt_run [0, 1, 3, 4, 5, 6, 7] [0, 6, 7, 13] [0, 1, 2] 2 (listed' := #[true, true, false, true, true, true, true, true, false, false, false, false]) (l := [(⟨g1, 3, none⟩, .int .i64 a0.xn)]) (.one (at_blk (j := 0) rfl rfl) .nil) (E' := [(0, .pointer (some ⟨g1, 0, none⟩)), (6, .int .u32 a1), (7, .pointer (some ⟨g1, 0, none⟩)), (13, .int .u32 (U32 a0.xn))]) (by kernel_rfl) (by kernel_rfl) (by kernel_rfl) (Ext.refl _) (by kernel_rfl) (by kernel_rfl) ?_
  refine tt_stp 2 [0, 1, 2] (Ext.refl _) (by kernel_rfl) (by kernel_rfl) (by kernel_rfl) (by kernel_rfl) ?_
  refine s_call 8 13 #[.pointer (some ⟨g1, 0, none⟩)] [0, 1, 2] [] (by kernel_rfl) (by kernel_rfl) (fun w hs => rbuf_Buffer_Next_ok a0 t1 hx1 B _ g1 g2 A1 c1 A2 c2 hs1 w (St.cast (by kernel_rfl) hs)) (fun _ hx => ?_)
  refine t_L (L' := [.blk g1 [.pointer (some ⟨g2, 0, none⟩), .slice A2 a0.xbytes.length c2, .int .i64 a0.xbegin, .int .i64 a0.xn, .int .u32 a0.xlast, .bool a0.xkept] 50, .blk g2 [.bool a0.xBoard.xmade, .int .u32 a0.xBoard.xfirst, .slice A1 a0.xBoard.xruns.length c1] 76, .own A2 a0.xbytes.length c2 (rowOf (encI .u8) a0.xbytes) 1 5]) (by kernel_rfl) ?_
  refine tt_run [8] [0, 6, 14] [0, 1, 2] 0 (listed' := #[true, true, true, true, true, true, true, true, true, false, false, false]) (l := []) .nil (E' := [(0, .pointer (some ⟨g1, 0, none⟩)), (6, .int .u32 a1), (14, .int .u32 (U32 (t1 - (U32 a0.xn))))]) (by kernel_rfl) (by kernel_rfl) (by kernel_rfl) (Ext.refl _) (by kernel_rfl) (by kernel_rfl) ?_
  refine tt_end [0, 1, 2] (Ext.refl _) (by kernel_rfl) (by kernel_rfl) (by kernel_rfl) ?_
  refine o_run 3 [0, 5] (l := []) .nil (E' := [(0, .pointer (some ⟨g1, 0, none⟩)), (5, .int .i64 (I64 (U32 (a1 - (U32 (t1 - (U32 a0.xn)))))))]) (by kernel_rfl) ?_
  refine o_end (by kernel_rfl) ?_
  refine e_seq ?_
  refine w_seq 14 15 (by kernel_rfl) ?_
  refine w_quiet (by kernel_rfl) mixed (by kernel_rfl) ?_
  refine q_run 15 [20, 26, 31] (l := [(⟨g1, 1, none⟩, .slice A2 a0.xbytes.length c2), (⟨g1, 2, none⟩, .int .i64 a0.xbegin), (⟨g1, 1, none⟩, .slice A2 a0.xbytes.length c2)]) (.one (at_blk (j := 0) rfl rfl) (.one (at_blk (j := 0) rfl rfl) (.one (at_blk (j := 0) rfl rfl) .nil))) (E' := [(20, .slice A2 a0.xbytes.length c2), (26, .int .i64 (I64 (a0.xbegin + (I64 (U32 (a1 - (U32 (t1 - (U32 a0.xn))))))))), (31, .int .i64 (a0.xbytes.length : Int))]) (by kernel_rfl) ?_
  obtain ⟨e1, hx2, hm⟩ := bind_some hm
  refine q_val 32 (.binOp .rem 3 (.tmp 26) (.tmp 31) 3) (.int .i64 e1) (by kernel_rfl) (v_rem hx2 (by kernel_rfl) (by kernel_rfl)) ?_
  obtain ⟨e2, hx3, hm⟩ := bind_some hm
  obtain ⟨hi1, hi2, hg1⟩ := idx_some hx3
  refine q_val 33 (.indexAddr 32 (.tmp 20) (.tmp 32)) (.pointer (some (adr A2 (Int.toNat e1 * 1)))) (by kernel_rfl) (v_index (k := .i64) (c := c2) (by kernel_rfl) (by kernel_rfl) (by kernel_rfl) hi1 hi2 (own_some (j := 2) rfl hi2 hi1)) ?_
  refine q_run 1 [4] (l := []) .nil (E' := [(4, .pointer (some (adr A2 (Int.toNat e1 * 1))))]) (by kernel_rfl) ?_
  refine q_end (by kernel_rfl) ?_
  refine e_seq ?_
  refine w_ret (by kernel_rfl) ?_
  obtain rfl := Option.some.inj hm
  exact e_retP () (.pointer (some (adr A2 (Int.toNat e1 * 1)))) [0, 1, 2] (by kernel_rfl) (by kernel_rfl) rfl (by kernel_rfl) (by kernel_rfl) hg1
def sack_Board_Bytes.l1 : Nat → T_sack_Board → Int → Int → Option (Int)
  | 0, _, _, _ => none
  | k + 1, a0, p1, p2 => (if decide (p2 < (a0.xruns.length : Int)) then ((idx a0.xruns p2).bind fun e1 => (sack_Board_Bytes.l1 k a0 (I64 (p1 + (I64 (e1.xto - e1.xfrom)))) (I64 (p2 + 1)))) else (some p1))
def sack_Board_Bytes.f (k : Nat) (a0 : T_sack_Board) : Option (Int) :=
  ((sack_Board_ok.f a0).bind fun t1 => (if !t1 then (some 0) else ((sack_Board_Bytes.l1 k a0 0 0).bind fun t2 => (some t2))))
theorem sack_Board_Bytes_ok (k : Nat) (a0 : T_sack_Board) (r : Int) (hm : sack_Board_Bytes.f k a0 = some r) (B G : Asn) (g1 : Nat) (A1 : Option Addr) (c1 : Nat) (hs1 : Sl kT_sack_run B A1 c1 a0.xruns) (w : World) (hs : St B G [.blk g1 [.bool a0.xmade, .int .u32 a0.xfirst, .slice A1 a0.xruns.length c1] 76] w) :
    Calls Try.prog 35 #[.pointer (some ⟨g1, 0, none⟩)] w (Post (X := Unit) (fun x => .int .i64 r) (fun x => B) G (fun x => [.blk g1 [.bool a0.xmade, .int .u32 a0.xfirst, .slice A1 a0.xruns.length c1] 76]) (fun x => True)) := by
  unfold sack_Board_Bytes.f at hm
  refine calls_W (F := Try.f35) Try.func35 rfl (by kernel_rfl) (L := [.blk g1 [.bool a0.xmade, .int .u32 a0.xfirst, .slice A1 a0.xruns.length c1] 76]) ?_ hs
  refine w_seq 2 3 (by kernel_rfl) ?_
  refine w_region (by kernel_rfl) ?_
  refine o_run 1 [0] (l := []) .nil (E' := [(0, .pointer (some ⟨g1, 0, none⟩))]) (by kernel_rfl) ?_
  refine o_end (by kernel_rfl) ?_
  refine e_seq ?_
  refine w_seq 6 7 (by kernel_rfl) ?_
  refine w_seq 12 13 (by kernel_rfl) ?_
  refine w_region (by kernel_rfl) ?_
  refine o_run 1 [0, 6] (l := []) .nil (E' := [(0, .pointer (some ⟨g1, 0, none⟩)), (6, .pointer (some ⟨g1, 0, none⟩))]) (by kernel_rfl) ?_
  obtain ⟨t1, hx1, hm⟩ := bind_some hm
  refine o_stp ?_ (by kernel_rfl)
  refine s_call 7 43 #[.pointer (some ⟨g1, 0, none⟩)] [0] [] (by kernel_rfl) (by kernel_rfl) (fun w hs => sack_Board_ok_ok a0 t1 hx1 B _ g1 A1 c1 hs1 w (St.cast (by kernel_rfl) hs)) (fun _ hx => ?_)
  refine t_L (L' := [.blk g1 [.bool a0.xmade, .int .u32 a0.xfirst, .slice A1 a0.xruns.length c1] 76]) (by kernel_rfl) ?_
  refine o_run 1 [0, 8] (l := []) .nil (E' := [(0, .pointer (some ⟨g1, 0, none⟩)), (8, .bool (!t1))]) (by kernel_rfl) ?_
  refine o_end (by kernel_rfl) ?_
  refine e_seq ?_
  refine w_cond (.tmp 8) 26 27 (!t1) (by kernel_rfl) (by kernel_rfl) (fun hb1 => ?_) (fun hb1 => ?_)
  · replace hm := ite_t hb1 hm
    refine w_seq 52 53 (by kernel_rfl) ?_
    refine w_region (by kernel_rfl) ?_
    refine o_run 1 [2] (l := []) .nil (E' := [(2, .int .i64 0)]) (by kernel_rfl) ?_
    refine o_end (by kernel_rfl) ?_
    refine e_seq ?_
    refine w_ret (by kernel_rfl) ?_
    obtain rfl := Option.some.inj hm
    exact e_retP () (.int .i64 0) [0] (by kernel_rfl) (by kernel_rfl) rfl (by kernel_rfl) (by kernel_rfl) trivial
  · replace hm := ite_f hb1 hm
    refine w_skip (by kernel_rfl) ?_
    refine e_seq ?_
    refine w_seq 14 15 (by kernel_rfl) ?_
    refine w_region (by kernel_rfl) ?_
    refine o_run 1 [0, 3] (l := []) .nil (E' := [(0, .pointer (some ⟨g1, 0, none⟩)), (3, .int .i64 0)]) (by kernel_rfl) ?_
    refine o_end (by kernel_rfl) ?_
    refine e_seq ?_
    refine w_seq 30 31 (by kernel_rfl) ?_
    refine w_seq 60 61 (by kernel_rfl) ?_
    refine w_region (by kernel_rfl) ?_
    refine o_run 6 [3, 12, 13, 14] (l := [(⟨g1, 2, none⟩, .slice A1 a0.xruns.length c1)]) (.one (at_blk (j := 0) rfl rfl) .nil) (E' := [(3, .int .i64 0), (12, .slice A1 a0.xruns.length c1), (13, .int .i64 (a0.xruns.length : Int)), (14, .int .i64 0)]) (by kernel_rfl) ?_
    refine o_end (by kernel_rfl) ?_
    refine e_seq ?_
    refine w_block 0 122 (by kernel_rfl) ?_
    obtain ⟨t2, ht1, ho1⟩ := bind_some hm
    refine t_env [3, 12, 13, 14] (E' := [(3, .int .i64 0), (12, .slice A1 a0.xruns.length c1), (13, .int .i64 (a0.xruns.length : Int)), (14, .int .i64 0)]) (by kernel_rfl) ?_
    refine w_loopJ 244 0 (fun k a w => ∃ (p1 : Int) (p2 : Int), sack_Board_Bytes.l1 k a0 p1 p2 = some t2 ∧ EnvOk [(3, .int .i64 p1), (12, .slice A1 a0.xruns.length c1), (13, .int .i64 (a0.xruns.length : Int)), (14, .int .i64 p2)] Try.f35.ntmps a ∧ St B G [.blk g1 [.bool a0.xmade, .int .u32 a0.xfirst, .slice A1 a0.xruns.length c1] 76] w) (fun a w => EnvOk [(3, .int .i64 t2)] Try.f35.ntmps a ∧ St B G [.blk g1 [.bool a0.xmade, .int .u32 a0.xfirst, .slice A1 a0.xruns.length c1] 76] w) (by kernel_rfl) ?_ ?_ k ?_
    · rintro a w ⟨ha, hw⟩
      refine we_of (E := [(3, .int .i64 t2)]) (B := B) (G := G) (L := [.blk g1 [.bool a0.xmade, .int .u32 a0.xfirst, .slice A1 a0.xruns.length c1] 76]) ?_ ha hw
      have hm := ho1
      refine e_seq ?_
      refine w_seq 62 63 (by kernel_rfl) ?_
      refine w_region (by kernel_rfl) ?_
      refine o_run 2 [2] (l := []) .nil (E' := [(2, .int .i64 t2)]) (by kernel_rfl) ?_
      refine o_end (by kernel_rfl) ?_
      refine e_seq ?_
      refine w_ret (by kernel_rfl) ?_
      obtain rfl := Option.some.inj hm
      exact e_retP () (.int .i64 t2) [0] (by kernel_rfl) (by kernel_rfl) rfl (by kernel_rfl) (by kernel_rfl) trivial
    · rintro k a w ⟨p1, p2, hm, ha, hw⟩
      cases k with
      | zero => exact absurd hm (by simp [sack_Board_Bytes.l1])
      | succ k =>
        unfold sack_Board_Bytes.l1 at hm
        refine wc_of (E := [(3, .int .i64 p1), (12, .slice A1 a0.xruns.length c1), (13, .int .i64 (a0.xruns.length : Int)), (14, .int .i64 p2)]) (B := B) (G := G) (L := [.blk g1 [.bool a0.xmade, .int .u32 a0.xfirst, .slice A1 a0.xruns.length c1] 76]) ?_ ha hw
        refine w_seq 488 489 (by kernel_rfl) ?_
        refine w_region (by kernel_rfl) ?_
        refine o_run 1 [3, 12, 13, 14, 15] (l := []) .nil (E' := [(3, .int .i64 p1), (12, .slice A1 a0.xruns.length c1), (13, .int .i64 (a0.xruns.length : Int)), (14, .int .i64 p2), (15, .bool (decide (p2 < (a0.xruns.length : Int))))]) (by kernel_rfl) ?_
        refine o_end (by kernel_rfl) ?_
        refine e_seq ?_
        refine w_seq 978 979 (by kernel_rfl) ?_
        refine w_cond (.tmp 15) 1956 1957 (decide (p2 < (a0.xruns.length : Int))) (by kernel_rfl) (by kernel_rfl) (fun hb2 => ?_) (fun hb2 => ?_)
        · replace hm := ite_t hb2 hm
          refine w_skip (by kernel_rfl) ?_
          refine e_seq ?_
          refine w_seq 1958 1959 (by kernel_rfl) ?_
          refine w_block 1 3916 (by kernel_rfl) ?_
          refine w_seq 7832 7833 (by kernel_rfl) ?_
          refine w_region (by kernel_rfl) ?_
          obtain ⟨e1, hx2, hm⟩ := bind_some hm
          obtain ⟨hi1, hi2, hg1⟩ := idx_some hx2
          obtain ⟨cs1, hk1, hc1⟩ := (hs1).at hg1
          obtain rfl := hk1
          refine o_val 16 (.indexAddr 74 (.tmp 12) (.tmp 14)) (.pointer (some (adr A1 (Int.toNat p2 * 2)))) (by kernel_rfl) (v_index (k := .i64) (c := c1) (by kernel_rfl) (by kernel_rfl) (by kernel_rfl) hi1 hi2 ((hs1).some hg1)) ?_
          refine o_run 1 [3, 12, 13, 14, 17] (l := [((adr A1 (Int.toNat p2 * 2)), .int .i64 e1.xfrom), (((adr A1 (Int.toNat p2 * 2)).add 1), .int .i64 e1.xto)]) (.one ((at_sl hc1).sub 0 rfl) (.one ((at_sl hc1).sub 1 rfl) .nil)) (E' := [(3, .int .i64 p1), (12, .slice A1 a0.xruns.length c1), (13, .int .i64 (a0.xruns.length : Int)), (14, .int .i64 p2), (17, .agg #[.int .i64 e1.xfrom, .int .i64 e1.xto])]) (by kernel_rfl) ?_
          refine o_stp ?_ (by kernel_rfl)
          refine s_new 5 (fun g2 => .pointer (some ⟨g2, 0, none⟩)) [.int .i64 0, .int .i64 0] 81 (fun _ => by kernel_rfl) (fun g2 => ?_)
          refine o_stp ?_ (by kernel_rfl)
          refine s_store 0 g2 [.int .i64 0, .int .i64 0] 81 [(0, .int .i64 e1.xfrom), (1, .int .i64 e1.xto)] (by kernel_rfl) (by kernel_rfl) (by kernel_rfl) ?_
          refine t_L (L' := [.blk g2 [.int .i64 e1.xfrom, .int .i64 e1.xto] 81, .blk g1 [.bool a0.xmade, .int .u32 a0.xfirst, .slice A1 a0.xruns.length c1] 76]) (by kernel_rfl) ?_
          refine o_end (by kernel_rfl) ?_
          refine e_seq ?_
          refine w_region (by kernel_rfl) ?_
          refine o_run 8 [3, 12, 13, 14] (l := [(⟨g2, 1, none⟩, .int .i64 e1.xto), (⟨g2, 0, none⟩, .int .i64 e1.xfrom)]) (.one (at_blk (j := 0) rfl rfl) (.one (at_blk (j := 0) rfl rfl) .nil)) (E' := [(3, .int .i64 (I64 (p1 + (I64 (e1.xto - e1.xfrom))))), (12, .slice A1 a0.xruns.length c1), (13, .int .i64 (a0.xruns.length : Int)), (14, .int .i64 p2)]) (by kernel_rfl) ?_
          refine o_end (by kernel_rfl) ?_
          refine e_blk ?_
          refine e_seq ?_
          refine w_region (by kernel_rfl) ?_
          refine o_run 2 [3, 12, 13, 14] (l := []) .nil (E' := [(3, .int .i64 (I64 (p1 + (I64 (e1.xto - e1.xfrom))))), (12, .slice A1 a0.xruns.length c1), (13, .int .i64 (a0.xruns.length : Int)), (14, .int .i64 (I64 (p2 + 1)))]) (by kernel_rfl) ?_
          refine o_end (by kernel_rfl) ?_
          refine t_drop [1] (by kernel_rfl) ?_
          refine t_L (L' := [.blk g1 [.bool a0.xmade, .int .u32 a0.xfirst, .slice A1 a0.xruns.length c1] 76]) (by kernel_rfl) ?_
          refine t_env [3, 12, 13, 14] (E' := [(3, .int .i64 (I64 (p1 + (I64 (e1.xto - e1.xfrom))))), (12, .slice A1 a0.xruns.length c1), (13, .int .i64 (a0.xruns.length : Int)), (14, .int .i64 (I64 (p2 + 1)))]) (by kernel_rfl) ?_
          exact e_inv (fun a w ha hw => ⟨k, Nat.lt_succ_self k, (I64 (p1 + (I64 (e1.xto - e1.xfrom)))), (I64 (p2 + 1)), hm, ha, hw⟩)
        · replace hm := ite_f hb2 hm
          refine w_exit 0 (by kernel_rfl) ?_
          refine e_x_seq ?_
          refine e_x_inv ?_
          refine e_x_here ?_
          refine t_drop [0] (by kernel_rfl) ?_
          refine t_L (L' := [.blk g1 [.bool a0.xmade, .int .u32 a0.xfirst, .slice A1 a0.xruns.length c1] 76]) (by kernel_rfl) ?_
          refine t_env [3] (E' := [(3, .int .i64 p1)]) (by kernel_rfl) ?_
          obtain rfl := Option.some.inj hm
          exact e_inv (fun a w ha hw => ⟨ha, hw⟩)
    · exact fun a w ha hw => ⟨0, 0, ht1, ha, hw⟩
def sack_Board_join_1.f (a0 : T_sack_run) (a1 : Int) : Option (Int) :=
  (some (I64 (a0.xfrom - a1)))
theorem sack_Board_join_1_ok (a0 : T_sack_run) (a1 : Int) (r : Int) (hm : sack_Board_join_1.f a0 a1 = some r) (B G : Asn) (w : World) (hs : St B G [] w) :
    Calls Try.prog 52 #[.agg #[.int .i64 a0.xfrom, .int .i64 a0.xto], .int .i64 a1] w (Post (X := Unit) (fun x => .int .i64 r) (fun x => B) G (fun x => []) (fun x => True)) := by
  unfold sack_Board_join_1.f at hm
  refine calls_W (F := Try.f52) Try.func52 rfl (by kernel_rfl) (L := []) ?_ hs
  refine w_seq 2 3 (by kernel_rfl) ?_
  refine w_region (by kernel_rfl) ?_
  refine o_stp ?_ (by kernel_rfl)
  refine s_new 2 (fun g1 => .pointer (some ⟨g1, 0, none⟩)) [.int .i64 a0.xfrom, .int .i64 a0.xto] 81 (fun _ => by kernel_rfl) (fun g1 => ?_)
  refine o_run 1 [1, 2] (l := []) .nil (E' := [(1, .int .i64 a1), (2, .pointer (some ⟨g1, 0, none⟩))]) (by kernel_rfl) ?_
  refine o_end (by kernel_rfl) ?_
  refine e_seq ?_
  refine w_seq 6 7 (by kernel_rfl) ?_
  refine w_region (by kernel_rfl) ?_
  refine o_run 5 [4] (l := [(⟨g1, 0, none⟩, .int .i64 a0.xfrom)]) (.one (at_blk (j := 0) rfl rfl) .nil) (E' := [(4, .int .i64 (I64 (a0.xfrom - a1)))]) (by kernel_rfl) ?_
  refine o_end (by kernel_rfl) ?_
  refine e_seq ?_
  refine w_ret (by kernel_rfl) ?_
  obtain rfl := Option.some.inj hm
  exact e_retP () (.int .i64 (I64 (a0.xfrom - a1))) [] (by kernel_rfl) (by kernel_rfl) rfl (by kernel_rfl) (by kernel_rfl) trivial
def slices_BinarySearchFunc_int.l1 : Nat → (List T_sack_run) → Int → Int → Int → Option (Int)
  | 0, _, _, _, _ => none
  | k + 1, a0, a1, p1, p2 => (if decide (p1 < p2) then ((idx a0 (I64 (bshr .u64 (U64 (I64 (p1 + p2))) 1))).bind fun e2 => ((sack_Board_join_1.f e2 a1).bind fun t3 => (if decide (t3 < 0) then (slices_BinarySearchFunc_int.l1 k a0 a1 (I64 ((I64 (bshr .u64 (U64 (I64 (p1 + p2))) 1)) + 1)) p2) else (slices_BinarySearchFunc_int.l1 k a0 a1 p1 (I64 (bshr .u64 (U64 (I64 (p1 + p2))) 1)))))) else (some p1))
def slices_BinarySearchFunc_int.f (k : Nat) (a0 : List T_sack_run) (a1 : Int) : Option (Int × Bool) :=
  ((slices_BinarySearchFunc_int.l1 k a0 a1 0 (a0.length : Int)).bind fun t1 => (if decide (t1 < (a0.length : Int)) then ((idx a0 t1).bind fun e1 => ((sack_Board_join_1.f e1 a1).bind fun t2 => (some (t1, t2 == 0)))) else (some (t1, false))))
theorem slices_BinarySearchFunc_int_ok (k : Nat) (a0 : List T_sack_run) (a1 : Int) (r : Int × Bool) (hm : slices_BinarySearchFunc_int.f k a0 a1 = some r) (B G : Asn) (A1 : Option Addr) (c1 : Nat) (w : World) (hs : St B G [.own A1 a0.length c1 (rowOf encT_sack_run a0) 2 81] w) :
    Calls Try.prog 51 #[.slice A1 a0.length c1, .int .i64 a1, .func (.func 52) #[] #[]] w (Post (X := Unit) (fun x => .tuple #[.int .i64 r.1, .bool r.2]) (fun x => B) G (fun x => [.own A1 a0.length c1 (rowOf encT_sack_run a0) 2 81]) (fun x => True)) := by
  unfold slices_BinarySearchFunc_int.f at hm
  refine calls_W (F := Try.f51) Try.func51 rfl (by kernel_rfl) (L := [.own A1 a0.length c1 (rowOf encT_sack_run a0) 2 81]) ?_ hs
  refine w_seq 2 3 (by kernel_rfl) ?_
  refine w_region (by kernel_rfl) ?_
  refine o_run 2 [0, 1, 2] (l := []) .nil (E' := [(0, .slice A1 a0.length c1), (1, .int .i64 a1), (2, .func (.func 52) #[] #[])]) (by kernel_rfl) ?_
  refine o_end (by kernel_rfl) ?_
  refine e_seq ?_
  refine w_seq 6 7 (by kernel_rfl) ?_
  refine w_region (by kernel_rfl) ?_
  refine o_run 3 [0, 1, 2, 8] (l := []) .nil (E' := [(0, .slice A1 a0.length c1), (1, .int .i64 a1), (2, .func (.func 52) #[] #[]), (8, .int .i64 (a0.length : Int))]) (by kernel_rfl) ?_
  refine o_end (by kernel_rfl) ?_
  refine e_seq ?_
  refine w_seq 14 15 (by kernel_rfl) ?_
  refine w_region (by kernel_rfl) ?_
  refine o_run 3 [0, 1, 2, 8, 9, 10] (l := []) .nil (E' := [(0, .slice A1 a0.length c1), (1, .int .i64 a1), (2, .func (.func 52) #[] #[]), (8, .int .i64 (a0.length : Int)), (9, .int .i64 0), (10, .int .i64 (a0.length : Int))]) (by kernel_rfl) ?_
  refine o_end (by kernel_rfl) ?_
  refine e_seq ?_
  refine w_seq 30 31 (by kernel_rfl) ?_
  refine w_block 0 60 (by kernel_rfl) ?_
  obtain ⟨t1, ht1, ho1⟩ := bind_some hm
  refine t_env [0, 1, 2, 8, 9, 10] (E' := [(0, .slice A1 a0.length c1), (1, .int .i64 a1), (2, .func (.func 52) #[] #[]), (8, .int .i64 (a0.length : Int)), (9, .int .i64 0), (10, .int .i64 (a0.length : Int))]) (by kernel_rfl) ?_
  refine w_loopJ 120 0 (fun k a w => ∃ (p1 : Int) (p2 : Int), slices_BinarySearchFunc_int.l1 k a0 a1 p1 p2 = some t1 ∧ EnvOk [(0, .slice A1 a0.length c1), (1, .int .i64 a1), (2, .func (.func 52) #[] #[]), (8, .int .i64 (a0.length : Int)), (9, .int .i64 p1), (10, .int .i64 p2)] Try.f51.ntmps a ∧ St B G [.own A1 a0.length c1 (rowOf encT_sack_run a0) 2 81] w) (fun a w => EnvOk [(0, .slice A1 a0.length c1), (1, .int .i64 a1), (2, .func (.func 52) #[] #[]), (8, .int .i64 (a0.length : Int)), (9, .int .i64 t1)] Try.f51.ntmps a ∧ St B G [.own A1 a0.length c1 (rowOf encT_sack_run a0) 2 81] w) (by kernel_rfl) ?_ ?_ k ?_
  · rintro a w ⟨ha, hw⟩
    refine we_of (E := [(0, .slice A1 a0.length c1), (1, .int .i64 a1), (2, .func (.func 52) #[] #[]), (8, .int .i64 (a0.length : Int)), (9, .int .i64 t1)]) (B := B) (G := G) (L := [.own A1 a0.length c1 (rowOf encT_sack_run a0) 2 81]) ?_ ha hw
    have hm := ho1
    refine e_seq ?_
    refine w_seq 62 63 (by kernel_rfl) ?_
    refine w_region (by kernel_rfl) ?_
    refine o_run 5 [0, 1, 2, 9, 35, 39] (l := []) .nil (E' := [(0, .slice A1 a0.length c1), (1, .int .i64 a1), (2, .func (.func 52) #[] #[]), (9, .int .i64 t1), (35, .int .i64 t1), (39, .bool (decide (t1 < (a0.length : Int))))]) (by kernel_rfl) ?_
    refine o_split 39 (decide (t1 < (a0.length : Int))) (by kernel_rfl) (fun hb1 => ?_) (fun hb1 => ?_)
    · replace hm := ite_t hb1 hm
      refine o_run 3 [1, 35, 39, 40, 41, 42] (l := []) .nil (E' := [(1, .int .i64 a1), (35, .int .i64 t1), (39, .bool true), (40, .func (.func 52) #[] #[]), (41, .slice A1 a0.length c1), (42, .int .i64 t1)]) (by kernel_rfl) ?_
      obtain ⟨e1, hx1, hm⟩ := bind_some hm
      obtain ⟨hi1, hi2, hg1⟩ := idx_some hx1
      refine o_val 43 (.indexAddr 74 (.tmp 41) (.tmp 42)) (.pointer (some (adr A1 (Int.toNat t1 * 2)))) (by kernel_rfl) (v_index (k := .i64) (c := c1) (by kernel_rfl) (by kernel_rfl) (by kernel_rfl) hi1 hi2 (own_some (j := 0) rfl hi2 hi1)) ?_
      refine o_run 2 [35, 39, 40, 44, 45] (l := [((adr A1 (Int.toNat t1 * 2)), .int .i64 e1.xfrom), (((adr A1 (Int.toNat t1 * 2)).add 1), .int .i64 e1.xto)]) (.one ((At.sub (l := encT_sack_run e1) 0 (at_own (j := 0) (off := Int.toNat t1 * 2) rfl (row_at (enc := encT_sack_run) (sz := 2) (fun _ => rfl) hg1)) rfl)) (.one ((At.sub (l := encT_sack_run e1) 1 (at_own (j := 0) (off := Int.toNat t1 * 2) rfl (row_at (enc := encT_sack_run) (sz := 2) (fun _ => rfl) hg1)) rfl)) .nil)) (E' := [(35, .int .i64 t1), (39, .bool true), (40, .func (.func 52) #[] #[]), (44, .agg #[.int .i64 e1.xfrom, .int .i64 e1.xto]), (45, .int .i64 a1)]) (by kernel_rfl) ?_
      obtain ⟨t2, hx2, hm⟩ := bind_some hm
      refine o_stp ?_ (by kernel_rfl)
      refine s_call 46 52 #[.agg #[.int .i64 e1.xfrom, .int .i64 e1.xto], .int .i64 a1] [] [0] (by kernel_rfl) (by kernel_rfl) (fun w hs => sack_Board_join_1_ok e1 a1 t2 hx2 B _ w (St.cast (by kernel_rfl) hs)) (fun _ hx => ?_)
      refine t_L (L' := [.own A1 a0.length c1 (rowOf encT_sack_run a0) 2 81]) (by kernel_rfl) ?_
      refine o_run 4 [6, 7] (l := []) .nil (E' := [(6, .int .i64 t1), (7, .bool (t2 == 0))]) (by kernel_rfl) ?_
      refine o_end (by kernel_rfl) ?_
      refine e_seq ?_
      refine w_ret (by kernel_rfl) ?_
      obtain rfl := Option.some.inj hm
      exact e_retP () (.tuple #[.int .i64 t1, .bool (t2 == 0)]) [0] (by kernel_rfl) (by kernel_rfl) rfl (by kernel_rfl) (by kernel_rfl) trivial
    · replace hm := ite_f hb1 hm
      refine o_run 11 [6, 7] (l := []) .nil (E' := [(6, .int .i64 t1), (7, .bool false)]) (by kernel_rfl) ?_
      refine o_end (by kernel_rfl) ?_
      refine e_seq ?_
      refine w_ret (by kernel_rfl) ?_
      obtain rfl := Option.some.inj hm
      exact e_retP () (.tuple #[.int .i64 t1, .bool false]) [0] (by kernel_rfl) (by kernel_rfl) rfl (by kernel_rfl) (by kernel_rfl) trivial
  · rintro k a w ⟨p1, p2, hm, ha, hw⟩
    cases k with
    | zero => exact absurd hm (by simp [slices_BinarySearchFunc_int.l1])
    | succ k =>
      unfold slices_BinarySearchFunc_int.l1 at hm
      refine wc_of (E := [(0, .slice A1 a0.length c1), (1, .int .i64 a1), (2, .func (.func 52) #[] #[]), (8, .int .i64 (a0.length : Int)), (9, .int .i64 p1), (10, .int .i64 p2)]) (B := B) (G := G) (L := [.own A1 a0.length c1 (rowOf encT_sack_run a0) 2 81]) ?_ ha hw
      refine w_seq 240 241 (by kernel_rfl) ?_
      refine w_seq 480 481 (by kernel_rfl) ?_
      refine w_region (by kernel_rfl) ?_
      refine o_run 3 [0, 1, 2, 8, 9, 10, 17] (l := []) .nil (E' := [(0, .slice A1 a0.length c1), (1, .int .i64 a1), (2, .func (.func 52) #[] #[]), (8, .int .i64 (a0.length : Int)), (9, .int .i64 p1), (10, .int .i64 p2), (17, .bool (decide (p1 < p2)))]) (by kernel_rfl) ?_
      refine o_end (by kernel_rfl) ?_
      refine e_seq ?_
      refine w_cond (.tmp 17) 962 963 (decide (p1 < p2)) (by kernel_rfl) (by kernel_rfl) (fun hb2 => ?_) (fun hb2 => ?_)
      · replace hm := ite_t hb2 hm
        refine w_skip (by kernel_rfl) ?_
        refine e_seq ?_
        refine w_block 1 482 (by kernel_rfl) ?_
        refine w_seq 964 965 (by kernel_rfl) ?_
        refine w_region (by kernel_rfl) ?_
        refine o_run 7 [0, 1, 2, 8, 9, 10, 11] (l := []) .nil (E' := [(0, .slice A1 a0.length c1), (1, .int .i64 a1), (2, .func (.func 52) #[] #[]), (8, .int .i64 (a0.length : Int)), (9, .int .i64 p1), (10, .int .i64 p2), (11, .int .i64 (I64 (bshr .u64 (U64 (I64 (p1 + p2))) 1)))]) (by kernel_rfl) ?_
        refine o_end (by kernel_rfl) ?_
        refine e_seq ?_
        refine w_seq 1930 1931 (by kernel_rfl) ?_
        refine w_region (by kernel_rfl) ?_
        refine o_run 3 [0, 1, 2, 8, 9, 10, 11, 24, 25, 26] (l := []) .nil (E' := [(0, .slice A1 a0.length c1), (1, .int .i64 a1), (2, .func (.func 52) #[] #[]), (8, .int .i64 (a0.length : Int)), (9, .int .i64 p1), (10, .int .i64 p2), (11, .int .i64 (I64 (bshr .u64 (U64 (I64 (p1 + p2))) 1))), (24, .func (.func 52) #[] #[]), (25, .slice A1 a0.length c1), (26, .int .i64 (I64 (bshr .u64 (U64 (I64 (p1 + p2))) 1)))]) (by kernel_rfl) ?_
        obtain ⟨e2, hx3, hm⟩ := bind_some hm
        obtain ⟨hi3, hi4, hg2⟩ := idx_some hx3
        refine o_val 27 (.indexAddr 74 (.tmp 25) (.tmp 26)) (.pointer (some (adr A1 (Int.toNat (I64 (bshr .u64 (U64 (I64 (p1 + p2))) 1)) * 2)))) (by kernel_rfl) (v_index (k := .i64) (c := c1) (by kernel_rfl) (by kernel_rfl) (by kernel_rfl) hi3 hi4 (own_some (j := 0) rfl hi4 hi3)) ?_
        refine o_run 2 [0, 1, 2, 8, 9, 10, 11, 24, 28, 29] (l := [((adr A1 (Int.toNat (I64 (bshr .u64 (U64 (I64 (p1 + p2))) 1)) * 2)), .int .i64 e2.xfrom), (((adr A1 (Int.toNat (I64 (bshr .u64 (U64 (I64 (p1 + p2))) 1)) * 2)).add 1), .int .i64 e2.xto)]) (.one ((At.sub (l := encT_sack_run e2) 0 (at_own (j := 0) (off := Int.toNat (I64 (bshr .u64 (U64 (I64 (p1 + p2))) 1)) * 2) rfl (row_at (enc := encT_sack_run) (sz := 2) (fun _ => rfl) hg2)) rfl)) (.one ((At.sub (l := encT_sack_run e2) 1 (at_own (j := 0) (off := Int.toNat (I64 (bshr .u64 (U64 (I64 (p1 + p2))) 1)) * 2) rfl (row_at (enc := encT_sack_run) (sz := 2) (fun _ => rfl) hg2)) rfl)) .nil)) (E' := [(0, .slice A1 a0.length c1), (1, .int .i64 a1), (2, .func (.func 52) #[] #[]), (8, .int .i64 (a0.length : Int)), (9, .int .i64 p1), (10, .int .i64 p2), (11, .int .i64 (I64 (bshr .u64 (U64 (I64 (p1 + p2))) 1))), (24, .func (.func 52) #[] #[]), (28, .agg #[.int .i64 e2.xfrom, .int .i64 e2.xto]), (29, .int .i64 a1)]) (by kernel_rfl) ?_
        obtain ⟨t3, hx4, hm⟩ := bind_some hm
        refine o_stp ?_ (by kernel_rfl)
        refine s_call 30 52 #[.agg #[.int .i64 e2.xfrom, .int .i64 e2.xto], .int .i64 a1] [] [0] (by kernel_rfl) (by kernel_rfl) (fun w hs => sack_Board_join_1_ok e2 a1 t3 hx4 B _ w (St.cast (by kernel_rfl) hs)) (fun _ hx => ?_)
        refine t_L (L' := [.own A1 a0.length c1 (rowOf encT_sack_run a0) 2 81]) (by kernel_rfl) ?_
        refine o_run 1 [0, 1, 2, 8, 9, 10, 11, 31] (l := []) .nil (E' := [(0, .slice A1 a0.length c1), (1, .int .i64 a1), (2, .func (.func 52) #[] #[]), (8, .int .i64 (a0.length : Int)), (9, .int .i64 p1), (10, .int .i64 p2), (11, .int .i64 (I64 (bshr .u64 (U64 (I64 (p1 + p2))) 1))), (31, .bool (decide (t3 < 0)))]) (by kernel_rfl) ?_
        refine o_end (by kernel_rfl) ?_
        refine e_seq ?_
        refine w_cond (.tmp 31) 3862 3863 (decide (t3 < 0)) (by kernel_rfl) (by kernel_rfl) (fun hb3 => ?_) (fun hb3 => ?_)
        · replace hm := ite_t hb3 hm
          refine w_region (by kernel_rfl) ?_
          refine o_run 3 [0, 1, 2, 8, 9, 10] (l := []) .nil (E' := [(0, .slice A1 a0.length c1), (1, .int .i64 a1), (2, .func (.func 52) #[] #[]), (8, .int .i64 (a0.length : Int)), (9, .int .i64 (I64 ((I64 (bshr .u64 (U64 (I64 (p1 + p2))) 1)) + 1))), (10, .int .i64 p2)]) (by kernel_rfl) ?_
          refine o_end (by kernel_rfl) ?_
          refine e_blk ?_
          refine t_drop [0] (by kernel_rfl) ?_
          refine t_L (L' := [.own A1 a0.length c1 (rowOf encT_sack_run a0) 2 81]) (by kernel_rfl) ?_
          refine t_env [0, 1, 2, 8, 9, 10] (E' := [(0, .slice A1 a0.length c1), (1, .int .i64 a1), (2, .func (.func 52) #[] #[]), (8, .int .i64 (a0.length : Int)), (9, .int .i64 (I64 ((I64 (bshr .u64 (U64 (I64 (p1 + p2))) 1)) + 1))), (10, .int .i64 p2)]) (by kernel_rfl) ?_
          exact e_inv (fun a w ha hw => ⟨k, Nat.lt_succ_self k, (I64 ((I64 (bshr .u64 (U64 (I64 (p1 + p2))) 1)) + 1)), p2, hm, ha, hw⟩)
        · replace hm := ite_f hb3 hm
          refine w_region (by kernel_rfl) ?_
          refine o_run 2 [0, 1, 2, 8, 9, 10] (l := []) .nil (E' := [(0, .slice A1 a0.length c1), (1, .int .i64 a1), (2, .func (.func 52) #[] #[]), (8, .int .i64 (a0.length : Int)), (9, .int .i64 p1), (10, .int .i64 (I64 (bshr .u64 (U64 (I64 (p1 + p2))) 1)))]) (by kernel_rfl) ?_
          refine o_end (by kernel_rfl) ?_
          refine e_blk ?_
          refine t_drop [0] (by kernel_rfl) ?_
          refine t_L (L' := [.own A1 a0.length c1 (rowOf encT_sack_run a0) 2 81]) (by kernel_rfl) ?_
          refine t_env [0, 1, 2, 8, 9, 10] (E' := [(0, .slice A1 a0.length c1), (1, .int .i64 a1), (2, .func (.func 52) #[] #[]), (8, .int .i64 (a0.length : Int)), (9, .int .i64 p1), (10, .int .i64 (I64 (bshr .u64 (U64 (I64 (p1 + p2))) 1)))]) (by kernel_rfl) ?_
          exact e_inv (fun a w ha hw => ⟨k, Nat.lt_succ_self k, p1, (I64 (bshr .u64 (U64 (I64 (p1 + p2))) 1)), hm, ha, hw⟩)
      · replace hm := ite_f hb2 hm
        refine w_exit 0 (by kernel_rfl) ?_
        refine e_x_seq ?_
        refine e_x_inv ?_
        refine e_x_here ?_
        refine t_drop [0] (by kernel_rfl) ?_
        refine t_L (L' := [.own A1 a0.length c1 (rowOf encT_sack_run a0) 2 81]) (by kernel_rfl) ?_
        refine t_env [0, 1, 2, 8, 9] (E' := [(0, .slice A1 a0.length c1), (1, .int .i64 a1), (2, .func (.func 52) #[] #[]), (8, .int .i64 (a0.length : Int)), (9, .int .i64 p1)]) (by kernel_rfl) ?_
        obtain rfl := Option.some.inj hm
        exact e_inv (fun a w ha hw => ⟨ha, hw⟩)
  · exact fun a w ha hw => ⟨0, (a0.length : Int), ht1, ha, hw⟩
def slices_Insert_sack_run.f (a0 : List T_sack_run) (a1 : Int) (a2 : List T_sack_run) : Option (List T_sack_run) := insM a0 a1 a2
theorem slices_Insert_sack_run_ok (a0 : List T_sack_run) (a1 : Int) (a2 : List T_sack_run) (r : List T_sack_run) (hm : slices_Insert_sack_run.f a0 a1 a2 = some r) (B G : Asn) (A1 : Option Addr) (c1 : Nat) (A2 : Option Addr) (c2 : Nat) (w : World) (hs : St B G [.own A1 a0.length c1 (rowOf encT_sack_run a0) 2 81, .own A2 a2.length c2 (rowOf encT_sack_run a2) 2 81] w) :
    Calls Try.prog 53 #[.slice A1 a0.length c1, .int .i64 a1, .slice A2 a2.length c2] w (Post (X := (Option Addr) × Nat) (fun x => .slice x.1 r.length x.2) (fun x => B) G (fun x => [.own x.1 r.length x.2 (rowOf encT_sack_run r) 2 81, .own A2 a2.length c2 (rowOf encT_sack_run a2) 2 81]) (fun x => True)) := by
  obtain ⟨q, rfl, hq, hsum, hr, hrl⟩ := insM_some hm
  refine calls_W (F := Try.f53) Try.func53 rfl (by kernel_rfl) (L := [.own A1 a0.length c1 (rowOf encT_sack_run a0) 2 81, .own A2 a2.length c2 (rowOf encT_sack_run a2) 2 81]) ?_ hs
  refine t_own_le 0 rfl (fun hc1 => ?_)
  refine w_seq 2 3 (by kernel_rfl) ?_
  refine w_region (by kernel_rfl) ?_
  refine o_run 1 [0, 1, 2] (l := []) .nil (E' := [(0, .slice A1 a0.length c1), (1, .int .i64 (q : Nat)), (2, .slice A2 a2.length c2)]) (by kernel_rfl) ?_
  refine o_end (by kernel_rfl) ?_
  refine e_seq ?_
  refine w_seq 6 7 (by kernel_rfl) ?_
  refine w_region (by kernel_rfl) ?_
  refine o_run 2 [0, 1, 2, 10, 11] (l := []) .nil (E' := [(0, .slice A1 a0.length c1), (1, .int .i64 (q : Nat)), (2, .slice A2 a2.length c2), (10, .slice A1 a0.length c1), (11, .int .i64 (q : Nat))]) (by kernel_rfl) ?_
  refine o_val 12 (.slice 74 (.tmp 10) (some (.tmp 11)) none none) (.slice (cutA A1 q c1 2) (a0.length - q) (c1 - q)) (by kernel_rfl) (v_slice (l := some (q : Int)) (h := none) (k := none) (l' := q) (h' := a0.length) (k' := c1) (A := A1) (m := a0.length) (c := c1) (sz := 2) (by kernel_rfl) (by kernel_rfl) (by kernel_rfl) (by kernel_rfl) (by kernel_rfl) (fun h => by cases h) rfl rfl rfl hq hc1 (Nat.le_refl _) rfl rfl) ?_
  refine o_end (by kernel_rfl) ?_
  refine e_seq ?_
  refine w_seq 14 15 (by kernel_rfl) ?_
  refine w_region (by kernel_rfl) ?_
  refine o_run 3 [0, 1, 2, 7] (l := []) .nil (E' := [(0, .slice A1 a0.length c1), (1, .int .i64 (q : Nat)), (2, .slice A2 a2.length c2), (7, .int .i64 (a2.length : Nat))]) (by kernel_rfl) ?_
  refine o_end (by kernel_rfl) ?_
  refine e_seq ?_
  refine w_seq 30 31 (by kernel_rfl) ?_
  refine w_seq 60 61 (by kernel_rfl) ?_
  refine w_region (by kernel_rfl) ?_
  refine o_run 2 [0, 1, 2, 7, 16] (l := []) .nil (E' := [(0, .slice A1 a0.length c1), (1, .int .i64 (q : Nat)), (2, .slice A2 a2.length c2), (7, .int .i64 (a2.length : Nat)), (16, .bool ((a2.length : Int) == 0))]) (by kernel_rfl) ?_
  refine o_end (by kernel_rfl) ?_
  refine e_seq ?_
  refine w_cond (.tmp 16) 122 123 ((a2.length : Int) == 0) (by kernel_rfl) (by kernel_rfl) (fun hb => ?_) (fun hb => ?_)
  · have hz : a2 = [] := List.length_eq_zero_iff.1 (by simpa using hb)
    have hr0 : r = a0 := by rw [hr, hz]; simp
    subst hr0
    refine w_seq 244 245 (by kernel_rfl) ?_
    refine w_region (by kernel_rfl) ?_
    refine o_run 2 [6] (l := []) .nil (E' := [(6, .slice A1 r.length c1)]) (by kernel_rfl) ?_
    refine o_end (by kernel_rfl) ?_
    refine e_seq ?_
    refine w_ret (by kernel_rfl) ?_
    exact e_retP (A1, c1) (.slice A1 r.length c1) [0, 1] (by kernel_rfl) (by kernel_rfl) rfl (by kernel_rfl) (by kernel_rfl) trivial
  have hm0 : 0 < a2.length := by
    have : ¬ (a2.length : Int) = 0 := by simpa using hb
    omega
  refine w_skip (by kernel_rfl) ?_
  refine e_seq ?_
  refine w_seq 62 63 (by kernel_rfl) ?_
  refine w_region (by kernel_rfl) ?_
  refine o_run 3 [0, 1, 2, 7, 8] (l := []) .nil (E' := [(0, .slice A1 a0.length c1), (1, .int .i64 (q : Nat)), (2, .slice A2 a2.length c2), (7, .int .i64 (a2.length : Nat)), (8, .int .i64 (a0.length : Nat))]) (by kernel_rfl) ?_
  refine o_end (by kernel_rfl) ?_
  refine e_seq ?_
  refine w_seq 126 127 (by kernel_rfl) ?_
  refine w_seq 252 253 (by kernel_rfl) ?_
  refine w_region (by kernel_rfl) ?_
  refine o_run 3 [0, 1, 2, 7, 8, 22] (l := []) .nil (E' := [(0, .slice A1 a0.length c1), (1, .int .i64 (q : Nat)), (2, .slice A2 a2.length c2), (7, .int .i64 (a2.length : Nat)), (8, .int .i64 (a0.length : Nat)), (22, .bool ((q : Int) == (a0.length : Int)))]) (by kernel_rfl) ?_
  refine o_end (by kernel_rfl) ?_
  refine e_seq ?_
  refine w_cond (.tmp 22) 506 507 ((q : Int) == (a0.length : Int)) (by kernel_rfl) (by kernel_rfl) (fun hb2 => ?_) (fun hb2 => ?_)
  · have hqe : q = a0.length := by
      have : (q : Int) = a0.length := by simpa using hb2
      omega
    have happ : app a0 a2 = some r := by
      unfold app lim; rw [if_pos hsum, hr, hqe]; simp
    refine w_seq 1012 1013 (by kernel_rfl) ?_
    refine w_region (by kernel_rfl) ?_
    refine o_run 2 [23, 24] (l := []) .nil (E' := [(23, .slice A1 a0.length c1), (24, .slice A2 a2.length c2)]) (by kernel_rfl) ?_
    refine o_stp ?_ (by kernel_rfl)
    refine s_app (z := .agg #[.int .i64 0, .int .i64 0]) (enc := encT_sack_run) (ys := a2) (k := a2.length) (bytes := 16) 25 74 74 (.tmp 23) (.tmp 24) 0 happ rfl rfl (by kernel_rfl) (by kernel_rfl) (by kernel_rfl) (by kernel_rfl) (by kernel_rfl) (by kernel_rfl) rfl (src_own (e := 81) (j := 1) (by kernel_rfl) rfl) (by decide) (fun A3 c3 => ?_)
    refine o_run 1 [6] (l := []) .nil (E' := [(6, .slice A3 r.length c3)]) (by kernel_rfl) ?_
    refine o_end (by kernel_rfl) ?_
    refine e_seq ?_
    refine w_ret (by kernel_rfl) ?_
    exact e_retP (A3, c3) (.slice A3 r.length c3) [0, 1] (by kernel_rfl) (by kernel_rfl) rfl (by kernel_rfl) (by kernel_rfl) trivial
  have hqn : q < a0.length := by
    have : ¬ (q : Int) = a0.length := by simpa using hb2
    omega
  refine w_skip (by kernel_rfl) ?_
  refine e_seq ?_
  have hX : (rowOf encT_sack_run (a0.take q)).length = q * 2 := by rw [row_len (enc := encT_sack_run) (sz := 2) (fun _ => rfl), List.length_take, Nat.min_eq_left hq]
  have hD : (rowOf encT_sack_run (a0.drop q)).length = (a0.length - q) * 2 := by rw [row_len (enc := encT_sack_run) (sz := 2) (fun _ => rfl), List.length_drop]
  have hV : (rowOf encT_sack_run a2).length = a2.length * 2 := row_len (enc := encT_sack_run) (sz := 2) (fun _ => rfl) a2
  have hXD : rowOf encT_sack_run a0 = rowOf encT_sack_run (a0.take q) ++ rowOf encT_sack_run (a0.drop q) := by rw [← row_app, List.take_append_drop]
  have hR : rowOf encT_sack_run r = rowOf encT_sack_run (a0.take q) ++ rowOf encT_sack_run a2 ++ rowOf encT_sack_run (a0.drop q) := by rw [hr, row_app, row_app]
  have h1c : ∀ (l : List T_sack_run), ∀ u ∈ rowOf encT_sack_run l, u.oneCell' = true := row_cells encT_sack_run_one
  refine t_own_blk (by omega) (fun g sp hA hsp => ?_)
  subst hA
  refine t_own_some 1 rfl hm0 (fun gv hA => ?_)
  subst hA
  have hw1 : (I64 ((a0.length : Int) + (a2.length : Int))) = ((a0.length + a2.length : Nat) : Int) := i64_add hsum
  refine w_seq 254 255 (by kernel_rfl) ?_
  refine w_seq 508 509 (by kernel_rfl) ?_
  refine w_region (by kernel_rfl) ?_
  refine o_run 6 [0, 1, 2, 7, 8, 31] (l := []) .nil (E' := [(0, .slice (some ⟨g, 0, none⟩) a0.length c1), (1, .int .i64 (q : Nat)), (2, .slice (some ⟨gv, 0, none⟩) a2.length c2), (7, .int .i64 (a2.length : Nat)), (8, .int .i64 (a0.length : Nat)), (31, .bool (decide ((I64 ((a0.length : Int) + (a2.length : Int))) > (c1 : Int))))]) (by kernel_rfl) ?_
  refine o_end (by kernel_rfl) ?_
  refine e_seq ?_
  refine w_cond (.tmp 31) 1018 1019 (decide ((I64 ((a0.length : Int) + (a2.length : Int))) > (c1 : Int))) (by kernel_rfl) (by kernel_rfl) (fun hb3 => ?_) (fun hb3 => ?_)
  · have hg : c1 < a0.length + a2.length := by
      have := of_decide_eq_true hb3
      rw [hw1] at this
      omega
    have hw2 : I64 ((I64 ((a0.length : Int) + (a2.length : Int))) - (q : Int)) = ((a0.length + a2.length - q : Nat) : Int) := by rw [hw1]; exact i64_sub hsum (by omega)
    have hqk : q + (a0.length + a2.length - q) = a0.length + a2.length := by omega
    refine w_seq 2036 2037 (by kernel_rfl) ?_
    refine w_region (by kernel_rfl) ?_
    refine o_run 2 [0, 1, 2, 7, 8, 32, 33] (l := []) .nil (E' := [(0, .slice (some ⟨g, 0, none⟩) a0.length c1), (1, .int .i64 (q : Nat)), (2, .slice (some ⟨gv, 0, none⟩) a2.length c2), (7, .int .i64 (a2.length : Nat)), (8, .int .i64 (a0.length : Nat)), (32, .slice (some ⟨g, 0, none⟩) a0.length c1), (33, .int .i64 (q : Nat))]) (by kernel_rfl) ?_
    have hcA0 : cutA (some ⟨g, 0, none⟩) 0 c1 2 = some ⟨g, 0 * 2, none⟩ := cutA_at (by omega)
    refine o_val 34 (.slice 74 (.tmp 32) none (some (.tmp 33)) none) (.slice (cutA (some ⟨g, 0, none⟩) 0 c1 2) q c1) (by kernel_rfl) (v_slice (l := none) (h := (some (q : Int))) (k := none) (l' := 0) (h' := q) (k' := c1) (A := (some ⟨g, 0, none⟩)) (m := a0.length) (c := c1) (sz := 2) (by kernel_rfl) (by kernel_rfl) (by kernel_rfl) (by kernel_rfl) (by kernel_rfl) (fun h => by cases h) rfl rfl rfl (Nat.zero_le _) (by omega) (Nat.le_refl _) rfl rfl) ?_
    rw [hcA0]
    refine o_run 5 [1, 0, 2, 7, 34, 39] (l := []) .nil (E' := [(1, .int .i64 (q : Nat)), (0, .slice (some ⟨g, 0, none⟩) a0.length c1), (2, .slice (some ⟨gv, 0, none⟩) a2.length c2), (7, .int .i64 (a2.length : Nat)), (34, .slice (some ⟨g, 0, none⟩) q c1), (39, .int .i64 (I64 ((I64 ((a0.length : Int) + (a2.length : Int))) - (q : Int))))]) (by kernel_rfl) ?_
    refine o_stp ?_ (by kernel_rfl)
    refine s_eff 40 (.call { callee := .builtin .append, args := #[.tmp 34, .tmp 39], argTypes := #[74, 3] }) (by kernel_rfl) (e_appZ (e := 81) (q := q) (k := a0.length + a2.length - q) (c := c1) (sz := 2) (bytes := 16) (z := .agg #[.int .i64 0, .int .i64 0]) (a := ⟨g, 0, none⟩) (olds := rowOf encT_sack_run (a0.take q)) (kq := .i64) (kn := .i64) (by kernel_rfl) (ev_int (by kernel_rfl) hw2) (by kernel_rfl) (by kernel_rfl) (by kernel_rfl) (by kernel_rfl) (at_blk (j := 0) rfl (by rw [hXD, List.drop_zero, List.append_assoc, List.take_left' rfl])) hX (by omega) (by decide) (by omega) (by rw [hqk]; have := Nat.mul_le_mul_right 16 hsum; omega) (by omega)) (fun p hp => ?_)
    obtain ⟨g2, c3, zs, sp2⟩ := p
    obtain ⟨hz1, hz2, hz3⟩ := hp
    dsimp only at hz1 hz2 hz3 ⊢
    rw [hqk] at hz2 hz3
    rw [hqk]
    refine o_run 1 [1, 0, 2, 7, 9] (l := []) .nil (E' := [(1, .int .i64 (q : Nat)), (0, .slice (some ⟨g, 0, none⟩) a0.length c1), (2, .slice (some ⟨gv, 0, none⟩) a2.length c2), (7, .int .i64 (a2.length : Nat)), (9, .slice (some ⟨g2, 0, none⟩) (a0.length + a2.length) c3)]) (by kernel_rfl) ?_
    refine o_end (by kernel_rfl) ?_
    refine e_seq ?_
    refine w_seq 4074 4075 (by kernel_rfl) ?_
    refine w_region (by kernel_rfl) ?_
    refine o_run 2 [1, 0, 2, 7, 9, 41, 42] (l := []) .nil (E' := [(1, .int .i64 (q : Nat)), (0, .slice (some ⟨g, 0, none⟩) a0.length c1), (2, .slice (some ⟨gv, 0, none⟩) a2.length c2), (7, .int .i64 (a2.length : Nat)), (9, .slice (some ⟨g2, 0, none⟩) (a0.length + a2.length) c3), (41, .slice (some ⟨g2, 0, none⟩) (a0.length + a2.length) c3), (42, .int .i64 (q : Nat))]) (by kernel_rfl) ?_
    have hcA1 : cutA (some ⟨g2, 0, none⟩) q c3 2 = some ⟨g2, q * 2, none⟩ := cutA_at (by omega)
    refine o_val 43 (.slice 74 (.tmp 41) (some (.tmp 42)) none none) (.slice (cutA (some ⟨g2, 0, none⟩) q c3 2) (a0.length + a2.length - q) (c3 - q)) (by kernel_rfl) (v_slice (l := (some (q : Int))) (h := none) (k := none) (l' := q) (h' := (a0.length + a2.length)) (k' := c3) (A := (some ⟨g2, 0, none⟩)) (m := (a0.length + a2.length)) (c := c3) (sz := 2) (by kernel_rfl) (by kernel_rfl) (by kernel_rfl) (by kernel_rfl) (by kernel_rfl) (fun h => by cases h) rfl rfl rfl (by omega) hz3 (Nat.le_refl _) rfl rfl) ?_
    rw [hcA1]
    refine o_run 1 [1, 0, 2, 7, 9, 43, 44] (l := []) .nil (E' := [(1, .int .i64 (q : Nat)), (0, .slice (some ⟨g, 0, none⟩) a0.length c1), (2, .slice (some ⟨gv, 0, none⟩) a2.length c2), (7, .int .i64 (a2.length : Nat)), (9, .slice (some ⟨g2, 0, none⟩) (a0.length + a2.length) c3), (43, .slice (some ⟨g2, q * 2, none⟩) (a0.length + a2.length - q) (c3 - q)), (44, .slice (some ⟨gv, 0, none⟩) a2.length c2)]) (by kernel_rfl) ?_
    refine o_stp ?_ (by kernel_rfl)
    refine s_eff 45 (.call { callee := .builtin .copy, args := #[.tmp 43, .tmp 44], argTypes := #[74, 74] }) (by kernel_rfl) (e_copyB (j := 0) (l := rowOf encT_sack_run a2) (a := ⟨gv, 0, none⟩) (g := g2) (o := q * 2) (dl := a0.length + a2.length - q) (dc := c3 - q) (sl := a2.length) (sc := c2) (elem := 81) (sz := 2) (by kernel_rfl) (by kernel_rfl) (by kernel_rfl) (by kernel_rfl) rfl (by rw [hV]; congr 1; exact (Nat.min_eq_left (by omega)).symm) (at_own (j := 2) (off := 0) (A := some ⟨gv, 0, none⟩) (m := a2.length) (c := c2) (cs := rowOf encT_sack_run a2) rfl (by rw [List.drop_zero, List.take_length])) (by rw [hV]; simp only [List.length_append, hX, hz1, Nat.sub_mul, Nat.add_mul] at *; have := Nat.mul_le_mul_right 2 hq; omega) (h1c _)) (fun _ _ => ?_)
    dsimp only [List.set]
    refine t_env [1, 0, 2, 7, 9] (E' := [(1, .int .i64 (q : Nat)), (0, .slice (some ⟨g, 0, none⟩) a0.length c1), (2, .slice (some ⟨gv, 0, none⟩) a2.length c2), (7, .int .i64 (a2.length : Nat)), (9, .slice (some ⟨g2, 0, none⟩) (a0.length + a2.length) c3)]) (by kernel_rfl) ?_
    refine o_end (by kernel_rfl) ?_
    refine e_seq ?_
    refine w_seq 8150 8151 (by kernel_rfl) ?_
    have hw3 : (I64 ((q : Int) + (a2.length : Int))) = ((q + a2.length : Nat) : Int) := i64_add (by omega)
    refine w_tail 8 [] (by kernel_rfl) mixed (by kernel_rfl) ?_
    refine tt_run [0, 1, 2, 3] [1, 0, 9, 46, 49] [] 4 (listed' := #[true, true, true, true, false, false, false, false, false]) (l := []) .nil (E' := [(1, .int .i64 (q : Nat)), (0, .slice (some ⟨g, 0, none⟩) a0.length c1), (9, .slice (some ⟨g2, 0, none⟩) (a0.length + a2.length) c3), (46, .slice (some ⟨g2, 0, none⟩) (a0.length + a2.length) c3), (49, .int .i64 (I64 ((q : Int) + (a2.length : Int))))]) (by kernel_rfl) (by kernel_rfl) (by kernel_rfl) (Ext.refl _) (by kernel_rfl) (by kernel_rfl) ?_
    have hcA2 : cutA (some ⟨g2, 0, none⟩) (q + a2.length) c3 2 = some ⟨g2, (q + a2.length) * 2, none⟩ := cutA_at (by omega)
    refine tt_val 4 50 (.slice 74 (.tmp 46) (some (.tmp 49)) none none) (.slice (cutA (some ⟨g2, 0, none⟩) (q + a2.length) c3 2) (a0.length + a2.length - (q + a2.length)) (c3 - (q + a2.length))) [] (by kernel_rfl) (v_slice (l := (some (I64 ((q : Int) + (a2.length : Int))))) (h := none) (k := none) (l' := (q + a2.length)) (h' := (a0.length + a2.length)) (k' := c3) (A := (some ⟨g2, 0, none⟩)) (m := (a0.length + a2.length)) (c := c3) (sz := 2) (by kernel_rfl) (by kernel_rfl) (by kernel_rfl) (by kernel_rfl) (by kernel_rfl) (fun h => by cases h) hw3 rfl rfl (by omega) hz3 (Nat.le_refl _) rfl rfl) (by kernel_rfl) (Ext.refl _) (by kernel_rfl) (by kernel_rfl) ?_
    rw [hcA2]
    refine tt_run [5, 6] [9, 50, 51, 52] [] 1 (listed' := #[true, true, true, true, true, true, true, false, false]) (l := []) .nil (E' := [(9, .slice (some ⟨g2, 0, none⟩) (a0.length + a2.length) c3), (50, .slice (some ⟨g2, (q + a2.length) * 2, none⟩) (a0.length + a2.length - (q + a2.length)) (c3 - (q + a2.length))), (51, .slice (some ⟨g, 0, none⟩) a0.length c1), (52, .int .i64 (q : Nat))]) (by kernel_rfl) (by kernel_rfl) (by kernel_rfl) (Ext.refl _) (by kernel_rfl) (by kernel_rfl) ?_
    have hcA3 : cutA (some ⟨g, 0, none⟩) q c1 2 = some ⟨g, q * 2, none⟩ := cutA_at (by omega)
    refine tt_val 7 53 (.slice 74 (.tmp 51) (some (.tmp 52)) none none) (.slice (cutA (some ⟨g, 0, none⟩) q c1 2) (a0.length - q) (c1 - q)) [] (by kernel_rfl) (v_slice (l := (some (q : Int))) (h := none) (k := none) (l' := q) (h' := a0.length) (k' := c1) (A := (some ⟨g, 0, none⟩)) (m := a0.length) (c := c1) (sz := 2) (by kernel_rfl) (by kernel_rfl) (by kernel_rfl) (by kernel_rfl) (by kernel_rfl) (fun h => by cases h) rfl rfl rfl hq hc1 (Nat.le_refl _) rfl rfl) (by kernel_rfl) (Ext.refl _) (by kernel_rfl) (by kernel_rfl) ?_
    rw [hcA3]
    refine tt_end [] (Ext.refl _) (by kernel_rfl) (by kernel_rfl) (by kernel_rfl) ?_
    refine o_stp ?_ (by kernel_rfl)
    refine s_eff 54 (.call { callee := .builtin .copy, args := #[.tmp 50, .tmp 53], argTypes := #[74, 74] }) (by kernel_rfl) (e_copyB (j := 0) (l := rowOf encT_sack_run (a0.drop q)) (a := ⟨g, q * 2, none⟩) (g := g2) (o := (q + a2.length) * 2) (dl := a0.length + a2.length - (q + a2.length)) (dc := c3 - (q + a2.length)) (sl := a0.length - q) (sc := c1 - q) (elem := 81) (sz := 2) (by kernel_rfl) (by kernel_rfl) (by kernel_rfl) (by kernel_rfl) rfl (by rw [hD]; congr 1; simp only [Nat.min_def]; split <;> omega) (at_blk (j := 1) rfl (by rw [hXD, ← hX, List.append_assoc, List.drop_left' rfl, List.take_left' rfl])) (by rw [hD]; simp only [List.length_append, List.length_take, List.length_drop, hX, hV, hz1, Nat.sub_mul, Nat.add_mul] at *; have := Nat.mul_le_mul_right 2 hq; omega) (h1c _)) (fun _ _ => ?_)
    dsimp only [List.set]
    refine t_env [9] (E' := [(9, .slice (some ⟨g2, 0, none⟩) (a0.length + a2.length) c3)]) (by kernel_rfl) ?_
    refine o_end (by kernel_rfl) ?_
    refine e_seq ?_
    have hfin := list_two (P := rowOf encT_sack_run (a0.take q)) (Z := zs) (S := sp2) (V := rowOf encT_sack_run a2) (D := rowOf encT_sack_run (a0.drop q)) (by rw [hz1, hV, hD, ← Nat.add_mul]; congr 1; omega)
    rw [hX, hV, ← Nat.add_mul, ← hR] at hfin
    rw [hV, ← Nat.add_mul, hfin]
    refine t_blk_row (m := r.length) (c := c3) (sz := 2) rfl (row_len (enc := encT_sack_run) (sz := 2) (fun _ => rfl) r) (by rw [hz2, hrl]) (by omega) (h1c _) ?_
    refine t_drop [0, 2] (by kernel_rfl) ?_
    refine w_seq 16302 16303 (by kernel_rfl) ?_
    refine w_region (by kernel_rfl) ?_
    rw [← hrl]
    refine o_run 2 [6] (l := []) .nil (E' := [(6, .slice (some ⟨g2, 0, none⟩) r.length c3)]) (by kernel_rfl) ?_
    refine o_end (by kernel_rfl) ?_
    refine e_seq ?_
    refine w_ret (by kernel_rfl) ?_
    exact e_retP (some ⟨g2, 0, none⟩, c3) (.slice (some ⟨g2, 0, none⟩) r.length c3) [0, 1] (by kernel_rfl) (by kernel_rfl) rfl (by kernel_rfl) (by kernel_rfl) trivial
  have hg : a0.length + a2.length ≤ c1 := by
    have := of_decide_eq_false hb3
    rw [hw1] at this
    omega
  refine w_skip (by kernel_rfl) ?_
  refine e_seq ?_
  have hsp2 : a2.length * 2 ≤ sp.length := by rw [hsp]; exact Nat.mul_le_mul_right _ (by omega)
  have hcA0 : cutA (some ⟨g, 0, none⟩) 0 c1 2 = some ⟨g, 0 * 2, none⟩ := cutA_at (by omega)
  refine w_seq 510 511 (by kernel_rfl) ?_
  refine w_region (by kernel_rfl) ?_
  refine o_run 4 [0, 1, 2, 7, 8, 56, 59] (l := []) .nil (E' := [(0, .slice (some ⟨g, 0, none⟩) a0.length c1), (1, .int .i64 (q : Nat)), (2, .slice (some ⟨gv, 0, none⟩) a2.length c2), (7, .int .i64 (a2.length : Nat)), (8, .int .i64 (a0.length : Nat)), (56, .slice (some ⟨g, 0, none⟩) a0.length c1), (59, .int .i64 (I64 ((a0.length : Int) + (a2.length : Int))))]) (by kernel_rfl) ?_
  refine o_val 60 (.slice 74 (.tmp 56) none (some (.tmp 59)) none) (.slice (cutA (some ⟨g, 0, none⟩) 0 c1 2) (a0.length + a2.length) c1) (by kernel_rfl) (v_slice (l := none) (h := (some (I64 ((a0.length : Int) + (a2.length : Int))))) (k := none) (l' := 0) (h' := (a0.length + a2.length)) (k' := c1) (A := (some ⟨g, 0, none⟩)) (m := a0.length) (c := c1) (sz := 2) (by kernel_rfl) (by kernel_rfl) (by kernel_rfl) (by kernel_rfl) (by kernel_rfl) (fun h => by cases h) rfl hw1 rfl (Nat.zero_le _) hg (Nat.le_refl _) rfl rfl) ?_
  rw [hcA0]
  refine o_run 1 [0, 1, 2, 7] (l := []) .nil (E' := [(0, .slice (some ⟨g, 0, none⟩) (a0.length + a2.length) c1), (1, .int .i64 (q : Nat)), (2, .slice (some ⟨gv, 0, none⟩) a2.length c2), (7, .int .i64 (a2.length : Nat))]) (by kernel_rfl) ?_
  refine o_end (by kernel_rfl) ?_
  refine e_seq ?_
  refine w_seq 1022 1023 (by kernel_rfl) ?_
  refine w_seq 2044 2045 (by kernel_rfl) ?_
  refine w_region (by kernel_rfl) ?_
  refine o_run 5 [0, 1, 2, 7, 61, 62, 65] (l := []) .nil (E' := [(0, .slice (some ⟨g, 0, none⟩) (a0.length + a2.length) c1), (1, .int .i64 (q : Nat)), (2, .slice (some ⟨gv, 0, none⟩) a2.length c2), (7, .int .i64 (a2.length : Nat)), (61, .slice (some ⟨gv, 0, none⟩) a2.length c2), (62, .slice (some ⟨g, 0, none⟩) (a0.length + a2.length) c1), (65, .int .i64 (I64 ((q : Int) + (a2.length : Int))))]) (by kernel_rfl) ?_
  have hw3 : (I64 ((q : Int) + (a2.length : Int))) = ((q + a2.length : Nat) : Int) := i64_add (by omega)
  have hcA4 : cutA (some ⟨g, 0, none⟩) (q + a2.length) c1 2 = some ⟨g, (q + a2.length) * 2, none⟩ := cutA_at (by omega)
  refine o_val 66 (.slice 74 (.tmp 62) (some (.tmp 65)) none none) (.slice (cutA (some ⟨g, 0, none⟩) (q + a2.length) c1 2) (a0.length + a2.length - (q + a2.length)) (c1 - (q + a2.length))) (by kernel_rfl) (v_slice (l := (some (I64 ((q : Int) + (a2.length : Int))))) (h := none) (k := none) (l' := (q + a2.length)) (h' := (a0.length + a2.length)) (k' := c1) (A := (some ⟨g, 0, none⟩)) (m := (a0.length + a2.length)) (c := c1) (sz := 2) (by kernel_rfl) (by kernel_rfl) (by kernel_rfl) (by kernel_rfl) (by kernel_rfl) (fun h => by cases h) hw3 rfl rfl (by omega) hg (Nat.le_refl _) rfl rfl) ?_
  rw [hcA4]
  refine o_val 67 (.call { callee := .value (.func 55), args := #[.tmp 61, .tmp 66], argTypes := #[74, 74] }) (.bool false) (by kernel_rfl) (v_over (fn := Try.f55) (tS := 74) (tR := 4) (e := 81) (ja := 1) (jb := 0) (sz := 2) (gb := g) (ob := (q + a2.length) * 2) (A := some ⟨gv, 0, none⟩) (la := a2.length) (ca := c2) (lb := a0.length + a2.length - (q + a2.length)) (cb := c1 - (q + a2.length)) Try.func55 (by kernel_rfl) (by kernel_rfl) (by kernel_rfl) (by kernel_rfl) (by kernel_rfl) (by kernel_rfl) (by kernel_rfl) (by kernel_rfl) rfl hm0 rfl (by rw [List.length_append, row_len (enc := encT_sack_run) (sz := 2) (fun _ => rfl)]; have : 0 < a0.length * 2 := Nat.mul_pos (by omega) (by decide); omega) rfl) ?_
  refine o_run 1 [0, 1, 2, 7, 68] (l := []) .nil (E' := [(0, .slice (some ⟨g, 0, none⟩) (a0.length + a2.length) c1), (1, .int .i64 (q : Nat)), (2, .slice (some ⟨gv, 0, none⟩) a2.length c2), (7, .int .i64 (a2.length : Nat)), (68, .bool true)]) (by kernel_rfl) ?_
  refine o_end (by kernel_rfl) ?_
  refine e_seq ?_
  refine w_cond_t (.tmp 68) 4090 4091 (by kernel_rfl) (by kernel_rfl) ?_
  refine w_seq 8180 8181 (by kernel_rfl) ?_
  refine w_tail 8 [] (by kernel_rfl) mixed (by kernel_rfl) ?_
  refine tt_run [0, 1, 2, 3] [0, 1, 2, 7, 69, 72] [] 4 (listed' := #[true, true, true, true, false, false, false, false, false]) (l := []) .nil (E' := [(0, .slice (some ⟨g, 0, none⟩) (a0.length + a2.length) c1), (1, .int .i64 (q : Nat)), (2, .slice (some ⟨gv, 0, none⟩) a2.length c2), (7, .int .i64 (a2.length : Nat)), (69, .slice (some ⟨g, 0, none⟩) (a0.length + a2.length) c1), (72, .int .i64 (I64 ((q : Int) + (a2.length : Int))))]) (by kernel_rfl) (by kernel_rfl) (by kernel_rfl) (Ext.refl _) (by kernel_rfl) (by kernel_rfl) ?_
  refine tt_val 4 73 (.slice 74 (.tmp 69) (some (.tmp 72)) none none) (.slice (cutA (some ⟨g, 0, none⟩) (q + a2.length) c1 2) (a0.length + a2.length - (q + a2.length)) (c1 - (q + a2.length))) [] (by kernel_rfl) (v_slice (l := (some (I64 ((q : Int) + (a2.length : Int))))) (h := none) (k := none) (l' := (q + a2.length)) (h' := (a0.length + a2.length)) (k' := c1) (A := (some ⟨g, 0, none⟩)) (m := (a0.length + a2.length)) (c := c1) (sz := 2) (by kernel_rfl) (by kernel_rfl) (by kernel_rfl) (by kernel_rfl) (by kernel_rfl) (fun h => by cases h) hw3 rfl rfl (by omega) hg (Nat.le_refl _) rfl rfl) (by kernel_rfl) (Ext.refl _) (by kernel_rfl) (by kernel_rfl) ?_
  rw [hcA4]
  refine tt_run [5, 6] [0, 1, 2, 7, 73, 74, 75] [] 1 (listed' := #[true, true, true, true, true, true, true, false, false]) (l := []) .nil (E' := [(0, .slice (some ⟨g, 0, none⟩) (a0.length + a2.length) c1), (1, .int .i64 (q : Nat)), (2, .slice (some ⟨gv, 0, none⟩) a2.length c2), (7, .int .i64 (a2.length : Nat)), (73, .slice (some ⟨g, (q + a2.length) * 2, none⟩) (a0.length + a2.length - (q + a2.length)) (c1 - (q + a2.length))), (74, .slice (some ⟨g, 0, none⟩) (a0.length + a2.length) c1), (75, .int .i64 (q : Nat))]) (by kernel_rfl) (by kernel_rfl) (by kernel_rfl) (Ext.refl _) (by kernel_rfl) (by kernel_rfl) ?_
  have hcA3 : cutA (some ⟨g, 0, none⟩) q c1 2 = some ⟨g, q * 2, none⟩ := cutA_at (by omega)
  refine tt_val 7 76 (.slice 74 (.tmp 74) (some (.tmp 75)) none none) (.slice (cutA (some ⟨g, 0, none⟩) q c1 2) (a0.length + a2.length - q) (c1 - q)) [] (by kernel_rfl) (v_slice (l := (some (q : Int))) (h := none) (k := none) (l' := q) (h' := (a0.length + a2.length)) (k' := c1) (A := (some ⟨g, 0, none⟩)) (m := (a0.length + a2.length)) (c := c1) (sz := 2) (by kernel_rfl) (by kernel_rfl) (by kernel_rfl) (by kernel_rfl) (by kernel_rfl) (fun h => by cases h) rfl rfl rfl (by omega) hg (Nat.le_refl _) rfl rfl) (by kernel_rfl) (Ext.refl _) (by kernel_rfl) (by kernel_rfl) ?_
  rw [hcA3]
  refine tt_end [] (Ext.refl _) (by kernel_rfl) (by kernel_rfl) (by kernel_rfl) ?_
  refine o_stp ?_ (by kernel_rfl)
  refine s_eff 77 (.call { callee := .builtin .copy, args := #[.tmp 73, .tmp 76], argTypes := #[74, 74] }) (by kernel_rfl) (e_copyB (j := 0) (l := rowOf encT_sack_run (a0.drop q)) (a := ⟨g, q * 2, none⟩) (g := g) (o := (q + a2.length) * 2) (dl := a0.length + a2.length - (q + a2.length)) (dc := c1 - (q + a2.length)) (sl := a0.length + a2.length - q) (sc := c1 - q) (elem := 81) (sz := 2) (by kernel_rfl) (by kernel_rfl) (by kernel_rfl) (by kernel_rfl) rfl (by rw [hD]; congr 1; simp only [Nat.min_def]; split <;> omega) (at_blk (j := 0) rfl (by rw [hXD, ← hX, List.append_assoc, List.drop_left' rfl, List.take_left' rfl])) (by rw [hD, List.length_append, hXD, List.length_append, hX, hD]; simp only [Nat.sub_mul, Nat.add_mul] at *; have := Nat.mul_le_mul_right 2 hq; omega) (h1c _)) (fun _ _ => ?_)
  dsimp only [List.set]
  refine t_env [0, 1, 2] (E' := [(0, .slice (some ⟨g, 0, none⟩) (a0.length + a2.length) c1), (1, .int .i64 (q : Nat)), (2, .slice (some ⟨gv, 0, none⟩) a2.length c2)]) (by kernel_rfl) ?_
  refine o_end (by kernel_rfl) ?_
  refine e_seq ?_
  refine w_seq 16362 16363 (by kernel_rfl) ?_
  refine w_region (by kernel_rfl) ?_
  refine o_run 2 [0, 1, 2, 78, 79] (l := []) .nil (E' := [(0, .slice (some ⟨g, 0, none⟩) (a0.length + a2.length) c1), (1, .int .i64 (q : Nat)), (2, .slice (some ⟨gv, 0, none⟩) a2.length c2), (78, .slice (some ⟨g, 0, none⟩) (a0.length + a2.length) c1), (79, .int .i64 (q : Nat))]) (by kernel_rfl) ?_
  refine o_val 80 (.slice 74 (.tmp 78) (some (.tmp 79)) none none) (.slice (cutA (some ⟨g, 0, none⟩) q c1 2) (a0.length + a2.length - q) (c1 - q)) (by kernel_rfl) (v_slice (l := (some (q : Int))) (h := none) (k := none) (l' := q) (h' := (a0.length + a2.length)) (k' := c1) (A := (some ⟨g, 0, none⟩)) (m := (a0.length + a2.length)) (c := c1) (sz := 2) (by kernel_rfl) (by kernel_rfl) (by kernel_rfl) (by kernel_rfl) (by kernel_rfl) (fun h => by cases h) rfl rfl rfl (by omega) hg (Nat.le_refl _) rfl rfl) ?_
  rw [hcA3]
  refine o_run 1 [0, 80, 81] (l := []) .nil (E' := [(0, .slice (some ⟨g, 0, none⟩) (a0.length + a2.length) c1), (80, .slice (some ⟨g, q * 2, none⟩) (a0.length + a2.length - q) (c1 - q)), (81, .slice (some ⟨gv, 0, none⟩) a2.length c2)]) (by kernel_rfl) ?_
  refine o_stp ?_ (by kernel_rfl)
  refine s_eff 82 (.call { callee := .builtin .copy, args := #[.tmp 80, .tmp 81], argTypes := #[74, 74] }) (by kernel_rfl) (e_copyB (j := 0) (l := rowOf encT_sack_run a2) (a := ⟨gv, 0, none⟩) (g := g) (o := q * 2) (dl := a0.length + a2.length - q) (dc := c1 - q) (sl := a2.length) (sc := c2) (elem := 81) (sz := 2) (by kernel_rfl) (by kernel_rfl) (by kernel_rfl) (by kernel_rfl) rfl (by rw [hV]; congr 1; exact (Nat.min_eq_left (by omega)).symm) (at_own (j := 1) (off := 0) (A := some ⟨gv, 0, none⟩) (m := a2.length) (c := c2) (cs := rowOf encT_sack_run a2) rfl (by rw [List.drop_zero, List.take_length])) (by rw [hV]; simp only [List.length_append, List.length_take, List.length_drop, hXD, hX, hD, Nat.sub_mul, Nat.add_mul] at *; have := Nat.mul_le_mul_right 2 hq; omega) (h1c _)) (fun _ _ => ?_)
  dsimp only [List.set]
  refine t_env [0] (E' := [(0, .slice (some ⟨g, 0, none⟩) (a0.length + a2.length) c1)]) (by kernel_rfl) ?_
  refine o_end (by kernel_rfl) ?_
  refine e_seq ?_
  have hfin := list_three (X := rowOf encT_sack_run (a0.take q)) (D := rowOf encT_sack_run (a0.drop q)) (S := sp) (V := rowOf encT_sack_run a2) (by rw [hV]; exact hsp2)
  rw [← hXD, hX, hV, ← Nat.add_mul, ← hR] at hfin
  rw [hV, ← Nat.add_mul, hfin]
  refine t_blk_row (m := r.length) (c := c1) (sz := 2) rfl (row_len (enc := encT_sack_run) (sz := 2) (fun _ => rfl) r) (by rw [List.length_drop, hsp, hrl, ← Nat.sub_mul]; congr 1; omega) (by omega) (h1c _) ?_
  refine w_seq 32726 32727 (by kernel_rfl) ?_
  refine w_region (by kernel_rfl) ?_
  rw [← hrl]
  refine o_run 2 [6] (l := []) .nil (E' := [(6, .slice (some ⟨g, 0, none⟩) r.length c1)]) (by kernel_rfl) ?_
  refine o_end (by kernel_rfl) ?_
  refine e_seq ?_
  refine w_ret (by kernel_rfl) ?_
  exact e_retP (some ⟨g, 0, none⟩, c1) (.slice (some ⟨g, 0, none⟩) r.length c1) [0, 1] (by kernel_rfl) (by kernel_rfl) rfl (by kernel_rfl) (by kernel_rfl) trivial
def sack_Board_join.l1 : Nat → T_sack_Board → Int → T_sack_run → (List T_sack_run) → Option ((List T_sack_run) × T_sack_run)
  | 0, _, _, _, _ => none
  | k + 1, a0, p1, p2, p3 => (if decide (p1 < (a0.xruns.length : Int)) then ((idx a0.xruns p1).bind fun e1 => (if decide (e1.xto < p2.xfrom) then ((app p3 [e1]).bind fun l1 => (sack_Board_join.l1 k a0 (I64 (p1 + 1)) p2 l1)) else (if decide (e1.xfrom > p2.xto) then ((app p3 [e1]).bind fun l2 => (sack_Board_join.l1 k a0 (I64 (p1 + 1)) p2 l2)) else (sack_Board_join.l1 k a0 (I64 (p1 + 1)) (⟨imin p2.xfrom e1.xfrom, imax p2.xto e1.xto⟩ : T_sack_run) p3)))) else (some (p3, p2)))
def sack_Board_join.f (k : Nat) (a0 : T_sack_Board) (a1 : T_sack_run) : Option (T_sack_Board) :=
  ((sack_Board_join.l1 k a0 0 a1 ([] : List T_sack_run)).bind fun t1 => ((slices_BinarySearchFunc_int.f k t1.1 ((t1.2).xfrom)).bind fun t2 => ((slices_Insert_sack_run.f t1.1 t2.1 [(t1.2)]).bind fun t3 => (some (⟨a0.xmade, a0.xfirst, t3⟩ : T_sack_Board)))))
theorem sack_Board_join_ok (k : Nat) (a0 : T_sack_Board) (a1 : T_sack_run) (r : T_sack_Board) (hm : sack_Board_join.f k a0 a1 = some r) (B G : Asn) (g1 : Nat) (A1 : Option Addr) (c1 : Nat) (hs1 : Sl kT_sack_run B A1 c1 a0.xruns) (w : World) (hs : St B G [.blk g1 [.bool a0.xmade, .int .u32 a0.xfirst, .slice A1 a0.xruns.length c1] 76] w) :
    Calls Try.prog 47 #[.pointer (some ⟨g1, 0, none⟩), .agg #[.int .i64 a1.xfrom, .int .i64 a1.xto]] w (Post (X := (Option Addr) × Nat) (fun x => .tuple #[]) (fun x => B) G (fun x => [.blk g1 [.bool r.xmade, .int .u32 r.xfirst, .slice x.1 r.xruns.length x.2] 76, .own x.1 r.xruns.length x.2 (rowOf encT_sack_run r.xruns) 2 81]) (fun x => True)) := by
  unfold sack_Board_join.f at hm
  refine calls_W (F := Try.f47) Try.func47 rfl (by kernel_rfl) (L := [.blk g1 [.bool a0.xmade, .int .u32 a0.xfirst, .slice A1 a0.xruns.length c1] 76]) ?_ hs
  refine w_seq 2 3 (by kernel_rfl) ?_
  refine w_region (by kernel_rfl) ?_
  refine o_stp ?_ (by kernel_rfl)
  refine s_new 3 (fun g2 => .pointer (some ⟨g2, 0, none⟩)) [.int .i64 a1.xfrom, .int .i64 a1.xto] 81 (fun _ => by kernel_rfl) (fun g2 => ?_)
  refine o_end (by kernel_rfl) ?_
  refine e_seq ?_
  refine w_seq 6 7 (by kernel_rfl) ?_
  refine w_region (by kernel_rfl) ?_
  refine o_run 1 [0, 3, 4] (l := []) .nil (E' := [(0, .pointer (some ⟨g1, 0, none⟩)), (3, .pointer (some ⟨g2, 0, none⟩)), (4, .slice none 0 0)]) (by kernel_rfl) ?_
  refine o_end (by kernel_rfl) ?_
  refine e_seq ?_
  refine w_seq 14 15 (by kernel_rfl) ?_
  refine w_seq 28 29 (by kernel_rfl) ?_
  refine w_region (by kernel_rfl) ?_
  refine o_run 6 [0, 3, 4, 12, 13, 14] (l := [(⟨g1, 2, none⟩, .slice A1 a0.xruns.length c1)]) (.one (at_blk (j := 1) rfl rfl) .nil) (E' := [(0, .pointer (some ⟨g1, 0, none⟩)), (3, .pointer (some ⟨g2, 0, none⟩)), (4, .slice none 0 0), (12, .slice A1 a0.xruns.length c1), (13, .int .i64 (a0.xruns.length : Int)), (14, .int .i64 0)]) (by kernel_rfl) ?_
  refine o_end (by kernel_rfl) ?_
  refine e_seq ?_
  refine w_block 0 58 (by kernel_rfl) ?_
  refine t_nil 81 2 ?_
  refine t_L (L' := [.own none (([] : List T_sack_run).length) 0 (rowOf encT_sack_run ([] : List T_sack_run)) 2 81, .blk g2 [.int .i64 a1.xfrom, .int .i64 a1.xto] 81, .blk g1 [.bool a0.xmade, .int .u32 a0.xfirst, .slice A1 a0.xruns.length c1] 76]) (by kernel_rfl) ?_
  obtain ⟨t1, ht1, ho1⟩ := bind_some hm
  refine t_drop [0, 2, 1] (by kernel_rfl) ?_
  refine t_L (L' := [.own none (([] : List T_sack_run).length) 0 (rowOf encT_sack_run ([] : List T_sack_run)) 2 81, .blk g1 [.bool a0.xmade, .int .u32 a0.xfirst, .slice A1 a0.xruns.length c1] 76, .blk g2 [.int .i64 a1.xfrom, .int .i64 a1.xto] 81]) (by kernel_rfl) ?_
  refine t_env [0, 3, 4, 12, 13, 14] (E' := [(0, .pointer (some ⟨g1, 0, none⟩)), (3, .pointer (some ⟨g2, 0, none⟩)), (4, .slice none (([] : List T_sack_run).length) 0), (12, .slice A1 a0.xruns.length c1), (13, .int .i64 (a0.xruns.length : Int)), (14, .int .i64 0)]) (by kernel_rfl) ?_
  refine w_loopJ 116 0 (fun k a w => ∃ (p1 : Int) (p2 : T_sack_run) (p3 : List T_sack_run) (A2 : Option Addr) (c2 : Nat), sack_Board_join.l1 k a0 p1 p2 p3 = some t1 ∧ EnvOk [(0, .pointer (some ⟨g1, 0, none⟩)), (3, .pointer (some ⟨g2, 0, none⟩)), (4, .slice A2 p3.length c2), (12, .slice A1 a0.xruns.length c1), (13, .int .i64 (a0.xruns.length : Int)), (14, .int .i64 p1)] Try.f47.ntmps a ∧ St B G [.own A2 p3.length c2 (rowOf encT_sack_run p3) 2 81, .blk g1 [.bool a0.xmade, .int .u32 a0.xfirst, .slice A1 a0.xruns.length c1] 76, .blk g2 [.int .i64 p2.xfrom, .int .i64 p2.xto] 81] w) (fun a w => ∃ (A3 : Option Addr) (c3 : Nat), EnvOk [(0, .pointer (some ⟨g1, 0, none⟩)), (3, .pointer (some ⟨g2, 0, none⟩)), (4, .slice A3 ((t1.1).length) c3)] Try.f47.ntmps a ∧ St B G [.own A3 ((t1.1).length) c3 (rowOf encT_sack_run t1.1) 2 81, .blk g1 [.bool a0.xmade, .int .u32 a0.xfirst, .slice A1 a0.xruns.length c1] 76, .blk g2 [.int .i64 ((t1.2).xfrom), .int .i64 ((t1.2).xto)] 81] w) (by kernel_rfl) ?_ ?_ k ?_
  · rintro a w ⟨A3, c3, ha, hw⟩
    refine we_of (E := [(0, .pointer (some ⟨g1, 0, none⟩)), (3, .pointer (some ⟨g2, 0, none⟩)), (4, .slice A3 ((t1.1).length) c3)]) (B := B) (G := G) (L := [.own A3 ((t1.1).length) c3 (rowOf encT_sack_run t1.1) 2 81, .blk g1 [.bool a0.xmade, .int .u32 a0.xfirst, .slice A1 a0.xruns.length c1] 76, .blk g2 [.int .i64 ((t1.2).xfrom), .int .i64 ((t1.2).xto)] 81]) ?_ ha hw
    have hm := ho1
    refine e_seq ?_
    refine w_seq 30 31 (by kernel_rfl) ?_
    refine w_region (by kernel_rfl) ?_
    refine o_run 3 [0, 3, 4, 47, 49] (l := [(⟨g2, 0, none⟩, .int .i64 ((t1.2).xfrom))]) (.one (at_blk (j := 2) rfl rfl) .nil) (E' := [(0, .pointer (some ⟨g1, 0, none⟩)), (3, .pointer (some ⟨g2, 0, none⟩)), (4, .slice A3 ((t1.1).length) c3), (47, .slice A3 ((t1.1).length) c3), (49, .int .i64 ((t1.2).xfrom))]) (by kernel_rfl) ?_
    refine t_env [0, 3, 4, 47, 49] (E' := [(0, .pointer (some ⟨g1, 0, none⟩)), (3, .pointer (some ⟨g2, 0, none⟩)), (4, .slice A3 ((t1.1).length) c3), (47, .slice A3 ((t1.1).length) c3), (49, .int .i64 ((t1.2).xfrom))]) (by kernel_rfl) ?_
    refine t_EL (E' := [(0, .pointer (some ⟨g1, 0, none⟩)), (3, .pointer (some ⟨g2, 0, none⟩)), (4, .slice A3 t1.1.length c3), (47, .slice A3 t1.1.length c3), (49, .int .i64 ((t1.2).xfrom))]) (L' := [.own A3 t1.1.length c3 (rowOf encT_sack_run t1.1) 2 81, .blk g1 [.bool a0.xmade, .int .u32 a0.xfirst, .slice A1 a0.xruns.length c1] 76, .blk g2 [.int .i64 ((t1.2).xfrom), .int .i64 ((t1.2).xto)] 81]) (eq_of_len rfl (fun n => ([(0, .pointer (some ⟨g1, 0, none⟩)), (3, .pointer (some ⟨g2, 0, none⟩)), (4, .slice A3 n c3), (47, .slice A3 n c3), (49, .int .i64 ((t1.2).xfrom))], [.own A3 n c3 (rowOf encT_sack_run t1.1) 2 81, .blk g1 [.bool a0.xmade, .int .u32 a0.xfirst, .slice A1 a0.xruns.length c1] 76, .blk g2 [.int .i64 ((t1.2).xfrom), .int .i64 ((t1.2).xto)] 81])) rfl rfl) ?_
    obtain ⟨t2, hx1, hm⟩ := bind_some hm
    refine o_stp ?_ (by kernel_rfl)
    refine s_call 50 51 #[.slice A3 t1.1.length c3, .int .i64 ((t1.2).xfrom), .func (.func 52) #[] #[]] [0] [1, 2] (by kernel_rfl) (by kernel_rfl) (fun w hs => slices_BinarySearchFunc_int_ok k t1.1 ((t1.2).xfrom) t2 hx1 B _ A3 c3 w (St.cast (by kernel_rfl) hs)) (fun _ hx => ?_)
    refine t_L (L' := [.own A3 t1.1.length c3 (rowOf encT_sack_run t1.1) 2 81, .blk g1 [.bool a0.xmade, .int .u32 a0.xfirst, .slice A1 a0.xruns.length c1] 76, .blk g2 [.int .i64 ((t1.2).xfrom), .int .i64 ((t1.2).xto)] 81]) (by kernel_rfl) ?_
    refine o_run 5 [0, 3, 4, 7] (l := []) .nil (E' := [(0, .pointer (some ⟨g1, 0, none⟩)), (3, .pointer (some ⟨g2, 0, none⟩)), (4, .slice A3 t1.1.length c3), (7, .int .i64 t2.1)]) (by kernel_rfl) ?_
    refine o_end (by kernel_rfl) ?_
    refine e_seq ?_
    refine w_region (by kernel_rfl) ?_
    refine o_run 4 [53, 54, 55, 56] (l := [(⟨g2, 0, none⟩, .int .i64 ((t1.2).xfrom)), (⟨g2, 1, none⟩, .int .i64 ((t1.2).xto))]) (.one (at_blk (j := 2) rfl rfl) (.one (at_blk (j := 2) rfl rfl) .nil)) (E' := [(53, .pointer (some ⟨g1, 0, none⟩)), (54, .slice A3 t1.1.length c3), (55, .int .i64 t2.1), (56, .agg #[.int .i64 ((t1.2).xfrom), .int .i64 ((t1.2).xto)])]) (by kernel_rfl) ?_
    refine o_stp ?_ (by kernel_rfl)
    refine s_new 57 (fun g3 => .slice (some ⟨g3, 0, none⟩) 1 1) [.int .i64 ((t1.2).xfrom), .int .i64 ((t1.2).xto)] 81 (fun _ => by kernel_rfl) (fun g3 => ?_)
    refine t_blk_own (m := 1) (sz := 2) (by rfl) (by rfl) ?_
    refine t_L (L' := [.own (some ⟨g3, 0, none⟩) ([(t1.2)].length) 1 (rowOf encT_sack_run [(t1.2)]) 2 81, .own A3 t1.1.length c3 (rowOf encT_sack_run t1.1) 2 81, .blk g1 [.bool a0.xmade, .int .u32 a0.xfirst, .slice A1 a0.xruns.length c1] 76, .blk g2 [.int .i64 ((t1.2).xfrom), .int .i64 ((t1.2).xto)] 81]) (by kernel_rfl) ?_
    obtain ⟨t3, hx2, hm⟩ := bind_some hm
    refine o_stp ?_ (by kernel_rfl)
    refine s_call 58 53 #[.slice A3 t1.1.length c3, .int .i64 t2.1, .slice (some ⟨g3, 0, none⟩) ([(t1.2)].length) 1] [1, 0] [2, 3] (by kernel_rfl) (by kernel_rfl) (fun w hs => slices_Insert_sack_run_ok t1.1 t2.1 [(t1.2)] t3 hx2 B _ A3 c3 (some ⟨g3, 0, none⟩) 1 w (St.cast (by kernel_rfl) hs)) (fun x hx => ?_)
    obtain ⟨A4, c4⟩ := x
    refine t_L (L' := [.own A4 t3.length c4 (rowOf encT_sack_run t3) 2 81, .own (some ⟨g3, 0, none⟩) ([(t1.2)].length) 1 (rowOf encT_sack_run [(t1.2)]) 2 81, .blk g1 [.bool a0.xmade, .int .u32 a0.xfirst, .slice A1 a0.xruns.length c1] 76, .blk g2 [.int .i64 ((t1.2).xfrom), .int .i64 ((t1.2).xto)] 81]) (by kernel_rfl) ?_
    refine o_run 2 [58, 60] (l := []) .nil (E' := [(58, .slice A4 t3.length c4), (60, .pointer (some ⟨g1, 2, none⟩))]) (by kernel_rfl) ?_
    refine o_stp ?_ (by kernel_rfl)
    refine s_store 2 g1 [.bool a0.xmade, .int .u32 a0.xfirst, .slice A1 a0.xruns.length c1] 76 [(2, .slice A4 t3.length c4)] (by kernel_rfl) (by kernel_rfl) (by kernel_rfl) ?_
    refine t_L (L' := [.own A4 t3.length c4 (rowOf encT_sack_run t3) 2 81, .own (some ⟨g3, 0, none⟩) ([(t1.2)].length) 1 (rowOf encT_sack_run [(t1.2)]) 2 81, .blk g1 [.bool a0.xmade, .int .u32 a0.xfirst, .slice A4 t3.length c4] 76, .blk g2 [.int .i64 ((t1.2).xfrom), .int .i64 ((t1.2).xto)] 81]) (by kernel_rfl) ?_
    refine o_end (by kernel_rfl) ?_
    obtain rfl := Option.some.inj hm
    exact e_endP (A4, c4) (.tuple #[]) [2, 0] (by kernel_rfl) (by kernel_rfl) rfl (by kernel_rfl) (by kernel_rfl) trivial
  · rintro k a w ⟨p1, p2, p3, A2, c2, hm, ha, hw⟩
    cases k with
    | zero => exact absurd hm (by simp [sack_Board_join.l1])
    | succ k =>
      unfold sack_Board_join.l1 at hm
      refine wc_of (E := [(0, .pointer (some ⟨g1, 0, none⟩)), (3, .pointer (some ⟨g2, 0, none⟩)), (4, .slice A2 p3.length c2), (12, .slice A1 a0.xruns.length c1), (13, .int .i64 (a0.xruns.length : Int)), (14, .int .i64 p1)]) (B := B) (G := G) (L := [.own A2 p3.length c2 (rowOf encT_sack_run p3) 2 81, .blk g1 [.bool a0.xmade, .int .u32 a0.xfirst, .slice A1 a0.xruns.length c1] 76, .blk g2 [.int .i64 p2.xfrom, .int .i64 p2.xto] 81]) ?_ ha hw
      refine w_seq 232 233 (by kernel_rfl) ?_
      refine w_region (by kernel_rfl) ?_
      refine o_run 1 [0, 3, 4, 12, 13, 14, 15] (l := []) .nil (E' := [(0, .pointer (some ⟨g1, 0, none⟩)), (3, .pointer (some ⟨g2, 0, none⟩)), (4, .slice A2 p3.length c2), (12, .slice A1 a0.xruns.length c1), (13, .int .i64 (a0.xruns.length : Int)), (14, .int .i64 p1), (15, .bool (decide (p1 < (a0.xruns.length : Int))))]) (by kernel_rfl) ?_
      refine o_end (by kernel_rfl) ?_
      refine e_seq ?_
      refine w_seq 466 467 (by kernel_rfl) ?_
      refine w_cond (.tmp 15) 932 933 (decide (p1 < (a0.xruns.length : Int))) (by kernel_rfl) (by kernel_rfl) (fun hb1 => ?_) (fun hb1 => ?_)
      · replace hm := ite_t hb1 hm
        refine w_skip (by kernel_rfl) ?_
        refine e_seq ?_
        refine w_seq 934 935 (by kernel_rfl) ?_
        refine w_block 1 1868 (by kernel_rfl) ?_
        refine w_seq 3736 3737 (by kernel_rfl) ?_
        refine w_region (by kernel_rfl) ?_
        obtain ⟨e1, hx3, hm⟩ := bind_some hm
        obtain ⟨hi1, hi2, hg1⟩ := idx_some hx3
        obtain ⟨cs1, hk1, hc1⟩ := (hs1).at hg1
        obtain rfl := hk1
        refine o_val 16 (.indexAddr 74 (.tmp 12) (.tmp 14)) (.pointer (some (adr A1 (Int.toNat p1 * 2)))) (by kernel_rfl) (v_index (k := .i64) (c := c1) (by kernel_rfl) (by kernel_rfl) (by kernel_rfl) hi1 hi2 ((hs1).some hg1)) ?_
        refine o_run 1 [0, 3, 4, 12, 13, 14, 17] (l := [((adr A1 (Int.toNat p1 * 2)), .int .i64 e1.xfrom), (((adr A1 (Int.toNat p1 * 2)).add 1), .int .i64 e1.xto)]) (.one ((at_sl hc1).sub 0 rfl) (.one ((at_sl hc1).sub 1 rfl) .nil)) (E' := [(0, .pointer (some ⟨g1, 0, none⟩)), (3, .pointer (some ⟨g2, 0, none⟩)), (4, .slice A2 p3.length c2), (12, .slice A1 a0.xruns.length c1), (13, .int .i64 (a0.xruns.length : Int)), (14, .int .i64 p1), (17, .agg #[.int .i64 e1.xfrom, .int .i64 e1.xto])]) (by kernel_rfl) ?_
        refine o_stp ?_ (by kernel_rfl)
        refine s_new 6 (fun g4 => .pointer (some ⟨g4, 0, none⟩)) [.int .i64 0, .int .i64 0] 81 (fun _ => by kernel_rfl) (fun g4 => ?_)
        refine o_stp ?_ (by kernel_rfl)
        refine s_store 0 g4 [.int .i64 0, .int .i64 0] 81 [(0, .int .i64 e1.xfrom), (1, .int .i64 e1.xto)] (by kernel_rfl) (by kernel_rfl) (by kernel_rfl) ?_
        refine t_L (L' := [.blk g4 [.int .i64 e1.xfrom, .int .i64 e1.xto] 81, .own A2 p3.length c2 (rowOf encT_sack_run p3) 2 81, .blk g1 [.bool a0.xmade, .int .u32 a0.xfirst, .slice A1 a0.xruns.length c1] 76, .blk g2 [.int .i64 p2.xfrom, .int .i64 p2.xto] 81]) (by kernel_rfl) ?_
        refine o_end (by kernel_rfl) ?_
        refine e_seq ?_
        refine w_seq 7474 7475 (by kernel_rfl) ?_
        refine w_seq 14948 14949 (by kernel_rfl) ?_
        refine w_region (by kernel_rfl) ?_
        refine o_run 6 [0, 3, 4, 6, 12, 13, 14, 23] (l := [(⟨g4, 1, none⟩, .int .i64 e1.xto), (⟨g2, 0, none⟩, .int .i64 p2.xfrom)]) (.one (at_blk (j := 0) rfl rfl) (.one (at_blk (j := 3) rfl rfl) .nil)) (E' := [(0, .pointer (some ⟨g1, 0, none⟩)), (3, .pointer (some ⟨g2, 0, none⟩)), (4, .slice A2 p3.length c2), (6, .pointer (some ⟨g4, 0, none⟩)), (12, .slice A1 a0.xruns.length c1), (13, .int .i64 (a0.xruns.length : Int)), (14, .int .i64 p1), (23, .bool (decide (e1.xto < p2.xfrom)))]) (by kernel_rfl) ?_
        refine o_split 23 (decide (e1.xto < p2.xfrom)) (by kernel_rfl) (fun hb2 => ?_) (fun hb2 => ?_)
        · replace hm := ite_t hb2 hm
          refine o_run 6 [0, 3, 4, 6, 12, 13, 14, 29] (l := []) .nil (E' := [(0, .pointer (some ⟨g1, 0, none⟩)), (3, .pointer (some ⟨g2, 0, none⟩)), (4, .slice A2 p3.length c2), (6, .pointer (some ⟨g4, 0, none⟩)), (12, .slice A1 a0.xruns.length c1), (13, .int .i64 (a0.xruns.length : Int)), (14, .int .i64 p1), (29, .bool true)]) (by kernel_rfl) ?_
          refine o_end (by kernel_rfl) ?_
          refine e_seq ?_
          refine w_cond_t (.tmp 29) 29898 29899 (by kernel_rfl) (by kernel_rfl) ?_
          refine w_seq 59796 59797 (by kernel_rfl) ?_
          refine w_region (by kernel_rfl) ?_
          refine o_run 2 [0, 3, 12, 13, 14, 30, 31] (l := [(⟨g4, 0, none⟩, .int .i64 e1.xfrom), (⟨g4, 1, none⟩, .int .i64 e1.xto)]) (.one (at_blk (j := 0) rfl rfl) (.one (at_blk (j := 0) rfl rfl) .nil)) (E' := [(0, .pointer (some ⟨g1, 0, none⟩)), (3, .pointer (some ⟨g2, 0, none⟩)), (12, .slice A1 a0.xruns.length c1), (13, .int .i64 (a0.xruns.length : Int)), (14, .int .i64 p1), (30, .slice A2 p3.length c2), (31, .agg #[.int .i64 e1.xfrom, .int .i64 e1.xto])]) (by kernel_rfl) ?_
          refine o_stp ?_ (by kernel_rfl)
          refine s_new 32 (fun g5 => .slice (some ⟨g5, 0, none⟩) 1 1) [.int .i64 e1.xfrom, .int .i64 e1.xto] 81 (fun _ => by kernel_rfl) (fun g5 => ?_)
          obtain ⟨l1, hx4, hm⟩ := bind_some hm
          refine o_stp ?_ (by kernel_rfl)
          refine s_app (z := .agg #[.int .i64 0, .int .i64 0]) (enc := encT_sack_run) (ys := [e1]) (k := 1) (bytes := 16) 33 74 74 (.tmp 30) (.tmp 32) 2 hx4 rfl rfl (by kernel_rfl) (by kernel_rfl) (by kernel_rfl) (by kernel_rfl) (by kernel_rfl) (by kernel_rfl) rfl (src_blk (e := 81) (j := 0) (by kernel_rfl) rfl (by kernel_rfl) rfl (by kernel_rfl)) (by decide) (fun A5 c5 => ?_)
          refine t_L (L' := [.blk g5 [.int .i64 e1.xfrom, .int .i64 e1.xto] 81, .blk g4 [.int .i64 e1.xfrom, .int .i64 e1.xto] 81, .own A5 l1.length c5 (rowOf encT_sack_run l1) 2 81, .blk g1 [.bool a0.xmade, .int .u32 a0.xfirst, .slice A1 a0.xruns.length c1] 76, .blk g2 [.int .i64 p2.xfrom, .int .i64 p2.xto] 81]) (by kernel_rfl) ?_
          refine o_run 1 [0, 3, 4, 12, 13, 14] (l := []) .nil (E' := [(0, .pointer (some ⟨g1, 0, none⟩)), (3, .pointer (some ⟨g2, 0, none⟩)), (4, .slice A5 l1.length c5), (12, .slice A1 a0.xruns.length c1), (13, .int .i64 (a0.xruns.length : Int)), (14, .int .i64 p1)]) (by kernel_rfl) ?_
          refine o_end (by kernel_rfl) ?_
          refine e_seq ?_
          refine w_exit 1 (by kernel_rfl) ?_
          refine e_x_seq ?_
          refine e_x_here ?_
          refine e_seq ?_
          refine w_region (by kernel_rfl) ?_
          refine o_run 2 [0, 3, 4, 12, 13, 14] (l := []) .nil (E' := [(0, .pointer (some ⟨g1, 0, none⟩)), (3, .pointer (some ⟨g2, 0, none⟩)), (4, .slice A5 l1.length c5), (12, .slice A1 a0.xruns.length c1), (13, .int .i64 (a0.xruns.length : Int)), (14, .int .i64 (I64 (p1 + 1)))]) (by kernel_rfl) ?_
          refine o_end (by kernel_rfl) ?_
          refine t_drop [2, 3, 4] (by kernel_rfl) ?_
          refine t_L (L' := [.own A5 l1.length c5 (rowOf encT_sack_run l1) 2 81, .blk g1 [.bool a0.xmade, .int .u32 a0.xfirst, .slice A1 a0.xruns.length c1] 76, .blk g2 [.int .i64 p2.xfrom, .int .i64 p2.xto] 81]) (by kernel_rfl) ?_
          refine t_env [0, 3, 4, 12, 13, 14] (E' := [(0, .pointer (some ⟨g1, 0, none⟩)), (3, .pointer (some ⟨g2, 0, none⟩)), (4, .slice A5 l1.length c5), (12, .slice A1 a0.xruns.length c1), (13, .int .i64 (a0.xruns.length : Int)), (14, .int .i64 (I64 (p1 + 1)))]) (by kernel_rfl) ?_
          exact e_inv (fun a w ha hw => ⟨k, Nat.lt_succ_self k, (I64 (p1 + 1)), p2, l1, A5, c5, hm, ha, hw⟩)
        · replace hm := ite_f hb2 hm
          refine o_run 6 [0, 3, 4, 6, 12, 13, 14, 29] (l := [(⟨g4, 0, none⟩, .int .i64 e1.xfrom), (⟨g2, 1, none⟩, .int .i64 p2.xto)]) (.one (at_blk (j := 0) rfl rfl) (.one (at_blk (j := 3) rfl rfl) .nil)) (E' := [(0, .pointer (some ⟨g1, 0, none⟩)), (3, .pointer (some ⟨g2, 0, none⟩)), (4, .slice A2 p3.length c2), (6, .pointer (some ⟨g4, 0, none⟩)), (12, .slice A1 a0.xruns.length c1), (13, .int .i64 (a0.xruns.length : Int)), (14, .int .i64 p1), (29, .bool (decide (e1.xfrom > p2.xto)))]) (by kernel_rfl) ?_
          refine o_end (by kernel_rfl) ?_
          refine e_seq ?_
          refine w_cond (.tmp 29) 29898 29899 (decide (e1.xfrom > p2.xto)) (by kernel_rfl) (by kernel_rfl) (fun hb3 => ?_) (fun hb3 => ?_)
          · replace hm := ite_t hb3 hm
            refine w_seq 59796 59797 (by kernel_rfl) ?_
            refine w_region (by kernel_rfl) ?_
            refine o_run 2 [0, 3, 12, 13, 14, 30, 31] (l := [(⟨g4, 0, none⟩, .int .i64 e1.xfrom), (⟨g4, 1, none⟩, .int .i64 e1.xto)]) (.one (at_blk (j := 0) rfl rfl) (.one (at_blk (j := 0) rfl rfl) .nil)) (E' := [(0, .pointer (some ⟨g1, 0, none⟩)), (3, .pointer (some ⟨g2, 0, none⟩)), (12, .slice A1 a0.xruns.length c1), (13, .int .i64 (a0.xruns.length : Int)), (14, .int .i64 p1), (30, .slice A2 p3.length c2), (31, .agg #[.int .i64 e1.xfrom, .int .i64 e1.xto])]) (by kernel_rfl) ?_
            refine o_stp ?_ (by kernel_rfl)
            refine s_new 32 (fun g6 => .slice (some ⟨g6, 0, none⟩) 1 1) [.int .i64 e1.xfrom, .int .i64 e1.xto] 81 (fun _ => by kernel_rfl) (fun g6 => ?_)
            obtain ⟨l2, hx5, hm⟩ := bind_some hm
            refine o_stp ?_ (by kernel_rfl)
            refine s_app (z := .agg #[.int .i64 0, .int .i64 0]) (enc := encT_sack_run) (ys := [e1]) (k := 1) (bytes := 16) 33 74 74 (.tmp 30) (.tmp 32) 2 hx5 rfl rfl (by kernel_rfl) (by kernel_rfl) (by kernel_rfl) (by kernel_rfl) (by kernel_rfl) (by kernel_rfl) rfl (src_blk (e := 81) (j := 0) (by kernel_rfl) rfl (by kernel_rfl) rfl (by kernel_rfl)) (by decide) (fun A6 c6 => ?_)
            refine t_L (L' := [.blk g6 [.int .i64 e1.xfrom, .int .i64 e1.xto] 81, .blk g4 [.int .i64 e1.xfrom, .int .i64 e1.xto] 81, .own A6 l2.length c6 (rowOf encT_sack_run l2) 2 81, .blk g1 [.bool a0.xmade, .int .u32 a0.xfirst, .slice A1 a0.xruns.length c1] 76, .blk g2 [.int .i64 p2.xfrom, .int .i64 p2.xto] 81]) (by kernel_rfl) ?_
            refine o_run 1 [0, 3, 4, 12, 13, 14] (l := []) .nil (E' := [(0, .pointer (some ⟨g1, 0, none⟩)), (3, .pointer (some ⟨g2, 0, none⟩)), (4, .slice A6 l2.length c6), (12, .slice A1 a0.xruns.length c1), (13, .int .i64 (a0.xruns.length : Int)), (14, .int .i64 p1)]) (by kernel_rfl) ?_
            refine o_end (by kernel_rfl) ?_
            refine e_seq ?_
            refine w_exit 1 (by kernel_rfl) ?_
            refine e_x_seq ?_
            refine e_x_here ?_
            refine e_seq ?_
            refine w_region (by kernel_rfl) ?_
            refine o_run 2 [0, 3, 4, 12, 13, 14] (l := []) .nil (E' := [(0, .pointer (some ⟨g1, 0, none⟩)), (3, .pointer (some ⟨g2, 0, none⟩)), (4, .slice A6 l2.length c6), (12, .slice A1 a0.xruns.length c1), (13, .int .i64 (a0.xruns.length : Int)), (14, .int .i64 (I64 (p1 + 1)))]) (by kernel_rfl) ?_
            refine o_end (by kernel_rfl) ?_
            refine t_drop [2, 3, 4] (by kernel_rfl) ?_
            refine t_L (L' := [.own A6 l2.length c6 (rowOf encT_sack_run l2) 2 81, .blk g1 [.bool a0.xmade, .int .u32 a0.xfirst, .slice A1 a0.xruns.length c1] 76, .blk g2 [.int .i64 p2.xfrom, .int .i64 p2.xto] 81]) (by kernel_rfl) ?_
            refine t_env [0, 3, 4, 12, 13, 14] (E' := [(0, .pointer (some ⟨g1, 0, none⟩)), (3, .pointer (some ⟨g2, 0, none⟩)), (4, .slice A6 l2.length c6), (12, .slice A1 a0.xruns.length c1), (13, .int .i64 (a0.xruns.length : Int)), (14, .int .i64 (I64 (p1 + 1)))]) (by kernel_rfl) ?_
            exact e_inv (fun a w ha hw => ⟨k, Nat.lt_succ_self k, (I64 (p1 + 1)), p2, l2, A6, c6, hm, ha, hw⟩)
          · replace hm := ite_f hb3 hm
            refine w_skip (by kernel_rfl) ?_
            refine e_seq ?_
            refine w_region (by kernel_rfl) ?_
            refine o_run 11 [0, 3, 4, 12, 13, 14, 44] (l := [(⟨g2, 0, none⟩, .int .i64 p2.xfrom), (⟨g4, 0, none⟩, .int .i64 e1.xfrom), (⟨g2, 1, none⟩, .int .i64 p2.xto), (⟨g4, 1, none⟩, .int .i64 e1.xto)]) (.one (at_blk (j := 3) rfl rfl) (.one (at_blk (j := 0) rfl rfl) (.one (at_blk (j := 3) rfl rfl) (.one (at_blk (j := 0) rfl rfl) .nil)))) (E' := [(0, .pointer (some ⟨g1, 0, none⟩)), (3, .pointer (some ⟨g2, 0, none⟩)), (4, .slice A2 p3.length c2), (12, .slice A1 a0.xruns.length c1), (13, .int .i64 (a0.xruns.length : Int)), (14, .int .i64 p1), (44, .agg #[.int .i64 (imin p2.xfrom e1.xfrom), .int .i64 (imax p2.xto e1.xto)])]) (by kernel_rfl) ?_
            refine o_stp ?_ (by kernel_rfl)
            refine s_store 3 g2 [.int .i64 p2.xfrom, .int .i64 p2.xto] 81 [(0, .int .i64 (imin p2.xfrom e1.xfrom)), (1, .int .i64 (imax p2.xto e1.xto))] (by kernel_rfl) (by kernel_rfl) (by kernel_rfl) ?_
            refine t_L (L' := [.blk g4 [.int .i64 e1.xfrom, .int .i64 e1.xto] 81, .own A2 p3.length c2 (rowOf encT_sack_run p3) 2 81, .blk g1 [.bool a0.xmade, .int .u32 a0.xfirst, .slice A1 a0.xruns.length c1] 76, .blk g2 [.int .i64 (imin p2.xfrom e1.xfrom), .int .i64 (imax p2.xto e1.xto)] 81]) (by kernel_rfl) ?_
            refine o_end (by kernel_rfl) ?_
            refine e_blk ?_
            refine e_seq ?_
            refine w_region (by kernel_rfl) ?_
            refine o_run 2 [0, 3, 4, 12, 13, 14] (l := []) .nil (E' := [(0, .pointer (some ⟨g1, 0, none⟩)), (3, .pointer (some ⟨g2, 0, none⟩)), (4, .slice A2 p3.length c2), (12, .slice A1 a0.xruns.length c1), (13, .int .i64 (a0.xruns.length : Int)), (14, .int .i64 (I64 (p1 + 1)))]) (by kernel_rfl) ?_
            refine o_end (by kernel_rfl) ?_
            refine t_drop [1, 2, 3] (by kernel_rfl) ?_
            refine t_L (L' := [.own A2 p3.length c2 (rowOf encT_sack_run p3) 2 81, .blk g1 [.bool a0.xmade, .int .u32 a0.xfirst, .slice A1 a0.xruns.length c1] 76, .blk g2 [.int .i64 (imin p2.xfrom e1.xfrom), .int .i64 (imax p2.xto e1.xto)] 81]) (by kernel_rfl) ?_
            refine t_env [0, 3, 4, 12, 13, 14] (E' := [(0, .pointer (some ⟨g1, 0, none⟩)), (3, .pointer (some ⟨g2, 0, none⟩)), (4, .slice A2 p3.length c2), (12, .slice A1 a0.xruns.length c1), (13, .int .i64 (a0.xruns.length : Int)), (14, .int .i64 (I64 (p1 + 1)))]) (by kernel_rfl) ?_
            exact e_inv (fun a w ha hw => ⟨k, Nat.lt_succ_self k, (I64 (p1 + 1)), (⟨imin p2.xfrom e1.xfrom, imax p2.xto e1.xto⟩ : T_sack_run), p3, A2, c2, hm, ha, hw⟩)
      · replace hm := ite_f hb1 hm
        refine w_exit 0 (by kernel_rfl) ?_
        refine e_x_seq ?_
        refine e_x_inv ?_
        refine e_x_here ?_
        refine t_drop [0, 1, 2] (by kernel_rfl) ?_
        refine t_L (L' := [.own A2 p3.length c2 (rowOf encT_sack_run p3) 2 81, .blk g1 [.bool a0.xmade, .int .u32 a0.xfirst, .slice A1 a0.xruns.length c1] 76, .blk g2 [.int .i64 p2.xfrom, .int .i64 p2.xto] 81]) (by kernel_rfl) ?_
        refine t_env [0, 3, 4] (E' := [(0, .pointer (some ⟨g1, 0, none⟩)), (3, .pointer (some ⟨g2, 0, none⟩)), (4, .slice A2 p3.length c2)]) (by kernel_rfl) ?_
        obtain rfl := Option.some.inj hm
        exact e_inv (fun a w ha hw => ⟨A2, c2, ha, hw⟩)
  · exact fun a w ha hw => ⟨0, a1, ([] : List T_sack_run), none, 0, ht1, ha, hw⟩
def sack_Board_Add.l1 : Nat → (List T_api_Block) → Int → Int → T_sack_Board → Option (T_sack_Board)
  | 0, _, _, _, _ => none
  | k + 1, a2, t3, p1, p2 => (if decide (p1 < (a2.length : Int)) then ((idx a2 p1).bind fun e1 => ((sack_Board_ahead.f p2 e1.xLeft).bind fun t6 => ((sack_Board_ahead.f p2 e1.xRight).bind fun t7 => (if decide (t3 ≤ 65536) then (if decide (t7 ≤ t3) then (if decide (t6 < t7) then ((sack_Board_join.f k p2 (⟨t6, t7⟩ : T_sack_run)).bind fun t8 => (sack_Board_Add.l1 k a2 t3 (I64 (p1 + 1)) t8)) else (sack_Board_Add.l1 k a2 t3 (I64 (p1 + 1)) p2)) else (sack_Board_Add.l1 k a2 t3 (I64 (p1 + 1)) p2)) else (sack_Board_Add.l1 k a2 t3 (I64 (p1 + 1)) p2))))) else (some p2))
def sack_Board_Add.f (k : Nat) (a0 : T_sack_Board) (a1 : Int) (a2 : List T_api_Block) : Option (Int × T_sack_Board) :=
  ((sack_Board_ok.f a0).bind fun t1 => (if !t1 then (some (0, a0)) else ((sack_Board_Bytes.f k a0).bind fun t2 => ((sack_Board_ahead.f a0 a1).bind fun t3 => ((sack_Board_Add.l1 k a2 t3 0 a0).bind fun t4 => ((sack_Board_Bytes.f k (t4)).bind fun t5 => (some (I64 (t5 - t2), (t4)))))))))
theorem sack_Board_Add_ok (k : Nat) (a0 : T_sack_Board) (a1 : Int) (a2 : List T_api_Block) (r : Int × T_sack_Board) (hm : sack_Board_Add.f k a0 a1 a2 = some r) (B G : Asn) (g1 : Nat) (A1 : Option Addr) (c1 : Nat) (A2 : Option Addr) (c2 : Nat) (hs1 : Sl kT_sack_run B A1 c1 a0.xruns) (hs2 : Sl kT_api_Block B A2 c2 a2) (w : World) (hs : St B G [.blk g1 [.bool a0.xmade, .int .u32 a0.xfirst, .slice A1 a0.xruns.length c1] 76] w) :
    Calls Try.prog 30 #[.pointer (some ⟨g1, 0, none⟩), .int .u32 a1, .slice A2 a2.length c2] w (Post (X := Asn × (Option Addr) × Nat) (fun x => .int .i64 r.1) (fun x => x.1) G (fun x => [.blk g1 [.bool r.2.xmade, .int .u32 r.2.xfirst, .slice x.2.1 r.2.xruns.length x.2.2] 76]) (fun x => (Ext B x.1) ∧ (Sl kT_sack_run x.1 x.2.1 x.2.2 r.2.xruns))) := by
  unfold sack_Board_Add.f at hm
  refine calls_W (F := Try.f30) Try.func30 rfl (by kernel_rfl) (L := [.blk g1 [.bool a0.xmade, .int .u32 a0.xfirst, .slice A1 a0.xruns.length c1] 76]) ?_ hs
  refine w_seq 2 3 (by kernel_rfl) ?_
  refine w_region (by kernel_rfl) ?_
  refine o_run 1 [0, 1, 2] (l := []) .nil (E' := [(0, .pointer (some ⟨g1, 0, none⟩)), (1, .int .u32 a1), (2, .slice A2 a2.length c2)]) (by kernel_rfl) ?_
  refine o_end (by kernel_rfl) ?_
  refine e_seq ?_
  refine w_seq 6 7 (by kernel_rfl) ?_
  refine w_seq 12 13 (by kernel_rfl) ?_
  refine w_region (by kernel_rfl) ?_
  refine o_run 1 [0, 1, 2, 12] (l := []) .nil (E' := [(0, .pointer (some ⟨g1, 0, none⟩)), (1, .int .u32 a1), (2, .slice A2 a2.length c2), (12, .pointer (some ⟨g1, 0, none⟩))]) (by kernel_rfl) ?_
  obtain ⟨t1, hx1, hm⟩ := bind_some hm
  refine o_stp ?_ (by kernel_rfl)
  refine s_call 13 43 #[.pointer (some ⟨g1, 0, none⟩)] [0] [] (by kernel_rfl) (by kernel_rfl) (fun w hs => sack_Board_ok_ok a0 t1 hx1 B _ g1 A1 c1 hs1 w (St.cast (by kernel_rfl) hs)) (fun _ hx => ?_)
  refine t_L (L' := [.blk g1 [.bool a0.xmade, .int .u32 a0.xfirst, .slice A1 a0.xruns.length c1] 76]) (by kernel_rfl) ?_
  refine o_run 1 [0, 1, 2, 14] (l := []) .nil (E' := [(0, .pointer (some ⟨g1, 0, none⟩)), (1, .int .u32 a1), (2, .slice A2 a2.length c2), (14, .bool (!t1))]) (by kernel_rfl) ?_
  refine o_end (by kernel_rfl) ?_
  refine e_seq ?_
  refine w_cond (.tmp 14) 26 27 (!t1) (by kernel_rfl) (by kernel_rfl) (fun hb1 => ?_) (fun hb1 => ?_)
  · replace hm := ite_t hb1 hm
    refine w_seq 52 53 (by kernel_rfl) ?_
    refine w_region (by kernel_rfl) ?_
    refine o_run 1 [6] (l := []) .nil (E' := [(6, .int .i64 0)]) (by kernel_rfl) ?_
    refine o_end (by kernel_rfl) ?_
    refine e_seq ?_
    refine w_ret (by kernel_rfl) ?_
    obtain rfl := Option.some.inj hm
    exact e_retP (B, A1, c1) (.int .i64 0) [0] (by kernel_rfl) (by kernel_rfl) rfl (by kernel_rfl) (by kernel_rfl) ⟨(Ext.refl _), hs1⟩
  · replace hm := ite_f hb1 hm
    refine w_skip (by kernel_rfl) ?_
    refine e_seq ?_
    refine w_seq 14 15 (by kernel_rfl) ?_
    refine w_region (by kernel_rfl) ?_
    refine o_run 1 [0, 1, 2, 15] (l := []) .nil (E' := [(0, .pointer (some ⟨g1, 0, none⟩)), (1, .int .u32 a1), (2, .slice A2 a2.length c2), (15, .pointer (some ⟨g1, 0, none⟩))]) (by kernel_rfl) ?_
    obtain ⟨t2, hx2, hm⟩ := bind_some hm
    refine o_stp ?_ (by kernel_rfl)
    refine s_call 16 35 #[.pointer (some ⟨g1, 0, none⟩)] [0] [] (by kernel_rfl) (by kernel_rfl) (fun w hs => sack_Board_Bytes_ok k a0 t2 hx2 B _ g1 A1 c1 hs1 w (St.cast (by kernel_rfl) hs)) (fun _ hx => ?_)
    refine t_L (L' := [.blk g1 [.bool a0.xmade, .int .u32 a0.xfirst, .slice A1 a0.xruns.length c1] 76]) (by kernel_rfl) ?_
    refine o_run 1 [0, 1, 2, 7] (l := []) .nil (E' := [(0, .pointer (some ⟨g1, 0, none⟩)), (1, .int .u32 a1), (2, .slice A2 a2.length c2), (7, .int .i64 t2)]) (by kernel_rfl) ?_
    refine o_end (by kernel_rfl) ?_
    refine e_seq ?_
    refine w_seq 30 31 (by kernel_rfl) ?_
    refine w_region (by kernel_rfl) ?_
    refine o_run 2 [0, 2, 7, 17, 18] (l := []) .nil (E' := [(0, .pointer (some ⟨g1, 0, none⟩)), (2, .slice A2 a2.length c2), (7, .int .i64 t2), (17, .pointer (some ⟨g1, 0, none⟩)), (18, .int .u32 a1)]) (by kernel_rfl) ?_
    obtain ⟨t3, hx3, hm⟩ := bind_some hm
    refine o_stp ?_ (by kernel_rfl)
    refine s_call 19 44 #[.pointer (some ⟨g1, 0, none⟩), .int .u32 a1] [0] [] (by kernel_rfl) (by kernel_rfl) (fun w hs => sack_Board_ahead_ok a0 a1 t3 hx3 B _ g1 A1 c1 hs1 w (St.cast (by kernel_rfl) hs)) (fun _ hx => ?_)
    refine t_L (L' := [.blk g1 [.bool a0.xmade, .int .u32 a0.xfirst, .slice A1 a0.xruns.length c1] 76]) (by kernel_rfl) ?_
    refine o_run 1 [0, 2, 7, 8] (l := []) .nil (E' := [(0, .pointer (some ⟨g1, 0, none⟩)), (2, .slice A2 a2.length c2), (7, .int .i64 t2), (8, .int .i64 t3)]) (by kernel_rfl) ?_
    refine o_end (by kernel_rfl) ?_
    refine e_seq ?_
    refine w_seq 62 63 (by kernel_rfl) ?_
    refine w_seq 124 125 (by kernel_rfl) ?_
    refine w_region (by kernel_rfl) ?_
    refine o_run 3 [0, 7, 8, 20, 21, 22] (l := []) .nil (E' := [(0, .pointer (some ⟨g1, 0, none⟩)), (7, .int .i64 t2), (8, .int .i64 t3), (20, .slice A2 a2.length c2), (21, .int .i64 (a2.length : Int)), (22, .int .i64 0)]) (by kernel_rfl) ?_
    refine o_end (by kernel_rfl) ?_
    refine e_seq ?_
    refine w_block 0 250 (by kernel_rfl) ?_
    obtain ⟨t4, ht1, ho1⟩ := bind_some hm
    refine t_env [0, 7, 8, 20, 21, 22] (E' := [(0, .pointer (some ⟨g1, 0, none⟩)), (7, .int .i64 t2), (8, .int .i64 t3), (20, .slice A2 a2.length c2), (21, .int .i64 (a2.length : Int)), (22, .int .i64 0)]) (by kernel_rfl) ?_
    refine w_loopJ 500 0 (fun k a w => ∃ (p1 : Int) (p2 : T_sack_Board) (B1 : Asn) (A3 : Option Addr) (c3 : Nat), sack_Board_Add.l1 k a2 t3 p1 p2 = some t4 ∧ Ext B B1 ∧ Sl kT_sack_run B1 A3 c3 p2.xruns ∧ EnvOk [(0, .pointer (some ⟨g1, 0, none⟩)), (7, .int .i64 t2), (8, .int .i64 t3), (20, .slice A2 a2.length c2), (21, .int .i64 (a2.length : Int)), (22, .int .i64 p1)] Try.f30.ntmps a ∧ St B1 G [.blk g1 [.bool p2.xmade, .int .u32 p2.xfirst, .slice A3 p2.xruns.length c3] 76] w) (fun a w => ∃ (B2 : Asn) (A4 : Option Addr) (c4 : Nat), Ext B B2 ∧ Sl kT_sack_run B2 A4 c4 ((t4).xruns) ∧ EnvOk [(0, .pointer (some ⟨g1, 0, none⟩)), (7, .int .i64 t2)] Try.f30.ntmps a ∧ St B2 G [.blk g1 [.bool ((t4).xmade), .int .u32 ((t4).xfirst), .slice A4 ((t4).xruns).length c4] 76] w) (by kernel_rfl) ?_ ?_ k ?_
    · rintro a w ⟨B2, A4, c4, hx5, hs4, ha, hw⟩
      refine we_of (E := [(0, .pointer (some ⟨g1, 0, none⟩)), (7, .int .i64 t2)]) (B := B2) (G := G) (L := [.blk g1 [.bool ((t4).xmade), .int .u32 ((t4).xfirst), .slice A4 ((t4).xruns).length c4] 76]) ?_ ha hw
      have hm := ho1
      refine e_seq ?_
      refine w_seq 126 127 (by kernel_rfl) ?_
      refine w_region (by kernel_rfl) ?_
      refine o_run 1 [7, 54] (l := []) .nil (E' := [(7, .int .i64 t2), (54, .pointer (some ⟨g1, 0, none⟩))]) (by kernel_rfl) ?_
      obtain ⟨t5, hx6, hm⟩ := bind_some hm
      refine o_stp ?_ (by kernel_rfl)
      refine s_call 55 35 #[.pointer (some ⟨g1, 0, none⟩)] [0] [] (by kernel_rfl) (by kernel_rfl) (fun w hs => sack_Board_Bytes_ok k (t4) t5 hx6 B2 _ g1 A4 c4 hs4 w (St.cast (by kernel_rfl) hs)) (fun _ hx => ?_)
      refine t_L (L' := [.blk g1 [.bool ((t4).xmade), .int .u32 ((t4).xfirst), .slice A4 ((t4).xruns).length c4] 76]) (by kernel_rfl) ?_
      refine o_run 3 [6] (l := []) .nil (E' := [(6, .int .i64 (I64 (t5 - t2)))]) (by kernel_rfl) ?_
      refine o_end (by kernel_rfl) ?_
      refine e_seq ?_
      refine w_ret (by kernel_rfl) ?_
      obtain rfl := Option.some.inj hm
      exact e_retP (B2, A4, c4) (.int .i64 (I64 (t5 - t2))) [0] (by kernel_rfl) (by kernel_rfl) rfl (by kernel_rfl) (by kernel_rfl) ⟨hx5, hs4⟩
    · rintro k a w ⟨p1, p2, B1, A3, c3, hm, hx4, hs3, ha, hw⟩
      cases k with
      | zero => exact absurd hm (by simp [sack_Board_Add.l1])
      | succ k =>
        unfold sack_Board_Add.l1 at hm
        refine wc_of (E := [(0, .pointer (some ⟨g1, 0, none⟩)), (7, .int .i64 t2), (8, .int .i64 t3), (20, .slice A2 a2.length c2), (21, .int .i64 (a2.length : Int)), (22, .int .i64 p1)]) (B := B1) (G := G) (L := [.blk g1 [.bool p2.xmade, .int .u32 p2.xfirst, .slice A3 p2.xruns.length c3] 76]) ?_ ha hw
        refine w_seq 1000 1001 (by kernel_rfl) ?_
        refine w_region (by kernel_rfl) ?_
        refine o_run 1 [0, 7, 8, 20, 21, 22, 23] (l := []) .nil (E' := [(0, .pointer (some ⟨g1, 0, none⟩)), (7, .int .i64 t2), (8, .int .i64 t3), (20, .slice A2 a2.length c2), (21, .int .i64 (a2.length : Int)), (22, .int .i64 p1), (23, .bool (decide (p1 < (a2.length : Int))))]) (by kernel_rfl) ?_
        refine o_end (by kernel_rfl) ?_
        refine e_seq ?_
        refine w_seq 2002 2003 (by kernel_rfl) ?_
        refine w_cond (.tmp 23) 4004 4005 (decide (p1 < (a2.length : Int))) (by kernel_rfl) (by kernel_rfl) (fun hb2 => ?_) (fun hb2 => ?_)
        · replace hm := ite_t hb2 hm
          refine w_skip (by kernel_rfl) ?_
          refine e_seq ?_
          refine w_seq 4006 4007 (by kernel_rfl) ?_
          refine w_block 1 8012 (by kernel_rfl) ?_
          refine w_seq 16024 16025 (by kernel_rfl) ?_
          refine w_region (by kernel_rfl) ?_
          obtain ⟨e1, hx7, hm⟩ := bind_some hm
          obtain ⟨hi1, hi2, hg1⟩ := idx_some hx7
          obtain ⟨cs1, hk1, hc1⟩ := ((hs2.up hx4)).at hg1
          obtain rfl := hk1
          refine o_val 24 (.indexAddr 46 (.tmp 20) (.tmp 22)) (.pointer (some (adr A2 (Int.toNat p1 * 2)))) (by kernel_rfl) (v_index (k := .i64) (c := c2) (by kernel_rfl) (by kernel_rfl) (by kernel_rfl) hi1 hi2 (((hs2.up hx4)).some hg1)) ?_
          refine o_run 1 [0, 7, 8, 20, 21, 22, 25] (l := [((adr A2 (Int.toNat p1 * 2)), .int .u32 e1.xLeft), (((adr A2 (Int.toNat p1 * 2)).add 1), .int .u32 e1.xRight)]) (.one ((at_sl hc1).sub 0 rfl) (.one ((at_sl hc1).sub 1 rfl) .nil)) (E' := [(0, .pointer (some ⟨g1, 0, none⟩)), (7, .int .i64 t2), (8, .int .i64 t3), (20, .slice A2 a2.length c2), (21, .int .i64 (a2.length : Int)), (22, .int .i64 p1), (25, .agg #[.int .u32 e1.xLeft, .int .u32 e1.xRight])]) (by kernel_rfl) ?_
          refine o_stp ?_ (by kernel_rfl)
          refine s_new 10 (fun g2 => .pointer (some ⟨g2, 0, none⟩)) [.int .u32 0, .int .u32 0] 57 (fun _ => by kernel_rfl) (fun g2 => ?_)
          refine o_stp ?_ (by kernel_rfl)
          refine s_store 0 g2 [.int .u32 0, .int .u32 0] 57 [(0, .int .u32 e1.xLeft), (1, .int .u32 e1.xRight)] (by kernel_rfl) (by kernel_rfl) (by kernel_rfl) ?_
          refine t_L (L' := [.blk g2 [.int .u32 e1.xLeft, .int .u32 e1.xRight] 57, .blk g1 [.bool p2.xmade, .int .u32 p2.xfirst, .slice A3 p2.xruns.length c3] 76]) (by kernel_rfl) ?_
          refine o_end (by kernel_rfl) ?_
          refine e_seq ?_
          refine w_seq 32050 32051 (by kernel_rfl) ?_
          obtain ⟨t6, hx8, hm⟩ := bind_some hm
          obtain ⟨t7, hx9, hm⟩ := bind_some hm
          refine w_tail 10 [.blk g2 [.int .u32 e1.xLeft, .int .u32 e1.xRight] 57, .blk g1 [.bool p2.xmade, .int .u32 p2.xfirst, .slice A3 p2.xruns.length c3] 76] (by kernel_rfl) mixed (by kernel_rfl) ?_
          refine tt_run [0, 1, 2, 4, 5, 6] [0, 7, 8, 20, 21, 22, 26, 28, 30, 32] [0, 1] 4 (listed' := #[true, true, true, false, true, true, true, false, false, false, false]) (l := [(⟨g2, 0, none⟩, .int .u32 e1.xLeft), (⟨g2, 1, none⟩, .int .u32 e1.xRight)]) (.one (at_blk (j := 0) rfl rfl) (.one (at_blk (j := 0) rfl rfl) .nil)) (E' := [(0, .pointer (some ⟨g1, 0, none⟩)), (7, .int .i64 t2), (8, .int .i64 t3), (20, .slice A2 a2.length c2), (21, .int .i64 (a2.length : Int)), (22, .int .i64 p1), (26, .pointer (some ⟨g1, 0, none⟩)), (28, .int .u32 e1.xLeft), (30, .pointer (some ⟨g1, 0, none⟩)), (32, .int .u32 e1.xRight)]) (by kernel_rfl) (by kernel_rfl) (by kernel_rfl) (Ext.refl _) (by kernel_rfl) (by kernel_rfl) ?_
          refine tt_call 3 29 44 #[.pointer (some ⟨g1, 0, none⟩), .int .u32 e1.xLeft] (.int .i64 t6) [1] [0, 1] (by kernel_rfl) (by kernel_rfl) (by kernel_rfl) (fun B' hx' G' w hs => post_same (sack_Board_ahead_ok p2 e1.xLeft t6 hx8 _ _ g1 A3 c3 (hs3.up hx') w (St.cast (by kernel_rfl) hs))) (by kernel_rfl) (Ext.refl _) (by kernel_rfl) (by kernel_rfl) ?_
          refine tt_call 7 33 44 #[.pointer (some ⟨g1, 0, none⟩), .int .u32 e1.xRight] (.int .i64 t7) [1] [0, 1] (by kernel_rfl) (by kernel_rfl) (by kernel_rfl) (fun B' hx' G' w hs => post_same (sack_Board_ahead_ok p2 e1.xRight t7 hx9 _ _ g1 A3 c3 (hs3.up hx') w (St.cast (by kernel_rfl) hs))) (by kernel_rfl) (Ext.refl _) (by kernel_rfl) (by kernel_rfl) ?_
          refine tt_run [8] [0, 7, 8, 20, 21, 22, 34] [0, 1] 1 (listed' := #[true, true, true, true, true, true, true, true, true, false, false]) (l := []) .nil (E' := [(0, .pointer (some ⟨g1, 0, none⟩)), (7, .int .i64 t2), (8, .int .i64 t3), (20, .slice A2 a2.length c2), (21, .int .i64 (a2.length : Int)), (22, .int .i64 p1), (34, .agg #[.int .i64 t6, .int .i64 t7])]) (by kernel_rfl) (by kernel_rfl) (by kernel_rfl) (Ext.refl _) (by kernel_rfl) (by kernel_rfl) ?_
          refine tt_stp 9 [0, 1] (Ext.refl _) (by kernel_rfl) (by kernel_rfl) (by kernel_rfl) (by kernel_rfl) ?_
          refine s_new 11 (fun g4 => .pointer (some ⟨g4, 0, none⟩)) [.int .i64 0, .int .i64 0] 81 (fun _ => by kernel_rfl) (fun g4 => ?_)
          refine tt_end [1, 2] (Ext.refl _) (by kernel_rfl) (by kernel_rfl) (by kernel_rfl) ?_
          refine o_stp ?_ (by kernel_rfl)
          refine s_store 0 g4 [.int .i64 0, .int .i64 0] 81 [(0, .int .i64 t6), (1, .int .i64 t7)] (by kernel_rfl) (by kernel_rfl) (by kernel_rfl) ?_
          refine t_L (L' := [.blk g4 [.int .i64 t6, .int .i64 t7] 81, .blk g2 [.int .u32 e1.xLeft, .int .u32 e1.xRight] 57, .blk g1 [.bool p2.xmade, .int .u32 p2.xfirst, .slice A3 p2.xruns.length c3] 76]) (by kernel_rfl) ?_
          refine o_end (by kernel_rfl) ?_
          refine e_seq ?_
          refine w_seq 64102 64103 (by kernel_rfl) ?_
          refine w_region (by kernel_rfl) ?_
          refine o_run 3 [0, 7, 8, 11, 20, 21, 22, 37] (l := []) .nil (E' := [(0, .pointer (some ⟨g1, 0, none⟩)), (7, .int .i64 t2), (8, .int .i64 t3), (11, .pointer (some ⟨g4, 0, none⟩)), (20, .slice A2 a2.length c2), (21, .int .i64 (a2.length : Int)), (22, .int .i64 p1), (37, .bool (decide (t3 ≤ 65536)))]) (by kernel_rfl) ?_
          refine o_split 37 (decide (t3 ≤ 65536)) (by kernel_rfl) (fun hb3 => ?_) (fun hb3 => ?_)
          · replace hm := ite_t hb3 hm
            refine o_run 6 [0, 7, 8, 11, 20, 21, 22, 43] (l := [(⟨g4, 1, none⟩, .int .i64 t7)]) (.one (at_blk (j := 0) rfl rfl) .nil) (E' := [(0, .pointer (some ⟨g1, 0, none⟩)), (7, .int .i64 t2), (8, .int .i64 t3), (11, .pointer (some ⟨g4, 0, none⟩)), (20, .slice A2 a2.length c2), (21, .int .i64 (a2.length : Int)), (22, .int .i64 p1), (43, .bool (decide (t7 ≤ t3)))]) (by kernel_rfl) ?_
            refine o_split 43 (decide (t7 ≤ t3)) (by kernel_rfl) (fun hb4 => ?_) (fun hb4 => ?_)
            · replace hm := ite_t hb4 hm
              refine o_run 6 [0, 7, 8, 11, 20, 21, 22, 49] (l := [(⟨g4, 0, none⟩, .int .i64 t6), (⟨g4, 1, none⟩, .int .i64 t7)]) (.one (at_blk (j := 0) rfl rfl) (.one (at_blk (j := 0) rfl rfl) .nil)) (E' := [(0, .pointer (some ⟨g1, 0, none⟩)), (7, .int .i64 t2), (8, .int .i64 t3), (11, .pointer (some ⟨g4, 0, none⟩)), (20, .slice A2 a2.length c2), (21, .int .i64 (a2.length : Int)), (22, .int .i64 p1), (49, .bool (decide (t6 < t7)))]) (by kernel_rfl) ?_
              refine o_end (by kernel_rfl) ?_
              refine e_seq ?_
              refine w_cond (.tmp 49) 128206 128207 (decide (t6 < t7)) (by kernel_rfl) (by kernel_rfl) (fun hb5 => ?_) (fun hb5 => ?_)
              · replace hm := ite_t hb5 hm
                refine w_region (by kernel_rfl) ?_
                refine o_run 2 [0, 7, 8, 20, 21, 22, 50, 51] (l := [(⟨g4, 0, none⟩, .int .i64 t6), (⟨g4, 1, none⟩, .int .i64 t7)]) (.one (at_blk (j := 0) rfl rfl) (.one (at_blk (j := 0) rfl rfl) .nil)) (E' := [(0, .pointer (some ⟨g1, 0, none⟩)), (7, .int .i64 t2), (8, .int .i64 t3), (20, .slice A2 a2.length c2), (21, .int .i64 (a2.length : Int)), (22, .int .i64 p1), (50, .pointer (some ⟨g1, 0, none⟩)), (51, .agg #[.int .i64 t6, .int .i64 t7])]) (by kernel_rfl) ?_
                obtain ⟨t8, hx10, hm⟩ := bind_some hm
                refine o_stp ?_ (by kernel_rfl)
                refine s_call 52 47 #[.pointer (some ⟨g1, 0, none⟩), .agg #[.int .i64 t6, .int .i64 t7]] [2] [0, 1] (by kernel_rfl) (by kernel_rfl) (fun w hs => sack_Board_join_ok k p2 (⟨t6, t7⟩ : T_sack_run) t8 hx10 B1 _ g1 A3 c3 hs3 w (St.cast (by kernel_rfl) hs)) (fun x hx => ?_)
                obtain ⟨A5, c5⟩ := x
                refine t_L (L' := [.blk g1 [.bool t8.xmade, .int .u32 t8.xfirst, .slice A5 t8.xruns.length c5] 76, .own A5 t8.xruns.length c5 (rowOf encT_sack_run t8.xruns) 2 81, .blk g4 [.int .i64 t6, .int .i64 t7] 81, .blk g2 [.int .u32 e1.xLeft, .int .u32 e1.xRight] 57]) (by kernel_rfl) ?_
                refine o_end (by kernel_rfl) ?_
                refine e_blk ?_
                refine e_seq ?_
                refine w_region (by kernel_rfl) ?_
                refine o_run 2 [0, 7, 8, 20, 21, 22] (l := []) .nil (E' := [(0, .pointer (some ⟨g1, 0, none⟩)), (7, .int .i64 t2), (8, .int .i64 t3), (20, .slice A2 a2.length c2), (21, .int .i64 (a2.length : Int)), (22, .int .i64 (I64 (p1 + 1)))]) (by kernel_rfl) ?_
                refine o_end (by kernel_rfl) ?_
                refine t_drop [1, 0, 2, 3] (by kernel_rfl) ?_
                refine t_L (L' := [.own A5 t8.xruns.length c5 (rowOf encT_sack_run t8.xruns) 2 81, .blk g1 [.bool t8.xmade, .int .u32 t8.xfirst, .slice A5 t8.xruns.length c5] 76, .blk g4 [.int .i64 t6, .int .i64 t7] 81, .blk g2 [.int .u32 e1.xLeft, .int .u32 e1.xRight] 57]) (by kernel_rfl) ?_
                refine t_frozS kT_sack_run rfl rfl (fun B3 hx11 hs5 => ?_)
                refine t_drop [0] (by kernel_rfl) ?_
                refine t_L (L' := [.blk g1 [.bool t8.xmade, .int .u32 t8.xfirst, .slice A5 t8.xruns.length c5] 76]) (by kernel_rfl) ?_
                refine t_env [0, 7, 8, 20, 21, 22] (E' := [(0, .pointer (some ⟨g1, 0, none⟩)), (7, .int .i64 t2), (8, .int .i64 t3), (20, .slice A2 a2.length c2), (21, .int .i64 (a2.length : Int)), (22, .int .i64 (I64 (p1 + 1)))]) (by kernel_rfl) ?_
                exact e_inv (fun a w ha hw => ⟨k, Nat.lt_succ_self k, (I64 (p1 + 1)), t8, B3, A5, c5, hm, (Ext.trans hx4 hx11), hs5, ha, hw⟩)
              · replace hm := ite_f hb5 hm
                refine w_skip (by kernel_rfl) ?_
                refine e_blk ?_
                refine e_seq ?_
                refine w_region (by kernel_rfl) ?_
                refine o_run 2 [0, 7, 8, 20, 21, 22] (l := []) .nil (E' := [(0, .pointer (some ⟨g1, 0, none⟩)), (7, .int .i64 t2), (8, .int .i64 t3), (20, .slice A2 a2.length c2), (21, .int .i64 (a2.length : Int)), (22, .int .i64 (I64 (p1 + 1)))]) (by kernel_rfl) ?_
                refine o_end (by kernel_rfl) ?_
                refine t_drop [2] (by kernel_rfl) ?_
                refine t_L (L' := [.blk g1 [.bool p2.xmade, .int .u32 p2.xfirst, .slice A3 p2.xruns.length c3] 76]) (by kernel_rfl) ?_
                refine t_env [0, 7, 8, 20, 21, 22] (E' := [(0, .pointer (some ⟨g1, 0, none⟩)), (7, .int .i64 t2), (8, .int .i64 t3), (20, .slice A2 a2.length c2), (21, .int .i64 (a2.length : Int)), (22, .int .i64 (I64 (p1 + 1)))]) (by kernel_rfl) ?_
                exact e_inv (fun a w ha hw => ⟨k, Nat.lt_succ_self k, (I64 (p1 + 1)), p2, B1, A3, c3, hm, hx4, hs3, ha, hw⟩)
            · replace hm := ite_f hb4 hm
              refine o_run 6 [0, 7, 8, 11, 20, 21, 22, 49] (l := []) .nil (E' := [(0, .pointer (some ⟨g1, 0, none⟩)), (7, .int .i64 t2), (8, .int .i64 t3), (11, .pointer (some ⟨g4, 0, none⟩)), (20, .slice A2 a2.length c2), (21, .int .i64 (a2.length : Int)), (22, .int .i64 p1), (49, .bool false)]) (by kernel_rfl) ?_
              refine o_end (by kernel_rfl) ?_
              refine e_seq ?_
              refine w_cond_f (.tmp 49) 128206 128207 (by kernel_rfl) (by kernel_rfl) ?_
              refine w_skip (by kernel_rfl) ?_
              refine e_blk ?_
              refine e_seq ?_
              refine w_region (by kernel_rfl) ?_
              refine o_run 2 [0, 7, 8, 20, 21, 22] (l := []) .nil (E' := [(0, .pointer (some ⟨g1, 0, none⟩)), (7, .int .i64 t2), (8, .int .i64 t3), (20, .slice A2 a2.length c2), (21, .int .i64 (a2.length : Int)), (22, .int .i64 (I64 (p1 + 1)))]) (by kernel_rfl) ?_
              refine o_end (by kernel_rfl) ?_
              refine t_drop [2] (by kernel_rfl) ?_
              refine t_L (L' := [.blk g1 [.bool p2.xmade, .int .u32 p2.xfirst, .slice A3 p2.xruns.length c3] 76]) (by kernel_rfl) ?_
              refine t_env [0, 7, 8, 20, 21, 22] (E' := [(0, .pointer (some ⟨g1, 0, none⟩)), (7, .int .i64 t2), (8, .int .i64 t3), (20, .slice A2 a2.length c2), (21, .int .i64 (a2.length : Int)), (22, .int .i64 (I64 (p1 + 1)))]) (by kernel_rfl) ?_
              exact e_inv (fun a w ha hw => ⟨k, Nat.lt_succ_self k, (I64 (p1 + 1)), p2, B1, A3, c3, hm, hx4, hs3, ha, hw⟩)
          · replace hm := ite_f hb3 hm
            refine o_run 12 [0, 7, 8, 11, 20, 21, 22, 49] (l := []) .nil (E' := [(0, .pointer (some ⟨g1, 0, none⟩)), (7, .int .i64 t2), (8, .int .i64 t3), (11, .pointer (some ⟨g4, 0, none⟩)), (20, .slice A2 a2.length c2), (21, .int .i64 (a2.length : Int)), (22, .int .i64 p1), (49, .bool false)]) (by kernel_rfl) ?_
            refine o_end (by kernel_rfl) ?_
            refine e_seq ?_
            refine w_cond_f (.tmp 49) 128206 128207 (by kernel_rfl) (by kernel_rfl) ?_
            refine w_skip (by kernel_rfl) ?_
            refine e_blk ?_
            refine e_seq ?_
            refine w_region (by kernel_rfl) ?_
            refine o_run 2 [0, 7, 8, 20, 21, 22] (l := []) .nil (E' := [(0, .pointer (some ⟨g1, 0, none⟩)), (7, .int .i64 t2), (8, .int .i64 t3), (20, .slice A2 a2.length c2), (21, .int .i64 (a2.length : Int)), (22, .int .i64 (I64 (p1 + 1)))]) (by kernel_rfl) ?_
            refine o_end (by kernel_rfl) ?_
            refine t_drop [2] (by kernel_rfl) ?_
            refine t_L (L' := [.blk g1 [.bool p2.xmade, .int .u32 p2.xfirst, .slice A3 p2.xruns.length c3] 76]) (by kernel_rfl) ?_
            refine t_env [0, 7, 8, 20, 21, 22] (E' := [(0, .pointer (some ⟨g1, 0, none⟩)), (7, .int .i64 t2), (8, .int .i64 t3), (20, .slice A2 a2.length c2), (21, .int .i64 (a2.length : Int)), (22, .int .i64 (I64 (p1 + 1)))]) (by kernel_rfl) ?_
            exact e_inv (fun a w ha hw => ⟨k, Nat.lt_succ_self k, (I64 (p1 + 1)), p2, B1, A3, c3, hm, hx4, hs3, ha, hw⟩)
        · replace hm := ite_f hb2 hm
          refine w_exit 0 (by kernel_rfl) ?_
          refine e_x_seq ?_
          refine e_x_inv ?_
          refine e_x_here ?_
          refine t_drop [0] (by kernel_rfl) ?_
          refine t_L (L' := [.blk g1 [.bool p2.xmade, .int .u32 p2.xfirst, .slice A3 p2.xruns.length c3] 76]) (by kernel_rfl) ?_
          refine t_env [0, 7] (E' := [(0, .pointer (some ⟨g1, 0, none⟩)), (7, .int .i64 t2)]) (by kernel_rfl) ?_
          obtain rfl := Option.some.inj hm
          exact e_inv (fun a w ha hw => ⟨B1, A3, c3, hx4, hs3, ha, hw⟩)
    · exact fun a w ha hw => ⟨0, a0, B, A1, c1, ht1, Ext.refl _, hs1, ha, hw⟩
def sack_Board_Blocks.l1 : Nat → T_sack_Board → Int → (List T_api_Block) → Option ((List T_api_Block))
  | 0, _, _, _ => none
  | k + 1, a0, p1, p2 => (if decide (p1 < (a0.xruns.length : Int)) then ((idx a0.xruns p1).bind fun e1 => ((app p2 [(⟨U32 (a0.xfirst + (U32 e1.xfrom)), U32 (a0.xfirst + (U32 e1.xto))⟩ : T_api_Block)]).bind fun l1 => (sack_Board_Blocks.l1 k a0 (I64 (p1 + 1)) l1))) else (some p2))
def sack_Board_Blocks.f (k : Nat) (a0 : T_sack_Board) : Option ((List T_api_Block)) :=
  ((sack_Board_ok.f a0).bind fun t1 => (if !t1 then (some ([] : List T_api_Block)) else ((sack_Board_Blocks.l1 k a0 0 ([] : List T_api_Block)).bind fun t2 => (some t2))))
theorem sack_Board_Blocks_ok (k : Nat) (a0 : T_sack_Board) (r : (List T_api_Block)) (hm : sack_Board_Blocks.f k a0 = some r) (B G : Asn) (g1 : Nat) (A1 : Option Addr) (c1 : Nat) (hs1 : Sl kT_sack_run B A1 c1 a0.xruns) (w : World) (hs : St B G [.blk g1 [.bool a0.xmade, .int .u32 a0.xfirst, .slice A1 a0.xruns.length c1] 76] w) :
    Calls Try.prog 31 #[.pointer (some ⟨g1, 0, none⟩)] w (Post (X := (Option Addr) × Nat) (fun x => .slice x.1 r.length x.2) (fun x => B) G (fun x => [.own x.1 r.length x.2 (rowOf encT_api_Block r) 2 57, .blk g1 [.bool a0.xmade, .int .u32 a0.xfirst, .slice A1 a0.xruns.length c1] 76]) (fun x => True)) := by
  unfold sack_Board_Blocks.f at hm
  refine calls_W (F := Try.f31) Try.func31 rfl (by kernel_rfl) (L := [.blk g1 [.bool a0.xmade, .int .u32 a0.xfirst, .slice A1 a0.xruns.length c1] 76]) ?_ hs
  refine w_seq 2 3 (by kernel_rfl) ?_
  refine w_region (by kernel_rfl) ?_
  refine o_run 1 [0] (l := []) .nil (E' := [(0, .pointer (some ⟨g1, 0, none⟩))]) (by kernel_rfl) ?_
  refine o_end (by kernel_rfl) ?_
  refine e_seq ?_
  refine w_seq 6 7 (by kernel_rfl) ?_
  refine w_seq 12 13 (by kernel_rfl) ?_
  refine w_region (by kernel_rfl) ?_
  refine o_run 1 [0, 6] (l := []) .nil (E' := [(0, .pointer (some ⟨g1, 0, none⟩)), (6, .pointer (some ⟨g1, 0, none⟩))]) (by kernel_rfl) ?_
  obtain ⟨t1, hx1, hm⟩ := bind_some hm
  refine o_stp ?_ (by kernel_rfl)
  refine s_call 7 43 #[.pointer (some ⟨g1, 0, none⟩)] [0] [] (by kernel_rfl) (by kernel_rfl) (fun w hs => sack_Board_ok_ok a0 t1 hx1 B _ g1 A1 c1 hs1 w (St.cast (by kernel_rfl) hs)) (fun _ hx => ?_)
  refine t_L (L' := [.blk g1 [.bool a0.xmade, .int .u32 a0.xfirst, .slice A1 a0.xruns.length c1] 76]) (by kernel_rfl) ?_
  refine o_run 1 [0, 8] (l := []) .nil (E' := [(0, .pointer (some ⟨g1, 0, none⟩)), (8, .bool (!t1))]) (by kernel_rfl) ?_
  refine o_end (by kernel_rfl) ?_
  refine e_seq ?_
  refine w_cond (.tmp 8) 26 27 (!t1) (by kernel_rfl) (by kernel_rfl) (fun hb1 => ?_) (fun hb1 => ?_)
  · replace hm := ite_t hb1 hm
    refine w_seq 52 53 (by kernel_rfl) ?_
    refine w_region (by kernel_rfl) ?_
    refine o_run 1 [2] (l := []) .nil (E' := [(2, .slice none 0 0)]) (by kernel_rfl) ?_
    refine o_end (by kernel_rfl) ?_
    refine e_seq ?_
    refine w_ret (by kernel_rfl) ?_
    refine t_nil 57 2 ?_
    refine t_L (L' := [.own none (([] : List T_api_Block).length) 0 (rowOf encT_api_Block ([] : List T_api_Block)) 2 57, .blk g1 [.bool a0.xmade, .int .u32 a0.xfirst, .slice A1 a0.xruns.length c1] 76]) (by kernel_rfl) ?_
    obtain rfl := Option.some.inj hm
    exact e_retP (none, 0) (.slice none (([] : List T_api_Block).length) 0) [0, 1] (by kernel_rfl) (by kernel_rfl) rfl (by kernel_rfl) (by kernel_rfl) trivial
  · replace hm := ite_f hb1 hm
    refine w_skip (by kernel_rfl) ?_
    refine e_seq ?_
    refine w_seq 14 15 (by kernel_rfl) ?_
    refine w_region (by kernel_rfl) ?_
    refine o_run 1 [0, 3] (l := []) .nil (E' := [(0, .pointer (some ⟨g1, 0, none⟩)), (3, .slice none 0 0)]) (by kernel_rfl) ?_
    refine o_end (by kernel_rfl) ?_
    refine e_seq ?_
    refine w_seq 30 31 (by kernel_rfl) ?_
    refine w_seq 60 61 (by kernel_rfl) ?_
    refine w_region (by kernel_rfl) ?_
    refine o_run 6 [0, 3, 12, 13, 14] (l := [(⟨g1, 2, none⟩, .slice A1 a0.xruns.length c1)]) (.one (at_blk (j := 0) rfl rfl) .nil) (E' := [(0, .pointer (some ⟨g1, 0, none⟩)), (3, .slice none 0 0), (12, .slice A1 a0.xruns.length c1), (13, .int .i64 (a0.xruns.length : Int)), (14, .int .i64 0)]) (by kernel_rfl) ?_
    refine o_end (by kernel_rfl) ?_
    refine e_seq ?_
    refine w_block 0 122 (by kernel_rfl) ?_
    refine t_nil 57 2 ?_
    refine t_L (L' := [.own none (([] : List T_api_Block).length) 0 (rowOf encT_api_Block ([] : List T_api_Block)) 2 57, .blk g1 [.bool a0.xmade, .int .u32 a0.xfirst, .slice A1 a0.xruns.length c1] 76]) (by kernel_rfl) ?_
    obtain ⟨t2, ht1, ho1⟩ := bind_some hm
    refine t_env [0, 3, 12, 13, 14] (E' := [(0, .pointer (some ⟨g1, 0, none⟩)), (3, .slice none (([] : List T_api_Block).length) 0), (12, .slice A1 a0.xruns.length c1), (13, .int .i64 (a0.xruns.length : Int)), (14, .int .i64 0)]) (by kernel_rfl) ?_
    refine w_loopJ 244 0 (fun k a w => ∃ (p1 : Int) (p2 : List T_api_Block) (A2 : Option Addr) (c2 : Nat), sack_Board_Blocks.l1 k a0 p1 p2 = some t2 ∧ EnvOk [(0, .pointer (some ⟨g1, 0, none⟩)), (3, .slice A2 p2.length c2), (12, .slice A1 a0.xruns.length c1), (13, .int .i64 (a0.xruns.length : Int)), (14, .int .i64 p1)] Try.f31.ntmps a ∧ St B G [.own A2 p2.length c2 (rowOf encT_api_Block p2) 2 57, .blk g1 [.bool a0.xmade, .int .u32 a0.xfirst, .slice A1 a0.xruns.length c1] 76] w) (fun a w => ∃ (A3 : Option Addr) (c3 : Nat), EnvOk [(3, .slice A3 ((t2).length) c3)] Try.f31.ntmps a ∧ St B G [.own A3 ((t2).length) c3 (rowOf encT_api_Block t2) 2 57, .blk g1 [.bool a0.xmade, .int .u32 a0.xfirst, .slice A1 a0.xruns.length c1] 76] w) (by kernel_rfl) ?_ ?_ k ?_
    · rintro a w ⟨A3, c3, ha, hw⟩
      refine we_of (E := [(3, .slice A3 ((t2).length) c3)]) (B := B) (G := G) (L := [.own A3 ((t2).length) c3 (rowOf encT_api_Block t2) 2 57, .blk g1 [.bool a0.xmade, .int .u32 a0.xfirst, .slice A1 a0.xruns.length c1] 76]) ?_ ha hw
      have hm := ho1
      refine e_seq ?_
      refine w_seq 62 63 (by kernel_rfl) ?_
      refine w_region (by kernel_rfl) ?_
      refine o_run 2 [2] (l := []) .nil (E' := [(2, .slice A3 ((t2).length) c3)]) (by kernel_rfl) ?_
      refine o_end (by kernel_rfl) ?_
      refine e_seq ?_
      refine w_ret (by kernel_rfl) ?_
      refine t_env [2] (E' := [(2, .slice A3 ((t2).length) c3)]) (by kernel_rfl) ?_
      refine t_EL (E' := [(2, .slice A3 t2.length c3)]) (L' := [.own A3 t2.length c3 (rowOf encT_api_Block t2) 2 57, .blk g1 [.bool a0.xmade, .int .u32 a0.xfirst, .slice A1 a0.xruns.length c1] 76]) (eq_of_len rfl (fun n => ([(2, .slice A3 n c3)], [.own A3 n c3 (rowOf encT_api_Block t2) 2 57, .blk g1 [.bool a0.xmade, .int .u32 a0.xfirst, .slice A1 a0.xruns.length c1] 76])) rfl rfl) ?_
      obtain rfl := Option.some.inj hm
      exact e_retP (A3, c3) (.slice A3 t2.length c3) [0, 1] (by kernel_rfl) (by kernel_rfl) rfl (by kernel_rfl) (by kernel_rfl) trivial
    · rintro k a w ⟨p1, p2, A2, c2, hm, ha, hw⟩
      cases k with
      | zero => exact absurd hm (by simp [sack_Board_Blocks.l1])
      | succ k =>
        unfold sack_Board_Blocks.l1 at hm
        refine wc_of (E := [(0, .pointer (some ⟨g1, 0, none⟩)), (3, .slice A2 p2.length c2), (12, .slice A1 a0.xruns.length c1), (13, .int .i64 (a0.xruns.length : Int)), (14, .int .i64 p1)]) (B := B) (G := G) (L := [.own A2 p2.length c2 (rowOf encT_api_Block p2) 2 57, .blk g1 [.bool a0.xmade, .int .u32 a0.xfirst, .slice A1 a0.xruns.length c1] 76]) ?_ ha hw
        refine w_seq 488 489 (by kernel_rfl) ?_
        refine w_region (by kernel_rfl) ?_
        refine o_run 1 [0, 3, 12, 13, 14, 15] (l := []) .nil (E' := [(0, .pointer (some ⟨g1, 0, none⟩)), (3, .slice A2 p2.length c2), (12, .slice A1 a0.xruns.length c1), (13, .int .i64 (a0.xruns.length : Int)), (14, .int .i64 p1), (15, .bool (decide (p1 < (a0.xruns.length : Int))))]) (by kernel_rfl) ?_
        refine o_end (by kernel_rfl) ?_
        refine e_seq ?_
        refine w_seq 978 979 (by kernel_rfl) ?_
        refine w_cond (.tmp 15) 1956 1957 (decide (p1 < (a0.xruns.length : Int))) (by kernel_rfl) (by kernel_rfl) (fun hb2 => ?_) (fun hb2 => ?_)
        · replace hm := ite_t hb2 hm
          refine w_skip (by kernel_rfl) ?_
          refine e_seq ?_
          refine w_seq 1958 1959 (by kernel_rfl) ?_
          refine w_block 1 3916 (by kernel_rfl) ?_
          refine w_seq 7832 7833 (by kernel_rfl) ?_
          refine w_region (by kernel_rfl) ?_
          obtain ⟨e1, hx2, hm⟩ := bind_some hm
          obtain ⟨hi1, hi2, hg1⟩ := idx_some hx2
          obtain ⟨cs1, hk1, hc1⟩ := (hs1).at hg1
          obtain rfl := hk1
          refine o_val 16 (.indexAddr 74 (.tmp 12) (.tmp 14)) (.pointer (some (adr A1 (Int.toNat p1 * 2)))) (by kernel_rfl) (v_index (k := .i64) (c := c1) (by kernel_rfl) (by kernel_rfl) (by kernel_rfl) hi1 hi2 ((hs1).some hg1)) ?_
          refine o_run 1 [0, 3, 12, 13, 14, 17] (l := [((adr A1 (Int.toNat p1 * 2)), .int .i64 e1.xfrom), (((adr A1 (Int.toNat p1 * 2)).add 1), .int .i64 e1.xto)]) (.one ((at_sl hc1).sub 0 rfl) (.one ((at_sl hc1).sub 1 rfl) .nil)) (E' := [(0, .pointer (some ⟨g1, 0, none⟩)), (3, .slice A2 p2.length c2), (12, .slice A1 a0.xruns.length c1), (13, .int .i64 (a0.xruns.length : Int)), (14, .int .i64 p1), (17, .agg #[.int .i64 e1.xfrom, .int .i64 e1.xto])]) (by kernel_rfl) ?_
          refine o_stp ?_ (by kernel_rfl)
          refine s_new 5 (fun g2 => .pointer (some ⟨g2, 0, none⟩)) [.int .i64 0, .int .i64 0] 81 (fun _ => by kernel_rfl) (fun g2 => ?_)
          refine o_stp ?_ (by kernel_rfl)
          refine s_store 0 g2 [.int .i64 0, .int .i64 0] 81 [(0, .int .i64 e1.xfrom), (1, .int .i64 e1.xto)] (by kernel_rfl) (by kernel_rfl) (by kernel_rfl) ?_
          refine t_L (L' := [.blk g2 [.int .i64 e1.xfrom, .int .i64 e1.xto] 81, .own A2 p2.length c2 (rowOf encT_api_Block p2) 2 57, .blk g1 [.bool a0.xmade, .int .u32 a0.xfirst, .slice A1 a0.xruns.length c1] 76]) (by kernel_rfl) ?_
          refine o_end (by kernel_rfl) ?_
          refine e_seq ?_
          obtain ⟨l1, hx3, hm⟩ := bind_some hm
          refine w_tail 19 [.blk g2 [.int .i64 e1.xfrom, .int .i64 e1.xto] 81, .own A2 p2.length c2 (rowOf encT_api_Block p2) 2 57, .blk g1 [.bool a0.xmade, .int .u32 a0.xfirst, .slice A1 a0.xruns.length c1] 76] (by kernel_rfl) mixed (by kernel_rfl) ?_
          refine tt_run [0, 1, 2, 3, 4, 5, 6, 7, 8, 9, 10, 11, 12, 13, 14, 15, 16, 17] [0, 3, 12, 13, 14, 18, 35] [0, 1, 2] 1 (listed' := #[true, true, true, true, true, true, true, true, true, true, true, true, true, true, true, true, true, true, false, false, false]) (l := [(⟨g1, 1, none⟩, .int .u32 a0.xfirst), (⟨g2, 0, none⟩, .int .i64 e1.xfrom), (⟨g1, 1, none⟩, .int .u32 a0.xfirst), (⟨g2, 1, none⟩, .int .i64 e1.xto)]) (.one (at_blk (j := 2) rfl rfl) (.one (at_blk (j := 0) rfl rfl) (.one (at_blk (j := 2) rfl rfl) (.one (at_blk (j := 0) rfl rfl) .nil)))) (E' := [(0, .pointer (some ⟨g1, 0, none⟩)), (3, .slice A2 p2.length c2), (12, .slice A1 a0.xruns.length c1), (13, .int .i64 (a0.xruns.length : Int)), (14, .int .i64 p1), (18, .slice A2 p2.length c2), (35, .agg #[.int .u32 (U32 (a0.xfirst + (U32 e1.xfrom))), .int .u32 (U32 (a0.xfirst + (U32 e1.xto)))])]) (by kernel_rfl) (by kernel_rfl) (by kernel_rfl) (Ext.refl _) (by kernel_rfl) (by kernel_rfl) ?_
          refine tt_stp 18 [0, 1, 2] (Ext.refl _) (by kernel_rfl) (by kernel_rfl) (by kernel_rfl) (by kernel_rfl) ?_
          refine s_new 36 (fun g4 => .slice (some ⟨g4, 0, none⟩) 1 1) [.int .u32 (U32 (a0.xfirst + (U32 e1.xfrom))), .int .u32 (U32 (a0.xfirst + (U32 e1.xto)))] 57 (fun _ => by kernel_rfl) (fun g4 => ?_)
          refine tt_end [1, 2, 3] (Ext.refl _) (by kernel_rfl) (by kernel_rfl) (by kernel_rfl) ?_
          refine o_stp ?_ (by kernel_rfl)
          refine s_app (z := .agg #[.int .u32 0, .int .u32 0]) (enc := encT_api_Block) (ys := [(⟨U32 (a0.xfirst + (U32 e1.xfrom)), U32 (a0.xfirst + (U32 e1.xto))⟩ : T_api_Block)]) (k := 1) (bytes := 8) 37 46 46 (.tmp 18) (.tmp 36) 2 hx3 rfl rfl (by kernel_rfl) (by kernel_rfl) (by kernel_rfl) (by kernel_rfl) (by kernel_rfl) (by kernel_rfl) rfl (src_blk (e := 57) (j := 0) (by kernel_rfl) rfl (by kernel_rfl) rfl (by kernel_rfl)) (by decide) (fun A5 c5 => ?_)
          refine t_L (L' := [.blk g4 [.int .u32 (U32 (a0.xfirst + (U32 e1.xfrom))), .int .u32 (U32 (a0.xfirst + (U32 e1.xto)))] 57, .blk g2 [.int .i64 e1.xfrom, .int .i64 e1.xto] 81, .own A5 l1.length c5 (rowOf encT_api_Block l1) 2 57, .blk g1 [.bool a0.xmade, .int .u32 a0.xfirst, .slice A1 a0.xruns.length c1] 76]) (by kernel_rfl) ?_
          refine o_run 1 [0, 3, 12, 13, 14] (l := []) .nil (E' := [(0, .pointer (some ⟨g1, 0, none⟩)), (3, .slice A5 l1.length c5), (12, .slice A1 a0.xruns.length c1), (13, .int .i64 (a0.xruns.length : Int)), (14, .int .i64 p1)]) (by kernel_rfl) ?_
          refine o_end (by kernel_rfl) ?_
          refine e_blk ?_
          refine e_seq ?_
          refine w_region (by kernel_rfl) ?_
          refine o_run 2 [0, 3, 12, 13, 14] (l := []) .nil (E' := [(0, .pointer (some ⟨g1, 0, none⟩)), (3, .slice A5 l1.length c5), (12, .slice A1 a0.xruns.length c1), (13, .int .i64 (a0.xruns.length : Int)), (14, .int .i64 (I64 (p1 + 1)))]) (by kernel_rfl) ?_
          refine o_end (by kernel_rfl) ?_
          refine t_drop [2, 3] (by kernel_rfl) ?_
          refine t_L (L' := [.own A5 l1.length c5 (rowOf encT_api_Block l1) 2 57, .blk g1 [.bool a0.xmade, .int .u32 a0.xfirst, .slice A1 a0.xruns.length c1] 76]) (by kernel_rfl) ?_
          refine t_env [0, 3, 12, 13, 14] (E' := [(0, .pointer (some ⟨g1, 0, none⟩)), (3, .slice A5 l1.length c5), (12, .slice A1 a0.xruns.length c1), (13, .int .i64 (a0.xruns.length : Int)), (14, .int .i64 (I64 (p1 + 1)))]) (by kernel_rfl) ?_
          exact e_inv (fun a w ha hw => ⟨k, Nat.lt_succ_self k, (I64 (p1 + 1)), l1, A5, c5, hm, ha, hw⟩)
        · replace hm := ite_f hb2 hm
          refine w_exit 0 (by kernel_rfl) ?_
          refine e_x_seq ?_
          refine e_x_inv ?_
          refine e_x_here ?_
          refine t_drop [0, 1] (by kernel_rfl) ?_
          refine t_L (L' := [.own A2 p2.length c2 (rowOf encT_api_Block p2) 2 57, .blk g1 [.bool a0.xmade, .int .u32 a0.xfirst, .slice A1 a0.xruns.length c1] 76]) (by kernel_rfl) ?_
          refine t_env [3] (E' := [(3, .slice A2 p2.length c2)]) (by kernel_rfl) ?_
          obtain rfl := Option.some.inj hm
          exact e_inv (fun a w ha hw => ⟨A2, c2, ha, hw⟩)
    · exact fun a w ha hw => ⟨0, ([] : List T_api_Block), none, 0, ht1, ha, hw⟩
def sack_Board_Advance.l1 : Nat → T_sack_Board → Int → Int → (List T_sack_run) → Option ((List T_sack_run))
  | 0, _, _, _, _ => none
  | k + 1, a0, t2, p1, p2 => (if decide (p1 < (a0.xruns.length : Int)) then ((idx a0.xruns p1).bind fun e1 => (if decide (e1.xto > t2) then ((app p2 [(⟨imax (I64 (e1.xfrom - t2)) 0, I64 (e1.xto - t2)⟩ : T_sack_run)]).bind fun l1 => (sack_Board_Advance.l1 k a0 t2 (I64 (p1 + 1)) l1)) else (sack_Board_Advance.l1 k a0 t2 (I64 (p1 + 1)) p2))) else (some p2))
def sack_Board_Advance.f (k : Nat) (a0 : T_sack_Board) (a1 : Int) : Option (Bool × T_sack_Board) :=
  ((sack_Board_ok.f a0).bind fun t1 => (if !t1 then (some (false, a0)) else ((sack_Board_ahead.f a0 a1).bind fun t2 => (if decide (t2 < 1) then (some (false, a0)) else (if decide (t2 > 65536) then (some (false, a0)) else ((sack_Board_Advance.l1 k a0 t2 0 ([] : List T_sack_run)).bind fun t3 => (some (true, (⟨a0.xmade, a1, t3⟩ : T_sack_Board)))))))))
theorem sack_Board_Advance_ok (k : Nat) (a0 : T_sack_Board) (a1 : Int) (r : Bool × T_sack_Board) (hm : sack_Board_Advance.f k a0 a1 = some r) (B G : Asn) (g1 : Nat) (A1 : Option Addr) (c1 : Nat) (hs1 : Sl kT_sack_run B A1 c1 a0.xruns) (w : World) (hs : St B G [.blk g1 [.bool a0.xmade, .int .u32 a0.xfirst, .slice A1 a0.xruns.length c1] 76] w) :
    Calls Try.prog 32 #[.pointer (some ⟨g1, 0, none⟩), .int .u32 a1] w (Post (X := Asn × (Option Addr) × Nat) (fun x => .bool r.1) (fun x => x.1) G (fun x => [.blk g1 [.bool r.2.xmade, .int .u32 r.2.xfirst, .slice x.2.1 r.2.xruns.length x.2.2] 76]) (fun x => (Ext B x.1) ∧ (Sl kT_sack_run x.1 x.2.1 x.2.2 r.2.xruns))) := by
  unfold sack_Board_Advance.f at hm
  refine calls_W (F := Try.f32) Try.func32 rfl (by kernel_rfl) (L := [.blk g1 [.bool a0.xmade, .int .u32 a0.xfirst, .slice A1 a0.xruns.length c1] 76]) ?_ hs
  refine w_seq 2 3 (by kernel_rfl) ?_
  refine w_region (by kernel_rfl) ?_
  refine o_run 1 [0, 1] (l := []) .nil (E' := [(0, .pointer (some ⟨g1, 0, none⟩)), (1, .int .u32 a1)]) (by kernel_rfl) ?_
  refine o_end (by kernel_rfl) ?_
  refine e_seq ?_
  refine w_seq 6 7 (by kernel_rfl) ?_
  refine w_seq 12 13 (by kernel_rfl) ?_
  refine w_region (by kernel_rfl) ?_
  refine o_run 1 [0, 1, 9] (l := []) .nil (E' := [(0, .pointer (some ⟨g1, 0, none⟩)), (1, .int .u32 a1), (9, .pointer (some ⟨g1, 0, none⟩))]) (by kernel_rfl) ?_
  obtain ⟨t1, hx1, hm⟩ := bind_some hm
  refine o_stp ?_ (by kernel_rfl)
  refine s_call 10 43 #[.pointer (some ⟨g1, 0, none⟩)] [0] [] (by kernel_rfl) (by kernel_rfl) (fun w hs => sack_Board_ok_ok a0 t1 hx1 B _ g1 A1 c1 hs1 w (St.cast (by kernel_rfl) hs)) (fun _ hx => ?_)
  refine t_L (L' := [.blk g1 [.bool a0.xmade, .int .u32 a0.xfirst, .slice A1 a0.xruns.length c1] 76]) (by kernel_rfl) ?_
  refine o_run 1 [0, 1, 11] (l := []) .nil (E' := [(0, .pointer (some ⟨g1, 0, none⟩)), (1, .int .u32 a1), (11, .bool (!t1))]) (by kernel_rfl) ?_
  refine o_end (by kernel_rfl) ?_
  refine e_seq ?_
  refine w_cond (.tmp 11) 26 27 (!t1) (by kernel_rfl) (by kernel_rfl) (fun hb1 => ?_) (fun hb1 => ?_)
  · replace hm := ite_t hb1 hm
    refine w_seq 52 53 (by kernel_rfl) ?_
    refine w_region (by kernel_rfl) ?_
    refine o_run 1 [4] (l := []) .nil (E' := [(4, .bool false)]) (by kernel_rfl) ?_
    refine o_end (by kernel_rfl) ?_
    refine e_seq ?_
    refine w_ret (by kernel_rfl) ?_
    obtain rfl := Option.some.inj hm
    exact e_retP (B, A1, c1) (.bool false) [0] (by kernel_rfl) (by kernel_rfl) rfl (by kernel_rfl) (by kernel_rfl) ⟨(Ext.refl _), hs1⟩
  · replace hm := ite_f hb1 hm
    refine w_skip (by kernel_rfl) ?_
    refine e_seq ?_
    refine w_seq 14 15 (by kernel_rfl) ?_
    refine w_region (by kernel_rfl) ?_
    refine o_run 2 [0, 1, 12, 13] (l := []) .nil (E' := [(0, .pointer (some ⟨g1, 0, none⟩)), (1, .int .u32 a1), (12, .pointer (some ⟨g1, 0, none⟩)), (13, .int .u32 a1)]) (by kernel_rfl) ?_
    obtain ⟨t2, hx2, hm⟩ := bind_some hm
    refine o_stp ?_ (by kernel_rfl)
    refine s_call 14 44 #[.pointer (some ⟨g1, 0, none⟩), .int .u32 a1] [0] [] (by kernel_rfl) (by kernel_rfl) (fun w hs => sack_Board_ahead_ok a0 a1 t2 hx2 B _ g1 A1 c1 hs1 w (St.cast (by kernel_rfl) hs)) (fun _ hx => ?_)
    refine t_L (L' := [.blk g1 [.bool a0.xmade, .int .u32 a0.xfirst, .slice A1 a0.xruns.length c1] 76]) (by kernel_rfl) ?_
    refine o_run 1 [0, 1, 5] (l := []) .nil (E' := [(0, .pointer (some ⟨g1, 0, none⟩)), (1, .int .u32 a1), (5, .int .i64 t2)]) (by kernel_rfl) ?_
    refine o_end (by kernel_rfl) ?_
    refine e_seq ?_
    refine w_seq 30 31 (by kernel_rfl) ?_
    refine w_seq 60 61 (by kernel_rfl) ?_
    refine w_region (by kernel_rfl) ?_
    refine o_run 3 [0, 1, 5, 17] (l := []) .nil (E' := [(0, .pointer (some ⟨g1, 0, none⟩)), (1, .int .u32 a1), (5, .int .i64 t2), (17, .bool (decide (t2 < 1)))]) (by kernel_rfl) ?_
    refine o_split 17 (decide (t2 < 1)) (by kernel_rfl) (fun hb2 => ?_) (fun hb2 => ?_)
    · replace hm := ite_t hb2 hm
      refine o_run 3 [0, 1, 5, 20] (l := []) .nil (E' := [(0, .pointer (some ⟨g1, 0, none⟩)), (1, .int .u32 a1), (5, .int .i64 t2), (20, .bool true)]) (by kernel_rfl) ?_
      refine o_end (by kernel_rfl) ?_
      refine e_seq ?_
      refine w_cond_t (.tmp 20) 122 123 (by kernel_rfl) (by kernel_rfl) ?_
      refine w_seq 244 245 (by kernel_rfl) ?_
      refine w_region (by kernel_rfl) ?_
      refine o_run 1 [4] (l := []) .nil (E' := [(4, .bool false)]) (by kernel_rfl) ?_
      refine o_end (by kernel_rfl) ?_
      refine e_seq ?_
      refine w_ret (by kernel_rfl) ?_
      obtain rfl := Option.some.inj hm
      exact e_retP (B, A1, c1) (.bool false) [0] (by kernel_rfl) (by kernel_rfl) rfl (by kernel_rfl) (by kernel_rfl) ⟨(Ext.refl _), hs1⟩
    · replace hm := ite_f hb2 hm
      refine o_run 3 [0, 1, 5, 20] (l := []) .nil (E' := [(0, .pointer (some ⟨g1, 0, none⟩)), (1, .int .u32 a1), (5, .int .i64 t2), (20, .bool (decide (t2 > 65536)))]) (by kernel_rfl) ?_
      refine o_end (by kernel_rfl) ?_
      refine e_seq ?_
      refine w_cond (.tmp 20) 122 123 (decide (t2 > 65536)) (by kernel_rfl) (by kernel_rfl) (fun hb3 => ?_) (fun hb3 => ?_)
      · replace hm := ite_t hb3 hm
        refine w_seq 244 245 (by kernel_rfl) ?_
        refine w_region (by kernel_rfl) ?_
        refine o_run 1 [4] (l := []) .nil (E' := [(4, .bool false)]) (by kernel_rfl) ?_
        refine o_end (by kernel_rfl) ?_
        refine e_seq ?_
        refine w_ret (by kernel_rfl) ?_
        obtain rfl := Option.some.inj hm
        exact e_retP (B, A1, c1) (.bool false) [0] (by kernel_rfl) (by kernel_rfl) rfl (by kernel_rfl) (by kernel_rfl) ⟨(Ext.refl _), hs1⟩
      · replace hm := ite_f hb3 hm
        refine w_skip (by kernel_rfl) ?_
        refine e_seq ?_
        refine w_seq 62 63 (by kernel_rfl) ?_
        refine w_region (by kernel_rfl) ?_
        refine o_run 1 [0, 1, 5, 6] (l := []) .nil (E' := [(0, .pointer (some ⟨g1, 0, none⟩)), (1, .int .u32 a1), (5, .int .i64 t2), (6, .slice none 0 0)]) (by kernel_rfl) ?_
        refine o_end (by kernel_rfl) ?_
        refine e_seq ?_
        refine w_seq 126 127 (by kernel_rfl) ?_
        refine w_seq 252 253 (by kernel_rfl) ?_
        refine w_region (by kernel_rfl) ?_
        refine o_run 6 [0, 1, 5, 6, 24, 25, 26] (l := [(⟨g1, 2, none⟩, .slice A1 a0.xruns.length c1)]) (.one (at_blk (j := 0) rfl rfl) .nil) (E' := [(0, .pointer (some ⟨g1, 0, none⟩)), (1, .int .u32 a1), (5, .int .i64 t2), (6, .slice none 0 0), (24, .slice A1 a0.xruns.length c1), (25, .int .i64 (a0.xruns.length : Int)), (26, .int .i64 0)]) (by kernel_rfl) ?_
        refine o_end (by kernel_rfl) ?_
        refine e_seq ?_
        refine w_block 0 506 (by kernel_rfl) ?_
        refine t_nil 81 2 ?_
        refine t_L (L' := [.own none (([] : List T_sack_run).length) 0 (rowOf encT_sack_run ([] : List T_sack_run)) 2 81, .blk g1 [.bool a0.xmade, .int .u32 a0.xfirst, .slice A1 a0.xruns.length c1] 76]) (by kernel_rfl) ?_
        obtain ⟨t3, ht1, ho1⟩ := bind_some hm
        refine t_env [0, 1, 5, 6, 24, 25, 26] (E' := [(0, .pointer (some ⟨g1, 0, none⟩)), (1, .int .u32 a1), (5, .int .i64 t2), (6, .slice none (([] : List T_sack_run).length) 0), (24, .slice A1 a0.xruns.length c1), (25, .int .i64 (a0.xruns.length : Int)), (26, .int .i64 0)]) (by kernel_rfl) ?_
        refine w_loopJ 1012 0 (fun k a w => ∃ (p1 : Int) (p2 : List T_sack_run) (A2 : Option Addr) (c2 : Nat), sack_Board_Advance.l1 k a0 t2 p1 p2 = some t3 ∧ EnvOk [(0, .pointer (some ⟨g1, 0, none⟩)), (1, .int .u32 a1), (5, .int .i64 t2), (6, .slice A2 p2.length c2), (24, .slice A1 a0.xruns.length c1), (25, .int .i64 (a0.xruns.length : Int)), (26, .int .i64 p1)] Try.f32.ntmps a ∧ St B G [.own A2 p2.length c2 (rowOf encT_sack_run p2) 2 81, .blk g1 [.bool a0.xmade, .int .u32 a0.xfirst, .slice A1 a0.xruns.length c1] 76] w) (fun a w => ∃ (A3 : Option Addr) (c3 : Nat), EnvOk [(0, .pointer (some ⟨g1, 0, none⟩)), (1, .int .u32 a1), (6, .slice A3 ((t3).length) c3)] Try.f32.ntmps a ∧ St B G [.own A3 ((t3).length) c3 (rowOf encT_sack_run t3) 2 81, .blk g1 [.bool a0.xmade, .int .u32 a0.xfirst, .slice A1 a0.xruns.length c1] 76] w) (by kernel_rfl) ?_ ?_ k ?_
        · rintro a w ⟨A3, c3, ha, hw⟩
          refine we_of (E := [(0, .pointer (some ⟨g1, 0, none⟩)), (1, .int .u32 a1), (6, .slice A3 ((t3).length) c3)]) (B := B) (G := G) (L := [.own A3 ((t3).length) c3 (rowOf encT_sack_run t3) 2 81, .blk g1 [.bool a0.xmade, .int .u32 a0.xfirst, .slice A1 a0.xruns.length c1] 76]) ?_ ha hw
          have hm := ho1
          refine e_seq ?_
          refine w_seq 254 255 (by kernel_rfl) ?_
          refine w_region (by kernel_rfl) ?_
          refine o_run 6 [49, 50, 51, 53] (l := []) .nil (E' := [(49, .pointer (some ⟨g1, 0, none⟩)), (50, .int .u32 a1), (51, .slice A3 ((t3).length) c3), (53, .pointer (some ⟨g1, 1, none⟩))]) (by kernel_rfl) ?_
          refine o_stp ?_ (by kernel_rfl)
          refine s_store 1 g1 [.bool a0.xmade, .int .u32 a0.xfirst, .slice A1 a0.xruns.length c1] 76 [(1, .int .u32 a1)] (by kernel_rfl) (by kernel_rfl) (by kernel_rfl) ?_
          refine t_L (L' := [.own A3 ((t3).length) c3 (rowOf encT_sack_run t3) 2 81, .blk g1 [.bool a0.xmade, .int .u32 a1, .slice A1 a0.xruns.length c1] 76]) (by kernel_rfl) ?_
          refine o_run 2 [51, 55] (l := []) .nil (E' := [(51, .slice A3 ((t3).length) c3), (55, .pointer (some ⟨g1, 2, none⟩))]) (by kernel_rfl) ?_
          refine o_stp ?_ (by kernel_rfl)
          refine s_store 1 g1 [.bool a0.xmade, .int .u32 a1, .slice A1 a0.xruns.length c1] 76 [(2, .slice A3 ((t3).length) c3)] (by kernel_rfl) (by kernel_rfl) (by kernel_rfl) ?_
          refine t_L (L' := [.own A3 ((t3).length) c3 (rowOf encT_sack_run t3) 2 81, .blk g1 [.bool a0.xmade, .int .u32 a1, .slice A3 ((t3).length) c3] 76]) (by kernel_rfl) ?_
          refine o_end (by kernel_rfl) ?_
          refine e_seq ?_
          refine w_seq 510 511 (by kernel_rfl) ?_
          refine w_region (by kernel_rfl) ?_
          refine o_run 1 [4] (l := []) .nil (E' := [(4, .bool true)]) (by kernel_rfl) ?_
          refine o_end (by kernel_rfl) ?_
          refine e_seq ?_
          refine w_ret (by kernel_rfl) ?_
          refine t_frozS kT_sack_run rfl rfl (fun B1 hx3 hs2 => ?_)
          obtain rfl := Option.some.inj hm
          exact e_retP (B1, A3, c3) (.bool true) [0] (by kernel_rfl) (by kernel_rfl) rfl (by kernel_rfl) (by kernel_rfl) ⟨hx3, hs2⟩
        · rintro k a w ⟨p1, p2, A2, c2, hm, ha, hw⟩
          cases k with
          | zero => exact absurd hm (by simp [sack_Board_Advance.l1])
          | succ k =>
            unfold sack_Board_Advance.l1 at hm
            refine wc_of (E := [(0, .pointer (some ⟨g1, 0, none⟩)), (1, .int .u32 a1), (5, .int .i64 t2), (6, .slice A2 p2.length c2), (24, .slice A1 a0.xruns.length c1), (25, .int .i64 (a0.xruns.length : Int)), (26, .int .i64 p1)]) (B := B) (G := G) (L := [.own A2 p2.length c2 (rowOf encT_sack_run p2) 2 81, .blk g1 [.bool a0.xmade, .int .u32 a0.xfirst, .slice A1 a0.xruns.length c1] 76]) ?_ ha hw
            refine w_seq 2024 2025 (by kernel_rfl) ?_
            refine w_region (by kernel_rfl) ?_
            refine o_run 1 [0, 1, 5, 6, 24, 25, 26, 27] (l := []) .nil (E' := [(0, .pointer (some ⟨g1, 0, none⟩)), (1, .int .u32 a1), (5, .int .i64 t2), (6, .slice A2 p2.length c2), (24, .slice A1 a0.xruns.length c1), (25, .int .i64 (a0.xruns.length : Int)), (26, .int .i64 p1), (27, .bool (decide (p1 < (a0.xruns.length : Int))))]) (by kernel_rfl) ?_
            refine o_end (by kernel_rfl) ?_
            refine e_seq ?_
            refine w_seq 4050 4051 (by kernel_rfl) ?_
            refine w_cond (.tmp 27) 8100 8101 (decide (p1 < (a0.xruns.length : Int))) (by kernel_rfl) (by kernel_rfl) (fun hb4 => ?_) (fun hb4 => ?_)
            · replace hm := ite_t hb4 hm
              refine w_skip (by kernel_rfl) ?_
              refine e_seq ?_
              refine w_seq 8102 8103 (by kernel_rfl) ?_
              refine w_block 1 16204 (by kernel_rfl) ?_
              refine w_seq 32408 32409 (by kernel_rfl) ?_
              refine w_region (by kernel_rfl) ?_
              obtain ⟨e1, hx4, hm⟩ := bind_some hm
              obtain ⟨hi1, hi2, hg1⟩ := idx_some hx4
              obtain ⟨cs1, hk1, hc1⟩ := (hs1).at hg1
              obtain rfl := hk1
              refine o_val 28 (.indexAddr 74 (.tmp 24) (.tmp 26)) (.pointer (some (adr A1 (Int.toNat p1 * 2)))) (by kernel_rfl) (v_index (k := .i64) (c := c1) (by kernel_rfl) (by kernel_rfl) (by kernel_rfl) hi1 hi2 ((hs1).some hg1)) ?_
              refine o_run 1 [0, 1, 5, 6, 24, 25, 26, 29] (l := [((adr A1 (Int.toNat p1 * 2)), .int .i64 e1.xfrom), (((adr A1 (Int.toNat p1 * 2)).add 1), .int .i64 e1.xto)]) (.one ((at_sl hc1).sub 0 rfl) (.one ((at_sl hc1).sub 1 rfl) .nil)) (E' := [(0, .pointer (some ⟨g1, 0, none⟩)), (1, .int .u32 a1), (5, .int .i64 t2), (6, .slice A2 p2.length c2), (24, .slice A1 a0.xruns.length c1), (25, .int .i64 (a0.xruns.length : Int)), (26, .int .i64 p1), (29, .agg #[.int .i64 e1.xfrom, .int .i64 e1.xto])]) (by kernel_rfl) ?_
              refine o_stp ?_ (by kernel_rfl)
              refine s_new 8 (fun g2 => .pointer (some ⟨g2, 0, none⟩)) [.int .i64 0, .int .i64 0] 81 (fun _ => by kernel_rfl) (fun g2 => ?_)
              refine o_stp ?_ (by kernel_rfl)
              refine s_store 0 g2 [.int .i64 0, .int .i64 0] 81 [(0, .int .i64 e1.xfrom), (1, .int .i64 e1.xto)] (by kernel_rfl) (by kernel_rfl) (by kernel_rfl) ?_
              refine t_L (L' := [.blk g2 [.int .i64 e1.xfrom, .int .i64 e1.xto] 81, .own A2 p2.length c2 (rowOf encT_sack_run p2) 2 81, .blk g1 [.bool a0.xmade, .int .u32 a0.xfirst, .slice A1 a0.xruns.length c1] 76]) (by kernel_rfl) ?_
              refine o_end (by kernel_rfl) ?_
              refine e_seq ?_
              refine w_seq 64818 64819 (by kernel_rfl) ?_
              refine w_region (by kernel_rfl) ?_
              refine o_run 4 [0, 1, 5, 6, 8, 24, 25, 26, 33] (l := [(⟨g2, 1, none⟩, .int .i64 e1.xto)]) (.one (at_blk (j := 0) rfl rfl) .nil) (E' := [(0, .pointer (some ⟨g1, 0, none⟩)), (1, .int .u32 a1), (5, .int .i64 t2), (6, .slice A2 p2.length c2), (8, .pointer (some ⟨g2, 0, none⟩)), (24, .slice A1 a0.xruns.length c1), (25, .int .i64 (a0.xruns.length : Int)), (26, .int .i64 p1), (33, .bool (decide (e1.xto > t2)))]) (by kernel_rfl) ?_
              refine o_end (by kernel_rfl) ?_
              refine e_seq ?_
              refine w_cond (.tmp 33) 129638 129639 (decide (e1.xto > t2)) (by kernel_rfl) (by kernel_rfl) (fun hb5 => ?_) (fun hb5 => ?_)
              · replace hm := ite_t hb5 hm
                refine w_region (by kernel_rfl) ?_
                refine o_run 11 [0, 1, 5, 24, 25, 26, 34, 44] (l := [(⟨g2, 0, none⟩, .int .i64 e1.xfrom), (⟨g2, 1, none⟩, .int .i64 e1.xto)]) (.one (at_blk (j := 0) rfl rfl) (.one (at_blk (j := 0) rfl rfl) .nil)) (E' := [(0, .pointer (some ⟨g1, 0, none⟩)), (1, .int .u32 a1), (5, .int .i64 t2), (24, .slice A1 a0.xruns.length c1), (25, .int .i64 (a0.xruns.length : Int)), (26, .int .i64 p1), (34, .slice A2 p2.length c2), (44, .agg #[.int .i64 (imax (I64 (e1.xfrom - t2)) 0), .int .i64 (I64 (e1.xto - t2))])]) (by kernel_rfl) ?_
                refine o_stp ?_ (by kernel_rfl)
                refine s_new 45 (fun g3 => .slice (some ⟨g3, 0, none⟩) 1 1) [.int .i64 (imax (I64 (e1.xfrom - t2)) 0), .int .i64 (I64 (e1.xto - t2))] 81 (fun _ => by kernel_rfl) (fun g3 => ?_)
                obtain ⟨l1, hx5, hm⟩ := bind_some hm
                refine o_stp ?_ (by kernel_rfl)
                refine s_app (z := .agg #[.int .i64 0, .int .i64 0]) (enc := encT_sack_run) (ys := [(⟨imax (I64 (e1.xfrom - t2)) 0, I64 (e1.xto - t2)⟩ : T_sack_run)]) (k := 1) (bytes := 16) 46 74 74 (.tmp 34) (.tmp 45) 2 hx5 rfl rfl (by kernel_rfl) (by kernel_rfl) (by kernel_rfl) (by kernel_rfl) (by kernel_rfl) (by kernel_rfl) rfl (src_blk (e := 81) (j := 0) (by kernel_rfl) rfl (by kernel_rfl) rfl (by kernel_rfl)) (by decide) (fun A4 c4 => ?_)
                refine t_L (L' := [.blk g3 [.int .i64 (imax (I64 (e1.xfrom - t2)) 0), .int .i64 (I64 (e1.xto - t2))] 81, .blk g2 [.int .i64 e1.xfrom, .int .i64 e1.xto] 81, .own A4 l1.length c4 (rowOf encT_sack_run l1) 2 81, .blk g1 [.bool a0.xmade, .int .u32 a0.xfirst, .slice A1 a0.xruns.length c1] 76]) (by kernel_rfl) ?_
                refine o_run 1 [0, 1, 5, 6, 24, 25, 26] (l := []) .nil (E' := [(0, .pointer (some ⟨g1, 0, none⟩)), (1, .int .u32 a1), (5, .int .i64 t2), (6, .slice A4 l1.length c4), (24, .slice A1 a0.xruns.length c1), (25, .int .i64 (a0.xruns.length : Int)), (26, .int .i64 p1)]) (by kernel_rfl) ?_
                refine o_end (by kernel_rfl) ?_
                refine e_blk ?_
                refine e_seq ?_
                refine w_region (by kernel_rfl) ?_
                refine o_run 2 [0, 1, 5, 6, 24, 25, 26] (l := []) .nil (E' := [(0, .pointer (some ⟨g1, 0, none⟩)), (1, .int .u32 a1), (5, .int .i64 t2), (6, .slice A4 l1.length c4), (24, .slice A1 a0.xruns.length c1), (25, .int .i64 (a0.xruns.length : Int)), (26, .int .i64 (I64 (p1 + 1)))]) (by kernel_rfl) ?_
                refine o_end (by kernel_rfl) ?_
                refine t_drop [2, 3] (by kernel_rfl) ?_
                refine t_L (L' := [.own A4 l1.length c4 (rowOf encT_sack_run l1) 2 81, .blk g1 [.bool a0.xmade, .int .u32 a0.xfirst, .slice A1 a0.xruns.length c1] 76]) (by kernel_rfl) ?_
                refine t_env [0, 1, 5, 6, 24, 25, 26] (E' := [(0, .pointer (some ⟨g1, 0, none⟩)), (1, .int .u32 a1), (5, .int .i64 t2), (6, .slice A4 l1.length c4), (24, .slice A1 a0.xruns.length c1), (25, .int .i64 (a0.xruns.length : Int)), (26, .int .i64 (I64 (p1 + 1)))]) (by kernel_rfl) ?_
                exact e_inv (fun a w ha hw => ⟨k, Nat.lt_succ_self k, (I64 (p1 + 1)), l1, A4, c4, hm, ha, hw⟩)
              · replace hm := ite_f hb5 hm
                refine w_skip (by kernel_rfl) ?_
                refine e_blk ?_
                refine e_seq ?_
                refine w_region (by kernel_rfl) ?_
                refine o_run 2 [0, 1, 5, 6, 24, 25, 26] (l := []) .nil (E' := [(0, .pointer (some ⟨g1, 0, none⟩)), (1, .int .u32 a1), (5, .int .i64 t2), (6, .slice A2 p2.length c2), (24, .slice A1 a0.xruns.length c1), (25, .int .i64 (a0.xruns.length : Int)), (26, .int .i64 (I64 (p1 + 1)))]) (by kernel_rfl) ?_
                refine o_end (by kernel_rfl) ?_
                refine t_drop [1, 2] (by kernel_rfl) ?_
                refine t_L (L' := [.own A2 p2.length c2 (rowOf encT_sack_run p2) 2 81, .blk g1 [.bool a0.xmade, .int .u32 a0.xfirst, .slice A1 a0.xruns.length c1] 76]) (by kernel_rfl) ?_
                refine t_env [0, 1, 5, 6, 24, 25, 26] (E' := [(0, .pointer (some ⟨g1, 0, none⟩)), (1, .int .u32 a1), (5, .int .i64 t2), (6, .slice A2 p2.length c2), (24, .slice A1 a0.xruns.length c1), (25, .int .i64 (a0.xruns.length : Int)), (26, .int .i64 (I64 (p1 + 1)))]) (by kernel_rfl) ?_
                exact e_inv (fun a w ha hw => ⟨k, Nat.lt_succ_self k, (I64 (p1 + 1)), p2, A2, c2, hm, ha, hw⟩)
            · replace hm := ite_f hb4 hm
              refine w_exit 0 (by kernel_rfl) ?_
              refine e_x_seq ?_
              refine e_x_inv ?_
              refine e_x_here ?_
              refine t_drop [0, 1] (by kernel_rfl) ?_
              refine t_L (L' := [.own A2 p2.length c2 (rowOf encT_sack_run p2) 2 81, .blk g1 [.bool a0.xmade, .int .u32 a0.xfirst, .slice A1 a0.xruns.length c1] 76]) (by kernel_rfl) ?_
              refine t_env [0, 1, 6] (E' := [(0, .pointer (some ⟨g1, 0, none⟩)), (1, .int .u32 a1), (6, .slice A2 p2.length c2)]) (by kernel_rfl) ?_
              obtain rfl := Option.some.inj hm
              exact e_inv (fun a w ha hw => ⟨A2, c2, ha, hw⟩)
        · exact fun a w ha hw => ⟨0, ([] : List T_sack_run), none, 0, ht1, ha, hw⟩
end Go.V
