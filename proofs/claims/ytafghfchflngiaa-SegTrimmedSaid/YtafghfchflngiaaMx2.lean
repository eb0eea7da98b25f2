/- Printed by a program of this work: Go functions as Lean functions, and that the machine comes to the same. -/
import Derived.Test.YtafghfchflngiaaMx1
set_option maxRecDepth 100000
set_option linter.unusedVariables false
namespace Go.V
open Go Go.Proofs
theorem try_base {X : Type} {v : X → Value} {B' : X → Asn} {L' : X → List Atom} {Φ : X → Prop} {B G : Asn} {L : List Atom} {cl : FuncId} {caps : Array Value} {w : World}
    (hx : ∀ g, callAt Try.prog Try.f63 14 1 [(2, (pg g)), (4, .func (.func cl) #[] caps)] = some (some 5, cl, caps)) (hc : ∀ G w, St B G L w → Calls Try.prog cl caps w (Post v B' G L' Φ)) (hs : St B G L w) :
    Calls Try.prog 63 #[.func (.func cl) #[] caps] w (Post (fun _ => v64 0) B' G L' Φ) := by
  refine calls_of_wp_defers (fn := Try.f63) (c := cd Try.f63 1) Try.func63 (by kernel_rfl) ?_
  have e0 : EnvOk [(0, .func (.func cl) #[] caps)] Try.f63.ntmps { tmps := #[.func (.func cl) #[] caps] ++ Array.replicate (Try.f63.ntmps - (#[.func (.func cl) #[] caps] : Array Value).size) undef, defers := [] } :=
    ⟨by kernel_rfl, rfl, fun t v ht => by
      by_cases h0 : t = 0
      · subst h0; simp at ht; subst ht; rfl
      · simp [List.lookup, h0] at ht
        have : (t == 0) = false := by simpa using h0
        rw [this] at ht; cases ht⟩
  rw [show cd Try.f63 1 = .seq (cd Try.f63 2) (cd Try.f63 3) by kernel_rfl]
  refine wp_seq ?_
  rw [← sh_nil { tmps := #[.func (.func cl) #[] caps] ++ Array.replicate (Try.f63.ntmps - (#[.func (.func cl) #[] caps] : Array Value).size) undef, defers := [] }]
  refine wc_sh [] (J := fun a w => ∃ g, EnvOk [(0, .func (.func cl) #[] caps), (2, (pg g))] Try.f63.ntmps a ∧ St B G (.blk g [v64 0] 37 :: L) w) (by kernel_rfl) ?_ ?_ e0 hs
  rotate_left
  · refine o_stp ?_ (by kernel_rfl)
    refine s_new 2 (fun g => (pg g)) [v64 0] 37 (fun _ => by kernel_rfl) (fun g => ?_)
    refine o_end (by kernel_rfl) ?_
    refine t_env [0, 2] (E' := [(0, .func (.func cl) #[] caps), (2, (pg g))]) (by kernel_rfl) ?_
    exact e_inv (fun a w ha hw => ⟨g, ha, hw⟩)
  rintro a w ⟨g, ha, hs⟩
  show (cd Try.f63 3).wp Try.prog _ (sh [] a) w
  rw [show cd Try.f63 3 = .seq (cd Try.f63 6) (cd Try.f63 7) by kernel_rfl]
  refine wp_seq ?_
  refine wc_sh [] (J := fun a w => ∃ b, a = sh [{ target := .fn (.func 75) #[pg g], args := #[] }] b ∧ EnvOk [(0, .func (.func cl) #[] caps), (2, (pg g))] Try.f63.ntmps b ∧ St B G (.blk g [v64 0] 37 :: L) w) (by kernel_rfl) ?_ ?_ ha hs
  rotate_left
  · refine o_run 1 [0, 2, 3] (l := []) .nil (E' := [(0, .func (.func cl) #[] caps), (2, (pg g)), (3, .func (.func 75) #[] #[pg g])]) (by kernel_rfl) ?_
    refine o_stp ?_ (by kernel_rfl)
    refine s_defer (.defer { callee := .value (.tmp 3), args := #[], argTypes := #[] }) { target := .fn (.func 75) #[pg g], args := #[] } (by kernel_rfl) (fun a o w hop ha => ?_) (fun a w ha hs => ?_)
    · have h3 : a.eval (.tmp 3) = .func (.func 75) #[] #[pg g] := ev_ok ha (by kernel_rfl)
      simp only [execOp, hop, resolve, h3, Deferred.ofValue, Sem.run_bind, Sem.run_pure, Result.andThen_ok]
      simp
    · rw [List.drop_of_length_le (Nat.le_of_ble_eq_true (by kernel_rfl))]
      refine wpList_nil ?_
      show ∃ b, _
      refine ⟨a, ?_, ha.sub (keep_sub (ks := [0, 2]) (by kernel_rfl)), hs⟩
      have hd := ha.2.1
      cases a; simp_all [sh]
  rintro _ w ⟨a, rfl, ha, hs⟩
  rw [sh_nil]
  show (cd Try.f63 7).wp Try.prog _ (sh [{ target := .fn (.func 75) #[pg g], args := #[] }] a) w
  rw [show cd Try.f63 7 = .seq (cd Try.f63 14) (cd Try.f63 15) by kernel_rfl]
  refine wp_seq ?_
  refine wc_sh _ (J := fun a w => ∃ x, Φ x ∧ EnvOk [(2, (pg g))] Try.f63.ntmps a ∧ St (B' x) G (.blk g [v64 0] 37 :: L' x) w) (by kernel_rfl) ?_ ?_ ha hs
  rotate_left
  · refine o_run 1 [2, 4] (l := []) .nil (E' := [(2, (pg g)), (4, .func (.func cl) #[] caps)]) (by kernel_rfl) ?_
    refine o_stp ?_ (by kernel_rfl)
    refine s_callR 5 cl caps (hx g) hc (fun x hx => ?_)
    refine o_end (by kernel_rfl) ?_
    refine t_env [2] (E' := [(2, (pg g))]) (by kernel_rfl) ?_
    exact e_inv (fun a w ha hw => ⟨x, hx, ha, hw⟩)
  rintro a w ⟨x, hx, ha, hs⟩
  show (cd Try.f63 15).wp Try.prog _ (sh _ a) w
  rw [show cd Try.f63 15 = .seq (cd Try.f63 30) (cd Try.f63 31) by kernel_rfl]
  refine wp_seq ?_
  refine wc_sh _ (J := fun a w => EnvOk [(2, (pg g))] Try.f63.ntmps a ∧ St (B' x) G (.blk g [v64 0] 37 :: L' x) w) (by kernel_rfl) ?_ ?_ ha hs
  rotate_left
  · refine o_stp ?_ (by kernel_rfl)
    refine s_store 0 g [v64 0] 37 [(0, v64 0)] (by kernel_rfl) (by kernel_rfl) (by kernel_rfl) ?_
    refine t_L (L' := .blk g [v64 0] 37 :: L' x) (by kernel_rfl) ?_
    refine o_end (by kernel_rfl) ?_
    exact e_inv (fun a w ha hw => ⟨ha, hw⟩)
  rintro a w ⟨ha, hs⟩
  show (cd Try.f63 31).wp Try.prog _ (sh _ a) w
  rw [show cd Try.f63 31 = .ret by kernel_rfl]
  refine wp_ret ?_
  show Leaves Try.prog Try.f63 (sh _ a).tmps _ (sh _ a).defers .returning w
  rw [show ∀ D : List Deferred, (sh D a).defers = D from fun D => by simp [sh, ha.2.1]]
  refine leaves_cons (f := 75) (args := #[pg g]) (by simp) (by rfl) ?_
  refine callsD_of_wpS (fn := Try.f75) (c := cd Try.f75 1) Try.func75 (by kernel_rfl) (fun c₀ cs hu => ?_)
  have e1 : EnvOk [(0, (pg g))] Try.f75.ntmps { tmps := #[pg g] ++ Array.replicate (Try.f75.ntmps - (#[pg g] : Array Value).size) undef, defers := [] } :=
    ⟨by kernel_rfl, rfl, fun t v ht => by
      by_cases h0 : t = 0
      · subst h0; simp at ht; subst ht; rfl
      · have : (t == 0) = false := by simpa using h0
        simp [List.lookup, this] at ht⟩
  rw [show cd Try.f75 1 = .seq (cd Try.f75 2) (cd Try.f75 3) by kernel_rfl]
  refine wpS_seq ?_
  obtain ⟨id2, q2⟩ := cd_rg (F := Try.f75) (n := 2) (d := false) (by kernel_rfl)
  rw [q2]
  refine wpS_region ?_
  rw [show List.range (rg Try.f75 2).size = [0, 1] by kernel_rfl]
  refine sS_rec 4 (by kernel_rfl) e1 (recoverD_ret hu) (fun a1 h1 => ?_)
  refine sS_val 1 .nilIface (by kernel_rfl) h1 (fun a2 h2 => ?_)
  show (cd Try.f75 3).wpS Try.prog _ a2 (c₀ :: cs) w
  rw [show cd Try.f75 3 = .seq (cd Try.f75 6) (cd Try.f75 7) by kernel_rfl]
  refine wpS_seq ?_
  rw [show cd Try.f75 6 = .seq (cd Try.f75 12) (cd Try.f75 13) by kernel_rfl]
  refine wpS_seq ?_
  obtain ⟨id3, q3⟩ := cd_rg (F := Try.f75) (n := 12) (d := false) (by kernel_rfl)
  rw [q3]
  refine wpS_region ?_
  rw [show List.range (rg Try.f75 12).size = [0, 1] by kernel_rfl]
  refine sS_val 5 .nilIface (by kernel_rfl) h2 (fun a3 h3 => ?_)
  refine sS_val 6 (vb true) (by kernel_rfl) h3 (fun a4 h4 => ?_)
  show (cd Try.f75 13).wpS Try.prog _ a4 (c₀ :: cs) w
  rw [show cd Try.f75 13 = .cond (.tmp 6) (cd Try.f75 26) (cd Try.f75 27) by kernel_rfl]
  refine wpS_cond (t := true) (ev_ok h4 (by kernel_rfl)) ?_
  rw [if_pos rfl, show cd Try.f75 26 = .ret by kernel_rfl]
  refine wpS_of_wp (wp_ret ?_)
  refine ⟨h4.2.1, .returning, by rw [← hu], .tuple #[], resL_run [] h4 hs .nil (by kernel_rfl), ?_⟩
  refine ⟨v64 0, resL_run (a := a) [(⟨g, 0, none⟩, v64 0)] ha hs (.one (at_blk (j := 0) rfl rfl) .nil) (by kernel_rfl), x, hx, rfl, ?_⟩
  exact hs.tail

def oR_Left.f (a0 : TR) : Option (Int) :=
  (some (a0.xb.length : Int))
theorem oR_Left_ok (a0 : TR) (r : Int) (hm : oR_Left.f a0 = some r) (B G : Asn) (g1 : Nat) (A1 : Option Addr) (c1 : Nat) (w : World) (hs : St B G [.blk g1 [.slice A1 a0.xb.length c1] 110, .own A1 a0.xb.length c1 (rowOf e8 a0.xb) 1 5] w) :
    Calls Try.prog 65 #[pg g1] w (Post (X := Unit) (fun x => v64 r) (fun x => B) G (fun x => [.blk g1 [.slice A1 a0.xb.length c1] 110, .own A1 a0.xb.length c1 (rowOf e8 a0.xb) 1 5]) (fun x => True)) := by
  unfold oR_Left.f at hm
  refine calls_W (F := Try.f65) Try.func65 rfl (by kernel_rfl) (L := [.blk g1 [.slice A1 a0.xb.length c1] 110, .own A1 a0.xb.length c1 (rowOf e8 a0.xb) 1 5]) ?_ hs
  refine w_seq 2 3 (by kernel_rfl) ?_
  refine w_region (by kernel_rfl) ?_
  refine o_run 1 [0] (l := []) .nil (E' := [(0, (pg g1))]) (by kernel_rfl) ?_
  refine o_end (by kernel_rfl) ?_
  refine e_seq ?_
  refine w_seq 6 7 (by kernel_rfl) ?_
  refine w_seq 12 13 (by kernel_rfl) ?_
  refine w_region (by kernel_rfl) ?_
  refine o_run 2 [0, 4] (l := []) .nil (E' := [(0, (pg g1)), (4, vb false)]) (by kernel_rfl) ?_
  refine o_end (by kernel_rfl) ?_
  refine e_seq ?_
  refine w_cond_f (.tmp 4) 26 27 (by kernel_rfl) (by kernel_rfl) ?_
  refine w_skip (by kernel_rfl) ?_
  refine e_seq ?_
  refine w_seq 14 15 (by kernel_rfl) ?_
  refine w_region (by kernel_rfl) ?_
  refine o_run 6 [2] (l := [(⟨g1, 0, none⟩, .slice A1 a0.xb.length c1)]) (.one (at_blk (j := 0) rfl rfl) .nil) (E' := [(2, v64 (a0.xb.length : Int))]) (by kernel_rfl) ?_
  refine o_end (by kernel_rfl) ?_
  refine e_seq ?_
  refine w_ret (by kernel_rfl) ?_
  obtain rfl := Option.some.inj hm
  exact e_retP () (v64 (a0.xb.length : Int)) [0, 1] (by kernel_rfl) (by kernel_rfl) rfl (by kernel_rfl) (by kernel_rfl) trivial
def oR_Bytes.f (a0 : TR) (a1 : Int) : Option ((List Int) × TR) :=
  ((oR_Left.f a0).bind fun t1 => (if decide ((imax a1 0) > t1) then none else (if (imax a1 0) == 0 then (some (([] : List Int), a0)) else ((cut a0.xb 0 (imax a1 0)).bind fun l1 => ((cut a0.xb (imax a1 0) (a0.xb.length : Int)).bind fun l2 => (some (l1, (⟨l2⟩ : TR))))))))
theorem oR_Bytes_ok (a0 : TR) (a1 : Int) (r : (List Int) × TR) (hm : oR_Bytes.f a0 a1 = some r) (B G : Asn) (g1 : Nat) (A1 : Option Addr) (c1 : Nat) (w : World) (hs : St B G [.blk g1 [.slice A1 a0.xb.length c1] 110, .own A1 a0.xb.length c1 (rowOf e8 a0.xb) 1 5] w) :
    Calls Try.prog 80 #[pg g1, v64 a1] w (Post (X := Asn × (Option Addr) × Nat × (Option Addr) × Nat) (fun x => .slice x.2.1 r.1.length x.2.2.1) (fun x => x.1) G (fun x => [.blk g1 [.slice x.2.2.2.1 r.2.xb.length x.2.2.2.2] 110]) (fun x => (Ext B x.1) ∧ (Sl (kI .u8) x.1 x.2.1 x.2.2.1 r.1) ∧ (Sl (kI .u8) x.1 x.2.2.2.1 x.2.2.2.2 r.2.xb))) := by
  unfold oR_Bytes.f at hm
  refine calls_W (F := Try.f80) Try.func80 rfl (by kernel_rfl) (L := [.blk g1 [.slice A1 a0.xb.length c1] 110, .own A1 a0.xb.length c1 (rowOf e8 a0.xb) 1 5]) ?_ hs
  refine w_seq 2 3 (by kernel_rfl) ?_
  refine w_region (by kernel_rfl) ?_
  refine o_run 1 [0, 1] (l := []) .nil (E' := [(0, (pg g1)), (1, v64 a1)]) (by kernel_rfl) ?_
  refine o_end (by kernel_rfl) ?_
  refine e_seq ?_
  refine w_seq 6 7 (by kernel_rfl) ?_
  refine w_region (by kernel_rfl) ?_
  refine o_run 3 [0, 1] (l := []) .nil (E' := [(0, (pg g1)), (1, v64 (imax a1 0))]) (by kernel_rfl) ?_
  refine o_end (by kernel_rfl) ?_
  refine e_seq ?_
  refine w_seq 14 15 (by kernel_rfl) ?_
  refine w_seq 28 29 (by kernel_rfl) ?_
  refine w_region (by kernel_rfl) ?_
  refine o_run 2 [0, 1, 8, 9] (l := []) .nil (E' := [(0, (pg g1)), (1, v64 (imax a1 0)), (8, v64 (imax a1 0)), (9, (pg g1))]) (by kernel_rfl) ?_
  obtain ⟨t1, hx1, hm⟩ := bind_some hm
  refine o_stp ?_ (by kernel_rfl)
  refine s_call 10 65 #[pg g1] [0, 1] [] (by kernel_rfl) (by kernel_rfl) (fun w hs => oR_Left_ok a0 t1 hx1 B _ g1 A1 c1 w (St.cast (by kernel_rfl) hs)) (fun _ hx => ?_)
  refine t_L (L' := [.blk g1 [.slice A1 a0.xb.length c1] 110, .own A1 a0.xb.length c1 (rowOf e8 a0.xb) 1 5]) (by kernel_rfl) ?_
  refine o_run 1 [0, 1, 11] (l := []) .nil (E' := [(0, (pg g1)), (1, v64 (imax a1 0)), (11, vb (decide ((imax a1 0) > t1)))]) (by kernel_rfl) ?_
  refine o_end (by kernel_rfl) ?_
  refine e_seq ?_
  refine w_cond (.tmp 11) 58 59 (decide ((imax a1 0) > t1)) (by kernel_rfl) (by kernel_rfl) (fun hb1 => ?_) (fun hb1 => ?_)
  · replace hm := ite_t hb1 hm
    refine w_region (by kernel_rfl) ?_
    refine o_run 1 [0, 1, 12] (l := []) .nil (E' := [(0, (pg g1)), (1, v64 (imax a1 0)), (12, .agg #[])]) (by kernel_rfl) ?_
    cases hm
  · replace hm := ite_f hb1 hm
    refine w_skip (by kernel_rfl) ?_
    refine e_seq ?_
    refine w_seq 30 31 (by kernel_rfl) ?_
    refine w_seq 60 61 (by kernel_rfl) ?_
    refine w_region (by kernel_rfl) ?_
    refine o_run 2 [0, 1, 15] (l := []) .nil (E' := [(0, (pg g1)), (1, v64 (imax a1 0)), (15, vb ((imax a1 0) == 0))]) (by kernel_rfl) ?_
    refine o_end (by kernel_rfl) ?_
    refine e_seq ?_
    refine w_cond (.tmp 15) 122 123 ((imax a1 0) == 0) (by kernel_rfl) (by kernel_rfl) (fun hb2 => ?_) (fun hb2 => ?_)
    · replace hm := ite_t hb2 hm
      refine w_seq 244 245 (by kernel_rfl) ?_
      refine w_region (by kernel_rfl) ?_
      refine o_run 1 [4] (l := []) .nil (E' := [(4, .slice none 0 0)]) (by kernel_rfl) ?_
      refine o_end (by kernel_rfl) ?_
      refine e_seq ?_
      refine w_ret (by kernel_rfl) ?_
      refine t_drop [1, 0] (by kernel_rfl) ?_
      refine t_L (L' := [.own A1 a0.xb.length c1 (rowOf e8 a0.xb) 1 5, .blk g1 [.slice A1 a0.xb.length c1] 110]) (by kernel_rfl) ?_
      refine t_frozS (kI .u8) rfl rfl (fun B1 hx2 hs1 => ?_)
      obtain rfl := Option.some.inj hm
      exact e_retP (B1, none, 0, A1, c1) (.slice none ([] : List Int).length 0) [0] (by kernel_rfl) (by kernel_rfl) rfl (by kernel_rfl) (by kernel_rfl) ⟨hx2, ((Sl.nil (kI .u8) B none 0).up hx2), hs1⟩
    · replace hm := ite_f hb2 hm
      refine w_skip (by kernel_rfl) ?_
      refine e_seq ?_
      refine w_seq 62 63 (by kernel_rfl) ?_
      refine w_region (by kernel_rfl) ?_
      refine o_run 6 [0, 1, 19, 20, 21] (l := [(⟨g1, 0, none⟩, .slice A1 a0.xb.length c1)]) (.one (at_blk (j := 0) rfl rfl) .nil) (E' := [(0, (pg g1)), (1, v64 (imax a1 0)), (19, .slice A1 a0.xb.length c1), (20, v64 (imax a1 0)), (21, v64 (imax a1 0))]) (by kernel_rfl) ?_
      refine t_drop [1, 0] (by kernel_rfl) ?_
      refine t_L (L' := [.own A1 a0.xb.length c1 (rowOf e8 a0.xb) 1 5, .blk g1 [.slice A1 a0.xb.length c1] 110]) (by kernel_rfl) ?_
      refine t_frozS (kI .u8) rfl rfl (fun B2 hx3 hs2 => ?_)
      obtain ⟨l1, hx4, hm⟩ := bind_some hm
      refine o_val 22 (.slice 32 (.tmp 19) none (some (.tmp 20)) (some (.tmp 21))) (.slice (cutA A1 (Int.toNat 0) (Int.toNat (imax a1 0)) 1) l1.length (Int.toNat (imax a1 0) - Int.toNat 0)) (by kernel_rfl) (i_slice3 32 (.tmp 19) none (some (.tmp 20)) (some (.tmp 21)) hs2 hx4 (by kernel_rfl) (by kernel_rfl) (by kernel_rfl) (by kernel_rfl) (by kernel_rfl) rfl) ?_
      have hs3 := sl_cut3 hs2 hx4
      refine o_run 1 [0, 1, 5] (l := []) .nil (E' := [(0, (pg g1)), (1, v64 (imax a1 0)), (5, .slice (cutA A1 (Int.toNat 0) (Int.toNat (imax a1 0)) 1) l1.length (Int.toNat (imax a1 0) - Int.toNat 0))]) (by kernel_rfl) ?_
      refine o_end (by kernel_rfl) ?_
      refine e_seq ?_
      refine w_seq 126 127 (by kernel_rfl) ?_
      refine w_region (by kernel_rfl) ?_
      refine o_run 6 [5, 23, 27, 28] (l := [(⟨g1, 0, none⟩, .slice A1 a0.xb.length c1)]) (.one (at_blk (j := 0) rfl rfl) .nil) (E' := [(5, .slice (cutA A1 (Int.toNat 0) (Int.toNat (imax a1 0)) 1) l1.length (Int.toNat (imax a1 0) - Int.toNat 0)), (23, (pg g1)), (27, .slice A1 a0.xb.length c1), (28, v64 (imax a1 0))]) (by kernel_rfl) ?_
      obtain ⟨l2, hx5, hm⟩ := bind_some hm
      refine o_val 29 (.slice 32 (.tmp 27) (some (.tmp 28)) none none) (.slice (cutA A1 (Int.toNat (imax a1 0)) c1 1) l2.length (c1 - Int.toNat (imax a1 0))) (by kernel_rfl) (i_slice 32 (.tmp 27) (some (.tmp 28)) none hs2 hx5 (by kernel_rfl) (by kernel_rfl) (by kernel_rfl) (by kernel_rfl)) ?_
      have hs4 := sl_cut hs2 hx5
      refine o_run 2 [5, 29, 31] (l := []) .nil (E' := [(5, .slice (cutA A1 (Int.toNat 0) (Int.toNat (imax a1 0)) 1) l1.length (Int.toNat (imax a1 0) - Int.toNat 0)), (29, .slice (cutA A1 (Int.toNat (imax a1 0)) c1 1) l2.length (c1 - Int.toNat (imax a1 0))), (31, (pg g1))]) (by kernel_rfl) ?_
      refine o_stp ?_ (by kernel_rfl)
      refine s_store 0 g1 [.slice A1 a0.xb.length c1] 110 [(0, .slice (cutA A1 (Int.toNat (imax a1 0)) c1 1) l2.length (c1 - Int.toNat (imax a1 0)))] (by kernel_rfl) (by kernel_rfl) (by kernel_rfl) ?_
      refine t_L (L' := [.blk g1 [.slice (cutA A1 (Int.toNat (imax a1 0)) c1 1) l2.length (c1 - Int.toNat (imax a1 0))] 110]) (by kernel_rfl) ?_
      refine o_end (by kernel_rfl) ?_
      refine e_seq ?_
      refine w_seq 254 255 (by kernel_rfl) ?_
      refine w_region (by kernel_rfl) ?_
      refine o_run 2 [4] (l := []) .nil (E' := [(4, .slice (cutA A1 (Int.toNat 0) (Int.toNat (imax a1 0)) 1) l1.length (Int.toNat (imax a1 0) - Int.toNat 0))]) (by kernel_rfl) ?_
      refine o_end (by kernel_rfl) ?_
      refine e_seq ?_
      refine w_ret (by kernel_rfl) ?_
      obtain rfl := Option.some.inj hm
      exact e_retP (B2, (cutA A1 (Int.toNat 0) (Int.toNat (imax a1 0)) 1), (Int.toNat (imax a1 0) - Int.toNat 0), (cutA A1 (Int.toNat (imax a1 0)) c1 1), (c1 - Int.toNat (imax a1 0))) (.slice (cutA A1 (Int.toNat 0) (Int.toNat (imax a1 0)) 1) l1.length (Int.toNat (imax a1 0) - Int.toNat 0)) [0] (by kernel_rfl) (by kernel_rfl) rfl (by kernel_rfl) (by kernel_rfl) ⟨hx3, hs3, hs4⟩
def octets_Get.l1 : Nat → (List Int) → Int → Int → Option (Int)
  | 0, _, _, _ => none
  | k + 1, l1, p1, p2 => (if decide (p2 < (l1.length : Int)) then ((idx l1 p2).bind fun e1 => (octets_Get.l1 k l1 (bor .u64 (bshl .u64 p1 8) (U64 e1)) (I64 (p2 + 1)))) else (some p1))
def octets_Get.f (k : Nat) (a0 : List Int) : Option (Int) :=
  ((cut a0 (imax (I64 ((a0.length : Int) - 8)) 0) (a0.length : Int)).bind fun l1 => ((octets_Get.l1 k l1 0 0).bind fun t1 => (some t1)))
theorem octets_Get_ok (k : Nat) (a0 : List Int) (r : Int) (hm : octets_Get.f k a0 = some r) (B G : Asn) (A1 : Option Addr) (c1 : Nat) (hs1 : Sl (kI .u8) B A1 c1 a0) (w : World) (hs : St B G [] w) :
    Calls Try.prog 79 #[.slice A1 a0.length c1] w (Post (X := Unit) (fun x => w64 r) (fun x => B) G (fun x => []) (fun x => True)) := by
  unfold octets_Get.f at hm
  refine calls_W (F := Try.f79) Try.func79 rfl (by kernel_rfl) (L := []) ?_ hs
  refine w_seq 2 3 (by kernel_rfl) ?_
  refine w_region (by kernel_rfl) ?_
  refine o_run 1 [0] (l := []) .nil (E' := [(0, .slice A1 a0.length c1)]) (by kernel_rfl) ?_
  refine o_end (by kernel_rfl) ?_
  refine e_seq ?_
  refine w_seq 6 7 (by kernel_rfl) ?_
  refine w_region (by kernel_rfl) ?_
  refine o_run 1 [0, 3] (l := []) .nil (E' := [(0, .slice A1 a0.length c1), (3, w64 0)]) (by kernel_rfl) ?_
  refine o_end (by kernel_rfl) ?_
  refine e_seq ?_
  refine w_seq 14 15 (by kernel_rfl) ?_
  refine w_seq 28 29 (by kernel_rfl) ?_
  refine w_region (by kernel_rfl) ?_
  refine o_run 5 [3, 6, 10] (l := []) .nil (E' := [(3, w64 0), (6, .slice A1 a0.length c1), (10, v64 (imax (I64 ((a0.length : Int) - 8)) 0))]) (by kernel_rfl) ?_
  obtain ⟨l1, hx1, hm⟩ := bind_some hm
  refine o_val 11 (.slice 32 (.tmp 6) (some (.tmp 10)) none none) (.slice (cutA A1 (Int.toNat (imax (I64 ((a0.length : Int) - 8)) 0)) c1 1) l1.length (c1 - Int.toNat (imax (I64 ((a0.length : Int) - 8)) 0))) (by kernel_rfl) (i_slice 32 (.tmp 6) (some (.tmp 10)) none hs1 hx1 (by kernel_rfl) (by kernel_rfl) (by kernel_rfl) (by kernel_rfl)) ?_
  have hs2 := sl_cut hs1 hx1
  refine o_run 2 [3, 11, 12, 13] (l := []) .nil (E' := [(3, w64 0), (11, .slice (cutA A1 (Int.toNat (imax (I64 ((a0.length : Int) - 8)) 0)) c1 1) l1.length (c1 - Int.toNat (imax (I64 ((a0.length : Int) - 8)) 0))), (12, v64 (l1.length : Int)), (13, v64 0)]) (by kernel_rfl) ?_
  refine o_end (by kernel_rfl) ?_
  refine e_seq ?_
  refine w_block 0 58 (by kernel_rfl) ?_
  obtain ⟨t1, ht1, ho1⟩ := bind_some hm
  refine t_env [3, 11, 12, 13] (E' := [(3, w64 0), (11, .slice (cutA A1 (Int.toNat (imax (I64 ((a0.length : Int) - 8)) 0)) c1 1) l1.length (c1 - Int.toNat (imax (I64 ((a0.length : Int) - 8)) 0))), (12, v64 (l1.length : Int)), (13, v64 0)]) (by kernel_rfl) ?_
  refine w_loopJ 116 0 (fun k a w => ∃ (p1 : Int) (p2 : Int), octets_Get.l1 k l1 p1 p2 = some t1 ∧ EnvOk [(3, w64 p1), (11, .slice (cutA A1 (Int.toNat (imax (I64 ((a0.length : Int) - 8)) 0)) c1 1) l1.length (c1 - Int.toNat (imax (I64 ((a0.length : Int) - 8)) 0))), (12, v64 (l1.length : Int)), (13, v64 p2)] Try.f79.ntmps a ∧ St B G [] w) (fun a w => EnvOk [(3, w64 t1)] Try.f79.ntmps a ∧ St B G [] w) (by kernel_rfl) ?_ ?_ k ?_
  · rintro a w ⟨ha, hw⟩
    refine we_of (E := [(3, w64 t1)]) (B := B) (G := G) (L := []) ?_ ha hw
    have hm := ho1
    refine e_seq ?_
    refine w_seq 30 31 (by kernel_rfl) ?_
    refine w_region (by kernel_rfl) ?_
    refine o_run 2 [2] (l := []) .nil (E' := [(2, w64 t1)]) (by kernel_rfl) ?_
    refine o_end (by kernel_rfl) ?_
    refine e_seq ?_
    refine w_ret (by kernel_rfl) ?_
    obtain rfl := Option.some.inj hm
    exact e_retP () (w64 t1) [] (by kernel_rfl) (by kernel_rfl) rfl (by kernel_rfl) (by kernel_rfl) trivial
  · rintro k a w ⟨p1, p2, hm, ha, hw⟩
    cases k with
    | zero => exact absurd hm (by simp [octets_Get.l1])
    | succ k =>
      unfold octets_Get.l1 at hm
      refine wc_of (E := [(3, w64 p1), (11, .slice (cutA A1 (Int.toNat (imax (I64 ((a0.length : Int) - 8)) 0)) c1 1) l1.length (c1 - Int.toNat (imax (I64 ((a0.length : Int) - 8)) 0))), (12, v64 (l1.length : Int)), (13, v64 p2)]) (B := B) (G := G) (L := []) ?_ ha hw
      refine w_seq 232 233 (by kernel_rfl) ?_
      refine w_region (by kernel_rfl) ?_
      refine o_run 1 [3, 11, 12, 13, 14] (l := []) .nil (E' := [(3, w64 p1), (11, .slice (cutA A1 (Int.toNat (imax (I64 ((a0.length : Int) - 8)) 0)) c1 1) l1.length (c1 - Int.toNat (imax (I64 ((a0.length : Int) - 8)) 0))), (12, v64 (l1.length : Int)), (13, v64 p2), (14, vb (decide (p2 < (l1.length : Int))))]) (by kernel_rfl) ?_
      refine o_end (by kernel_rfl) ?_
      refine e_seq ?_
      refine w_seq 466 467 (by kernel_rfl) ?_
      refine w_cond (.tmp 14) 932 933 (decide (p2 < (l1.length : Int))) (by kernel_rfl) (by kernel_rfl) (fun hb1 => ?_) (fun hb1 => ?_)
      · replace hm := ite_t hb1 hm
        refine w_skip (by kernel_rfl) ?_
        refine e_seq ?_
        refine w_seq 934 935 (by kernel_rfl) ?_
        refine w_block 1 1868 (by kernel_rfl) ?_
        refine w_seq 3736 3737 (by kernel_rfl) ?_
        refine w_region (by kernel_rfl) ?_
        obtain ⟨e1, hx2, hm⟩ := bind_some hm
        obtain ⟨hi1, hi2, hg1⟩ := idx_some hx2
        obtain ⟨cs1, hk1, hc1⟩ := (hs2).at hg1
        obtain rfl := hk1
        refine o_val 15 (.indexAddr 32 (.tmp 11) (.tmp 13)) (.pointer (some (adr (cutA A1 (Int.toNat (imax (I64 ((a0.length : Int) - 8)) 0)) c1 1) (Int.toNat p2 * 1)))) (by kernel_rfl) (v_index (k := .i64) (c := (c1 - Int.toNat (imax (I64 ((a0.length : Int) - 8)) 0))) (by kernel_rfl) (by kernel_rfl) (by kernel_rfl) hi1 hi2 ((hs2).some hg1)) ?_
        refine o_run 2 [3, 5, 11, 12, 13] (l := [((adr (cutA A1 (Int.toNat (imax (I64 ((a0.length : Int) - 8)) 0)) c1 1) (Int.toNat p2 * 1)), v8 e1)]) (.one ((at_sl hc1).sub 0 rfl) .nil) (E' := [(3, w64 p1), (5, v8 e1), (11, .slice (cutA A1 (Int.toNat (imax (I64 ((a0.length : Int) - 8)) 0)) c1 1) l1.length (c1 - Int.toNat (imax (I64 ((a0.length : Int) - 8)) 0))), (12, v64 (l1.length : Int)), (13, v64 p2)]) (by kernel_rfl) ?_
        refine o_end (by kernel_rfl) ?_
        refine e_seq ?_
        refine w_region (by kernel_rfl) ?_
        refine o_run 6 [3, 11, 12, 13] (l := []) .nil (E' := [(3, w64 (bor .u64 (bshl .u64 p1 8) (U64 e1))), (11, .slice (cutA A1 (Int.toNat (imax (I64 ((a0.length : Int) - 8)) 0)) c1 1) l1.length (c1 - Int.toNat (imax (I64 ((a0.length : Int) - 8)) 0))), (12, v64 (l1.length : Int)), (13, v64 p2)]) (by kernel_rfl) ?_
        refine o_end (by kernel_rfl) ?_
        refine e_blk ?_
        refine e_seq ?_
        refine w_region (by kernel_rfl) ?_
        refine o_run 2 [3, 11, 12, 13] (l := []) .nil (E' := [(3, w64 (bor .u64 (bshl .u64 p1 8) (U64 e1))), (11, .slice (cutA A1 (Int.toNat (imax (I64 ((a0.length : Int) - 8)) 0)) c1 1) l1.length (c1 - Int.toNat (imax (I64 ((a0.length : Int) - 8)) 0))), (12, v64 (l1.length : Int)), (13, v64 (I64 (p2 + 1)))]) (by kernel_rfl) ?_
        refine o_end (by kernel_rfl) ?_
        refine t_drop [] (by kernel_rfl) ?_
        refine t_L (L' := []) (by kernel_rfl) ?_
        refine t_env [3, 11, 12, 13] (E' := [(3, w64 (bor .u64 (bshl .u64 p1 8) (U64 e1))), (11, .slice (cutA A1 (Int.toNat (imax (I64 ((a0.length : Int) - 8)) 0)) c1 1) l1.length (c1 - Int.toNat (imax (I64 ((a0.length : Int) - 8)) 0))), (12, v64 (l1.length : Int)), (13, v64 (I64 (p2 + 1)))]) (by kernel_rfl) ?_
        exact e_inv (fun a w ha hw => ⟨k, Nat.lt_succ_self k, (bor .u64 (bshl .u64 p1 8) (U64 e1)), (I64 (p2 + 1)), hm, ha, hw⟩)
      · replace hm := ite_f hb1 hm
        refine w_exit 0 (by kernel_rfl) ?_
        refine e_x_seq ?_
        refine e_x_inv ?_
        refine e_x_here ?_
        refine t_drop [] (by kernel_rfl) ?_
        refine t_L (L' := []) (by kernel_rfl) ?_
        refine t_env [3] (E' := [(3, w64 p1)]) (by kernel_rfl) ?_
        obtain rfl := Option.some.inj hm
        exact e_inv (fun a w ha hw => ⟨ha, hw⟩)
  · exact fun a w ha hw => ⟨0, 0, ht1, ha, hw⟩
def oR_Num.f (k : Nat) (a0 : TR) (a1 : Int) : Option (Int × TR) :=
  ((oR_Bytes.f a0 (imin a1 8)).bind fun t1 => ((octets_Get.f k t1.1).bind fun t2 => (some (t2, t1.2))))
theorem oR_Num_ok (k : Nat) (a0 : TR) (a1 : Int) (r : Int × TR) (hm : oR_Num.f k a0 a1 = some r) (B G : Asn) (g1 : Nat) (A1 : Option Addr) (c1 : Nat) (w : World) (hs : St B G [.blk g1 [.slice A1 a0.xb.length c1] 110, .own A1 a0.xb.length c1 (rowOf e8 a0.xb) 1 5] w) :
    Calls Try.prog 68 #[pg g1, v64 a1] w (Post (X := Asn × (Option Addr) × Nat) (fun x => w64 r.1) (fun x => x.1) G (fun x => [.blk g1 [.slice x.2.1 r.2.xb.length x.2.2] 110]) (fun x => (Ext B x.1) ∧ (Sl (kI .u8) x.1 x.2.1 x.2.2 r.2.xb))) := by
  unfold oR_Num.f at hm
  refine calls_W (F := Try.f68) Try.func68 rfl (by kernel_rfl) (L := [.blk g1 [.slice A1 a0.xb.length c1] 110, .own A1 a0.xb.length c1 (rowOf e8 a0.xb) 1 5]) ?_ hs
  refine w_seq 2 3 (by kernel_rfl) ?_
  refine w_region (by kernel_rfl) ?_
  refine o_run 1 [0, 1] (l := []) .nil (E' := [(0, (pg g1)), (1, v64 a1)]) (by kernel_rfl) ?_
  refine o_end (by kernel_rfl) ?_
  refine e_seq ?_
  refine w_seq 6 7 (by kernel_rfl) ?_
  refine w_region (by kernel_rfl) ?_
  refine o_run 3 [5, 7] (l := []) .nil (E' := [(5, (pg g1)), (7, v64 (imin a1 8))]) (by kernel_rfl) ?_
  obtain ⟨t1, hx1, hm⟩ := bind_some hm
  refine o_stp ?_ (by kernel_rfl)
  refine s_call 8 80 #[pg g1, v64 (imin a1 8)] [0, 1] [] (by kernel_rfl) (by kernel_rfl) (fun w hs => oR_Bytes_ok a0 (imin a1 8) t1 hx1 B _ g1 A1 c1 w (St.cast (by kernel_rfl) hs)) (fun x hx => ?_)
  obtain ⟨B1, A2, c2, A3, c3⟩ := x
  obtain ⟨hx2, hs1, hs2⟩ := hx
  refine t_L (L' := [.blk g1 [.slice A3 t1.2.xb.length c3] 110]) (by kernel_rfl) ?_
  obtain ⟨t2, hx3, hm⟩ := bind_some hm
  refine o_stp ?_ (by kernel_rfl)
  refine s_call 9 79 #[.slice A2 t1.1.length c2] [] [0] (by kernel_rfl) (by kernel_rfl) (fun w hs => octets_Get_ok k t1.1 t2 hx3 B1 _ A2 c2 hs1 w (St.cast (by kernel_rfl) hs)) (fun _ hx => ?_)
  refine t_L (L' := [.blk g1 [.slice A3 t1.2.xb.length c3] 110]) (by kernel_rfl) ?_
  refine o_run 1 [4] (l := []) .nil (E' := [(4, w64 t2)]) (by kernel_rfl) ?_
  refine o_end (by kernel_rfl) ?_
  refine e_seq ?_
  refine w_ret (by kernel_rfl) ?_
  obtain rfl := Option.some.inj hm
  exact e_retP (B1, A3, c3) (w64 t2) [0] (by kernel_rfl) (by kernel_rfl) rfl (by kernel_rfl) (by kernel_rfl) ⟨hx2, hs2⟩
def oR_Left_2.f (a0 : TR) : Option (Int) :=
  (some (a0.xb.length : Int))
theorem oR_Left_2_ok (a0 : TR) (r : Int) (hm : oR_Left_2.f a0 = some r) (B G : Asn) (g1 : Nat) (A1 : Option Addr) (c1 : Nat) (hs1 : Sl (kI .u8) B A1 c1 a0.xb) (w : World) (hs : St B G [.blk g1 [.slice A1 a0.xb.length c1] 110] w) :
    Calls Try.prog 65 #[pg g1] w (Post (X := Unit) (fun x => v64 r) (fun x => B) G (fun x => [.blk g1 [.slice A1 a0.xb.length c1] 110]) (fun x => True)) := by
  unfold oR_Left_2.f at hm
  refine calls_W (F := Try.f65) Try.func65 rfl (by kernel_rfl) (L := [.blk g1 [.slice A1 a0.xb.length c1] 110]) ?_ hs
  refine w_seq 2 3 (by kernel_rfl) ?_
  refine w_region (by kernel_rfl) ?_
  refine o_run 1 [0] (l := []) .nil (E' := [(0, (pg g1))]) (by kernel_rfl) ?_
  refine o_end (by kernel_rfl) ?_
  refine e_seq ?_
  refine w_seq 6 7 (by kernel_rfl) ?_
  refine w_seq 12 13 (by kernel_rfl) ?_
  refine w_region (by kernel_rfl) ?_
  refine o_run 2 [0, 4] (l := []) .nil (E' := [(0, (pg g1)), (4, vb false)]) (by kernel_rfl) ?_
  refine o_end (by kernel_rfl) ?_
  refine e_seq ?_
  refine w_cond_f (.tmp 4) 26 27 (by kernel_rfl) (by kernel_rfl) ?_
  refine w_skip (by kernel_rfl) ?_
  refine e_seq ?_
  refine w_seq 14 15 (by kernel_rfl) ?_
  refine w_region (by kernel_rfl) ?_
  refine o_run 6 [2] (l := [(⟨g1, 0, none⟩, .slice A1 a0.xb.length c1)]) (.one (at_blk (j := 0) rfl rfl) .nil) (E' := [(2, v64 (a0.xb.length : Int))]) (by kernel_rfl) ?_
  refine o_end (by kernel_rfl) ?_
  refine e_seq ?_
  refine w_ret (by kernel_rfl) ?_
  obtain rfl := Option.some.inj hm
  exact e_retP () (v64 (a0.xb.length : Int)) [0] (by kernel_rfl) (by kernel_rfl) rfl (by kernel_rfl) (by kernel_rfl) trivial
def oR_Bytes_2.f (a0 : TR) (a1 : Int) : Option ((List Int) × TR) :=
  ((oR_Left_2.f a0).bind fun t1 => (if decide ((imax a1 0) > t1) then none else (if (imax a1 0) == 0 then (some (([] : List Int), a0)) else ((cut a0.xb 0 (imax a1 0)).bind fun l1 => ((cut a0.xb (imax a1 0) (a0.xb.length : Int)).bind fun l2 => (some (l1, (⟨l2⟩ : TR))))))))
theorem oR_Bytes_2_ok (a0 : TR) (a1 : Int) (r : (List Int) × TR) (hm : oR_Bytes_2.f a0 a1 = some r) (B G : Asn) (g1 : Nat) (A1 : Option Addr) (c1 : Nat) (hs1 : Sl (kI .u8) B A1 c1 a0.xb) (w : World) (hs : St B G [.blk g1 [.slice A1 a0.xb.length c1] 110] w) :
    Calls Try.prog 80 #[pg g1, v64 a1] w (Post (X := (Option Addr) × Nat × (Option Addr) × Nat) (fun x => .slice x.1 r.1.length x.2.1) (fun x => B) G (fun x => [.blk g1 [.slice x.2.2.1 r.2.xb.length x.2.2.2] 110]) (fun x => (Sl (kI .u8) B x.1 x.2.1 r.1) ∧ (Sl (kI .u8) B x.2.2.1 x.2.2.2 r.2.xb))) := by
  unfold oR_Bytes_2.f at hm
  refine calls_W (F := Try.f80) Try.func80 rfl (by kernel_rfl) (L := [.blk g1 [.slice A1 a0.xb.length c1] 110]) ?_ hs
  refine w_seq 2 3 (by kernel_rfl) ?_
  refine w_region (by kernel_rfl) ?_
  refine o_run 1 [0, 1] (l := []) .nil (E' := [(0, (pg g1)), (1, v64 a1)]) (by kernel_rfl) ?_
  refine o_end (by kernel_rfl) ?_
  refine e_seq ?_
  refine w_seq 6 7 (by kernel_rfl) ?_
  refine w_region (by kernel_rfl) ?_
  refine o_run 3 [0, 1] (l := []) .nil (E' := [(0, (pg g1)), (1, v64 (imax a1 0))]) (by kernel_rfl) ?_
  refine o_end (by kernel_rfl) ?_
  refine e_seq ?_
  refine w_seq 14 15 (by kernel_rfl) ?_
  refine w_seq 28 29 (by kernel_rfl) ?_
  refine w_region (by kernel_rfl) ?_
  refine o_run 2 [0, 1, 8, 9] (l := []) .nil (E' := [(0, (pg g1)), (1, v64 (imax a1 0)), (8, v64 (imax a1 0)), (9, (pg g1))]) (by kernel_rfl) ?_
  obtain ⟨t1, hx1, hm⟩ := bind_some hm
  refine o_stp ?_ (by kernel_rfl)
  refine s_call 10 65 #[pg g1] [0] [] (by kernel_rfl) (by kernel_rfl) (fun w hs => oR_Left_2_ok a0 t1 hx1 B _ g1 A1 c1 hs1 w (St.cast (by kernel_rfl) hs)) (fun _ hx => ?_)
  refine t_L (L' := [.blk g1 [.slice A1 a0.xb.length c1] 110]) (by kernel_rfl) ?_
  refine o_run 1 [0, 1, 11] (l := []) .nil (E' := [(0, (pg g1)), (1, v64 (imax a1 0)), (11, vb (decide ((imax a1 0) > t1)))]) (by kernel_rfl) ?_
  refine o_end (by kernel_rfl) ?_
  refine e_seq ?_
  refine w_cond (.tmp 11) 58 59 (decide ((imax a1 0) > t1)) (by kernel_rfl) (by kernel_rfl) (fun hb1 => ?_) (fun hb1 => ?_)
  · replace hm := ite_t hb1 hm
    refine w_region (by kernel_rfl) ?_
    refine o_run 1 [0, 1, 12] (l := []) .nil (E' := [(0, (pg g1)), (1, v64 (imax a1 0)), (12, .agg #[])]) (by kernel_rfl) ?_
    cases hm
  · replace hm := ite_f hb1 hm
    refine w_skip (by kernel_rfl) ?_
    refine e_seq ?_
    refine w_seq 30 31 (by kernel_rfl) ?_
    refine w_seq 60 61 (by kernel_rfl) ?_
    refine w_region (by kernel_rfl) ?_
    refine o_run 2 [0, 1, 15] (l := []) .nil (E' := [(0, (pg g1)), (1, v64 (imax a1 0)), (15, vb ((imax a1 0) == 0))]) (by kernel_rfl) ?_
    refine o_end (by kernel_rfl) ?_
    refine e_seq ?_
    refine w_cond (.tmp 15) 122 123 ((imax a1 0) == 0) (by kernel_rfl) (by kernel_rfl) (fun hb2 => ?_) (fun hb2 => ?_)
    · replace hm := ite_t hb2 hm
      refine w_seq 244 245 (by kernel_rfl) ?_
      refine w_region (by kernel_rfl) ?_
      refine o_run 1 [4] (l := []) .nil (E' := [(4, .slice none 0 0)]) (by kernel_rfl) ?_
      refine o_end (by kernel_rfl) ?_
      refine e_seq ?_
      refine w_ret (by kernel_rfl) ?_
      obtain rfl := Option.some.inj hm
      exact e_retP (none, 0, A1, c1) (.slice none ([] : List Int).length 0) [0] (by kernel_rfl) (by kernel_rfl) rfl (by kernel_rfl) (by kernel_rfl) ⟨(Sl.nil (kI .u8) B none 0), hs1⟩
    · replace hm := ite_f hb2 hm
      refine w_skip (by kernel_rfl) ?_
      refine e_seq ?_
      refine w_seq 62 63 (by kernel_rfl) ?_
      refine w_region (by kernel_rfl) ?_
      refine o_run 6 [0, 1, 19, 20, 21] (l := [(⟨g1, 0, none⟩, .slice A1 a0.xb.length c1)]) (.one (at_blk (j := 0) rfl rfl) .nil) (E' := [(0, (pg g1)), (1, v64 (imax a1 0)), (19, .slice A1 a0.xb.length c1), (20, v64 (imax a1 0)), (21, v64 (imax a1 0))]) (by kernel_rfl) ?_
      obtain ⟨l1, hx2, hm⟩ := bind_some hm
      refine o_val 22 (.slice 32 (.tmp 19) none (some (.tmp 20)) (some (.tmp 21))) (.slice (cutA A1 (Int.toNat 0) (Int.toNat (imax a1 0)) 1) l1.length (Int.toNat (imax a1 0) - Int.toNat 0)) (by kernel_rfl) (i_slice3 32 (.tmp 19) none (some (.tmp 20)) (some (.tmp 21)) hs1 hx2 (by kernel_rfl) (by kernel_rfl) (by kernel_rfl) (by kernel_rfl) (by kernel_rfl) rfl) ?_
      have hs2 := sl_cut3 hs1 hx2
      refine o_run 1 [0, 1, 5] (l := []) .nil (E' := [(0, (pg g1)), (1, v64 (imax a1 0)), (5, .slice (cutA A1 (Int.toNat 0) (Int.toNat (imax a1 0)) 1) l1.length (Int.toNat (imax a1 0) - Int.toNat 0))]) (by kernel_rfl) ?_
      refine o_end (by kernel_rfl) ?_
      refine e_seq ?_
      refine w_seq 126 127 (by kernel_rfl) ?_
      refine w_region (by kernel_rfl) ?_
      refine o_run 6 [5, 23, 27, 28] (l := [(⟨g1, 0, none⟩, .slice A1 a0.xb.length c1)]) (.one (at_blk (j := 0) rfl rfl) .nil) (E' := [(5, .slice (cutA A1 (Int.toNat 0) (Int.toNat (imax a1 0)) 1) l1.length (Int.toNat (imax a1 0) - Int.toNat 0)), (23, (pg g1)), (27, .slice A1 a0.xb.length c1), (28, v64 (imax a1 0))]) (by kernel_rfl) ?_
      obtain ⟨l2, hx3, hm⟩ := bind_some hm
      refine o_val 29 (.slice 32 (.tmp 27) (some (.tmp 28)) none none) (.slice (cutA A1 (Int.toNat (imax a1 0)) c1 1) l2.length (c1 - Int.toNat (imax a1 0))) (by kernel_rfl) (i_slice 32 (.tmp 27) (some (.tmp 28)) none hs1 hx3 (by kernel_rfl) (by kernel_rfl) (by kernel_rfl) (by kernel_rfl)) ?_
      have hs3 := sl_cut hs1 hx3
      refine o_run 2 [5, 29, 31] (l := []) .nil (E' := [(5, .slice (cutA A1 (Int.toNat 0) (Int.toNat (imax a1 0)) 1) l1.length (Int.toNat (imax a1 0) - Int.toNat 0)), (29, .slice (cutA A1 (Int.toNat (imax a1 0)) c1 1) l2.length (c1 - Int.toNat (imax a1 0))), (31, (pg g1))]) (by kernel_rfl) ?_
      refine o_stp ?_ (by kernel_rfl)
      refine s_store 0 g1 [.slice A1 a0.xb.length c1] 110 [(0, .slice (cutA A1 (Int.toNat (imax a1 0)) c1 1) l2.length (c1 - Int.toNat (imax a1 0)))] (by kernel_rfl) (by kernel_rfl) (by kernel_rfl) ?_
      refine t_L (L' := [.blk g1 [.slice (cutA A1 (Int.toNat (imax a1 0)) c1 1) l2.length (c1 - Int.toNat (imax a1 0))] 110]) (by kernel_rfl) ?_
      refine o_end (by kernel_rfl) ?_
      refine e_seq ?_
      refine w_seq 254 255 (by kernel_rfl) ?_
      refine w_region (by kernel_rfl) ?_
      refine o_run 2 [4] (l := []) .nil (E' := [(4, .slice (cutA A1 (Int.toNat 0) (Int.toNat (imax a1 0)) 1) l1.length (Int.toNat (imax a1 0) - Int.toNat 0))]) (by kernel_rfl) ?_
      refine o_end (by kernel_rfl) ?_
      refine e_seq ?_
      refine w_ret (by kernel_rfl) ?_
      obtain rfl := Option.some.inj hm
      exact e_retP ((cutA A1 (Int.toNat 0) (Int.toNat (imax a1 0)) 1), (Int.toNat (imax a1 0) - Int.toNat 0), (cutA A1 (Int.toNat (imax a1 0)) c1 1), (c1 - Int.toNat (imax a1 0))) (.slice (cutA A1 (Int.toNat 0) (Int.toNat (imax a1 0)) 1) l1.length (Int.toNat (imax a1 0) - Int.toNat 0)) [0] (by kernel_rfl) (by kernel_rfl) rfl (by kernel_rfl) (by kernel_rfl) ⟨hs2, hs3⟩
def oR_Num_2.f (k : Nat) (a0 : TR) (a1 : Int) : Option (Int × TR) :=
  ((oR_Bytes_2.f a0 (imin a1 8)).bind fun t1 => ((octets_Get.f k t1.1).bind fun t2 => (some (t2, t1.2))))
theorem oR_Num_2_ok (k : Nat) (a0 : TR) (a1 : Int) (r : Int × TR) (hm : oR_Num_2.f k a0 a1 = some r) (B G : Asn) (g1 : Nat) (A1 : Option Addr) (c1 : Nat) (hs1 : Sl (kI .u8) B A1 c1 a0.xb) (w : World) (hs : St B G [.blk g1 [.slice A1 a0.xb.length c1] 110] w) :
    Calls Try.prog 68 #[pg g1, v64 a1] w (Post (X := (Option Addr) × Nat) (fun x => w64 r.1) (fun x => B) G (fun x => [.blk g1 [.slice x.1 r.2.xb.length x.2] 110]) (fun x => (Sl (kI .u8) B x.1 x.2 r.2.xb))) := by
  unfold oR_Num_2.f at hm
  refine calls_W (F := Try.f68) Try.func68 rfl (by kernel_rfl) (L := [.blk g1 [.slice A1 a0.xb.length c1] 110]) ?_ hs
  refine w_seq 2 3 (by kernel_rfl) ?_
  refine w_region (by kernel_rfl) ?_
  refine o_run 1 [0, 1] (l := []) .nil (E' := [(0, (pg g1)), (1, v64 a1)]) (by kernel_rfl) ?_
  refine o_end (by kernel_rfl) ?_
  refine e_seq ?_
  refine w_seq 6 7 (by kernel_rfl) ?_
  refine w_region (by kernel_rfl) ?_
  refine o_run 3 [5, 7] (l := []) .nil (E' := [(5, (pg g1)), (7, v64 (imin a1 8))]) (by kernel_rfl) ?_
  obtain ⟨t1, hx1, hm⟩ := bind_some hm
  refine o_stp ?_ (by kernel_rfl)
  refine s_call 8 80 #[pg g1, v64 (imin a1 8)] [0] [] (by kernel_rfl) (by kernel_rfl) (fun w hs => oR_Bytes_2_ok a0 (imin a1 8) t1 hx1 B _ g1 A1 c1 hs1 w (St.cast (by kernel_rfl) hs)) (fun x hx => ?_)
  obtain ⟨A2, c2, A3, c3⟩ := x
  obtain ⟨hs2, hs3⟩ := hx
  refine t_L (L' := [.blk g1 [.slice A3 t1.2.xb.length c3] 110]) (by kernel_rfl) ?_
  obtain ⟨t2, hx2, hm⟩ := bind_some hm
  refine o_stp ?_ (by kernel_rfl)
  refine s_call 9 79 #[.slice A2 t1.1.length c2] [] [0] (by kernel_rfl) (by kernel_rfl) (fun w hs => octets_Get_ok k t1.1 t2 hx2 B _ A2 c2 hs2 w (St.cast (by kernel_rfl) hs)) (fun _ hx => ?_)
  refine t_L (L' := [.blk g1 [.slice A3 t1.2.xb.length c3] 110]) (by kernel_rfl) ?_
  refine o_run 1 [4] (l := []) .nil (E' := [(4, w64 t2)]) (by kernel_rfl) ?_
  refine o_end (by kernel_rfl) ?_
  refine e_seq ?_
  refine w_ret (by kernel_rfl) ?_
  obtain rfl := Option.some.inj hm
  exact e_retP (A3, c3) (w64 t2) [0] (by kernel_rfl) (by kernel_rfl) rfl (by kernel_rfl) (by kernel_rfl) hs3
def opts_isRight.f (a0 : Int) (a1 : Int) : Option (Bool) :=
  ((opts_sizes.f a0).bind fun t1 => (if decide (a1 < 2) then (some false) else (if decide (t1 > 0) then (some (a1 == t1)) else (if t1 == 0 then (if (Int.tmod a1 8) == 2 then (if decide (a1 > 2) then (some (decide (a1 ≤ 34))) else (some false)) else (some false)) else (some true)))))
theorem opts_isRight_ok (a0 : Int) (a1 : Int) (r : Bool) (hm : opts_isRight.f a0 a1 = some r) (B G : Asn) (w : World) (hs : St B G [] w) :
    Calls Try.prog 76 #[v8 a0, v64 a1] w (Post (X := Unit) (fun x => vb r) (fun x => B) G (fun x => []) (fun x => True)) := by
  unfold opts_isRight.f at hm
  refine calls_W (F := Try.f76) Try.func76 rfl (by kernel_rfl) (L := []) ?_ hs
  refine w_seq 2 3 (by kernel_rfl) ?_
  refine w_region (by kernel_rfl) ?_
  refine o_run 1 [0, 1] (l := []) .nil (E' := [(0, v8 a0), (1, v64 a1)]) (by kernel_rfl) ?_
  refine o_end (by kernel_rfl) ?_
  refine e_seq ?_
  refine w_seq 6 7 (by kernel_rfl) ?_
  refine w_seq 12 13 (by kernel_rfl) ?_
  refine w_region (by kernel_rfl) ?_
  refine o_run 1 [1, 6] (l := []) .nil (E' := [(1, v64 a1), (6, v8 a0)]) (by kernel_rfl) ?_
  obtain ⟨t1, hx1, hm⟩ := bind_some hm
  refine o_stp ?_ (by kernel_rfl)
  refine s_call 7 73 #[v8 a0] [] [] (by kernel_rfl) (by kernel_rfl) (fun w hs => opts_sizes_ok a0 t1 hx1 B _ w (St.cast (by kernel_rfl) hs)) (fun _ hx => ?_)
  refine t_L (L' := []) (by kernel_rfl) ?_
  refine o_run 1 [1, 5] (l := []) .nil (E' := [(1, v64 a1), (5, v64 t1)]) (by kernel_rfl) ?_
  refine o_end (by kernel_rfl) ?_
  refine e_seq ?_
  refine w_block 0 26 (by kernel_rfl) ?_
  refine w_seq 52 53 (by kernel_rfl) ?_
  refine w_region (by kernel_rfl) ?_
  refine o_run 3 [1, 5, 8] (l := []) .nil (E' := [(1, v64 a1), (5, v64 t1), (8, vb (decide (a1 < 2)))]) (by kernel_rfl) ?_
  refine o_end (by kernel_rfl) ?_
  refine e_seq ?_
  refine w_cond (.tmp 8) 106 107 (decide (a1 < 2)) (by kernel_rfl) (by kernel_rfl) (fun hb1 => ?_) (fun hb1 => ?_)
  · replace hm := ite_t hb1 hm
    refine w_seq 212 213 (by kernel_rfl) ?_
    refine w_region (by kernel_rfl) ?_
    refine o_run 1 [4] (l := []) .nil (E' := [(4, vb false)]) (by kernel_rfl) ?_
    refine o_end (by kernel_rfl) ?_
    refine e_seq ?_
    refine w_ret (by kernel_rfl) ?_
    obtain rfl := Option.some.inj hm
    exact e_retP () (vb false) [] (by kernel_rfl) (by kernel_rfl) rfl (by kernel_rfl) (by kernel_rfl) trivial
  · replace hm := ite_f hb1 hm
    refine w_seq 214 215 (by kernel_rfl) ?_
    refine w_region (by kernel_rfl) ?_
    refine o_run 3 [1, 5, 11] (l := []) .nil (E' := [(1, v64 a1), (5, v64 t1), (11, vb (decide (t1 > 0)))]) (by kernel_rfl) ?_
    refine o_end (by kernel_rfl) ?_
    refine e_seq ?_
    refine w_cond (.tmp 11) 430 431 (decide (t1 > 0)) (by kernel_rfl) (by kernel_rfl) (fun hb2 => ?_) (fun hb2 => ?_)
    · replace hm := ite_t hb2 hm
      refine w_seq 860 861 (by kernel_rfl) ?_
      refine w_region (by kernel_rfl) ?_
      refine o_run 4 [4] (l := []) .nil (E' := [(4, vb (a1 == t1))]) (by kernel_rfl) ?_
      refine o_end (by kernel_rfl) ?_
      refine e_seq ?_
      refine w_ret (by kernel_rfl) ?_
      obtain rfl := Option.some.inj hm
      exact e_retP () (vb (a1 == t1)) [] (by kernel_rfl) (by kernel_rfl) rfl (by kernel_rfl) (by kernel_rfl) trivial
    · replace hm := ite_f hb2 hm
      refine w_seq 862 863 (by kernel_rfl) ?_
      refine w_region (by kernel_rfl) ?_
      refine o_run 3 [1, 17] (l := []) .nil (E' := [(1, v64 a1), (17, vb (t1 == 0))]) (by kernel_rfl) ?_
      refine o_end (by kernel_rfl) ?_
      refine e_seq ?_
      refine w_cond (.tmp 17) 1726 1727 (t1 == 0) (by kernel_rfl) (by kernel_rfl) (fun hb3 => ?_) (fun hb3 => ?_)
      · replace hm := ite_t hb3 hm
        refine w_seq 3452 3453 (by kernel_rfl) ?_
        refine w_region (by kernel_rfl) ?_
        refine o_run 4 [1, 23] (l := []) .nil (E' := [(1, v64 a1), (23, vb ((Int.tmod a1 8) == 2))]) (by kernel_rfl) ?_
        refine o_split 23 ((Int.tmod a1 8) == 2) (by kernel_rfl) (fun hb4 => ?_) (fun hb4 => ?_)
        · replace hm := ite_t hb4 hm
          refine o_run 4 [1, 27] (l := []) .nil (E' := [(1, v64 a1), (27, vb (decide (a1 > 2)))]) (by kernel_rfl) ?_
          refine o_split 27 (decide (a1 > 2)) (by kernel_rfl) (fun hb5 => ?_) (fun hb5 => ?_)
          · replace hm := ite_t hb5 hm
            refine o_run 4 [4] (l := []) .nil (E' := [(4, vb (decide (a1 ≤ 34)))]) (by kernel_rfl) ?_
            refine o_end (by kernel_rfl) ?_
            refine e_seq ?_
            refine w_ret (by kernel_rfl) ?_
            obtain rfl := Option.some.inj hm
            exact e_retP () (vb (decide (a1 ≤ 34))) [] (by kernel_rfl) (by kernel_rfl) rfl (by kernel_rfl) (by kernel_rfl) trivial
          · replace hm := ite_f hb5 hm
            refine o_run 4 [4] (l := []) .nil (E' := [(4, vb false)]) (by kernel_rfl) ?_
            refine o_end (by kernel_rfl) ?_
            refine e_seq ?_
            refine w_ret (by kernel_rfl) ?_
            obtain rfl := Option.some.inj hm
            exact e_retP () (vb false) [] (by kernel_rfl) (by kernel_rfl) rfl (by kernel_rfl) (by kernel_rfl) trivial
        · replace hm := ite_f hb4 hm
          refine o_run 8 [4] (l := []) .nil (E' := [(4, vb false)]) (by kernel_rfl) ?_
          refine o_end (by kernel_rfl) ?_
          refine e_seq ?_
          refine w_ret (by kernel_rfl) ?_
          obtain rfl := Option.some.inj hm
          exact e_retP () (vb false) [] (by kernel_rfl) (by kernel_rfl) rfl (by kernel_rfl) (by kernel_rfl) trivial
      · replace hm := ite_f hb3 hm
        refine w_skip (by kernel_rfl) ?_
        refine e_blk ?_
        refine e_seq ?_
        refine w_seq 14 15 (by kernel_rfl) ?_
        refine w_region (by kernel_rfl) ?_
        refine o_run 1 [4] (l := []) .nil (E' := [(4, vb true)]) (by kernel_rfl) ?_
        refine o_end (by kernel_rfl) ?_
        refine e_seq ?_
        refine w_ret (by kernel_rfl) ?_
        obtain rfl := Option.some.inj hm
        exact e_retP () (vb true) [] (by kernel_rfl) (by kernel_rfl) rfl (by kernel_rfl) (by kernel_rfl) trivial
def oR_Sub.f (a0 : TR) (a1 : Int) : Option (TR × TR) :=
  ((oR_Bytes_2.f a0 a1).bind fun t1 => ((octets_Read.f t1.1).bind fun t2 => (some (t2, t1.2))))
theorem oR_Sub_ok (a0 : TR) (a1 : Int) (r : TR × TR) (hm : oR_Sub.f a0 a1 = some r) (B G : Asn) (g1 : Nat) (A1 : Option Addr) (c1 : Nat) (hs1 : Sl (kI .u8) B A1 c1 a0.xb) (w : World) (hs : St B G [.blk g1 [.slice A1 a0.xb.length c1] 110] w) :
    Calls Try.prog 77 #[pg g1, v64 a1] w (Post (X := Nat × (Option Addr) × Nat × (Option Addr) × Nat) (fun x => (pg x.1)) (fun x => B) G (fun x => [.blk x.1 [.slice x.2.1 r.1.xb.length x.2.2.1] 110, .own x.2.1 r.1.xb.length x.2.2.1 (rowOf e8 r.1.xb) 1 5, .blk g1 [.slice x.2.2.2.1 r.2.xb.length x.2.2.2.2] 110]) (fun x => (Sl (kI .u8) B x.2.2.2.1 x.2.2.2.2 r.2.xb))) := by
  unfold oR_Sub.f at hm
  refine calls_W (F := Try.f77) Try.func77 rfl (by kernel_rfl) (L := [.blk g1 [.slice A1 a0.xb.length c1] 110]) ?_ hs
  refine w_seq 2 3 (by kernel_rfl) ?_
  refine w_region (by kernel_rfl) ?_
  refine o_run 1 [0, 1] (l := []) .nil (E' := [(0, (pg g1)), (1, v64 a1)]) (by kernel_rfl) ?_
  refine o_end (by kernel_rfl) ?_
  refine e_seq ?_
  refine w_seq 6 7 (by kernel_rfl) ?_
  refine w_region (by kernel_rfl) ?_
  refine o_run 2 [5, 6] (l := []) .nil (E' := [(5, (pg g1)), (6, v64 a1)]) (by kernel_rfl) ?_
  obtain ⟨t1, hx1, hm⟩ := bind_some hm
  refine o_stp ?_ (by kernel_rfl)
  refine s_call 7 80 #[pg g1, v64 a1] [0] [] (by kernel_rfl) (by kernel_rfl) (fun w hs => oR_Bytes_2_ok a0 a1 t1 hx1 B _ g1 A1 c1 hs1 w (St.cast (by kernel_rfl) hs)) (fun x hx => ?_)
  obtain ⟨A2, c2, A3, c3⟩ := x
  obtain ⟨hs2, hs3⟩ := hx
  refine t_L (L' := [.blk g1 [.slice A3 t1.2.xb.length c3] 110]) (by kernel_rfl) ?_
  obtain ⟨t2, hx2, hm⟩ := bind_some hm
  refine o_stp ?_ (by kernel_rfl)
  refine s_call 8 62 #[.slice A2 t1.1.length c2] [] [0] (by kernel_rfl) (by kernel_rfl) (fun w hs => octets_Read_ok t1.1 t2 hx2 B _ A2 c2 hs2 w (St.cast (by kernel_rfl) hs)) (fun x hx => ?_)
  obtain ⟨g2, A4, c4⟩ := x
  refine t_L (L' := [.blk g2 [.slice A4 t2.xb.length c4] 110, .own A4 t2.xb.length c4 (rowOf e8 t2.xb) 1 5, .blk g1 [.slice A3 t1.2.xb.length c3] 110]) (by kernel_rfl) ?_
  refine o_run 1 [4] (l := []) .nil (E' := [(4, (pg g2))]) (by kernel_rfl) ?_
  refine o_end (by kernel_rfl) ?_
  refine e_seq ?_
  refine w_ret (by kernel_rfl) ?_
  obtain rfl := Option.some.inj hm
  exact e_retP (g2, A4, c4, A3, c3) ((pg g2)) [0, 1, 2] (by kernel_rfl) (by kernel_rfl) rfl (by kernel_rfl) (by kernel_rfl) hs3
def opts_take.l1 : Nat → TO → TR → Option (TO × TR)
  | 0, _, _ => none
  | k + 1, p1, p2 => ((oR_Left_2.f p2).bind fun t9 => (if decide (t9 ≥ 8) then ((oR_Num_2.f k p2 4).bind fun t10 => ((oR_Num_2.f k t10.2 4).bind fun t11 => ((app p1.sk [(⟨U32 t10.1, U32 t11.1⟩ : TB)]).bind fun l2 => (opts_take.l1 k (⟨p1.hM, p1.ms, p1.hS, p1.sc, p1.sO, l2, p1.hT, p1.va, p1.ec, p1.hO, p1.ki, p1.ni, p1.m⟩ : TO) t11.2)))) else (some (p1, p2))))
def opts_take.f (k : Nat) (a0 : TO_o) (a1 : Int) (a2 : TR) : Option (TO × TR) :=
  (if a1 == 2 then ((oR_Num.f k a2 2).bind fun t1 => (some ((⟨true, U16 t1.1, a0.hS, a0.sc, a0.sO, ([] : List TB), a0.hT, a0.va, a0.ec, a0.hO, a0.ki, a0.ni, a0.m⟩ : TO), t1.2))) else (if a1 == 3 then ((oR_Num.f k a2 1).bind fun t2 => (some ((⟨a0.hM, a0.ms, true, imin (U8 t2.1) 14, a0.sO, ([] : List TB), a0.hT, a0.va, a0.ec, a0.hO, a0.ki, a0.ni, a0.m⟩ : TO), t2.2))) else (if a1 == 4 then (some ((⟨a0.hM, a0.ms, a0.hS, a0.sc, true, ([] : List TB), a0.hT, a0.va, a0.ec, a0.hO, a0.ki, a0.ni, a0.m⟩ : TO), a2)) else (if a1 == 8 then ((oR_Num.f k a2 4).bind fun t3 => ((oR_Num_2.f k t3.2 4).bind fun t4 => (some ((⟨a0.hM, a0.ms, a0.hS, a0.sc, a0.sO, ([] : List TB), true, U32 t3.1, U32 t4.1, a0.hO, a0.ki, a0.ni, a0.m⟩ : TO), t4.2)))) else (if a1 == 29 then ((oR_Num.f k a2 1).bind fun t5 => ((oR_Num_2.f k t5.2 1).bind fun t6 => ((oR_Bytes_2.f t6.2 12).bind fun t7 => ((cut t7.1 0 12).bind fun l1 => (some ((⟨a0.hM, a0.ms, a0.hS, a0.sc, a0.sO, ([] : List TB), a0.hT, a0.va, a0.ec, true, U8 t5.1, U8 t6.1, (⟨(l1.getD 0 0), (l1.getD 1 0), (l1.getD 2 0), (l1.getD 3 0), (l1.getD 4 0), (l1.getD 5 0), (l1.getD 6 0), (l1.getD 7 0), (l1.getD 8 0), (l1.getD 9 0), (l1.getD 10 0), (l1.getD 11 0)⟩ : TM)⟩ : TO), t7.2)))))) else (if a1 == 5 then ((opts_take.l1 k (⟨a0.hM, a0.ms, a0.hS, a0.sc, a0.sO, ([] : List TB), a0.hT, a0.va, a0.ec, a0.hO, a0.ki, a0.ni, a0.m⟩ : TO) a2).bind fun t8 => (some ((t8.1), (t8.2)))) else (some ((⟨a0.hM, a0.ms, a0.hS, a0.sc, a0.sO, ([] : List TB), a0.hT, a0.va, a0.ec, a0.hO, a0.ki, a0.ni, a0.m⟩ : TO), a2))))))))
theorem opts_take_ok (k : Nat) (a0 : TO_o) (a1 : Int) (a2 : TR) (r : TO × TR) (hm : opts_take.f k a0 a1 a2 = some r) (B G : Asn) (g1 : Nat) (g2 : Nat) (A1 : Option Addr) (c1 : Nat) (w : World) (hs : St B G [.blk g1 [vb a0.hM, v16 a0.ms, vb a0.hS, v8 a0.sc, vb a0.sO, .slice none 0 0, vb a0.hT, v32 a0.va, v32 a0.ec, vb a0.hO, v8 a0.ki, v8 a0.ni, v8 a0.m.x0, v8 a0.m.x1, v8 a0.m.x2, v8 a0.m.x3, v8 a0.m.x4, v8 a0.m.x5, v8 a0.m.x6, v8 a0.m.x7, v8 a0.m.x8, v8 a0.m.x9, v8 a0.m.x10, v8 a0.m.x11] 31, .blk g2 [.slice A1 a2.xb.length c1] 110, .own A1 a2.xb.length c1 (rowOf e8 a2.xb) 1 5] w) :
    Calls Try.prog 78 #[pg g1, v8 a1, pg g2] w (Post (X := Asn × (Option Addr) × Nat × (Option Addr) × Nat) (fun x => .tuple #[]) (fun x => x.1) G (fun x => [.blk g1 [vb r.1.hM, v16 r.1.ms, vb r.1.hS, v8 r.1.sc, vb r.1.sO, .slice x.2.1 r.1.sk.length x.2.2.1, vb r.1.hT, v32 r.1.va, v32 r.1.ec, vb r.1.hO, v8 r.1.ki, v8 r.1.ni, v8 r.1.m.x0, v8 r.1.m.x1, v8 r.1.m.x2, v8 r.1.m.x3, v8 r.1.m.x4, v8 r.1.m.x5, v8 r.1.m.x6, v8 r.1.m.x7, v8 r.1.m.x8, v8 r.1.m.x9, v8 r.1.m.x10, v8 r.1.m.x11] 31, .own x.2.1 r.1.sk.length x.2.2.1 (rowOf encTB r.1.sk) 2 84, .blk g2 [.slice x.2.2.2.1 r.2.xb.length x.2.2.2.2] 110]) (fun x => (Ext B x.1) ∧ (Sl (kI .u8) x.1 x.2.2.2.1 x.2.2.2.2 r.2.xb))) := by
  unfold opts_take.f at hm
  refine calls_W (F := Try.f78) Try.func78 rfl (by kernel_rfl) (L := [.blk g1 [vb a0.hM, v16 a0.ms, vb a0.hS, v8 a0.sc, vb a0.sO, .slice none 0 0, vb a0.hT, v32 a0.va, v32 a0.ec, vb a0.hO, v8 a0.ki, v8 a0.ni, v8 a0.m.x0, v8 a0.m.x1, v8 a0.m.x2, v8 a0.m.x3, v8 a0.m.x4, v8 a0.m.x5, v8 a0.m.x6, v8 a0.m.x7, v8 a0.m.x8, v8 a0.m.x9, v8 a0.m.x10, v8 a0.m.x11] 31, .blk g2 [.slice A1 a2.xb.length c1] 110, .own A1 a2.xb.length c1 (rowOf e8 a2.xb) 1 5]) ?_ hs
  refine w_seq 2 3 (by kernel_rfl) ?_
  refine w_region (by kernel_rfl) ?_
  refine o_run 1 [0, 2, 6] (l := []) .nil (E' := [(0, (pg g1)), (2, (pg g2)), (6, v8 a1)]) (by kernel_rfl) ?_
  refine o_end (by kernel_rfl) ?_
  refine e_seq ?_
  refine w_block 0 6 (by kernel_rfl) ?_
  refine w_seq 12 13 (by kernel_rfl) ?_
  refine w_region (by kernel_rfl) ?_
  refine o_run 2 [0, 2, 6, 7] (l := []) .nil (E' := [(0, (pg g1)), (2, (pg g2)), (6, v8 a1), (7, vb (a1 == 2))]) (by kernel_rfl) ?_
  refine o_end (by kernel_rfl) ?_
  refine e_seq ?_
  refine w_cond (.tmp 7) 26 27 (a1 == 2) (by kernel_rfl) (by kernel_rfl) (fun hb1 => ?_) (fun hb1 => ?_)
  · replace hm := ite_t hb1 hm
    refine w_region (by kernel_rfl) ?_
    refine o_run 3 [9, 10, 11] (l := []) .nil (E' := [(9, (pg g1)), (10, (pg g1)), (11, (pg g2))]) (by kernel_rfl) ?_
    obtain ⟨t1, hx1, hm⟩ := bind_some hm
    refine o_stp ?_ (by kernel_rfl)
    refine s_call 12 68 #[pg g2, v64 2] [1, 2] [0] (by kernel_rfl) (by kernel_rfl) (fun w hs => oR_Num_ok k a2 2 t1 hx1 B _ g2 A1 c1 w (St.cast (by kernel_rfl) hs)) (fun x hx => ?_)
    obtain ⟨B1, A2, c2⟩ := x
    obtain ⟨hx2, hs1⟩ := hx
    refine t_L (L' := [.blk g2 [.slice A2 t1.2.xb.length c2] 110, .blk g1 [vb a0.hM, v16 a0.ms, vb a0.hS, v8 a0.sc, vb a0.sO, .slice none 0 0, vb a0.hT, v32 a0.va, v32 a0.ec, vb a0.hO, v8 a0.ki, v8 a0.ni, v8 a0.m.x0, v8 a0.m.x1, v8 a0.m.x2, v8 a0.m.x3, v8 a0.m.x4, v8 a0.m.x5, v8 a0.m.x6, v8 a0.m.x7, v8 a0.m.x8, v8 a0.m.x9, v8 a0.m.x10, v8 a0.m.x11] 31]) (by kernel_rfl) ?_
    refine o_run 3 [10, 13, 15] (l := []) .nil (E' := [(10, (pg g1)), (13, v16 (U16 t1.1)), (15, (pg g1))]) (by kernel_rfl) ?_
    refine o_stp ?_ (by kernel_rfl)
    refine s_store 1 g1 [vb a0.hM, v16 a0.ms, vb a0.hS, v8 a0.sc, vb a0.sO, .slice none 0 0, vb a0.hT, v32 a0.va, v32 a0.ec, vb a0.hO, v8 a0.ki, v8 a0.ni, v8 a0.m.x0, v8 a0.m.x1, v8 a0.m.x2, v8 a0.m.x3, v8 a0.m.x4, v8 a0.m.x5, v8 a0.m.x6, v8 a0.m.x7, v8 a0.m.x8, v8 a0.m.x9, v8 a0.m.x10, v8 a0.m.x11] 31 [(0, vb true)] (by kernel_rfl) (by kernel_rfl) (by kernel_rfl) ?_
    refine t_L (L' := [.blk g2 [.slice A2 t1.2.xb.length c2] 110, .blk g1 [vb true, v16 a0.ms, vb a0.hS, v8 a0.sc, vb a0.sO, .slice none 0 0, vb a0.hT, v32 a0.va, v32 a0.ec, vb a0.hO, v8 a0.ki, v8 a0.ni, v8 a0.m.x0, v8 a0.m.x1, v8 a0.m.x2, v8 a0.m.x3, v8 a0.m.x4, v8 a0.m.x5, v8 a0.m.x6, v8 a0.m.x7, v8 a0.m.x8, v8 a0.m.x9, v8 a0.m.x10, v8 a0.m.x11] 31]) (by kernel_rfl) ?_
    refine o_run 2 [13, 17] (l := []) .nil (E' := [(13, v16 (U16 t1.1)), (17, .pointer (some ⟨g1, 1, none⟩))]) (by kernel_rfl) ?_
    refine o_stp ?_ (by kernel_rfl)
    refine s_store 1 g1 [vb true, v16 a0.ms, vb a0.hS, v8 a0.sc, vb a0.sO, .slice none 0 0, vb a0.hT, v32 a0.va, v32 a0.ec, vb a0.hO, v8 a0.ki, v8 a0.ni, v8 a0.m.x0, v8 a0.m.x1, v8 a0.m.x2, v8 a0.m.x3, v8 a0.m.x4, v8 a0.m.x5, v8 a0.m.x6, v8 a0.m.x7, v8 a0.m.x8, v8 a0.m.x9, v8 a0.m.x10, v8 a0.m.x11] 31 [(1, v16 (U16 t1.1))] (by kernel_rfl) (by kernel_rfl) (by kernel_rfl) ?_
    refine t_L (L' := [.blk g2 [.slice A2 t1.2.xb.length c2] 110, .blk g1 [vb true, v16 (U16 t1.1), vb a0.hS, v8 a0.sc, vb a0.sO, .slice none 0 0, vb a0.hT, v32 a0.va, v32 a0.ec, vb a0.hO, v8 a0.ki, v8 a0.ni, v8 a0.m.x0, v8 a0.m.x1, v8 a0.m.x2, v8 a0.m.x3, v8 a0.m.x4, v8 a0.m.x5, v8 a0.m.x6, v8 a0.m.x7, v8 a0.m.x8, v8 a0.m.x9, v8 a0.m.x10, v8 a0.m.x11] 31]) (by kernel_rfl) ?_
    refine o_end (by kernel_rfl) ?_
    refine e_blk ?_
    refine t_nil 84 2 ?_
    refine t_L (L' := [.own none (([] : List TB).length) 0 (rowOf encTB ([] : List TB)) 2 84, .blk g2 [.slice A2 t1.2.xb.length c2] 110, .blk g1 [vb true, v16 (U16 t1.1), vb a0.hS, v8 a0.sc, vb a0.sO, .slice none 0 0, vb a0.hT, v32 a0.va, v32 a0.ec, vb a0.hO, v8 a0.ki, v8 a0.ni, v8 a0.m.x0, v8 a0.m.x1, v8 a0.m.x2, v8 a0.m.x3, v8 a0.m.x4, v8 a0.m.x5, v8 a0.m.x6, v8 a0.m.x7, v8 a0.m.x8, v8 a0.m.x9, v8 a0.m.x10, v8 a0.m.x11] 31]) (by kernel_rfl) ?_
    obtain rfl := Option.some.inj hm
    exact e_endP (B1, none, 0, A2, c2) (.tuple #[]) [2, 0, 1] (by kernel_rfl) (by kernel_rfl) rfl (by kernel_rfl) (by kernel_rfl) ⟨hx2, hs1⟩
  · replace hm := ite_f hb1 hm
    refine w_seq 54 55 (by kernel_rfl) ?_
    refine w_region (by kernel_rfl) ?_
    refine o_run 2 [0, 2, 6, 18] (l := []) .nil (E' := [(0, (pg g1)), (2, (pg g2)), (6, v8 a1), (18, vb (a1 == 3))]) (by kernel_rfl) ?_
    refine o_end (by kernel_rfl) ?_
    refine e_seq ?_
    refine w_cond (.tmp 18) 110 111 (a1 == 3) (by kernel_rfl) (by kernel_rfl) (fun hb2 => ?_) (fun hb2 => ?_)
    · replace hm := ite_t hb2 hm
      refine w_region (by kernel_rfl) ?_
      refine o_run 3 [20, 21, 22] (l := []) .nil (E' := [(20, (pg g1)), (21, (pg g1)), (22, (pg g2))]) (by kernel_rfl) ?_
      obtain ⟨t2, hx3, hm⟩ := bind_some hm
      refine o_stp ?_ (by kernel_rfl)
      refine s_call 23 68 #[pg g2, v64 1] [1, 2] [0] (by kernel_rfl) (by kernel_rfl) (fun w hs => oR_Num_ok k a2 1 t2 hx3 B _ g2 A1 c1 w (St.cast (by kernel_rfl) hs)) (fun x hx => ?_)
      obtain ⟨B2, A3, c3⟩ := x
      obtain ⟨hx4, hs2⟩ := hx
      refine t_L (L' := [.blk g2 [.slice A3 t2.2.xb.length c3] 110, .blk g1 [vb a0.hM, v16 a0.ms, vb a0.hS, v8 a0.sc, vb a0.sO, .slice none 0 0, vb a0.hT, v32 a0.va, v32 a0.ec, vb a0.hO, v8 a0.ki, v8 a0.ni, v8 a0.m.x0, v8 a0.m.x1, v8 a0.m.x2, v8 a0.m.x3, v8 a0.m.x4, v8 a0.m.x5, v8 a0.m.x6, v8 a0.m.x7, v8 a0.m.x8, v8 a0.m.x9, v8 a0.m.x10, v8 a0.m.x11] 31]) (by kernel_rfl) ?_
      refine o_run 4 [21, 25, 27] (l := []) .nil (E' := [(21, (pg g1)), (25, v8 (imin (U8 t2.1) 14)), (27, .pointer (some ⟨g1, 2, none⟩))]) (by kernel_rfl) ?_
      refine o_stp ?_ (by kernel_rfl)
      refine s_store 1 g1 [vb a0.hM, v16 a0.ms, vb a0.hS, v8 a0.sc, vb a0.sO, .slice none 0 0, vb a0.hT, v32 a0.va, v32 a0.ec, vb a0.hO, v8 a0.ki, v8 a0.ni, v8 a0.m.x0, v8 a0.m.x1, v8 a0.m.x2, v8 a0.m.x3, v8 a0.m.x4, v8 a0.m.x5, v8 a0.m.x6, v8 a0.m.x7, v8 a0.m.x8, v8 a0.m.x9, v8 a0.m.x10, v8 a0.m.x11] 31 [(2, vb true)] (by kernel_rfl) (by kernel_rfl) (by kernel_rfl) ?_
      refine t_L (L' := [.blk g2 [.slice A3 t2.2.xb.length c3] 110, .blk g1 [vb a0.hM, v16 a0.ms, vb true, v8 a0.sc, vb a0.sO, .slice none 0 0, vb a0.hT, v32 a0.va, v32 a0.ec, vb a0.hO, v8 a0.ki, v8 a0.ni, v8 a0.m.x0, v8 a0.m.x1, v8 a0.m.x2, v8 a0.m.x3, v8 a0.m.x4, v8 a0.m.x5, v8 a0.m.x6, v8 a0.m.x7, v8 a0.m.x8, v8 a0.m.x9, v8 a0.m.x10, v8 a0.m.x11] 31]) (by kernel_rfl) ?_
      refine o_run 2 [25, 29] (l := []) .nil (E' := [(25, v8 (imin (U8 t2.1) 14)), (29, .pointer (some ⟨g1, 3, none⟩))]) (by kernel_rfl) ?_
      refine o_stp ?_ (by kernel_rfl)
      refine s_store 1 g1 [vb a0.hM, v16 a0.ms, vb true, v8 a0.sc, vb a0.sO, .slice none 0 0, vb a0.hT, v32 a0.va, v32 a0.ec, vb a0.hO, v8 a0.ki, v8 a0.ni, v8 a0.m.x0, v8 a0.m.x1, v8 a0.m.x2, v8 a0.m.x3, v8 a0.m.x4, v8 a0.m.x5, v8 a0.m.x6, v8 a0.m.x7, v8 a0.m.x8, v8 a0.m.x9, v8 a0.m.x10, v8 a0.m.x11] 31 [(3, v8 (imin (U8 t2.1) 14))] (by kernel_rfl) (by kernel_rfl) (by kernel_rfl) ?_
      refine t_L (L' := [.blk g2 [.slice A3 t2.2.xb.length c3] 110, .blk g1 [vb a0.hM, v16 a0.ms, vb true, v8 (imin (U8 t2.1) 14), vb a0.sO, .slice none 0 0, vb a0.hT, v32 a0.va, v32 a0.ec, vb a0.hO, v8 a0.ki, v8 a0.ni, v8 a0.m.x0, v8 a0.m.x1, v8 a0.m.x2, v8 a0.m.x3, v8 a0.m.x4, v8 a0.m.x5, v8 a0.m.x6, v8 a0.m.x7, v8 a0.m.x8, v8 a0.m.x9, v8 a0.m.x10, v8 a0.m.x11] 31]) (by kernel_rfl) ?_
      refine o_end (by kernel_rfl) ?_
      refine e_blk ?_
      refine t_nil 84 2 ?_
      refine t_L (L' := [.own none (([] : List TB).length) 0 (rowOf encTB ([] : List TB)) 2 84, .blk g2 [.slice A3 t2.2.xb.length c3] 110, .blk g1 [vb a0.hM, v16 a0.ms, vb true, v8 (imin (U8 t2.1) 14), vb a0.sO, .slice none 0 0, vb a0.hT, v32 a0.va, v32 a0.ec, vb a0.hO, v8 a0.ki, v8 a0.ni, v8 a0.m.x0, v8 a0.m.x1, v8 a0.m.x2, v8 a0.m.x3, v8 a0.m.x4, v8 a0.m.x5, v8 a0.m.x6, v8 a0.m.x7, v8 a0.m.x8, v8 a0.m.x9, v8 a0.m.x10, v8 a0.m.x11] 31]) (by kernel_rfl) ?_
      obtain rfl := Option.some.inj hm
      exact e_endP (B2, none, 0, A3, c3) (.tuple #[]) [2, 0, 1] (by kernel_rfl) (by kernel_rfl) rfl (by kernel_rfl) (by kernel_rfl) ⟨hx4, hs2⟩
    · replace hm := ite_f hb2 hm
      refine w_seq 222 223 (by kernel_rfl) ?_
      refine w_region (by kernel_rfl) ?_
      refine o_run 2 [0, 2, 6, 30] (l := []) .nil (E' := [(0, (pg g1)), (2, (pg g2)), (6, v8 a1), (30, vb (a1 == 4))]) (by kernel_rfl) ?_
      refine o_end (by kernel_rfl) ?_
      refine e_seq ?_
      refine w_cond (.tmp 30) 446 447 (a1 == 4) (by kernel_rfl) (by kernel_rfl) (fun hb3 => ?_) (fun hb3 => ?_)
      · replace hm := ite_t hb3 hm
        refine w_region (by kernel_rfl) ?_
        refine o_run 3 [34] (l := []) .nil (E' := [(34, .pointer (some ⟨g1, 4, none⟩))]) (by kernel_rfl) ?_
        refine o_stp ?_ (by kernel_rfl)
        refine s_store 0 g1 [vb a0.hM, v16 a0.ms, vb a0.hS, v8 a0.sc, vb a0.sO, .slice none 0 0, vb a0.hT, v32 a0.va, v32 a0.ec, vb a0.hO, v8 a0.ki, v8 a0.ni, v8 a0.m.x0, v8 a0.m.x1, v8 a0.m.x2, v8 a0.m.x3, v8 a0.m.x4, v8 a0.m.x5, v8 a0.m.x6, v8 a0.m.x7, v8 a0.m.x8, v8 a0.m.x9, v8 a0.m.x10, v8 a0.m.x11] 31 [(4, vb true)] (by kernel_rfl) (by kernel_rfl) (by kernel_rfl) ?_
        refine t_L (L' := [.blk g1 [vb a0.hM, v16 a0.ms, vb a0.hS, v8 a0.sc, vb true, .slice none 0 0, vb a0.hT, v32 a0.va, v32 a0.ec, vb a0.hO, v8 a0.ki, v8 a0.ni, v8 a0.m.x0, v8 a0.m.x1, v8 a0.m.x2, v8 a0.m.x3, v8 a0.m.x4, v8 a0.m.x5, v8 a0.m.x6, v8 a0.m.x7, v8 a0.m.x8, v8 a0.m.x9, v8 a0.m.x10, v8 a0.m.x11] 31, .blk g2 [.slice A1 a2.xb.length c1] 110, .own A1 a2.xb.length c1 (rowOf e8 a2.xb) 1 5]) (by kernel_rfl) ?_
        refine o_end (by kernel_rfl) ?_
        refine e_blk ?_
        refine t_nil 84 2 ?_
        refine t_L (L' := [.own none (([] : List TB).length) 0 (rowOf encTB ([] : List TB)) 2 84, .blk g1 [vb a0.hM, v16 a0.ms, vb a0.hS, v8 a0.sc, vb true, .slice none 0 0, vb a0.hT, v32 a0.va, v32 a0.ec, vb a0.hO, v8 a0.ki, v8 a0.ni, v8 a0.m.x0, v8 a0.m.x1, v8 a0.m.x2, v8 a0.m.x3, v8 a0.m.x4, v8 a0.m.x5, v8 a0.m.x6, v8 a0.m.x7, v8 a0.m.x8, v8 a0.m.x9, v8 a0.m.x10, v8 a0.m.x11] 31, .blk g2 [.slice A1 a2.xb.length c1] 110, .own A1 a2.xb.length c1 (rowOf e8 a2.xb) 1 5]) (by kernel_rfl) ?_
        refine t_drop [3, 0, 1, 2] (by kernel_rfl) ?_
        refine t_L (L' := [.own A1 a2.xb.length c1 (rowOf e8 a2.xb) 1 5, .own none (([] : List TB).length) 0 (rowOf encTB ([] : List TB)) 2 84, .blk g1 [vb a0.hM, v16 a0.ms, vb a0.hS, v8 a0.sc, vb true, .slice none (([] : List TB).length) 0, vb a0.hT, v32 a0.va, v32 a0.ec, vb a0.hO, v8 a0.ki, v8 a0.ni, v8 a0.m.x0, v8 a0.m.x1, v8 a0.m.x2, v8 a0.m.x3, v8 a0.m.x4, v8 a0.m.x5, v8 a0.m.x6, v8 a0.m.x7, v8 a0.m.x8, v8 a0.m.x9, v8 a0.m.x10, v8 a0.m.x11] 31, .blk g2 [.slice A1 a2.xb.length c1] 110]) (by kernel_rfl) ?_
        refine t_frozS (kI .u8) rfl rfl (fun B3 hx5 hs3 => ?_)
        obtain rfl := Option.some.inj hm
        exact e_endP (B3, none, 0, A1, c1) (.tuple #[]) [1, 0, 2] (by kernel_rfl) (by kernel_rfl) rfl (by kernel_rfl) (by kernel_rfl) ⟨hx5, hs3⟩
      · replace hm := ite_f hb3 hm
        refine w_seq 894 895 (by kernel_rfl) ?_
        refine w_region (by kernel_rfl) ?_
        refine o_run 2 [0, 2, 6, 35] (l := []) .nil (E' := [(0, (pg g1)), (2, (pg g2)), (6, v8 a1), (35, vb (a1 == 8))]) (by kernel_rfl) ?_
        refine o_end (by kernel_rfl) ?_
        refine e_seq ?_
        refine w_cond (.tmp 35) 1790 1791 (a1 == 8) (by kernel_rfl) (by kernel_rfl) (fun hb4 => ?_) (fun hb4 => ?_)
        · replace hm := ite_t hb4 hm
          refine w_region (by kernel_rfl) ?_
          refine o_run 4 [2, 37, 38, 39, 40] (l := []) .nil (E' := [(2, (pg g2)), (37, (pg g1)), (38, (pg g1)), (39, (pg g1)), (40, (pg g2))]) (by kernel_rfl) ?_
          obtain ⟨t3, hx6, hm⟩ := bind_some hm
          refine o_stp ?_ (by kernel_rfl)
          refine s_call 41 68 #[pg g2, v64 4] [1, 2] [0] (by kernel_rfl) (by kernel_rfl) (fun w hs => oR_Num_ok k a2 4 t3 hx6 B _ g2 A1 c1 w (St.cast (by kernel_rfl) hs)) (fun x hx => ?_)
          obtain ⟨B4, A4, c4⟩ := x
          obtain ⟨hx7, hs4⟩ := hx
          refine t_L (L' := [.blk g2 [.slice A4 t3.2.xb.length c4] 110, .blk g1 [vb a0.hM, v16 a0.ms, vb a0.hS, v8 a0.sc, vb a0.sO, .slice none 0 0, vb a0.hT, v32 a0.va, v32 a0.ec, vb a0.hO, v8 a0.ki, v8 a0.ni, v8 a0.m.x0, v8 a0.m.x1, v8 a0.m.x2, v8 a0.m.x3, v8 a0.m.x4, v8 a0.m.x5, v8 a0.m.x6, v8 a0.m.x7, v8 a0.m.x8, v8 a0.m.x9, v8 a0.m.x10, v8 a0.m.x11] 31]) (by kernel_rfl) ?_
          refine o_run 2 [37, 38, 39, 42, 43] (l := []) .nil (E' := [(37, (pg g1)), (38, (pg g1)), (39, (pg g1)), (42, v32 (U32 t3.1)), (43, (pg g2))]) (by kernel_rfl) ?_
          obtain ⟨t4, hx8, hm⟩ := bind_some hm
          refine o_stp ?_ (by kernel_rfl)
          refine s_call 44 68 #[pg g2, v64 4] [0] [1] (by kernel_rfl) (by kernel_rfl) (fun w hs => oR_Num_2_ok k t3.2 4 t4 hx8 B4 _ g2 A4 c4 hs4 w (St.cast (by kernel_rfl) hs)) (fun x hx => ?_)
          obtain ⟨A5, c5⟩ := x
          have hs5 := hx
          refine t_L (L' := [.blk g2 [.slice A5 t4.2.xb.length c5] 110, .blk g1 [vb a0.hM, v16 a0.ms, vb a0.hS, v8 a0.sc, vb a0.sO, .slice none 0 0, vb a0.hT, v32 a0.va, v32 a0.ec, vb a0.hO, v8 a0.ki, v8 a0.ni, v8 a0.m.x0, v8 a0.m.x1, v8 a0.m.x2, v8 a0.m.x3, v8 a0.m.x4, v8 a0.m.x5, v8 a0.m.x6, v8 a0.m.x7, v8 a0.m.x8, v8 a0.m.x9, v8 a0.m.x10, v8 a0.m.x11] 31]) (by kernel_rfl) ?_
          refine o_run 3 [38, 39, 42, 45, 47] (l := []) .nil (E' := [(38, (pg g1)), (39, (pg g1)), (42, v32 (U32 t3.1)), (45, v32 (U32 t4.1)), (47, .pointer (some ⟨g1, 6, none⟩))]) (by kernel_rfl) ?_
          refine o_stp ?_ (by kernel_rfl)
          refine s_store 1 g1 [vb a0.hM, v16 a0.ms, vb a0.hS, v8 a0.sc, vb a0.sO, .slice none 0 0, vb a0.hT, v32 a0.va, v32 a0.ec, vb a0.hO, v8 a0.ki, v8 a0.ni, v8 a0.m.x0, v8 a0.m.x1, v8 a0.m.x2, v8 a0.m.x3, v8 a0.m.x4, v8 a0.m.x5, v8 a0.m.x6, v8 a0.m.x7, v8 a0.m.x8, v8 a0.m.x9, v8 a0.m.x10, v8 a0.m.x11] 31 [(6, vb true)] (by kernel_rfl) (by kernel_rfl) (by kernel_rfl) ?_
          refine t_L (L' := [.blk g2 [.slice A5 t4.2.xb.length c5] 110, .blk g1 [vb a0.hM, v16 a0.ms, vb a0.hS, v8 a0.sc, vb a0.sO, .slice none 0 0, vb true, v32 a0.va, v32 a0.ec, vb a0.hO, v8 a0.ki, v8 a0.ni, v8 a0.m.x0, v8 a0.m.x1, v8 a0.m.x2, v8 a0.m.x3, v8 a0.m.x4, v8 a0.m.x5, v8 a0.m.x6, v8 a0.m.x7, v8 a0.m.x8, v8 a0.m.x9, v8 a0.m.x10, v8 a0.m.x11] 31]) (by kernel_rfl) ?_
          refine o_run 2 [39, 42, 45, 49] (l := []) .nil (E' := [(39, (pg g1)), (42, v32 (U32 t3.1)), (45, v32 (U32 t4.1)), (49, .pointer (some ⟨g1, 7, none⟩))]) (by kernel_rfl) ?_
          refine o_stp ?_ (by kernel_rfl)
          refine s_store 1 g1 [vb a0.hM, v16 a0.ms, vb a0.hS, v8 a0.sc, vb a0.sO, .slice none 0 0, vb true, v32 a0.va, v32 a0.ec, vb a0.hO, v8 a0.ki, v8 a0.ni, v8 a0.m.x0, v8 a0.m.x1, v8 a0.m.x2, v8 a0.m.x3, v8 a0.m.x4, v8 a0.m.x5, v8 a0.m.x6, v8 a0.m.x7, v8 a0.m.x8, v8 a0.m.x9, v8 a0.m.x10, v8 a0.m.x11] 31 [(7, v32 (U32 t3.1))] (by kernel_rfl) (by kernel_rfl) (by kernel_rfl) ?_
          refine t_L (L' := [.blk g2 [.slice A5 t4.2.xb.length c5] 110, .blk g1 [vb a0.hM, v16 a0.ms, vb a0.hS, v8 a0.sc, vb a0.sO, .slice none 0 0, vb true, v32 (U32 t3.1), v32 a0.ec, vb a0.hO, v8 a0.ki, v8 a0.ni, v8 a0.m.x0, v8 a0.m.x1, v8 a0.m.x2, v8 a0.m.x3, v8 a0.m.x4, v8 a0.m.x5, v8 a0.m.x6, v8 a0.m.x7, v8 a0.m.x8, v8 a0.m.x9, v8 a0.m.x10, v8 a0.m.x11] 31]) (by kernel_rfl) ?_
          refine o_run 2 [45, 51] (l := []) .nil (E' := [(45, v32 (U32 t4.1)), (51, .pointer (some ⟨g1, 8, none⟩))]) (by kernel_rfl) ?_
          refine o_stp ?_ (by kernel_rfl)
          refine s_store 1 g1 [vb a0.hM, v16 a0.ms, vb a0.hS, v8 a0.sc, vb a0.sO, .slice none 0 0, vb true, v32 (U32 t3.1), v32 a0.ec, vb a0.hO, v8 a0.ki, v8 a0.ni, v8 a0.m.x0, v8 a0.m.x1, v8 a0.m.x2, v8 a0.m.x3, v8 a0.m.x4, v8 a0.m.x5, v8 a0.m.x6, v8 a0.m.x7, v8 a0.m.x8, v8 a0.m.x9, v8 a0.m.x10, v8 a0.m.x11] 31 [(8, v32 (U32 t4.1))] (by kernel_rfl) (by kernel_rfl) (by kernel_rfl) ?_
          refine t_L (L' := [.blk g2 [.slice A5 t4.2.xb.length c5] 110, .blk g1 [vb a0.hM, v16 a0.ms, vb a0.hS, v8 a0.sc, vb a0.sO, .slice none 0 0, vb true, v32 (U32 t3.1), v32 (U32 t4.1), vb a0.hO, v8 a0.ki, v8 a0.ni, v8 a0.m.x0, v8 a0.m.x1, v8 a0.m.x2, v8 a0.m.x3, v8 a0.m.x4, v8 a0.m.x5, v8 a0.m.x6, v8 a0.m.x7, v8 a0.m.x8, v8 a0.m.x9, v8 a0.m.x10, v8 a0.m.x11] 31]) (by kernel_rfl) ?_
          refine o_end (by kernel_rfl) ?_
          refine e_blk ?_
          refine t_nil 84 2 ?_
          refine t_L (L' := [.own none (([] : List TB).length) 0 (rowOf encTB ([] : List TB)) 2 84, .blk g2 [.slice A5 t4.2.xb.length c5] 110, .blk g1 [vb a0.hM, v16 a0.ms, vb a0.hS, v8 a0.sc, vb a0.sO, .slice none 0 0, vb true, v32 (U32 t3.1), v32 (U32 t4.1), vb a0.hO, v8 a0.ki, v8 a0.ni, v8 a0.m.x0, v8 a0.m.x1, v8 a0.m.x2, v8 a0.m.x3, v8 a0.m.x4, v8 a0.m.x5, v8 a0.m.x6, v8 a0.m.x7, v8 a0.m.x8, v8 a0.m.x9, v8 a0.m.x10, v8 a0.m.x11] 31]) (by kernel_rfl) ?_
          obtain rfl := Option.some.inj hm
          exact e_endP (B4, none, 0, A5, c5) (.tuple #[]) [2, 0, 1] (by kernel_rfl) (by kernel_rfl) rfl (by kernel_rfl) (by kernel_rfl) ⟨hx7, hs5⟩
        · replace hm := ite_f hb4 hm
          refine w_seq 3582 3583 (by kernel_rfl) ?_
          refine w_region (by kernel_rfl) ?_
          refine o_run 2 [0, 2, 6, 52] (l := []) .nil (E' := [(0, (pg g1)), (2, (pg g2)), (6, v8 a1), (52, vb (a1 == 29))]) (by kernel_rfl) ?_
          refine o_end (by kernel_rfl) ?_
          refine e_seq ?_
          refine w_cond (.tmp 52) 7166 7167 (a1 == 29) (by kernel_rfl) (by kernel_rfl) (fun hb5 => ?_) (fun hb5 => ?_)
          · replace hm := ite_t hb5 hm
            refine w_seq 14332 14333 (by kernel_rfl) ?_
            refine w_region (by kernel_rfl) ?_
            refine o_run 4 [0, 2, 54, 55, 56, 57] (l := []) .nil (E' := [(0, (pg g1)), (2, (pg g2)), (54, (pg g1)), (55, (pg g1)), (56, (pg g1)), (57, (pg g2))]) (by kernel_rfl) ?_
            obtain ⟨t5, hx9, hm⟩ := bind_some hm
            refine o_stp ?_ (by kernel_rfl)
            refine s_call 58 68 #[pg g2, v64 1] [1, 2] [0] (by kernel_rfl) (by kernel_rfl) (fun w hs => oR_Num_ok k a2 1 t5 hx9 B _ g2 A1 c1 w (St.cast (by kernel_rfl) hs)) (fun x hx => ?_)
            obtain ⟨B5, A6, c6⟩ := x
            obtain ⟨hx10, hs6⟩ := hx
            refine t_L (L' := [.blk g2 [.slice A6 t5.2.xb.length c6] 110, .blk g1 [vb a0.hM, v16 a0.ms, vb a0.hS, v8 a0.sc, vb a0.sO, .slice none 0 0, vb a0.hT, v32 a0.va, v32 a0.ec, vb a0.hO, v8 a0.ki, v8 a0.ni, v8 a0.m.x0, v8 a0.m.x1, v8 a0.m.x2, v8 a0.m.x3, v8 a0.m.x4, v8 a0.m.x5, v8 a0.m.x6, v8 a0.m.x7, v8 a0.m.x8, v8 a0.m.x9, v8 a0.m.x10, v8 a0.m.x11] 31]) (by kernel_rfl) ?_
            refine o_run 2 [0, 2, 54, 55, 56, 59, 60] (l := []) .nil (E' := [(0, (pg g1)), (2, (pg g2)), (54, (pg g1)), (55, (pg g1)), (56, (pg g1)), (59, v8 (U8 t5.1)), (60, (pg g2))]) (by kernel_rfl) ?_
            obtain ⟨t6, hx11, hm⟩ := bind_some hm
            refine o_stp ?_ (by kernel_rfl)
            refine s_call 61 68 #[pg g2, v64 1] [0] [1] (by kernel_rfl) (by kernel_rfl) (fun w hs => oR_Num_2_ok k t5.2 1 t6 hx11 B5 _ g2 A6 c6 hs6 w (St.cast (by kernel_rfl) hs)) (fun x hx => ?_)
            obtain ⟨A7, c7⟩ := x
            have hs7 := hx
            refine t_L (L' := [.blk g2 [.slice A7 t6.2.xb.length c7] 110, .blk g1 [vb a0.hM, v16 a0.ms, vb a0.hS, v8 a0.sc, vb a0.sO, .slice none 0 0, vb a0.hT, v32 a0.va, v32 a0.ec, vb a0.hO, v8 a0.ki, v8 a0.ni, v8 a0.m.x0, v8 a0.m.x1, v8 a0.m.x2, v8 a0.m.x3, v8 a0.m.x4, v8 a0.m.x5, v8 a0.m.x6, v8 a0.m.x7, v8 a0.m.x8, v8 a0.m.x9, v8 a0.m.x10, v8 a0.m.x11] 31]) (by kernel_rfl) ?_
            refine o_run 3 [0, 2, 55, 56, 59, 62, 64] (l := []) .nil (E' := [(0, (pg g1)), (2, (pg g2)), (55, (pg g1)), (56, (pg g1)), (59, v8 (U8 t5.1)), (62, v8 (U8 t6.1)), (64, .pointer (some ⟨g1, 9, none⟩))]) (by kernel_rfl) ?_
            refine o_stp ?_ (by kernel_rfl)
            refine s_store 1 g1 [vb a0.hM, v16 a0.ms, vb a0.hS, v8 a0.sc, vb a0.sO, .slice none 0 0, vb a0.hT, v32 a0.va, v32 a0.ec, vb a0.hO, v8 a0.ki, v8 a0.ni, v8 a0.m.x0, v8 a0.m.x1, v8 a0.m.x2, v8 a0.m.x3, v8 a0.m.x4, v8 a0.m.x5, v8 a0.m.x6, v8 a0.m.x7, v8 a0.m.x8, v8 a0.m.x9, v8 a0.m.x10, v8 a0.m.x11] 31 [(9, vb true)] (by kernel_rfl) (by kernel_rfl) (by kernel_rfl) ?_
            refine t_L (L' := [.blk g2 [.slice A7 t6.2.xb.length c7] 110, .blk g1 [vb a0.hM, v16 a0.ms, vb a0.hS, v8 a0.sc, vb a0.sO, .slice none 0 0, vb a0.hT, v32 a0.va, v32 a0.ec, vb true, v8 a0.ki, v8 a0.ni, v8 a0.m.x0, v8 a0.m.x1, v8 a0.m.x2, v8 a0.m.x3, v8 a0.m.x4, v8 a0.m.x5, v8 a0.m.x6, v8 a0.m.x7, v8 a0.m.x8, v8 a0.m.x9, v8 a0.m.x10, v8 a0.m.x11] 31]) (by kernel_rfl) ?_
            refine o_run 2 [0, 2, 56, 59, 62, 66] (l := []) .nil (E' := [(0, (pg g1)), (2, (pg g2)), (56, (pg g1)), (59, v8 (U8 t5.1)), (62, v8 (U8 t6.1)), (66, .pointer (some ⟨g1, 10, none⟩))]) (by kernel_rfl) ?_
            refine o_stp ?_ (by kernel_rfl)
            refine s_store 1 g1 [vb a0.hM, v16 a0.ms, vb a0.hS, v8 a0.sc, vb a0.sO, .slice none 0 0, vb a0.hT, v32 a0.va, v32 a0.ec, vb true, v8 a0.ki, v8 a0.ni, v8 a0.m.x0, v8 a0.m.x1, v8 a0.m.x2, v8 a0.m.x3, v8 a0.m.x4, v8 a0.m.x5, v8 a0.m.x6, v8 a0.m.x7, v8 a0.m.x8, v8 a0.m.x9, v8 a0.m.x10, v8 a0.m.x11] 31 [(10, v8 (U8 t5.1))] (by kernel_rfl) (by kernel_rfl) (by kernel_rfl) ?_
            refine t_L (L' := [.blk g2 [.slice A7 t6.2.xb.length c7] 110, .blk g1 [vb a0.hM, v16 a0.ms, vb a0.hS, v8 a0.sc, vb a0.sO, .slice none 0 0, vb a0.hT, v32 a0.va, v32 a0.ec, vb true, v8 (U8 t5.1), v8 a0.ni, v8 a0.m.x0, v8 a0.m.x1, v8 a0.m.x2, v8 a0.m.x3, v8 a0.m.x4, v8 a0.m.x5, v8 a0.m.x6, v8 a0.m.x7, v8 a0.m.x8, v8 a0.m.x9, v8 a0.m.x10, v8 a0.m.x11] 31]) (by kernel_rfl) ?_
            refine o_run 2 [0, 2, 62, 68] (l := []) .nil (E' := [(0, (pg g1)), (2, (pg g2)), (62, v8 (U8 t6.1)), (68, .pointer (some ⟨g1, 11, none⟩))]) (by kernel_rfl) ?_
            refine o_stp ?_ (by kernel_rfl)
            refine s_store 1 g1 [vb a0.hM, v16 a0.ms, vb a0.hS, v8 a0.sc, vb a0.sO, .slice none 0 0, vb a0.hT, v32 a0.va, v32 a0.ec, vb true, v8 (U8 t5.1), v8 a0.ni, v8 a0.m.x0, v8 a0.m.x1, v8 a0.m.x2, v8 a0.m.x3, v8 a0.m.x4, v8 a0.m.x5, v8 a0.m.x6, v8 a0.m.x7, v8 a0.m.x8, v8 a0.m.x9, v8 a0.m.x10, v8 a0.m.x11] 31 [(11, v8 (U8 t6.1))] (by kernel_rfl) (by kernel_rfl) (by kernel_rfl) ?_
            refine t_L (L' := [.blk g2 [.slice A7 t6.2.xb.length c7] 110, .blk g1 [vb a0.hM, v16 a0.ms, vb a0.hS, v8 a0.sc, vb a0.sO, .slice none 0 0, vb a0.hT, v32 a0.va, v32 a0.ec, vb true, v8 (U8 t5.1), v8 (U8 t6.1), v8 a0.m.x0, v8 a0.m.x1, v8 a0.m.x2, v8 a0.m.x3, v8 a0.m.x4, v8 a0.m.x5, v8 a0.m.x6, v8 a0.m.x7, v8 a0.m.x8, v8 a0.m.x9, v8 a0.m.x10, v8 a0.m.x11] 31]) (by kernel_rfl) ?_
            refine o_end (by kernel_rfl) ?_
            refine e_seq ?_
            refine w_region (by kernel_rfl) ?_
            refine o_run 2 [69, 70] (l := []) .nil (E' := [(69, (pg g1)), (70, (pg g2))]) (by kernel_rfl) ?_
            obtain ⟨t7, hx12, hm⟩ := bind_some hm
            refine o_stp ?_ (by kernel_rfl)
            refine s_call 71 80 #[pg g2, v64 12] [0] [1] (by kernel_rfl) (by kernel_rfl) (fun w hs => oR_Bytes_2_ok t6.2 12 t7 hx12 B5 _ g2 A7 c7 hs7 w (St.cast (by kernel_rfl) hs)) (fun x hx => ?_)
            obtain ⟨A8, c8, A9, c9⟩ := x
            obtain ⟨hs8, hs9⟩ := hx
            refine t_L (L' := [.blk g2 [.slice A9 t7.2.xb.length c9] 110, .blk g1 [vb a0.hM, v16 a0.ms, vb a0.hS, v8 a0.sc, vb a0.sO, .slice none 0 0, vb a0.hT, v32 a0.va, v32 a0.ec, vb true, v8 (U8 t5.1), v8 (U8 t6.1), v8 a0.m.x0, v8 a0.m.x1, v8 a0.m.x2, v8 a0.m.x3, v8 a0.m.x4, v8 a0.m.x5, v8 a0.m.x6, v8 a0.m.x7, v8 a0.m.x8, v8 a0.m.x9, v8 a0.m.x10, v8 a0.m.x11] 31]) (by kernel_rfl) ?_
            obtain ⟨l1, hx13, hm⟩ := bind_some hm
            refine o_val 72 (.sliceToArrayPointer 29 (.tmp 71)) (.pointer (some (adr A8 (Int.toNat 0 * 1)))) (by kernel_rfl) (v_arrAt (n := 12) hs8 hx13 rfl (by kernel_rfl) (by kernel_rfl)) ?_
            refine o_val 73 (.load 29 (.tmp 72)) (.agg #[v8 (l1.getD 0 0), v8 (l1.getD 1 0), v8 (l1.getD 2 0), v8 (l1.getD 3 0), v8 (l1.getD 4 0), v8 (l1.getD 5 0), v8 (l1.getD 6 0), v8 (l1.getD 7 0), v8 (l1.getD 8 0), v8 (l1.getD 9 0), v8 (l1.getD 10 0), v8 (l1.getD 11 0)]) (by kernel_rfl) (v_load (l := [v8 (l1.getD 0 0), v8 (l1.getD 1 0), v8 (l1.getD 2 0), v8 (l1.getD 3 0), v8 (l1.getD 4 0), v8 (l1.getD 5 0), v8 (l1.getD 6 0), v8 (l1.getD 7 0), v8 (l1.getD 8 0), v8 (l1.getD 9 0), v8 (l1.getD 10 0), v8 (l1.getD 11 0)]) (a := (adr A8 (Int.toNat 0 * 1))) (by kernel_rfl) (by kernel_rfl) (at_arr (n := 12) 0 hs8 hx13)) ?_
            refine o_run 2 [73, 75] (l := []) .nil (E' := [(73, .agg #[v8 (l1.getD 0 0), v8 (l1.getD 1 0), v8 (l1.getD 2 0), v8 (l1.getD 3 0), v8 (l1.getD 4 0), v8 (l1.getD 5 0), v8 (l1.getD 6 0), v8 (l1.getD 7 0), v8 (l1.getD 8 0), v8 (l1.getD 9 0), v8 (l1.getD 10 0), v8 (l1.getD 11 0)]), (75, .pointer (some ⟨g1, 12, none⟩))]) (by kernel_rfl) ?_
            refine o_stp ?_ (by kernel_rfl)
            refine s_store 1 g1 [vb a0.hM, v16 a0.ms, vb a0.hS, v8 a0.sc, vb a0.sO, .slice none 0 0, vb a0.hT, v32 a0.va, v32 a0.ec, vb true, v8 (U8 t5.1), v8 (U8 t6.1), v8 a0.m.x0, v8 a0.m.x1, v8 a0.m.x2, v8 a0.m.x3, v8 a0.m.x4, v8 a0.m.x5, v8 a0.m.x6, v8 a0.m.x7, v8 a0.m.x8, v8 a0.m.x9, v8 a0.m.x10, v8 a0.m.x11] 31 [(12, v8 (l1.getD 0 0)), (13, v8 (l1.getD 1 0)), (14, v8 (l1.getD 2 0)), (15, v8 (l1.getD 3 0)), (16, v8 (l1.getD 4 0)), (17, v8 (l1.getD 5 0)), (18, v8 (l1.getD 6 0)), (19, v8 (l1.getD 7 0)), (20, v8 (l1.getD 8 0)), (21, v8 (l1.getD 9 0)), (22, v8 (l1.getD 10 0)), (23, v8 (l1.getD 11 0))] (by kernel_rfl) (by kernel_rfl) (by kernel_rfl) ?_
            refine t_L (L' := [.blk g2 [.slice A9 t7.2.xb.length c9] 110, .blk g1 [vb a0.hM, v16 a0.ms, vb a0.hS, v8 a0.sc, vb a0.sO, .slice none 0 0, vb a0.hT, v32 a0.va, v32 a0.ec, vb true, v8 (U8 t5.1), v8 (U8 t6.1), v8 (l1.getD 0 0), v8 (l1.getD 1 0), v8 (l1.getD 2 0), v8 (l1.getD 3 0), v8 (l1.getD 4 0), v8 (l1.getD 5 0), v8 (l1.getD 6 0), v8 (l1.getD 7 0), v8 (l1.getD 8 0), v8 (l1.getD 9 0), v8 (l1.getD 10 0), v8 (l1.getD 11 0)] 31]) (by kernel_rfl) ?_
            refine o_end (by kernel_rfl) ?_
            refine e_blk ?_
            refine t_nil 84 2 ?_
            refine t_L (L' := [.own none (([] : List TB).length) 0 (rowOf encTB ([] : List TB)) 2 84, .blk g2 [.slice A9 t7.2.xb.length c9] 110, .blk g1 [vb a0.hM, v16 a0.ms, vb a0.hS, v8 a0.sc, vb a0.sO, .slice none 0 0, vb a0.hT, v32 a0.va, v32 a0.ec, vb true, v8 (U8 t5.1), v8 (U8 t6.1), v8 (l1.getD 0 0), v8 (l1.getD 1 0), v8 (l1.getD 2 0), v8 (l1.getD 3 0), v8 (l1.getD 4 0), v8 (l1.getD 5 0), v8 (l1.getD 6 0), v8 (l1.getD 7 0), v8 (l1.getD 8 0), v8 (l1.getD 9 0), v8 (l1.getD 10 0), v8 (l1.getD 11 0)] 31]) (by kernel_rfl) ?_
            obtain rfl := Option.some.inj hm
            exact e_endP (B5, none, 0, A9, c9) (.tuple #[]) [2, 0, 1] (by kernel_rfl) (by kernel_rfl) rfl (by kernel_rfl) (by kernel_rfl) ⟨hx10, hs9⟩
          · replace hm := ite_f hb5 hm
            refine w_seq 14334 14335 (by kernel_rfl) ?_
            refine w_region (by kernel_rfl) ?_
            refine o_run 2 [0, 2, 76] (l := []) .nil (E' := [(0, (pg g1)), (2, (pg g2)), (76, vb (a1 == 5))]) (by kernel_rfl) ?_
            refine o_end (by kernel_rfl) ?_
            refine e_seq ?_
            refine w_cond (.tmp 76) 28670 28671 (a1 == 5) (by kernel_rfl) (by kernel_rfl) (fun hb6 => ?_) (fun hb6 => ?_)
            · replace hm := ite_t hb6 hm
              refine w_block 1 57340 (by kernel_rfl) ?_
              refine t_nil 84 2 ?_
              refine t_L (L' := [.own none (([] : List TB).length) 0 (rowOf encTB ([] : List TB)) 2 84, .blk g1 [vb a0.hM, v16 a0.ms, vb a0.hS, v8 a0.sc, vb a0.sO, .slice none 0 0, vb a0.hT, v32 a0.va, v32 a0.ec, vb a0.hO, v8 a0.ki, v8 a0.ni, v8 a0.m.x0, v8 a0.m.x1, v8 a0.m.x2, v8 a0.m.x3, v8 a0.m.x4, v8 a0.m.x5, v8 a0.m.x6, v8 a0.m.x7, v8 a0.m.x8, v8 a0.m.x9, v8 a0.m.x10, v8 a0.m.x11] 31, .blk g2 [.slice A1 a2.xb.length c1] 110, .own A1 a2.xb.length c1 (rowOf e8 a2.xb) 1 5]) (by kernel_rfl) ?_
              refine t_drop [3, 0, 1, 2] (by kernel_rfl) ?_
              refine t_L (L' := [.own A1 a2.xb.length c1 (rowOf e8 a2.xb) 1 5, .own none (([] : List TB).length) 0 (rowOf encTB ([] : List TB)) 2 84, .blk g1 [vb a0.hM, v16 a0.ms, vb a0.hS, v8 a0.sc, vb a0.sO, .slice none (([] : List TB).length) 0, vb a0.hT, v32 a0.va, v32 a0.ec, vb a0.hO, v8 a0.ki, v8 a0.ni, v8 a0.m.x0, v8 a0.m.x1, v8 a0.m.x2, v8 a0.m.x3, v8 a0.m.x4, v8 a0.m.x5, v8 a0.m.x6, v8 a0.m.x7, v8 a0.m.x8, v8 a0.m.x9, v8 a0.m.x10, v8 a0.m.x11] 31, .blk g2 [.slice A1 a2.xb.length c1] 110]) (by kernel_rfl) ?_
              refine t_frozS (kI .u8) rfl rfl (fun B6 hx14 hs10 => ?_)
              obtain ⟨t8, ht1, ho1⟩ := bind_some hm
              refine t_drop [1, 0, 2] (by kernel_rfl) ?_
              refine t_L (L' := [.blk g1 [vb a0.hM, v16 a0.ms, vb a0.hS, v8 a0.sc, vb a0.sO, .slice none (([] : List TB).length) 0, vb a0.hT, v32 a0.va, v32 a0.ec, vb a0.hO, v8 a0.ki, v8 a0.ni, v8 a0.m.x0, v8 a0.m.x1, v8 a0.m.x2, v8 a0.m.x3, v8 a0.m.x4, v8 a0.m.x5, v8 a0.m.x6, v8 a0.m.x7, v8 a0.m.x8, v8 a0.m.x9, v8 a0.m.x10, v8 a0.m.x11] 31, .own none (([] : List TB).length) 0 (rowOf encTB ([] : List TB)) 2 84, .blk g2 [.slice A1 a2.xb.length c1] 110]) (by kernel_rfl) ?_
              refine t_env [0, 2] (E' := [(0, (pg g1)), (2, (pg g2))]) (by kernel_rfl) ?_
              refine w_loopJ 114680 1 (fun k a w => ∃ (p1 : TO) (p2 : TR) (B7 : Asn) (A10 : Option Addr) (c10 : Nat) (A11 : Option Addr) (c11 : Nat), opts_take.l1 k p1 p2 = some t8 ∧ Ext B6 B7 ∧ Sl (kI .u8) B7 A11 c11 p2.xb ∧ EnvOk [(0, (pg g1)), (2, (pg g2))] Try.f78.ntmps a ∧ St B7 G [.blk g1 [vb p1.hM, v16 p1.ms, vb p1.hS, v8 p1.sc, vb p1.sO, .slice A10 p1.sk.length c10, vb p1.hT, v32 p1.va, v32 p1.ec, vb p1.hO, v8 p1.ki, v8 p1.ni, v8 p1.m.x0, v8 p1.m.x1, v8 p1.m.x2, v8 p1.m.x3, v8 p1.m.x4, v8 p1.m.x5, v8 p1.m.x6, v8 p1.m.x7, v8 p1.m.x8, v8 p1.m.x9, v8 p1.m.x10, v8 p1.m.x11] 31, .own A10 p1.sk.length c10 (rowOf encTB p1.sk) 2 84, .blk g2 [.slice A11 p2.xb.length c11] 110] w) (fun a w => ∃ (B8 : Asn) (A12 : Option Addr) (c12 : Nat) (A13 : Option Addr) (c13 : Nat), Ext B6 B8 ∧ Sl (kI .u8) B8 A13 c13 ((t8.2).xb) ∧ EnvOk [] Try.f78.ntmps a ∧ St B8 G [.blk g1 [vb ((t8.1).hM), v16 ((t8.1).ms), vb ((t8.1).hS), v8 ((t8.1).sc), vb ((t8.1).sO), .slice A12 (((t8.1).sk).length) c12, vb ((t8.1).hT), v32 ((t8.1).va), v32 ((t8.1).ec), vb ((t8.1).hO), v8 ((t8.1).ki), v8 ((t8.1).ni), v8 (((t8.1).m).x0), v8 (((t8.1).m).x1), v8 (((t8.1).m).x2), v8 (((t8.1).m).x3), v8 (((t8.1).m).x4), v8 (((t8.1).m).x5), v8 (((t8.1).m).x6), v8 (((t8.1).m).x7), v8 (((t8.1).m).x8), v8 (((t8.1).m).x9), v8 (((t8.1).m).x10), v8 (((t8.1).m).x11)] 31, .own A12 (((t8.1).sk).length) c12 (rowOf encTB ((t8.1).sk)) 2 84, .blk g2 [.slice A13 ((t8.2).xb).length c13] 110] w) (by kernel_rfl) ?_ ?_ k ?_
              · rintro a w ⟨B8, A12, c12, A13, c13, hx16, hs12, ha, hw⟩
                refine we_of (E := []) (B := B8) (G := G) (L := [.blk g1 [vb ((t8.1).hM), v16 ((t8.1).ms), vb ((t8.1).hS), v8 ((t8.1).sc), vb ((t8.1).sO), .slice A12 (((t8.1).sk).length) c12, vb ((t8.1).hT), v32 ((t8.1).va), v32 ((t8.1).ec), vb ((t8.1).hO), v8 ((t8.1).ki), v8 ((t8.1).ni), v8 (((t8.1).m).x0), v8 (((t8.1).m).x1), v8 (((t8.1).m).x2), v8 (((t8.1).m).x3), v8 (((t8.1).m).x4), v8 (((t8.1).m).x5), v8 (((t8.1).m).x6), v8 (((t8.1).m).x7), v8 (((t8.1).m).x8), v8 (((t8.1).m).x9), v8 (((t8.1).m).x10), v8 (((t8.1).m).x11)] 31, .own A12 (((t8.1).sk).length) c12 (rowOf encTB ((t8.1).sk)) 2 84, .blk g2 [.slice A13 ((t8.2).xb).length c13] 110]) ?_ ha hw
                have hm := ho1
                refine e_blk ?_
                obtain rfl := Option.some.inj hm
                exact e_endP (B8, A12, c12, A13, c13) (.tuple #[]) [0, 1, 2] (by kernel_rfl) (by kernel_rfl) rfl (by kernel_rfl) (by kernel_rfl) ⟨(Ext.trans hx14 hx16), hs12⟩
              · rintro k a w ⟨p1, p2, B7, A10, c10, A11, c11, hm, hx15, hs11, ha, hw⟩
                cases k with
                | zero => exact absurd hm (by simp [opts_take.l1])
                | succ k =>
                  unfold opts_take.l1 at hm
                  refine wc_of (E := [(0, (pg g1)), (2, (pg g2))]) (B := B7) (G := G) (L := [.blk g1 [vb p1.hM, v16 p1.ms, vb p1.hS, v8 p1.sc, vb p1.sO, .slice A10 p1.sk.length c10, vb p1.hT, v32 p1.va, v32 p1.ec, vb p1.hO, v8 p1.ki, v8 p1.ni, v8 p1.m.x0, v8 p1.m.x1, v8 p1.m.x2, v8 p1.m.x3, v8 p1.m.x4, v8 p1.m.x5, v8 p1.m.x6, v8 p1.m.x7, v8 p1.m.x8, v8 p1.m.x9, v8 p1.m.x10, v8 p1.m.x11] 31, .own A10 p1.sk.length c10 (rowOf encTB p1.sk) 2 84, .blk g2 [.slice A11 p2.xb.length c11] 110]) ?_ ha hw
                  refine w_seq 229360 229361 (by kernel_rfl) ?_
                  refine w_seq 458720 458721 (by kernel_rfl) ?_
                  refine w_region (by kernel_rfl) ?_
                  refine o_run 1 [0, 2, 78] (l := []) .nil (E' := [(0, (pg g1)), (2, (pg g2)), (78, (pg g2))]) (by kernel_rfl) ?_
                  obtain ⟨t9, hx17, hm⟩ := bind_some hm
                  refine o_stp ?_ (by kernel_rfl)
                  refine s_call 79 65 #[pg g2] [2] [0, 1] (by kernel_rfl) (by kernel_rfl) (fun w hs => oR_Left_2_ok p2 t9 hx17 B7 _ g2 A11 c11 hs11 w (St.cast (by kernel_rfl) hs)) (fun _ hx => ?_)
                  refine t_L (L' := [.blk g2 [.slice A11 p2.xb.length c11] 110, .blk g1 [vb p1.hM, v16 p1.ms, vb p1.hS, v8 p1.sc, vb p1.sO, .slice A10 p1.sk.length c10, vb p1.hT, v32 p1.va, v32 p1.ec, vb p1.hO, v8 p1.ki, v8 p1.ni, v8 p1.m.x0, v8 p1.m.x1, v8 p1.m.x2, v8 p1.m.x3, v8 p1.m.x4, v8 p1.m.x5, v8 p1.m.x6, v8 p1.m.x7, v8 p1.m.x8, v8 p1.m.x9, v8 p1.m.x10, v8 p1.m.x11] 31, .own A10 p1.sk.length c10 (rowOf encTB p1.sk) 2 84]) (by kernel_rfl) ?_
                  refine o_run 1 [0, 2, 80] (l := []) .nil (E' := [(0, (pg g1)), (2, (pg g2)), (80, vb (decide (t9 ≥ 8)))]) (by kernel_rfl) ?_
                  refine o_end (by kernel_rfl) ?_
                  refine e_seq ?_
                  refine w_cond (.tmp 80) 917442 917443 (decide (t9 ≥ 8)) (by kernel_rfl) (by kernel_rfl) (fun hb7 => ?_) (fun hb7 => ?_)
                  · replace hm := ite_t hb7 hm
                    refine w_skip (by kernel_rfl) ?_
                    refine e_seq ?_
                    refine w_block 2 458722 (by kernel_rfl) ?_
                    obtain ⟨t10, hx18, hm⟩ := bind_some hm
                    obtain ⟨t11, hx19, hm⟩ := bind_some hm
                    obtain ⟨l2, hx20, hm⟩ := bind_some hm
                    refine w_tail 14 [.blk g1 [vb p1.hM, v16 p1.ms, vb p1.hS, v8 p1.sc, vb p1.sO, .slice A10 p1.sk.length c10, vb p1.hT, v32 p1.va, v32 p1.ec, vb p1.hO, v8 p1.ki, v8 p1.ni, v8 p1.m.x0, v8 p1.m.x1, v8 p1.m.x2, v8 p1.m.x3, v8 p1.m.x4, v8 p1.m.x5, v8 p1.m.x6, v8 p1.m.x7, v8 p1.m.x8, v8 p1.m.x9, v8 p1.m.x10, v8 p1.m.x11] 31] (by kernel_rfl) mixed (by kernel_rfl) ?_
                    refine tt_run [0, 1, 2, 3, 4, 5, 8] [0, 2, 81, 85, 86, 89] [1] 7 (listed' := #[true, true, true, true, true, true, false, false, true, false, false, false, false, false, false, false, false]) (l := [(⟨g1, 5, none⟩, .slice A10 p1.sk.length c10)]) (.one (at_blk (j := 0) rfl rfl) .nil) (E' := [(0, (pg g1)), (2, (pg g2)), (81, (pg g1)), (85, .slice A10 p1.sk.length c10), (86, (pg g2)), (89, (pg g2))]) (by kernel_rfl) (by kernel_rfl) (by kernel_rfl) (Ext.refl _) (by kernel_rfl) (by kernel_rfl) ?_
                    refine tt_stp 6 [1] (Ext.refl _) (by kernel_rfl) (by kernel_rfl) (by kernel_rfl) (by kernel_rfl) ?_
                    refine s_call 87 68 #[pg g2, v64 4] [0] [1, 2] (by kernel_rfl) (by kernel_rfl) (fun w hs => oR_Num_2_ok k p2 4 t10 hx18 B7 _ g2 A11 c11 hs11 w (St.cast (by kernel_rfl) hs)) (fun x hx => ?_)
                    obtain ⟨A17, c17⟩ := x
                    have hs15 := hx
                    refine t_L (L' := [.blk g2 [.slice A17 t10.2.xb.length c17] 110, .blk g1 [vb p1.hM, v16 p1.ms, vb p1.hS, v8 p1.sc, vb p1.sO, .slice A10 p1.sk.length c10, vb p1.hT, v32 p1.va, v32 p1.ec, vb p1.hO, v8 p1.ki, v8 p1.ni, v8 p1.m.x0, v8 p1.m.x1, v8 p1.m.x2, v8 p1.m.x3, v8 p1.m.x4, v8 p1.m.x5, v8 p1.m.x6, v8 p1.m.x7, v8 p1.m.x8, v8 p1.m.x9, v8 p1.m.x10, v8 p1.m.x11] 31, .own A10 p1.sk.length c10 (rowOf encTB p1.sk) 2 84]) (by kernel_rfl) ?_
                    refine tt_run [7] [0, 2, 81, 85, 88, 89] [1] 5 (listed' := #[true, true, true, true, true, true, true, true, true, false, false, false, false, false, false, false, false]) (l := []) .nil (E' := [(0, (pg g1)), (2, (pg g2)), (81, (pg g1)), (85, .slice A10 p1.sk.length c10), (88, v32 (U32 t10.1)), (89, (pg g2))]) (by kernel_rfl) (by kernel_rfl) (by kernel_rfl) (Ext.refl _) (by kernel_rfl) (by kernel_rfl) ?_
                    refine tt_stp 9 [1] (Ext.refl _) (by kernel_rfl) (by kernel_rfl) (by kernel_rfl) (by kernel_rfl) ?_
                    refine s_call 90 68 #[pg g2, v64 4] [0] [1, 2] (by kernel_rfl) (by kernel_rfl) (fun w hs => oR_Num_2_ok k t10.2 4 t11 hx19 B7 _ g2 A17 c17 hs15 w (St.cast (by kernel_rfl) hs)) (fun x hx => ?_)
                    obtain ⟨A18, c18⟩ := x
                    have hs16 := hx
                    refine t_L (L' := [.blk g2 [.slice A18 t11.2.xb.length c18] 110, .blk g1 [vb p1.hM, v16 p1.ms, vb p1.hS, v8 p1.sc, vb p1.sO, .slice A10 p1.sk.length c10, vb p1.hT, v32 p1.va, v32 p1.ec, vb p1.hO, v8 p1.ki, v8 p1.ni, v8 p1.m.x0, v8 p1.m.x1, v8 p1.m.x2, v8 p1.m.x3, v8 p1.m.x4, v8 p1.m.x5, v8 p1.m.x6, v8 p1.m.x7, v8 p1.m.x8, v8 p1.m.x9, v8 p1.m.x10, v8 p1.m.x11] 31, .own A10 p1.sk.length c10 (rowOf encTB p1.sk) 2 84]) (by kernel_rfl) ?_
                    refine tt_run [10, 11] [0, 2, 81, 85, 92] [1] 2 (listed' := #[true, true, true, true, true, true, true, true, true, true, true, true, false, false, false, false, false]) (l := []) .nil (E' := [(0, (pg g1)), (2, (pg g2)), (81, (pg g1)), (85, .slice A10 p1.sk.length c10), (92, .agg #[v32 (U32 t10.1), v32 (U32 t11.1)])]) (by kernel_rfl) (by kernel_rfl) (by kernel_rfl) (Ext.refl _) (by kernel_rfl) (by kernel_rfl) ?_
                    refine tt_stp 12 [1] (Ext.refl _) (by kernel_rfl) (by kernel_rfl) (by kernel_rfl) (by kernel_rfl) ?_
                    refine s_new 93 (fun g4 => .slice (ag g4) 1 1) [v32 (U32 t10.1), v32 (U32 t11.1)] 84 (fun _ => by kernel_rfl) (fun g4 => ?_)
                    refine tt_stp 13 [2] (Ext.refl _) (by kernel_rfl) (by kernel_rfl) (by kernel_rfl) (by kernel_rfl) ?_
                    refine s_app (z := .agg #[v32 0, v32 0]) (enc := encTB) (ys := [(⟨U32 t10.1, U32 t11.1⟩ : TB)]) (k := 1) (bytes := 8) 94 28 28 (.tmp 85) (.tmp 93) 3 hx20 rfl rfl (by kernel_rfl) (by kernel_rfl) (by kernel_rfl) (by kernel_rfl) (by kernel_rfl) (by kernel_rfl) rfl (src_blk (e := 84) (j := 0) (by kernel_rfl) rfl (by kernel_rfl) rfl (by kernel_rfl)) (by decide) (fun A19 c19 => ?_)
                    refine t_L (L' := [.blk g4 [v32 (U32 t10.1), v32 (U32 t11.1)] 84, .blk g2 [.slice A18 t11.2.xb.length c18] 110, .blk g1 [vb p1.hM, v16 p1.ms, vb p1.hS, v8 p1.sc, vb p1.sO, .slice A10 p1.sk.length c10, vb p1.hT, v32 p1.va, v32 p1.ec, vb p1.hO, v8 p1.ki, v8 p1.ni, v8 p1.m.x0, v8 p1.m.x1, v8 p1.m.x2, v8 p1.m.x3, v8 p1.m.x4, v8 p1.m.x5, v8 p1.m.x6, v8 p1.m.x7, v8 p1.m.x8, v8 p1.m.x9, v8 p1.m.x10, v8 p1.m.x11] 31, .own A19 l2.length c19 (rowOf encTB l2) 2 84]) (by kernel_rfl) ?_
                    refine tt_end [2] (Ext.refl _) (by kernel_rfl) (by kernel_rfl) (by kernel_rfl) ?_
                    refine o_run 2 [0, 2, 94, 96] (l := []) .nil (E' := [(0, (pg g1)), (2, (pg g2)), (94, .slice A19 l2.length c19), (96, .pointer (some ⟨g1, 5, none⟩))]) (by kernel_rfl) ?_
                    refine o_stp ?_ (by kernel_rfl)
                    refine s_store 2 g1 [vb p1.hM, v16 p1.ms, vb p1.hS, v8 p1.sc, vb p1.sO, .slice A10 p1.sk.length c10, vb p1.hT, v32 p1.va, v32 p1.ec, vb p1.hO, v8 p1.ki, v8 p1.ni, v8 p1.m.x0, v8 p1.m.x1, v8 p1.m.x2, v8 p1.m.x3, v8 p1.m.x4, v8 p1.m.x5, v8 p1.m.x6, v8 p1.m.x7, v8 p1.m.x8, v8 p1.m.x9, v8 p1.m.x10, v8 p1.m.x11] 31 [(5, .slice A19 l2.length c19)] (by kernel_rfl) (by kernel_rfl) (by kernel_rfl) ?_
                    refine t_L (L' := [.blk g4 [v32 (U32 t10.1), v32 (U32 t11.1)] 84, .blk g2 [.slice A18 t11.2.xb.length c18] 110, .blk g1 [vb p1.hM, v16 p1.ms, vb p1.hS, v8 p1.sc, vb p1.sO, .slice A19 l2.length c19, vb p1.hT, v32 p1.va, v32 p1.ec, vb p1.hO, v8 p1.ki, v8 p1.ni, v8 p1.m.x0, v8 p1.m.x1, v8 p1.m.x2, v8 p1.m.x3, v8 p1.m.x4, v8 p1.m.x5, v8 p1.m.x6, v8 p1.m.x7, v8 p1.m.x8, v8 p1.m.x9, v8 p1.m.x10, v8 p1.m.x11] 31, .own A19 l2.length c19 (rowOf encTB l2) 2 84]) (by kernel_rfl) ?_
                    refine o_end (by kernel_rfl) ?_
                    refine e_blk ?_
                    refine t_drop [2, 3, 1] (by kernel_rfl) ?_
                    refine t_L (L' := [.blk g1 [vb p1.hM, v16 p1.ms, vb p1.hS, v8 p1.sc, vb p1.sO, .slice A19 l2.length c19, vb p1.hT, v32 p1.va, v32 p1.ec, vb p1.hO, v8 p1.ki, v8 p1.ni, v8 p1.m.x0, v8 p1.m.x1, v8 p1.m.x2, v8 p1.m.x3, v8 p1.m.x4, v8 p1.m.x5, v8 p1.m.x6, v8 p1.m.x7, v8 p1.m.x8, v8 p1.m.x9, v8 p1.m.x10, v8 p1.m.x11] 31, .own A19 l2.length c19 (rowOf encTB l2) 2 84, .blk g2 [.slice A18 t11.2.xb.length c18] 110]) (by kernel_rfl) ?_
                    refine t_env [0, 2] (E' := [(0, (pg g1)), (2, (pg g2))]) (by kernel_rfl) ?_
                    exact e_inv (fun a w ha hw => ⟨k, Nat.lt_succ_self k, (⟨p1.hM, p1.ms, p1.hS, p1.sc, p1.sO, l2, p1.hT, p1.va, p1.ec, p1.hO, p1.ki, p1.ni, p1.m⟩ : TO), t11.2, B7, A19, c19, A18, c18, hm, hx15, hs16, ha, hw⟩)
                  · replace hm := ite_f hb7 hm
                    refine w_exit 1 (by kernel_rfl) ?_
                    refine e_x_seq ?_
                    refine e_x_inv ?_
                    refine e_x_here ?_
                    refine t_drop [1, 2, 0] (by kernel_rfl) ?_
                    refine t_L (L' := [.blk g1 [vb p1.hM, v16 p1.ms, vb p1.hS, v8 p1.sc, vb p1.sO, .slice A10 p1.sk.length c10, vb p1.hT, v32 p1.va, v32 p1.ec, vb p1.hO, v8 p1.ki, v8 p1.ni, v8 p1.m.x0, v8 p1.m.x1, v8 p1.m.x2, v8 p1.m.x3, v8 p1.m.x4, v8 p1.m.x5, v8 p1.m.x6, v8 p1.m.x7, v8 p1.m.x8, v8 p1.m.x9, v8 p1.m.x10, v8 p1.m.x11] 31, .own A10 p1.sk.length c10 (rowOf encTB p1.sk) 2 84, .blk g2 [.slice A11 p2.xb.length c11] 110]) (by kernel_rfl) ?_
                    refine t_env [] (E' := []) (by kernel_rfl) ?_
                    obtain rfl := Option.some.inj hm
                    exact e_inv (fun a w ha hw => ⟨B7, A10, c10, A11, c11, hx15, hs11, ha, hw⟩)
              · exact fun a w ha hw => ⟨(⟨a0.hM, a0.ms, a0.hS, a0.sc, a0.sO, ([] : List TB), a0.hT, a0.va, a0.ec, a0.hO, a0.ki, a0.ni, a0.m⟩ : TO), a2, B6, none, 0, A1, c1, ht1, Ext.refl _, hs10, ha, hw⟩
            · replace hm := ite_f hb6 hm
              refine w_skip (by kernel_rfl) ?_
              refine e_blk ?_
              refine t_nil 84 2 ?_
              refine t_L (L' := [.own none (([] : List TB).length) 0 (rowOf encTB ([] : List TB)) 2 84, .blk g1 [vb a0.hM, v16 a0.ms, vb a0.hS, v8 a0.sc, vb a0.sO, .slice none 0 0, vb a0.hT, v32 a0.va, v32 a0.ec, vb a0.hO, v8 a0.ki, v8 a0.ni, v8 a0.m.x0, v8 a0.m.x1, v8 a0.m.x2, v8 a0.m.x3, v8 a0.m.x4, v8 a0.m.x5, v8 a0.m.x6, v8 a0.m.x7, v8 a0.m.x8, v8 a0.m.x9, v8 a0.m.x10, v8 a0.m.x11] 31, .blk g2 [.slice A1 a2.xb.length c1] 110, .own A1 a2.xb.length c1 (rowOf e8 a2.xb) 1 5]) (by kernel_rfl) ?_
              refine t_drop [3, 0, 1, 2] (by kernel_rfl) ?_
              refine t_L (L' := [.own A1 a2.xb.length c1 (rowOf e8 a2.xb) 1 5, .own none (([] : List TB).length) 0 (rowOf encTB ([] : List TB)) 2 84, .blk g1 [vb a0.hM, v16 a0.ms, vb a0.hS, v8 a0.sc, vb a0.sO, .slice none (([] : List TB).length) 0, vb a0.hT, v32 a0.va, v32 a0.ec, vb a0.hO, v8 a0.ki, v8 a0.ni, v8 a0.m.x0, v8 a0.m.x1, v8 a0.m.x2, v8 a0.m.x3, v8 a0.m.x4, v8 a0.m.x5, v8 a0.m.x6, v8 a0.m.x7, v8 a0.m.x8, v8 a0.m.x9, v8 a0.m.x10, v8 a0.m.x11] 31, .blk g2 [.slice A1 a2.xb.length c1] 110]) (by kernel_rfl) ?_
              refine t_frozS (kI .u8) rfl rfl (fun B9 hx21 hs17 => ?_)
              obtain rfl := Option.some.inj hm
              exact e_endP (B9, none, 0, A1, c1) (.tuple #[]) [1, 0, 2] (by kernel_rfl) (by kernel_rfl) rfl (by kernel_rfl) (by kernel_rfl) ⟨hx21, hs17⟩
def opts_one.f (k : Nat) (a0 : TO_o) (a1 : List Bool) (a2 : TR) : Option (Bool × Int × TO × (List Bool) × TR) :=
  ((oR_Num.f k a2 1).bind fun t1 => (if (U8 t1.1) == 0 then (some ((U8 t1.1) == 1, 0, (⟨a0.hM, a0.ms, a0.hS, a0.sc, a0.sO, ([] : List TB), a0.hT, a0.va, a0.ec, a0.hO, a0.ki, a0.ni, a0.m⟩ : TO), a1, t1.2)) else (if (U8 t1.1) == 1 then (some ((U8 t1.1) == 1, 0, (⟨a0.hM, a0.ms, a0.hS, a0.sc, a0.sO, ([] : List TB), a0.hT, a0.va, a0.ec, a0.hO, a0.ki, a0.ni, a0.m⟩ : TO), a1, t1.2)) else ((oR_Num_2.f k t1.2 1).bind fun t2 => ((opts_isRight.f (U8 t1.1) (I64 t2.1)).bind fun t3 => (if !t3 then (some (false, 3, (⟨a0.hM, a0.ms, a0.hS, a0.sc, a0.sO, ([] : List TB), a0.hT, a0.va, a0.ec, a0.hO, a0.ki, a0.ni, a0.m⟩ : TO), a1, t2.2)) else ((oR_Sub.f t2.2 (I64 ((I64 t2.1) - 2))).bind fun t4 => ((opts_sizes.f (U8 t1.1)).bind fun t5 => (if decide (t5 ≥ 0) then ((idx a1 (U8 t1.1)).bind fun e1 => (if e1 then (some (false, 7, (⟨a0.hM, a0.ms, a0.hS, a0.sc, a0.sO, ([] : List TB), a0.hT, a0.va, a0.ec, a0.hO, a0.ki, a0.ni, a0.m⟩ : TO), a1, t4.2)) else ((idx a1 (U8 t1.1)).bind fun e2 => ((opts_take.f k a0 (U8 t1.1) t4.1).bind fun t6 => (some (true, 0, t6.1, (a1.set (Int.toNat (U8 t1.1)) true), t4.2)))))) else ((idx a1 (U8 t1.1)).bind fun e3 => ((opts_take.f k a0 (U8 t1.1) t4.1).bind fun t7 => (some (true, 0, t7.1, (a1.set (Int.toNat (U8 t1.1)) true), t4.2)))))))))))))
theorem opts_one_ok (k : Nat) (a0 : TO_o) (a1 : List Bool) (a2 : TR) (r : Bool × Int × TO × (List Bool) × TR) (hm : opts_one.f k a0 a1 a2 = some r) (B G : Asn) (g1 : Nat) (g2 : Nat) (g3 : Nat) (A1 : Option Addr) (c1 : Nat) (hl1 : 256 = a1.length) (w : World) (hs : St B G [.blk g1 [vb a0.hM, v16 a0.ms, vb a0.hS, v8 a0.sc, vb a0.sO, .slice none 0 0, vb a0.hT, v32 a0.va, v32 a0.ec, vb a0.hO, v8 a0.ki, v8 a0.ni, v8 a0.m.x0, v8 a0.m.x1, v8 a0.m.x2, v8 a0.m.x3, v8 a0.m.x4, v8 a0.m.x5, v8 a0.m.x6, v8 a0.m.x7, v8 a0.m.x8, v8 a0.m.x9, v8 a0.m.x10, v8 a0.m.x11] 31, .own (ag g2) 256 256 (rowOf encB a1) 1 93, .blk g3 [.slice A1 a2.xb.length c1] 110, .own A1 a2.xb.length c1 (rowOf e8 a2.xb) 1 5] w) :
    Calls Try.prog 66 #[pg g1, pg g2, pg g3] w (Post (X := Asn × (Option Addr) × Nat × (Option Addr) × Nat) (fun x => .tuple #[vb r.1, v64 r.2.1]) (fun x => x.1) G (fun x => [.blk g1 [vb r.2.2.1.hM, v16 r.2.2.1.ms, vb r.2.2.1.hS, v8 r.2.2.1.sc, vb r.2.2.1.sO, .slice x.2.1 r.2.2.1.sk.length x.2.2.1, vb r.2.2.1.hT, v32 r.2.2.1.va, v32 r.2.2.1.ec, vb r.2.2.1.hO, v8 r.2.2.1.ki, v8 r.2.2.1.ni, v8 r.2.2.1.m.x0, v8 r.2.2.1.m.x1, v8 r.2.2.1.m.x2, v8 r.2.2.1.m.x3, v8 r.2.2.1.m.x4, v8 r.2.2.1.m.x5, v8 r.2.2.1.m.x6, v8 r.2.2.1.m.x7, v8 r.2.2.1.m.x8, v8 r.2.2.1.m.x9, v8 r.2.2.1.m.x10, v8 r.2.2.1.m.x11] 31, .own x.2.1 r.2.2.1.sk.length x.2.2.1 (rowOf encTB r.2.2.1.sk) 2 84, .own (ag g2) 256 256 (rowOf encB r.2.2.2.1) 1 93, .blk g3 [.slice x.2.2.2.1 r.2.2.2.2.xb.length x.2.2.2.2] 110]) (fun x => (Ext B x.1) ∧ (256 = r.2.2.2.1.length) ∧ (Sl (kI .u8) x.1 x.2.2.2.1 x.2.2.2.2 r.2.2.2.2.xb))) := by
  unfold opts_one.f at hm
  refine calls_W (F := Try.f66) Try.func66 rfl (by kernel_rfl) (L := [.blk g1 [vb a0.hM, v16 a0.ms, vb a0.hS, v8 a0.sc, vb a0.sO, .slice none 0 0, vb a0.hT, v32 a0.va, v32 a0.ec, vb a0.hO, v8 a0.ki, v8 a0.ni, v8 a0.m.x0, v8 a0.m.x1, v8 a0.m.x2, v8 a0.m.x3, v8 a0.m.x4, v8 a0.m.x5, v8 a0.m.x6, v8 a0.m.x7, v8 a0.m.x8, v8 a0.m.x9, v8 a0.m.x10, v8 a0.m.x11] 31, .own (ag g2) 256 256 (rowOf encB a1) 1 93, .blk g3 [.slice A1 a2.xb.length c1] 110, .own A1 a2.xb.length c1 (rowOf e8 a2.xb) 1 5]) ?_ hs
  refine w_seq 2 3 (by kernel_rfl) ?_
  refine w_region (by kernel_rfl) ?_
  refine o_run 2 [0, 1, 2] (l := []) .nil (E' := [(0, (pg g1)), (1, (pg g2)), (2, (pg g3))]) (by kernel_rfl) ?_
  refine o_end (by kernel_rfl) ?_
  refine e_seq ?_
  refine w_seq 6 7 (by kernel_rfl) ?_
  refine w_region (by kernel_rfl) ?_
  refine o_run 1 [0, 1, 2, 11] (l := []) .nil (E' := [(0, (pg g1)), (1, (pg g2)), (2, (pg g3)), (11, (pg g3))]) (by kernel_rfl) ?_
  obtain ⟨t1, hx1, hm⟩ := bind_some hm
  refine o_stp ?_ (by kernel_rfl)
  refine s_call 12 68 #[pg g3, v64 1] [2, 3] [0, 1] (by kernel_rfl) (by kernel_rfl) (fun w hs => oR_Num_ok k a2 1 t1 hx1 B _ g3 A1 c1 w (St.cast (by kernel_rfl) hs)) (fun x hx => ?_)
  obtain ⟨B1, A2, c2⟩ := x
  obtain ⟨hx2, hs1⟩ := hx
  refine t_L (L' := [.blk g3 [.slice A2 t1.2.xb.length c2] 110, .blk g1 [vb a0.hM, v16 a0.ms, vb a0.hS, v8 a0.sc, vb a0.sO, .slice none 0 0, vb a0.hT, v32 a0.va, v32 a0.ec, vb a0.hO, v8 a0.ki, v8 a0.ni, v8 a0.m.x0, v8 a0.m.x1, v8 a0.m.x2, v8 a0.m.x3, v8 a0.m.x4, v8 a0.m.x5, v8 a0.m.x6, v8 a0.m.x7, v8 a0.m.x8, v8 a0.m.x9, v8 a0.m.x10, v8 a0.m.x11] 31, .own (ag g2) 256 256 (rowOf encB a1) 1 93]) (by kernel_rfl) ?_
  refine o_run 2 [0, 1, 2, 8] (l := []) .nil (E' := [(0, (pg g1)), (1, (pg g2)), (2, (pg g3)), (8, v8 (U8 t1.1))]) (by kernel_rfl) ?_
  refine o_end (by kernel_rfl) ?_
  refine e_seq ?_
  refine w_seq 14 15 (by kernel_rfl) ?_
  refine w_seq 28 29 (by kernel_rfl) ?_
  refine w_region (by kernel_rfl) ?_
  refine o_run 3 [0, 1, 2, 8, 16] (l := []) .nil (E' := [(0, (pg g1)), (1, (pg g2)), (2, (pg g3)), (8, v8 (U8 t1.1)), (16, vb ((U8 t1.1) == 0))]) (by kernel_rfl) ?_
  refine o_split 16 ((U8 t1.1) == 0) (by kernel_rfl) (fun hb1 => ?_) (fun hb1 => ?_)
  · replace hm := ite_t hb1 hm
    refine o_run 3 [0, 1, 2, 8, 19] (l := []) .nil (E' := [(0, (pg g1)), (1, (pg g2)), (2, (pg g3)), (8, v8 (U8 t1.1)), (19, vb true)]) (by kernel_rfl) ?_
    refine o_end (by kernel_rfl) ?_
    refine e_seq ?_
    refine w_cond_t (.tmp 19) 58 59 (by kernel_rfl) (by kernel_rfl) ?_
    refine w_seq 116 117 (by kernel_rfl) ?_
    refine w_region (by kernel_rfl) ?_
    refine o_run 4 [6, 7] (l := []) .nil (E' := [(6, vb ((U8 t1.1) == 1)), (7, v64 0)]) (by kernel_rfl) ?_
    refine o_end (by kernel_rfl) ?_
    refine e_seq ?_
    refine w_ret (by kernel_rfl) ?_
    refine t_nil 84 2 ?_
    refine t_L (L' := [.own none (([] : List TB).length) 0 (rowOf encTB ([] : List TB)) 2 84, .blk g3 [.slice A2 t1.2.xb.length c2] 110, .blk g1 [vb a0.hM, v16 a0.ms, vb a0.hS, v8 a0.sc, vb a0.sO, .slice none 0 0, vb a0.hT, v32 a0.va, v32 a0.ec, vb a0.hO, v8 a0.ki, v8 a0.ni, v8 a0.m.x0, v8 a0.m.x1, v8 a0.m.x2, v8 a0.m.x3, v8 a0.m.x4, v8 a0.m.x5, v8 a0.m.x6, v8 a0.m.x7, v8 a0.m.x8, v8 a0.m.x9, v8 a0.m.x10, v8 a0.m.x11] 31, .own (ag g2) 256 256 (rowOf encB a1) 1 93]) (by kernel_rfl) ?_
    obtain rfl := Option.some.inj hm
    exact e_retP (B1, none, 0, A2, c2) (.tuple #[vb ((U8 t1.1) == 1), v64 0]) [2, 0, 3, 1] (by kernel_rfl) (by kernel_rfl) rfl (by kernel_rfl) (by kernel_rfl) ⟨hx2, hl1, hs1⟩
  · replace hm := ite_f hb1 hm
    refine o_run 3 [0, 1, 2, 8, 19] (l := []) .nil (E' := [(0, (pg g1)), (1, (pg g2)), (2, (pg g3)), (8, v8 (U8 t1.1)), (19, vb ((U8 t1.1) == 1))]) (by kernel_rfl) ?_
    refine o_end (by kernel_rfl) ?_
    refine e_seq ?_
    refine w_cond (.tmp 19) 58 59 ((U8 t1.1) == 1) (by kernel_rfl) (by kernel_rfl) (fun hb2 => ?_) (fun hb2 => ?_)
    · replace hm := ite_t hb2 hm
      refine w_seq 116 117 (by kernel_rfl) ?_
      refine w_region (by kernel_rfl) ?_
      refine o_run 4 [6, 7] (l := []) .nil (E' := [(6, vb ((U8 t1.1) == 1)), (7, v64 0)]) (by kernel_rfl) ?_
      refine o_end (by kernel_rfl) ?_
      refine e_seq ?_
      refine w_ret (by kernel_rfl) ?_
      refine t_nil 84 2 ?_
      refine t_L (L' := [.own none (([] : List TB).length) 0 (rowOf encTB ([] : List TB)) 2 84, .blk g3 [.slice A2 t1.2.xb.length c2] 110, .blk g1 [vb a0.hM, v16 a0.ms, vb a0.hS, v8 a0.sc, vb a0.sO, .slice none 0 0, vb a0.hT, v32 a0.va, v32 a0.ec, vb a0.hO, v8 a0.ki, v8 a0.ni, v8 a0.m.x0, v8 a0.m.x1, v8 a0.m.x2, v8 a0.m.x3, v8 a0.m.x4, v8 a0.m.x5, v8 a0.m.x6, v8 a0.m.x7, v8 a0.m.x8, v8 a0.m.x9, v8 a0.m.x10, v8 a0.m.x11] 31, .own (ag g2) 256 256 (rowOf encB a1) 1 93]) (by kernel_rfl) ?_
      obtain rfl := Option.some.inj hm
      exact e_retP (B1, none, 0, A2, c2) (.tuple #[vb ((U8 t1.1) == 1), v64 0]) [2, 0, 3, 1] (by kernel_rfl) (by kernel_rfl) rfl (by kernel_rfl) (by kernel_rfl) ⟨hx2, hl1, hs1⟩
    · replace hm := ite_f hb2 hm
      refine w_skip (by kernel_rfl) ?_
      refine e_seq ?_
      refine w_seq 30 31 (by kernel_rfl) ?_
      refine w_region (by kernel_rfl) ?_
      refine o_run 1 [0, 1, 2, 8, 22] (l := []) .nil (E' := [(0, (pg g1)), (1, (pg g2)), (2, (pg g3)), (8, v8 (U8 t1.1)), (22, (pg g3))]) (by kernel_rfl) ?_
      obtain ⟨t2, hx3, hm⟩ := bind_some hm
      refine o_stp ?_ (by kernel_rfl)
      refine s_call 23 68 #[pg g3, v64 1] [0] [1, 2] (by kernel_rfl) (by kernel_rfl) (fun w hs => oR_Num_2_ok k t1.2 1 t2 hx3 B1 _ g3 A2 c2 hs1 w (St.cast (by kernel_rfl) hs)) (fun x hx => ?_)
      obtain ⟨A3, c3⟩ := x
      have hs2 := hx
      refine t_L (L' := [.blk g3 [.slice A3 t2.2.xb.length c3] 110, .blk g1 [vb a0.hM, v16 a0.ms, vb a0.hS, v8 a0.sc, vb a0.sO, .slice none 0 0, vb a0.hT, v32 a0.va, v32 a0.ec, vb a0.hO, v8 a0.ki, v8 a0.ni, v8 a0.m.x0, v8 a0.m.x1, v8 a0.m.x2, v8 a0.m.x3, v8 a0.m.x4, v8 a0.m.x5, v8 a0.m.x6, v8 a0.m.x7, v8 a0.m.x8, v8 a0.m.x9, v8 a0.m.x10, v8 a0.m.x11] 31, .own (ag g2) 256 256 (rowOf encB a1) 1 93]) (by kernel_rfl) ?_
      refine o_run 2 [0, 1, 2, 8, 9] (l := []) .nil (E' := [(0, (pg g1)), (1, (pg g2)), (2, (pg g3)), (8, v8 (U8 t1.1)), (9, v64 (I64 t2.1))]) (by kernel_rfl) ?_
      refine o_end (by kernel_rfl) ?_
      refine e_seq ?_
      refine w_seq 62 63 (by kernel_rfl) ?_
      refine w_seq 124 125 (by kernel_rfl) ?_
      refine w_region (by kernel_rfl) ?_
      refine o_run 2 [0, 1, 2, 8, 9, 25, 26] (l := []) .nil (E' := [(0, (pg g1)), (1, (pg g2)), (2, (pg g3)), (8, v8 (U8 t1.1)), (9, v64 (I64 t2.1)), (25, v8 (U8 t1.1)), (26, v64 (I64 t2.1))]) (by kernel_rfl) ?_
      obtain ⟨t3, hx4, hm⟩ := bind_some hm
      refine o_stp ?_ (by kernel_rfl)
      refine s_call 27 76 #[v8 (U8 t1.1), v64 (I64 t2.1)] [] [0, 1, 2] (by kernel_rfl) (by kernel_rfl) (fun w hs => opts_isRight_ok (U8 t1.1) (I64 t2.1) t3 hx4 B1 _ w (St.cast (by kernel_rfl) hs)) (fun _ hx => ?_)
      refine t_L (L' := [.blk g3 [.slice A3 t2.2.xb.length c3] 110, .blk g1 [vb a0.hM, v16 a0.ms, vb a0.hS, v8 a0.sc, vb a0.sO, .slice none 0 0, vb a0.hT, v32 a0.va, v32 a0.ec, vb a0.hO, v8 a0.ki, v8 a0.ni, v8 a0.m.x0, v8 a0.m.x1, v8 a0.m.x2, v8 a0.m.x3, v8 a0.m.x4, v8 a0.m.x5, v8 a0.m.x6, v8 a0.m.x7, v8 a0.m.x8, v8 a0.m.x9, v8 a0.m.x10, v8 a0.m.x11] 31, .own (ag g2) 256 256 (rowOf encB a1) 1 93]) (by kernel_rfl) ?_
      refine o_run 1 [0, 1, 2, 8, 9, 28] (l := []) .nil (E' := [(0, (pg g1)), (1, (pg g2)), (2, (pg g3)), (8, v8 (U8 t1.1)), (9, v64 (I64 t2.1)), (28, vb (!t3))]) (by kernel_rfl) ?_
      refine o_end (by kernel_rfl) ?_
      refine e_seq ?_
      refine w_cond (.tmp 28) 250 251 (!t3) (by kernel_rfl) (by kernel_rfl) (fun hb3 => ?_) (fun hb3 => ?_)
      · replace hm := ite_t hb3 hm
        refine w_seq 500 501 (by kernel_rfl) ?_
        refine w_region (by kernel_rfl) ?_
        refine o_run 2 [6, 7] (l := []) .nil (E' := [(6, vb false), (7, v64 3)]) (by kernel_rfl) ?_
        refine o_end (by kernel_rfl) ?_
        refine e_seq ?_
        refine w_ret (by kernel_rfl) ?_
        refine t_nil 84 2 ?_
        refine t_L (L' := [.own none (([] : List TB).length) 0 (rowOf encTB ([] : List TB)) 2 84, .blk g3 [.slice A3 t2.2.xb.length c3] 110, .blk g1 [vb a0.hM, v16 a0.ms, vb a0.hS, v8 a0.sc, vb a0.sO, .slice none 0 0, vb a0.hT, v32 a0.va, v32 a0.ec, vb a0.hO, v8 a0.ki, v8 a0.ni, v8 a0.m.x0, v8 a0.m.x1, v8 a0.m.x2, v8 a0.m.x3, v8 a0.m.x4, v8 a0.m.x5, v8 a0.m.x6, v8 a0.m.x7, v8 a0.m.x8, v8 a0.m.x9, v8 a0.m.x10, v8 a0.m.x11] 31, .own (ag g2) 256 256 (rowOf encB a1) 1 93]) (by kernel_rfl) ?_
        obtain rfl := Option.some.inj hm
        exact e_retP (B1, none, 0, A3, c3) (.tuple #[vb false, v64 3]) [2, 0, 3, 1] (by kernel_rfl) (by kernel_rfl) rfl (by kernel_rfl) (by kernel_rfl) ⟨hx2, hl1, hs2⟩
      · replace hm := ite_f hb3 hm
        refine w_skip (by kernel_rfl) ?_
        refine e_seq ?_
        refine w_seq 126 127 (by kernel_rfl) ?_
        refine w_region (by kernel_rfl) ?_
        refine o_run 3 [0, 1, 8, 29, 31] (l := []) .nil (E' := [(0, (pg g1)), (1, (pg g2)), (8, v8 (U8 t1.1)), (29, (pg g3)), (31, v64 (I64 ((I64 t2.1) - 2)))]) (by kernel_rfl) ?_
        obtain ⟨t4, hx5, hm⟩ := bind_some hm
        refine o_stp ?_ (by kernel_rfl)
        refine s_call 32 77 #[pg g3, v64 (I64 ((I64 t2.1) - 2))] [0] [1, 2] (by kernel_rfl) (by kernel_rfl) (fun w hs => oR_Sub_ok t2.2 (I64 ((I64 t2.1) - 2)) t4 hx5 B1 _ g3 A3 c3 hs2 w (St.cast (by kernel_rfl) hs)) (fun x hx => ?_)
        obtain ⟨g4, A4, c4, A5, c5⟩ := x
        have hs3 := hx
        refine t_L (L' := [.blk g4 [.slice A4 t4.1.xb.length c4] 110, .own A4 t4.1.xb.length c4 (rowOf e8 t4.1.xb) 1 5, .blk g3 [.slice A5 t4.2.xb.length c5] 110, .blk g1 [vb a0.hM, v16 a0.ms, vb a0.hS, v8 a0.sc, vb a0.sO, .slice none 0 0, vb a0.hT, v32 a0.va, v32 a0.ec, vb a0.hO, v8 a0.ki, v8 a0.ni, v8 a0.m.x0, v8 a0.m.x1, v8 a0.m.x2, v8 a0.m.x3, v8 a0.m.x4, v8 a0.m.x5, v8 a0.m.x6, v8 a0.m.x7, v8 a0.m.x8, v8 a0.m.x9, v8 a0.m.x10, v8 a0.m.x11] 31, .own (ag g2) 256 256 (rowOf encB a1) 1 93]) (by kernel_rfl) ?_
        refine o_run 1 [0, 1, 8, 10] (l := []) .nil (E' := [(0, (pg g1)), (1, (pg g2)), (8, v8 (U8 t1.1)), (10, (pg g4))]) (by kernel_rfl) ?_
        refine o_end (by kernel_rfl) ?_
        refine e_seq ?_
        refine w_seq 254 255 (by kernel_rfl) ?_
        refine w_seq 508 509 (by kernel_rfl) ?_
        refine w_region (by kernel_rfl) ?_
        refine o_run 1 [0, 1, 8, 10, 33] (l := []) .nil (E' := [(0, (pg g1)), (1, (pg g2)), (8, v8 (U8 t1.1)), (10, (pg g4)), (33, v8 (U8 t1.1))]) (by kernel_rfl) ?_
        obtain ⟨t5, hx6, hm⟩ := bind_some hm
        refine o_stp ?_ (by kernel_rfl)
        refine s_call 34 73 #[v8 (U8 t1.1)] [] [0, 1, 2, 3, 4] (by kernel_rfl) (by kernel_rfl) (fun w hs => opts_sizes_ok (U8 t1.1) t5 hx6 B1 _ w (St.cast (by kernel_rfl) hs)) (fun _ hx => ?_)
        refine t_L (L' := [.blk g4 [.slice A4 t4.1.xb.length c4] 110, .own A4 t4.1.xb.length c4 (rowOf e8 t4.1.xb) 1 5, .blk g3 [.slice A5 t4.2.xb.length c5] 110, .blk g1 [vb a0.hM, v16 a0.ms, vb a0.hS, v8 a0.sc, vb a0.sO, .slice none 0 0, vb a0.hT, v32 a0.va, v32 a0.ec, vb a0.hO, v8 a0.ki, v8 a0.ni, v8 a0.m.x0, v8 a0.m.x1, v8 a0.m.x2, v8 a0.m.x3, v8 a0.m.x4, v8 a0.m.x5, v8 a0.m.x6, v8 a0.m.x7, v8 a0.m.x8, v8 a0.m.x9, v8 a0.m.x10, v8 a0.m.x11] 31, .own (ag g2) 256 256 (rowOf encB a1) 1 93]) (by kernel_rfl) ?_
        refine o_run 2 [0, 1, 8, 10, 36] (l := []) .nil (E' := [(0, (pg g1)), (1, (pg g2)), (8, v8 (U8 t1.1)), (10, (pg g4)), (36, vb (decide (t5 ≥ 0)))]) (by kernel_rfl) ?_
        refine o_split 36 (decide (t5 ≥ 0)) (by kernel_rfl) (fun hb4 => ?_) (fun hb4 => ?_)
        · replace hm := ite_t hb4 hm
          refine o_run 3 [0, 1, 8, 10, 36, 38, 39] (l := []) .nil (E' := [(0, (pg g1)), (1, (pg g2)), (8, v8 (U8 t1.1)), (10, (pg g4)), (36, vb true), (38, v8 (U8 t1.1)), (39, (pg g2))]) (by kernel_rfl) ?_
          obtain ⟨e1, hx7, hm⟩ := bind_some hm
          obtain ⟨hi1, hi2, hg1⟩ := idx_some hx7
          refine o_val 40 (.indexAddr 93 (.tmp 39) (.tmp 38)) (.pointer (some (adr (ag g2) (Int.toNat (U8 t1.1) * 1)))) (by kernel_rfl) (v_indexA (a := ⟨g2, 0, none⟩) (m := 256) (sz := 1) (k := .u8) (j := U8 t1.1) (by kernel_rfl) (by kernel_rfl) (by kernel_rfl) hi1 (len_lt hl1 hi2)) ?_
          refine o_run 2 [0, 1, 8, 10, 42] (l := [((adr (ag g2) (Int.toNat (U8 t1.1) * 1)), vb e1)]) (.one ((At.sub (l := encB e1) 0 (at_own (A := (ag g2)) (j := 4) (off := Int.toNat (U8 t1.1) * 1) rfl (row_at (enc := encB) (sz := 1) (fun _ => rfl) hg1)) rfl)) .nil) (E' := [(0, (pg g1)), (1, (pg g2)), (8, v8 (U8 t1.1)), (10, (pg g4)), (42, vb e1)]) (by kernel_rfl) ?_
          refine o_end (by kernel_rfl) ?_
          refine e_seq ?_
          refine w_cond (.tmp 42) 1018 1019 e1 (by kernel_rfl) (by kernel_rfl) (fun hb5 => ?_) (fun hb5 => ?_)
          · replace hm := ite_t hb5 hm
            refine w_seq 2036 2037 (by kernel_rfl) ?_
            refine w_region (by kernel_rfl) ?_
            refine o_run 2 [6, 7] (l := []) .nil (E' := [(6, vb false), (7, v64 7)]) (by kernel_rfl) ?_
            refine o_end (by kernel_rfl) ?_
            refine e_seq ?_
            refine w_ret (by kernel_rfl) ?_
            refine t_nil 84 2 ?_
            refine t_L (L' := [.own none (([] : List TB).length) 0 (rowOf encTB ([] : List TB)) 2 84, .blk g4 [.slice A4 t4.1.xb.length c4] 110, .own A4 t4.1.xb.length c4 (rowOf e8 t4.1.xb) 1 5, .blk g3 [.slice A5 t4.2.xb.length c5] 110, .blk g1 [vb a0.hM, v16 a0.ms, vb a0.hS, v8 a0.sc, vb a0.sO, .slice none 0 0, vb a0.hT, v32 a0.va, v32 a0.ec, vb a0.hO, v8 a0.ki, v8 a0.ni, v8 a0.m.x0, v8 a0.m.x1, v8 a0.m.x2, v8 a0.m.x3, v8 a0.m.x4, v8 a0.m.x5, v8 a0.m.x6, v8 a0.m.x7, v8 a0.m.x8, v8 a0.m.x9, v8 a0.m.x10, v8 a0.m.x11] 31, .own (ag g2) 256 256 (rowOf encB a1) 1 93]) (by kernel_rfl) ?_
            obtain rfl := Option.some.inj hm
            exact e_retP (B1, none, 0, A5, c5) (.tuple #[vb false, v64 7]) [4, 0, 5, 3] (by kernel_rfl) (by kernel_rfl) rfl (by kernel_rfl) (by kernel_rfl) ⟨hx2, hl1, hs3⟩
          · replace hm := ite_f hb5 hm
            refine w_skip (by kernel_rfl) ?_
            refine e_seq ?_
            refine w_seq 510 511 (by kernel_rfl) ?_
            refine w_region (by kernel_rfl) ?_
            refine o_run 3 [0, 8, 10, 44, 45] (l := []) .nil (E' := [(0, (pg g1)), (8, v8 (U8 t1.1)), (10, (pg g4)), (44, v8 (U8 t1.1)), (45, (pg g2))]) (by kernel_rfl) ?_
            obtain ⟨e2, hx8, hm⟩ := bind_some hm
            obtain ⟨hi3, hi4, hg2⟩ := idx_some hx8
            refine o_val 46 (.indexAddr 93 (.tmp 45) (.tmp 44)) (.pointer (some (adr (ag g2) (Int.toNat (U8 t1.1) * 1)))) (by kernel_rfl) (v_indexA (a := ⟨g2, 0, none⟩) (m := 256) (sz := 1) (k := .u8) (j := U8 t1.1) (by kernel_rfl) (by kernel_rfl) (by kernel_rfl) hi3 (len_lt hl1 hi4)) ?_
            refine o_stp ?_ (by kernel_rfl)
            refine s_setE (enc := encB) (v := vb true) 4 (.tmp 46) (.const (vb true)) 4 (x := true) (by kernel_rfl) (by kernel_rfl) (by kernel_rfl) rfl (by kernel_rfl) rfl (fun _ => rfl) hg2 (fun u hu => by cases List.mem_singleton.1 hu; rfl) (by decide) ?_
            have hl2 : 256 = (a1.set (Int.toNat (U8 t1.1)) true).length := Eq.trans hl1 List.length_set.symm
            refine o_end (by kernel_rfl) ?_
            refine e_seq ?_
            refine w_seq 1022 1023 (by kernel_rfl) ?_
            refine w_region (by kernel_rfl) ?_
            refine o_run 3 [47, 48, 49] (l := []) .nil (E' := [(47, (pg g1)), (48, v8 (U8 t1.1)), (49, (pg g4))]) (by kernel_rfl) ?_
            obtain ⟨t6, hx9, hm⟩ := bind_some hm
            refine o_stp ?_ (by kernel_rfl)
            refine s_call 50 78 #[pg g1, v8 (U8 t1.1), pg g4] [3, 0, 1] [2, 4] (by kernel_rfl) (by kernel_rfl) (fun w hs => opts_take_ok k a0 (U8 t1.1) t4.1 t6 hx9 B1 _ g1 g4 A4 c4 w (St.cast (by kernel_rfl) hs)) (fun x hx => ?_)
            obtain ⟨B2, A6, c6, A7, c7⟩ := x
            obtain ⟨hx10, hs4⟩ := hx
            refine t_L (L' := [.blk g1 [vb t6.1.hM, v16 t6.1.ms, vb t6.1.hS, v8 t6.1.sc, vb t6.1.sO, .slice A6 t6.1.sk.length c6, vb t6.1.hT, v32 t6.1.va, v32 t6.1.ec, vb t6.1.hO, v8 t6.1.ki, v8 t6.1.ni, v8 t6.1.m.x0, v8 t6.1.m.x1, v8 t6.1.m.x2, v8 t6.1.m.x3, v8 t6.1.m.x4, v8 t6.1.m.x5, v8 t6.1.m.x6, v8 t6.1.m.x7, v8 t6.1.m.x8, v8 t6.1.m.x9, v8 t6.1.m.x10, v8 t6.1.m.x11] 31, .own A6 t6.1.sk.length c6 (rowOf encTB t6.1.sk) 2 84, .blk g4 [.slice A7 t6.2.xb.length c7] 110, .blk g3 [.slice A5 t4.2.xb.length c5] 110, .own (ag g2) 256 256 (rowOf encB (a1.set (Int.toNat (U8 t1.1)) true)) 1 93]) (by kernel_rfl) ?_
            refine o_end (by kernel_rfl) ?_
            refine e_seq ?_
            refine w_seq 2046 2047 (by kernel_rfl) ?_
            refine w_region (by kernel_rfl) ?_
            refine o_run 2 [6, 7] (l := []) .nil (E' := [(6, vb true), (7, v64 0)]) (by kernel_rfl) ?_
            refine o_end (by kernel_rfl) ?_
            refine e_seq ?_
            refine w_ret (by kernel_rfl) ?_
            obtain rfl := Option.some.inj hm
            exact e_retP (B2, A6, c6, A5, c5) (.tuple #[vb true, v64 0]) [0, 1, 4, 3] (by kernel_rfl) (by kernel_rfl) rfl (by kernel_rfl) (by kernel_rfl) ⟨(Ext.trans hx2 hx10), hl2, (hs3.up hx10)⟩
        · replace hm := ite_f hb4 hm
          refine o_run 6 [0, 1, 8, 10, 42] (l := []) .nil (E' := [(0, (pg g1)), (1, (pg g2)), (8, v8 (U8 t1.1)), (10, (pg g4)), (42, vb false)]) (by kernel_rfl) ?_
          refine o_end (by kernel_rfl) ?_
          refine e_seq ?_
          refine w_cond_f (.tmp 42) 1018 1019 (by kernel_rfl) (by kernel_rfl) ?_
          refine w_skip (by kernel_rfl) ?_
          refine e_seq ?_
          refine w_seq 510 511 (by kernel_rfl) ?_
          refine w_region (by kernel_rfl) ?_
          refine o_run 3 [0, 8, 10, 44, 45] (l := []) .nil (E' := [(0, (pg g1)), (8, v8 (U8 t1.1)), (10, (pg g4)), (44, v8 (U8 t1.1)), (45, (pg g2))]) (by kernel_rfl) ?_
          obtain ⟨e3, hx11, hm⟩ := bind_some hm
          obtain ⟨hi5, hi6, hg3⟩ := idx_some hx11
          refine o_val 46 (.indexAddr 93 (.tmp 45) (.tmp 44)) (.pointer (some (adr (ag g2) (Int.toNat (U8 t1.1) * 1)))) (by kernel_rfl) (v_indexA (a := ⟨g2, 0, none⟩) (m := 256) (sz := 1) (k := .u8) (j := U8 t1.1) (by kernel_rfl) (by kernel_rfl) (by kernel_rfl) hi5 (len_lt hl1 hi6)) ?_
          refine o_stp ?_ (by kernel_rfl)
          refine s_setE (enc := encB) (v := vb true) 4 (.tmp 46) (.const (vb true)) 4 (x := true) (by kernel_rfl) (by kernel_rfl) (by kernel_rfl) rfl (by kernel_rfl) rfl (fun _ => rfl) hg3 (fun u hu => by cases List.mem_singleton.1 hu; rfl) (by decide) ?_
          have hl3 : 256 = (a1.set (Int.toNat (U8 t1.1)) true).length := Eq.trans hl1 List.length_set.symm
          refine o_end (by kernel_rfl) ?_
          refine e_seq ?_
          refine w_seq 1022 1023 (by kernel_rfl) ?_
          refine w_region (by kernel_rfl) ?_
          refine o_run 3 [47, 48, 49] (l := []) .nil (E' := [(47, (pg g1)), (48, v8 (U8 t1.1)), (49, (pg g4))]) (by kernel_rfl) ?_
          obtain ⟨t7, hx12, hm⟩ := bind_some hm
          refine o_stp ?_ (by kernel_rfl)
          refine s_call 50 78 #[pg g1, v8 (U8 t1.1), pg g4] [3, 0, 1] [2, 4] (by kernel_rfl) (by kernel_rfl) (fun w hs => opts_take_ok k a0 (U8 t1.1) t4.1 t7 hx12 B1 _ g1 g4 A4 c4 w (St.cast (by kernel_rfl) hs)) (fun x hx => ?_)
          obtain ⟨B3, A8, c8, A9, c9⟩ := x
          obtain ⟨hx13, hs5⟩ := hx
          refine t_L (L' := [.blk g1 [vb t7.1.hM, v16 t7.1.ms, vb t7.1.hS, v8 t7.1.sc, vb t7.1.sO, .slice A8 t7.1.sk.length c8, vb t7.1.hT, v32 t7.1.va, v32 t7.1.ec, vb t7.1.hO, v8 t7.1.ki, v8 t7.1.ni, v8 t7.1.m.x0, v8 t7.1.m.x1, v8 t7.1.m.x2, v8 t7.1.m.x3, v8 t7.1.m.x4, v8 t7.1.m.x5, v8 t7.1.m.x6, v8 t7.1.m.x7, v8 t7.1.m.x8, v8 t7.1.m.x9, v8 t7.1.m.x10, v8 t7.1.m.x11] 31, .own A8 t7.1.sk.length c8 (rowOf encTB t7.1.sk) 2 84, .blk g4 [.slice A9 t7.2.xb.length c9] 110, .blk g3 [.slice A5 t4.2.xb.length c5] 110, .own (ag g2) 256 256 (rowOf encB (a1.set (Int.toNat (U8 t1.1)) true)) 1 93]) (by kernel_rfl) ?_
          refine o_end (by kernel_rfl) ?_
          refine e_seq ?_
          refine w_seq 2046 2047 (by kernel_rfl) ?_
          refine w_region (by kernel_rfl) ?_
          refine o_run 2 [6, 7] (l := []) .nil (E' := [(6, vb true), (7, v64 0)]) (by kernel_rfl) ?_
          refine o_end (by kernel_rfl) ?_
          refine e_seq ?_
          refine w_ret (by kernel_rfl) ?_
          obtain rfl := Option.some.inj hm
          exact e_retP (B3, A8, c8, A5, c5) (.tuple #[vb true, v64 0]) [0, 1, 4, 3] (by kernel_rfl) (by kernel_rfl) rfl (by kernel_rfl) (by kernel_rfl) ⟨(Ext.trans hx2 hx13), hl3, (hs3.up hx13)⟩
def opts_take_2.l1 : Nat → TO → TR → Option (TO × TR)
  | 0, _, _ => none
  | k + 1, p1, p2 => ((oR_Left_2.f p2).bind fun t9 => (if decide (t9 ≥ 8) then ((oR_Num_2.f k p2 4).bind fun t10 => ((oR_Num_2.f k t10.2 4).bind fun t11 => ((app p1.sk [(⟨U32 t10.1, U32 t11.1⟩ : TB)]).bind fun l2 => (opts_take_2.l1 k (⟨p1.hM, p1.ms, p1.hS, p1.sc, p1.sO, l2, p1.hT, p1.va, p1.ec, p1.hO, p1.ki, p1.ni, p1.m⟩ : TO) t11.2)))) else (some (p1, p2))))
def opts_take_2.f (k : Nat) (a0 : TO) (a1 : Int) (a2 : TR) : Option (TO × TR) :=
  (if a1 == 2 then ((oR_Num.f k a2 2).bind fun t1 => (some ((⟨true, U16 t1.1, a0.hS, a0.sc, a0.sO, a0.sk, a0.hT, a0.va, a0.ec, a0.hO, a0.ki, a0.ni, a0.m⟩ : TO), t1.2))) else (if a1 == 3 then ((oR_Num.f k a2 1).bind fun t2 => (some ((⟨a0.hM, a0.ms, true, imin (U8 t2.1) 14, a0.sO, a0.sk, a0.hT, a0.va, a0.ec, a0.hO, a0.ki, a0.ni, a0.m⟩ : TO), t2.2))) else (if a1 == 4 then (some ((⟨a0.hM, a0.ms, a0.hS, a0.sc, true, a0.sk, a0.hT, a0.va, a0.ec, a0.hO, a0.ki, a0.ni, a0.m⟩ : TO), a2)) else (if a1 == 8 then ((oR_Num.f k a2 4).bind fun t3 => ((oR_Num_2.f k t3.2 4).bind fun t4 => (some ((⟨a0.hM, a0.ms, a0.hS, a0.sc, a0.sO, a0.sk, true, U32 t3.1, U32 t4.1, a0.hO, a0.ki, a0.ni, a0.m⟩ : TO), t4.2)))) else (if a1 == 29 then ((oR_Num.f k a2 1).bind fun t5 => ((oR_Num_2.f k t5.2 1).bind fun t6 => ((oR_Bytes_2.f t6.2 12).bind fun t7 => ((cut t7.1 0 12).bind fun l1 => (some ((⟨a0.hM, a0.ms, a0.hS, a0.sc, a0.sO, a0.sk, a0.hT, a0.va, a0.ec, true, U8 t5.1, U8 t6.1, (⟨(l1.getD 0 0), (l1.getD 1 0), (l1.getD 2 0), (l1.getD 3 0), (l1.getD 4 0), (l1.getD 5 0), (l1.getD 6 0), (l1.getD 7 0), (l1.getD 8 0), (l1.getD 9 0), (l1.getD 10 0), (l1.getD 11 0)⟩ : TM)⟩ : TO), t7.2)))))) else (if a1 == 5 then ((opts_take_2.l1 k a0 a2).bind fun t8 => (some ((t8.1), (t8.2)))) else (some (a0, a2))))))))
theorem opts_take_2_ok (k : Nat) (a0 : TO) (a1 : Int) (a2 : TR) (r : TO × TR) (hm : opts_take_2.f k a0 a1 a2 = some r) (B G : Asn) (g1 : Nat) (A1 : Option Addr) (c1 : Nat) (g2 : Nat) (A2 : Option Addr) (c2 : Nat) (w : World) (hs : St B G [.blk g1 [vb a0.hM, v16 a0.ms, vb a0.hS, v8 a0.sc, vb a0.sO, .slice A1 a0.sk.length c1, vb a0.hT, v32 a0.va, v32 a0.ec, vb a0.hO, v8 a0.ki, v8 a0.ni, v8 a0.m.x0, v8 a0.m.x1, v8 a0.m.x2, v8 a0.m.x3, v8 a0.m.x4, v8 a0.m.x5, v8 a0.m.x6, v8 a0.m.x7, v8 a0.m.x8, v8 a0.m.x9, v8 a0.m.x10, v8 a0.m.x11] 31, .own A1 a0.sk.length c1 (rowOf encTB a0.sk) 2 84, .blk g2 [.slice A2 a2.xb.length c2] 110, .own A2 a2.xb.length c2 (rowOf e8 a2.xb) 1 5] w) :
    Calls Try.prog 78 #[pg g1, v8 a1, pg g2] w (Post (X := Asn × (Option Addr) × Nat × (Option Addr) × Nat) (fun x => .tuple #[]) (fun x => x.1) G (fun x => [.blk g1 [vb r.1.hM, v16 r.1.ms, vb r.1.hS, v8 r.1.sc, vb r.1.sO, .slice x.2.1 r.1.sk.length x.2.2.1, vb r.1.hT, v32 r.1.va, v32 r.1.ec, vb r.1.hO, v8 r.1.ki, v8 r.1.ni, v8 r.1.m.x0, v8 r.1.m.x1, v8 r.1.m.x2, v8 r.1.m.x3, v8 r.1.m.x4, v8 r.1.m.x5, v8 r.1.m.x6, v8 r.1.m.x7, v8 r.1.m.x8, v8 r.1.m.x9, v8 r.1.m.x10, v8 r.1.m.x11] 31, .own x.2.1 r.1.sk.length x.2.2.1 (rowOf encTB r.1.sk) 2 84, .blk g2 [.slice x.2.2.2.1 r.2.xb.length x.2.2.2.2] 110]) (fun x => (Ext B x.1) ∧ (Sl (kI .u8) x.1 x.2.2.2.1 x.2.2.2.2 r.2.xb))) := by
  unfold opts_take_2.f at hm
  refine calls_W (F := Try.f78) Try.func78 rfl (by kernel_rfl) (L := [.blk g1 [vb a0.hM, v16 a0.ms, vb a0.hS, v8 a0.sc, vb a0.sO, .slice A1 a0.sk.length c1, vb a0.hT, v32 a0.va, v32 a0.ec, vb a0.hO, v8 a0.ki, v8 a0.ni, v8 a0.m.x0, v8 a0.m.x1, v8 a0.m.x2, v8 a0.m.x3, v8 a0.m.x4, v8 a0.m.x5, v8 a0.m.x6, v8 a0.m.x7, v8 a0.m.x8, v8 a0.m.x9, v8 a0.m.x10, v8 a0.m.x11] 31, .own A1 a0.sk.length c1 (rowOf encTB a0.sk) 2 84, .blk g2 [.slice A2 a2.xb.length c2] 110, .own A2 a2.xb.length c2 (rowOf e8 a2.xb) 1 5]) ?_ hs
  refine w_seq 2 3 (by kernel_rfl) ?_
  refine w_region (by kernel_rfl) ?_
  refine o_run 1 [0, 2, 6] (l := []) .nil (E' := [(0, (pg g1)), (2, (pg g2)), (6, v8 a1)]) (by kernel_rfl) ?_
  refine o_end (by kernel_rfl) ?_
  refine e_seq ?_
  refine w_block 0 6 (by kernel_rfl) ?_
  refine w_seq 12 13 (by kernel_rfl) ?_
  refine w_region (by kernel_rfl) ?_
  refine o_run 2 [0, 2, 6, 7] (l := []) .nil (E' := [(0, (pg g1)), (2, (pg g2)), (6, v8 a1), (7, vb (a1 == 2))]) (by kernel_rfl) ?_
  refine o_end (by kernel_rfl) ?_
  refine e_seq ?_
  refine w_cond (.tmp 7) 26 27 (a1 == 2) (by kernel_rfl) (by kernel_rfl) (fun hb1 => ?_) (fun hb1 => ?_)
  · replace hm := ite_t hb1 hm
    refine w_region (by kernel_rfl) ?_
    refine o_run 3 [9, 10, 11] (l := []) .nil (E' := [(9, (pg g1)), (10, (pg g1)), (11, (pg g2))]) (by kernel_rfl) ?_
    obtain ⟨t1, hx1, hm⟩ := bind_some hm
    refine o_stp ?_ (by kernel_rfl)
    refine s_call 12 68 #[pg g2, v64 2] [2, 3] [0, 1] (by kernel_rfl) (by kernel_rfl) (fun w hs => oR_Num_ok k a2 2 t1 hx1 B _ g2 A2 c2 w (St.cast (by kernel_rfl) hs)) (fun x hx => ?_)
    obtain ⟨B1, A3, c3⟩ := x
    obtain ⟨hx2, hs1⟩ := hx
    refine t_L (L' := [.blk g2 [.slice A3 t1.2.xb.length c3] 110, .blk g1 [vb a0.hM, v16 a0.ms, vb a0.hS, v8 a0.sc, vb a0.sO, .slice A1 a0.sk.length c1, vb a0.hT, v32 a0.va, v32 a0.ec, vb a0.hO, v8 a0.ki, v8 a0.ni, v8 a0.m.x0, v8 a0.m.x1, v8 a0.m.x2, v8 a0.m.x3, v8 a0.m.x4, v8 a0.m.x5, v8 a0.m.x6, v8 a0.m.x7, v8 a0.m.x8, v8 a0.m.x9, v8 a0.m.x10, v8 a0.m.x11] 31, .own A1 a0.sk.length c1 (rowOf encTB a0.sk) 2 84]) (by kernel_rfl) ?_
    refine o_run 3 [10, 13, 15] (l := []) .nil (E' := [(10, (pg g1)), (13, v16 (U16 t1.1)), (15, (pg g1))]) (by kernel_rfl) ?_
    refine o_stp ?_ (by kernel_rfl)
    refine s_store 1 g1 [vb a0.hM, v16 a0.ms, vb a0.hS, v8 a0.sc, vb a0.sO, .slice A1 a0.sk.length c1, vb a0.hT, v32 a0.va, v32 a0.ec, vb a0.hO, v8 a0.ki, v8 a0.ni, v8 a0.m.x0, v8 a0.m.x1, v8 a0.m.x2, v8 a0.m.x3, v8 a0.m.x4, v8 a0.m.x5, v8 a0.m.x6, v8 a0.m.x7, v8 a0.m.x8, v8 a0.m.x9, v8 a0.m.x10, v8 a0.m.x11] 31 [(0, vb true)] (by kernel_rfl) (by kernel_rfl) (by kernel_rfl) ?_
    refine t_L (L' := [.blk g2 [.slice A3 t1.2.xb.length c3] 110, .blk g1 [vb true, v16 a0.ms, vb a0.hS, v8 a0.sc, vb a0.sO, .slice A1 a0.sk.length c1, vb a0.hT, v32 a0.va, v32 a0.ec, vb a0.hO, v8 a0.ki, v8 a0.ni, v8 a0.m.x0, v8 a0.m.x1, v8 a0.m.x2, v8 a0.m.x3, v8 a0.m.x4, v8 a0.m.x5, v8 a0.m.x6, v8 a0.m.x7, v8 a0.m.x8, v8 a0.m.x9, v8 a0.m.x10, v8 a0.m.x11] 31, .own A1 a0.sk.length c1 (rowOf encTB a0.sk) 2 84]) (by kernel_rfl) ?_
    refine o_run 2 [13, 17] (l := []) .nil (E' := [(13, v16 (U16 t1.1)), (17, .pointer (some ⟨g1, 1, none⟩))]) (by kernel_rfl) ?_
    refine o_stp ?_ (by kernel_rfl)
    refine s_store 1 g1 [vb true, v16 a0.ms, vb a0.hS, v8 a0.sc, vb a0.sO, .slice A1 a0.sk.length c1, vb a0.hT, v32 a0.va, v32 a0.ec, vb a0.hO, v8 a0.ki, v8 a0.ni, v8 a0.m.x0, v8 a0.m.x1, v8 a0.m.x2, v8 a0.m.x3, v8 a0.m.x4, v8 a0.m.x5, v8 a0.m.x6, v8 a0.m.x7, v8 a0.m.x8, v8 a0.m.x9, v8 a0.m.x10, v8 a0.m.x11] 31 [(1, v16 (U16 t1.1))] (by kernel_rfl) (by kernel_rfl) (by kernel_rfl) ?_
    refine t_L (L' := [.blk g2 [.slice A3 t1.2.xb.length c3] 110, .blk g1 [vb true, v16 (U16 t1.1), vb a0.hS, v8 a0.sc, vb a0.sO, .slice A1 a0.sk.length c1, vb a0.hT, v32 a0.va, v32 a0.ec, vb a0.hO, v8 a0.ki, v8 a0.ni, v8 a0.m.x0, v8 a0.m.x1, v8 a0.m.x2, v8 a0.m.x3, v8 a0.m.x4, v8 a0.m.x5, v8 a0.m.x6, v8 a0.m.x7, v8 a0.m.x8, v8 a0.m.x9, v8 a0.m.x10, v8 a0.m.x11] 31, .own A1 a0.sk.length c1 (rowOf encTB a0.sk) 2 84]) (by kernel_rfl) ?_
    refine o_end (by kernel_rfl) ?_
    refine e_blk ?_
    obtain rfl := Option.some.inj hm
    exact e_endP (B1, A1, c1, A3, c3) (.tuple #[]) [1, 2, 0] (by kernel_rfl) (by kernel_rfl) rfl (by kernel_rfl) (by kernel_rfl) ⟨hx2, hs1⟩
  · replace hm := ite_f hb1 hm
    refine w_seq 54 55 (by kernel_rfl) ?_
    refine w_region (by kernel_rfl) ?_
    refine o_run 2 [0, 2, 6, 18] (l := []) .nil (E' := [(0, (pg g1)), (2, (pg g2)), (6, v8 a1), (18, vb (a1 == 3))]) (by kernel_rfl) ?_
    refine o_end (by kernel_rfl) ?_
    refine e_seq ?_
    refine w_cond (.tmp 18) 110 111 (a1 == 3) (by kernel_rfl) (by kernel_rfl) (fun hb2 => ?_) (fun hb2 => ?_)
    · replace hm := ite_t hb2 hm
      refine w_region (by kernel_rfl) ?_
      refine o_run 3 [20, 21, 22] (l := []) .nil (E' := [(20, (pg g1)), (21, (pg g1)), (22, (pg g2))]) (by kernel_rfl) ?_
      obtain ⟨t2, hx3, hm⟩ := bind_some hm
      refine o_stp ?_ (by kernel_rfl)
      refine s_call 23 68 #[pg g2, v64 1] [2, 3] [0, 1] (by kernel_rfl) (by kernel_rfl) (fun w hs => oR_Num_ok k a2 1 t2 hx3 B _ g2 A2 c2 w (St.cast (by kernel_rfl) hs)) (fun x hx => ?_)
      obtain ⟨B2, A4, c4⟩ := x
      obtain ⟨hx4, hs2⟩ := hx
      refine t_L (L' := [.blk g2 [.slice A4 t2.2.xb.length c4] 110, .blk g1 [vb a0.hM, v16 a0.ms, vb a0.hS, v8 a0.sc, vb a0.sO, .slice A1 a0.sk.length c1, vb a0.hT, v32 a0.va, v32 a0.ec, vb a0.hO, v8 a0.ki, v8 a0.ni, v8 a0.m.x0, v8 a0.m.x1, v8 a0.m.x2, v8 a0.m.x3, v8 a0.m.x4, v8 a0.m.x5, v8 a0.m.x6, v8 a0.m.x7, v8 a0.m.x8, v8 a0.m.x9, v8 a0.m.x10, v8 a0.m.x11] 31, .own A1 a0.sk.length c1 (rowOf encTB a0.sk) 2 84]) (by kernel_rfl) ?_
      refine o_run 4 [21, 25, 27] (l := []) .nil (E' := [(21, (pg g1)), (25, v8 (imin (U8 t2.1) 14)), (27, .pointer (some ⟨g1, 2, none⟩))]) (by kernel_rfl) ?_
      refine o_stp ?_ (by kernel_rfl)
      refine s_store 1 g1 [vb a0.hM, v16 a0.ms, vb a0.hS, v8 a0.sc, vb a0.sO, .slice A1 a0.sk.length c1, vb a0.hT, v32 a0.va, v32 a0.ec, vb a0.hO, v8 a0.ki, v8 a0.ni, v8 a0.m.x0, v8 a0.m.x1, v8 a0.m.x2, v8 a0.m.x3, v8 a0.m.x4, v8 a0.m.x5, v8 a0.m.x6, v8 a0.m.x7, v8 a0.m.x8, v8 a0.m.x9, v8 a0.m.x10, v8 a0.m.x11] 31 [(2, vb true)] (by kernel_rfl) (by kernel_rfl) (by kernel_rfl) ?_
      refine t_L (L' := [.blk g2 [.slice A4 t2.2.xb.length c4] 110, .blk g1 [vb a0.hM, v16 a0.ms, vb true, v8 a0.sc, vb a0.sO, .slice A1 a0.sk.length c1, vb a0.hT, v32 a0.va, v32 a0.ec, vb a0.hO, v8 a0.ki, v8 a0.ni, v8 a0.m.x0, v8 a0.m.x1, v8 a0.m.x2, v8 a0.m.x3, v8 a0.m.x4, v8 a0.m.x5, v8 a0.m.x6, v8 a0.m.x7, v8 a0.m.x8, v8 a0.m.x9, v8 a0.m.x10, v8 a0.m.x11] 31, .own A1 a0.sk.length c1 (rowOf encTB a0.sk) 2 84]) (by kernel_rfl) ?_
      refine o_run 2 [25, 29] (l := []) .nil (E' := [(25, v8 (imin (U8 t2.1) 14)), (29, .pointer (some ⟨g1, 3, none⟩))]) (by kernel_rfl) ?_
      refine o_stp ?_ (by kernel_rfl)
      refine s_store 1 g1 [vb a0.hM, v16 a0.ms, vb true, v8 a0.sc, vb a0.sO, .slice A1 a0.sk.length c1, vb a0.hT, v32 a0.va, v32 a0.ec, vb a0.hO, v8 a0.ki, v8 a0.ni, v8 a0.m.x0, v8 a0.m.x1, v8 a0.m.x2, v8 a0.m.x3, v8 a0.m.x4, v8 a0.m.x5, v8 a0.m.x6, v8 a0.m.x7, v8 a0.m.x8, v8 a0.m.x9, v8 a0.m.x10, v8 a0.m.x11] 31 [(3, v8 (imin (U8 t2.1) 14))] (by kernel_rfl) (by kernel_rfl) (by kernel_rfl) ?_
      refine t_L (L' := [.blk g2 [.slice A4 t2.2.xb.length c4] 110, .blk g1 [vb a0.hM, v16 a0.ms, vb true, v8 (imin (U8 t2.1) 14), vb a0.sO, .slice A1 a0.sk.length c1, vb a0.hT, v32 a0.va, v32 a0.ec, vb a0.hO, v8 a0.ki, v8 a0.ni, v8 a0.m.x0, v8 a0.m.x1, v8 a0.m.x2, v8 a0.m.x3, v8 a0.m.x4, v8 a0.m.x5, v8 a0.m.x6, v8 a0.m.x7, v8 a0.m.x8, v8 a0.m.x9, v8 a0.m.x10, v8 a0.m.x11] 31, .own A1 a0.sk.length c1 (rowOf encTB a0.sk) 2 84]) (by kernel_rfl) ?_
      refine o_end (by kernel_rfl) ?_
      refine e_blk ?_
      obtain rfl := Option.some.inj hm
      exact e_endP (B2, A1, c1, A4, c4) (.tuple #[]) [1, 2, 0] (by kernel_rfl) (by kernel_rfl) rfl (by kernel_rfl) (by kernel_rfl) ⟨hx4, hs2⟩
    · replace hm := ite_f hb2 hm
      refine w_seq 222 223 (by kernel_rfl) ?_
      refine w_region (by kernel_rfl) ?_
      refine o_run 2 [0, 2, 6, 30] (l := []) .nil (E' := [(0, (pg g1)), (2, (pg g2)), (6, v8 a1), (30, vb (a1 == 4))]) (by kernel_rfl) ?_
      refine o_end (by kernel_rfl) ?_
      refine e_seq ?_
      refine w_cond (.tmp 30) 446 447 (a1 == 4) (by kernel_rfl) (by kernel_rfl) (fun hb3 => ?_) (fun hb3 => ?_)
      · replace hm := ite_t hb3 hm
        refine w_region (by kernel_rfl) ?_
        refine o_run 3 [34] (l := []) .nil (E' := [(34, .pointer (some ⟨g1, 4, none⟩))]) (by kernel_rfl) ?_
        refine o_stp ?_ (by kernel_rfl)
        refine s_store 0 g1 [vb a0.hM, v16 a0.ms, vb a0.hS, v8 a0.sc, vb a0.sO, .slice A1 a0.sk.length c1, vb a0.hT, v32 a0.va, v32 a0.ec, vb a0.hO, v8 a0.ki, v8 a0.ni, v8 a0.m.x0, v8 a0.m.x1, v8 a0.m.x2, v8 a0.m.x3, v8 a0.m.x4, v8 a0.m.x5, v8 a0.m.x6, v8 a0.m.x7, v8 a0.m.x8, v8 a0.m.x9, v8 a0.m.x10, v8 a0.m.x11] 31 [(4, vb true)] (by kernel_rfl) (by kernel_rfl) (by kernel_rfl) ?_
        refine t_L (L' := [.blk g1 [vb a0.hM, v16 a0.ms, vb a0.hS, v8 a0.sc, vb true, .slice A1 a0.sk.length c1, vb a0.hT, v32 a0.va, v32 a0.ec, vb a0.hO, v8 a0.ki, v8 a0.ni, v8 a0.m.x0, v8 a0.m.x1, v8 a0.m.x2, v8 a0.m.x3, v8 a0.m.x4, v8 a0.m.x5, v8 a0.m.x6, v8 a0.m.x7, v8 a0.m.x8, v8 a0.m.x9, v8 a0.m.x10, v8 a0.m.x11] 31, .own A1 a0.sk.length c1 (rowOf encTB a0.sk) 2 84, .blk g2 [.slice A2 a2.xb.length c2] 110, .own A2 a2.xb.length c2 (rowOf e8 a2.xb) 1 5]) (by kernel_rfl) ?_
        refine o_end (by kernel_rfl) ?_
        refine e_blk ?_
        refine t_drop [3, 0, 1, 2] (by kernel_rfl) ?_
        refine t_L (L' := [.own A2 a2.xb.length c2 (rowOf e8 a2.xb) 1 5, .blk g1 [vb a0.hM, v16 a0.ms, vb a0.hS, v8 a0.sc, vb true, .slice A1 a0.sk.length c1, vb a0.hT, v32 a0.va, v32 a0.ec, vb a0.hO, v8 a0.ki, v8 a0.ni, v8 a0.m.x0, v8 a0.m.x1, v8 a0.m.x2, v8 a0.m.x3, v8 a0.m.x4, v8 a0.m.x5, v8 a0.m.x6, v8 a0.m.x7, v8 a0.m.x8, v8 a0.m.x9, v8 a0.m.x10, v8 a0.m.x11] 31, .own A1 a0.sk.length c1 (rowOf encTB a0.sk) 2 84, .blk g2 [.slice A2 a2.xb.length c2] 110]) (by kernel_rfl) ?_
        refine t_frozS (kI .u8) rfl rfl (fun B3 hx5 hs3 => ?_)
        obtain rfl := Option.some.inj hm
        exact e_endP (B3, A1, c1, A2, c2) (.tuple #[]) [0, 1, 2] (by kernel_rfl) (by kernel_rfl) rfl (by kernel_rfl) (by kernel_rfl) ⟨hx5, hs3⟩
      · replace hm := ite_f hb3 hm
        refine w_seq 894 895 (by kernel_rfl) ?_
        refine w_region (by kernel_rfl) ?_
        refine o_run 2 [0, 2, 6, 35] (l := []) .nil (E' := [(0, (pg g1)), (2, (pg g2)), (6, v8 a1), (35, vb (a1 == 8))]) (by kernel_rfl) ?_
        refine o_end (by kernel_rfl) ?_
        refine e_seq ?_
        refine w_cond (.tmp 35) 1790 1791 (a1 == 8) (by kernel_rfl) (by kernel_rfl) (fun hb4 => ?_) (fun hb4 => ?_)
        · replace hm := ite_t hb4 hm
          refine w_region (by kernel_rfl) ?_
          refine o_run 4 [2, 37, 38, 39, 40] (l := []) .nil (E' := [(2, (pg g2)), (37, (pg g1)), (38, (pg g1)), (39, (pg g1)), (40, (pg g2))]) (by kernel_rfl) ?_
          obtain ⟨t3, hx6, hm⟩ := bind_some hm
          refine o_stp ?_ (by kernel_rfl)
          refine s_call 41 68 #[pg g2, v64 4] [2, 3] [0, 1] (by kernel_rfl) (by kernel_rfl) (fun w hs => oR_Num_ok k a2 4 t3 hx6 B _ g2 A2 c2 w (St.cast (by kernel_rfl) hs)) (fun x hx => ?_)
          obtain ⟨B4, A5, c5⟩ := x
          obtain ⟨hx7, hs4⟩ := hx
          refine t_L (L' := [.blk g2 [.slice A5 t3.2.xb.length c5] 110, .blk g1 [vb a0.hM, v16 a0.ms, vb a0.hS, v8 a0.sc, vb a0.sO, .slice A1 a0.sk.length c1, vb a0.hT, v32 a0.va, v32 a0.ec, vb a0.hO, v8 a0.ki, v8 a0.ni, v8 a0.m.x0, v8 a0.m.x1, v8 a0.m.x2, v8 a0.m.x3, v8 a0.m.x4, v8 a0.m.x5, v8 a0.m.x6, v8 a0.m.x7, v8 a0.m.x8, v8 a0.m.x9, v8 a0.m.x10, v8 a0.m.x11] 31, .own A1 a0.sk.length c1 (rowOf encTB a0.sk) 2 84]) (by kernel_rfl) ?_
          refine o_run 2 [37, 38, 39, 42, 43] (l := []) .nil (E' := [(37, (pg g1)), (38, (pg g1)), (39, (pg g1)), (42, v32 (U32 t3.1)), (43, (pg g2))]) (by kernel_rfl) ?_
          obtain ⟨t4, hx8, hm⟩ := bind_some hm
          refine o_stp ?_ (by kernel_rfl)
          refine s_call 44 68 #[pg g2, v64 4] [0] [1, 2] (by kernel_rfl) (by kernel_rfl) (fun w hs => oR_Num_2_ok k t3.2 4 t4 hx8 B4 _ g2 A5 c5 hs4 w (St.cast (by kernel_rfl) hs)) (fun x hx => ?_)
          obtain ⟨A6, c6⟩ := x
          have hs5 := hx
          refine t_L (L' := [.blk g2 [.slice A6 t4.2.xb.length c6] 110, .blk g1 [vb a0.hM, v16 a0.ms, vb a0.hS, v8 a0.sc, vb a0.sO, .slice A1 a0.sk.length c1, vb a0.hT, v32 a0.va, v32 a0.ec, vb a0.hO, v8 a0.ki, v8 a0.ni, v8 a0.m.x0, v8 a0.m.x1, v8 a0.m.x2, v8 a0.m.x3, v8 a0.m.x4, v8 a0.m.x5, v8 a0.m.x6, v8 a0.m.x7, v8 a0.m.x8, v8 a0.m.x9, v8 a0.m.x10, v8 a0.m.x11] 31, .own A1 a0.sk.length c1 (rowOf encTB a0.sk) 2 84]) (by kernel_rfl) ?_
          refine o_run 3 [38, 39, 42, 45, 47] (l := []) .nil (E' := [(38, (pg g1)), (39, (pg g1)), (42, v32 (U32 t3.1)), (45, v32 (U32 t4.1)), (47, .pointer (some ⟨g1, 6, none⟩))]) (by kernel_rfl) ?_
          refine o_stp ?_ (by kernel_rfl)
          refine s_store 1 g1 [vb a0.hM, v16 a0.ms, vb a0.hS, v8 a0.sc, vb a0.sO, .slice A1 a0.sk.length c1, vb a0.hT, v32 a0.va, v32 a0.ec, vb a0.hO, v8 a0.ki, v8 a0.ni, v8 a0.m.x0, v8 a0.m.x1, v8 a0.m.x2, v8 a0.m.x3, v8 a0.m.x4, v8 a0.m.x5, v8 a0.m.x6, v8 a0.m.x7, v8 a0.m.x8, v8 a0.m.x9, v8 a0.m.x10, v8 a0.m.x11] 31 [(6, vb true)] (by kernel_rfl) (by kernel_rfl) (by kernel_rfl) ?_
          refine t_L (L' := [.blk g2 [.slice A6 t4.2.xb.length c6] 110, .blk g1 [vb a0.hM, v16 a0.ms, vb a0.hS, v8 a0.sc, vb a0.sO, .slice A1 a0.sk.length c1, vb true, v32 a0.va, v32 a0.ec, vb a0.hO, v8 a0.ki, v8 a0.ni, v8 a0.m.x0, v8 a0.m.x1, v8 a0.m.x2, v8 a0.m.x3, v8 a0.m.x4, v8 a0.m.x5, v8 a0.m.x6, v8 a0.m.x7, v8 a0.m.x8, v8 a0.m.x9, v8 a0.m.x10, v8 a0.m.x11] 31, .own A1 a0.sk.length c1 (rowOf encTB a0.sk) 2 84]) (by kernel_rfl) ?_
          refine o_run 2 [39, 42, 45, 49] (l := []) .nil (E' := [(39, (pg g1)), (42, v32 (U32 t3.1)), (45, v32 (U32 t4.1)), (49, .pointer (some ⟨g1, 7, none⟩))]) (by kernel_rfl) ?_
          refine o_stp ?_ (by kernel_rfl)
          refine s_store 1 g1 [vb a0.hM, v16 a0.ms, vb a0.hS, v8 a0.sc, vb a0.sO, .slice A1 a0.sk.length c1, vb true, v32 a0.va, v32 a0.ec, vb a0.hO, v8 a0.ki, v8 a0.ni, v8 a0.m.x0, v8 a0.m.x1, v8 a0.m.x2, v8 a0.m.x3, v8 a0.m.x4, v8 a0.m.x5, v8 a0.m.x6, v8 a0.m.x7, v8 a0.m.x8, v8 a0.m.x9, v8 a0.m.x10, v8 a0.m.x11] 31 [(7, v32 (U32 t3.1))] (by kernel_rfl) (by kernel_rfl) (by kernel_rfl) ?_
          refine t_L (L' := [.blk g2 [.slice A6 t4.2.xb.length c6] 110, .blk g1 [vb a0.hM, v16 a0.ms, vb a0.hS, v8 a0.sc, vb a0.sO, .slice A1 a0.sk.length c1, vb true, v32 (U32 t3.1), v32 a0.ec, vb a0.hO, v8 a0.ki, v8 a0.ni, v8 a0.m.x0, v8 a0.m.x1, v8 a0.m.x2, v8 a0.m.x3, v8 a0.m.x4, v8 a0.m.x5, v8 a0.m.x6, v8 a0.m.x7, v8 a0.m.x8, v8 a0.m.x9, v8 a0.m.x10, v8 a0.m.x11] 31, .own A1 a0.sk.length c1 (rowOf encTB a0.sk) 2 84]) (by kernel_rfl) ?_
          refine o_run 2 [45, 51] (l := []) .nil (E' := [(45, v32 (U32 t4.1)), (51, .pointer (some ⟨g1, 8, none⟩))]) (by kernel_rfl) ?_
          refine o_stp ?_ (by kernel_rfl)
          refine s_store 1 g1 [vb a0.hM, v16 a0.ms, vb a0.hS, v8 a0.sc, vb a0.sO, .slice A1 a0.sk.length c1, vb true, v32 (U32 t3.1), v32 a0.ec, vb a0.hO, v8 a0.ki, v8 a0.ni, v8 a0.m.x0, v8 a0.m.x1, v8 a0.m.x2, v8 a0.m.x3, v8 a0.m.x4, v8 a0.m.x5, v8 a0.m.x6, v8 a0.m.x7, v8 a0.m.x8, v8 a0.m.x9, v8 a0.m.x10, v8 a0.m.x11] 31 [(8, v32 (U32 t4.1))] (by kernel_rfl) (by kernel_rfl) (by kernel_rfl) ?_
          refine t_L (L' := [.blk g2 [.slice A6 t4.2.xb.length c6] 110, .blk g1 [vb a0.hM, v16 a0.ms, vb a0.hS, v8 a0.sc, vb a0.sO, .slice A1 a0.sk.length c1, vb true, v32 (U32 t3.1), v32 (U32 t4.1), vb a0.hO, v8 a0.ki, v8 a0.ni, v8 a0.m.x0, v8 a0.m.x1, v8 a0.m.x2, v8 a0.m.x3, v8 a0.m.x4, v8 a0.m.x5, v8 a0.m.x6, v8 a0.m.x7, v8 a0.m.x8, v8 a0.m.x9, v8 a0.m.x10, v8 a0.m.x11] 31, .own A1 a0.sk.length c1 (rowOf encTB a0.sk) 2 84]) (by kernel_rfl) ?_
          refine o_end (by kernel_rfl) ?_
          refine e_blk ?_
          obtain rfl := Option.some.inj hm
          exact e_endP (B4, A1, c1, A6, c6) (.tuple #[]) [1, 2, 0] (by kernel_rfl) (by kernel_rfl) rfl (by kernel_rfl) (by kernel_rfl) ⟨hx7, hs5⟩
        · replace hm := ite_f hb4 hm
          refine w_seq 3582 3583 (by kernel_rfl) ?_
          refine w_region (by kernel_rfl) ?_
          refine o_run 2 [0, 2, 6, 52] (l := []) .nil (E' := [(0, (pg g1)), (2, (pg g2)), (6, v8 a1), (52, vb (a1 == 29))]) (by kernel_rfl) ?_
          refine o_end (by kernel_rfl) ?_
          refine e_seq ?_
          refine w_cond (.tmp 52) 7166 7167 (a1 == 29) (by kernel_rfl) (by kernel_rfl) (fun hb5 => ?_) (fun hb5 => ?_)
          · replace hm := ite_t hb5 hm
            refine w_seq 14332 14333 (by kernel_rfl) ?_
            refine w_region (by kernel_rfl) ?_
            refine o_run 4 [0, 2, 54, 55, 56, 57] (l := []) .nil (E' := [(0, (pg g1)), (2, (pg g2)), (54, (pg g1)), (55, (pg g1)), (56, (pg g1)), (57, (pg g2))]) (by kernel_rfl) ?_
            obtain ⟨t5, hx9, hm⟩ := bind_some hm
            refine o_stp ?_ (by kernel_rfl)
            refine s_call 58 68 #[pg g2, v64 1] [2, 3] [0, 1] (by kernel_rfl) (by kernel_rfl) (fun w hs => oR_Num_ok k a2 1 t5 hx9 B _ g2 A2 c2 w (St.cast (by kernel_rfl) hs)) (fun x hx => ?_)
            obtain ⟨B5, A7, c7⟩ := x
            obtain ⟨hx10, hs6⟩ := hx
            refine t_L (L' := [.blk g2 [.slice A7 t5.2.xb.length c7] 110, .blk g1 [vb a0.hM, v16 a0.ms, vb a0.hS, v8 a0.sc, vb a0.sO, .slice A1 a0.sk.length c1, vb a0.hT, v32 a0.va, v32 a0.ec, vb a0.hO, v8 a0.ki, v8 a0.ni, v8 a0.m.x0, v8 a0.m.x1, v8 a0.m.x2, v8 a0.m.x3, v8 a0.m.x4, v8 a0.m.x5, v8 a0.m.x6, v8 a0.m.x7, v8 a0.m.x8, v8 a0.m.x9, v8 a0.m.x10, v8 a0.m.x11] 31, .own A1 a0.sk.length c1 (rowOf encTB a0.sk) 2 84]) (by kernel_rfl) ?_
            refine o_run 2 [0, 2, 54, 55, 56, 59, 60] (l := []) .nil (E' := [(0, (pg g1)), (2, (pg g2)), (54, (pg g1)), (55, (pg g1)), (56, (pg g1)), (59, v8 (U8 t5.1)), (60, (pg g2))]) (by kernel_rfl) ?_
            obtain ⟨t6, hx11, hm⟩ := bind_some hm
            refine o_stp ?_ (by kernel_rfl)
            refine s_call 61 68 #[pg g2, v64 1] [0] [1, 2] (by kernel_rfl) (by kernel_rfl) (fun w hs => oR_Num_2_ok k t5.2 1 t6 hx11 B5 _ g2 A7 c7 hs6 w (St.cast (by kernel_rfl) hs)) (fun x hx => ?_)
            obtain ⟨A8, c8⟩ := x
            have hs7 := hx
            refine t_L (L' := [.blk g2 [.slice A8 t6.2.xb.length c8] 110, .blk g1 [vb a0.hM, v16 a0.ms, vb a0.hS, v8 a0.sc, vb a0.sO, .slice A1 a0.sk.length c1, vb a0.hT, v32 a0.va, v32 a0.ec, vb a0.hO, v8 a0.ki, v8 a0.ni, v8 a0.m.x0, v8 a0.m.x1, v8 a0.m.x2, v8 a0.m.x3, v8 a0.m.x4, v8 a0.m.x5, v8 a0.m.x6, v8 a0.m.x7, v8 a0.m.x8, v8 a0.m.x9, v8 a0.m.x10, v8 a0.m.x11] 31, .own A1 a0.sk.length c1 (rowOf encTB a0.sk) 2 84]) (by kernel_rfl) ?_
            refine o_run 3 [0, 2, 55, 56, 59, 62, 64] (l := []) .nil (E' := [(0, (pg g1)), (2, (pg g2)), (55, (pg g1)), (56, (pg g1)), (59, v8 (U8 t5.1)), (62, v8 (U8 t6.1)), (64, .pointer (some ⟨g1, 9, none⟩))]) (by kernel_rfl) ?_
            refine o_stp ?_ (by kernel_rfl)
            refine s_store 1 g1 [vb a0.hM, v16 a0.ms, vb a0.hS, v8 a0.sc, vb a0.sO, .slice A1 a0.sk.length c1, vb a0.hT, v32 a0.va, v32 a0.ec, vb a0.hO, v8 a0.ki, v8 a0.ni, v8 a0.m.x0, v8 a0.m.x1, v8 a0.m.x2, v8 a0.m.x3, v8 a0.m.x4, v8 a0.m.x5, v8 a0.m.x6, v8 a0.m.x7, v8 a0.m.x8, v8 a0.m.x9, v8 a0.m.x10, v8 a0.m.x11] 31 [(9, vb true)] (by kernel_rfl) (by kernel_rfl) (by kernel_rfl) ?_
            refine t_L (L' := [.blk g2 [.slice A8 t6.2.xb.length c8] 110, .blk g1 [vb a0.hM, v16 a0.ms, vb a0.hS, v8 a0.sc, vb a0.sO, .slice A1 a0.sk.length c1, vb a0.hT, v32 a0.va, v32 a0.ec, vb true, v8 a0.ki, v8 a0.ni, v8 a0.m.x0, v8 a0.m.x1, v8 a0.m.x2, v8 a0.m.x3, v8 a0.m.x4, v8 a0.m.x5, v8 a0.m.x6, v8 a0.m.x7, v8 a0.m.x8, v8 a0.m.x9, v8 a0.m.x10, v8 a0.m.x11] 31, .own A1 a0.sk.length c1 (rowOf encTB a0.sk) 2 84]) (by kernel_rfl) ?_
            refine o_run 2 [0, 2, 56, 59, 62, 66] (l := []) .nil (E' := [(0, (pg g1)), (2, (pg g2)), (56, (pg g1)), (59, v8 (U8 t5.1)), (62, v8 (U8 t6.1)), (66, .pointer (some ⟨g1, 10, none⟩))]) (by kernel_rfl) ?_
            refine o_stp ?_ (by kernel_rfl)
            refine s_store 1 g1 [vb a0.hM, v16 a0.ms, vb a0.hS, v8 a0.sc, vb a0.sO, .slice A1 a0.sk.length c1, vb a0.hT, v32 a0.va, v32 a0.ec, vb true, v8 a0.ki, v8 a0.ni, v8 a0.m.x0, v8 a0.m.x1, v8 a0.m.x2, v8 a0.m.x3, v8 a0.m.x4, v8 a0.m.x5, v8 a0.m.x6, v8 a0.m.x7, v8 a0.m.x8, v8 a0.m.x9, v8 a0.m.x10, v8 a0.m.x11] 31 [(10, v8 (U8 t5.1))] (by kernel_rfl) (by kernel_rfl) (by kernel_rfl) ?_
            refine t_L (L' := [.blk g2 [.slice A8 t6.2.xb.length c8] 110, .blk g1 [vb a0.hM, v16 a0.ms, vb a0.hS, v8 a0.sc, vb a0.sO, .slice A1 a0.sk.length c1, vb a0.hT, v32 a0.va, v32 a0.ec, vb true, v8 (U8 t5.1), v8 a0.ni, v8 a0.m.x0, v8 a0.m.x1, v8 a0.m.x2, v8 a0.m.x3, v8 a0.m.x4, v8 a0.m.x5, v8 a0.m.x6, v8 a0.m.x7, v8 a0.m.x8, v8 a0.m.x9, v8 a0.m.x10, v8 a0.m.x11] 31, .own A1 a0.sk.length c1 (rowOf encTB a0.sk) 2 84]) (by kernel_rfl) ?_
            refine o_run 2 [0, 2, 62, 68] (l := []) .nil (E' := [(0, (pg g1)), (2, (pg g2)), (62, v8 (U8 t6.1)), (68, .pointer (some ⟨g1, 11, none⟩))]) (by kernel_rfl) ?_
            refine o_stp ?_ (by kernel_rfl)
            refine s_store 1 g1 [vb a0.hM, v16 a0.ms, vb a0.hS, v8 a0.sc, vb a0.sO, .slice A1 a0.sk.length c1, vb a0.hT, v32 a0.va, v32 a0.ec, vb true, v8 (U8 t5.1), v8 a0.ni, v8 a0.m.x0, v8 a0.m.x1, v8 a0.m.x2, v8 a0.m.x3, v8 a0.m.x4, v8 a0.m.x5, v8 a0.m.x6, v8 a0.m.x7, v8 a0.m.x8, v8 a0.m.x9, v8 a0.m.x10, v8 a0.m.x11] 31 [(11, v8 (U8 t6.1))] (by kernel_rfl) (by kernel_rfl) (by kernel_rfl) ?_
            refine t_L (L' := [.blk g2 [.slice A8 t6.2.xb.length c8] 110, .blk g1 [vb a0.hM, v16 a0.ms, vb a0.hS, v8 a0.sc, vb a0.sO, .slice A1 a0.sk.length c1, vb a0.hT, v32 a0.va, v32 a0.ec, vb true, v8 (U8 t5.1), v8 (U8 t6.1), v8 a0.m.x0, v8 a0.m.x1, v8 a0.m.x2, v8 a0.m.x3, v8 a0.m.x4, v8 a0.m.x5, v8 a0.m.x6, v8 a0.m.x7, v8 a0.m.x8, v8 a0.m.x9, v8 a0.m.x10, v8 a0.m.x11] 31, .own A1 a0.sk.length c1 (rowOf encTB a0.sk) 2 84]) (by kernel_rfl) ?_
            refine o_end (by kernel_rfl) ?_
            refine e_seq ?_
            refine w_region (by kernel_rfl) ?_
            refine o_run 2 [69, 70] (l := []) .nil (E' := [(69, (pg g1)), (70, (pg g2))]) (by kernel_rfl) ?_
            obtain ⟨t7, hx12, hm⟩ := bind_some hm
            refine o_stp ?_ (by kernel_rfl)
            refine s_call 71 80 #[pg g2, v64 12] [0] [1, 2] (by kernel_rfl) (by kernel_rfl) (fun w hs => oR_Bytes_2_ok t6.2 12 t7 hx12 B5 _ g2 A8 c8 hs7 w (St.cast (by kernel_rfl) hs)) (fun x hx => ?_)
            obtain ⟨A9, c9, A10, c10⟩ := x
            obtain ⟨hs8, hs9⟩ := hx
            refine t_L (L' := [.blk g2 [.slice A10 t7.2.xb.length c10] 110, .blk g1 [vb a0.hM, v16 a0.ms, vb a0.hS, v8 a0.sc, vb a0.sO, .slice A1 a0.sk.length c1, vb a0.hT, v32 a0.va, v32 a0.ec, vb true, v8 (U8 t5.1), v8 (U8 t6.1), v8 a0.m.x0, v8 a0.m.x1, v8 a0.m.x2, v8 a0.m.x3, v8 a0.m.x4, v8 a0.m.x5, v8 a0.m.x6, v8 a0.m.x7, v8 a0.m.x8, v8 a0.m.x9, v8 a0.m.x10, v8 a0.m.x11] 31, .own A1 a0.sk.length c1 (rowOf encTB a0.sk) 2 84]) (by kernel_rfl) ?_
            obtain ⟨l1, hx13, hm⟩ := bind_some hm
            refine o_val 72 (.sliceToArrayPointer 29 (.tmp 71)) (.pointer (some (adr A9 (Int.toNat 0 * 1)))) (by kernel_rfl) (v_arrAt (n := 12) hs8 hx13 rfl (by kernel_rfl) (by kernel_rfl)) ?_
            refine o_val 73 (.load 29 (.tmp 72)) (.agg #[v8 (l1.getD 0 0), v8 (l1.getD 1 0), v8 (l1.getD 2 0), v8 (l1.getD 3 0), v8 (l1.getD 4 0), v8 (l1.getD 5 0), v8 (l1.getD 6 0), v8 (l1.getD 7 0), v8 (l1.getD 8 0), v8 (l1.getD 9 0), v8 (l1.getD 10 0), v8 (l1.getD 11 0)]) (by kernel_rfl) (v_load (l := [v8 (l1.getD 0 0), v8 (l1.getD 1 0), v8 (l1.getD 2 0), v8 (l1.getD 3 0), v8 (l1.getD 4 0), v8 (l1.getD 5 0), v8 (l1.getD 6 0), v8 (l1.getD 7 0), v8 (l1.getD 8 0), v8 (l1.getD 9 0), v8 (l1.getD 10 0), v8 (l1.getD 11 0)]) (a := (adr A9 (Int.toNat 0 * 1))) (by kernel_rfl) (by kernel_rfl) (at_arr (n := 12) 0 hs8 hx13)) ?_
            refine o_run 2 [73, 75] (l := []) .nil (E' := [(73, .agg #[v8 (l1.getD 0 0), v8 (l1.getD 1 0), v8 (l1.getD 2 0), v8 (l1.getD 3 0), v8 (l1.getD 4 0), v8 (l1.getD 5 0), v8 (l1.getD 6 0), v8 (l1.getD 7 0), v8 (l1.getD 8 0), v8 (l1.getD 9 0), v8 (l1.getD 10 0), v8 (l1.getD 11 0)]), (75, .pointer (some ⟨g1, 12, none⟩))]) (by kernel_rfl) ?_
            refine o_stp ?_ (by kernel_rfl)
            refine s_store 1 g1 [vb a0.hM, v16 a0.ms, vb a0.hS, v8 a0.sc, vb a0.sO, .slice A1 a0.sk.length c1, vb a0.hT, v32 a0.va, v32 a0.ec, vb true, v8 (U8 t5.1), v8 (U8 t6.1), v8 a0.m.x0, v8 a0.m.x1, v8 a0.m.x2, v8 a0.m.x3, v8 a0.m.x4, v8 a0.m.x5, v8 a0.m.x6, v8 a0.m.x7, v8 a0.m.x8, v8 a0.m.x9, v8 a0.m.x10, v8 a0.m.x11] 31 [(12, v8 (l1.getD 0 0)), (13, v8 (l1.getD 1 0)), (14, v8 (l1.getD 2 0)), (15, v8 (l1.getD 3 0)), (16, v8 (l1.getD 4 0)), (17, v8 (l1.getD 5 0)), (18, v8 (l1.getD 6 0)), (19, v8 (l1.getD 7 0)), (20, v8 (l1.getD 8 0)), (21, v8 (l1.getD 9 0)), (22, v8 (l1.getD 10 0)), (23, v8 (l1.getD 11 0))] (by kernel_rfl) (by kernel_rfl) (by kernel_rfl) ?_
            refine t_L (L' := [.blk g2 [.slice A10 t7.2.xb.length c10] 110, .blk g1 [vb a0.hM, v16 a0.ms, vb a0.hS, v8 a0.sc, vb a0.sO, .slice A1 a0.sk.length c1, vb a0.hT, v32 a0.va, v32 a0.ec, vb true, v8 (U8 t5.1), v8 (U8 t6.1), v8 (l1.getD 0 0), v8 (l1.getD 1 0), v8 (l1.getD 2 0), v8 (l1.getD 3 0), v8 (l1.getD 4 0), v8 (l1.getD 5 0), v8 (l1.getD 6 0), v8 (l1.getD 7 0), v8 (l1.getD 8 0), v8 (l1.getD 9 0), v8 (l1.getD 10 0), v8 (l1.getD 11 0)] 31, .own A1 a0.sk.length c1 (rowOf encTB a0.sk) 2 84]) (by kernel_rfl) ?_
            refine o_end (by kernel_rfl) ?_
            refine e_blk ?_
            obtain rfl := Option.some.inj hm
            exact e_endP (B5, A1, c1, A10, c10) (.tuple #[]) [1, 2, 0] (by kernel_rfl) (by kernel_rfl) rfl (by kernel_rfl) (by kernel_rfl) ⟨hx10, hs9⟩
          · replace hm := ite_f hb5 hm
            refine w_seq 14334 14335 (by kernel_rfl) ?_
            refine w_region (by kernel_rfl) ?_
            refine o_run 2 [0, 2, 76] (l := []) .nil (E' := [(0, (pg g1)), (2, (pg g2)), (76, vb (a1 == 5))]) (by kernel_rfl) ?_
            refine o_end (by kernel_rfl) ?_
            refine e_seq ?_
            refine w_cond (.tmp 76) 28670 28671 (a1 == 5) (by kernel_rfl) (by kernel_rfl) (fun hb6 => ?_) (fun hb6 => ?_)
            · replace hm := ite_t hb6 hm
              refine w_block 1 57340 (by kernel_rfl) ?_
              refine t_drop [3, 0, 1, 2] (by kernel_rfl) ?_
              refine t_L (L' := [.own A2 a2.xb.length c2 (rowOf e8 a2.xb) 1 5, .blk g1 [vb a0.hM, v16 a0.ms, vb a0.hS, v8 a0.sc, vb a0.sO, .slice A1 a0.sk.length c1, vb a0.hT, v32 a0.va, v32 a0.ec, vb a0.hO, v8 a0.ki, v8 a0.ni, v8 a0.m.x0, v8 a0.m.x1, v8 a0.m.x2, v8 a0.m.x3, v8 a0.m.x4, v8 a0.m.x5, v8 a0.m.x6, v8 a0.m.x7, v8 a0.m.x8, v8 a0.m.x9, v8 a0.m.x10, v8 a0.m.x11] 31, .own A1 a0.sk.length c1 (rowOf encTB a0.sk) 2 84, .blk g2 [.slice A2 a2.xb.length c2] 110]) (by kernel_rfl) ?_
              refine t_frozS (kI .u8) rfl rfl (fun B6 hx14 hs10 => ?_)
              obtain ⟨t8, ht1, ho1⟩ := bind_some hm
              refine t_env [0, 2] (E' := [(0, (pg g1)), (2, (pg g2))]) (by kernel_rfl) ?_
              refine w_loopJ 114680 1 (fun k a w => ∃ (p1 : TO) (p2 : TR) (B7 : Asn) (A11 : Option Addr) (c11 : Nat) (A12 : Option Addr) (c12 : Nat), opts_take_2.l1 k p1 p2 = some t8 ∧ Ext B6 B7 ∧ Sl (kI .u8) B7 A12 c12 p2.xb ∧ EnvOk [(0, (pg g1)), (2, (pg g2))] Try.f78.ntmps a ∧ St B7 G [.blk g1 [vb p1.hM, v16 p1.ms, vb p1.hS, v8 p1.sc, vb p1.sO, .slice A11 p1.sk.length c11, vb p1.hT, v32 p1.va, v32 p1.ec, vb p1.hO, v8 p1.ki, v8 p1.ni, v8 p1.m.x0, v8 p1.m.x1, v8 p1.m.x2, v8 p1.m.x3, v8 p1.m.x4, v8 p1.m.x5, v8 p1.m.x6, v8 p1.m.x7, v8 p1.m.x8, v8 p1.m.x9, v8 p1.m.x10, v8 p1.m.x11] 31, .own A11 p1.sk.length c11 (rowOf encTB p1.sk) 2 84, .blk g2 [.slice A12 p2.xb.length c12] 110] w) (fun a w => ∃ (B8 : Asn) (A13 : Option Addr) (c13 : Nat) (A14 : Option Addr) (c14 : Nat), Ext B6 B8 ∧ Sl (kI .u8) B8 A14 c14 ((t8.2).xb) ∧ EnvOk [] Try.f78.ntmps a ∧ St B8 G [.blk g1 [vb ((t8.1).hM), v16 ((t8.1).ms), vb ((t8.1).hS), v8 ((t8.1).sc), vb ((t8.1).sO), .slice A13 (((t8.1).sk).length) c13, vb ((t8.1).hT), v32 ((t8.1).va), v32 ((t8.1).ec), vb ((t8.1).hO), v8 ((t8.1).ki), v8 ((t8.1).ni), v8 (((t8.1).m).x0), v8 (((t8.1).m).x1), v8 (((t8.1).m).x2), v8 (((t8.1).m).x3), v8 (((t8.1).m).x4), v8 (((t8.1).m).x5), v8 (((t8.1).m).x6), v8 (((t8.1).m).x7), v8 (((t8.1).m).x8), v8 (((t8.1).m).x9), v8 (((t8.1).m).x10), v8 (((t8.1).m).x11)] 31, .own A13 (((t8.1).sk).length) c13 (rowOf encTB ((t8.1).sk)) 2 84, .blk g2 [.slice A14 ((t8.2).xb).length c14] 110] w) (by kernel_rfl) ?_ ?_ k ?_
              · rintro a w ⟨B8, A13, c13, A14, c14, hx16, hs12, ha, hw⟩
                refine we_of (E := []) (B := B8) (G := G) (L := [.blk g1 [vb ((t8.1).hM), v16 ((t8.1).ms), vb ((t8.1).hS), v8 ((t8.1).sc), vb ((t8.1).sO), .slice A13 (((t8.1).sk).length) c13, vb ((t8.1).hT), v32 ((t8.1).va), v32 ((t8.1).ec), vb ((t8.1).hO), v8 ((t8.1).ki), v8 ((t8.1).ni), v8 (((t8.1).m).x0), v8 (((t8.1).m).x1), v8 (((t8.1).m).x2), v8 (((t8.1).m).x3), v8 (((t8.1).m).x4), v8 (((t8.1).m).x5), v8 (((t8.1).m).x6), v8 (((t8.1).m).x7), v8 (((t8.1).m).x8), v8 (((t8.1).m).x9), v8 (((t8.1).m).x10), v8 (((t8.1).m).x11)] 31, .own A13 (((t8.1).sk).length) c13 (rowOf encTB ((t8.1).sk)) 2 84, .blk g2 [.slice A14 ((t8.2).xb).length c14] 110]) ?_ ha hw
                have hm := ho1
                refine e_blk ?_
                obtain rfl := Option.some.inj hm
                exact e_endP (B8, A13, c13, A14, c14) (.tuple #[]) [0, 1, 2] (by kernel_rfl) (by kernel_rfl) rfl (by kernel_rfl) (by kernel_rfl) ⟨(Ext.trans hx14 hx16), hs12⟩
              · rintro k a w ⟨p1, p2, B7, A11, c11, A12, c12, hm, hx15, hs11, ha, hw⟩
                cases k with
                | zero => exact absurd hm (by simp [opts_take_2.l1])
                | succ k =>
                  unfold opts_take_2.l1 at hm
                  refine wc_of (E := [(0, (pg g1)), (2, (pg g2))]) (B := B7) (G := G) (L := [.blk g1 [vb p1.hM, v16 p1.ms, vb p1.hS, v8 p1.sc, vb p1.sO, .slice A11 p1.sk.length c11, vb p1.hT, v32 p1.va, v32 p1.ec, vb p1.hO, v8 p1.ki, v8 p1.ni, v8 p1.m.x0, v8 p1.m.x1, v8 p1.m.x2, v8 p1.m.x3, v8 p1.m.x4, v8 p1.m.x5, v8 p1.m.x6, v8 p1.m.x7, v8 p1.m.x8, v8 p1.m.x9, v8 p1.m.x10, v8 p1.m.x11] 31, .own A11 p1.sk.length c11 (rowOf encTB p1.sk) 2 84, .blk g2 [.slice A12 p2.xb.length c12] 110]) ?_ ha hw
                  refine w_seq 229360 229361 (by kernel_rfl) ?_
                  refine w_seq 458720 458721 (by kernel_rfl) ?_
                  refine w_region (by kernel_rfl) ?_
                  refine o_run 1 [0, 2, 78] (l := []) .nil (E' := [(0, (pg g1)), (2, (pg g2)), (78, (pg g2))]) (by kernel_rfl) ?_
                  obtain ⟨t9, hx17, hm⟩ := bind_some hm
                  refine o_stp ?_ (by kernel_rfl)
                  refine s_call 79 65 #[pg g2] [2] [0, 1] (by kernel_rfl) (by kernel_rfl) (fun w hs => oR_Left_2_ok p2 t9 hx17 B7 _ g2 A12 c12 hs11 w (St.cast (by kernel_rfl) hs)) (fun _ hx => ?_)
                  refine t_L (L' := [.blk g2 [.slice A12 p2.xb.length c12] 110, .blk g1 [vb p1.hM, v16 p1.ms, vb p1.hS, v8 p1.sc, vb p1.sO, .slice A11 p1.sk.length c11, vb p1.hT, v32 p1.va, v32 p1.ec, vb p1.hO, v8 p1.ki, v8 p1.ni, v8 p1.m.x0, v8 p1.m.x1, v8 p1.m.x2, v8 p1.m.x3, v8 p1.m.x4, v8 p1.m.x5, v8 p1.m.x6, v8 p1.m.x7, v8 p1.m.x8, v8 p1.m.x9, v8 p1.m.x10, v8 p1.m.x11] 31, .own A11 p1.sk.length c11 (rowOf encTB p1.sk) 2 84]) (by kernel_rfl) ?_
                  refine o_run 1 [0, 2, 80] (l := []) .nil (E' := [(0, (pg g1)), (2, (pg g2)), (80, vb (decide (t9 ≥ 8)))]) (by kernel_rfl) ?_
                  refine o_end (by kernel_rfl) ?_
                  refine e_seq ?_
                  refine w_cond (.tmp 80) 917442 917443 (decide (t9 ≥ 8)) (by kernel_rfl) (by kernel_rfl) (fun hb7 => ?_) (fun hb7 => ?_)
                  · replace hm := ite_t hb7 hm
                    refine w_skip (by kernel_rfl) ?_
                    refine e_seq ?_
                    refine w_block 2 458722 (by kernel_rfl) ?_
                    obtain ⟨t10, hx18, hm⟩ := bind_some hm
                    obtain ⟨t11, hx19, hm⟩ := bind_some hm
                    obtain ⟨l2, hx20, hm⟩ := bind_some hm
                    refine w_tail 14 [.blk g1 [vb p1.hM, v16 p1.ms, vb p1.hS, v8 p1.sc, vb p1.sO, .slice A11 p1.sk.length c11, vb p1.hT, v32 p1.va, v32 p1.ec, vb p1.hO, v8 p1.ki, v8 p1.ni, v8 p1.m.x0, v8 p1.m.x1, v8 p1.m.x2, v8 p1.m.x3, v8 p1.m.x4, v8 p1.m.x5, v8 p1.m.x6, v8 p1.m.x7, v8 p1.m.x8, v8 p1.m.x9, v8 p1.m.x10, v8 p1.m.x11] 31] (by kernel_rfl) mixed (by kernel_rfl) ?_
                    refine tt_run [0, 1, 2, 3, 4, 5, 8] [0, 2, 81, 85, 86, 89] [1] 7 (listed' := #[true, true, true, true, true, true, false, false, true, false, false, false, false, false, false, false, false]) (l := [(⟨g1, 5, none⟩, .slice A11 p1.sk.length c11)]) (.one (at_blk (j := 0) rfl rfl) .nil) (E' := [(0, (pg g1)), (2, (pg g2)), (81, (pg g1)), (85, .slice A11 p1.sk.length c11), (86, (pg g2)), (89, (pg g2))]) (by kernel_rfl) (by kernel_rfl) (by kernel_rfl) (Ext.refl _) (by kernel_rfl) (by kernel_rfl) ?_
                    refine tt_stp 6 [1] (Ext.refl _) (by kernel_rfl) (by kernel_rfl) (by kernel_rfl) (by kernel_rfl) ?_
                    refine s_call 87 68 #[pg g2, v64 4] [0] [1, 2] (by kernel_rfl) (by kernel_rfl) (fun w hs => oR_Num_2_ok k p2 4 t10 hx18 B7 _ g2 A12 c12 hs11 w (St.cast (by kernel_rfl) hs)) (fun x hx => ?_)
                    obtain ⟨A18, c18⟩ := x
                    have hs15 := hx
                    refine t_L (L' := [.blk g2 [.slice A18 t10.2.xb.length c18] 110, .blk g1 [vb p1.hM, v16 p1.ms, vb p1.hS, v8 p1.sc, vb p1.sO, .slice A11 p1.sk.length c11, vb p1.hT, v32 p1.va, v32 p1.ec, vb p1.hO, v8 p1.ki, v8 p1.ni, v8 p1.m.x0, v8 p1.m.x1, v8 p1.m.x2, v8 p1.m.x3, v8 p1.m.x4, v8 p1.m.x5, v8 p1.m.x6, v8 p1.m.x7, v8 p1.m.x8, v8 p1.m.x9, v8 p1.m.x10, v8 p1.m.x11] 31, .own A11 p1.sk.length c11 (rowOf encTB p1.sk) 2 84]) (by kernel_rfl) ?_
                    refine tt_run [7] [0, 2, 81, 85, 88, 89] [1] 5 (listed' := #[true, true, true, true, true, true, true, true, true, false, false, false, false, false, false, false, false]) (l := []) .nil (E' := [(0, (pg g1)), (2, (pg g2)), (81, (pg g1)), (85, .slice A11 p1.sk.length c11), (88, v32 (U32 t10.1)), (89, (pg g2))]) (by kernel_rfl) (by kernel_rfl) (by kernel_rfl) (Ext.refl _) (by kernel_rfl) (by kernel_rfl) ?_
                    refine tt_stp 9 [1] (Ext.refl _) (by kernel_rfl) (by kernel_rfl) (by kernel_rfl) (by kernel_rfl) ?_
                    refine s_call 90 68 #[pg g2, v64 4] [0] [1, 2] (by kernel_rfl) (by kernel_rfl) (fun w hs => oR_Num_2_ok k t10.2 4 t11 hx19 B7 _ g2 A18 c18 hs15 w (St.cast (by kernel_rfl) hs)) (fun x hx => ?_)
                    obtain ⟨A19, c19⟩ := x
                    have hs16 := hx
                    refine t_L (L' := [.blk g2 [.slice A19 t11.2.xb.length c19] 110, .blk g1 [vb p1.hM, v16 p1.ms, vb p1.hS, v8 p1.sc, vb p1.sO, .slice A11 p1.sk.length c11, vb p1.hT, v32 p1.va, v32 p1.ec, vb p1.hO, v8 p1.ki, v8 p1.ni, v8 p1.m.x0, v8 p1.m.x1, v8 p1.m.x2, v8 p1.m.x3, v8 p1.m.x4, v8 p1.m.x5, v8 p1.m.x6, v8 p1.m.x7, v8 p1.m.x8, v8 p1.m.x9, v8 p1.m.x10, v8 p1.m.x11] 31, .own A11 p1.sk.length c11 (rowOf encTB p1.sk) 2 84]) (by kernel_rfl) ?_
                    refine tt_run [10, 11] [0, 2, 81, 85, 92] [1] 2 (listed' := #[true, true, true, true, true, true, true, true, true, true, true, true, false, false, false, false, false]) (l := []) .nil (E' := [(0, (pg g1)), (2, (pg g2)), (81, (pg g1)), (85, .slice A11 p1.sk.length c11), (92, .agg #[v32 (U32 t10.1), v32 (U32 t11.1)])]) (by kernel_rfl) (by kernel_rfl) (by kernel_rfl) (Ext.refl _) (by kernel_rfl) (by kernel_rfl) ?_
                    refine tt_stp 12 [1] (Ext.refl _) (by kernel_rfl) (by kernel_rfl) (by kernel_rfl) (by kernel_rfl) ?_
                    refine s_new 93 (fun g4 => .slice (ag g4) 1 1) [v32 (U32 t10.1), v32 (U32 t11.1)] 84 (fun _ => by kernel_rfl) (fun g4 => ?_)
                    refine tt_stp 13 [2] (Ext.refl _) (by kernel_rfl) (by kernel_rfl) (by kernel_rfl) (by kernel_rfl) ?_
                    refine s_app (z := .agg #[v32 0, v32 0]) (enc := encTB) (ys := [(⟨U32 t10.1, U32 t11.1⟩ : TB)]) (k := 1) (bytes := 8) 94 28 28 (.tmp 85) (.tmp 93) 3 hx20 rfl rfl (by kernel_rfl) (by kernel_rfl) (by kernel_rfl) (by kernel_rfl) (by kernel_rfl) (by kernel_rfl) rfl (src_blk (e := 84) (j := 0) (by kernel_rfl) rfl (by kernel_rfl) rfl (by kernel_rfl)) (by decide) (fun A20 c20 => ?_)
                    refine t_L (L' := [.blk g4 [v32 (U32 t10.1), v32 (U32 t11.1)] 84, .blk g2 [.slice A19 t11.2.xb.length c19] 110, .blk g1 [vb p1.hM, v16 p1.ms, vb p1.hS, v8 p1.sc, vb p1.sO, .slice A11 p1.sk.length c11, vb p1.hT, v32 p1.va, v32 p1.ec, vb p1.hO, v8 p1.ki, v8 p1.ni, v8 p1.m.x0, v8 p1.m.x1, v8 p1.m.x2, v8 p1.m.x3, v8 p1.m.x4, v8 p1.m.x5, v8 p1.m.x6, v8 p1.m.x7, v8 p1.m.x8, v8 p1.m.x9, v8 p1.m.x10, v8 p1.m.x11] 31, .own A20 l2.length c20 (rowOf encTB l2) 2 84]) (by kernel_rfl) ?_
                    refine tt_end [2] (Ext.refl _) (by kernel_rfl) (by kernel_rfl) (by kernel_rfl) ?_
                    refine o_run 2 [0, 2, 94, 96] (l := []) .nil (E' := [(0, (pg g1)), (2, (pg g2)), (94, .slice A20 l2.length c20), (96, .pointer (some ⟨g1, 5, none⟩))]) (by kernel_rfl) ?_
                    refine o_stp ?_ (by kernel_rfl)
                    refine s_store 2 g1 [vb p1.hM, v16 p1.ms, vb p1.hS, v8 p1.sc, vb p1.sO, .slice A11 p1.sk.length c11, vb p1.hT, v32 p1.va, v32 p1.ec, vb p1.hO, v8 p1.ki, v8 p1.ni, v8 p1.m.x0, v8 p1.m.x1, v8 p1.m.x2, v8 p1.m.x3, v8 p1.m.x4, v8 p1.m.x5, v8 p1.m.x6, v8 p1.m.x7, v8 p1.m.x8, v8 p1.m.x9, v8 p1.m.x10, v8 p1.m.x11] 31 [(5, .slice A20 l2.length c20)] (by kernel_rfl) (by kernel_rfl) (by kernel_rfl) ?_
                    refine t_L (L' := [.blk g4 [v32 (U32 t10.1), v32 (U32 t11.1)] 84, .blk g2 [.slice A19 t11.2.xb.length c19] 110, .blk g1 [vb p1.hM, v16 p1.ms, vb p1.hS, v8 p1.sc, vb p1.sO, .slice A20 l2.length c20, vb p1.hT, v32 p1.va, v32 p1.ec, vb p1.hO, v8 p1.ki, v8 p1.ni, v8 p1.m.x0, v8 p1.m.x1, v8 p1.m.x2, v8 p1.m.x3, v8 p1.m.x4, v8 p1.m.x5, v8 p1.m.x6, v8 p1.m.x7, v8 p1.m.x8, v8 p1.m.x9, v8 p1.m.x10, v8 p1.m.x11] 31, .own A20 l2.length c20 (rowOf encTB l2) 2 84]) (by kernel_rfl) ?_
                    refine o_end (by kernel_rfl) ?_
                    refine e_blk ?_
                    refine t_drop [2, 3, 1] (by kernel_rfl) ?_
                    refine t_L (L' := [.blk g1 [vb p1.hM, v16 p1.ms, vb p1.hS, v8 p1.sc, vb p1.sO, .slice A20 l2.length c20, vb p1.hT, v32 p1.va, v32 p1.ec, vb p1.hO, v8 p1.ki, v8 p1.ni, v8 p1.m.x0, v8 p1.m.x1, v8 p1.m.x2, v8 p1.m.x3, v8 p1.m.x4, v8 p1.m.x5, v8 p1.m.x6, v8 p1.m.x7, v8 p1.m.x8, v8 p1.m.x9, v8 p1.m.x10, v8 p1.m.x11] 31, .own A20 l2.length c20 (rowOf encTB l2) 2 84, .blk g2 [.slice A19 t11.2.xb.length c19] 110]) (by kernel_rfl) ?_
                    refine t_env [0, 2] (E' := [(0, (pg g1)), (2, (pg g2))]) (by kernel_rfl) ?_
                    exact e_inv (fun a w ha hw => ⟨k, Nat.lt_succ_self k, (⟨p1.hM, p1.ms, p1.hS, p1.sc, p1.sO, l2, p1.hT, p1.va, p1.ec, p1.hO, p1.ki, p1.ni, p1.m⟩ : TO), t11.2, B7, A20, c20, A19, c19, hm, hx15, hs16, ha, hw⟩)
                  · replace hm := ite_f hb7 hm
                    refine w_exit 1 (by kernel_rfl) ?_
                    refine e_x_seq ?_
                    refine e_x_inv ?_
                    refine e_x_here ?_
                    refine t_drop [1, 2, 0] (by kernel_rfl) ?_
                    refine t_L (L' := [.blk g1 [vb p1.hM, v16 p1.ms, vb p1.hS, v8 p1.sc, vb p1.sO, .slice A11 p1.sk.length c11, vb p1.hT, v32 p1.va, v32 p1.ec, vb p1.hO, v8 p1.ki, v8 p1.ni, v8 p1.m.x0, v8 p1.m.x1, v8 p1.m.x2, v8 p1.m.x3, v8 p1.m.x4, v8 p1.m.x5, v8 p1.m.x6, v8 p1.m.x7, v8 p1.m.x8, v8 p1.m.x9, v8 p1.m.x10, v8 p1.m.x11] 31, .own A11 p1.sk.length c11 (rowOf encTB p1.sk) 2 84, .blk g2 [.slice A12 p2.xb.length c12] 110]) (by kernel_rfl) ?_
                    refine t_env [] (E' := []) (by kernel_rfl) ?_
                    obtain rfl := Option.some.inj hm
                    exact e_inv (fun a w ha hw => ⟨B7, A11, c11, A12, c12, hx15, hs11, ha, hw⟩)
              · exact fun a w ha hw => ⟨a0, a2, B6, A1, c1, A2, c2, ht1, Ext.refl _, hs10, ha, hw⟩
            · replace hm := ite_f hb6 hm
              refine w_skip (by kernel_rfl) ?_
              refine e_blk ?_
              refine t_drop [3, 0, 1, 2] (by kernel_rfl) ?_
              refine t_L (L' := [.own A2 a2.xb.length c2 (rowOf e8 a2.xb) 1 5, .blk g1 [vb a0.hM, v16 a0.ms, vb a0.hS, v8 a0.sc, vb a0.sO, .slice A1 a0.sk.length c1, vb a0.hT, v32 a0.va, v32 a0.ec, vb a0.hO, v8 a0.ki, v8 a0.ni, v8 a0.m.x0, v8 a0.m.x1, v8 a0.m.x2, v8 a0.m.x3, v8 a0.m.x4, v8 a0.m.x5, v8 a0.m.x6, v8 a0.m.x7, v8 a0.m.x8, v8 a0.m.x9, v8 a0.m.x10, v8 a0.m.x11] 31, .own A1 a0.sk.length c1 (rowOf encTB a0.sk) 2 84, .blk g2 [.slice A2 a2.xb.length c2] 110]) (by kernel_rfl) ?_
              refine t_frozS (kI .u8) rfl rfl (fun B9 hx21 hs17 => ?_)
              obtain rfl := Option.some.inj hm
              exact e_endP (B9, A1, c1, A2, c2) (.tuple #[]) [0, 1, 2] (by kernel_rfl) (by kernel_rfl) rfl (by kernel_rfl) (by kernel_rfl) ⟨hx21, hs17⟩
end Go.V
