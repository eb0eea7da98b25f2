/- Rows that are turned in place: blocks, copies, the library's overlaps. -/
import Derived.Test.YtafghfchflngiaaVf
import Derived.Laws.CopyRow
import Derived.Lib.Overlaps
import Derived.Lib.AppendZerosOnto
namespace Go.V
open Go
section
variable {P : Program} {F : Func} {R : Ending → World → Prop} {K : List Kont} {n i d : Nat} {E E' : Env} {B B' G : Asn} {L L' : List Atom} {T : Act → World → Prop}
theorem t_own_le {A : Option Addr} {m c sz t : Nat} {cs : List Value} (j : Nat) (hj : L[j]? = some (.own A m c cs sz t)) (next : m ≤ c → Tg F T E B G L) : Tg F T E B G L := fun a w ha hs => next (hs.own_len hj).2 a w ha hs
theorem t_own_blk {A : Option Addr} {m c sz t : Nat} {cs : List Value} (hm : 0 < m) (next : ∀ g sp, A = some ⟨g, 0, none⟩ → sp.length = (c - m) * sz → Tg F T E B G (.blk g (cs ++ sp) t :: L)) : Tg F T E B G (.own A m c cs sz t :: L) := by
  intro a w ha hs
  obtain ⟨S, h1, h2, h3, h4⟩ := hs.at (j := 0) rfl
  rcases h4 with ⟨_, h5, _⟩ | ⟨g, sp, rfl, hS, hsp, hg⟩
  · omega
  · refine next g sp rfl hsp a w ha ?_
    have := hs.set (j := 0) (A := .own (some ⟨g, 0, none⟩) m c cs sz t) (A' := .blk g (cs ++ sp) t) (g := g) (w' := w) rfl (fun S' hp => by
      obtain ⟨_, _, _, h6⟩ := hp
      rcases h6 with ⟨e', _⟩ | ⟨g', _, e', hS', _⟩
      · cases e'
      · simp only [Option.some.injEq, Addr.mk.injEq, and_true] at e'
        rw [e']; exact hS') (fun S' hS' => ⟨hS', hg⟩) rfl (fun _ _ => rfl)
    simpa using this
theorem t_blk_row {g m c sz t : Nat} {cur cs sp : List Value} (he : cur = cs ++ sp) (hl : cs.length = m * sz) (hsp : sp.length = (c - m) * sz) (hc : m ≤ c) (h1 : ∀ u ∈ cs, u.oneCell' = true) (next : Tg F T E B G (.own (some ⟨g, 0, none⟩) m c cs sz t :: L)) : Tg F T E B G (.blk g cur t :: L) := by
  intro a w ha hs
  subst he
  refine next a w ha ?_
  have hg := hs.blk (j := 0) rfl
  have := hs.set (j := 0) (A := .blk g (cs ++ sp) t) (A' := .own (some ⟨g, 0, none⟩) m c cs sz t) (g := g) (w' := w) rfl (fun S h => h.1)
    (fun S hS => ⟨hl, hc, h1, .inr ⟨g, sp, rfl, hS, hsp, hg⟩⟩) rfl (fun _ _ => rfl)
  simpa using this
theorem e_copyB {dT sT elem t : TypeId} {x y : Operand} {j g o dl dc sl sc sz : Nat} {a : Addr} {cur l : List Value}
    (hx : ev E x = some (.slice (some ⟨g, o, none⟩) dl dc)) (hy : ev E y = some (.slice (some a) sl sc)) (hu : P.underlying dT = some (.slice elem)) (hs : (P.info? elem).map (·.size) = some sz)
    (hj : L[j]? = some (.blk g cur t)) (hn : l.length = Nat.min sl dl * sz) (hsrc : At B G L a l) (hfit : o + l.length ≤ cur.length) (h1 : ∀ u ∈ l, u.oneCell' = true) :
    Eff P F (.call { callee := .builtin .copy, args := #[x, y], argTypes := #[dT, sT] }) E B G L (fun _ : Unit => .int .i64 (Nat.min sl dl : Nat)) (fun _ => L.set j (.blk g (cur.take o ++ l ++ cur.drop (o + l.length)) t)) (fun _ => True) := by
  intro ac w op hop ha hw
  have hg := hw.blk hj
  have hl := run_loadCells_list (P := P) w a l (hsrc w hw)
  have hst := run_storeCells_at P g o t l 0 cur.toArray w hg (by simpa using hfit) h1
  obtain ⟨ii, hi, he⟩ := Option.map_eq_some_iff.1 hs
  refine ⟨(), w.setRow g ((cur.toArray.toList.take o ++ l ++ cur.toArray.toList.drop (o + l.length))).toArray, ?_, hw.set_blk hj (by simp) (setRow_heap w g _ _ t (0, 0) hg) (fun b hb => setRow_other w g b _ hb), trivial⟩
  have hexec : execOp ac.eval op = (do pure (.value (← Builtin.copy_ #[dT, sT] op.type #[ac.eval x, ac.eval y]))) := by
    simp [execOp, hop, resolve, invoke, builtin]
  have hr : (Builtin.copy_ #[dT, sT] op.type #[.slice (some ⟨g, o, none⟩) dl dc, .slice (some a) sl sc]).run P w = .ok (.int .i64 (Nat.min sl dl : Nat)) (w.setRow g ((cur.toArray.toList.take o ++ l ++ cur.toArray.toList.drop (o + l.length))).toArray) := by
    simp only [Nat.add_zero] at hst
    simp [Builtin.copy_, run_underlying hu, Builtin.lenOf, Builtin.firstCells, sizeOf, typeInfo, hi, he, ← hn, hl]
    simp at hst
    rw [hst]
    simp [goInt]
  rw [hexec, ev_ok ha hx, ev_ok ha hy]
  simp only [Sem.run_bind, hr, Result.andThen]; rfl
theorem toList_zeros {z : Array Value} (n : Nat) : ((Builtin.zeroCells z n).toList).length = n * z.size := by simp [Builtin.zeroCells]
theorem e_appZ {e tn t : TypeId} {x y : Operand} {q k c sz bytes : Nat} {a : Addr} {olds : List Value} {z : Value} {kq kn : IntKind}
    (hx : ev E x = some (.slice (some a) q c)) (hy : ev E y = some (.int kq (k : Nat))) (ht : P.underlying t = some (.slice e)) (htn : P.underlying tn = some (.int kn)) (hi : (P.info? e).map (fun i => (i.zero, i.size, i.bytes)) = some (some z, sz, bytes)) (hz : z.cells.size = sz)
    (hold : At B G L a olds) (hl : olds.length = q * sz) (h0 : 0 < k) (hs : 0 < sz) (hg : c < q + k) (hb : (q + k) * bytes ≤ 140737488355328) (h63 : q + k ≤ 9223372036854775807) :
    Eff P F (.call { callee := .builtin .append, args := #[x, y], argTypes := #[t, tn] }) E B G L (fun p : Nat × Nat × List Value × List Value => .slice (some ⟨p.1, 0, none⟩) (q + k) p.2.1)
      (fun p => .blk p.1 (olds ++ p.2.2.1 ++ p.2.2.2) e :: L) (fun p => p.2.2.1.length = k * sz ∧ p.2.2.2.length = (p.2.1 - (q + k)) * sz ∧ q + k ≤ p.2.1) := by
  intro ac w op hop ha hw
  obtain ⟨ii, hi', he⟩ := Option.map_eq_some_iff.1 hi
  simp only [Prod.mk.injEq] at he
  obtain ⟨i1, i2, i3⟩ := he
  have hexec : execOp ac.eval op = (do pure (.value (← Builtin.append_ #[t, tn] op.type #[ac.eval x, ac.eval y]))) := by
    simp [execOp, hop, resolve, invoke, builtin]
  have hfirst : (Builtin.firstCells ii.size q (.slice (some a) q c)).run P w.drew = .ok olds.toArray w.drew := by
    rw [i2]
    exact run_firstCells_some w.drew sz q a q c olds hl (fun j v hj => hold w hw j v hj)
  have hkb : k * bytes ≤ (q + k) * bytes := Nat.mul_le_mul_right _ (by omega)
  have hr := Lib.run_append_grow_zeros (P := P) w t tn op.type e ii z kq kn ht htn hi' i1 (some a) q c olds hfirst k h0 (by rw [i2]; exact hs) hg (by omega) (by rw [i3]; omega) (by rw [i3]; exact growslice_fits hg hb)
  have hcap : q + k ≤ grownCap w (q + k) c e := by
    have := grownCap_ge (w := w) (need := q + k) (old := c) (e := e)
    omega
  refine ⟨(w.heap.size, grownCap w (q + k) c e, (Builtin.zeroCells z.cells k).toList, (Builtin.zeroCells z.cells (grownCap w (q + k) c e - (q + k))).toList), w.drew.alloc (.cells (olds.toArray ++ Builtin.zeroCells z.cells k ++ Builtin.zeroCells z.cells (grownCap w (q + k) c e - (q + k))) e), ?_, ?_, ⟨by rw [toList_zeros, hz], by rw [toList_zeros, hz], hcap⟩⟩
  · rw [hexec, ev_ok ha hx, ev_ok ha hy]
    simp only [Sem.run_bind, hr, Result.andThen]; rfl
  · have h1 := heap_alloc_drew w (.cells (olds.toArray ++ Builtin.zeroCells z.cells k ++ Builtin.zeroCells z.cells (grownCap w (q + k) c e - (q + k))) e)
    refine hw.alloc (t := e) (cs := olds ++ (Builtin.zeroCells z.cells k).toList ++ (Builtin.zeroCells z.cells (grownCap w (q + k) c e - (q + k))).toList) h1.1 ?_ h1.2.2
    rw [h1.2.1]
    congr 2
    apply Array.ext'
    simp
theorem v_over {fn : Func} {f : FuncId} {tS tR e : TypeId} {x y : Operand} {tl : Array TypeId} {ja jb gb ob la ca lb cb sz m c : Nat} {A : Option Addr} {cs cur : List Value} {t tb : TypeId} (hf : P.funcs[f]? = some fn) (hname : (fn.name == "runtime.NumGoroutine") = false)
    (hb : fn.body.isNone = true) (hn : Extern.findNext fn = none) (he : Extern.find fn = some (Extern.SlicesOverlaps.overlaps #[tS, tS] #[tR])) (ht : P.underlying tS = some (.slice e)) (hz : (P.info? e).map (·.size) = some sz)
    (hx : ev E x = some (.slice A la ca)) (hy : ev E y = some (.slice (some ⟨gb, ob, none⟩) lb cb)) (hja : L[ja]? = some (.own A m c cs sz t)) (hm : 0 < m) (hjb : L[jb]? = some (.blk gb cur tb)) (hcur : 0 < cur.length) (hne : (ja == jb) = false) :
    Val P F (.call { callee := .value (.func f), args := #[x, y], argTypes := tl }) E B G L (.bool false) := by
  intro ac w op hop ha hw
  obtain ⟨ii, hi, hsz⟩ := Option.map_eq_some_iff.1 hz
  obtain ⟨⟨own, o1, o2⟩, _⟩ := hw
  have ha1 := o2 (ja + 2) _ (by simpa using hja)
  have hb1 := o2 (jb + 2) _ (by simpa using hjb)
  obtain ⟨q1, q2, q3, q4⟩ := ha1
  rcases q4 with ⟨_, h5, _⟩ | ⟨g, sp, rfl, hS, hsp, hg⟩
  · omega
  · have hgb := hb1.2
    have hab : g ≠ gb := by
      intro e0
      have e1 : own g = some (ja + 2) := hS
      have e2 : own gb = some (jb + 2) := hb1.1
      rw [e0, e2] at e1
      have : ja = jb := by injection e1 with e1; omega
      simp [this] at hne
    have hex := run_callFunc_extern (P := P) hf hname hb hn he #[.slice (some ⟨g, 0, none⟩) la ca, .slice (some ⟨gb, ob, none⟩) lb cb] w
    have hov := Lib.run_overlaps_apart (P := P) w tS tR e ht sz (fun w => by simp [sizeOf, typeInfo, hi, hsz]) ⟨g, 0, none⟩ ⟨gb, ob, none⟩ la ca lb cb hab t tb (cs ++ sp).length cur.length (by simp [World.shape?, hg]) (by simp [World.shape?, hgb]) (by omega) (by simp [World.frozen?, hg]) (by simp [World.frozen?, hg])
    have e1 : (ac.eval x) = .slice (some ⟨g, 0, none⟩) la ca := ev_ok ha hx
    have e2 : (ac.eval y) = .slice (some ⟨gb, ob, none⟩) lb cb := ev_ok ha hy
    have hfv : ac.eval (.func f) = .func (.func f) #[] #[] := rfl
    have hexec : (execOp ac.eval op).run P w = (callFunc f #[ac.eval x, ac.eval y]).run P w := by
      simp only [execOp, hop, resolve, hfv, Deferred.ofValue, Sem.run_bind, Sem.run_pure, Result.andThen_ok, invoke, List.map_toArray, List.map_cons, List.map_nil]
      rfl
    rw [hexec, e1, e2, hex, hov]
    rfl
def insM {α : Type} (xs : List α) (i : Int) (vs : List α) : Option (List α) := if 0 ≤ i ∧ i ≤ xs.length ∧ xs.length + vs.length ≤ lim then some (xs.take i.toNat ++ vs ++ xs.drop i.toNat) else none
theorem insM_some {α : Type} {xs vs r : List α} {i : Int} (h : insM xs i vs = some r) : ∃ q : Nat, i = q ∧ q ≤ xs.length ∧ xs.length + vs.length ≤ 4294967296 ∧ r = xs.take q ++ vs ++ xs.drop q ∧ r.length = xs.length + vs.length := by
  unfold insM at h
  split at h
  · rename_i hh
    injection h with h
    refine ⟨i.toNat, by omega, by omega, hh.2.2, h.symm, ?_⟩
    rw [← h]
    simp
    omega
  · cases h
theorem t_own_some {A : Option Addr} {m c sz t : Nat} {cs : List Value} (j : Nat) (hj : L[j]? = some (.own A m c cs sz t)) (hm : 0 < m) (next : ∀ g, A = some ⟨g, 0, none⟩ → Tg F T E B G L) : Tg F T E B G L := by
  intro a w ha hs
  obtain ⟨S, h1, h2, h3, h4⟩ := hs.at hj
  rcases h4 with ⟨_, h5, _⟩ | ⟨g, sp, rfl, hS, hsp, hg⟩
  · omega
  · exact next g rfl a w ha hs
theorem cutA_at {g l k sz : Nat} (h : l < k) : cutA (some ⟨g, 0, none⟩) l k sz = some ⟨g, l * sz, none⟩ := by
  unfold cutA
  rw [if_neg (by omega)]
  simp only [Option.map_some, Addr.add]
  split
  · rename_i h0; rw [h0]
  · simp
theorem list_two {P Z S V D : List Value} (hz : Z.length = V.length + D.length) :
    (((P ++ Z ++ S).take P.length ++ V ++ (P ++ Z ++ S).drop (P.length + V.length)).take (P.length + V.length) ++ D ++ ((P ++ Z ++ S).take P.length ++ V ++ (P ++ Z ++ S).drop (P.length + V.length)).drop (P.length + V.length + D.length)) = P ++ V ++ D ++ S := by
  have e1 : (P ++ Z ++ S).take P.length = P := by rw [List.append_assoc, List.take_left' rfl]
  have e2 : (P ++ Z ++ S).drop (P.length + V.length) = Z.drop V.length ++ S := by
    rw [List.append_assoc, List.drop_append, List.drop_of_length_le (by omega), List.nil_append, List.drop_append_of_le_length (by omega)]
    congr 2; omega
  rw [e1, e2]
  rw [show P.length + V.length = (P ++ V).length by simp, List.take_left' rfl, List.drop_append, List.drop_of_length_le (by omega), List.nil_append]
  congr 1
  rw [show (P ++ V).length + D.length - (P ++ V).length = D.length by omega, List.drop_append, List.drop_of_length_le (by simp; omega), List.nil_append]
  rw [List.length_drop, show D.length - (Z.length - V.length) = 0 by omega, List.drop_zero]
theorem list_three {X D S V : List Value} (hs : V.length ≤ S.length) :
    ((((X ++ D) ++ S).take (X.length + V.length) ++ D ++ ((X ++ D) ++ S).drop (X.length + V.length + D.length)).take X.length ++ V ++ (((X ++ D) ++ S).take (X.length + V.length) ++ D ++ ((X ++ D) ++ S).drop (X.length + V.length + D.length)).drop (X.length + V.length)) = X ++ V ++ D ++ S.drop V.length := by
  have h1 : (((X ++ D) ++ S).take (X.length + V.length)).length = X.length + V.length := by
    rw [List.length_take]; simp; omega
  have e1 : ((X ++ D) ++ S).drop (X.length + V.length + D.length) = S.drop V.length := by
    rw [List.drop_append, List.drop_of_length_le (by simp <;> omega), List.nil_append]
    congr 1
    simp only [List.length_append]
    omega
  rw [e1]
  generalize hq : ((X ++ D) ++ S).take (X.length + V.length) = Q at *
  have e2 : (Q ++ D ++ S.drop V.length).take X.length = X := by
    rw [List.append_assoc, List.take_append_of_le_length (by omega), ← hq, List.take_take, Nat.min_eq_left (by omega), List.append_assoc, List.take_left' rfl]
  rw [e2, List.append_assoc Q, ← h1, List.drop_left' rfl]
  simp [List.append_assoc]
theorem i64_add {q m : Nat} (h : q + m ≤ 4294967296) : I64 ((q : Int) + (m : Int)) = ((q + m : Nat) : Int) := by
  unfold I64
  rw [IntKind.wrap_i64]; omega
theorem i64_sub {q m : Nat} (h : m ≤ 4294967296) (hq : q ≤ m) : I64 ((m : Int) - (q : Int)) = ((m - q : Nat) : Int) := by
  unfold I64
  rw [IntKind.wrap_i64]; omega
theorem heap_freeze {w : World} {g k : Nat} {C : Array Value} {e : TypeId} (hg : w.heap[g]? = some (.cells C e (0, 0))) : (w.freeze ⟨g, k, none⟩ 1).heap.size = w.heap.size ∧ (∀ b, b ≠ g → (w.freeze ⟨g, k, none⟩ 1).heap[b]? = w.heap[b]?) ∧ (w.freeze ⟨g, k, none⟩ 1).heap[g]? = some (.cells C e (k, k + 1)) := by
  unfold World.freeze
  rw [if_neg (by decide)]
  refine ⟨by simp, fun b hb => ?_, ?_⟩
  · simp [Array.getElem?_modify, Ne.symm hb]
  · simp [Array.getElem?_modify, hg]
theorem s_constB {t e : TypeId} {x : Operand} {g : Nat} {xs : List Int} (d : Nat) (h : opAt F n i E = some (d, .convert t t x)) (hx : ev E x = some (.slice (some ⟨g, 0, none⟩) xs.length xs.length)) (ht : P.underlying t = some (.slice e)) (he : P.underlying e = some (.int .u8))
    (next : ∀ B2, Ext B B2 → Sl (kI .u8) B2 (some ⟨g, 0, none⟩) xs.length xs → Tg F T ((d, .slice (some ⟨g, 0, none⟩) xs.length xs.length) :: E) B2 G L) : Stp P F R K n i T E B G (.blk g (rowOf (encI .u8) xs) e :: L) := by
  obtain ⟨o, ho, hop, hdst, hdn, hw⟩ := opAt_spec h
  intro a w ha hs
  have hg := hs.blk (j := 0) rfl
  have hsh : w.shape? g = some (e, (rowOf (encI .u8) xs).length) := by simp [World.shape?, hg]
  have hrun : (execOp a.eval o).run P w = .ok (.value (.slice (some ⟨g, 0, none⟩) xs.length xs.length)) (w.freeze ⟨g, (rowOf (encI .u8) xs).length, none⟩ 1) := by
    simp only [execOp, hop, ev_ok ha hx]
    simp [convert, run_underlying ht, run_underlying he, markStringish, hsh]
  obtain ⟨h1, h2, h3⟩ := heap_freeze (k := (rowOf (encI .u8) xs).length) hg
  have hs2 := hs.set (j := 0) (A := .blk g (rowOf (encI .u8) xs) e) (A' := .obj g (.cells (rowOf (encI .u8) xs).toArray e ((rowOf (encI .u8) xs).length, (rowOf (encI .u8) xs).length + 1))) (g := g) (w' := w.freeze ⟨g, (rowOf (encI .u8) xs).length, none⟩ 1) rfl (fun S h => h.1) (fun S hS => ⟨hS, h3⟩) h1 h2
  have hs3 : St B G (.obj g (.cells (rowOf (encI .u8) xs).toArray e ((rowOf (encI .u8) xs).length, (rowOf (encI .u8) xs).length + 1)) :: L) (w.freeze ⟨g, (rowOf (encI .u8) xs).length, none⟩ 1) := by simpa using hs2
  show wpOp P (rg F n) (kp P F R K) i T a w
  unfold wpOp
  simp only [ho]
  rw [if_pos (hw a ha)]
  left
  unfold Oper.wp
  rw [hrun]
  show T (a.put o.dst _) _
  rw [hdst]
  refine next _ (Ext.froz _ _) ?_ _ _ (ha.put hdn) hs3.froz
  refine ⟨Nat.le_refl _, fun q y hy => ⟨[.int .u8 y], rfl, fun S hh hp => ⟨rfl, fun k v hk => ?_⟩⟩⟩
  obtain ⟨_, _, hA⟩ := hp
  have hobj : hh[g]? = some (.cells (rowOf (encI .u8) xs).toArray e ((rowOf (encI .u8) xs).length, (rowOf (encI .u8) xs).length + 1)) := (hA 1 _ rfl).2
  rw [adr_add rfl, adr_blk]
  simp only [hcell, hobj, Option.isSome_none, Bool.false_eq_true, if_false, List.getElem?_toArray]
  have hk0 : k = 0 := by
    cases k with
    | zero => rfl
    | succ k => simp at hk
  subst hk0
  simp at hk
  subst hk
  rw [rowOf_bytes, List.getElem?_map]
  have : (kI IntKind.u8).sz = 1 := rfl
  rw [this, Nat.mul_one, Nat.add_zero, hy]
  rfl
end
end Go.V
