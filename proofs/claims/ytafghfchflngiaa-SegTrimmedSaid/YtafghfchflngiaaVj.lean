/- Rows that are turned in place, more: append within a block, clear; literals of deep data that are read. -/
import Derived.Test.YtafghfchflngiaaVi
namespace Go.V
open Go
section
variable {P : Program} {F : Func} {R : Ending → World → Prop} {K : List Kont} {n i d : Nat} {E E' : Env} {B B' G : Asn} {L L' : List Atom} {T : Act → World → Prop}
theorem e_appB {tx e t ty : TypeId} {x y : Operand} {j g q k c sz : Nat} {cur l : List Value} {X : Value} (hx : ev E x = some (.slice (some ⟨g, 0, none⟩) q c)) (hy : ev E y = some X) (ht : P.underlying ty = some (.slice e)) (hi : (P.info? e).map (·.size) = some sz)
    (hj : L[j]? = some (.blk g cur t)) (hsrc : SrcAt P B G L tx X k l sz) (hfit : q + k ≤ c) (hc : c * sz ≤ cur.length) :
    Eff P F (.call { callee := .builtin .append, args := #[x, y], argTypes := #[ty, tx] }) E B G L (fun _ : Unit => .slice (some ⟨g, 0, none⟩) (q + k) c) (fun _ => L.set j (.blk g (cur.take (q * sz) ++ l ++ cur.drop (q * sz + l.length)) t)) (fun _ => True) := by
  intro a w o hop ha hs
  obtain ⟨i, hi', h2⟩ := Option.map_eq_some_iff.1 hi
  have src := hsrc w hs
  have hg := hs.blk hj
  have hexec : execOp a.eval o = (do pure (.value (← Builtin.append_ #[ty, tx] o.type #[a.eval x, a.eval y]))) := by
    simp [execOp, hop, resolve, invoke, builtin]
  have hnl : l.length = k * sz := src.newsLen
  have hle : q * sz + l.length ≤ cur.length := by
    rw [hnl, ← Nat.add_mul]; exact Nat.le_trans (Nat.mul_le_mul_right _ hfit) hc
  have hst := run_storeCells_at P g (q * sz) t l 0 cur.toArray w hg (by simpa using hle) src.one
  have hr : (Builtin.append_ #[ty, tx] o.type #[.slice (some ⟨g, 0, none⟩) q c, X]).run P w = .ok (.slice (some ⟨g, 0, none⟩) (q + k) c) (w.setRow g (cur.toArray.toList.take (q * sz) ++ l ++ cur.toArray.toList.drop (q * sz + l.length)).toArray) := by
    simp only [Nat.add_zero] at hst
    rcases src.kind with ⟨e', hk⟩ | hk <;> simp [Builtin.append_, run_underlying ht, run_underlying hk, sizeOf, typeInfo, hi', h2, src.len, hfit, src.cells, Addr.add_lit] <;> (simp at hst; rw [hst]; simp)
  refine ⟨(), w.setRow g (cur.toArray.toList.take (q * sz) ++ l ++ cur.toArray.toList.drop (q * sz + l.length)).toArray, ?_, hs.set_blk hj (by simp) (setRow_heap w g _ _ t (0, 0) hg) (fun b hb => setRow_other w g b _ hb), trivial⟩
  rw [hexec, ev_ok ha hx, ev_ok ha hy]
  simp only [Sem.run_bind, hr, Result.andThen]; rfl
theorem s_effN (op : Op) {X : Type} {v : X → Value} {L' : X → List Atom} {Φ : X → Prop} (h : opAt0 F n i E = some op) (hv : Eff P F op E B G L v L' Φ)
    (next : ∀ x, Φ x → Tg F T E B G (L' x)) : Stp P F R K n i T E B G L := by
  obtain ⟨o, ho, hop, hdst, hw⟩ := opAt0_spec h
  intro a w ha hs
  unfold wpOp
  simp only [ho]
  rw [if_pos (hw a ha)]
  obtain ⟨x, w', hrun, hs', hx⟩ := hv a w o hop ha hs
  left
  unfold Oper.wp
  rw [hrun]
  show T (a.put o.dst (v x)) w'
  rw [hdst]
  exact next x hx _ w' ha hs'
theorem e_clearB {e t tS : TypeId} {x : Operand} {j g o k c sz : Nat} {cur : List Value} {z : Value} (hx : ev E x = some (.slice (some ⟨g, o, none⟩) k c)) (ht : P.underlying tS = some (.slice e)) (hi : (P.info? e).map (·.zero) = some (some z)) (hz : z.cells.size = sz) (hz1 : z.cells.all (·.oneCell') = true) (h0 : 0 < k)
    (hj : L[j]? = some (.blk g cur t)) (hfit : o + k * sz ≤ cur.length) :
    Eff P F (.call { callee := .builtin .clear, args := #[x], argTypes := #[tS] }) E B G L (fun _ : Unit => .tuple #[]) (fun _ => L.set j (.blk g (cur.take o ++ (Builtin.zeroCells z.cells k).toList ++ cur.drop (o + (Builtin.zeroCells z.cells k).toList.length)) t)) (fun _ => True) := by
  intro a w op hop ha hs
  obtain ⟨i, hi', h2⟩ := Option.map_eq_some_iff.1 hi
  have hg := hs.blk hj
  have hlen : (Builtin.zeroCells z.cells k).toList.length = k * sz := by rw [toList_zeros, hz]
  have h1 : ∀ u ∈ (Builtin.zeroCells z.cells k).toList, u.oneCell' = true := by
    intro u hu
    simp [Builtin.zeroCells] at hu
    obtain ⟨q, hq, rfl⟩ := hu
    have hp : 0 < z.cells.size := by
      rcases Nat.eq_zero_or_pos z.cells.size with h | h
      · rw [h] at hq; omega
      · exact h
    have hm : q % z.cells.size < z.cells.size := Nat.mod_lt _ hp
    rw [getElem!_pos z.cells _ hm]
    simp only [Array.all_eq_true'] at hz1
    exact hz1 _ (Array.getElem_mem hm)
  have hst := run_storeCells_at P g o t (Builtin.zeroCells z.cells k).toList 0 cur.toArray w hg (by rw [hlen]; simpa using hfit) h1
  have hexec : execOp a.eval op = (do pure (.value (← Builtin.clear_ #[tS] op.type #[a.eval x]))) := by
    simp [execOp, hop, resolve, invoke, builtin]
  have hzv : (zeroValue e).run P w = .ok z w := by simp [zeroValue, typeInfo, hi', h2]
  obtain ⟨k, rfl⟩ : ∃ m, k = m + 1 := ⟨k - 1, by omega⟩
  have hr : (Builtin.clear_ #[tS] op.type #[.slice (some ⟨g, o, none⟩) (k + 1) c]).run P w = .ok (.tuple #[]) (w.setRow g (cur.toArray.toList.take o ++ (Builtin.zeroCells z.cells (k + 1)).toList ++ cur.toArray.toList.drop (o + (Builtin.zeroCells z.cells (k + 1)).toList.length)).toArray) := by
    simp only [Nat.add_zero] at hst
    simp at hst
    simp [Builtin.clear_, run_underlying ht, hzv, hst]
  refine ⟨(), w.setRow g (cur.toArray.toList.take o ++ (Builtin.zeroCells z.cells (k + 1)).toList ++ cur.toArray.toList.drop (o + (Builtin.zeroCells z.cells (k + 1)).toList.length)).toArray, ?_, hs.set_blk hj (by simp) (setRow_heap w g _ _ t (0, 0) hg) (fun b hb => setRow_other w g b _ hb), trivial⟩
  rw [hexec, ev_ok ha hx]
  simp only [Sem.run_bind, hr, Result.andThen]; rfl
def delM {α : Type} (xs : List α) (i j : Int) : Option (List α) := if 0 ≤ i ∧ i ≤ j ∧ j ≤ xs.length then some (xs.take i.toNat ++ xs.drop j.toNat) else none
theorem delM_some {α : Type} {xs r : List α} {i j : Int} (h : delM xs i j = some r) : ∃ p q : Nat, i = p ∧ j = q ∧ p ≤ q ∧ q ≤ xs.length ∧ r = xs.take p ++ xs.drop q ∧ r.length = p + (xs.length - q) := by
  unfold delM at h
  split at h
  · rename_i hh
    injection h with h
    refine ⟨i.toNat, j.toNat, by omega, by omega, by omega, by omega, h.symm, ?_⟩
    rw [← h]
    simp
    omega
  · cases h
theorem src_within {tx e t : TypeId} {j g o sz k c : Nat} {cs l : List Value} (hk : P.underlying tx = some (.slice e)) (hj : L[j]? = some (.blk g cs t)) (hl : l.length = k * sz) (hr : (cs.drop o).take l.length = l) (h1 : ∀ u ∈ l, u.oneCell' = true) : SrcAt P B G L tx (.slice (some ⟨g, o, none⟩) k c) k l sz := by
  intro w hw
  have := at_blk (B := B) (G := G) (off := o) hj hr
  exact Src.ofSlice w hk _ k c _ hl (fun i v hv => this w hw i v hv) h1
theorem src_empty {tx e : TypeId} {sz c : Nat} {a : Addr} (hk : P.underlying tx = some (.slice e)) : SrcAt P B G L tx (.slice (some a) 0 c) 0 [] sz := by
  intro w hw
  exact Src.ofSlice w hk _ 0 c _ (by simp) (fun i v hv => by simp at hv) (fun u hu => by cases hu)
theorem list_del {N S X D Z : List Value} (hX : N.take X.length = X) (hl : X.length ≤ N.length) :
    (((N ++ S).take X.length ++ D ++ (N ++ S).drop (X.length + D.length)).take (X.length + D.length) ++ Z ++ ((N ++ S).take X.length ++ D ++ (N ++ S).drop (X.length + D.length)).drop (X.length + D.length + Z.length)) =
      (X ++ D) ++ (Z ++ ((N ++ S).take X.length ++ D ++ (N ++ S).drop (X.length + D.length)).drop (X.length + D.length + Z.length)) := by
  have e1 : (N ++ S).take X.length = X := by rw [List.take_append_of_le_length hl, hX]
  rw [e1]
  rw [show X.length + D.length = (X ++ D).length by simp, List.take_left' rfl, List.append_assoc (X ++ D)]
def AllK {α : Type} (d : Kd α) (B : Asn) : List α → List (List Value) → Prop
  | [], [] => True
  | x :: xs, c :: cs => d.K B x c ∧ AllK d B xs cs
  | _, _ => False
theorem AllK.len {α : Type} {d : Kd α} : ∀ {xs : List α} {css : List (List Value)}, AllK d B xs css → css.length = xs.length
  | [], [], _ => rfl
  | _ :: _, _ :: _, h => by simp [AllK.len h.2]
  | [], _ :: _, h => h.elim
  | _ :: _, [], h => h.elim
theorem AllK.at {α : Type} {d : Kd α} : ∀ {xs : List α} {css : List (List Value)}, AllK d B xs css → ∀ (i : Nat) (x : α) (cs : List Value), xs[i]? = some x → css[i]? = some cs → d.K B x cs
  | x :: xs, c :: cs, h, 0, _, _, hx, hc => by simp at hx hc; subst hx hc; exact h.1
  | x :: xs, c :: cs, h, i + 1, y, z, hx, hc => h.2.at i y z (by simpa using hx) (by simpa using hc)
  | [], _, _, i, x, cs, hx, _ => by simp at hx
  | _ :: _, [], h, _, _, _, _, _ => h.elim
theorem flatten_len {n : Nat} : ∀ (css : List (List Value)), (∀ c ∈ css, c.length = n) → css.flatten.length = css.length * n
  | [], _ => by simp
  | c :: css, h => by
    rw [List.flatten_cons, List.length_append, flatten_len css (fun c hc => h c (by simp [hc])), h c (by simp), List.length_cons, Nat.add_mul]; omega
theorem t_frozL {α : Type} (d : Kd α) {xs : List α} {css : List (List Value)} {g : Nat} {cs : List Value} {t : TypeId} (hK : AllK d B xs css) (e : cs = css.flatten) (next : ∀ B2, Ext B B2 → Sl d B2 (some ⟨g, 0, none⟩) xs.length xs → Tg F T E B2 G L) : Tg F T E B G (.blk g cs t :: L) := by
  intro a w ha hs
  have hlen : ∀ c ∈ css, c.length = d.sz := by
    intro c hc
    obtain ⟨i, hi, he⟩ := List.mem_iff_getElem.1 hc
    have hx : i < xs.length := by rw [← hK.len]; exact hi
    exact d.len (hK.at i _ c (List.getElem?_eq_getElem hx) (by rw [List.getElem?_eq_getElem hi, he]))
  have hone : ∀ u ∈ css.flatten, u.oneCell' = true := by
    intro u hu
    obtain ⟨c, hc, hu⟩ := List.mem_flatten.1 hu
    obtain ⟨i, hi, he⟩ := List.mem_iff_getElem.1 hc
    have hx : i < xs.length := by rw [← hK.len]; exact hi
    exact d.one (hK.at i _ c (List.getElem?_eq_getElem hx) (by rw [List.getElem?_eq_getElem hi, he])) u hu
  have hfl : css.flatten.length = xs.length * d.sz := by
    rw [← hK.len]; exact flatten_len css hlen
  have h2 := hs.blk_own (m := xs.length) (sz := d.sz) (by rw [e]; exact hfl) (by rw [e]; exact hone)
  rw [e] at h2
  exact next _ (Ext.froz _ _) (sl_of_own hK.len (hK.at) (Nat.le_refl _)) a w ha h2.froz
end
end Go.V
