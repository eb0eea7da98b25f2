/- How a law's row is closed: the arguments told as rows that are read, the end told as the row asks. -/
import Derived.Test.YtafghfchflngiaaVl
import Derived.ProofKit
import Derived.OpenShut
import Derived.JoinedCond
import Derived.Carry
import Derived.Deep.Slices
namespace Go.V
open Go Go.ChangeShapes Go.WideShapes Go.RowKit Go.Deep
def base0 (W : World) : Asn := ⟨fun S h => ∀ b, b < W.heap.size → S b ∧ h[b]? = W.heap[b]?, fun {_ _ _} hh hp b hb => ⟨(hp b hb).1, (hh b (hp b hb).1).trans (hp b hb).2⟩, some (W.os, W.output)⟩
theorem st0 (W : World) : St (base0 W) emp [] W := by
  refine ⟨⟨fun b => if b < W.heap.size then some 0 else none, fun b j hb => ?_, fun j A hj => ?_⟩, fun x hx => ?_⟩
  · dsimp only at hb
    split at hb
    · assumption
    · cases hb
  · match j, hj with
    | 0, hj =>
      simp at hj; subst hj
      exact fun b hb => ⟨by simp [hb], rfl⟩
    | 1, hj =>
      simp at hj; subst hj
      exact trivial
    | j + 2, hj => simp at hj
  · have e : (W.os, W.output) = x := by simpa [base0] using hx
    rw [← e]; exact ⟨rfl, rfl⟩
structure Kept (W W' : World) : Prop where
  os : W'.os = W.os
  output : W'.output = W.output
  block : ∀ b, b < W.heap.size → W'.heap[b]? = W.heap[b]?
theorem kept_of {W W' : World} {B' G : Asn} {L : List Atom} (x : Ext (base0 W) B') (hs : St B' G L W') : Kept W W' := by
  obtain ⟨⟨f, hf, hA⟩, hio⟩ := hs
  obtain ⟨S', _, hp⟩ := x.2 _ _ (hA 0 (.asn B') rfl)
  have := hio _ (x.1 _ rfl)
  exact ⟨this.1, this.2, fun b hb => (hp b hb).2⟩
theorem Kept.cell {W W' : World} (h : Kept W W') {b : Nat} (hb : b < W.heap.size) (off : Nat) (s) : W'.cell? ⟨b, off, s⟩ = W.cell? ⟨b, off, s⟩ := by
  simp only [World.cell?, h.block b hb]
theorem Kept.frozen {W W' : World} (h : Kept W W') {a : Addr} (hb : a.block < W.heap.size) : W'.frozen? a = W.frozen? a := by
  simp only [World.frozen?, h.block a.block hb]
theorem Kept.but {W W' : World} (h : Kept W W') (may : MemPlace → Prop) : W.keptBut W' may := by
  refine ⟨h.os, h.output, fun i hi => ?_⟩
  rw [h.block i hi]
  cases W.heap[i]? with
  | none => simp
  | some o => cases o <;> simp
theorem Kept.same {W W' : World} (h : Kept W W') {q : MemPlace} (hq : q.block < W.heap.size) : W.sameAt W' q := by
  cases q with
  | cell b off => exact h.cell hq off none
  | map b => exact h.block b hq
section
variable {H : Type} {enc : TypeId × Value → H} {P : Program} {W W' : World}
theorem trodAll_stays (hl : laidOutB P = true) {sp : Nat → Bool} : ∀ {ts : List TypeId} {vs : List Value} {ds : List (DataW H)} {p : List MemPlace}, ts.all (fun t => P.readableRec t && Nat.blt t P.types.size) = true →
    DataW.TrodAll enc P W 0 (fun _ => true) true ts vs ds p → (∀ q ∈ p, W.sameAt W' q) → (∀ q ∈ p, sp q.block = true) → DataW.TrodAll enc P W' 0 sp true ts vs ds p
  | [], _, _, _, _, h, _, _ => by
    obtain ⟨rfl, rfl, rfl⟩ := trodAll_nil h
    exact trodAll_mk0
  | t :: ts, _, _, _, ht, h, h1, h2 => by
    simp only [List.all_cons, Bool.and_eq_true] at ht
    obtain ⟨v, vs, d, ds, p, q, rfl, rfl, rfl, h0, hr⟩ := trodAll_cons h
    exact ⟨p, q, WideElems.Trod_stays hl ht.1.1 (Nat.le_of_ble_eq_true ht.1.2) h0 (fun x hx => h1 x (by simp [hx])) (fun x hx => h2 x (by simp [hx])), trodAll_stays hl (by simpa using ht.2) hr (fun x hx => h1 x (by simp [hx])) (fun x hx => h2 x (by simp [hx])), rfl⟩
theorem law_done {f : Func} {s : ChangeSpec} {apart fresh handsOn again : Bool} {args : Array Value} {ds gs : List (DataW H)} {before : List MemPlace} {tb : TypeId}
    (hW : DataW.Whole enc P f.params.toList s.vars apart W args.toList ds gs before) (hk : Kept W W') (hv : s.vars = []) (hl : laidOutB P = true) (hp : f.params.toList.all (fun t => P.readableRec t && Nat.blt t P.types.size) = true)
    (hr : f.resultTypes = #[tb]) (hb : P.underlying tb = some .bool) (hf : (s.fn H ds).results = [.lit (.bool true)] ∧ (s.fn H ds).args = ds ∧ (s.fn H ds).vars = []) : s.post enc P f apart fresh handsOn again W args (.bool true) W' := by
  have hW0 := hW
  obtain ⟨p, q, hA, hV, rfl, hfz, hnd⟩ := hW
  rw [hv] at hV
  obtain ⟨rfl, rfl⟩ := trodVars_none hV
  have hlt : ∀ x ∈ p, x.block < W.heap.size := fun x hx => by
    have := hW0.lt x (by simpa using hx)
    simpa using this
  have hargs : ∀ sp : Nat → Bool, (∀ x ∈ p, sp x.block = true) → DataW.TrodAll enc P W' 0 sp true f.params.toList args.toList (s.fn H (ds ++ [])).args p := fun sp hsp => by
    rw [List.append_nil, hf.2.1]
    exact trodAll_stays hl hp hA (fun x hx => hk.same (hlt x hx)) hsp
  have hvars : ∀ sp : Nat → Bool, DataW.TrodVars enc P W' sp s.vars (s.fn H (ds ++ [])).vars [] := fun sp => by
    rw [List.append_nil, hf.2.2, hv]; rfl
  have hres : ∀ (b : Nat) (sp : Nat → Bool) (hd : Bool), DataW.TrodAll enc P W' b sp hd f.resultTypes.toList ((Value.bool true).resultList f.resultTypes.size) (s.fn H (ds ++ [])).results [] := fun b sp hd => by
    rw [List.append_nil, hf.1, hr]
    exact trodAll_cons_mk (shut_bool hb _) trodAll_mk0
  refine ⟨ds, [], p ++ [], [], p, [], hW0, hres _ _ _, hargs _ (fun x hx => by simpa using hlt x hx), hvars _, hk.but _, fun _ => ⟨ok_one hr rfl (okWide_bool_mk hb _), _, _, ([] ++ p) ++ [], ⟨[] ++ p, [], trodAll_append (hargs _ (fun _ _ => rfl)) (hres _ _ _), hvars _, rfl, ?_, ?_⟩, ?_⟩⟩
  · intro b off hp'
    have h1 : MemPlace.cell b off ∈ p := by simpa using hp'
    rw [hk.frozen (a := ⟨b, off, none⟩) (hlt _ h1)]
    exact hfz b off (by simpa using h1)
  · intro ha
    have := hnd ha
    simpa using this
  · intro x hx _
    simpa using hx
end
def wfI (k : IntKind) (x : Int) : Prop := (Lit.int k x).wf = true
theorem wfI_u8 {x : Int} (h : wfI .u8 x) : 0 ≤ x ∧ x ≤ 255 := by simpa [wfI, Lit.wf, IntKind.min, IntKind.max, IntKind.signed, IntKind.bits] using h
theorem wfI_u16 {x : Int} (h : wfI .u16 x) : 0 ≤ x ∧ x ≤ 65535 := by simpa [wfI, Lit.wf, IntKind.min, IntKind.max, IntKind.signed, IntKind.bits] using h
theorem wfI_u32 {x : Int} (h : wfI .u32 x) : 0 ≤ x ∧ x ≤ 4294967295 := by simpa [wfI, Lit.wf, IntKind.min, IntKind.max, IntKind.signed, IntKind.bits] using h
theorem wfI_u64 {x : Int} (h : wfI .u64 x) : 0 ≤ x ∧ x ≤ 18446744073709551615 := by simpa [wfI, Lit.wf, IntKind.min, IntKind.max, IntKind.signed, IntKind.bits] using h
theorem wfI_i32 {x : Int} (h : wfI .i32 x) : -2147483648 ≤ x ∧ x ≤ 2147483647 := by simpa [wfI, Lit.wf, IntKind.min, IntKind.max, IntKind.signed, IntKind.bits] using h
theorem wfI_i64 {x : Int} (h : wfI .i64 x) : -9223372036854775808 ≤ x ∧ x ≤ 9223372036854775807 := by simpa [wfI, Lit.wf, IntKind.min, IntKind.max, IntKind.signed, IntKind.bits] using h
section
variable {H : Type} {enc : TypeId × Value → H} {P : Program} {W : World}
def Opens {α : Type} (enc : TypeId × Value → H) (P : Program) (W : World) (t : TypeId) (d : Kd α) (φ : α → Prop) : Prop :=
  ∀ (fuel : Nat) (cs : List Value) (y : DataW H × List MemPlace), DataW.trod enc P W 0 (fun _ => true) true fuel t cs = some y → ∃ x : α, φ x ∧ d.K (base0 W) x cs
theorem opens_int {t : TypeId} {k : IntKind} (ht : P.underlying t = some (.int k)) : Opens enc P W t (kI k) (wfI k) := fun fuel cs y h => by
  obtain ⟨n, h1, _, h3⟩ := DataW.trod_int ht h
  exact ⟨n, h3, h1⟩
theorem opens_bool {t : TypeId} (ht : P.underlying t = some .bool) : Opens enc P W t kB (fun _ => True) := fun fuel cs y h => by
  obtain ⟨n, h1, _⟩ := DataW.trod_bool ht h
  exact ⟨n, trivial, h1⟩
theorem opens_str {t : TypeId} (ht : P.underlying t = some .string) : Opens enc P W t kS (fun s => s.size ≤ maxLen) := fun fuel cs y h => by
  obtain ⟨n, h1, _, h3⟩ := DataW.trod_string ht h
  exact ⟨n, h3, h1⟩
theorem choose_list {α : Type} (R : Nat → α → Prop) : ∀ m, (∀ i, i < m → ∃ x, R i x) → ∃ xs : List α, xs.length = m ∧ ∀ i x, xs[i]? = some x → R i x
  | 0, _ => ⟨[], rfl, fun i x h => by simp at h⟩
  | m + 1, h => by
    obtain ⟨xs, h1, h2⟩ := choose_list R m (fun i hi => h i (by omega))
    obtain ⟨x, hx⟩ := h m (by omega)
    refine ⟨xs ++ [x], by simp [h1], fun i y hy => ?_⟩
    by_cases hi : i < xs.length
    · rw [List.getElem?_append_left hi] at hy; exact h2 i y hy
    · have : i = m := by
        have := (List.getElem?_eq_some_iff.1 hy).1
        simp at this; omega
      subst this
      rw [List.getElem?_append_right (by omega), h1] at hy
      simp at hy; subst hy; exact hx
theorem open_sl {α : Type} {d : Kd α} {φ : α → Prop} {t e : TypeId} (ho : Opens enc P W e d φ) (ht : P.underlying t = some (.slice e)) (hz : P.cellsOf e = d.sz) {fuel : Nat} {cs : List Value} {y : DataW H × List MemPlace}
    (h : DataW.trod enc P W 0 (fun _ => true) true fuel t cs = some y) : ∃ (xs : List α) (A : Option Addr) (c : Nat), cs = [.slice A xs.length c] ∧ Sl d (base0 W) A c xs ∧ c ≤ maxLen ∧ (∀ x ∈ xs, φ x) ∧
      ((y.1 = .nil ∧ xs = []) ∨ ∃ elems spare, y.1 = .slice elems spare ∧ elems.length = xs.length) := by
  rcases open_slice ht h with ⟨h1, h2⟩ | ⟨a, len, cap, m, n, D, Pl, hcs, hb, hl, hm, hmm, hx, hi⟩
  · exact ⟨[], none, 0, h1, Sl.nil _ _ _ _, by simp [maxLen], (fun x hx => by cases hx), .inl ⟨by rw [h2], rfl⟩⟩
  · simp only [if_true] at hmm
    subst hmm
    obtain ⟨xs, h1, h2⟩ := choose_list (fun i x => φ x ∧ ∃ cs', W.cells? 0 (a.add (i * P.cellsOf e)) (P.cellsOf e) = some cs' ∧ d.K (base0 W) x cs') len (fun i hil => by
      obtain ⟨cs', hc, ht'⟩ := hi i (by omega)
      obtain ⟨x, hx1, hx2⟩ := ho _ _ _ ht'
      exact ⟨x, hx1, cs', hc, hx2⟩)
    refine ⟨xs, some a, m, by rw [h1]; exact hcs, ⟨by omega, fun i x hx => ?_⟩, hm, fun x hx => ?_, .inr ⟨_, _, by rw [hx], by simp [h1]⟩⟩
    · obtain ⟨_, cs', hc, hK⟩ := h2 i x hx
      refine ⟨cs', hK, fun S h hp => ⟨rfl, fun k v hk => ?_⟩⟩
      obtain ⟨_, hcl, hat⟩ := World.cells?_some hc
      have hkl : k < P.cellsOf e := by rw [← hcl]; exact (List.getElem?_eq_some_iff.1 hk).1
      have hcl2 := hat k hkl
      rw [hk] at hcl2
      rw [adr_add rfl]
      show hcell h (a.add (i * d.sz + k)) = some v
      rw [hz] at hcl2
      rw [addr_add_add] at hcl2
      have hlt := World.block_lt_of_cell? W _ hcl2
      rw [cell_eq] at hcl2
      unfold hcell at hcl2 ⊢
      rw [(hp _ hlt).2]
      exact hcl2
    · obtain ⟨i, hi, rfl⟩ := List.mem_iff_getElem.1 hx
      exact (h2 i _ (List.getElem?_eq_getElem hi)).1
def fldsOf (P : Program) (t : TypeId) : Option (List (Nat × TypeId × Nat)) :=
  match P.underlying t with
  | some (.struct fs) => some (fs.toList.map fun f => (f.offset, f.type, P.cellsOf f.type))
  | some (.array n e) => some ((List.range n).map fun i => (i * P.cellsOf e, e, P.cellsOf e))
  | _ => none
theorem open_flds {t : TypeId} (fl : List (Nat × TypeId × Nat)) (ht : fldsOf P t = some fl) {fuel : Nat} {cs : List Value} {y : DataW H × List MemPlace} (h : DataW.trod enc P W 0 (fun _ => true) true fuel t cs = some y) :
    cs.length = P.cellsOf t ∧ ∀ (i o : Nat) (ty : TypeId) (sz : Nat), fl[i]? = some (o, ty, sz) → ∃ n y', DataW.trod enc P W 0 (fun _ => true) true n ty ((cs.drop o).take sz) = some y' := by
  unfold fldsOf at ht
  split at ht
  · rename_i fs hu
    injection ht with ht
    obtain ⟨xs, n, _, _, hl, hlen, hf⟩ := DataW.trod_struct hu h
    refine ⟨hl, fun i o ty sz hi => ?_⟩
    rw [← ht, List.getElem?_map] at hi
    obtain ⟨f, hfi, he⟩ := Option.map_eq_some_iff.1 hi
    simp only [Prod.mk.injEq] at he
    obtain ⟨rfl, rfl, rfl⟩ := he
    have h1 : fs[i]? = some f := by simpa using hfi
    have h2 := hf i f h1
    have hi' : i < xs.length := by rw [hlen]; exact (Array.getElem?_eq_some_iff.1 h1).1
    rw [List.getElem?_eq_getElem hi'] at h2
    exact ⟨n, _, h2⟩
  · rename_i m e hu
    injection ht with ht
    obtain ⟨xs, n, _, _, hl, hlen, hf⟩ := DataW.trod_array hu h
    refine ⟨hl, fun i o ty sz hi => ?_⟩
    rw [← ht, List.getElem?_map] at hi
    obtain ⟨j, hji, he⟩ := Option.map_eq_some_iff.1 hi
    simp only [Prod.mk.injEq] at he
    obtain ⟨rfl, rfl, rfl⟩ := he
    have hjm : i < m := by
      have := (List.getElem?_eq_some_iff.1 hji).1
      simpa using this
    have hj : j = i := by
      rw [List.getElem?_range hjm] at hji
      injection hji with hji; exact hji.symm
    subst hj
    have h2 := hf j hjm
    rw [List.getElem?_eq_getElem (by omega)] at h2
    exact ⟨n, _, h2⟩
  · cases ht
theorem val_slice {P : Program} {W : World} {r : Reach} {b : Nat} {t et : TypeId} {v : Value} {A : Option Addr} {n c : Nat} (ht : P.underlying t = some (.slice et)) (hv : Value.okWide P W r b t v) (e : v.cells.toList = [.slice A n c]) : v = .slice A n c := by
  cases v <;> simp [Value.okWide, ht, Cell.okWide, Cell.ok, Value.cells] at hv e ⊢
  exact e
def isStruct (P : Program) (t : TypeId) : Bool := match P.underlying t with | some (.struct _) => true | some (.array _ _) => true | _ => false
theorem val_struct {P : Program} {W : World} {r : Reach} {b : Nat} {t : TypeId} {v : Value} (ht : isStruct P t = true) (hv : Value.okWide P W r b t v) : ∃ cs, v = .agg cs := by
  unfold isStruct at ht
  split at ht
  · rename_i fs hu
    unfold Value.okWide at hv
    rw [hu] at hv
    obtain ⟨cs, h, _⟩ := hv
    exact ⟨cs, h⟩
  · rename_i m e hu
    unfold Value.okWide at hv
    rw [hu] at hv
    obtain ⟨cs, h, _⟩ := hv
    exact ⟨cs, h⟩
  · cases ht
theorem agg_list {cs : Array Value} {l : List Value} (e : (Value.agg cs).cells.toList = l) : cs = l.toArray := by
  apply Array.ext'
  simpa [Value.cells] using e
theorem part {cs u r : List Value} (o sz : Nat) (h1 : (cs.drop o).take sz = u) (h2 : cs.drop (o + sz) = r) : cs.drop o = u ++ r := by
  rw [← h1, ← h2, ← List.drop_drop]; exact (List.take_append_drop _ _).symm
theorem part_end {cs : List Value} {n : Nat} (h : cs.length = n) : cs.drop n = [] := List.drop_of_length_le (by omega)
end
end Go.V
