/- Kinds of data; what single operations do. -/
import Derived.Test.YtafghfchflngiaaVb
import Derived.Deep.AppendSrc
namespace Go.V
open Go
structure Kd (α : Type) where
  sz : Nat
  pos : 0 < sz
  K : Asn → α → List Value → Prop
  len : ∀ {B x cs}, K B x cs → cs.length = sz
  one : ∀ {B x cs}, K B x cs → ∀ u ∈ cs, u.oneCell' = true
  up : ∀ {B B' x cs}, Ext B B' → K B x cs → K B' x cs
def flat {α : Type} (enc : α → List Value) (sz : Nat) (pos : 0 < sz) (len : ∀ x, (enc x).length = sz) (one : ∀ x, ∀ u ∈ enc x, u.oneCell' = true) : Kd α where
  sz := sz
  pos := pos
  K := fun _ x cs => cs = enc x
  len := fun h => by rw [h]; exact len _
  one := fun h => by rw [h]; exact one _
  up := fun _ h => h
def encI (k : IntKind) (x : Int) : List Value := [.int k x]
def encB (x : Bool) : List Value := [.bool x]
def encS (x : ByteArray) : List Value := [.string x]
def kI (k : IntKind) : Kd Int := flat (encI k) 1 (by decide) (fun _ => rfl) (fun _ u hu => by simp [encI] at hu; subst hu; rfl)
def kB : Kd Bool := flat encB 1 (by decide) (fun _ => rfl) (fun _ u hu => by simp [encB] at hu; subst hu; rfl)
def kS : Kd ByteArray := flat encS 1 (by decide) (fun _ => rfl) (fun _ u hu => by simp [encS] at hu; subst hu; rfl)
def adr (A : Option Addr) (k : Nat) : Addr := match A with | some a => a.add k | none => default
theorem addr_add_add (a : Addr) (m n : Nat) : (a.add m).add n = a.add (m + n) := by
  cases a with
  | mk b o s =>
    by_cases hn : n = 0
    · subst hn; simp [Addr.add]
    · by_cases hm : m = 0
      · subst hm; simp [Addr.add, hn]
      · simp [Addr.add, hm, hn, Nat.add_assoc]
theorem adr_blk (g m : Nat) : adr (some ⟨g, 0, none⟩) m = ⟨g, m, none⟩ := by
  show (⟨g, 0, none⟩ : Addr).add m = _
  unfold Addr.add
  by_cases h0 : m = 0
  · simp [h0]
  · simp [h0]
theorem adr_add {A : Option Addr} (h : A.isSome = true) (m n : Nat) : (adr A m).add n = adr A (m + n) := by
  cases A with
  | none => cases h
  | some a => exact addr_add_add a m n
def Cs (B : Asn) (A : Option Addr) (off : Nat) (cs : List Value) : Prop := Has B (fun h => A.isSome = true ∧ ∀ k v, cs[k]? = some v → hcell h ((adr A off).add k) = some v)
theorem Cs.up {B B' : Asn} {A : Option Addr} {off : Nat} {cs : List Value} (x : Ext B B') (h : Cs B A off cs) : Cs B' A off cs := x.has h
def Sl {α : Type} (d : Kd α) (B : Asn) (A : Option Addr) (c : Nat) (xs : List α) : Prop :=
  xs.length ≤ c ∧ ∀ (i : Nat) (x : α), xs[i]? = some x → ∃ cs, d.K B x cs ∧ Cs B A (i * d.sz) cs
section
variable {α : Type} {d : Kd α} {B B' G : Asn} {A : Option Addr} {c : Nat} {xs : List α} {L : List Atom}
theorem Sl.up (x : Ext B B') (h : Sl d B A c xs) : Sl d B' A c xs :=
  ⟨h.1, fun i e he => by
    obtain ⟨cs, hK, hc⟩ := h.2 i e he
    exact ⟨cs, d.up x hK, hc.up x⟩⟩
theorem Sl.nil (d : Kd α) (B : Asn) (A : Option Addr) (c : Nat) : Sl d B A c [] := ⟨Nat.zero_le _, fun i x h => by simp at h⟩
theorem Sl.some (h : Sl d B A c xs) {i : Nat} {x : α} (hx : xs[i]? = .some x) : ∀ w, St B G L w → A.isSome = true := fun w hs => by
  obtain ⟨cs, _, hc⟩ := h.2 i x hx
  exact (hs.base hc).1
theorem Sl.at (h : Sl d B A c xs) {i : Nat} {x : α} (hx : xs[i]? = .some x) : ∃ cs, d.K B x cs ∧ Cs B A (i * d.sz) cs := h.2 i x hx
def idx (xs : List α) (i : Int) : Option α := if 0 ≤ i then xs[i.toNat]? else none
theorem idx_some {i : Int} {x : α} (h : idx xs i = .some x) : 0 ≤ i ∧ i < xs.length ∧ xs[i.toNat]? = .some x := by
  unfold idx at h
  split at h
  · rename_i h0
    have := (List.getElem?_eq_some_iff.1 h).1
    exact ⟨h0, by omega, h⟩
  · cases h
def cut (xs : List α) (l h : Int) : Option (List α) := if 0 ≤ l ∧ l ≤ h ∧ h ≤ xs.length then .some ((xs.take h.toNat).drop l.toNat) else none
theorem cut_some {l h : Int} {ys : List α} (e : cut xs l h = .some ys) : 0 ≤ l ∧ l ≤ h ∧ h ≤ xs.length ∧ ys = (xs.take h.toNat).drop l.toNat ∧ ys.length = h.toNat - l.toNat := by
  unfold cut at e
  split at e
  · rename_i hh
    injection e with e
    refine ⟨hh.1, hh.2.1, hh.2.2, e.symm, ?_⟩
    rw [← e]
    simp
    omega
  · cases e
def cutA (A : Option Addr) (l m sz : Nat) : Option Addr := if m = l then A else A.map (·.add (l * sz))
theorem cutA_isSome (A : Option Addr) (l m sz : Nat) : (cutA A l m sz).isSome = A.isSome := by
  unfold cutA; split
  · rfl
  · cases A <;> rfl
theorem Sl.cut (hs : Sl d B A c xs) {l h : Nat} (m : Nat) (_ : m ≤ c) (hlh : l ≤ h) (hx : h ≤ xs.length) (hhm : h ≤ m) : Sl d B (cutA A l m d.sz) (m - l) ((xs.take h).drop l) := by
  refine ⟨by simp; omega, fun i x hi => ?_⟩
  rw [List.getElem?_drop, List.getElem?_take] at hi
  split at hi
  · rename_i hlt
    obtain ⟨cs, hK, hc⟩ := hs.2 (l + i) x hi
    refine ⟨cs, hK, fun S hp hP => ?_⟩
    obtain ⟨h1, hc⟩ := hc S hp hP
    refine ⟨by rw [cutA_isSome]; exact h1, fun k v hk => ?_⟩
    have e : adr (cutA A l m d.sz) (i * d.sz) = adr A ((l + i) * d.sz) := by
      unfold cutA
      split
      · omega
      · cases A with
        | none => cases h1
        | some a => simp only [Option.map_some, adr, addr_add_add, Nat.add_mul]
    rw [e]
    exact hc k v hk
  · cases hi
end
section
variable {α : Type} {d : Kd α} {B B' G : Asn} {A : Option Addr} {n c sz : Nat} {t : TypeId} {cs : List Value} {L : List Atom} {w : World} {j : Nat}
theorem St.own_cell (hs : St B G L w) (hj : L[j]? = some (.own A n c cs sz t)) {i : Nat} {v : Value} (hv : cs[i]? = some v) : A.isSome = true ∧ w.cell? (adr A i) = some v := by
  obtain ⟨S, h1, h2, h3, h4⟩ := hs.at hj
  rcases h4 with ⟨rfl, rfl, rfl⟩ | ⟨g, sp, rfl, _, _, hg⟩
  · simp at h1
    subst h1
    simp at hv
  · refine ⟨rfl, ?_⟩
    have e : (adr (some ⟨g, 0, none⟩) i) = ⟨g, i, none⟩ := by
      unfold adr Addr.add
      by_cases hi : i = 0
      · subst hi; rfl
      · simp [hi]
    rw [e]
    simp only [World.cell?, hg, Option.isSome_none, Bool.false_eq_true, if_false]
    rw [List.getElem?_toArray, List.getElem?_append_left (List.getElem?_eq_some_iff.1 hv).1]
    exact hv
theorem St.own_len (hs : St B G L w) (hj : L[j]? = some (.own A n c cs sz t)) : cs.length = n * sz ∧ n ≤ c := by
  obtain ⟨S, h1, h2, _, _⟩ := hs.at hj
  exact ⟨h1, h2⟩
def rowOf (enc : α → List Value) (xs : List α) : List Value := xs.flatMap enc
end
def opAt (F : Func) (n i : Nat) (E : Env) : Option (Nat × Op) :=
  if dstsOk F.ntmps (rg F n) then
    match (rg F n)[i]? with
    | some o => match gOk E (rg F n) o, o.dst with
      | some true, some d => some (d, o.op)
      | _, _ => none
    | none => none
  else none
def opAt0 (F : Func) (n i : Nat) (E : Env) : Option Op :=
  if dstsOk F.ntmps (rg F n) then
    match (rg F n)[i]? with
    | some o => match gOk E (rg F n) o, o.dst with
      | some true, none => some o.op
      | _, _ => none
    | none => none
  else none
def Val (P : Program) (F : Func) (op : Op) (E : Env) (B G : Asn) (L : List Atom) (v : Value) : Prop :=
  ∀ (a : Act) (w : World) (o : Oper), o.op = op → EnvOk E F.ntmps a → St B G L w → (execOp a.eval o).run P w = .ok (.value v) w
section
variable {P : Program} {F : Func} {R : Ending → World → Prop} {K : List Kont} {n i d : Nat} {E E' : Env} {B B' G : Asn} {L L' : List Atom} {op : Op} {v : Value}
theorem opAt_spec (h : opAt F n i E = some (d, op)) : ∃ o, (rg F n)[i]? = some o ∧ o.op = op ∧ o.dst = some d ∧ d < F.ntmps ∧ ∀ a, EnvOk E F.ntmps a → Region.wanted o (yielded (rg F n) a.tmps) = true := by
  unfold opAt at h
  split at h
  · rename_i hd
    split at h
    · rename_i o ho
      split at h
      · rename_i d' hg hdst
        simp only [Option.some.injEq, Prod.mk.injEq] at h
        obtain ⟨rfl, rfl⟩ := h
        refine ⟨o, ho, rfl, hdst, dstsOk_spec hd _ ?_, fun a ha => gOk_wanted ha (dstsOk_spec hd) hg⟩
        rw [Array.any_eq_true']
        exact ⟨o, Array.mem_of_getElem? ho, by simp [hdst]⟩
      · cases h
    · cases h
  · cases h
theorem opAt0_spec (h : opAt0 F n i E = some op) : ∃ o, (rg F n)[i]? = some o ∧ o.op = op ∧ o.dst = none ∧ ∀ a, EnvOk E F.ntmps a → Region.wanted o (yielded (rg F n) a.tmps) = true := by
  unfold opAt0 at h
  split at h
  · rename_i hd
    split at h
    · rename_i o ho
      split at h
      · rename_i hg hdst
        simp only [Option.some.injEq] at h
        exact ⟨o, ho, h, hdst, fun a ha => gOk_wanted ha (dstsOk_spec hd) hg⟩
      · cases h
    · cases h
  · cases h
theorem o_val (d : Nat) (op : Op) (v : Value) (h : opAt F n i E = some (d, op)) (hv : Val P F op E B G L v) (next : Wo P F R K n (i + 1) ((d, v) :: E) B G L) : Wo P F R K n i E B G L := by
  obtain ⟨o, ho, hop, hdst, hdn, hw⟩ := opAt_spec h
  intro a w ha hs
  rw [drop_cons ho]
  unfold wpList
  rw [if_pos (hw a ha)]
  refine .inl (upon_wp (hv a w o hop ha hs) ?_)
  rw [hdst]
  exact next _ w (ha.put hdn) hs
theorem q_val (d : Nat) (op : Op) (v : Value) (h : opAt F n i E = some (d, op)) (hv : Val P F op E B G L v) (next : Wq P F R K n (i + 1) ((d, v) :: E) B G L) : Wq P F R K n i E B G L := by
  obtain ⟨o, ho, hop, hdst, hdn, hw⟩ := opAt_spec h
  intro a ha
  rw [drop_cons ho]
  unfold wpQuiet
  rw [if_pos (hw a ha)]
  refine ⟨v, fun w hs => ?_, ?_⟩
  · unfold Oper.quietAt
    rw [hv a w o hop ha hs]
    exact ⟨rfl, rfl⟩
  · rw [hdst]
    exact next _ (ha.put hdn)
def Eff (P : Program) (F : Func) (op : Op) (E : Env) (B G : Asn) (L : List Atom) {X : Type} (v : X → Value) (L' : X → List Atom) (Φ : X → Prop) : Prop :=
  ∀ (a : Act) (w : World) (o : Oper), o.op = op → EnvOk E F.ntmps a → St B G L w → ∃ x w', (execOp a.eval o).run P w = .ok (.value (v x)) w' ∧ St B G (L' x) w' ∧ Φ x
variable {T : Act → World → Prop}
theorem s_eff (d : Nat) (op : Op) {X : Type} {v : X → Value} {L' : X → List Atom} {Φ : X → Prop} (h : opAt F n i E = some (d, op)) (hv : Eff P F op E B G L v L' Φ)
    (next : ∀ x, Φ x → Tg F T ((d, v x) :: E) B G (L' x)) : Stp P F R K n i T E B G L := by
  obtain ⟨o, ho, hop, hdst, hdn, hw⟩ := opAt_spec h
  intro a w ha hs
  unfold wpOp
  simp only [ho]
  rw [if_pos (hw a ha)]
  obtain ⟨x, w', hrun, hs', hx⟩ := hv a w o hop ha hs
  left
  unfold Oper.wp
  rw [hrun]
  show T (a.put o.dst (v x)) w'
  rw [hdst]
  exact next x hx _ w' (ha.put hdn) hs'
def Eff0 (P : Program) (F : Func) (op : Op) (E : Env) (B G : Asn) (L L' : List Atom) : Prop :=
  ∀ (a : Act) (w : World) (o : Oper), o.op = op → EnvOk E F.ntmps a → St B G L w → ∃ w', (execOp a.eval o).run P w = .ok .skip w' ∧ St B G L' w'
theorem s_eff0 (op : Op) (h : opAt0 F n i E = some op) (hv : Eff0 P F op E B G L L') (next : Tg F T E B G L') : Stp P F R K n i T E B G L := by
  obtain ⟨o, ho, hop, hdst, hw⟩ := opAt0_spec h
  intro a w ha hs
  unfold wpOp
  simp only [ho]
  rw [if_pos (hw a ha)]
  obtain ⟨w', hrun, hs'⟩ := hv a w o hop ha hs
  left
  unfold Oper.wp
  rw [hrun]
  show T (a.put o.dst undef) w'
  rw [hdst]
  exact next _ w' ha hs'
def At (B G : Asn) (L : List Atom) (a : Addr) (l : List Value) : Prop := ∀ w, St B G L w → ∀ k v, l[k]? = some v → w.cell? (a.add k) = some v
theorem at_blk {j g off : Nat} {cs : List Value} {t : TypeId} {l : List Value} (hj : L[j]? = some (.blk g cs t)) (hl : (cs.drop off).take l.length = l) : At B G L ⟨g, off, none⟩ l := by
  intro w hs k v hk
  have hg := hs.blk hj
  have e : (⟨g, off, none⟩ : Addr).add k = ⟨g, off + k, none⟩ := by
    unfold Addr.add; by_cases h0 : k = 0 <;> simp [h0]
  rw [e]
  simp only [World.cell?, hg, Option.isSome_none, Bool.false_eq_true, if_false, List.getElem?_toArray]
  rw [← hl, List.getElem?_take] at hk
  split at hk
  · rw [List.getElem?_drop] at hk; exact hk
  · cases hk
theorem at_own {j : Nat} {A : Option Addr} {m c sz t off : Nat} {cs l : List Value} (hj : L[j]? = some (.own A m c cs sz t)) (hl : (cs.drop off).take l.length = l) : At B G L (adr A off) l := by
  intro w hs k v hk
  have hk' : cs[off + k]? = some v := by
    rw [← hl, List.getElem?_take] at hk
    split at hk
    · rw [List.getElem?_drop] at hk; exact hk
    · cases hk
  obtain ⟨hA, hc⟩ := hs.own_cell hj hk'
  rw [adr_add hA]
  exact hc
theorem at_sl {A : Option Addr} {off : Nat} {cs : List Value} (h : Cs B A off cs) : At B G L (adr A off) cs :=
  fun _ hs k v hk => (hs.base h).2 k v hk
theorem At.sub {a : Addr} {l l' : List Value} (off : Nat) (h : At B G L a l) (e : (l.drop off).take l'.length = l') : At B G L (a.add off) l' := by
  intro w hs k v hk
  rw [addr_add_add]
  refine h w hs (off + k) v ?_
  rw [← e, List.getElem?_take] at hk
  split at hk
  · rw [List.getElem?_drop] at hk; exact hk
  · cases hk
theorem Lds.one {a : Addr} {v : Value} {l : List (Addr × Value)} (h : At B G L a [v]) (hl : Lds B G L l) : Lds B G L ((a, v) :: l) :=
  Lds.cons (fun w hs => by have := h w hs 0 v rfl; simpa [Addr.add] using this) hl
def aggOf (P : Program) (t : TypeId) : Option Nat :=
  match P.underlying t, P.info? t with
  | some (.struct _), some i | some (.array _ _), some i => some i.size
  | _, _ => none
theorem v_load {t : TypeId} {x : Operand} {a : Addr} {l : List Value} (hx : ev E x = some (.pointer (some a))) (ht : aggOf P t = some l.length) (h : At B G L a l) : Val P F (.load t x) E B G L (.agg l.toArray) := by
  intro ac w o hop ha hs
  have hl := run_loadCells_list (P := P) w a l (h w hs)
  unfold aggOf at ht
  simp only [execOp, hop, Instr.loadAt, ev_ok ha hx]
  split at ht
  · rename_i hu hi
    injection ht with ht
    rw [← ht] at hl
    simp [Instr.sureAddr, loadVar, isAgg, run_underlying hu, sizeOf, typeInfo, hi, hl]
  · rename_i hu hi
    injection ht with ht
    rw [← ht] at hl
    simp [Instr.sureAddr, loadVar, isAgg, run_underlying hu, sizeOf, typeInfo, hi, hl]
  · cases ht
def elemSz (P : Program) (t : TypeId) : Option Nat :=
  match P.underlying t with
  | some (.slice e) => (P.info? e).map (·.size)
  | _ => none
theorem v_index {t : TypeId} {x ix : Operand} {A : Option Addr} {m c sz : Nat} {k : IntKind} {j : Int} (hx : ev E x = some (.slice A m c)) (hj : ev E ix = some (.int k j)) (ht : elemSz P t = some sz)
    (h0 : 0 ≤ j) (h1 : j < m) (hA : ∀ w, St B G L w → A.isSome = true) : Val P F (.indexAddr t x ix) E B G L (.pointer (some (adr A (j.toNat * sz)))) := by
  intro ac w o hop ha hs
  unfold elemSz at ht
  split at ht
  · rename_i e hu
    obtain ⟨i, hi, rfl⟩ := Option.map_eq_some_iff.1 ht
    obtain ⟨a, rfl⟩ := Option.isSome_iff_exists.1 (hA w hs)
    simp [execOp, hop, ev_ok ha hx, ev_ok ha hj, Instr.indexAt, asIntOf, run_underlying hu, h0, h1, sizeOf, typeInfo, hi, adr]
  · cases ht
def arrSz (P : Program) (t : TypeId) : Option (Nat × Nat) :=
  match P.underlying t with
  | some (.array n e) => (P.info? e).map fun i => (n, i.size)
  | _ => none
theorem v_indexA {t : TypeId} {x ix : Operand} {a : Addr} {m sz : Nat} {k : IntKind} {j : Int} (hx : ev E x = some (.pointer (some a))) (hj : ev E ix = some (.int k j)) (ht : arrSz P t = some (m, sz))
    (h0 : 0 ≤ j) (h1 : j < m) : Val P F (.indexAddr t x ix) E B G L (.pointer (some (a.add (j.toNat * sz)))) := by
  intro ac w o hop ha hs
  unfold arrSz at ht
  split at ht
  · rename_i n e hu
    obtain ⟨i, hi, he⟩ := Option.map_eq_some_iff.1 ht
    simp only [Prod.mk.injEq] at he
    obtain ⟨rfl, rfl⟩ := he
    simp [execOp, hop, ev_ok ha hx, ev_ok ha hj, Instr.indexAt, Instr.sureAddr, asIntOf, run_underlying hu, h0, h1, sizeOf, typeInfo, hi]
  · cases ht
def bnd (E : Env) : Option Operand → Option (Option Int)
  | none => some none
  | some x => match ev E x with
    | some (.int _ i) => some (some i)
    | _ => none
theorem v_slice {t : TypeId} {x : Operand} {lo hi mx : Option Operand} {A : Option Addr} {m c sz : Nat} {l h k : Option Int} {n' c' : Nat} {l' h' k' : Nat} (hx : ev E x = some (.slice A m c)) (ht : elemSz P t = some sz)
    (hl : bnd E lo = some l) (hh : bnd E hi = some h) (hk : bnd E mx = some k) (hmx : mx.isSome = true → hi.isSome = true) (el : l.getD 0 = (l' : Int)) (eh : h.getD m = (h' : Int)) (ek : k.getD c = (k' : Int)) (h1 : l' ≤ h') (h2 : h' ≤ k') (h3 : k' ≤ c)
    (en : n' = h' - l') (ec : c' = k' - l') :
    Val P F (.slice t x lo hi mx) E B G L (.slice (cutA A l' k' sz) n' c') := by
  intro ac w o hop ha hs
  subst en ec
  unfold elemSz at ht
  split at ht
  · rename_i e hu
    obtain ⟨i, hi', rfl⟩ := Option.map_eq_some_iff.1 ht
    have bv : ∀ {y : Option Operand} {b : Option Int}, bnd E y = some b → (y.map ac.eval = none ∧ y = none ∧ b = none) ∨ ∃ kk j, y.map ac.eval = some (.int kk j) ∧ y.isSome = true ∧ b = some j := by
      intro y b hb
      cases y with
      | none => simp only [bnd, Option.some.injEq] at hb; exact .inl ⟨rfl, rfl, hb.symm⟩
      | some y =>
        simp only [bnd] at hb
        split at hb
        · rename_i kk j hv
          simp only [Option.some.injEq] at hb
          exact .inr ⟨kk, j, by simp [ev_ok ha hv], rfl, hb.symm⟩
        · cases hb
    have sb : ∀ (kk : IntKind) (j' y : Nat) (code : BoundsCode), j' ≤ y → (Instr.sliceBound (.int kk (j' : Int)) y code).run P w = .ok j' w := by
      intro kk j' y code e2
      simp [Instr.sliceBound, asIntOf, e2]
    simp only [execOp, hop, ev_ok ha hx, Instr.sliceAt]
    have h4 : h' ≤ c := by omega
    have key : (Instr.sliceBounds true m c (lo.map ac.eval) (hi.map ac.eval) (mx.map ac.eval)).run P w = .ok (l', h', k') w := by
      rcases bv hl with ⟨e1, e1', rfl⟩ | ⟨k1, j1, e1, e1', rfl⟩ <;> rcases bv hh with ⟨e2, e2', rfl⟩ | ⟨k2, j2, e2, e2', rfl⟩ <;> rcases bv hk with ⟨e3, e3', rfl⟩ | ⟨k3, j3, e3, e3', rfl⟩ <;>
        rw [e1, e2, e3] <;> simp only [Option.getD_some, Option.getD_none] at el eh ek <;>
        (first | subst el | (obtain rfl : l' = 0 := by omega)) <;> (first | subst eh | (obtain rfl : h' = m := by omega)) <;> (first | subst ek | (obtain rfl : k' = c := by omega))
      all_goals first
        | (exfalso; have := hmx e3'; rw [e2'] at this; cases this; done)
        | (unfold Instr.sliceBounds; simp [Result.andThen, sb, h1, h2, h3, h4])
    simp only [Sem.run_bind, run_underlying hu, Result.andThen]
    simp only [Instr.slice, Sem.run_bind, run_underlying hu, key, Result.andThen, sizeOf, typeInfo]
    simp [hi', cutA]
  · cases ht
end
end Go.V
