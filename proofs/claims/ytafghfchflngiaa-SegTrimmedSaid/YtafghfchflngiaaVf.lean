/- Operations that are no chunk's: equality of structs and arrays, division, bytes and strings. -/
import Derived.Test.YtafghfchflngiaaVe
import Derived.ChangeKeysEq
import Derived.Laws.BytesString
import Derived.Lib.BufferRead
namespace Go.V
open Go
section
variable {P : Program} {F : Func} {R : Ending → World → Prop} {K : List Kont} {n i d : Nat} {E E' : Env} {B B' G : Asn} {L L' : List Atom}
def partV (P : Program) (t : TypeId) (cs : Array Value) (off : Nat) : Option Value :=
  match P.underlying t with
  | some (.struct _) | some (.array _ _) => match P.info? t with
    | some i => some (.agg (cs.extract off (off + i.size)))
    | none => none
  | some _ => cs[off]?
  | none => none
theorem partV_run {t : TypeId} {cs : Array Value} {off : Nat} {v : Value} (h : partV P t cs off = some v) (w : World) : (part t cs off).run P w = .ok v w := by
  unfold partV at h
  split at h
  · rename_i hu
    split at h
    · rename_i i hi
      injection h with h
      simp [part, isAgg, run_underlying hu, sizeOf, typeInfo, hi, h]
    · cases h
  · rename_i hu
    split at h
    · rename_i i hi
      injection h with h
      simp [part, isAgg, run_underlying hu, sizeOf, typeInfo, hi, h]
    · cases h
  · rename_i dd h1 h2 hu
    have ha : isAgg t = isAgg t := rfl
    cases dd with
    | struct fs => exact absurd rfl (h1 fs)
    | array n e => exact absurd rfl (h2 n e)
    | _ => simp [part, isAgg, run_underlying hu, h]
  · cases h
def conj : List Bool → Bool
  | [] => true
  | [b] => b
  | b :: bs => b && conj bs
theorem conj_cons (b : Bool) (bs : List Bool) : conj (b :: bs) = (b && conj bs) := by
  cases bs with
  | nil => simp [conj]
  | cons c bs => rfl
def eqL (f : Nat → Option Bool) : List Nat → Option (List Bool)
  | [] => some []
  | i :: is => match f i, eqL f is with
    | some b, some bs => some (b :: bs)
    | _, _ => none
def eqF (f : Field → Option Bool) : List Field → Option (List Bool)
  | [] => some []
  | x :: xs => if x.name == "_" then eqF f xs else match f x, eqF f xs with
    | some b, some bs => some (b :: bs)
    | _, _ => none
def eqV (P : Program) : Nat → TypeId → Value → Value → Option Bool
  | 0, _, _, _ => none
  | d + 1, t, x, y => match P.underlying t, x, y with
    | some .bool, .bool a, .bool b => some (a == b)
    | some (.int _), .int k a, .int k' b => if k = k' then some (a == b) else none
    | some .string, .string a, .string b => some (a == b)
    | some (.struct fs), .agg xs, .agg ys => if P.stoodInHeld t then none else
      (eqF (fun f => match partV P f.type xs f.offset, partV P f.type ys f.offset with
        | some u, some v => eqV P d f.type u v
        | _, _ => none) fs.toList).map conj
    | some (.array n e), .agg xs, .agg ys => match P.info? e with
      | some i => (eqL (fun j => match partV P e xs (j * i.size), partV P e ys (j * i.size) with
        | some u, some v => eqV P d e u v
        | _, _ => none) (List.range n)).map conj
      | none => none
    | _, _, _ => none
theorem eqF_run (dd : Nat) {xs ys : Array Value} (ih : ∀ {t : TypeId} {x y : Value} {r : Bool}, eqV P dd t x y = some r → ∀ w, (Op.equalIn dd t x y).run P w = .ok r w) (w : World) : ∀ (fs : List Field) {bs : List Bool},
    eqF (fun f => match partV P f.type xs f.offset, partV P f.type ys f.offset with
        | some u, some v => eqV P dd f.type u v
        | _, _ => none) fs = some bs → (Op.eqFields dd xs ys fs).run P w = .ok (conj bs) w := by
  intro fs
  induction fs with
  | nil => intro bs h; simp only [eqF, Option.some.injEq] at h; subst h; simp [Op.eqFields, conj]
  | cons f fs ihf =>
    intro bs h
    simp only [eqF] at h
    by_cases hn : f.name = "_"
    · rw [if_pos (by simpa using hn)] at h
      rw [Op.eqFields, if_neg (by simpa using hn)]
      exact ihf h
    · rw [if_neg (by simpa using hn)] at h
      split at h
      · rename_i b bs' h1 h2
        injection h with h
        subst h
        split at h1
        · rename_i u v hu hv
          rw [Op.eqFields, if_pos hn]
          simp only [Sem.run_bind, partV_run hu, partV_run hv, Result.andThen_ok, ih h1 w]
          rw [conj_cons]
          cases b with
          | false => simp
          | true => simpa using ihf h2
        · cases h1
      · cases h
theorem eqL_run (dd : Nat) {e : TypeId} {sz : Nat} {xs ys : Array Value} (ih : ∀ {t : TypeId} {x y : Value} {r : Bool}, eqV P dd t x y = some r → ∀ w, (Op.equalIn dd t x y).run P w = .ok r w) (w : World) : ∀ (is : List Nat) {bs : List Bool},
    eqL (fun j => match partV P e xs (j * sz), partV P e ys (j * sz) with
        | some u, some v => eqV P dd e u v
        | _, _ => none) is = some bs → (Op.eqItems dd e sz xs ys is).run P w = .ok (conj bs) w := by
  intro is
  induction is with
  | nil => intro bs h; simp only [eqL, Option.some.injEq] at h; subst h; simp [Op.eqItems, conj]
  | cons j is ihf =>
    intro bs h
    simp only [eqL] at h
    split at h
    · rename_i b bs' h1 h2
      injection h with h
      subst h
      split at h1
      · rename_i u v hu hv
        rw [Op.eqItems]
        simp only [Sem.run_bind, partV_run hu, partV_run hv, Result.andThen_ok, ih h1 w]
        rw [conj_cons]
        cases b with
        | false => simp
        | true => simpa using ihf h2
      · cases h1
    · cases h
theorem eqV_run : ∀ (dd : Nat) {t : TypeId} {x y : Value} {r : Bool}, eqV P dd t x y = some r → ∀ w, (Op.equalIn dd t x y).run P w = .ok r w := by
  intro dd
  induction dd with
  | zero => intro t x y r h; simp [eqV] at h
  | succ dd ih =>
    intro t x y r h w
    simp only [eqV] at h
    split at h
    · rename_i hu; injection h with h; subst h; simp [Op.equalIn, run_underlying hu]
    · rename_i hu
      split at h
      · rename_i hk; injection h with h; subst h; subst hk; simp [Op.equalIn, run_underlying hu]
      · cases h
    · rename_i hu; injection h with h; subst h; simp [Op.equalIn, run_underlying hu]
    · rename_i fs xs ys hu
      split at h
      · cases h
      · rename_i hst
        obtain ⟨bs, hb, rfl⟩ := Option.map_eq_some_iff.1 h
        have hf : P.fieldsOf t = fs := by simp [Program.fieldsOf, hu]
        rw [run_equalIn_struct (P := P) w dd t xs ys (by rw [hf]; exact hu) (by simpa using hst), hf]
        exact eqF_run dd ih w _ hb
    · rename_i n e xs ys hu
      split at h
      · rename_i i hi
        obtain ⟨bs, hb, rfl⟩ := Option.map_eq_some_iff.1 h
        rw [run_equalIn_array (P := P) w dd xs ys hu hi]
        have hc : P.cellsOf e = i.size := by simp [Program.cellsOf, hi]
        rw [hc]
        exact eqL_run dd ih w _ hb
      · cases h
    · cases h
theorem v_eqS {t t' : TypeId} {x y : Operand} {xs ys : Array Value} {b : Bool} (hx : ev E x = some (.agg xs)) (hy : ev E y = some (.agg ys)) (hm : P.eqGuardType P.depth t = false) (h : eqV P 10000 t (.agg xs) (.agg ys) = some b) :
    Val P F (.binOp .eql t x y t') E B G L (.bool b) := by
  intro ac w o hop ha hs
  simp only [execOp, hop, ev_ok ha hx, ev_ok ha hy, Sem.run_bind]
  have h1 := run_eqGuard_agg (P := P) (w := w) .eql t x y xs ys hm
  have h2 := run_eql_struct (P := P) (w := w) t xs ys
  rw [eqV_run _ h] at h2
  simp [h1, h2, Result.andThen]
theorem v_neS {t t' : TypeId} {x y : Operand} {xs ys : Array Value} {b : Bool} (hx : ev E x = some (.agg xs)) (hy : ev E y = some (.agg ys)) (hm : P.eqGuardType P.depth t = false) (h : eqV P 10000 t (.agg xs) (.agg ys) = some b) :
    Val P F (.binOp .neq t x y t') E B G L (.bool (!b)) := by
  intro ac w o hop ha hs
  simp only [execOp, hop, ev_ok ha hx, ev_ok ha hy, Sem.run_bind]
  have h1 := run_eqGuard_agg (P := P) (w := w) .neq t x y xs ys hm
  have h2 := run_neq_struct (P := P) (w := w) t xs ys
  rw [eqV_run _ h] at h2
  simp [h1, h2, Result.andThen]
theorem v_quo {t t' : TypeId} {x y : Operand} {k : IntKind} {a b c : Int} (h : divq k a b = some c) (hx : ev E x = some (.int k a)) (hy : ev E y = some (.int k b)) : Val P F (.binOp .quo t x y t') E B G L (.int k c) := by
  obtain ⟨h0, rfl⟩ := divq_some h
  intro ac w o hop ha hs
  simp [execOp, hop, ev_ok ha hx, ev_ok ha hy, eqGuard, binOp, Op.intDiv, h0]
theorem v_rem {t t' : TypeId} {x y : Operand} {k : IntKind} {a b c : Int} (h : divr a b = some c) (hx : ev E x = some (.int k a)) (hy : ev E y = some (.int k b)) : Val P F (.binOp .rem t x y t') E B G L (.int k c) := by
  obtain ⟨h0, rfl⟩ := divr_some h
  intro ac w o hop ha hs
  simp [execOp, hop, ev_ok ha hx, ev_ok ha hy, eqGuard, binOp, Op.intDiv, h0]
theorem v_shl {t t' : TypeId} {x y : Operand} {k k' : IntKind} {a b c : Int} (h : shlq k a b = some c) (hx : ev E x = some (.int k a)) (hy : ev E y = some (.int k' b)) : Val P F (.binOp .shl t x y t') E B G L (.int k c) := by
  obtain ⟨h0, rfl⟩ := shlq_some h
  intro ac w o hop ha hs
  simp [execOp, hop, ev_ok ha hx, ev_ok ha hy, eqGuard, binOp, Op.shift, h0, bshl]
theorem v_shr {t t' : TypeId} {x y : Operand} {k k' : IntKind} {a b c : Int} (h : shrq k a b = some c) (hx : ev E x = some (.int k a)) (hy : ev E y = some (.int k' b)) : Val P F (.binOp .shr t x y t') E B G L (.int k c) := by
  obtain ⟨h0, rfl⟩ := shrq_some h
  intro ac w o hop ha hs
  simp [execOp, hop, ev_ok ha hx, ev_ok ha hy, eqGuard, binOp, Op.shift, h0, bshr]
def strOf (xs : List Int) : ByteArray := xs.foldl (fun r n => r.push (UInt8.ofNat n.toNat)) ByteArray.empty
theorem rowOf_bytes (xs : List Int) : rowOf (encI .u8) xs = xs.map (Value.int .u8) := by
  unfold rowOf encI
  induction xs with
  | nil => rfl
  | cons x xs ih => rw [List.flatMap_cons, ih]; rfl
def strTy (P : Program) (s t : TypeId) : Bool :=
  match P.underlying s, P.underlying t with
  | some (.slice e), some .string => match P.underlying e with
    | some (.int .u8) => true
    | _ => false
  | _, _ => false
theorem v_str_at {s t : TypeId} {x : Operand} {A : Option Addr} {m c : Nat} {xs : List Int} (ht : strTy P s t = true) (hx : ev E x = some (.slice A m c)) (hm : m = xs.length) (h : ∀ w, St B G L w → (A = none → xs = []) ∧ ∀ a, A = some a → ∀ k v, (rowOf (encI .u8) xs)[k]? = some v → w.cell? (a.add k) = some v) :
    Val P F (.convert s t x) E B G L (.string (strOf xs)) := by
  intro ac w o hop ha hs
  unfold strTy at ht
  split at ht
  · rename_i e hu hd
    split at ht
    · rename_i he
      simp only [execOp, hop, ev_ok ha hx]
      obtain ⟨h1, h2⟩ := h w hs
      subst hm
      cases A with
      | none =>
        have h0 := h1 rfl
        subst h0
        have := Lib.run_convert_nil_bytes (P := P) w s t e c hu he hd
        have e2 : strOf [] = ⟨#[]⟩ := rfl
        simp [this, e2]
      | some a =>
        have hl := run_loadCells_list (P := P) w a (rowOf (encI .u8) xs) (h2 a rfl)
        rw [rowOf_bytes] at hl
        have h3 := run_bytesToString (P := P) w a xs.length c xs (by simpa using hl)
        have h4 := run_convert_bytes_string (P := P) w s t e (some a) xs.length c hu he hd
        simp [h4, h3, strOf]
    · cases ht
  · cases ht
theorem sl_cells {α : Type} {enc : α → List Value} {sz : Nat} {pos : 0 < sz} {len : ∀ x, (enc x).length = sz} {one : ∀ x, ∀ u ∈ enc x, u.oneCell' = true} {A : Option Addr} {c : Nat} {ys : List α} (hs : Sl (flat enc sz pos len one) B A c ys) : ∀ w, St B G L w → (A = none → ys = []) ∧ ∀ a, A = some a → ∀ k v, (rowOf enc ys)[k]? = some v → w.cell? (a.add k) = some v := by
  intro w hw
  refine ⟨fun h0 => ?_, fun a h0 k v hv => ?_⟩
  · subst h0
    cases ys with
    | nil => rfl
    | cons y ys =>
      have := hs.some (G := G) (L := L) (i := 0) (x := y) rfl w hw
      cases this
  · subst h0
    obtain ⟨y, h1, h2⟩ := row_get len pos hv
    obtain ⟨cs, hK, hc⟩ := hs.2 _ _ h1
    have hcs : cs = enc y := hK
    subst hcs
    have := (hw.base hc).2 _ _ h2
    rw [adr_add rfl] at this
    have e2 : k / sz * (flat enc sz pos len one).sz + k % sz = k := by
      show k / sz * sz + k % sz = k
      rw [Nat.mul_comm]; exact Nat.div_add_mod k sz
    rw [e2] at this
    exact this
theorem v_strI {s t : TypeId} {x : Operand} {A : Option Addr} {c : Nat} {xs : List Int} (hs : Sl (kI .u8) B A c xs) (ht : strTy P s t = true) (hx : ev E x = some (.slice A xs.length c)) : Val P F (.convert s t x) E B G L (.string (strOf xs)) :=
  v_str_at ht hx rfl (sl_cells hs)
theorem v_strO {s t : TypeId} {x : Operand} {A : Option Addr} {m c : Nat} {xs : List Int} {j sz ty : Nat} (hj : L[j]? = some (.own A m c (rowOf (encI .u8) xs) sz ty)) (hm : m = xs.length) (ht : strTy P s t = true) (hx : ev E x = some (.slice A m c)) : Val P F (.convert s t x) E B G L (.string (strOf xs)) :=
  v_str_at ht hx hm (fun w hw => by
    obtain ⟨S, h1, h2, h3, h4⟩ := hw.at hj
    rcases h4 with ⟨rfl, rfl, rfl⟩ | ⟨g, sp, rfl, _, _, hg⟩
    · exact ⟨fun _ => List.length_eq_zero_iff.1 hm.symm, fun a h => by cases h⟩
    · exact ⟨fun h => (by cases h), fun a h k v hv => (by injection h with h; subst h; exact (hw.own_cell hj hv).2)⟩)
def tmpsOf (E : Env) (n : Nat) : Array Value := ((List.range n).map fun t => (E.lookup t).getD undef).toArray
def resIn (E : Env) : ResultVar → Bool
  | .tmp t => (E.lookup t).isSome
  | .cell a _ => (E.lookup a).isSome
def resL (P : Program) (F : Func) (E : Env) (l : List (Addr × Value)) : Option (Value × List Addr) :=
  if F.results.toList.all (resIn E) then
    match symOf P (results F (tmpsOf E F.ntmps) >>= fun v => pure (.value v)) l with
    | some (v, us, []) => some (v, us)
    | _ => none
  else none
theorem mapM_congr_list {α β : Type} {f g : α → Sem β} : ∀ (l : List α), (∀ x ∈ l, f x = g x) → l.mapM f = l.mapM g
  | [], _ => rfl
  | x :: l, h => by
    rw [List.mapM_cons, List.mapM_cons, h x (by simp), mapM_congr_list l (fun y hy => h y (by simp [hy]))]
theorem results_congr {a : Act} (ha : EnvOk E F.ntmps a) (h : F.results.toList.all (resIn E) = true) : results F a.tmps = results F (tmpsOf E F.ntmps) := by
  have key : ∀ t v, E.lookup t = some v → a.tmps.getD t undef = (tmpsOf E F.ntmps).getD t undef := by
    intro t v ht
    rw [ha.2.2 t v ht]
    by_cases hlt : t < F.ntmps
    · have : (tmpsOf E F.ntmps)[t]? = some v := by
        simp [tmpsOf, hlt, ht]
      rw [Array.getD_eq_getD_getElem?, this]; rfl
    · have h1 := ha.2.2 t v ht
      have h2 : a.tmps.getD t undef = undef := by
        rw [Array.getD_eq_getD_getElem?, Array.getElem?_eq_none (by rw [ha.1]; omega)]; rfl
      rw [h2] at h1
      rw [← h1, Array.getD_eq_getD_getElem?, Array.getElem?_eq_none (by simp [tmpsOf]; omega)]; rfl
  unfold results
  have e : ∀ (f g : ResultVar → Sem Value), (∀ x ∈ F.results.toList, f x = g x) → F.results.mapM f = F.results.mapM g := by
    intro f g hfg
    rw [Array.mapM_eq_mapM_toList, Array.mapM_eq_mapM_toList, mapM_congr_list _ hfg]
  congr 1
  apply e
  intro x hx
  simp only [List.all_eq_true] at h
  have hxi := h x hx
  cases x with
  | tmp t =>
    obtain ⟨v, hv⟩ := Option.isSome_iff_exists.1 hxi
    simp only [key t v hv]
  | cell c t =>
    obtain ⟨v, hv⟩ := Option.isSome_iff_exists.1 hxi
    simp only [key c v hv]
theorem e_retL {X : Type} {v : X → Value} {B' : X → Asn} {L' : X → List Atom} {Φ : X → Prop} (x : X) (u : Value) (js : List Nat) (l : List (Addr × Value)) (hl : Lds B G L l) (h : resL P F E l = some (u, l.map Prod.fst)) (hu : u = v x) (hb : B = B' x) (hj : okPick js L.length = true) (hp : pick js L = L' x) (hx : Φ x) : We P F (Post v B' G L' Φ) K .ret E B G L := by
  intro a w ha hw
  unfold resL at h
  split at h
  · rename_i hin
    split at h
    · rename_i v' us hs
      simp only [Option.some.injEq, Prod.mk.injEq] at h
      obtain ⟨rfl, hus⟩ := h
      obtain ⟨u', e1, e2, e3⟩ := symOf_run P _ _ hs
      rw [List.append_nil] at e1
      subst e1
      refine kp_ret K ⟨ha.2.1, v', ?_, ⟨x, hx, by rw [hu], by rw [← hb, ← hp]; exact hw.pick js hj⟩⟩
      rw [results_congr ha hin]
      have h4 := e3 hus w (fun p hp => hl w hw p (by simpa using hp))
      simp only [Sem.run_bind] at h4
      cases hr : (results F (tmpsOf E F.ntmps)).run P w with
      | ok v2 w2 =>
        rw [hr] at h4
        simp [Result.andThen] at h4
        obtain ⟨rfl, rfl⟩ := h4
        rfl
      | halt x2 w2 => rw [hr] at h4; simp [Result.andThen] at h4
    · cases h
  · cases h
theorem e_endL {X : Type} {v : X → Value} {B' : X → Asn} {L' : X → List Atom} {Φ : X → Prop} (x : X) (u : Value) (js : List Nat) (l : List (Addr × Value)) (hl : Lds B G L l) (h : resL P F E l = some (u, l.map Prod.fst)) (hu : u = v x) (hb : B = B' x) (hj : okPick js L.length = true) (hp : pick js L = L' x) (hx : Φ x) : We P F (Post v B' G L' Φ) [] .normal E B G L := by
  intro a w ha hw
  unfold resL at h
  split at h
  · rename_i hin
    split at h
    · rename_i v' us hs
      simp only [Option.some.injEq, Prod.mk.injEq] at h
      obtain ⟨rfl, hus⟩ := h
      obtain ⟨u', e1, e2, e3⟩ := symOf_run P _ _ hs
      rw [List.append_nil] at e1
      subst e1
      refine ⟨ha.2.1, v', ?_, ⟨x, hx, by rw [hu], by rw [← hb, ← hp]; exact hw.pick js hj⟩⟩
      rw [results_congr ha hin]
      have h4 := e3 hus w (fun p hp => hl w hw p (by simpa using hp))
      simp only [Sem.run_bind] at h4
      cases hr : (results F (tmpsOf E F.ntmps)).run P w with
      | ok v2 w2 =>
        rw [hr] at h4
        simp [Result.andThen] at h4
        obtain ⟨rfl, rfl⟩ := h4
        rfl
      | halt x2 w2 => rw [hr] at h4; simp [Result.andThen] at h4
    · cases h
  · cases h
theorem row_parts {α : Type} {enc : α → List Value} {sz : Nat} (hlen : ∀ x, (enc x).length = sz) {xs : List α} {q : Nat} {x0 : α} (h : xs[q]? = some x0) (x' : α) :
    rowOf enc xs = rowOf enc (xs.take q) ++ (enc x0 ++ rowOf enc (xs.drop (q + 1))) ∧ rowOf enc (xs.set q x') = rowOf enc (xs.take q) ++ (enc x' ++ rowOf enc (xs.drop (q + 1))) ∧ (rowOf enc (xs.take q)).length = q * sz := by
  have hl := List.getElem?_eq_some_iff.1 h
  obtain ⟨hq, he⟩ := hl
  have e1 : xs = xs.take q ++ (x0 :: xs.drop (q + 1)) := by
    rw [← he, ← List.drop_eq_getElem_cons hq, List.take_append_drop]
  refine ⟨?_, ?_, ?_⟩
  · conv => lhs; rw [e1]
    rw [row_app]
    unfold rowOf
    rw [List.flatMap_cons]
  · rw [List.set_eq_take_append_cons_drop, if_pos hq, row_app]
    unfold rowOf
    rw [List.flatMap_cons]
  · rw [row_len hlen, List.length_take, Nat.min_eq_left (Nat.le_of_lt hq)]
theorem row_setF {α : Type} {enc : α → List Value} {sz : Nat} (hlen : ∀ x, (enc x).length = sz) {xs : List α} {q o : Nat} {x0 x' : α} {l : List Value} (h : xs[q]? = some x0) (ho : o + l.length ≤ sz) (e : enc x' = (enc x0).take o ++ l ++ (enc x0).drop (o + l.length)) :
    (rowOf enc xs).take (q * sz + o) ++ l ++ (rowOf enc xs).drop (q * sz + o + l.length) = rowOf enc (xs.set q x') ∧ q * sz + o + l.length ≤ (rowOf enc xs).length := by
  obtain ⟨h1, h2, h3⟩ := row_parts hlen h x'
  have h4 := hlen x0
  refine ⟨?_, ?_⟩
  · rw [h1, h2, e]
    rw [← h3, List.take_append, List.take_of_length_le (by omega), Nat.add_sub_cancel_left, List.take_append_of_le_length (by omega)]
    rw [Nat.add_assoc, List.drop_append, List.drop_of_length_le (by omega), List.nil_append, Nat.add_sub_cancel_left, List.drop_append_of_le_length (by omega)]
    simp only [List.append_assoc]
  · rw [h1]
    simp only [List.length_append, h3]
    omega
theorem s_setF {α : Type} {T : Act → World → Prop} {enc : α → List Value} {xs : List α} {A : Option Addr} {m c sz q o : Nat} {t : TypeId} {v : Value} (ty : TypeId) (p y : Operand) (j : Nat) {l : List Value} {x' x0 : α} (h : opAt0 F n i E = some (.store ty p y)) (hx : ev E p = some (.pointer (some ((adr A (q * sz)).add o)))) (hy : ev E y = some v)
    (hl : v.cells.toList = l) (ht : (P.info? ty).map (·.size) = some l.length) (hj : L[j]? = some (.own A m c (rowOf enc xs) sz t)) (hlen : ∀ x, (enc x).length = sz) (hg : xs[q]? = some x0) (ho : o + l.length ≤ sz) (e : enc x' = (enc x0).take o ++ l ++ (enc x0).drop (o + l.length)) (h1 : l.all (·.oneCell') = true) (h0 : 0 < l.length)
    (next : Tg F T E B G (L.set j (.own A m c (rowOf enc (xs.set q x')) sz t))) : Stp P F R K n i T E B G L := by
  obtain ⟨k1, k2⟩ := row_setF hlen hg ho e
  intro a w ha hs
  have hA : A.isSome = true := by
    obtain ⟨S, _, _, _, h4⟩ := hs.at hj
    rcases h4 with ⟨_, h5, _⟩ | ⟨g, sp, rfl, _⟩
    · have := hs.own_len hj
      rw [row_len hlen] at this
      have hq := (List.getElem?_eq_some_iff.1 hg).1
      subst h5
      rw [Nat.zero_mul] at this
      have hsz : 0 < sz := by omega
      have : xs.length = 0 := by
        rcases Nat.mul_eq_zero.1 this.1 with h | h
        · exact h
        · omega
      omega
    · rfl
  rw [adr_add hA] at hx
  refine s_eff0 _ h (e_storeE hx hy hl ht hj k2 h0 (by simpa using h1)) ?_ a w ha hs
  rw [k1]
  exact next
end
end Go.V
