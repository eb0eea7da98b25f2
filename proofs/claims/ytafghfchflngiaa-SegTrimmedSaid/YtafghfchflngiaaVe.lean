/- Words of the printed functions, and of their proofs. -/
import Derived.Test.YtafghfchflngiaaVd
import Derived.StillTail
namespace Go.V
open Go
theorem bind_some {α β : Type} {x : Option α} {f : α → Option β} {r : β} (h : x.bind f = some r) : ∃ a, x = some a ∧ f a = some r := by
  cases x with
  | none => cases h
  | some a => exact ⟨a, rfl, h⟩
theorem ite_t {α : Type} {b : Bool} {x y : Option α} {r : α} (hb : b = true) (h : (if b = true then x else y) = some r) : x = some r := by rw [if_pos hb] at h; exact h
theorem ite_f {α : Type} {b : Bool} {x y : Option α} {r : α} (hb : b = false) (h : (if b = true then x else y) = some r) : y = some r := by rw [if_neg (by rw [hb]; simp)] at h; exact h
def U8 (x : Int) : Int := IntKind.u8.wrap x
def U16 (x : Int) : Int := IntKind.u16.wrap x
def U32 (x : Int) : Int := IntKind.u32.wrap x
def U64 (x : Int) : Int := IntKind.u64.wrap x
def I8 (x : Int) : Int := IntKind.i8.wrap x
def I16 (x : Int) : Int := IntKind.i16.wrap x
def I32 (x : Int) : Int := IntKind.i32.wrap x
def I64 (x : Int) : Int := IntKind.i64.wrap x
def band (k : IntKind) (x y : Int) : Int := k.wrap (BitVec.ofInt k.bits x &&& BitVec.ofInt k.bits y).toNat
def bor (k : IntKind) (x y : Int) : Int := k.wrap (BitVec.ofInt k.bits x ||| BitVec.ofInt k.bits y).toNat
def bxor (k : IntKind) (x y : Int) : Int := k.wrap (BitVec.ofInt k.bits x ^^^ BitVec.ofInt k.bits y).toNat
def bandn (k : IntKind) (x y : Int) : Int := k.wrap (BitVec.ofInt k.bits x &&& ~~~BitVec.ofInt k.bits y).toNat
def bshl (k : IntKind) (x y : Int) : Int := k.wrap (x * 2 ^ (min y.toNat k.bits))
def bshr (k : IntKind) (x y : Int) : Int := x.fdiv (2 ^ (min y.toNat k.bits))
def imin (x y : Int) : Int := if y < x then y else x
def imax (x y : Int) : Int := if y > x then y else x
def lim : Nat := 4294967296
def app {α : Type} (xs ys : List α) : Option (List α) := if xs.length + ys.length ≤ lim then some (xs ++ ys) else none
theorem app_some {α : Type} {xs ys zs : List α} (h : app xs ys = some zs) : zs = xs ++ ys ∧ xs.length + ys.length ≤ 4294967296 := by
  unfold app at h
  split at h
  · rename_i hl; injection h with h; exact ⟨h.symm, hl⟩
  · cases h
def mk {α : Type} (n : Int) (z : α) : Option (List α) := if 0 ≤ n ∧ n ≤ 4294967296 then some (List.replicate n.toNat z) else none
theorem mk_some {α : Type} {n : Int} {z : α} {zs : List α} (h : mk n z = some zs) : ∃ m : Nat, n = m ∧ m ≤ 4294967296 ∧ zs = List.replicate m z := by
  unfold mk at h
  split at h
  · rename_i hl; injection h with h; exact ⟨n.toNat, by omega, by omega, h.symm⟩
  · cases h
def divq (k : IntKind) (x y : Int) : Option Int := if y = 0 then none else some (k.wrap (x.tdiv y))
def divr (x y : Int) : Option Int := if y = 0 then none else some (x.tmod y)
theorem divq_some {k : IntKind} {x y z : Int} (h : divq k x y = some z) : y ≠ 0 ∧ z = k.wrap (x.tdiv y) := by
  unfold divq at h; split at h
  · cases h
  · rename_i h0; injection h with h; exact ⟨h0, h.symm⟩
theorem divr_some {x y z : Int} (h : divr x y = some z) : y ≠ 0 ∧ z = x.tmod y := by
  unfold divr at h; split at h
  · cases h
  · rename_i h0; injection h with h; exact ⟨h0, h.symm⟩
def shlq (k : IntKind) (x y : Int) : Option Int := if y < 0 then none else some (bshl k x y)
def shrq (k : IntKind) (x y : Int) : Option Int := if y < 0 then none else some (bshr k x y)
theorem shlq_some {k : IntKind} {x y z : Int} (h : shlq k x y = some z) : ¬ y < 0 ∧ z = bshl k x y := by
  unfold shlq at h; split at h
  · cases h
  · rename_i h0; injection h with h; exact ⟨h0, h.symm⟩
theorem shrq_some {k : IntKind} {x y z : Int} (h : shrq k x y = some z) : ¬ y < 0 ∧ z = bshr k x y := by
  unfold shrq at h; split at h
  · cases h
  · rename_i h0; injection h with h; exact ⟨h0, h.symm⟩
section
variable {α : Type} {enc : α → List Value} {sz : Nat}
theorem row_len (hlen : ∀ x, (enc x).length = sz) (xs : List α) : (rowOf enc xs).length = xs.length * sz := by
  unfold rowOf
  induction xs with
  | nil => simp
  | cons x xs ih => rw [List.flatMap_cons, List.length_append, ih, hlen, List.length_cons, Nat.add_mul]; omega
theorem row_drop (hlen : ∀ x, (enc x).length = sz) : ∀ (xs : List α) (i : Nat), (rowOf enc xs).drop (i * sz) = rowOf enc (xs.drop i)
  | xs, 0 => by simp
  | [], i + 1 => by simp [rowOf]
  | x :: xs, i + 1 => by
    rw [List.drop_succ_cons, ← row_drop hlen xs i]
    unfold rowOf
    rw [List.flatMap_cons, Nat.add_mul, Nat.one_mul, Nat.add_comm, ← List.drop_drop, List.drop_left' (hlen x)]
theorem row_take (hlen : ∀ x, (enc x).length = sz) : ∀ (xs : List α) (i : Nat), (rowOf enc xs).take (i * sz) = rowOf enc (xs.take i)
  | xs, 0 => by simp [rowOf]
  | [], i + 1 => by simp [rowOf]
  | x :: xs, i + 1 => by
    rw [List.take_succ_cons]
    unfold rowOf
    rw [List.flatMap_cons, List.flatMap_cons, Nat.add_mul, Nat.one_mul, Nat.add_comm, ← hlen x, List.take_length_add_append]
    congr 1
    have := row_take hlen xs i
    rw [hlen x]
    exact this
theorem row_at (hlen : ∀ x, (enc x).length = sz) {xs : List α} {i : Nat} {x : α} (h : xs[i]? = some x) : ((rowOf enc xs).drop (i * sz)).take (enc x).length = enc x := by
  rw [row_drop hlen]
  have hl := (List.getElem?_eq_some_iff.1 h)
  rw [List.drop_eq_getElem_cons hl.1, hl.2]
  unfold rowOf
  rw [List.flatMap_cons, List.take_left' rfl]
theorem row_fit (hlen : ∀ x, (enc x).length = sz) {xs : List α} {i : Nat} {x y : α} (h : xs[i]? = some y) : i * sz + (enc x).length ≤ (rowOf enc xs).length := by
  rw [row_len hlen, hlen]
  have := (List.getElem?_eq_some_iff.1 h).1
  have h2 : (i + 1) * sz ≤ xs.length * sz := Nat.mul_le_mul_right _ this
  rw [Nat.add_mul] at h2; omega
theorem row_set (hlen : ∀ x, (enc x).length = sz) {xs : List α} {i : Nat} (h : i < xs.length) (x : α) : (rowOf enc xs).take (i * sz) ++ enc x ++ (rowOf enc xs).drop (i * sz + (enc x).length) = rowOf enc (xs.set i x) := by
  rw [row_take hlen, hlen, show i * sz + sz = (i + 1) * sz by rw [Nat.add_mul]; omega, row_drop hlen, List.set_eq_take_append_cons_drop, if_pos h]
  unfold rowOf
  rw [List.flatMap_append, List.flatMap_cons, List.append_assoc]
theorem row_app (xs ys : List α) : rowOf enc (xs ++ ys) = rowOf enc xs ++ rowOf enc ys := by unfold rowOf; rw [List.flatMap_append]
theorem row_one (x : α) : rowOf enc [x] = enc x := by unfold rowOf; simp
theorem row_cells (h1 : ∀ x, ∀ u ∈ enc x, u.oneCell' = true) (xs : List α) : ∀ u ∈ rowOf enc xs, u.oneCell' = true := by
  intro u hu
  unfold rowOf at hu
  obtain ⟨x, _, hx⟩ := List.mem_flatMap.1 hu
  exact h1 x u hx
theorem row_rep {z : Value} {x : α} (h : enc x = [z]) (m : Nat) : rowOf enc (List.replicate m x) = List.replicate m z := by
  unfold rowOf
  induction m with
  | zero => rfl
  | succ m ih => rw [List.replicate_succ, List.flatMap_cons, ih, h, List.replicate_succ]; rfl
end
section
variable {T : Act → World → Prop} {P : Program} {F : Func} {R : Ending → World → Prop} {K : List Kont} {n i d : Nat} {E E' : Env} {B B' G : Asn} {L L' : List Atom} {op : Op} {v : Value}
theorem EnvOk.known {m t : Nat} {u v : Value} {a : Act} (ha : EnvOk E m a) (h : E.lookup t = some u) (e : u = v) : EnvOk ((t, v) :: E) m a :=
  ha.sub fun t' v' h' => by
    rw [List.lookup_cons] at h'
    split at h'
    · rename_i hx
      have : t' = t := by simpa using hx
      subst this
      rw [h, e]; exact h'
    · exact h'
theorem o_split (t : Nat) (b : Bool) (h : E.lookup t = some (.bool b)) (ht : b = true → Wo P F R K n i ((t, .bool true) :: E) B G L) (hf : b = false → Wo P F R K n i ((t, .bool false) :: E) B G L) : Wo P F R K n i E B G L := by
  intro a w ha hs
  cases b with
  | true => exact ht rfl a w (ha.known h rfl) hs
  | false => exact hf rfl a w (ha.known h rfl) hs
theorem q_split (t : Nat) (b : Bool) (h : E.lookup t = some (.bool b)) (ht : b = true → Wq P F R K n i ((t, .bool true) :: E) B G L) (hf : b = false → Wq P F R K n i ((t, .bool false) :: E) B G L) : Wq P F R K n i E B G L := by
  intro a ha
  cases b with
  | true => exact ht rfl a (ha.known h rfl)
  | false => exact hf rfl a (ha.known h rfl)
theorem w_cond_t (c : Operand) (x y : Nat) (h : cd F n = .cond c (cd F x) (cd F y)) (hc : ev E c = some (.bool true)) (next : Wc P F R K x E B G L) : Wc P F R K n E B G L :=
  w_cond c x y true h hc (fun _ => next) (fun e => by cases e)
theorem w_cond_f (c : Operand) (x y : Nat) (h : cd F n = .cond c (cd F x) (cd F y)) (hc : ev E c = some (.bool false)) (next : Wc P F R K y E B G L) : Wc P F R K n E B G L :=
  w_cond c x y false h hc (fun e => by cases e) (fun _ => next)
theorem eq_of_len {α : Type} {n m : Nat} (h : n = m) (f : Nat → α) {p p' : α} (e : p = f n) (e' : p' = f m) : p = p' := by rw [e, e', h]
theorem t_L (e : L = L') (next : Tg F T E B G L') : Tg F T E B G L := by rw [e]; exact next
theorem t_E (e : E = E') (next : Tg F T E' B G L) : Tg F T E B G L := by rw [e]; exact next
theorem t_EL (e : (E, L) = (E', L')) (next : Tg F T E' B G L') : Tg F T E B G L := by
  simp only [Prod.mk.injEq] at e
  rw [e.1, e.2]; exact next
theorem t_env (keys : List Nat) (h : keep E keys = some E') (next : Tg F T E' B G L) : Tg F T E B G L := fun a w ha hw => next a w (ha.sub (keep_sub h)) hw
theorem t_drop (js : List Nat) (h : okPick js L.length = true) (next : Tg F T E B G (pick js L)) : Tg F T E B G L := fun a w ha hs => next a w ha (hs.pick js h)
theorem own_some {j : Nat} {A : Option Addr} {m c sz : Nat} {cs : List Value} {t : TypeId} {q : Int} (hj : L[j]? = some (.own A m c cs sz t)) (h : q < m) (h0 : 0 ≤ q := by assumption) : ∀ w, St B G L w → A.isSome = true := fun w hs => by
  obtain ⟨S, _, _, _, h4⟩ := hs.at hj
  rcases h4 with ⟨_, h5, _⟩ | ⟨g, sp, rfl, _⟩
  · omega
  · rfl
theorem len_lt {n m : Nat} {j : Int} (h : n = m) (h1 : j < (m : Int)) : j < (n : Int) := by rw [h]; exact h1
theorem mk_len {α : Type} {n : Nat} {x : α} {l : List α} (h : l = List.replicate n x) : n = l.length := by rw [h, List.length_replicate]
theorem s_make {α : Type} {enc : α → List Value} {e : TypeId} {z : Value} {zx : α} {l : List α} {kl kc : IntKind} {m : Nat} {bytes : Nat} (d : Nat) (t : TypeId) (x y : Operand) (hl : l = List.replicate m zx) (h : opAt F n i E = some (d, .makeSlice t x y)) (hx : ev E x = some (.int kl m)) (hy : ev E y = some (.int kc m))
    (ht : P.underlying t = some (.slice e)) (hi : (P.info? e).map (fun i => (i.zero, i.size, i.bytes)) = some (some z, 1, bytes)) (hz : z.cells.toList = [z]) (hz1 : z.oneCell' = true) (hm : m * bytes ≤ 281474976710656) (h63 : m ≤ 9223372036854775807) (henc : enc zx = [z])
    (next : ∀ A, Tg F T ((d, .slice A l.length l.length) :: E) B G (.own A l.length l.length (rowOf enc l) 1 e :: L)) : Stp P F R K n i T E B G L :=
  s_eff d _ h (e_make hx hy ht hi hz hz1 hm h63) (fun A _ => by
    have := next A
    rw [hl, row_rep henc, List.length_replicate] at this
    exact this)
theorem s_setE {α : Type} {enc : α → List Value} {xs : List α} {A : Option Addr} {m c sz q : Nat} {t : TypeId} {v : Value} (ty : TypeId) (p y : Operand) (j : Nat) {x u : α} (h : opAt0 F n i E = some (.store ty p y)) (hx : ev E p = some (.pointer (some (adr A (q * sz))))) (hy : ev E y = some v)
    (hl : v.cells.toList = enc x) (ht : (P.info? ty).map (·.size) = some (enc x).length) (hj : L[j]? = some (.own A m c (rowOf enc xs) sz t)) (hlen : ∀ x, (enc x).length = sz) (hg : xs[q]? = some u) (h1 : ∀ u ∈ enc x, u.oneCell' = true) (h0 : 0 < sz)
    (next : Tg F T E B G (L.set j (.own A m c (rowOf enc (xs.set q x)) sz t))) : Stp P F R K n i T E B G L := by
  refine s_eff0 _ h (e_storeE hx hy hl ht hj (row_fit hlen hg) (by rw [hlen]; exact h0) h1) ?_
  rw [row_set hlen (List.getElem?_eq_some_iff.1 hg).1]
  exact next
theorem ev_int {x : Operand} {k : IntKind} {a b : Int} (h : ev E x = some (.int k a)) (e : a = b) : ev E x = some (.int k b) := by rw [← e]; exact h
theorem St.cast {w : World} (e : L = L') (h : St B G L w) : St B G L' w := by rw [← e]; exact h
theorem we_of {x : Exit} {a : Act} {w : World} (h : We P F R K x E B G L) (ha : EnvOk E F.ntmps a) (hw : St B G L w) : kp P F R K x a w := h a w ha hw
theorem wc_of {a : Act} {w : World} (h : Wc P F R K n E B G L) (ha : EnvOk E F.ntmps a) (hw : St B G L w) : (cd F n).wp P (kp P F R K) a w := h a w ha hw
theorem kp_panic : ∀ (K : List Kont) {c : List PanicEntry} {a : Act} {w : World}, bodyPost P F R (.panic c) a w → kp P F R K (.panic c) a w
  | [], _, _, _, h => h
  | .seq _ :: K, _, _, _, h => kp_panic K h
  | .blk _ :: K, _, _, _, h => kp_panic K h
  | .inv _ :: K, _, _, _, h => kp_panic K h
theorem kp_grown : ∀ (K : List Kont) {a : Act} {w : World}, bodyPost P F R .outgrown a w → kp P F R K .outgrown a w
  | [], _, _, h => h
  | .seq _ :: K, _, _, h => kp_grown K h
  | .blk _ :: K, _, _, h => kp_grown K h
  | .inv _ :: K, _, _, h => kp_grown K h
theorem kp_out {J : Act → World → Prop} (hJ : ∀ a w, J a w → kp P F R K .normal a w) : ∀ (x : Exit) (a : Act) (w : World), kp P F R [.inv J] x a w → kp P F R K x a w := by
  intro x a w h
  cases x with
  | normal => exact hJ a w h
  | ret => exact kp_ret K h
  | exit id => exact (h : False).elim
  | goto l => exact (h : False).elim
  | panic c => exact kp_panic K h
  | outgrown => exact kp_grown K h
theorem kp_outb {J : Act → World → Prop} {id : Nat} (hJ : ∀ a w, J a w → kp P F R K .normal a w) : ∀ (x : Exit) (a : Act) (w : World), kp P F R [.blk id, .inv J] x a w → kp P F R (.blk id :: K) x a w := by
  intro x a w h
  cases x with
  | normal => exact hJ a w h
  | ret => exact kp_ret K h
  | exit id' =>
    by_cases e : id' = id
    · subst e
      have h1 : kp P F R [.inv J] .normal a w := by
        have h2 : Exit.inBlock id' (kp P F R [.inv J]) (.exit id') a w := h
        simpa only [Exit.inBlock, if_true] using h2
      show Exit.inBlock id' (kp P F R K) (.exit id') a w
      simp only [Exit.inBlock, if_true]
      exact hJ a w h1
    · have h2 : Exit.inBlock id (kp P F R [.inv J]) (.exit id') a w := h
      simp only [Exit.inBlock, if_neg e] at h2
      exact (h2 : False).elim
  | goto l => exact (h : False).elim
  | panic c => exact kp_panic K h
  | outgrown => exact kp_grown K h
theorem w_loopJ (x id : Nat) (I : Nat → Act → World → Prop) (J : Act → World → Prop) (h : cd F n = .loop (cd F x)) (rest : ∀ a w, J a w → kp P F R K .normal a w)
    (round : ∀ k a w, I k a w → (cd F x).wp P (kp P F R [.inv (fun a' w' => ∃ j, j < k ∧ I j a' w'), .blk id, .inv J]) a w) (k : Nat) (h0 : ∀ a w, EnvOk E F.ntmps a → St B G L w → I k a w) : Wc P F R (.blk id :: K) n E B G L := fun a w ha hw =>
  Code.wp_mono (kp_outb rest) (w_loop (K := [.blk id, .inv J]) x I h round k h0 a w ha hw)
theorem w_joinJ (J : Act → World → Prop) (rest : ∀ a w, J a w → kp P F R K .normal a w) (body : Wc P F R [.inv J] n E B G L) : Wc P F R K n E B G L := fun a w ha hw => Code.wp_mono (kp_out rest) (body a w ha hw)
def brk {ρ ξ σ : Type} (t : ρ ⊕ ξ) (g : ρ → Option σ) (f : ξ → Option σ) : Option σ := match t with | .inl r => g r | .inr x => f x
theorem brk_inr {ρ ξ σ : Type} {x : ξ} {g : ρ → Option σ} {f : ξ → Option σ} {r : σ} (h : brk (.inr x) g f = some r) : f x = some r := h
theorem brk_inl {ρ ξ σ : Type} {x : ρ} {g : ρ → Option σ} {f : ξ → Option σ} {r : σ} (h : brk (.inl x) g f = some r) : g x = some r := h
def optE {ξ σ : Type} (o : Option ξ) (a : Option σ) (f : ξ → Option σ) : Option σ := match o with | none => a | some x => f x
theorem optE_cases {ξ σ : Type} {o : Option ξ} {a : Option σ} {f : ξ → Option σ} {r : σ} (h : optE o a f = some r) : (o = none ∧ a = some r) ∨ ∃ x, o = some x ∧ f x = some r := by
  cases o with
  | none => exact .inl ⟨rfl, h⟩
  | some x => exact .inr ⟨x, rfl, h⟩
def ptrV {ξ : Type} (o : Option ξ) (g : Nat) : Value := match o with | none => .pointer none | some _ => .pointer (some ⟨g, 0, none⟩)
def ptrL {ξ : Type} (o : Option ξ) (f : ξ → List Atom) : List Atom := match o with | none => [] | some x => f x
end
def Grow (w w' : World) : Prop := w.heap.size ≤ w'.heap.size ∧ (∀ b, b < w.heap.size → w'.heap[b]? = w.heap[b]?) ∧ SameIo w w'
theorem Grow.refl (w : World) : Grow w w := ⟨Nat.le_refl _, fun _ _ => rfl, rfl, rfl⟩
theorem Grow.trans {a b c : World} (x : Grow a b) (y : Grow b c) : Grow a c := ⟨Nat.le_trans x.1 y.1, fun q hq => (y.2.1 q (Nat.lt_of_lt_of_le hq x.1)).trans (x.2.1 q hq), y.2.2.1.trans x.2.2.1, y.2.2.2.trans x.2.2.2⟩
theorem St.grow {B G : Asn} {L : List Atom} {w w' : World} (h : St B G L w) (x : Grow w w') : St B G L w' := by
  refine ⟨?_, h.2.same x.2.2⟩
  have h := h.1
  unfold Stt at *
  exact Sep.mono (fun b hb => Nat.lt_of_lt_of_le hb x.1) (Sep.loc (fun b hb => x.2.1 b hb) h)
section
variable {P : Program} {F : Func} {R : Ending → World → Prop} {K : List Kont} {n i d : Nat} {E E' : Env} {B B0 B' G : Asn} {L L0 L' : List Atom} {fuel : Nat} {listed : Array Bool} {S : World → Prop}
theorem St.weaken {w : World} (x : Ext B B') (h : St B' G L w) : St B G L w := by
  refine ⟨?_, h.2.ext x⟩
  obtain ⟨f, hf, hA⟩ := h.1
  obtain ⟨S1, hS1, hB⟩ := x.2 _ _ (hA 0 (.asn B') rfl)
  classical
  refine ⟨fun b => if f b = some 0 then (if S1 b then some 0 else none) else f b, fun b j hb => ?_, fun j A hj => ?_⟩
  · dsimp only at hb
    split at hb
    · rename_i h0
      exact hf b 0 h0
    · exact hf b j hb
  · cases j with
    | zero =>
      simp at hj; subst hj
      refine Eq.mp (congrArg (fun S => B.P S w.heap) ?_) hB
      funext b; apply propext
      constructor
      · intro hb; have := hS1 b hb; simp [this, hb]
      · intro hb
        dsimp only at hb
        split at hb
        · split at hb
          · assumption
          · cases hb
        · rename_i h0; exact absurd hb h0
    | succ j =>
      refine Eq.mp (congrArg (fun S => A.P S w.heap) ?_) (hA (j + 1) A (by simpa using hj))
      funext b; apply propext
      constructor
      · intro hb
        have h0 : ¬ f b = some 0 := by rw [hb]; simp
        simp only [if_neg h0]; exact hb
      · intro hb
        dsimp only at hb
        split at hb
        · split at hb <;> cases hb
        · exact hb
def wpAnyT (P : Program) (ops : Array Oper) (Q : Exit → Act → World → Prop) (S : World → Prop) (n : Nat) : Nat → Array Bool → Act → World → Prop
  | 0, ls, a, w => ∀ w', Grow w w' → S w' ∧ Region.seqB .any ops (ops.size - n) n ls = true ∧ wpList P ops Q (ops.toList.drop n) a w'
  | f + 1, ls, a, w => ∀ w', Grow w w' → S w' ∧ Region.ready .any ops ls ≠ [] ∧ ∀ i ∈ Region.ready .any ops ls, i < n ∧ wpOp P ops Q i (wpAnyT P ops Q S n f (ls.setIfInBounds i true)) a w'
theorem wpAnyT.grow {ops : Array Oper} {Q : Exit → Act → World → Prop} {m : Nat} {a : Act} {w w' : World} : ∀ {f : Nat} {ls : Array Bool}, wpAnyT P ops Q S m f ls a w → Grow w w' → wpAnyT P ops Q S m f ls a w'
  | 0, _, h, x => fun w2 y => h w2 (x.trans y)
  | _ + 1, _, h, x => fun w2 y => h w2 (x.trans y)
theorem wpAnyT.held {ops : Array Oper} {Q : Exit → Act → World → Prop} {m : Nat} {a : Act} {w : World} : ∀ {f : Nat} {ls : Array Bool}, wpAnyT P ops Q S m f ls a w → S w
  | 0, _, h => (h w (Grow.refl w)).1
  | _ + 1, _, h => (h w (Grow.refl w)).1
theorem wpAny_of_T {ops : Array Oper} {Q : Exit → Act → World → Prop} {m : Nat} : ∀ (f : Nat) (ls : Array Bool) (a : Act) (w : World), wpAnyT P ops Q S m f ls a w → wpAny P .any ops Q (f + (ops.size - m)) ls a w
  | 0, ls, a, w, h => by
    obtain ⟨_, h1, h2⟩ := h w (Grow.refl w)
    have e : ops.size - m = (ops.toList.drop m).length := by simp
    rw [Nat.zero_add, e]
    refine wpAny_of_seq _ m ls a w (fun j => ?_) (by rw [← e]; exact h1) h2
    rw [List.getElem?_drop]; simp
  | f + 1, ls, a, w, h => by
    obtain ⟨_, h1, h2⟩ := h w (Grow.refl w)
    rw [show f + 1 + (ops.size - m) = f + (ops.size - m) + 1 by omega]
    exact ⟨fun h0 => absurd h0 h1, fun i hi => wpOp_mono (fun a' w' h' => wpAny_of_T f _ a' w' h') (h2 i hi).2⟩
def YieldsG (P : Program) (ops : Array Oper) (S : World → Prop) (o : Oper) (v : Value) (a : Act) : Prop :=
  (Region.wanted o (yielded ops a.tmps) = true ∧ ((∀ w, S w → (execOp a.eval o).run P w = .ok (.value v) w) ∨
    ∃ f args, ∀ w, S w → (execOp a.eval o).run P w = .ok (.enter f args) w ∧ Calls P f args w (fun e w' => e = .returned v ∧ Grow w w'))) ∨
  (Region.wanted o (yielded ops a.tmps) = false ∧ v = undef)
theorem YieldsG.wpOp {ops : Array Oper} {Q : Exit → Act → World → Prop} {i : Nat} {o : Oper} {v : Value} {a : Act} (hi : ops[i]? = some o) (hy : YieldsG P ops S o v a)
    {T : Act → World → Prop} {w : World} (hS : S w) (h : ∀ w', Grow w w' → T (a.put o.dst v) w') : wpOp P ops Q i T a w := by
  unfold Go.wpOp
  simp only [hi]
  rcases hy with ⟨hw, hv | ⟨f, args, hv⟩⟩ | ⟨hw, rfl⟩
  · simp only [hw, if_true, Oper.wp, hv w hS, Oper.upon]; exact .inl (h w (Grow.refl w))
  · obtain ⟨h1, h2⟩ := hv w hS
    simp only [hw, if_true, Oper.wp, h1]
    left
    refine h2.mono ?_
    rintro e w' ⟨rfl, hg⟩
    exact h w' hg
  · simp only [hw, Bool.false_eq_true, if_false]; exact h w (Grow.refl w)
theorem YieldsG.of_same {ops : Array Oper} {o : Oper} {v : Value} {a a' : Act} (hy : YieldsG P ops S o v a) (he : execOp a'.eval o = execOp a.eval o)
    (hw : Region.wanted o (yielded ops a'.tmps) = Region.wanted o (yielded ops a.tmps)) : YieldsG P ops S o v a' := by
  unfold YieldsG at *
  rw [he, hw]
  exact hy
theorem wpOp_putG {ops : Array Oper} {Q : Exit → Act → World → Prop} {j : Nat} {oi oj : Oper} {v : Value} (hj : ops[j]? = some oj) (hap : oi.apart ops oj = true)
    (hsi : ∀ cs b, oi.op ≠ .select cs b) (hsj : ∀ cs b, oj.op ≠ .select cs b)
    (hQ : ∀ c a w, Q (.panic c) (a.put oi.dst v) w → Q (.panic c) a w) {T : Act → World → Prop} {a : Act} {w : World}
    (hy : YieldsG P ops S oi v a) (h : Go.wpOp P ops Q j T (a.put oi.dst v) w) :
    Go.wpOp P ops Q j (fun a' w' => YieldsG P ops S oi v a' ∧ T (a'.put oi.dst v) w') a w := by
  obtain ⟨h1, h2, h3⟩ := Oper.apart_spec hap
  have keep : ∀ (a : Act), YieldsG P ops S oi v a → ∀ u, YieldsG P ops S oi v (a.put oj.dst u) := fun a hy u =>
    hy.of_same (execOp_put oi hsi a oj.dst u h3) (wanted_put oi a oj.dst u h3)
  have keepD : ∀ d, YieldsG P ops S oi v { a with defers := d :: a.defers } := fun d => hy.of_same rfl rfl
  unfold Go.wpOp at *
  simp only [hj] at *
  rw [wanted_put oj a oi.dst v h1] at h
  split
  · rename_i hw
    simp only [hw, if_true] at h
    rcases h with h | ⟨hasks, hlets⟩
    case inr => exact .inr ⟨by unfold Oper.asks at *; rw [execOp_put oj hsj a oi.dst v h1] at hasks; exact hasks, hlets⟩
    refine .inl ?_
    unfold Oper.wp at *
    rw [execOp_put oj hsj a oi.dst v h1] at h
    generalize (execOp a.eval oj).run P w = r at *
    cases r with
    | ok n w' =>
      cases n <;> simp only [Oper.upon] at h ⊢
      case value u => exact ⟨keep a hy u, by rw [← Act.put_comm a v u h2]; exact h⟩
      case skip => exact ⟨keep a hy _, by rw [← Act.put_comm a v undef h2]; exact h⟩
      case defer d =>
        refine ⟨keep _ (keepD d) _, ?_⟩
        rw [← Act.put_comm _ v undef h2, ← Act.put_defers]
        exact h
      case enter f args =>
        refine Calls.mono h fun e w'' he => ?_
        cases e with
        | returned u => exact ⟨keep a hy u, by rw [← Act.put_comm a v u h2]; exact he⟩
        | panicked c => exact hQ _ _ _ he
        | outgrown => exact he
      case row row args => exact Rows.mono h fun u w'' he => ⟨keep a hy u, by rw [← Act.put_comm a v u h2]; exact he⟩
    | halt x w' =>
      cases x <;> simp only [Oper.upon] at h ⊢
      case panic u => exact hQ _ _ _ h
  · rename_i hw
    simp only [hw] at h
    exact ⟨keep a hy _, by rw [← Act.put_comm a v undef h2]; exact h⟩
def headOk (ops : Array Oper) (m : Nat) : Bool := Region.noSelect ops && (Nat.beq m ops.size || (decide (m < ops.size) && Region.sinkB .any ops m && Region.chainB .any ops m))
theorem wpAnyT_first {ops : Array Oper} {Q : Exit → Act → World → Prop} {m i : Nat} {oi : Oper} {v : Value} (hi : ops[i]? = some oi) (hin : i < m) (hok : headOk ops m = true) (hQ : ∀ c a w, Q (.panic c) (a.put oi.dst v) w → Q (.panic c) a w) (hgr : ∀ w w', S w → Grow w w' → S w') :
    ∀ (f : Nat) (ls : Array Bool) (a : Act) (w : World), HeadInv .any ops m ls →
      (∀ j oj, ops[j]? = some oj → j ≠ i → ls.getD j true = false → (∀ e ∈ oj.after, Region.binds .any e = true → e.on ≠ i) → oi.apart ops oj = true) →
      i ∈ Region.ready .any ops ls → YieldsG P ops S oi v a → S w → wpAnyT P ops Q S m f (ls.setIfInBounds i true) (a.put oi.dst v) w → wpAnyT P ops Q S m (f + 1) ls a w := by
  simp only [headOk, Bool.and_eq_true, Bool.or_eq_true, decide_eq_true_eq] at hok
  obtain ⟨hsel, hok⟩ := hok
  have hsel' := Region.noSelect_spec hsel
  have hlow : ∀ ls, HeadInv .any ops m ls → ls.getD i true = false → ∀ j, j ∈ Region.ready .any ops ls → j < m := by
    intro ls inv hun j hj
    rcases hok with hok | ⟨⟨hn, hs⟩, hc⟩
    · have hm := Nat.eq_of_beq_eq_true hok
      obtain ⟨_, oj, hoj, _⟩ := mem_ready.1 hj
      rw [hm]
      exact (Array.getElem?_eq_some_iff.1 hoj).1
    · rcases Nat.lt_or_ge j m with h | h
      · exact h
      · exact absurd hj (tail_waits hs hc hn inv _ i rfl hin hun j h)
  intro f
  induction f with
  | zero =>
    intro ls a w inv _ hr hy hS H w' hw'
    have hun := (mem_ready.1 hr).1
    have hS' := hgr _ _ hS hw'
    refine ⟨hS', fun h => (by rw [h] at hr; cases hr), fun j hj => ?_⟩
    have hjn : j < m := hlow ls inv hun j hj
    refine ⟨hjn, ?_⟩
    by_cases hji : j = i
    · subst hji; exact hy.wpOp hi hS' (fun w2 h2 => wpAnyT.grow H (hw'.trans h2))
    · have hn : m < ops.size ∨ m = ops.size := by
        rcases hok with hok | ⟨⟨hn, hs⟩, hc⟩
        · exact .inr (Nat.eq_of_beq_eq_true hok)
        · exact .inl hn
      have h0 := (H w (Grow.refl w)).2.1
      rcases hn with hn | hn
      · have := seqB_ready h0 j (ready_mono hj hji)
        omega
      · rw [hn, Nat.sub_self] at h0
        have hr2 := ready_mono hj hji
        simp only [Region.seqB, List.isEmpty_iff] at h0
        rw [h0] at hr2
        cases hr2
  | succ f ih =>
    intro ls a w inv hfree hr hy hS H w' hw'
    have hun := (mem_ready.1 hr).1
    have hS' := hgr _ _ hS hw'
    refine ⟨hS', fun h => (by rw [h] at hr; cases hr), fun j hj => ?_⟩
    have hjn : j < m := hlow ls inv hun j hj
    refine ⟨hjn, ?_⟩
    by_cases hji : j = i
    · subst hji; exact hy.wpOp hi hS' (fun w2 h2 => wpAnyT.grow H (hw'.trans h2))
    · have h1 := ((H w' hw').2.2 j (ready_mono hj hji)).2
      obtain ⟨hjun, oj, hoj, hall⟩ := mem_ready.1 hj
      have hnot : ∀ e ∈ oj.after, Region.binds .any e = true → e.on ≠ i := fun e he hb heq => by
        have h1 := hall e he hb
        rw [heq, getD_both hun] at h1
        cases h1
      have h2 := wpOp_putG hoj (hfree j oj hoj hji hjun hnot) (fun cs b => hsel' i oi cs b hi) (fun cs b => hsel' j oj cs b hoj) hQ hy h1
      have hfree' : ∀ k ok, ops[k]? = some ok → k ≠ i → (ls.setIfInBounds j true).getD k true = false →
          (∀ e ∈ ok.after, Region.binds .any e = true → e.on ≠ i) → oi.apart ops ok = true := fun k ok hk hki hun hno => by
        refine hfree k ok hk hki ?_ hno
        by_cases hjk : j = k
        · subst hjk; exact hjun
        · rw [getD_set_ne true hjk] at hun; exact hun
      refine wpOp_mono (fun a' w' h3 => ih (ls.setIfInBounds j true) a' w' (inv.set hj hjn) hfree' (ready_mono hr (Ne.symm hji)) h3.1 (wpAnyT.held h3.2) ?_) h2
      rw [Array.setIfInBounds_comm _ _ hji]
      exact h3.2
def listOk (ops : Array Oper) (m : Nat) (ls : Array Bool) : Bool :=
  decide (ls.size = ops.size) && (List.range ops.size).all (fun j => !ls.getD j false || (decide (j < m) && ((ops[j]?).map fun o => o.after.toList.all fun e => !Region.binds .any e || ls.getD e.on false).getD true))
theorem listOk_inv {ops : Array Oper} {m : Nat} {ls : Array Bool} (h : listOk ops m ls = true) : HeadInv .any ops m ls := by
  simp only [listOk, Bool.and_eq_true, decide_eq_true_eq, List.all_eq_true, List.mem_range, Bool.or_eq_true] at h
  obtain ⟨h1, h2⟩ := h
  refine ⟨h1, fun j oj hj hl e he hb => ?_, fun t ht ht' => ?_⟩
  · have hjs : j < ops.size := (Array.getElem?_eq_some_iff.1 hj).1
    rcases h2 j hjs with h3 | h3
    · rw [hl] at h3; cases h3
    · have h4 := h3.2
      rw [hj] at h4
      simp only [Option.map_some, Option.getD_some, List.all_eq_true] at h4
      have := h4 e (by simpa using he)
      rw [hb] at this
      simpa using this
  · rcases h2 t ht' with h3 | h3
    · have hlt : t < ls.size := by omega
      simp [hlt] at h3 ⊢; exact h3
    · omega
abbrev Wt (P : Program) (F : Func) (R : Ending → World → Prop) (K : List Kont) (S : World → Prop) (n m : Nat) (fuel : Nat) (listed : Array Bool) (E : Env) (B G : Asn) (L : List Atom) : Prop :=
  Tg F (fun a w => wpAnyT P (rg F n) (kp P F R K) S m fuel listed a w) E B G L
theorem w_tail (m : Nat) (L0 : List Atom) (h : rgd F n = some true) (hm : P.follows .mixedOrders = true) (hok : headOk (rg F n) m = true) (next : Wt P F R K (fun w => St B G L0 w) n m m (Array.replicate (rg F n).size false) E B G L) : Wc P F R K n E B G L := by
  intro a w ha hw
  obtain ⟨id, e⟩ := cd_rg h
  show (cd F n).wp P (kp P F R K) a w
  rw [e]
  have hl : m ≤ (rg F n).size := by
    simp only [headOk, Bool.and_eq_true, Bool.or_eq_true, decide_eq_true_eq] at hok
    rcases hok.2 with h | h
    · exact Nat.le_of_eq (Nat.eq_of_beq_eq_true h)
    · exact Nat.le_of_lt h.1.1
  have h1 := wpAny_of_T _ _ _ _ (next a { w with drawn := w.drawn + 1 } ha (hw.of_heap rfl))
  rw [show m + ((rg F n).size - m) = (rg F n).size by omega] at h1
  exact wp_region_any hm h1
theorem hgrow (w w' : World) (h : St B0 G L0 w) (x : Grow w w') : St B0 G L0 w' := h.grow x
theorem tt_stp {m : Nat} (i : Nat) (js : List Nat) (x : Ext B0 B) (hj : okPick js L.length = true) (hp : pick js L = L0) (hr : Region.ready .any (rg F n) listed = [i]) (hi : Nat.blt i m = true)
    (h : Stp P F R K n i (fun a w => wpAnyT P (rg F n) (kp P F R K) (fun w => St B0 G L0 w) m fuel (listed.setIfInBounds i true) a w) E B G L) :
    Wt P F R K (fun w => St B0 G L0 w) n m (fuel + 1) listed E B G L := fun a w ha hw w' hg =>
  ⟨St.weaken x (by rw [← hp]; exact (hw.grow hg).pick js hj), by rw [hr]; simp, fun j hj => by
    rw [hr] at hj
    obtain rfl := List.mem_singleton.1 hj
    exact ⟨Nat.le_of_ble_eq_true hi, h a w' ha (hw.grow hg)⟩⟩
theorem tt_two {m : Nat} (i j : Nat) (js : List Nat) (x : Ext B0 B) (hj : okPick js L.length = true) (hp : pick js L = L0) (hr : Region.ready .any (rg F n) listed = [i, j]) (hi : (Nat.blt i m && Nat.blt j m) = true)
    (h1 : Stp P F R K n i (fun a w => wpAnyT P (rg F n) (kp P F R K) (fun w => St B0 G L0 w) m fuel (listed.setIfInBounds i true) a w) E B G L)
    (h2 : Stp P F R K n j (fun a w => wpAnyT P (rg F n) (kp P F R K) (fun w => St B0 G L0 w) m fuel (listed.setIfInBounds j true) a w) E B G L) :
    Wt P F R K (fun w => St B0 G L0 w) n m (fuel + 1) listed E B G L := fun a w ha hw w' hg => by
  rw [Bool.and_eq_true] at hi
  refine ⟨St.weaken x (by rw [← hp]; exact (hw.grow hg).pick js hj), by rw [hr]; simp, fun q hq => ?_⟩
  rw [hr] at hq
  rcases List.mem_cons.1 hq with rfl | hq
  · exact ⟨Nat.le_of_ble_eq_true hi.1, h1 a w' ha (hw.grow hg)⟩
  · obtain rfl := List.mem_singleton.1 hq
    exact ⟨Nat.le_of_ble_eq_true hi.2, h2 a w' ha (hw.grow hg)⟩
theorem tt_end {m : Nat} (js : List Nat) (x : Ext B0 B) (hj : okPick js L.length = true) (hp : pick js L = L0) (hs : Region.seqB .any (rg F n) ((rg F n).size - m) m listed = true) (next : Wo P F R K n m E B G L) : Wt P F R K (fun w => St B0 G L0 w) n m 0 listed E B G L := fun a w ha hw w' hg =>
  ⟨St.weaken x (by rw [← hp]; exact (hw.grow hg).pick js hj), hs, next a w' ha (hw.grow hg)⟩
theorem kp_panic_inv : ∀ (K : List Kont) {c : List PanicEntry} {a : Act} {w : World}, kp P F R K (.panic c) a w → bodyPost P F R (.panic c) a w
  | [], _, _, _, h => h
  | .seq _ :: K, _, _, _, h => kp_panic_inv K h
  | .blk _ :: K, _, _, _, h => kp_panic_inv K h
  | .inv _ :: K, _, _, _, h => kp_panic_inv K h
theorem hq {oi : Option Tmp} {v : Value} (c : List PanicEntry) (a : Act) (w : World) (h : kp P F R K (.panic c) (a.put oi v) w) : kp P F R K (.panic c) a w := by
  obtain ⟨h1, h2⟩ := kp_panic_inv K h
  refine kp_panic K ⟨?_, h2⟩
  cases oi <;> exact h1
def takes (P : Program) (F : Func) (n : Nat) : List Nat → Array Bool → Env → List (Addr × Value) → Option (Env × List Addr × List (Addr × Value) × Array Bool)
  | [], ls, E, l => some (E, [], l, ls)
  | i :: is, ls, E, l =>
    if Region.free .any (rg F n) ls i && (Region.ready .any (rg F n) ls).contains i then
      match (rg F n)[i]? with
      | some o => match step1 P (rg F n) o E l with
        | some (E', us, r) => match takes P F n is (ls.setIfInBounds i true) E' r with
          | some (E'', us', r', ls') => some (E'', us ++ us', r', ls')
          | none => none
        | none => none
      | none => none
    else none
def takek (P : Program) (F : Func) (n : Nat) (is : List Nat) (listed : Array Bool) (keys : List Nat) (l : List (Addr × Value)) (E : Env) : Option (Env × List Addr × Array Bool) :=
  if dstsOk F.ntmps (rg F n) && Region.noSelect (rg F n) then
    match takes P F n is listed E l with
    | some (E', us, [], ls') => match keep E' keys with
      | some E'' => some (E'', us, ls')
      | none => none
    | _ => none
  else none
theorem takesT_ok {m : Nat} (hd : dstsOk F.ntmps (rg F n) = true) (hok : headOk (rg F n) m = true) (hgr : ∀ w w', S w → Grow w w' → S w') : ∀ (is : List Nat) {ls ls' : Array Bool} {E E1 : Env} {l r : List (Addr × Value)} {us : List Addr}, is.all (· < m) = true → HeadInv .any (rg F n) m ls → takes P F n is ls E l = some (E1, us, r, ls') →
    ∃ u, l = u ++ r ∧ us.length = u.length ∧ (us = u.map Prod.fst → ∀ (fuel : Nat) (a : Act) (w : World), EnvOk E F.ntmps a → S w → (∀ w, S w → ∀ p ∈ u, w.cell? p.1 = some p.2) →
      (∀ a', EnvOk E1 F.ntmps a' → wpAnyT P (rg F n) (kp P F R K) S m fuel ls' a' w) → wpAnyT P (rg F n) (kp P F R K) S m (fuel + is.length) ls a w) := by
  intro is
  induction is with
  | nil =>
    intro ls ls' E E1 l r us _ _ h
    simp only [takes, Option.some.injEq, Prod.mk.injEq] at h
    obtain ⟨rfl, rfl, rfl, rfl⟩ := h
    exact ⟨[], rfl, rfl, fun _ fuel a w ha _ _ hk => hk a ha⟩
  | cons i is ih =>
    intro ls ls' E E1 l r us him inv h
    simp only [List.all_cons, Bool.and_eq_true, decide_eq_true_eq] at him
    simp only [takes] at h
    split at h
    · rename_i hc
      rw [Bool.and_eq_true] at hc
      have hr : i ∈ Region.ready .any (rg F n) ls := by simpa using hc.2
      split at h
      · rename_i o ho
        split at h
        · rename_i E' us1 r1 h1
          split at h
          · rename_i E'' us2 r2 ls2 h2
            simp only [Option.some.injEq, Prod.mk.injEq] at h
            obtain ⟨rfl, rfl, rfl, rfl⟩ := h
            obtain ⟨u1, e1, l1, s1⟩ := step1_ok hd (by simpa using Array.mem_of_getElem? ho) h1
            obtain ⟨u2, e2, l2, s2⟩ := ih him.2 (inv.set hr him.1) h2
            refine ⟨u1 ++ u2, by rw [e1, e2, List.append_assoc], by simp [l1, l2], fun he fuel a w ha hS hl hk => ?_⟩
            obtain ⟨he1, he2⟩ := app_map l1 he
            have hnext := fun a' ha' => s2 he2 fuel a' w ha' hS (fun w hw p hp => hl w hw p (by simp [hp])) hk
            rw [List.length_cons, ← Nat.add_assoc]
            rcases s1 a ha with ⟨hwn, ha'⟩ | ⟨v, hwn, hrun, ha'⟩
            · exact wpAnyT_first ho him.1 hok hq hgr _ ls a w inv (Region.free_spec ho hc.1) hr (.inr ⟨hwn, rfl⟩) hS (hnext _ ha')
            · exact wpAnyT_first ho him.1 hok hq hgr _ ls a w inv (Region.free_spec ho hc.1) hr (.inl ⟨hwn, .inl fun w hw => hrun he1 w (fun p hp => hl w hw p (by simp [hp]))⟩) hS (hnext _ ha')
          · cases h
        · cases h
      · cases h
    · cases h
theorem tt_run {m : Nat} (is : List Nat) (keys : List Nat) (js : List Nat) (fuel' : Nat) {listed' : Array Bool} {l : List (Addr × Value)} (hl : Lds B0 G L0 l) (h : takek P F n is listed keys l E = some (E', l.map Prod.fst, listed')) (hok : (headOk (rg F n) m && listOk (rg F n) m listed && is.all (· < m)) = true) (hf : fuel = fuel' + is.length)
    (x : Ext B0 B) (hj : okPick js L.length = true) (hp : pick js L = L0) (next : Wt P F R K (fun w => St B0 G L0 w) n m fuel' listed' E' B G L) : Wt P F R K (fun w => St B0 G L0 w) n m fuel listed E B G L := by
  intro a w ha hw
  show wpAnyT _ _ _ _ _ _ _ _ _
  simp only [Bool.and_eq_true] at hok
  unfold takek at h
  split at h
  · rename_i hc
    rw [Bool.and_eq_true] at hc
    split at h
    · rename_i E1 us ls hs
      split at h
      · rename_i E2 hk
        simp only [Option.some.injEq, Prod.mk.injEq] at h
        obtain ⟨rfl, hus, rfl⟩ := h
        obtain ⟨u, e1, l1, s1⟩ := takesT_ok (R := R) (K := K) hc.1 hok.1.1 hgrow _ hok.2 (listOk_inv hok.1.2) hs
        rw [List.append_nil] at e1
        subst e1
        rw [hf]
        exact s1 hus fuel' a w ha (St.weaken x (by rw [← hp]; exact hw.pick js hj)) (fun w hw => hl w hw) (fun a' ha' => next a' w (ha'.sub (keep_sub hk)) hw)
      · cases h
    · cases h
  · cases h
theorem tt_val {m : Nat} (i d : Nat) (op : Op) (v : Value) (js : List Nat) (h : opAt F n i E = some (d, op)) (hv : Val P F op E B0 G L0 v) (hc : (headOk (rg F n) m && listOk (rg F n) m listed && Nat.blt i m && Region.free .any (rg F n) listed i && (Region.ready .any (rg F n) listed).contains i) = true) (x : Ext B0 B) (hj : okPick js L.length = true) (hp : pick js L = L0)
    (next : Wt P F R K (fun w => St B0 G L0 w) n m fuel (listed.setIfInBounds i true) ((d, v) :: E) B G L) : Wt P F R K (fun w => St B0 G L0 w) n m (fuel + 1) listed E B G L := by
  obtain ⟨o, ho, hop, hdst, hdn, hw⟩ := opAt_spec h
  intro a w ha hs
  simp only [Bool.and_eq_true] at hc
  refine wpAnyT_first ho (Nat.le_of_ble_eq_true hc.1.1.2) hc.1.1.1.1 hq hgrow _ _ a w (listOk_inv hc.1.1.1.2) (Region.free_spec ho hc.1.2) (by simpa using hc.2) (.inl ⟨hw a ha, .inl fun w hw => hv a w o hop ha hw⟩) (St.weaken x (by rw [← hp]; exact hs.pick js hj)) ?_
  rw [hdst]
  exact next _ w (ha.put hdn) hs
def Atom.isBlk : Atom → Bool
  | .blk .. => true
  | _ => false
theorem calls_grow {f : FuncId} {args : Array Value} {v : Value} {Lj : List Atom} (hb : Lj.all Atom.isBlk = true)
    (hc : ∀ B', Ext B0 B' → ∀ G' w, St B' G' Lj w → Calls P f args w (fun e w' => e = .returned v ∧ St B' G' Lj w')) (w : World) (hs : St B0 G Lj w) : Calls P f args w (fun e w' => e = .returned v ∧ Grow w w') := by
  obtain ⟨⟨own, h1, h2⟩, hio⟩ := hs
  let C0 : Nat → Prop := fun b => own b = some 0
  let C1 : Nat → Prop := fun b => b < w.heap.size ∧ own b ≠ some 0 ∧ ∀ (j : Nat) (cs : List Value) (t : TypeId), Lj[j]? ≠ some (Atom.blk b cs t)
  let B1 : Asn := ⟨fun S h => (∃ S0, (∀ b, S0 b → S b) ∧ B0.P S0 h) ∧ ∀ b, C0 b → S b ∧ h[b]? = w.heap[b]?, fun {S h h'} hh hp => by
    obtain ⟨⟨S0, e1, e2⟩, e3⟩ := hp
    exact ⟨⟨S0, e1, B0.loc (fun b hb => hh b (e1 b hb)) e2⟩, fun b hb => ⟨(e3 b hb).1, (hh b (e3 b hb).1).trans (e3 b hb).2⟩⟩, some (w.os, w.output)⟩
  let G1 : Asn := ⟨fun S h => ∀ b, C1 b → S b ∧ h[b]? = w.heap[b]?, fun {S h h'} hh hp b hb => ⟨(hp b hb).1, (hh b (hp b hb).1).trans (hp b hb).2⟩, none⟩
  have x1 : Ext B0 B1 := ⟨fun x hx => by obtain ⟨e1, e2⟩ := hio x hx; show some (w.os, w.output) = some x; rw [e1, e2], fun S h hp => hp.1⟩
  have hblk : ∀ (j : Nat) (A : Atom), Lj[j]? = some A → ∃ g cs t, A = Atom.blk g cs t := by
    intro j A hj
    simp only [List.all_eq_true] at hb
    have := hb A (List.mem_of_getElem? hj)
    cases A with
    | blk g cs t => exact ⟨g, cs, t, rfl⟩
    | _ => cases this
  classical
  have hst : St B1 G1 Lj w := by
    refine ⟨?_, fun x hx => by cases hx; exact ⟨rfl, rfl⟩⟩
    refine ⟨fun b => if C1 b then some 1 else own b, fun b j hj => ?_, fun j A hj => ?_⟩
    · dsimp only at hj
      split at hj
      · rename_i hc1; exact hc1.1
      · exact h1 b j hj
    · match j, hj with
      | 0, hj =>
        simp at hj; subst hj
        have e : ∀ b, own b = some 0 → (if C1 b then some 1 else own b) = some 0 := fun b hb => by
          have : ¬ C1 b := fun hc => hc.2.1 hb
          simp [this, hb]
        exact ⟨⟨_, fun b hb => e b hb, h2 0 (.asn B0) rfl⟩, fun b hb => ⟨e b hb, rfl⟩⟩
      | 1, hj =>
        simp at hj; subst hj
        intro b hb
        exact ⟨by simp [hb], rfl⟩
      | j + 2, hj =>
        have hj' : Lj[j]? = some A := by simpa using hj
        have h3 := h2 (j + 2) A hj
        obtain ⟨g, cs, t, rfl⟩ := hblk j A hj'
        refine ⟨?_, h3.2⟩
        have hg : own g = some (j + 2) := h3.1
        have : ¬ C1 g := fun hc => hc.2.2 j cs t hj'
        simp [this, hg]
  refine (hc B1 x1 G1 w hst).mono ?_
  rintro e w' ⟨rfl, ⟨own', k1, k2⟩, kio⟩
  refine ⟨rfl, ?_⟩
  have key : ∀ b, b < w.heap.size → b < w'.heap.size ∧ w'.heap[b]? = w.heap[b]? := by
    intro b hb
    by_cases c1 : C1 b
    · have := (k2 1 (.asn G1) rfl) b c1
      exact ⟨k1 b 1 this.1, this.2⟩
    · by_cases c0 : C0 b
      · have := (k2 0 (.asn B1) rfl).2 b c0
        exact ⟨k1 b 0 this.1, this.2⟩
      · have : ∃ (j : Nat) (cs : List Value) (t : TypeId), Lj[j]? = some (Atom.blk b cs t) := by
          apply Classical.byContradiction
          intro hn
          exact c1 ⟨hb, c0, fun j cs t hj => hn ⟨j, cs, t, hj⟩⟩
        obtain ⟨j, cs, t, hj⟩ := this
        have e1 := h2 (j + 2) _ (by simpa using hj)
        have e2 := k2 (j + 2) _ (by simpa using hj)
        exact ⟨k1 b _ e2.1, e2.2.trans e1.2.symm⟩
  refine ⟨?_, fun b hb => (key b hb).2, kio _ rfl⟩
  rcases Nat.eq_zero_or_pos w.heap.size with h0 | h0
  · omega
  · have := (key (w.heap.size - 1) (by omega)).1
    omega
theorem tt_call {m : Nat} (i d : Nat) (f : FuncId) (args : Array Value) (v : Value) (is js : List Nat) (h : callAt P F n i E = some (some d, f, args)) (hi : okPick is L0.length = true) (hb : (pick is L0).all Atom.isBlk = true)
    (hc : ∀ B', Ext B0 B' → ∀ G' w, St B' G' (pick is L0) w → Calls P f args w (fun e w' => e = .returned v ∧ St B' G' (pick is L0) w'))
    (hk : (headOk (rg F n) m && listOk (rg F n) m listed && Nat.blt i m && Region.free .any (rg F n) listed i && (Region.ready .any (rg F n) listed).contains i) = true) (x : Ext B0 B) (hj : okPick js L.length = true) (hp : pick js L = L0)
    (next : Wt P F R K (fun w => St B0 G L0 w) n m fuel (listed.setIfInBounds i true) ((d, v) :: E) B G L) : Wt P F R K (fun w => St B0 G L0 w) n m (fuel + 1) listed E B G L := by
  obtain ⟨o, ho, hdst, hdn, hw⟩ := callAt_spec h
  intro a w ha hs
  simp only [Bool.and_eq_true] at hk
  refine wpAnyT_first (v := v) ho (Nat.le_of_ble_eq_true hk.1.1.2) hk.1.1.1.1 hq hgrow _ _ a w (listOk_inv hk.1.1.1.2) (Region.free_spec ho hk.1.2) (by simpa using hk.2) (.inl ⟨(hw a ha).1, .inr ⟨f, args, fun w hS => ⟨(hw a ha).2 w, calls_grow hb hc w (hS.pick is hi)⟩⟩⟩) (St.weaken x (by rw [← hp]; exact hs.pick js hj)) ?_
  rw [hdst]
  exact next _ w (ha.put (hdn d rfl)) hs
theorem t_split {T : Act → World → Prop} (t : Nat) (b : Bool) (h : E.lookup t = some (.bool b)) (ht : b = true → Tg F T ((t, .bool true) :: E) B G L) (hf : b = false → Tg F T ((t, .bool false) :: E) B G L) : Tg F T E B G L := by
  intro a w ha hs
  cases b with
  | true => exact ht rfl a w (ha.known h rfl) hs
  | false => exact hf rfl a w (ha.known h rfl) hs
theorem post_same {f : FuncId} {args : Array Value} {v : Value} {B' G' : Asn} {Lj : List Atom} {w : World} (h : Calls P f args w (Post (fun _ : Unit => v) (fun _ => B') G' (fun _ => Lj) (fun _ => True))) : Calls P f args w (fun e w' => e = .returned v ∧ St B' G' Lj w') :=
  h.mono (fun _ _ ⟨_, _, he, hs⟩ => ⟨he, hs⟩)
def AllOf (p : Nat → Prop) : List Nat → Prop
  | [] => True
  | i :: is => p i ∧ AllOf p is
theorem AllOf.spec {p : Nat → Prop} : ∀ {is : List Nat}, AllOf p is → ∀ i ∈ is, p i
  | i :: is, h, j, hj => by
    rcases List.mem_cons.1 hj with rfl | hj
    · exact h.1
    · exact AllOf.spec h.2 j hj
theorem tt_all {m : Nat} (rs : List Nat) (js : List Nat) (x : Ext B0 B) (hj : okPick js L.length = true) (hp : pick js L = L0) (hr : Region.ready .any (rg F n) listed = rs) (hi : (!rs.isEmpty && rs.all (Nat.blt · m)) = true)
    (h : AllOf (fun i => Stp P F R K n i (fun a w => wpAnyT P (rg F n) (kp P F R K) (fun w => St B0 G L0 w) m fuel (listed.setIfInBounds i true) a w) E B G L) rs) :
    Wt P F R K (fun w => St B0 G L0 w) n m (fuel + 1) listed E B G L := fun a w ha hw w' hg => by
  simp only [Bool.and_eq_true, Bool.not_eq_true', List.isEmpty_eq_false_iff, List.all_eq_true] at hi
  refine ⟨St.weaken x (by rw [← hp]; exact (hw.grow hg).pick js hj), by rw [hr]; exact hi.1, fun q hq => ?_⟩
  rw [hr] at hq
  exact ⟨Nat.le_of_ble_eq_true (hi.2 q hq), h.spec q hq a w' ha (hw.grow hg)⟩
theorem s_val {T : Act → World → Prop} (d : Nat) (op : Op) (v : Value) (h : opAt F n i E = some (d, op)) (hv : Val P F op E B G L v) (next : Tg F T ((d, v) :: E) B G L) : Stp P F R K n i T E B G L := by
  obtain ⟨o, ho, hop, hdst, hdn, hw⟩ := opAt_spec h
  intro a w ha hs
  show wpOp P (rg F n) (kp P F R K) i T a w
  unfold wpOp
  simp only [ho]
  rw [if_pos (hw a ha)]
  refine .inl (upon_wp (hv a w o hop ha hs) ?_)
  rw [hdst]
  exact next _ w (ha.put hdn) hs
def one1 (P : Program) (F : Func) (n i : Nat) (l : List (Addr × Value)) (E : Env) : Option (Env × List Addr) :=
  if dstsOk F.ntmps (rg F n) then
    match (rg F n)[i]? with
    | some o => match step1 P (rg F n) o E l with
      | some (E', us, []) => some (E', us)
      | _ => none
    | none => none
  else none
theorem s_one {T : Act → World → Prop} {l : List (Addr × Value)} (hl : Lds B G L l) (h : one1 P F n i l E = some (E', l.map Prod.fst)) (next : Tg F T E' B G L) : Stp P F R K n i T E B G L := by
  intro a w ha hs
  show wpOp P (rg F n) (kp P F R K) i T a w
  unfold one1 at h
  split at h
  · rename_i hd
    split at h
    · rename_i o ho
      split at h
      · rename_i E1 us h1
        simp only [Option.some.injEq, Prod.mk.injEq] at h
        obtain ⟨rfl, hus⟩ := h
        obtain ⟨u1, e1, l1, s1⟩ := step1_ok hd (by simpa using Array.mem_of_getElem? ho) h1
        rw [List.append_nil] at e1
        subst e1
        unfold wpOp
        simp only [ho]
        rcases s1 a ha with ⟨hwn, ha'⟩ | ⟨v, hwn, hrun, ha'⟩
        · rw [hwn]; exact next _ w ha' hs
        · rw [hwn, if_pos rfl]
          exact .inl (upon_wp (hrun hus w (hl w hs)) (next _ w ha' hs))
      · cases h
    · cases h
  · cases h
end
def resOf (F : Func) (E : Env) : Option Value :=
  match F.results.toList with
  | [.tmp t] => E.lookup t
  | [] => some (.tuple #[])
  | [.tmp t, .tmp u] => match E.lookup t, E.lookup u with | some x, some y => some (.tuple #[x, y]) | _, _ => none
  | [.tmp t, .tmp u, .tmp v] => match E.lookup t, E.lookup u, E.lookup v with | some x, some y, some z => some (.tuple #[x, y, z]) | _, _, _ => none
  | _ => none
theorem resOf_run {P : Program} {F : Func} {E : Env} {v : Value} (h : resOf F E = some v) : ∀ a w, EnvOk E F.ntmps a → (results F a.tmps).run P w = .ok v w := by
  intro a w ha
  unfold resOf at h
  split at h
  · rename_i t e
    have e' : F.results = #[.tmp t] := by apply Array.ext'; simpa using e
    rw [results_tmp e', ha.2.2 t v h]
  · rename_i e
    have e' : F.results = #[] := by apply Array.ext'; simpa using e
    rw [results_none e']; simp at h; rw [h]
  · rename_i t u e
    have e' : F.results = #[.tmp t, .tmp u] := by apply Array.ext'; simpa using e
    split at h
    · rename_i x y hx hy
      injection h with h
      rw [results_tmp2 e', ha.2.2 t x hx, ha.2.2 u y hy, h]
    · cases h
  · rename_i t u v e
    have e' : F.results = #[.tmp t, .tmp u, .tmp v] := by apply Array.ext'; simpa using e
    split at h
    · rename_i x y z hx hy hz
      injection h with h
      rw [← h, ← ha.2.2 t x hx, ← ha.2.2 u y hy, ← ha.2.2 v z hz]
      simp [results, e']
    · cases h
  · cases h
section
variable {T : Act → World → Prop} {P : Program} {F : Func} {K : List Kont} {n i d : Nat} {E E' : Env} {B B' G : Asn} {L L' : List Atom}
theorem e_retP {X : Type} {v : X → Value} {B' : X → Asn} {L' : X → List Atom} {Φ : X → Prop} (x : X) (u : Value) (js : List Nat) (h : resOf F E = some u) (hu : u = v x) (hb : B = B' x) (hj : okPick js L.length = true) (hl : pick js L = L' x) (hx : Φ x) : We P F (Post v B' G L' Φ) K .ret E B G L :=
  e_ret u (resOf_run h) (fun w hw => ⟨x, hx, by rw [hu], by rw [← hb, ← hl]; exact hw.pick js hj⟩)
theorem e_endP {X : Type} {v : X → Value} {B' : X → Asn} {L' : X → List Atom} {Φ : X → Prop} (x : X) (u : Value) (js : List Nat) (h : resOf F E = some u) (hu : u = v x) (hb : B = B' x) (hj : okPick js L.length = true) (hl : pick js L = L' x) (hx : Φ x) : We P F (Post v B' G L' Φ) [] .normal E B G L :=
  e_end u (resOf_run h) (fun w hw => ⟨x, hx, by rw [hu], by rw [← hb, ← hl]; exact hw.pick js hj⟩)
end
theorem sl_of_own {α : Type} {d : Kd α} {B : Asn} {A : Option Addr} {c : Nat} {xs : List α} {t : TypeId} {css : List (List Value)} (hl : css.length = xs.length) (hK : ∀ (i : Nat) (x : α) (cs : List Value), xs[i]? = some x → css[i]? = some cs → d.K B x cs) (hc : xs.length ≤ c) :
    Sl d (V.froz B (.own A xs.length c css.flatten d.sz t)) A c xs := by
  have hlen : ∀ cs ∈ css, cs.length = d.sz := by
    intro cs hcs
    obtain ⟨i, hi, he⟩ := List.mem_iff_getElem.1 hcs
    exact d.len (hK i (xs[i]'(by omega)) cs (List.getElem?_eq_getElem (by omega)) (by rw [List.getElem?_eq_getElem hi, he]))
  have hat : ∀ (css : List (List Value)), (∀ cs ∈ css, cs.length = d.sz) → ∀ (i : Nat) (cs : List Value), css[i]? = some cs → ∀ (k : Nat) (v : Value), cs[k]? = some v → css.flatten[i * d.sz + k]? = some v := by
    intro css
    induction css with
    | nil => intro _ i cs h; simp at h
    | cons c0 css ih =>
      intro hl i cs h k v hk
      cases i with
      | zero =>
        simp at h; subst h
        rw [Nat.zero_mul, Nat.zero_add, List.flatten_cons, List.getElem?_append_left (List.getElem?_eq_some_iff.1 hk).1]
        exact hk
      | succ i =>
        simp only [List.getElem?_cons_succ] at h
        have h0 := hl c0 (by simp)
        rw [List.flatten_cons, List.getElem?_append_right (by rw [h0, Nat.add_mul]; omega), h0, show (i + 1) * d.sz + k - d.sz = i * d.sz + k by rw [Nat.add_mul]; omega]
        exact ih (fun cs hcs => hl cs (by simp [hcs])) i cs h k v hk
  have hkt : ∀ S h, (V.froz B (.own A xs.length c css.flatten d.sz t)).P S h → ∃ S', (Atom.own A xs.length c css.flatten d.sz t).P S' h := fun S h ⟨_, _, hA⟩ => ⟨_, hA 1 _ rfl⟩
  refine ⟨hc, fun i x hx => ?_⟩
  have hi : i < css.length := by rw [hl]; exact (List.getElem?_eq_some_iff.1 hx).1
  refine ⟨css[i], d.up (Ext.froz _ _) (hK i x _ hx (List.getElem?_eq_getElem hi)), fun S h hp => ?_⟩
  obtain ⟨S', h1, h2, h3, h4⟩ := hkt S h hp
  rcases h4 with ⟨rfl, h5, _⟩ | ⟨g, sp, rfl, _, _, hg⟩
  · have := (List.getElem?_eq_some_iff.1 hx).1
    omega
  · refine ⟨rfl, fun k v hk => ?_⟩
    have hv := hat css hlen i _ (List.getElem?_eq_getElem hi) k v hk
    rw [adr_add rfl]
    rw [adr_blk]
    simp only [hcell, hg, Option.isSome_none, Bool.false_eq_true, if_false]
    rw [List.getElem?_toArray, List.getElem?_append_left (List.getElem?_eq_some_iff.1 hv).1]
    exact hv
theorem sl_of_row {α : Type} {enc : α → List Value} {sz : Nat} {pos : 0 < sz} {len : ∀ x, (enc x).length = sz} {one : ∀ x, ∀ u ∈ enc x, u.oneCell' = true} {B : Asn} {A : Option Addr} {c : Nat} {xs : List α} {t : TypeId} (hc : xs.length ≤ c) :
    Sl (flat enc sz pos len one) (V.froz B (.own A xs.length c (rowOf enc xs) sz t)) A c xs := by
  have e : rowOf enc xs = (xs.map enc).flatten := by unfold rowOf; rw [List.flatMap_def]
  rw [e]
  refine sl_of_own (d := flat enc sz pos len one) (by simp) (fun i x cs hx hcs => ?_) hc
  rw [List.getElem?_map, hx] at hcs
  simpa [flat] using hcs.symm
section
variable {T : Act → World → Prop} {P : Program} {F : Func} {R : Ending → World → Prop} {K : List Kont} {n i d : Nat} {E E' : Env} {B B' G : Asn} {L L' : List Atom} {α : Type} {enc : α → List Value} {sz : Nat} {pos : 0 < sz} {len : ∀ x, (enc x).length = sz} {one : ∀ x, ∀ u ∈ enc x, u.oneCell' = true} {A : Option Addr} {m c : Nat} {xs ys zs : List α} {t : TypeId}
theorem t_frozS (d : Kd α) (hd : d = flat enc sz pos len one) (hl : m = xs.length) (next : ∀ B2, Ext B B2 → Sl d B2 A c xs → Tg F T E B2 G L) : Tg F T E B G (.own A m c (rowOf enc xs) sz t :: L) := by
  intro a w ha hs
  have hc := (hs.own_len (j := 0) rfl).2
  subst hl hd
  exact next _ (Ext.froz _ _) (sl_of_row hc) a w ha hs.froz
def loV (E : Env) : Option Operand → Option Int
  | none => some 0
  | some x => match ev E x with | some (.int _ i) => some i | _ => none
def hiV (E : Env) (m : Nat) : Option Operand → Option Int
  | none => some m
  | some x => match ev E x with | some (.int _ i) => some i | _ => none
theorem loV_bnd {o : Option Operand} {l : Int} (h : loV E o = some l) : ∃ b, bnd E o = some b ∧ b.getD 0 = l := by
  cases o with
  | none => simp only [loV, Option.some.injEq] at h; exact ⟨none, rfl, h⟩
  | some x =>
    simp only [loV] at h
    split at h
    · rename_i k j hj; injection h with h; exact ⟨some j, by simp [bnd, hj], h⟩
    · cases h
theorem hiV_bnd {o : Option Operand} {m : Nat} {l : Int} (h : hiV E m o = some l) : ∃ b, bnd E o = some b ∧ b.getD m = l := by
  cases o with
  | none => simp only [hiV, Option.some.injEq] at h; exact ⟨none, rfl, h⟩
  | some x =>
    simp only [hiV] at h
    split at h
    · rename_i k j hj; injection h with h; exact ⟨some j, by simp [bnd, hj], h⟩
    · cases h
theorem i_slice {dk : Kd α} {l h : Int} (t' : TypeId) (x : Operand) (lo hi : Option Operand) (hs : Sl dk B A c xs) (e : cut xs l h = some ys) (hx : ev E x = some (.slice A xs.length c)) (ht : elemSz P t' = some dk.sz) (hl : loV E lo = some l) (hh : hiV E xs.length hi = some h) :
    Val P F (.slice t' x lo hi none) E B G L (.slice (cutA A l.toNat c dk.sz) ys.length (c - l.toNat)) := by
  obtain ⟨h0, h1, h2, h3, h4⟩ := cut_some e
  have hc := hs.1
  obtain ⟨b1, e1, f1⟩ := loV_bnd hl
  obtain ⟨b2, e2, f2⟩ := hiV_bnd hh
  exact v_slice (l' := l.toNat) (h' := h.toNat) (k' := c) (k := none) hx ht e1 e2 rfl (fun h => by cases h) (by omega) (by omega) rfl (by omega) (by omega) (Nat.le_refl _) h4 rfl
theorem i_slice3 {dk : Kd α} {l h : Int} (t' : TypeId) (x : Operand) (lo hi mx : Option Operand) (hs : Sl dk B A c xs) (e : cut xs l h = some ys) (hx : ev E x = some (.slice A xs.length c)) (ht : elemSz P t' = some dk.sz) (hl : loV E lo = some l) (hh : hiV E xs.length hi = some h) (hk : bnd E mx = some (some h)) (hhi : hi.isSome = true) :
    Val P F (.slice t' x lo hi mx) E B G L (.slice (cutA A l.toNat h.toNat dk.sz) ys.length (h.toNat - l.toNat)) := by
  obtain ⟨h0, h1, h2, h3, h4⟩ := cut_some e
  have hc := hs.1
  obtain ⟨b1, e1, f1⟩ := loV_bnd hl
  obtain ⟨b2, e2, f2⟩ := hiV_bnd hh
  exact v_slice (l' := l.toNat) (h' := h.toNat) (k' := h.toNat) (k := some h) hx ht e1 e2 hk (fun _ => hhi) (by omega) (by omega) (by simp only [Option.getD_some]; omega) (by omega) (Nat.le_refl _) (by omega) h4 rfl
theorem sl_cut {dk : Kd α} {l h : Int} (hs : Sl dk B A c xs) (e : cut xs l h = some ys) : Sl dk B (cutA A l.toNat c dk.sz) (c - l.toNat) ys := by
  obtain ⟨h0, h1, h2, h3, h4⟩ := cut_some e
  have hc := hs.1
  rw [h3]
  exact hs.cut c (Nat.le_refl _) (by omega) (by omega) (by omega)
theorem sl_cut3 {dk : Kd α} {l h : Int} (hs : Sl dk B A c xs) (e : cut xs l h = some ys) : Sl dk B (cutA A l.toNat h.toNat dk.sz) (h.toNat - l.toNat) ys := by
  obtain ⟨h0, h1, h2, h3, h4⟩ := cut_some e
  have hc := hs.1
  rw [h3]
  exact hs.cut h.toNat (by omega) (by omega) (by omega) (Nat.le_refl _)
theorem row_get (hlen : ∀ x, (enc x).length = sz) (h0 : 0 < sz) {k : Nat} {v : Value} (h : (rowOf enc ys)[k]? = some v) : ∃ y, ys[k / sz]? = some y ∧ (enc y)[k % sz]? = some v := by
  have hk : k < (rowOf enc ys).length := (List.getElem?_eq_some_iff.1 h).1
  rw [row_len hlen] at hk
  have hi : k / sz < ys.length := Nat.div_lt_of_lt_mul (by rw [Nat.mul_comm]; exact hk)
  refine ⟨ys[k / sz], List.getElem?_eq_getElem hi, ?_⟩
  have hat := row_at hlen (List.getElem?_eq_getElem hi)
  rw [← hat, List.getElem?_take, if_pos (by rw [hlen]; exact Nat.mod_lt _ h0), List.getElem?_drop, Nat.mul_comm, Nat.div_add_mod]
  exact h
theorem src_sl {tx e : TypeId} {dk : Kd α} (hd : dk = flat enc sz pos len one) (hk : P.underlying tx = some (.slice e)) (hs : Sl dk B A c ys) : SrcAt P B G L tx (.slice A ys.length c) ys.length (rowOf enc ys) sz := by
  subst hd
  intro w hw
  cases A with
  | none =>
    have hy : ys = [] := by
      cases ys with
      | nil => rfl
      | cons y ys =>
        have := hs.some (G := G) (L := L) (i := 0) (x := y) rfl w hw
        cases this
    subst hy
    exact Src.ofNil w hk c
  | some a =>
    refine Src.ofSlice w hk a ys.length c _ (row_len len ys) (fun k v hv => ?_) (row_cells one ys)
    obtain ⟨y, h1, h2⟩ := row_get len pos hv
    obtain ⟨cs, hK, hc⟩ := hs.2 _ _ h1
    have hcs : cs = enc y := hK
    subst hcs
    have := (hw.base hc).2 _ _ h2
    rw [adr_add rfl] at this
    have e2 : k / sz * (flat enc sz pos len one).sz + k % sz = k := by
      show k / sz * sz + k % sz = k
      rw [Nat.mul_comm]; exact Nat.div_add_mod k sz
    rw [e2] at this
    exact this
theorem src_own {tx e : TypeId} {j : Nat} (hk : P.underlying tx = some (.slice e)) (hj : L[j]? = some (.own A m c (rowOf enc ys) sz t)) : SrcAt P B G L tx (.slice A m c) m (rowOf enc ys) sz := by
  intro w hw
  obtain ⟨S, h1, h2, h3, h4⟩ := hw.at hj
  rcases h4 with ⟨rfl, rfl, rfl⟩ | ⟨g, sp, rfl, _, _, hg⟩
  · have : rowOf enc ys = [] := by simpa using h1
    rw [this]; exact Src.ofNil w hk 0
  · exact Src.ofSlice w hk _ m c _ h1 (fun k v hv => (hw.own_cell hj hv).2) h3
theorem src_blk {tx e : TypeId} {j g N : Nat} {cs : List Value} (hk : P.underlying tx = some (.slice e)) (hj : L[j]? = some (.blk g cs t)) (hr : cs = rowOf enc ys) (hl : cs.length = N * sz) (h1 : cs.all (·.oneCell') = true) : SrcAt P B G L tx (.slice (some ⟨g, 0, none⟩) N N) N (rowOf enc ys) sz := by
  intro w hw
  replace h1 : ∀ u ∈ cs, u.oneCell' = true := by simpa using h1
  subst hr
  have hg := hw.blk hj
  refine Src.ofSlice w hk _ N N _ hl (fun k v hv => ?_) h1
  have e' : (⟨g, 0, none⟩ : Addr).add k = ⟨g, k, none⟩ := adr_blk g k
  rw [e']
  simp only [World.cell?, hg, Option.isSome_none, Bool.false_eq_true, if_false, List.getElem?_toArray]
  exact hv
theorem src_nil {tx e : TypeId} (hk : P.underlying tx = some (.slice e)) : SrcAt P B G L tx (.slice none 0 0) 0 (rowOf enc ([] : List α)) sz := fun w _ => Src.ofNil w hk 0
theorem app_len {k : Nat} (hn : m = xs.length) (hk : k = ys.length) (h : app xs ys = some zs) : m + k = zs.length := by
  obtain ⟨e, _⟩ := app_some h
  rw [e, hn, hk, List.length_append]
theorem s_app {bytes : Nat} {z : Value} {k : Nat} {X : Value} (d : Nat) (ty tx : TypeId) (x y : Operand) (j : Nat) {e : TypeId} (happ : app xs ys = some zs) (hn : m = xs.length) (hk : k = ys.length) (h : opAt F n i E = some (d, .call { callee := .builtin .append, args := #[x, y], argTypes := #[ty, tx] }))
    (hx : ev E x = some (.slice A m c)) (hy : ev E y = some X) (ht : P.underlying ty = some (.slice e)) (hi : (P.info? e).map (fun i => (i.zero, i.size, i.bytes)) = some (some z, sz, bytes)) (hz : z.cells.size = sz) (hj : L[j]? = some (.own A m c (rowOf enc xs) sz e))
    (hsrc : SrcAt P B G L tx X k (rowOf enc ys) sz) (hb : bytes ≤ 32768) (next : ∀ A' c', Tg F T ((d, .slice A' zs.length c') :: E) B G (L.set j (.own A' zs.length c' (rowOf enc zs) sz e))) : Stp P F R K n i T E B G L := by
  rw [← app_len hn hk happ] at next
  obtain ⟨e1, e2⟩ := app_some happ
  have hle : m + k ≤ 4294967296 := by omega
  refine s_eff d _ h (e_append rfl hx hy ht hi hz hj hsrc ?_ (by omega)) (fun p _ => ?_)
  · have h1 : (m + k) * bytes ≤ 4294967296 * 32768 := Nat.mul_le_mul hle hb
    omega
  · rw [← row_app, ← e1]
    exact next p.1 p.2
end
end Go.V
