/- The assertions of memory: which blocks are whose, and what they hold. -/
import Derived.WalkKit
import Derived.KernelRfl
import Derived.Deep.Quiet
import Derived.OrdersHeld
namespace Go.V
open Go
abbrev Hp := Array Obj
structure Asn where
  P : (Nat → Prop) → Hp → Prop
  loc : ∀ {S : Nat → Prop} {h h' : Hp}, (∀ b, S b → h'[b]? = h[b]?) → P S h → P S h'
  io : Option (Os × Array (Nat × ByteArray)) := none
inductive Atom where
  | obj (g : Nat) (o : Obj)
  | blk (g : Nat) (cs : List Value) (t : TypeId)
  | own (A : Option Addr) (n c : Nat) (cs : List Value) (sz : Nat) (t : TypeId)
  | asn (A : Asn)
def Atom.P : Atom → (Nat → Prop) → Hp → Prop
  | .obj g o, S, h => S g ∧ h[g]? = some o
  | .blk g cs t, S, h => S g ∧ h[g]? = some (.cells cs.toArray t (0, 0))
  | .own A n c cs sz t, S, h => cs.length = n * sz ∧ n ≤ c ∧ (∀ u ∈ cs, u.oneCell' = true) ∧
      ((A = none ∧ n = 0 ∧ c = 0) ∨ ∃ g sp, A = some ⟨g, 0, none⟩ ∧ S g ∧ sp.length = (c - n) * sz ∧ h[g]? = some (.cells (cs ++ sp).toArray t (0, 0)))
  | .asn A, S, h => A.P S h
theorem Atom.loc {A : Atom} {S : Nat → Prop} {h h' : Hp} (hh : ∀ b, S b → h'[b]? = h[b]?) (hp : A.P S h) : A.P S h' := by
  cases A with
  | obj g o => exact ⟨hp.1, (hh _ hp.1).trans hp.2⟩
  | blk g cs t => exact ⟨hp.1, (hh _ hp.1).trans hp.2⟩
  | own A n c cs sz t =>
    obtain ⟨h1, h2, h3, h4⟩ := hp
    refine ⟨h1, h2, h3, h4.imp id ?_⟩
    rintro ⟨g, sp, e, hS, hl, hg⟩
    exact ⟨g, sp, e, hS, hl, (hh _ hS).trans hg⟩
  | asn A => exact A.loc hh hp
def Sep (L : List Atom) (S : Nat → Prop) (h : Hp) : Prop :=
  ∃ f : Nat → Option Nat, (∀ b j, f b = some j → S b) ∧ ∀ (j : Nat) (A : Atom), L[j]? = some A → A.P (fun b => f b = some j) h
theorem Sep.loc {L : List Atom} {S : Nat → Prop} {h h' : Hp} (hh : ∀ b, S b → h'[b]? = h[b]?) (hp : Sep L S h) : Sep L S h' := by
  obtain ⟨f, hf, hA⟩ := hp
  exact ⟨f, hf, fun j A hj => Atom.loc (fun b hb => hh b (hf b j hb)) (hA j A hj)⟩
def all (L : List Atom) : Asn := ⟨Sep L, Sep.loc, none⟩
def emp : Asn := ⟨fun _ _ => True, fun _ _ => trivial, none⟩
theorem Sep.mono {L : List Atom} {S S' : Nat → Prop} {h : Hp} (hs : ∀ b, S b → S' b) (hp : Sep L S h) : Sep L S' h := by
  obtain ⟨f, hf, hA⟩ := hp
  exact ⟨f, fun b j hb => hs b (hf b j hb), hA⟩
def Stt (B G : Asn) (L : List Atom) (h : Hp) : Prop := Sep (.asn B :: .asn G :: L) (fun b => b < h.size) h
def Io (B : Asn) (w : World) : Prop := ∀ x, B.io = some x → w.os = x.1 ∧ w.output = x.2
def SameIo (w w' : World) : Prop := w'.os = w.os ∧ w'.output = w.output
theorem Io.same {B : Asn} {w w' : World} (h : Io B w) (e : SameIo w w') : Io B w' := fun x hx => ⟨e.1.trans (h x hx).1, e.2.trans (h x hx).2⟩
def St (B G : Asn) (L : List Atom) (w : World) : Prop := Stt B G L w.heap ∧ Io B w
def Has (B : Asn) (φ : Hp → Prop) : Prop := ∀ S h, B.P S h → φ h
def Ext (B B' : Asn) : Prop := (∀ x, B.io = some x → B'.io = some x) ∧ ∀ S h, B'.P S h → ∃ S', (∀ b, S' b → S b) ∧ B.P S' h
theorem Ext.refl (B : Asn) : Ext B B := ⟨fun _ h => h, fun S _ hp => ⟨S, fun _ h => h, hp⟩⟩
theorem Ext.trans {A B C : Asn} (x : Ext A B) (y : Ext B C) : Ext A C := ⟨fun u hu => y.1 u (x.1 u hu), fun S h hp => by
  obtain ⟨S1, h1, p1⟩ := y.2 S h hp
  obtain ⟨S2, h2, p2⟩ := x.2 S1 h p1
  exact ⟨S2, fun b hb => h1 b (h2 b hb), p2⟩⟩
theorem Ext.has {B B' : Asn} (x : Ext B B') {φ : Hp → Prop} (hp : Has B φ) : Has B' φ := fun S h hb => by
  obtain ⟨S1, _, p1⟩ := x.2 S h hb
  exact hp S1 h p1
theorem Io.ext {B B' : Asn} {w : World} (x : Ext B B') (h : Io B' w) : Io B w := fun u hu => h u (x.1 u hu)
def hcell (h : Hp) (a : Addr) : Option Value :=
  match h[a.block]? with
  | some (.cells c _ _) => if a.spot.isSome then none else c[a.off]?
  | _ => none
theorem cell_eq (w : World) (a : Addr) : w.cell? a = hcell w.heap a := rfl
section
variable {B G : Asn} {L : List Atom} {w w' : World} {h h' : Hp}
theorem St.base (hs : St B G L w) {φ : Hp → Prop} (hp : Has B φ) : φ w.heap := by
  obtain ⟨⟨f, _, hA⟩, _⟩ := hs
  exact hp _ _ (hA 0 (.asn B) rfl)
theorem St.of_heap (hs : St B G L w) (e : w'.heap = w.heap) (hio : SameIo w w' := by exact ⟨rfl, rfl⟩) : St B G L w' := by
  refine ⟨?_, hs.2.same hio⟩
  rw [e]; exact hs.1
theorem St.blk (hs : St B G L w) {j g : Nat} {cs : List Value} {t : TypeId} (hj : L[j]? = some (.blk g cs t)) :
    w.heap[g]? = some (.cells cs.toArray t (0, 0)) := by
  obtain ⟨⟨f, _, hA⟩, _⟩ := hs
  exact (hA (j + 2) (.blk g cs t) (by simpa using hj)).2
theorem St.obj (hs : St B G L w) {j g : Nat} {o : Obj} (hj : L[j]? = some (.obj g o)) : w.heap[g]? = some o := by
  obtain ⟨⟨f, _, hA⟩, _⟩ := hs
  exact (hA (j + 2) (.obj g o) (by simpa using hj)).2
theorem St.at (hs : St B G L w) {j : Nat} {A : Atom} (hj : L[j]? = some A) : ∃ S, A.P S w.heap := by
  obtain ⟨⟨f, _, hA⟩, _⟩ := hs
  exact ⟨_, hA (j + 2) A (by simpa using hj)⟩
theorem Sep.set {L : List Atom} {S : Nat → Prop} {h h' : Hp} {j g : Nat} {A A' : Atom} (hs : Sep L S h) (hj : L[j]? = some A)
    (hg : ∀ S, A.P S h → S g) (hA' : ∀ S : Nat → Prop, S g → A'.P S h') (hh : ∀ b, b ≠ g → h'[b]? = h[b]?) : Sep (L.set j A') S h' := by
  obtain ⟨f, hf, hA⟩ := hs
  have hfg : f g = some j := hg _ (hA j A hj)
  refine ⟨f, hf, fun i Ai hi => ?_⟩
  rw [List.getElem?_set] at hi
  by_cases e : j = i
  · subst e
    have hl : j < L.length := (List.getElem?_eq_some_iff.1 hj).1
    simp [hl] at hi
    subst hi
    exact hA' _ hfg
  · rw [if_neg e] at hi
    refine Atom.loc (fun b hb => hh b ?_) (hA i Ai hi)
    rintro rfl
    rw [hfg] at hb
    injection hb with hb
    exact e hb
theorem St.set_blk (hs : St B G L w) {j g : Nat} {cs cs' : List Value} {t t' : TypeId} (hj : L[j]? = some (.blk g cs t)) (hsz : w'.heap.size = w.heap.size)
    (hg : w'.heap[g]? = some (.cells cs'.toArray t' (0, 0))) (hh : ∀ b, b ≠ g → w'.heap[b]? = w.heap[b]?) (hio : SameIo w w' := by exact ⟨rfl, rfl⟩) : St B G (L.set j (.blk g cs' t')) w' := by
  refine ⟨?_, hs.2.same hio⟩
  replace hs := hs.1
  unfold Stt at *
  rw [hsz]
  have := Sep.set (j := j + 2) (g := g) (A := .blk g cs t) (A' := .blk g cs' t') (h' := w'.heap) hs (by simpa using hj) (fun S hp => hp.1) (fun S hS => ⟨hS, hg⟩) hh
  simpa using this
theorem St.set_obj (hs : St B G L w) {j g : Nat} {o o' : Obj} (hj : L[j]? = some (.obj g o)) (hsz : w'.heap.size = w.heap.size)
    (hg : w'.heap[g]? = some o') (hh : ∀ b, b ≠ g → w'.heap[b]? = w.heap[b]?) (hio : SameIo w w' := by exact ⟨rfl, rfl⟩) : St B G (L.set j (.obj g o')) w' := by
  refine ⟨?_, hs.2.same hio⟩
  replace hs := hs.1
  unfold Stt at *
  rw [hsz]
  have := Sep.set (j := j + 2) (g := g) (A := .obj g o) (A' := .obj g o') (h' := w'.heap) hs (by simpa using hj) (fun S hp => hp.1) (fun S hS => ⟨hS, hg⟩) hh
  simpa using this
theorem St.set (hs : St B G L w) {j g : Nat} {A A' : Atom} (hj : L[j]? = some A) (hg : ∀ S, A.P S w.heap → S g) (hA' : ∀ S : Nat → Prop, S g → A'.P S w'.heap)
    (hsz : w'.heap.size = w.heap.size) (hh : ∀ b, b ≠ g → w'.heap[b]? = w.heap[b]?) (hio : SameIo w w' := by exact ⟨rfl, rfl⟩) : St B G (L.set j A') w' := by
  refine ⟨?_, hs.2.same hio⟩
  replace hs := hs.1
  unfold Stt at *
  rw [hsz]
  have := Sep.set (j := j + 2) (g := g) (A := A) (A' := A') (h' := w'.heap) hs (by simpa using hj) hg hA' hh
  simpa using this
theorem Sep.cons {L : List Atom} {S S' : Nat → Prop} {h h' : Hp} {g : Nat} {A : Atom} (hs : Sep L S h) (hnew : ∀ b, S b → b ≠ g) (hS : ∀ b, S b → S' b) (hS' : S' g)
    (hA' : ∀ S : Nat → Prop, S g → A.P S h') (hh : ∀ b, S b → h'[b]? = h[b]?) : Sep (A :: L) S' h' := by
  obtain ⟨f, hf, hA⟩ := hs
  refine ⟨fun b => if b = g then some 0 else (f b).map (· + 1), fun b j hb => ?_, fun i Ai hi => ?_⟩
  · dsimp only at hb
    split at hb
    · rename_i e; rw [e]; exact hS'
    · cases hfb : f b with
      | none => rw [hfb] at hb; cases hb
      | some j' => exact hS b (hf b j' hfb)
  · cases i with
    | zero =>
      simp at hi; subst hi
      exact hA' _ (by simp)
    | succ i =>
      simp at hi
      have e : (fun b => (if b = g then some 0 else (f b).map (· + 1)) = some (i + 1)) = (fun b => f b = some i) := by
        funext b
        apply propext
        by_cases hb : b = g
        · subst hb
          simp only [if_true]
          constructor
          · intro h0; cases h0
          · intro h0; exact absurd rfl (hnew _ (hf _ _ h0))
        · simp [hb]
      rw [e]
      exact Atom.loc (fun b hb => hh b (hf b i hb)) (hA i Ai hi)
theorem Sep.map {L L' : List Atom} {S : Nat → Prop} {h : Hp} (hs : Sep L S h) (k : Nat → Nat) (hk : ∀ i A, L'[i]? = some A → L[k i]? = some A)
    (inj : ∀ i i', i < L'.length → i' < L'.length → k i = k i' → i = i') : Sep L' S h := by
  obtain ⟨f, hf, hA⟩ := hs
  classical
  let f' : Nat → Option Nat := fun b => (f b).bind fun j => if hx : ∃ i, i < L'.length ∧ k i = j then some hx.choose else none
  have hf' : ∀ b i, i < L'.length → (f' b = some i ↔ f b = some (k i)) := by
    intro b i hi
    constructor
    · intro h0
      simp only [f', Option.bind_eq_some_iff] at h0
      obtain ⟨j, hj, h1⟩ := h0
      split at h1
      · rename_i hx
        injection h1 with h1
        have := hx.choose_spec
        rw [h1] at this
        rw [hj, this.2]
      · cases h1
    · intro h0
      simp only [f', Option.bind_eq_some_iff]
      refine ⟨k i, h0, ?_⟩
      have hx : ∃ i', i' < L'.length ∧ k i' = k i := ⟨i, hi, rfl⟩
      rw [dif_pos hx]
      have := hx.choose_spec
      rw [inj _ _ this.1 hi this.2]
  refine ⟨f', fun b j hb => ?_, fun i A hi => ?_⟩
  · simp only [f', Option.bind_eq_some_iff] at hb
    obtain ⟨j', hj', _⟩ := hb
    exact hf b j' hj'
  · have hl : i < L'.length := (List.getElem?_eq_some_iff.1 hi).1
    have e : (fun b => f' b = some i) = (fun b => f b = some (k i)) := by funext b; exact propext (hf' b i hl)
    rw [e]
    exact hA (k i) A (hk i A hi)
theorem St.alloc (hs : St B G L w) {t : TypeId} {cs : List Value} (hsz : w'.heap.size = w.heap.size + 1) (hg : w'.heap[w.heap.size]? = some (.cells cs.toArray t (0, 0)))
    (hh : ∀ b, b < w.heap.size → w'.heap[b]? = w.heap[b]?) (hio : SameIo w w' := by exact ⟨rfl, rfl⟩) : St B G (.blk w.heap.size cs t :: L) w' := by
  have h1 : Sep (.blk w.heap.size cs t :: .asn B :: .asn G :: L) (fun b => b < w'.heap.size) w'.heap :=
    Sep.cons (g := w.heap.size) hs.1 (fun b hb => Nat.ne_of_lt hb) (fun b hb => by omega) (by omega) (fun S hS => ⟨hS, hg⟩) hh
  refine ⟨?_, hs.2.same hio⟩
  refine Sep.map h1 (fun i => if i = 0 then 1 else if i = 1 then 2 else if i = 2 then 0 else i) (fun i A hi => ?_) (fun i i' _ _ => ?_)
  · match i, hi with
    | 0, hi => simpa using hi
    | 1, hi => simpa using hi
    | 2, hi => simpa using hi
    | i + 3, hi => simpa using hi
  · intro h0
    repeat' split at h0
    all_goals omega
theorem St.add (hs : St B G L w) {A : Atom} (hsz : w'.heap.size = w.heap.size + 1) (hA : ∀ S : Nat → Prop, S w.heap.size → A.P S w'.heap)
    (hh : ∀ b, b < w.heap.size → w'.heap[b]? = w.heap[b]?) (hio : SameIo w w' := by exact ⟨rfl, rfl⟩) : St B G (A :: L) w' := by
  have h1 : Sep (A :: .asn B :: .asn G :: L) (fun b => b < w'.heap.size) w'.heap :=
    Sep.cons (g := w.heap.size) hs.1 (fun b hb => Nat.ne_of_lt hb) (fun b hb => by omega) (by omega) hA hh
  refine ⟨?_, hs.2.same hio⟩
  refine Sep.map h1 (fun i => if i = 0 then 1 else if i = 1 then 2 else if i = 2 then 0 else i) (fun i A hi => ?_) (fun i i' _ _ => ?_)
  · match i, hi with
    | 0, hi => simpa using hi
    | 1, hi => simpa using hi
    | 2, hi => simpa using hi
    | i + 3, hi => simpa using hi
  · intro h0
    repeat' split at h0
    all_goals omega
theorem St.add0 (hs : St B G L w) {A : Atom} (hA : ∀ S : Nat → Prop, A.P S w.heap) : St B G (A :: L) w := by
  refine ⟨?_, hs.2⟩
  obtain ⟨f, hf, hL⟩ := hs.1
  refine ⟨fun b => (f b).map fun j => if j < 2 then j else j + 1, fun b j hb => ?_, fun i Ai hi => ?_⟩
  · rcases Option.map_eq_some_iff.1 hb with ⟨j', hj', _⟩
    exact hf b j' hj'
  · have key : ∀ i j, (∀ x, (if x < 2 then x else x + 1) = i → x = j) → (if j < 2 then j else j + 1) = i → (fun b => (f b).map (fun j => if j < 2 then j else j + 1) = some i) = (fun b => f b = some j) := by
      intro i j h1 h2
      funext b
      apply propext
      rw [Option.map_eq_some_iff]
      constructor
      · rintro ⟨x, hx, e⟩; rw [hx, h1 x e]
      · intro h0; exact ⟨j, h0, h2⟩
    match i, hi with
    | 0, hi =>
      rw [key 0 0 (fun x hx => by split at hx <;> omega) (by simp)]
      exact hL 0 Ai (by simpa using hi)
    | 1, hi =>
      rw [key 1 1 (fun x hx => by split at hx <;> omega) (by simp)]
      exact hL 1 Ai (by simpa using hi)
    | 2, hi => simp at hi; subst hi; exact hA _
    | i + 3, hi =>
      rw [key (i + 3) (i + 2) (fun x hx => by split at hx <;> omega) (by rw [if_neg (by omega)])]
      exact hL (i + 2) Ai (by simpa using hi)
theorem St.alloc_obj (hs : St B G L w) {o : Obj} (hsz : w'.heap.size = w.heap.size + 1) (hg : w'.heap[w.heap.size]? = some o)
    (hh : ∀ b, b < w.heap.size → w'.heap[b]? = w.heap[b]?) (hio : SameIo w w' := by exact ⟨rfl, rfl⟩) : St B G (.obj w.heap.size o :: L) w' := by
  have h1 : Sep (.obj w.heap.size o :: .asn B :: .asn G :: L) (fun b => b < w'.heap.size) w'.heap :=
    Sep.cons (g := w.heap.size) hs.1 (fun b hb => Nat.ne_of_lt hb) (fun b hb => by omega) (by omega) (fun S hS => ⟨hS, hg⟩) hh
  refine ⟨?_, hs.2.same hio⟩
  refine Sep.map h1 (fun i => if i = 0 then 1 else if i = 1 then 2 else if i = 2 then 0 else i) (fun i A hi => ?_) (fun i i' _ _ => ?_)
  · match i, hi with
    | 0, hi => simpa using hi
    | 1, hi => simpa using hi
    | 2, hi => simpa using hi
    | i + 3, hi => simpa using hi
  · intro h0
    repeat' split at h0
    all_goals omega
end
def pick (js : List Nat) (L : List Atom) : List Atom := js.filterMap (L[·]?)
def okPick (js : List Nat) (n : Nat) : Bool := js.all (· < n) && decide js.Nodup
theorem pick_get {js : List Nat} {L : List Atom} (hj : js.all (· < L.length) = true) (i : Nat) : (pick js L)[i]? = (js[i]?).bind (L[·]?) := by
  induction js generalizing i with
  | nil => simp [pick]
  | cons j js ih =>
    simp only [List.all_cons, Bool.and_eq_true, decide_eq_true_eq] at hj
    have hjl : L[j]? = some (L[j]'hj.1) := List.getElem?_eq_getElem hj.1
    have e : pick (j :: js) L = L[j]'hj.1 :: pick js L := by unfold pick; rw [List.filterMap_cons, hjl]
    rw [e]
    cases i with
    | zero => simp [hjl]
    | succ i => simp only [List.getElem?_cons_succ]; exact ih hj.2 i
theorem pick_len {js : List Nat} {L : List Atom} (hj : js.all (· < L.length) = true) : (pick js L).length = js.length := by
  induction js with
  | nil => simp [pick]
  | cons j js ih =>
    simp only [List.all_cons, Bool.and_eq_true, decide_eq_true_eq] at hj
    have hjl : L[j]? = some (L[j]'hj.1) := List.getElem?_eq_getElem hj.1
    have e : pick (j :: js) L = L[j]'hj.1 :: pick js L := by unfold pick; rw [List.filterMap_cons, hjl]
    rw [e, List.length_cons, ih hj.2, List.length_cons]
theorem St.pick {B G : Asn} {L : List Atom} {w : World} (hs : St B G L w) (js : List Nat) (hj : okPick js L.length = true) : St B G (pick js L) w := by
  simp only [okPick, Bool.and_eq_true, decide_eq_true_eq] at hj
  obtain ⟨h1, h2⟩ := hj
  refine ⟨?_, hs.2⟩
  refine Sep.map hs.1 (fun i => if i = 0 then 0 else if i = 1 then 1 else js.getD (i - 2) 0 + 2) (fun i A hi => ?_) (fun i i' hi hi' => ?_)
  · match i, hi with
    | 0, hi => simpa using hi
    | 1, hi => simpa using hi
    | i + 2, hi =>
      simp only [List.getElem?_cons_succ] at hi
      rw [pick_get h1] at hi
      cases hji : js[i]? with
      | none => rw [hji] at hi; cases hi
      | some j => rw [hji] at hi; simp [List.getD_eq_getElem?_getD, hji]; simpa using hi
  · have hl := pick_len h1
    simp only [List.length_cons, hl] at hi hi'
    intro h0
    match i, i', h0 with
    | 0, 0, _ => rfl
    | 0, 1, h0 => simp at h0
    | 0, i' + 2, h0 => simp at h0
    | 1, 0, h0 => simp at h0
    | 1, 1, _ => rfl
    | 1, i' + 2, h0 => simp at h0
    | i + 2, 0, h0 => simp at h0
    | i + 2, 1, h0 => simp at h0
    | i + 2, i' + 2, h0 =>
      have hi1 : i < js.length := by omega
      have hi2 : i' < js.length := by omega
      simp [List.getD_eq_getElem?_getD, hi1, hi2] at h0
      have hp := List.pairwise_iff_getElem.1 h2
      rcases Nat.lt_trichotomy i i' with hlt | he | hlt
      · exact absurd h0 (hp i i' hi1 hi2 hlt)
      · omega
      · exact absurd h0.symm (hp i' i hi2 hi1 hlt)
theorem map_iff {o : Option Nat} {g : Nat → Nat} {i : Nat} : (o.map g = some i) = ∃ j, o = some j ∧ g j = i := propext Option.map_eq_some_iff
theorem bind_iff {o : Option Nat} {g : Nat → Option Nat} {i : Nat} : (o.bind g = some i) = ∃ j, o = some j ∧ g j = some i := propext Option.bind_eq_some_iff
theorem own_eq {o : Option Nat} {q : Nat → Prop} {k : Nat} (h1 : ∀ j, q j → j = k) (h2 : q k) : (∃ j, o = some j ∧ q j) = (o = some k) :=
  propext ⟨fun ⟨j, hj, hq⟩ => by rw [hj, h1 j hq], fun h => ⟨k, h, h2⟩⟩
theorem Sep.group {X : Atom} {Y : Asn} {L1 L2 : List Atom} {S : Nat → Prop} {h : Hp} (hs : Sep (X :: .asn Y :: (L1 ++ L2)) S h) :
    Sep (X :: .asn (all (.asn Y :: L2)) :: L1) S h := by
  obtain ⟨f, hf, hA⟩ := hs
  generalize hn : L1.length = n at *
  refine ⟨fun b => (f b).map fun j => if j = 0 then 0 else if j = 1 then 1 else if j < n + 2 then j else 1, fun b j hb => ?_, fun i A hi => ?_⟩
  · rw [map_iff] at hb
    obtain ⟨j', hj', _⟩ := hb
    exact hf b j' hj'
  · match i, hi with
    | 0, hi =>
      simp at hi; subst hi
      refine Eq.mp (congrArg (fun S => X.P S h) ?_) (hA 0 X rfl)
      funext b
      rw [map_iff, own_eq (k := 0)]
      · intro j hj; repeat' split at hj
        all_goals omega
      · simp
    | 1, hi =>
      simp at hi; subst hi
      refine ⟨fun b => (f b).bind fun j => if j = 1 then some 0 else if j < n + 2 then none else some (j - (n + 1)), fun b j hb => ?_, fun i A hi => ?_⟩
      · rw [bind_iff] at hb
        rw [map_iff]
        obtain ⟨j', hj', hb⟩ := hb
        refine ⟨j', hj', ?_⟩
        repeat' split at hb
        all_goals first
          | (cases hb; done)
          | (repeat' split
             all_goals omega)
      · have hget : (X :: .asn Y :: (L1 ++ L2))[if i = 0 then 1 else i + n + 1]? = some A := by
          cases i with
          | zero => simpa using hi
          | succ i =>
            simp only [Nat.add_one_ne_zero, if_false]
            rw [show i + 1 + n + 1 = (i + n) + 1 + 1 by omega]
            simp only [List.getElem?_cons_succ] at hi ⊢
            rw [List.getElem?_append_right (by omega), show i + n - L1.length = i by omega]
            exact hi
        refine Eq.mp (congrArg (fun S => A.P S h) ?_) (hA _ A hget)
        funext b
        rw [bind_iff, own_eq (k := if i = 0 then 1 else i + n + 1)]
        · intro j hj
          repeat' split at hj
          all_goals first
            | (cases hj; done)
            | (injection hj with hj; split <;> omega)
        · by_cases hi0 : i = 0
          · simp [hi0]
          · rw [if_neg hi0, if_neg (by omega), if_neg (by omega)]
            congr 1; omega
    | i + 2, hi =>
      simp only [List.getElem?_cons_succ] at hi
      have hl : i < n := by rw [← hn]; exact (List.getElem?_eq_some_iff.1 hi).1
      refine Eq.mp (congrArg (fun S => A.P S h) ?_) (hA (i + 2) A (by simp only [List.getElem?_cons_succ]; rw [List.getElem?_append_left (by omega)]; exact hi))
      funext b
      rw [map_iff, own_eq (k := i + 2)]
      · intro j hj
        repeat' split at hj
        all_goals omega
      · rw [if_neg (by omega), if_neg (by omega), if_pos (by omega)]
theorem Sep.ungroup {X : Atom} {Y : Asn} {L1 L2 : List Atom} {S : Nat → Prop} {h : Hp} (hs : Sep (X :: .asn (all (.asn Y :: L2)) :: L1) S h) :
    Sep (X :: .asn Y :: (L1 ++ L2)) S h := by
  obtain ⟨f, hf, hA⟩ := hs
  obtain ⟨q, hq, hB⟩ := hA 1 (.asn (all (.asn Y :: L2))) rfl
  generalize hn : L1.length = n at *
  refine ⟨fun b => (f b).bind fun j => if j = 1 then (q b).map (fun i => if i = 0 then 1 else i + n + 1) else if j < n + 2 then some j else none, fun b j hb => ?_, fun i A hi => ?_⟩
  · rw [bind_iff] at hb
    obtain ⟨j', hj', _⟩ := hb
    exact hf b j' hj'
  · have key : ∀ i', (i' = 0 ∨ (2 ≤ i' ∧ i' < n + 2)) → (fun b => ((f b).bind fun j => if j = 1 then (q b).map (fun i => if i = 0 then 1 else i + n + 1) else if j < n + 2 then some j else none) = some i') = (fun b => f b = some i') := by
      intro i' hi'
      funext b
      rw [bind_iff, own_eq (k := i')]
      · intro j hj
        by_cases hj1 : j = 1
        · rw [if_pos hj1, map_iff] at hj
          obtain ⟨x, _, hx⟩ := hj
          split at hx <;> omega
        · rw [if_neg hj1] at hj
          split at hj
          · injection hj
          · cases hj
      · rw [if_neg (by omega), if_pos (by omega)]
    have own : ∀ (i' x : Nat), (if x = 0 then 1 else x + n + 1) = i' → (fun b => ((f b).bind fun j => if j = 1 then (q b).map (fun i => if i = 0 then 1 else i + n + 1) else if j < n + 2 then some j else none) = some i') = (fun b => q b = some x) := by
      intro i' x hx
      funext b
      apply propext
      rw [bind_iff]
      constructor
      · rintro ⟨j, hj, hb⟩
        by_cases hj1 : j = 1
        · rw [if_pos hj1, map_iff] at hb
          obtain ⟨y, hy, hb⟩ := hb
          rw [hy]
          congr 1
          split at hb <;> split at hx <;> omega
        · rw [if_neg hj1] at hb
          split at hb
          · injection hb with hb
            split at hx <;> omega
          · cases hb
      · intro hb
        refine ⟨1, hq b x hb, ?_⟩
        rw [if_pos rfl, hb]
        simp only [Option.map_some, hx]
    match i, hi with
    | 0, hi =>
      simp at hi; subst hi
      rw [key 0 (.inl rfl)]
      exact hA 0 X rfl
    | 1, hi =>
      simp at hi; subst hi
      rw [own 1 0 (by simp)]
      exact hB 0 (.asn Y) rfl
    | i + 2, hi =>
      simp only [List.getElem?_cons_succ] at hi
      by_cases hl : i < n
      · rw [List.getElem?_append_left (by omega)] at hi
        rw [key (i + 2) (.inr ⟨by omega, by omega⟩)]
        exact hA (i + 2) A (by simpa using hi)
      · rw [List.getElem?_append_right (by omega)] at hi
        rw [own (i + 2) (i - n + 1) (by rw [if_neg (by omega)]; omega)]
        exact hB (i - n + 1) A (by rw [List.getElem?_cons_succ, ← hn]; exact hi)
theorem St.group {B G : Asn} {L1 L2 : List Atom} {w : World} (hs : St B G (L1 ++ L2) w) : St B (all (.asn G :: L2)) L1 w := ⟨Sep.group hs.1, hs.2⟩
theorem St.ungroup {B G : Asn} {L1 L2 : List Atom} {w : World} (hs : St B (all (.asn G :: L2)) L1 w) : St B G (L1 ++ L2) w := ⟨Sep.ungroup hs.1, hs.2⟩
def froz (B : Asn) (A : Atom) : Asn := { all [.asn B, A] with io := B.io }
theorem Ext.froz (B : Asn) (A : Atom) : Ext B (froz B A) := ⟨fun _ h => h, fun _ _ ⟨_, hf, hA⟩ => ⟨_, fun b hb => hf b 0 hb, hA 0 (.asn B) rfl⟩⟩
theorem has_froz {B : Asn} {g : Nat} {cs : List Value} {t : TypeId} : Has (V.froz B (.blk g cs t)) (fun h => h[g]? = some (.cells cs.toArray t (0, 0))) := fun _ _ ⟨_, _, hA⟩ => (hA 1 (.blk g cs t) rfl).2
theorem St.froz {B G : Asn} {L : List Atom} {A : Atom} {w : World} (hs : St B G (A :: L) w) : St (V.froz B A) G L w := by
  refine ⟨?_, hs.2⟩
  obtain ⟨f, hf, hA⟩ := hs.1
  refine ⟨fun b => (f b).map fun j => if j = 0 then 0 else if j = 1 then 1 else if j = 2 then 0 else j - 1, fun b j hb => ?_, fun i Ai hi => ?_⟩
  · rw [map_iff] at hb
    obtain ⟨j', hj', _⟩ := hb
    exact hf b j' hj'
  · match i, hi with
    | 0, hi =>
      simp at hi; subst hi
      refine ⟨fun b => (f b).bind fun j => if j = 0 then some 0 else if j = 2 then some 1 else none, fun b j hb => ?_, fun i A' hi => ?_⟩
      · rw [bind_iff] at hb
        rw [map_iff]
        obtain ⟨j', hj', hb⟩ := hb
        refine ⟨j', hj', ?_⟩
        repeat' split at hb
        all_goals first
          | (cases hb; done)
          | (simp [*]; done)
      · match i, hi with
        | 0, hi =>
          simp at hi; subst hi
          refine Eq.mp (congrArg (fun S => B.P S w.heap) ?_) (hA 0 (.asn B) rfl)
          funext b
          rw [bind_iff, own_eq (k := 0)]
          · intro j hj
            repeat' split at hj
            all_goals first | assumption | (cases hj; done) | (injection hj with hj; omega)
          · simp
        | 1, hi =>
          simp at hi; subst hi
          refine Eq.mp (congrArg (fun S => A.P S w.heap) ?_) (hA 2 A rfl)
          funext b
          rw [bind_iff, own_eq (k := 2)]
          · intro j hj
            repeat' split at hj
            all_goals first | assumption | (cases hj; done) | (injection hj with hj; omega)
          · simp
    | 1, hi =>
      simp at hi; subst hi
      refine Eq.mp (congrArg (fun S => G.P S w.heap) ?_) (hA 1 (.asn G) rfl)
      funext b
      rw [map_iff, own_eq (k := 1)]
      · intro j hj
        repeat' split at hj
        all_goals omega
      · simp
    | i + 2, hi =>
      simp only [List.getElem?_cons_succ] at hi
      refine Eq.mp (congrArg (fun S => Ai.P S w.heap) ?_) (hA (i + 3) Ai (by simpa using hi))
      funext b
      rw [map_iff, own_eq (k := i + 3)]
      · intro j hj
        repeat' split at hj
        all_goals omega
      · rw [if_neg (by omega), if_neg (by omega), if_neg (by omega)]; omega
end Go.V
