/- Operations that make and write memory; calls. -/
import Derived.Test.YtafghfchflngiaaVc
import Derived.Deep.Upon
namespace Go.V
open Go
def newOf (P : Program) : Sem Next → Nat → Option (Value × Obj)
  | .new o k, g => match symOf P (k g) [] with
    | some (v, [], []) => some (v, o)
    | _ => none
  | .program k, g => newOf P (k P) g
  | .mark _ k, g => newOf P k g
  | _, _ => none
theorem newOf_run (P : Program) : ∀ (s : Sem Next) (w : World) {v : Value} {o : Obj}, newOf P s w.heap.size = some (v, o) → s.run P w = .ok (.value v) (w.alloc o) := by
  intro s
  induction s with
  | new o k ih =>
    intro w v o' h
    simp only [newOf] at h
    split at h
    · rename_i v' hs
      simp only [Option.some.injEq, Prod.mk.injEq] at h
      obtain ⟨rfl, rfl⟩ := h
      obtain ⟨u, h1, h2, h3⟩ := symOf_run P _ _ hs
      have hu : u = [] := by cases u with | nil => rfl | cons => simp at h1
      subst hu
      simp only [Sem.run]
      exact h3 rfl _ (fun p hp => by cases hp)
    · cases h
  | program k ih => intro w v o h; simp only [Sem.run]; exact ih P w (by simpa [newOf] using h)
  | mark m k ih => intro w v o h; simp only [Sem.run]; exact ih w (by simpa [newOf] using h)
  | _ => intro w v o h; simp [newOf] at h
theorem heap_alloc (w : World) (o : Obj) : (w.alloc o).heap.size = w.heap.size + 1 ∧ (w.alloc o).heap[w.heap.size]? = some o ∧ ∀ b, b < w.heap.size → (w.alloc o).heap[b]? = w.heap[b]? := by
  have e : (w.alloc o).heap = w.heap.push o := rfl
  rw [e]
  refine ⟨by simp, by simp, fun b hb => ?_⟩
  rw [Array.getElem?_push, if_neg (Nat.ne_of_lt hb)]
theorem heap_alloc_drew (w : World) (o : Obj) : (w.drew.alloc o).heap.size = w.heap.size + 1 ∧ (w.drew.alloc o).heap[w.heap.size]? = some o ∧ ∀ b, b < w.heap.size → (w.drew.alloc o).heap[b]? = w.heap[b]? := heap_alloc w.drew o
section
variable {P : Program} {F : Func} {R : Ending → World → Prop} {K : List Kont} {n i d : Nat} {E E' : Env} {B B' G : Asn} {L L' : List Atom} {op : Op} {v : Value} {T : Act → World → Prop}
def newAt (P : Program) (F : Func) (n i : Nat) (E : Env) (g : Nat) : Option (Nat × Value × Obj) :=
  if dstsOk F.ntmps (rg F n) then
    match (rg F n)[i]? with
    | some o => match gOk E (rg F n) o, o.dst, okOps E o with
      | some true, some d, true => match newOf P (execOp (evD E) o) g with
        | some (v, b) => some (d, v, b)
        | none => none
      | _, _, _ => none
    | none => none
  else none
theorem s_new (d : Nat) (v : Nat → Value) (cs : List Value) (t : TypeId) (h : ∀ g, newAt P F n i E g = some (d, v g, .cells cs.toArray t (0, 0)))
    (next : ∀ g, Tg F T ((d, v g) :: E) B G (.blk g cs t :: L)) : Stp P F R K n i T E B G L := by
  intro a w ha hs
  have h0 := h w.heap.size
  unfold newAt at h0
  split at h0
  · rename_i hd
    split at h0
    · rename_i o ho
      split at h0
      · rename_i d' hg hdst hok
        split at h0
        · rename_i v' b hn
          simp only [Option.some.injEq, Prod.mk.injEq] at h0
          obtain ⟨rfl, rfl, rfl⟩ := h0
          have hdn : d' < F.ntmps := dstsOk_spec hd _ (by rw [Array.any_eq_true']; exact ⟨o, Array.mem_of_getElem? ho, by simp [hdst]⟩)
          unfold wpOp
          simp only [ho]
          rw [if_pos (gOk_wanted ha (dstsOk_spec hd) hg)]
          left
          unfold Oper.wp
          rw [exec_evD ha hok, newOf_run P _ w hn]
          show T (a.put o.dst (v w.heap.size)) _
          rw [hdst]
          exact next w.heap.size _ _ (ha.put hdn) (hs.alloc (heap_alloc w _).1 (heap_alloc w _).2.1 (heap_alloc w _).2.2)
        · cases h0
      · cases h0
    · cases h0
  · cases h0
theorem St.blk_own {w : World} {g : Nat} {cs : List Value} {t sz m : Nat} (hs : St B G (.blk g cs t :: L) w) (hl : cs.length = m * sz) (h1 : ∀ u ∈ cs, u.oneCell' = true) :
    St B G (.own (some ⟨g, 0, none⟩) m m cs sz t :: L) w := by
  have := hs.set (j := 0) (A := .blk g cs t) (A' := .own (some ⟨g, 0, none⟩) m m cs sz t) (g := g) (w' := w) rfl (fun S h => h.1)
    (fun S hS => ⟨hl, Nat.le_refl _, h1, .inr ⟨g, [], rfl, hS, by simp, by
      have := hs.blk (j := 0) rfl
      rw [List.append_nil]
      exact this⟩⟩) rfl (fun _ _ => rfl)
  simpa using this
theorem t_blk_own {g : Nat} {cs : List Value} {t sz m : Nat} (hl : cs.length = m * sz) (h1 : cs.all (·.oneCell') = true) (next : Tg F T E B G (.own (some ⟨g, 0, none⟩) m m cs sz t :: L)) :
    Tg F T E B G (.blk g cs t :: L) := fun a w ha hs => next a w ha (hs.blk_own hl (by simpa using h1))
def stOf (P : Program) : Sem Next → Option (List (Addr × Value))
  | .pure .skip => some []
  | .store _ a v k => (stOf P k).map ((a, v) :: ·)
  | .program k => stOf P (k P)
  | .mark _ k => stOf P k
  | _ => none
def putAll (cs : List Value) : List (Nat × Value) → List Value
  | [] => cs
  | (o, v) :: r => putAll (cs.set o v) r
def stAt (P : Program) (F : Func) (n i : Nat) (E : Env) : Option (List (Addr × Value)) :=
  if dstsOk F.ntmps (rg F n) then
    match (rg F n)[i]? with
    | some o => match gOk E (rg F n) o, o.dst, okOps E o with
      | some true, none, true => stOf P (execOp (evD E) o)
      | _, _, _ => none
    | none => none
  else none
theorem heap_setCell (w : World) (a : Addr) (v : Value) : (w.setCell a v).heap.size = w.heap.size ∧ (∀ b, b ≠ a.block → (w.setCell a v).heap[b]? = w.heap[b]?) ∧
    ∀ c t f, a.spot = none → w.heap[a.block]? = some (.cells c t f) → (w.setCell a v).heap[a.block]? = some (.cells (c.setIfInBounds a.off v) t f) := by
  refine ⟨by simp [World.setCell], fun b hb => ?_, fun c t f hs hc => ?_⟩
  · simp [World.setCell, Array.getElem?_modify, Ne.symm hb]
  · simp only [World.setCell, Array.getElem?_modify, if_true, hc, Option.map_some, hs]
    simp
theorem stOf_run (P : Program) : ∀ (s : Sem Next) {ws : List (Addr × Value)}, stOf P s = some ws → (∀ p ∈ ws, p.2.oneCell' = true) → ∀ (w : World), (∀ p ∈ ws, (w.cell? p.1).isSome = true ∧ w.frozen? p.1 = false ∧ p.1.spot = none) →
    s.run P w = .ok .skip (ws.foldl (fun w p => w.setCell p.1 p.2) w) := by
  intro s
  induction s with
  | pure n => intro ws h _ w _; cases n <;> simp [stOf] at h; subst h; simp [Sem.run]
  | store m a v k ih =>
    intro ws h h1 w hw
    simp only [stOf, Option.map_eq_some_iff] at h
    obtain ⟨r, hr, rfl⟩ := h
    obtain ⟨hc, hf, hsp⟩ := hw (a, v) (by simp)
    obtain ⟨u, hu⟩ := Option.isSome_iff_exists.1 hc
    have hv := h1 (a, v) (by simp)
    have hstep : (Sem.store m a v k).run P w = k.run P (w.setCell a v) := by
      cases v <;> first
        | (simp [Value.oneCell'] at hv; done)
        | (simp [Sem.run, hu, hf])
    rw [hstep]
    refine ih hr (fun p hp => h1 p (by simp [hp])) (w.setCell a v) (fun p hp => ?_)
    obtain ⟨h2, h3, h4⟩ := hw p (by simp [hp])
    obtain ⟨_, ho, hsame⟩ := heap_setCell w a v
    refine ⟨?_, ?_, h4⟩
    · by_cases e : p.1.block = a.block
      · simp only [World.cell?] at h2 ⊢
        rw [e] at h2 ⊢
        cases hb : w.heap[a.block]? with
        | none => rw [hb] at h2; cases h2
        | some o =>
          cases o with
          | cells c t f =>
            rw [hsame c t f hsp hb]
            rw [hb] at h2
            simp only [h4] at h2 ⊢
            simpa using h2
          | _ => rw [hb] at h2; cases h2
      · simp only [World.cell?] at h2 ⊢
        rw [ho _ e]; exact h2
    · by_cases e : p.1.block = a.block
      · simp only [World.frozen?] at h3 ⊢
        rw [e] at h3 ⊢
        cases hb : w.heap[a.block]? with
        | none =>
          have hu' := hu
          simp only [World.cell?, hb] at hu'
          cases hu'
        | some o =>
          cases o with
          | cells c t f => rw [hsame c t f hsp hb]; rw [hb] at h3; exact h3
          | _ => simp only [World.cell?, hb] at hu; cases hu
      · simp only [World.frozen?] at h3 ⊢
        rw [ho _ e]; exact h3
  | program k ih => intro ws h h1 w hw; simp only [Sem.run]; exact ih P (by simpa [stOf] using h) h1 w hw
  | mark m k ih => intro ws h h1 w hw; simp only [Sem.run]; exact ih (by simpa [stOf] using h) h1 w hw
  | _ => intro ws h; simp [stOf] at h
theorem putAll_len : ∀ (ws : List (Nat × Value)) (cs : List Value), (putAll cs ws).length = cs.length
  | [], _ => rfl
  | (o, v) :: r, cs => by rw [putAll, putAll_len r]; simp
theorem fold_set (g : Nat) : ∀ (ws : List (Nat × Value)) (w : World) (cs : List Value) (t : TypeId) (f : Nat × Nat), w.heap[g]? = some (.cells cs.toArray t f) →
    let w' := (ws.map fun p => ((⟨g, p.1, none⟩ : Addr), p.2)).foldl (fun w p => w.setCell p.1 p.2) w
    w'.heap.size = w.heap.size ∧ (∀ b, b ≠ g → w'.heap[b]? = w.heap[b]?) ∧ w'.heap[g]? = some (.cells (putAll cs ws).toArray t f)
  | [], w, cs, t, f, hg => ⟨rfl, fun _ _ => rfl, hg⟩
  | (o, v) :: r, w, cs, t, f, hg => by
    obtain ⟨h1, h2, h3⟩ := heap_setCell w ⟨g, o, none⟩ v
    have hg' : (w.setCell ⟨g, o, none⟩ v).heap[g]? = some (.cells (cs.set o v).toArray t f) := by
      rw [h3 _ t f rfl hg]; simp
    obtain ⟨k1, k2, k3⟩ := fold_set g r (w.setCell ⟨g, o, none⟩ v) (cs.set o v) t f hg'
    exact ⟨k1.trans h1, fun b hb => (k2 b hb).trans (h2 b hb), k3⟩
theorem fold_io : ∀ (ps : List (Addr × Value)) (w : World), SameIo w (ps.foldl (fun w p => w.setCell p.1 p.2) w) := by
  intro ps
  induction ps with
  | nil => intro w; exact ⟨rfl, rfl⟩
  | cons p ps ih => intro w; exact ih (w.setCell p.1 p.2)
theorem s_store (j : Nat) (g : Nat) (cs : List Value) (t : TypeId) (ws : List (Nat × Value)) (h : stAt P F n i E = some (ws.map fun p => ((⟨g, p.1, none⟩ : Addr), p.2))) (hj : L[j]? = some (.blk g cs t))
    (hlt : ws.all (fun p => Nat.blt p.1 cs.length && p.2.oneCell') = true) (next : Tg F T E B G (L.set j (.blk g (putAll cs ws) t))) : Stp P F R K n i T E B G L := by
  intro a w ha hs
  unfold stAt at h
  split at h
  · rename_i hd
    split at h
    · rename_i o ho
      split at h
      · rename_i hg hdst hok
        unfold wpOp
        simp only [ho]
        rw [if_pos (gOk_wanted ha (dstsOk_spec hd) hg)]
        left
        unfold Oper.wp
        have hb := hs.blk hj
        simp only [List.all_eq_true, Bool.and_eq_true] at hlt
        have hrun := stOf_run P _ h (fun p hp => by
          obtain ⟨q, hq, rfl⟩ := List.mem_map.1 hp
          exact (hlt q hq).2) w (fun p hp => by
          obtain ⟨q, hq, rfl⟩ := List.mem_map.1 hp
          have hql : q.1 < cs.length := Nat.le_of_ble_eq_true (hlt q hq).1
          exact ⟨by simp [World.cell?, hb, hql], by simp [World.frozen?, hb], rfl⟩)
        rw [exec_evD ha hok, hrun]
        show T (a.put o.dst undef) _
        rw [hdst]
        obtain ⟨k1, k2, k3⟩ := fold_set g ws w cs t (0, 0) hb
        exact next a _ ha (hs.set_blk hj k1 k3 k2 (fold_io _ _))
      · cases h
    · cases h
  · cases h
theorem e_storeN {t ty : TypeId} {x y : Operand} {j g off : Nat} {cs l : List Value} {vs : Array Value} (hx : ev E x = some (.pointer (some ⟨g, off, none⟩))) (hy : ev E y = some (.agg vs)) (hl : vs.toList = l) (ht : (P.info? ty).map (·.size) = some l.length)
    (hj : L[j]? = some (.blk g cs t)) (hfit : off + l.length ≤ cs.length) (h1 : ∀ u ∈ l, u.oneCell' = true) : Eff0 P F (.store ty x y) E B G L (L.set j (.blk g (cs.take off ++ l ++ cs.drop (off + l.length)) t)) := by
  intro a w o hop ha hs
  have hb := hs.blk hj
  have hst := run_storeCells_at P g off t l 0 cs.toArray w hb (by simpa using hfit) h1
  subst hl
  obtain ⟨i', hi, he⟩ := Option.map_eq_some_iff.1 ht
  refine ⟨_, ?_, hs.set_blk hj (by simp) (setRow_heap w g _ _ t (0, 0) hb) (fun b hb' => setRow_other w g b _ hb')⟩
  simp only [execOp, hop, ev_ok ha hx, ev_ok ha hy, Instr.storeAt, Instr.sureAddr]
  simp only [Nat.add_zero] at hst
  simp [storeVar, sizeOf, typeInfo, hi, he, Value.cells, hst]
theorem own_upd {w w' : World} {j : Nat} {A : Option Addr} {m c sz : Nat} {cs cs' : List Value} {t : TypeId} (hs : St B G L w) (hj : L[j]? = some (.own A m c cs sz t)) (hne : A.isSome = true) (hl : cs'.length = cs.length) (h1 : ∀ u ∈ cs', u.oneCell' = true)
    (hsz : w'.heap.size = w.heap.size) (hw : ∀ g sp, A = some ⟨g, 0, none⟩ → w.heap[g]? = some (.cells (cs ++ sp).toArray t (0, 0)) → w'.heap[g]? = some (.cells (cs' ++ sp).toArray t (0, 0)) ∧ ∀ b, b ≠ g → w'.heap[b]? = w.heap[b]?) (hio : SameIo w w' := by exact ⟨rfl, rfl⟩) :
    St B G (L.set j (.own A m c cs' sz t)) w' := by
  obtain ⟨S, h2, h3, h4, h5⟩ := hs.at hj
  rcases h5 with ⟨rfl, _, _⟩ | ⟨g, sp, rfl, hS, hsp, hg⟩
  · cases hne
  · obtain ⟨k1, k2⟩ := hw g sp rfl hg
    refine hs.set hj (g := g) (fun S' hp => ?_) (fun S' hS' => ⟨by rw [hl]; exact h2, h3, h1, .inr ⟨g, sp, rfl, hS', hsp, k1⟩⟩) hsz k2 hio
    obtain ⟨_, _, _, h6⟩ := hp
    rcases h6 with ⟨e, _⟩ | ⟨g', _, e, hS', _⟩
    · cases e
    · simp only [Option.some.injEq, Addr.mk.injEq, and_true] at e
      rw [e]; exact hS'
theorem e_storeE {ty : TypeId} {x y : Operand} {j : Nat} {A : Option Addr} {m c sz off : Nat} {cs l : List Value} {t : TypeId} {v : Value} (hx : ev E x = some (.pointer (some (adr A off)))) (hy : ev E y = some v) (hl : v.cells.toList = l)
    (ht : (P.info? ty).map (·.size) = some l.length) (hj : L[j]? = some (.own A m c cs sz t)) (hfit : off + l.length ≤ cs.length) (hne : 0 < l.length) (h1 : ∀ u ∈ l, u.oneCell' = true) :
    Eff0 P F (.store ty x y) E B G L (L.set j (.own A m c (cs.take off ++ l ++ cs.drop (off + l.length)) sz t)) := by
  intro a w o hop ha hs
  obtain ⟨S, h2, h3, h4, h5⟩ := hs.at hj
  rcases h5 with ⟨_, rfl, _⟩ | ⟨g, sp, rfl, hS, hsp, hg⟩
  · rw [Nat.zero_mul] at h2; omega
  · have hst := run_storeCells_at P g off t l 0 (cs ++ sp).toArray w hg (by simp; omega) h1
    obtain ⟨i', hi, he⟩ := Option.map_eq_some_iff.1 ht
    have had : adr (some ⟨g, 0, none⟩) off = ⟨g, off, none⟩ := by
      unfold adr Addr.add
      by_cases h0 : off = 0 <;> simp [h0]
    rw [had] at hx
    have hvs : v.cells.size = l.length := by rw [← hl]; simp
    refine ⟨w.setRow g ((cs ++ sp).toArray.toList.take off ++ l ++ (cs ++ sp).toArray.toList.drop (off + l.length)).toArray, ?_, own_upd hs hj rfl ?_ ?_ (by simp) (fun g' sp' e hg' => ?_)⟩
    · simp only [execOp, hop, ev_ok ha hx, ev_ok ha hy, Instr.storeAt, Instr.sureAddr]
      simp only [Nat.add_zero] at hst
      simp [storeVar, sizeOf, typeInfo, hi, he, hl, hvs, hst]
    · simp; omega
    · intro u hu
      rcases List.mem_append.1 hu with hu | hu
      · rcases List.mem_append.1 hu with hu | hu
        · exact h4 u (List.mem_of_mem_take hu)
        · exact h1 u hu
      · exact h4 u (List.mem_of_mem_drop hu)
    · simp only [Option.some.injEq, Addr.mk.injEq, and_true] at e
      subst e
      rw [hg] at hg'
      have e2 : sp' = sp := by
        injection hg' with hg'
        injection hg' with hg' _ _
        have := congrArg Array.toList hg'
        simp at this
        exact this.symm
      subst e2
      refine ⟨?_, fun b hb => setRow_other w g b _ hb⟩
      rw [setRow_heap w g _ _ t (0, 0) hg]
      have a1 : off ≤ cs.length := by omega
      rw [show (cs ++ sp').toArray.toList = cs ++ sp' from rfl, List.take_append_of_le_length a1, List.drop_append_of_le_length hfit, ← List.append_assoc]
theorem madeCells_eq {z : Value} (hz : z.cells.toList = [z]) (m : Nat) : (madeCells z.cells m).toList = List.replicate m z := by
  have e : z.cells = #[z] := by apply Array.ext'; simpa using hz
  rw [e]
  unfold madeCells
  apply List.ext_getElem
  · simp
  · intro k h1 h2
    simp [Nat.mod_one]
theorem e_make {t : TypeId} {x y : Operand} {e : TypeId} {z : Value} {kl kc : IntKind} {m : Nat} {bytes : Nat} (hx : ev E x = some (.int kl m)) (hy : ev E y = some (.int kc m)) (ht : P.underlying t = some (.slice e)) (hi : (P.info? e).map (fun i => (i.zero, i.size, i.bytes)) = some (some z, 1, bytes))
    (hz : z.cells.toList = [z]) (hz1 : z.oneCell' = true) (hm : m * bytes ≤ 281474976710656) (h63 : m ≤ 9223372036854775807) :
    Eff P F (.makeSlice t x y) E B G L (fun A : Option Addr => .slice A m m) (fun A => .own A m m (List.replicate m z) 1 e :: L) (fun A => A.isSome = true) := by
  intro a w o hop ha hs
  obtain ⟨i, hi', he⟩ := Option.map_eq_some_iff.1 hi
  simp only [Prod.mk.injEq] at he
  obtain ⟨h1, h2, h3⟩ := he
  have hb : (i.bytes : Int) * (m : Int) ≤ 281474976710656 := by
    rw [h3, ← Int.natCast_mul, Nat.mul_comm]; omega
  have hr := run_make (P := P) w t e i z ht hi' h1 kl kc m m (by omega) (Int.le_refl _) hb (by omega)
  refine ⟨some ⟨w.heap.size, 0, none⟩, w.alloc (.cells (madeCells z.cells (m * i.size)) e), ?_, ?_, rfl⟩
  · simp only [execOp, hop, ev_ok ha hx, ev_ok ha hy]
    simp only [Int.toNat_natCast] at hr
    simp only [Sem.run_bind, hr, Result.andThen]
    rfl
  · refine hs.add (heap_alloc w _).1 (fun S hS => ⟨by simp, Nat.le_refl _, fun u hu => ?_, .inr ⟨_, [], rfl, hS, by simp, ?_⟩⟩) (heap_alloc w _).2.2
    · rw [List.eq_of_mem_replicate hu]; exact hz1
    · rw [List.append_nil, ← madeCells_eq hz m, (heap_alloc w _).2.1, h2, Nat.mul_one]
def SrcAt (P : Program) (B G : Asn) (L : List Atom) (tx : TypeId) (x : Value) (m : Nat) (news : List Value) (sz : Nat) : Prop := ∀ w, St B G L w → Src P sz tx x m news w
theorem src_at {tx e : TypeId} {A : Option Addr} {m c sz : Nat} {l : List Value} (hk : P.underlying tx = some (.slice e)) (hl : l.length = m * sz) (h1 : ∀ u ∈ l, u.oneCell' = true) (hat : At B G L (adr A 0) l) (hA : A = none → m = 0) :
    SrcAt P B G L tx (.slice A m c) m l sz := by
  intro w hs
  cases A with
  | none =>
    obtain rfl := hA rfl
    have : l = [] := by simpa using hl
    subst this
    exact Src.ofNil w hk c
  | some a => exact Src.ofSlice w hk a m c l hl (fun k v hk => by have := hat w hs k v hk; simpa [adr, Addr.add] using this) h1
theorem src_str {tx : TypeId} (hk : P.underlying tx = some .string) (s : ByteArray) : SrcAt P B G L tx (.string s) s.size (byteCells s) 1 := fun w _ => Src.ofString w hk s
theorem e_append {tx e : TypeId} {x y : Operand} {ty : TypeId} {tl : Array TypeId} {j : Nat} {A : Option Addr} {m c sz : Nat} {cs news : List Value} {k : Nat} {X : Value} {bytes : Nat} {z : Value} (htl : tl = #[ty, tx]) (hx : ev E x = some (.slice A m c)) (hy : ev E y = some X)
    (ht : P.underlying ty = some (.slice e)) (hi : (P.info? e).map (fun i => (i.zero, i.size, i.bytes)) = some (some z, sz, bytes)) (hz : z.cells.size = sz)
    (hj : L[j]? = some (.own A m c cs sz e)) (hsrc : SrcAt P B G L tx X k news sz) (hroom : (m + k) * bytes ≤ 140737488355328) (h63 : m + k ≤ 9223372036854775807) :
    Eff P F (.call { callee := .builtin .append, args := #[x, y], argTypes := tl }) E B G L (fun p : Option Addr × Nat => .slice p.1 (m + k) p.2) (fun p => L.set j (.own p.1 (m + k) p.2 (cs ++ news) sz e)) (fun _ => True) := by
  intro a w o hop ha hs
  subst htl
  obtain ⟨i, hi', he⟩ := Option.map_eq_some_iff.1 hi
  simp only [Prod.mk.injEq] at he
  obtain ⟨h1, h2, h3⟩ := he
  obtain ⟨S, q1, q2, q3, q4⟩ := hs.at hj
  have src := hsrc w hs
  have hexec : execOp a.eval o = (do pure (.value (← Builtin.append_ #[ty, tx] o.type #[a.eval x, a.eval y]))) := by
    simp [execOp, hop, resolve, invoke, builtin]
  have hlen : (cs ++ news).length = (m + k) * sz := by rw [List.length_append, q1, src.newsLen, Nat.add_mul]
  have hone : ∀ u ∈ cs ++ news, u.oneCell' = true := fun u hu => (List.mem_append.1 hu).elim (q3 u) (src.one u)
  by_cases hfit : m + k ≤ c
  · rcases q4 with ⟨rfl, rfl, rfl⟩ | ⟨g, sp, rfl, hS, hsp, hg⟩
    · -- nothing onto nothing
      have hk0 : k = 0 := by omega
      subst hk0
      have hn : news = [] := by have := src.newsLen; simpa using this
      subst hn
      have hr := run_append_nothing (P := P) w ty tx o.type e i ht hi' none 0 0 (Nat.le_refl _) X (by rw [h2]; exact src)
      refine ⟨(none, 0), w, ?_, ?_, trivial⟩
      · rw [hexec, ev_ok ha hx, ev_ok ha hy]
        simp only [Sem.run_bind, hr, Result.andThen]; rfl
      · rw [List.append_nil]
        have hjl : j < L.length := (List.getElem?_eq_some_iff.1 hj).1
        have : L.set j (.own none 0 0 cs sz e) = L := by
          apply List.ext_getElem?
          intro q
          rw [List.getElem?_set]
          by_cases hq : j = q
          · subst hq; rw [if_pos rfl, if_pos hjl, hj]
          · simp [hq]
        show St B G (L.set j (.own none 0 0 cs sz e)) w
        rw [this]; exact hs
    · have hcur : (cs ++ sp).length = c * sz := by
        rw [List.length_append, q1, hsp, ← Nat.add_mul]
        congr 1; omega
      have hnl : news.length = k * sz := src.newsLen
      have hle : m * sz + news.length ≤ (cs ++ sp).length := by
        rw [hcur, hnl, ← Nat.add_mul]; exact Nat.mul_le_mul_right _ hfit
      have hst := run_storeCells_at P g (m * sz) e news 0 (cs ++ sp).toArray w hg (by simpa using hle) src.one
      have hr : (Builtin.append_ #[ty, tx] o.type #[.slice (some ⟨g, 0, none⟩) m c, X]).run P w = .ok (.slice (some ⟨g, 0, none⟩) (m + k) c) (w.setRow g ((cs ++ sp).toArray.toList.take (m * sz) ++ news ++ (cs ++ sp).toArray.toList.drop (m * sz + news.length)).toArray) := by
        simp only [Nat.add_zero] at hst
        rcases src.kind with ⟨e', hk⟩ | hk <;> simp [Builtin.append_, run_underlying ht, run_underlying hk, sizeOf, typeInfo, hi', h2, src.len, hfit, src.cells, Addr.add_lit] <;> (simp at hst; rw [hst]; simp)
      refine ⟨(some ⟨g, 0, none⟩, c), w.setRow g ((cs ++ sp).toArray.toList.take (m * sz) ++ news ++ (cs ++ sp).toArray.toList.drop (m * sz + news.length)).toArray, ?_, ?_, trivial⟩
      · rw [hexec, ev_ok ha hx, ev_ok ha hy]
        simp only [Sem.run_bind, hr, Result.andThen]; rfl
      · refine hs.set hj (g := g) (fun S' hp => ?_) (fun S' hS' => ⟨hlen, hfit, hone, .inr ⟨g, sp.drop news.length, rfl, hS', ?_, ?_⟩⟩) (by simp) (fun b hb => setRow_other w g b _ hb)
        · obtain ⟨_, _, _, h6⟩ := hp
          rcases h6 with ⟨e', _⟩ | ⟨g', _, e', hS', _⟩
          · cases e'
          · simp only [Option.some.injEq, Addr.mk.injEq, and_true] at e'
            rw [e']; exact hS'
        · rw [List.length_drop, hsp, hnl, ← Nat.sub_mul]; congr 1; omega
        · rw [setRow_heap w g _ _ e (0, 0) hg]
          have e1 : (cs ++ sp).take (m * sz) = cs := List.take_left' q1
          have e2 : (cs ++ sp).drop (m * sz + news.length) = sp.drop news.length := by rw [← q1, List.drop_append, List.drop_of_length_le (by omega), List.nil_append]; congr 1; omega
          rw [show (cs ++ sp).toArray.toList = cs ++ sp from rfl, e1, e2]
  · have hold : (Builtin.firstCells i.size m (.slice A m c)).run P w.drew = .ok cs.toArray w.drew := by
      rcases q4 with ⟨rfl, rfl, rfl⟩ | ⟨g, sp, rfl, hS, hsp, hg⟩
      · have : cs = [] := by simpa using q1
        subst this
        exact run_firstCells_none w.drew i.size 0 0 0
      · refine run_firstCells_some w.drew i.size m ⟨g, 0, none⟩ m c cs (by rw [h2]; exact q1) (fun q v hv => ?_)
        have e' : (⟨g, 0, none⟩ : Addr).add q = ⟨g, q, none⟩ := by unfold Addr.add; by_cases h0 : q = 0 <;> simp [h0]
        rw [e']
        show w.cell? ⟨g, q, none⟩ = some v
        simp only [World.cell?, hg, Option.isSome_none, Bool.false_eq_true, if_false]
        rw [List.getElem?_toArray, List.getElem?_append_left (List.getElem?_eq_some_iff.1 hv).1]
        exact hv
    have hr := run_append_grow_src (P := P) w ty tx o.type e i z ht hi' h1 A m c cs hold X k news (by rw [h2]; exact src) (by omega) (by omega) (by rw [h3]; exact growslice_fits (by omega) hroom)
    have hcap : m + k ≤ grownCap w (m + k) c e := by
      unfold grownCap Question.cut
      exact Nat.le_add_right _ _
    refine ⟨(some ⟨w.heap.size, 0, none⟩, grownCap w (m + k) c e), w.drew.alloc (.cells ((cs ++ news).toArray ++ Builtin.zeroCells z.cells (grownCap w (m + k) c e - (m + k))) e), ?_, ?_, trivial⟩
    · rw [hexec, ev_ok ha hx, ev_ok ha hy]
      simp only [Sem.run_bind, hr, Result.andThen]; rfl
    · have hjl : j < L.length := (List.getElem?_eq_some_iff.1 hj).1
      let rest := (Builtin.zeroCells z.cells (grownCap w (m + k) c e - (m + k))).toList
      have hnew : St B G (.own (some ⟨w.heap.size, 0, none⟩) (m + k) (grownCap w (m + k) c e) (cs ++ news) sz e :: L) (w.drew.alloc (.cells ((cs ++ news).toArray ++ Builtin.zeroCells z.cells (grownCap w (m + k) c e - (m + k))) e)) := by
        refine hs.add (heap_alloc_drew w _).1 (fun S' hS' => ⟨hlen, hcap, hone, .inr ⟨_, rest, rfl, hS', ?_, ?_⟩⟩) (heap_alloc_drew w _).2.2
        · simp [rest, size_zeroCells, hz]
        · have : (cs ++ news ++ rest).toArray = (cs ++ news).toArray ++ Builtin.zeroCells z.cells (grownCap w (m + k) c e - (m + k)) := by
            apply Array.ext'; simp [rest]
          rw [this]
          exact (heap_alloc_drew w _).2.1
      refine ⟨?_, hnew.2⟩
      refine Sep.map hnew.1 (fun q => if q < 2 then q else if q = j + 2 then 2 else q + 1) (fun q A' hq => ?_) (fun q q' hq hq' e' => ?_)
      · match q, hq with
        | 0, hq => simpa using hq
        | 1, hq => simpa using hq
        | q + 2, hq =>
          simp only [List.getElem?_cons_succ] at hq
          rw [if_neg (by omega)]
          rw [List.getElem?_set] at hq
          by_cases hqj : j = q
          · subst hqj
            rw [if_pos rfl] at hq ⊢
            simpa [hjl] using hq
          · rw [if_neg hqj] at hq
            rw [if_neg (by omega)]
            simpa using hq
      · repeat' split at e'
        all_goals omega
theorem t_nil (e sz : Nat) (next : Tg F T E B G (.own none 0 0 [] sz e :: L)) : Tg F T E B G L := fun a w ha hs =>
  next a w ha (hs.add0 fun S => ⟨by simp, Nat.le_refl _, (fun u hu => by cases hu), .inl ⟨rfl, rfl, rfl⟩⟩)
def callOf (P : Program) : Sem Next → Option (FuncId × Array Value)
  | .pure (.enter f args) => some (f, args)
  | .program k => callOf P (k P)
  | .mark _ k => callOf P k
  | _ => none
theorem callOf_run (P : Program) : ∀ (s : Sem Next) {f : FuncId} {args : Array Value}, callOf P s = some (f, args) → ∀ w, s.run P w = .ok (.enter f args) w := by
  intro s
  induction s with
  | pure n => intro f args h w; cases n <;> simp [callOf] at h; obtain ⟨rfl, rfl⟩ := h; simp [Sem.run]
  | program k ih => intro f args h w; simp only [Sem.run]; exact ih P (by simpa [callOf] using h) w
  | mark m k ih => intro f args h w; simp only [Sem.run]; exact ih (by simpa [callOf] using h) w
  | _ => intro f args h; simp [callOf] at h
def callAt (P : Program) (F : Func) (n i : Nat) (E : Env) : Option (Option Nat × FuncId × Array Value) :=
  if dstsOk F.ntmps (rg F n) then
    match (rg F n)[i]? with
    | some o => match gOk E (rg F n) o, okOps E o with
      | some true, true => match callOf P (execOp (evD E) o) with
        | some (f, args) => some (o.dst, f, args)
        | none => none
      | _, _ => none
    | none => none
  else none
def Post {X : Type} (v : X → Value) (B' : X → Asn) (G : Asn) (L' : X → List Atom) (Φ : X → Prop) : Ending → World → Prop :=
  fun e w => ∃ x, Φ x ∧ e = .returned (v x) ∧ St (B' x) G (L' x) w
theorem Post.mk {X : Type} {v : X → Value} {B' : X → Asn} {G : Asn} {L' : X → List Atom} {Φ : X → Prop} (x : X) (hx : Φ x) {u : Value} (hu : u = v x) {w : World} (hs : St (B' x) G (L' x) w) : Post v B' G L' Φ (.returned u) w := ⟨x, hx, by rw [hu], hs⟩
theorem callAt_spec {f : FuncId} {args : Array Value} {dst : Option Nat} (h : callAt P F n i E = some (dst, f, args)) :
    ∃ o, (rg F n)[i]? = some o ∧ o.dst = dst ∧ (∀ d, dst = some d → d < F.ntmps) ∧ ∀ a, EnvOk E F.ntmps a → Region.wanted o (yielded (rg F n) a.tmps) = true ∧ ∀ w, (execOp a.eval o).run P w = .ok (.enter f args) w := by
  unfold callAt at h
  split at h
  · rename_i hd
    split at h
    · rename_i o ho
      split at h
      · rename_i hg hok
        split at h
        · rename_i f' args' hc
          simp only [Option.some.injEq, Prod.mk.injEq] at h
          obtain ⟨rfl, rfl, rfl⟩ := h
          refine ⟨o, ho, rfl, fun d hd' => dstsOk_spec hd _ ?_, fun a ha => ⟨gOk_wanted ha (dstsOk_spec hd) hg, fun w => ?_⟩⟩
          · rw [Array.any_eq_true']
            exact ⟨o, Array.mem_of_getElem? ho, by simp [hd']⟩
          · rw [exec_evD ha hok]
            exact callOf_run P _ hc w
        · cases h
      · cases h
    · cases h
  · cases h
theorem s_call (d : Nat) (f : FuncId) (args : Array Value) (js ks : List Nat) {X : Type} {v : X → Value} {B' : X → Asn} {L' : X → List Atom} {Φ : X → Prop} (h : callAt P F n i E = some (some d, f, args)) (hp : okPick (js ++ ks) L.length = true)
    (hc : ∀ w, St B (all (.asn G :: pick ks L)) (pick js L) w → Calls P f args w (Post v B' (all (.asn G :: pick ks L)) L' Φ))
    (next : ∀ x, Φ x → Tg F T ((d, v x) :: E) (B' x) G (L' x ++ pick ks L)) : Stp P F R K n i T E B G L := by
  obtain ⟨o, ho, hdst, hdn, hw⟩ := callAt_spec h
  intro a w ha hs
  unfold wpOp
  simp only [ho]
  rw [if_pos (hw a ha).1]
  left
  unfold Oper.wp
  rw [(hw a ha).2 w]
  have hpk : pick (js ++ ks) L = pick js L ++ pick ks L := by unfold pick; rw [List.filterMap_append]
  have h1 : St B G (pick js L ++ pick ks L) w := by rw [← hpk]; exact hs.pick _ hp
  refine (hc w h1.group).mono ?_
  rintro e w' ⟨x, hx, rfl, hs'⟩
  show T (a.put o.dst (v x)) w'
  rw [hdst]
  exact next x hx _ w' (ha.put (hdn d rfl)) hs'.ungroup
theorem q_call (d : Nat) (f : FuncId) (args : Array Value) (js ks inv : List Nat) (v : Value) (h : callAt P F n i E = some (some d, f, args)) (hp : okPick (js ++ ks) L.length = true) (hi : okPick inv (pick (js ++ ks) L).length = true)
    (hback : pick inv (pick (js ++ ks) L) = L) (hc : ∀ w, St B (all (.asn G :: pick ks L)) (pick js L) w → Calls P f args w (Post (fun _ : Unit => v) (fun _ => B) (all (.asn G :: pick ks L)) (fun _ => pick js L) (fun _ => True)))
    (next : Wq P F R K n (i + 1) ((d, v) :: E) B G L) : Wq P F R K n i E B G L := by
  obtain ⟨o, ho, hdst, hdn, hw⟩ := callAt_spec h
  intro a ha
  rw [drop_cons ho]
  unfold wpQuiet
  rw [if_pos (hw a ha).1]
  refine ⟨v, fun w hs => ?_, ?_⟩
  · unfold Oper.quietAt
    rw [(hw a ha).2 w]
    refine ⟨rfl, ?_⟩
    have hpk : pick (js ++ ks) L = pick js L ++ pick ks L := by unfold pick; rw [List.filterMap_append]
    have h1 : St B G (pick js L ++ pick ks L) w := by rw [← hpk]; exact hs.pick _ hp
    refine (hc w h1.group).mono ?_
    rintro e w' ⟨_, _, rfl, hs'⟩
    refine ⟨rfl, ?_⟩
    have h2 := hs'.ungroup
    rw [← hpk] at h2
    have h3 := h2.pick inv hi
    rwa [hback] at h3
  · rw [hdst]
    exact next _ (ha.put (hdn d rfl))
end
end Go.V
