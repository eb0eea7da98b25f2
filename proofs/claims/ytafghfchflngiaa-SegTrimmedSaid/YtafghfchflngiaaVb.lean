/- The walk's rules: a function's code by numbers, its temporaries by a list, chunks of quiet operations by one computation of the kernel. -/
import Derived.Test.YtafghfchflngiaaVa
namespace Go.V
open Go
abbrev Env := List (Nat × Value)
def child (b : Nat) : Code → Code
  | .seq x y | .cond _ x y | .rangeFunc _ _ x y => if b = 0 then x else y
  | .block _ x | .loop x | .scope x => x
  | _ => .skip
def cdf : Nat → Func → Nat → Code
  | 0, _, _ => .skip
  | k + 1, F, n => if n ≤ 1 then F.body.getD .skip else child (n % 2) (cdf k F (n / 2))
def cd (F : Func) (n : Nat) : Code := cdf 240 F n
def rg (F : Func) (n : Nat) : Array Oper := match cd F n with | .region _ ops _ => ops | _ => #[]
def rgd (F : Func) (n : Nat) : Option Bool := match cd F n with | .region _ _ d => some d | _ => none
theorem cd_rg {F : Func} {n : Nat} {d : Bool} (h : rgd F n = some d) : ∃ id, cd F n = .region id (rg F n) d := by
  unfold rgd at h; unfold rg
  cases hc : cd F n <;> rw [hc] at h <;> simp at h
  subst h
  exact ⟨_, rfl⟩
inductive Kont where
  | seq (n : Nat)
  | blk (id : Nat)
  | inv (I : Act → World → Prop)
def kp (P : Program) (F : Func) (R : Ending → World → Prop) : List Kont → Exit → Act → World → Prop
  | [] => bodyPost P F R
  | .seq n :: K => Exit.then ((cd F n).wp P (kp P F R K)) (kp P F R K)
  | .blk id :: K => Exit.inBlock id (kp P F R K)
  | .inv I :: K => Exit.then I (kp P F R K)
def EnvOk (E : Env) (n : Nat) (a : Act) : Prop := a.tmps.size = n ∧ a.defers = [] ∧ ∀ t v, E.lookup t = some v → a.tmps.getD t undef = v
def evD (E : Env) : Operand → Value
  | .tmp t => (E.lookup t).getD undef
  | .const v => v
  | .global g => .pointer (some ⟨g, 0, none⟩)
  | .func f => .func (.func f) #[] #[]
def ev (E : Env) : Operand → Option Value
  | .tmp t => E.lookup t
  | x => some (evD E x)
theorem ev_ok {E : Env} {n : Nat} {a : Act} {x : Operand} {v : Value} (he : EnvOk E n a) (h : ev E x = some v) : a.eval x = v := by
  cases x with
  | tmp t => exact he.2.2 t v h
  | _ => simp only [ev, evD, Option.some.injEq] at h; exact h
theorem ev_evD {E : Env} {n : Nat} {a : Act} {x : Operand} (he : EnvOk E n a) (h : (ev E x).isSome = true) : a.eval x = evD E x := by
  cases hx : ev E x with
  | none => rw [hx] at h; cases h
  | some v =>
    rw [ev_ok he hx]
    cases x <;> simp_all [ev, evD]
theorem EnvOk.put {E : Env} {n : Nat} {a : Act} {d : Nat} {v : Value} (he : EnvOk E n a) (hd : d < n) : EnvOk ((d, v) :: E) n (a.put (some d) v) := by
  obtain ⟨h1, h2, h3⟩ := he
  refine ⟨by simp [Act.put, h1], h2, fun t u ht => ?_⟩
  rw [List.lookup_cons] at ht
  by_cases e : t = d
  · subst e
    simp at ht
    subst ht
    simp [Act.put, h1, hd]
  · have : (t == d) = false := by simpa using e
    rw [this] at ht
    have := h3 t u ht
    simp only [Act.put, Array.getD_eq_getD_getElem?] at *
    rw [Array.getElem?_setIfInBounds_ne (Ne.symm e)]
    exact this
theorem EnvOk.sub {E E' : Env} {n : Nat} {a : Act} (he : EnvOk E n a) (h : ∀ t v, E'.lookup t = some v → E.lookup t = some v) : EnvOk E' n a :=
  ⟨he.1, he.2.1, fun t v ht => he.2.2 t v (h t v ht)⟩
def keep (E : Env) : List Nat → Option Env
  | [] => some []
  | k :: ks => match E.lookup k, keep E ks with
    | some v, some r => some ((k, v) :: r)
    | _, _ => none
theorem keep_sub {E E' : Env} : ∀ {ks : List Nat}, keep E ks = some E' → ∀ t v, E'.lookup t = some v → E.lookup t = some v
  | [], h, t, v, ht => by simp [keep] at h; subst h; cases ht
  | k :: ks, h, t, v, ht => by
    unfold keep at h
    split at h
    · rename_i u r hk hr
      injection h with h
      subst h
      rw [List.lookup_cons] at ht
      split at ht
      · rename_i e
        have : t = k := by simpa using e
        subst this
        rw [hk]; exact ht
      · exact keep_sub hr t v ht
    · cases h
def symOf (P : Program) : Sem Next → List (Addr × Value) → Option (Value × List Addr × List (Addr × Value))
  | .pure (.value v), l => some (v, [], l)
  | .load _ a k, (_, v) :: l => match symOf P (k v) l with
    | some (x, us, r) => some (x, a :: us, r)
    | none => none
  | .program k, l => symOf P (k P) l
  | .mark _ k, l => symOf P k l
  | _, _ => none
theorem symOf_run (P : Program) : ∀ (s : Sem Next) (l : List (Addr × Value)) {v : Value} {us : List Addr} {r : List (Addr × Value)}, symOf P s l = some (v, us, r) →
    ∃ u, l = u ++ r ∧ us.length = u.length ∧ (us = u.map Prod.fst → ∀ w : World, (∀ p ∈ u, w.cell? p.1 = some p.2) → s.run P w = .ok (.value v) w) := by
  intro s
  induction s with
  | pure n =>
    intro l v us r h
    cases n <;> simp [symOf] at h
    obtain ⟨rfl, rfl, rfl⟩ := h
    exact ⟨[], rfl, rfl, fun _ w _ => by simp [Sem.run]⟩
  | load m a k ih =>
    intro l v us r h
    cases l with
    | nil => simp [symOf] at h
    | cons p l =>
      obtain ⟨a', v'⟩ := p
      simp only [symOf] at h
      split at h
      · rename_i x us' r' hx
        simp only [Option.some.injEq, Prod.mk.injEq] at h
        obtain ⟨rfl, rfl, rfl⟩ := h
        obtain ⟨u, hl, hlen, hrun⟩ := ih v' l hx
        refine ⟨(a', v') :: u, by rw [hl]; rfl, by simp [hlen], fun he w hw => ?_⟩
        simp only [List.map_cons, List.cons.injEq] at he
        obtain ⟨rfl, he⟩ := he
        have h0 := hw (a, v') (by simp)
        simp only [Sem.run, h0]
        exact hrun he w (fun p hp => hw p (by simp [hp]))
      · cases h
  | program k ih =>
    intro l v us r h
    obtain ⟨u, h1, h2, h3⟩ := ih P l (by simpa [symOf] using h)
    exact ⟨u, h1, h2, fun he w hw => by simp only [Sem.run]; exact h3 he w hw⟩
  | mark m k ih =>
    intro l v us r h
    obtain ⟨u, h1, h2, h3⟩ := ih l (by simpa [symOf] using h)
    exact ⟨u, h1, h2, fun he w hw => by simp only [Sem.run]; exact h3 he w hw⟩
  | _ => intro l v us r h; simp [symOf] at h
def isSel : Op → Bool
  | .select .. => true
  | _ => false
def okOps (E : Env) (o : Oper) : Bool := !isSel o.op && o.op.operands.toList.all fun x => (ev E x).isSome
theorem exec_evD {E : Env} {n : Nat} {a : Act} {o : Oper} (he : EnvOk E n a) (h : okOps E o = true) : execOp a.eval o = execOp (evD E) o := by
  simp only [okOps, Bool.and_eq_true, List.all_eq_true] at h
  refine execOp_congr o (fun cs b e => ?_) (fun x hx => ev_evD he (h.2 x (by simpa using hx)))
  rw [e] at h; simp [isSel] at h
def gOk (E : Env) (ops : Array Oper) (o : Oper) : Option Bool :=
  match o.guard with
  | none => some true
  | some (j, want) => match (ops[j]?).bind (·.dst) with
    | some d => match E.lookup d with
      | some (.bool b) => some (b == want)
      | some _ => some false
      | none => none
    | none => none
theorem gOk_wanted {E : Env} {n : Nat} {a : Act} {ops : Array Oper} {o : Oper} {b : Bool} (he : EnvOk E n a) (hn : ∀ d, ops.any (fun x => x.dst == some d) = true → d < n) (h : gOk E ops o = some b) :
    Region.wanted o (yielded ops a.tmps) = b := by
  unfold gOk at h; unfold Region.wanted
  split at h
  · rename_i hg; rw [hg]; injection h
  · rename_i j want hg
    rw [hg]
    simp only
    split at h
    · rename_i d hd
      have hdn : d < n := hn d (by
        cases hj : ops[j]? with
        | none => rw [hj] at hd; cases hd
        | some o' =>
          rw [hj] at hd
          simp only [Option.bind_some] at hd
          rw [Array.any_eq_true']
          exact ⟨o', Array.mem_of_getElem? hj, by simp [hd]⟩)
      have hy : yielded ops a.tmps j = match a.tmps[d]? with | some (.bool b) => some b | _ => none := by
        unfold yielded; rw [hd]; rfl
      split at h
      · rename_i b' hb
        have h3 := he.2.2 d _ hb
        have hs : a.tmps[d]? = some (.bool b') := by
          have hlt : d < a.tmps.size := by rw [he.1]; exact hdn
          rw [Array.getD_eq_getD_getElem?, Array.getElem?_eq_getElem hlt] at h3
          rw [Array.getElem?_eq_getElem hlt]
          simpa using h3
        rw [hy, hs]
        exact Option.some.inj h
      · rename_i v hv hl
        have h3 := he.2.2 d _ hl
        have hlt : d < a.tmps.size := by rw [he.1]; exact hdn
        have hs : a.tmps[d]? = some v := by
          rw [Array.getD_eq_getD_getElem?, Array.getElem?_eq_getElem hlt] at h3
          rw [Array.getElem?_eq_getElem hlt]
          simpa using h3
        rw [hy, hs]
        injection h with h
        rw [← h]
        cases v <;> first | rfl | exact absurd rfl (hv _)
      · cases h
    · cases h
def dstsOk (n : Nat) (ops : Array Oper) : Bool := ops.toList.all fun o => match o.dst with | some d => decide (d < n) | none => true
theorem dstsOk_spec {n : Nat} {ops : Array Oper} (h : dstsOk n ops = true) : ∀ d, ops.any (fun x => x.dst == some d) = true → d < n := by
  intro d hd
  rw [Array.any_eq_true'] at hd
  obtain ⟨o, ho, he⟩ := hd
  simp only [dstsOk, List.all_eq_true] at h
  have := h o (by simpa using ho)
  have hod : o.dst = some d := by simpa using he
  rw [hod] at this
  simpa using this
def step1 (P : Program) (ops : Array Oper) (o : Oper) (E : Env) (l : List (Addr × Value)) : Option (Env × List Addr × List (Addr × Value)) :=
  match gOk E ops o, o.dst with
  | some false, some d => some ((d, undef) :: E, [], l)
  | some true, some d => if okOps E o then
      match symOf P (execOp (evD E) o) l with
      | some (v, us, r) => some ((d, v) :: E, us, r)
      | none => none
    else none
  | _, _ => none
def steps (P : Program) (ops : Array Oper) : List Oper → Env → List (Addr × Value) → Option (Env × List Addr × List (Addr × Value))
  | [], E, l => some (E, [], l)
  | o :: os, E, l => match step1 P ops o E l with
    | some (E', us, r) => match steps P ops os E' r with
      | some (E'', us', r') => some (E'', us ++ us', r')
      | none => none
    | none => none
def runk (P : Program) (F : Func) (n i j : Nat) (keys : List Nat) (l : List (Addr × Value)) (E : Env) : Option (Env × List Addr) :=
  if dstsOk F.ntmps (rg F n) then
    match steps P (rg F n) (((rg F n).toList.drop i).take (j - i)) E l with
    | some (E', us, []) => match keep E' keys with
      | some E'' => some (E'', us)
      | none => none
    | _ => none
  else none
def Tg (F : Func) (T : Act → World → Prop) (E : Env) (B G : Asn) (L : List Atom) : Prop := ∀ a w, EnvOk E F.ntmps a → St B G L w → T a w
abbrev Wc (P : Program) (F : Func) (R : Ending → World → Prop) (K : List Kont) (n : Nat) (E : Env) (B G : Asn) (L : List Atom) : Prop := Tg F (fun a w => (cd F n).wp P (kp P F R K) a w) E B G L
abbrev We (P : Program) (F : Func) (R : Ending → World → Prop) (K : List Kont) (x : Exit) (E : Env) (B G : Asn) (L : List Atom) : Prop := Tg F (kp P F R K x) E B G L
abbrev Wo (P : Program) (F : Func) (R : Ending → World → Prop) (K : List Kont) (n i : Nat) (E : Env) (B G : Asn) (L : List Atom) : Prop :=
  Tg F (fun a w => wpList P (rg F n) (kp P F R K) ((rg F n).toList.drop i) a w) E B G L
abbrev Stp (P : Program) (F : Func) (R : Ending → World → Prop) (K : List Kont) (n i : Nat) (T : Act → World → Prop) (E : Env) (B G : Asn) (L : List Atom) : Prop :=
  Tg F (fun a w => wpOp P (rg F n) (kp P F R K) i T a w) E B G L
def Wq (P : Program) (F : Func) (R : Ending → World → Prop) (K : List Kont) (n i : Nat) (E : Env) (B G : Asn) (L : List Atom) : Prop :=
  ∀ a, EnvOk E F.ntmps a → wpQuiet P (rg F n) (fun w => St B G L w) (fun a' => ∀ w', St B G L w' → kp P F R K .normal a' w') ((rg F n).toList.drop i) a
section
variable {P : Program} {F : Func} {R : Ending → World → Prop} {K : List Kont} {n i : Nat} {E E' : Env} {B G : Asn} {L L' : List Atom}
theorem drop_cons {ops : Array Oper} {o : Oper} {i : Nat} (h : ops[i]? = some o) : ops.toList.drop i = o :: ops.toList.drop (i + 1) := by
  obtain ⟨hl, he⟩ := Array.getElem?_eq_some_iff.1 h
  rw [List.drop_eq_getElem_cons (by simpa using hl)]
  simp [he]
theorem wanted_none {o : Oper} (h : o.guard = none) (y : Nat → Option Bool) : Region.wanted o y = true := by simp [Region.wanted, h]
theorem o_stp {P : Program} {F : Func} {R : Ending → World → Prop} {K : List Kont} {n i : Nat} {E : Env} {B G : Asn} {L : List Atom}
    (h : Stp P F R K n i (fun a w => wpList P (rg F n) (kp P F R K) ((rg F n).toList.drop (i + 1)) a w) E B G L) (hi : Nat.blt i (rg F n).size = true) : Wo P F R K n i E B G L := by
  intro a w ha hs
  have hl : i < (rg F n).size := Nat.le_of_ble_eq_true hi
  have h1 := h a w ha hs
  have ho : (rg F n)[i]? = some (rg F n)[i] := Array.getElem?_eq_getElem hl
  rw [drop_cons ho]
  unfold wpOp at h1
  rw [ho] at h1
  exact h1
theorem upon_wp {o : Oper} {a : Act} {w : World} {K1 : Act → World → Prop} {Q : Exit → Act → World → Prop} {v : Value} (h : (execOp a.eval o).run P w = .ok (.value v) w)
    (hk : K1 (a.put o.dst v) w) : o.wp P a w K1 Q := by
  unfold Oper.wp; rw [h]; exact hk
theorem step1_ok {ops : Array Oper} {o : Oper} {E1 : Env} {l r : List (Addr × Value)} {us : List Addr} (hd : dstsOk F.ntmps ops = true) (ho : o ∈ ops.toList) (h : step1 P ops o E l = some (E1, us, r)) :
    ∃ u, l = u ++ r ∧ us.length = u.length ∧ ∀ a, EnvOk E F.ntmps a →
      (Region.wanted o (yielded ops a.tmps) = false ∧ EnvOk E1 F.ntmps (a.put o.dst undef)) ∨
      (∃ v, Region.wanted o (yielded ops a.tmps) = true ∧ (us = u.map Prod.fst → ∀ w : World, (∀ p ∈ u, w.cell? p.1 = some p.2) → (execOp a.eval o).run P w = .ok (.value v) w) ∧ EnvOk E1 F.ntmps (a.put o.dst v)) := by
  have hdn : ∀ d, o.dst = some d → d < F.ntmps := fun d hd' => by
    simp only [dstsOk, List.all_eq_true] at hd
    have := hd o ho
    rw [hd'] at this
    simpa using this
  unfold step1 at h
  split at h
  · rename_i d hg hdst
    simp only [Option.some.injEq, Prod.mk.injEq] at h
    obtain ⟨rfl, rfl, rfl⟩ := h
    refine ⟨[], rfl, rfl, fun a ha => .inl ⟨gOk_wanted ha (dstsOk_spec hd) hg, ?_⟩⟩
    rw [hdst]; exact ha.put (hdn d hdst)
  · rename_i d hg hdst
    split at h
    · rename_i hok
      split at h
      · rename_i v us' r' hs
        simp only [Option.some.injEq, Prod.mk.injEq] at h
        obtain ⟨rfl, rfl, rfl⟩ := h
        obtain ⟨u, h1, h2, h3⟩ := symOf_run P _ _ hs
        refine ⟨u, h1, h2, fun a ha => .inr ⟨v, gOk_wanted ha (dstsOk_spec hd) hg, fun he w hw => ?_, ?_⟩⟩
        · rw [exec_evD ha hok]; exact h3 he w hw
        · rw [hdst]; exact ha.put (hdn d hdst)
      · cases h
    · cases h
  · cases h
theorem app_map {us us' : List Addr} {u u' : List (Addr × Value)} (hl : us.length = u.length) (h : us ++ us' = (u ++ u').map Prod.fst) : us = u.map Prod.fst ∧ us' = u'.map Prod.fst := by
  rw [List.map_append] at h
  exact List.append_inj h (by simpa using hl)
theorem steps_ok {ops : Array Oper} (hd : dstsOk F.ntmps ops = true) : ∀ (os : List Oper) {E E1 : Env} {l r : List (Addr × Value)} {us : List Addr}, (∀ o ∈ os, o ∈ ops.toList) → steps P ops os E l = some (E1, us, r) →
    ∃ u, l = u ++ r ∧ us.length = u.length ∧ (us = u.map Prod.fst →
      (∀ (Q : Exit → Act → World → Prop) (rest : List Oper) (a : Act) (w : World), EnvOk E F.ntmps a → (∀ p ∈ u, w.cell? p.1 = some p.2) → (∀ a', EnvOk E1 F.ntmps a' → wpList P ops Q rest a' w) → wpList P ops Q (os ++ rest) a w) ∧
      (∀ (C : World → Prop) (Q : Act → Prop) (rest : List Oper) (a : Act), EnvOk E F.ntmps a → (∀ w, C w → ∀ p ∈ u, w.cell? p.1 = some p.2) → (∀ a', EnvOk E1 F.ntmps a' → wpQuiet P ops C Q rest a') → wpQuiet P ops C Q (os ++ rest) a)) := by
  intro os
  induction os with
  | nil =>
    intro E E1 l r us _ h
    simp only [steps, Option.some.injEq, Prod.mk.injEq] at h
    obtain ⟨rfl, rfl, rfl⟩ := h
    exact ⟨[], rfl, rfl, fun _ => ⟨fun Q rest a w ha _ hk => hk a ha, fun C Q rest a ha _ hk => hk a ha⟩⟩
  | cons o os ih =>
    intro E E1 l r us hmem h
    simp only [steps] at h
    split at h
    · rename_i E' us1 r1 h1
      split at h
      · rename_i E'' us2 r2 h2
        simp only [Option.some.injEq, Prod.mk.injEq] at h
        obtain ⟨rfl, rfl, rfl⟩ := h
        obtain ⟨u1, e1, l1, s1⟩ := step1_ok hd (hmem o (by simp)) h1
        obtain ⟨u2, e2, l2, s2⟩ := ih (fun o ho => hmem o (by simp [ho])) h2
        refine ⟨u1 ++ u2, by rw [e1, e2, List.append_assoc], by simp [l1, l2], fun he => ?_⟩
        obtain ⟨he1, he2⟩ := app_map l1 he
        obtain ⟨k1, k2⟩ := s2 he2
        refine ⟨fun Q rest a w ha hw hk => ?_, fun C Q rest a ha hw hk => ?_⟩
        · have hk' := fun a' ha' => k1 Q rest a' w ha' (fun p hp => hw p (by simp [hp])) hk
          simp only [List.cons_append, wpList]
          rcases s1 a ha with ⟨hwn, ha'⟩ | ⟨v, hwn, hrun, ha'⟩
          · rw [hwn]; simp only [Bool.false_eq_true, if_false]; exact hk' _ ha'
          · rw [hwn]; simp only [if_true]
            exact .inl (upon_wp (hrun he1 w (fun p hp => hw p (by simp [hp]))) (hk' _ ha'))
        · have hk' := fun a' ha' => k2 C Q rest a' ha' (fun w hC p hp => hw w hC p (by simp [hp])) hk
          simp only [List.cons_append, wpQuiet]
          rcases s1 a ha with ⟨hwn, ha'⟩ | ⟨v, hwn, hrun, ha'⟩
          · rw [hwn]; simp only [Bool.false_eq_true, if_false]; exact hk' _ ha'
          · rw [hwn]; simp only [if_true]
            refine ⟨v, fun w hC => ?_, hk' _ ha'⟩
            unfold Oper.quietAt
            rw [hrun he1 w (fun p hp => hw w hC p (by simp [hp]))]
            exact ⟨rfl, rfl⟩
      · cases h
    · cases h
theorem runk_ok {j : Nat} {keys : List Nat} {l : List (Addr × Value)} (h : runk P F n i j keys l E = some (E', l.map Prod.fst)) :
    (∀ (Q : Exit → Act → World → Prop) (a : Act) (w : World), EnvOk E F.ntmps a → (∀ p ∈ l, w.cell? p.1 = some p.2) → (∀ a', EnvOk E' F.ntmps a' → wpList P (rg F n) Q ((rg F n).toList.drop (i + (j - i))) a' w) → wpList P (rg F n) Q ((rg F n).toList.drop i) a w) ∧
    (∀ (C : World → Prop) (Q : Act → Prop) (a : Act), EnvOk E F.ntmps a → (∀ w, C w → ∀ p ∈ l, w.cell? p.1 = some p.2) → (∀ a', EnvOk E' F.ntmps a' → wpQuiet P (rg F n) C Q ((rg F n).toList.drop (i + (j - i))) a') → wpQuiet P (rg F n) C Q ((rg F n).toList.drop i) a) := by
  unfold runk at h
  split at h
  · rename_i hd
    split at h
    · rename_i E1 us hs
      split at h
      · rename_i E2 hk
        simp only [Option.some.injEq, Prod.mk.injEq] at h
        obtain ⟨rfl, hus⟩ := h
        obtain ⟨u, e1, l1, s1⟩ := steps_ok hd _ (fun o ho => List.mem_of_mem_drop (List.mem_of_mem_take ho)) hs
        rw [List.append_nil] at e1
        subst e1
        obtain ⟨k1, k2⟩ := s1 hus
        have hsplit : (rg F n).toList.drop i = ((rg F n).toList.drop i).take (j - i) ++ (rg F n).toList.drop (i + (j - i)) := by
          rw [← List.drop_drop, List.take_append_drop]
        refine ⟨fun Q a w ha hw hq => ?_, fun C Q a ha hw hq => ?_⟩
        · rw [hsplit]; exact k1 Q _ a w ha hw (fun a' ha' => hq a' (ha'.sub (keep_sub hk)))
        · rw [hsplit]; exact k2 C Q _ a ha hw (fun a' ha' => hq a' (ha'.sub (keep_sub hk)))
      · cases h
    · cases h
  · cases h
def Lds (B G : Asn) (L : List Atom) (l : List (Addr × Value)) : Prop := ∀ w, St B G L w → ∀ p ∈ l, w.cell? p.1 = some p.2
theorem Lds.nil : Lds B G L [] := fun _ _ _ h => by cases h
theorem Lds.cons {p : Addr × Value} {l : List (Addr × Value)} (h : ∀ w, St B G L w → w.cell? p.1 = some p.2) (hl : Lds B G L l) : Lds B G L (p :: l) := fun w hs q hq => by
  cases List.mem_cons.1 hq with
  | inl e => subst e; exact h w hs
  | inr e => exact hl w hs q e
theorem o_run (j : Nat) (keys : List Nat) {l : List (Addr × Value)} (hl : Lds B G L l) (h : runk P F n i (i + j) keys l E = some (E', l.map Prod.fst)) (next : Wo P F R K n (i + j) E' B G L) : Wo P F R K n i E B G L := by
  intro a w ha hw
  refine (runk_ok h).1 _ a w ha (hl w hw) (fun a' ha' => ?_)
  rw [show i + (i + j - i) = i + j by omega]
  exact next a' w ha' hw
theorem q_run (j : Nat) (keys : List Nat) {l : List (Addr × Value)} (hl : Lds B G L l) (h : runk P F n i (i + j) keys l E = some (E', l.map Prod.fst)) (next : Wq P F R K n (i + j) E' B G L) : Wq P F R K n i E B G L := by
  intro a ha
  refine (runk_ok h).2 _ _ a ha (fun w hw => hl w hw) (fun a' ha' => ?_)
  rw [show i + (i + j - i) = i + j by omega]
  exact next a' ha'
theorem w_seq (x y : Nat) (h : cd F n = .seq (cd F x) (cd F y)) (next : Wc P F R (.seq y :: K) x E B G L) : Wc P F R K n E B G L := by
  intro a w ha hw
  rw [h]
  exact wp_seq (next a w ha hw)
theorem w_skip (h : cd F n = .skip) (next : We P F R K .normal E B G L) : Wc P F R K n E B G L := by
  intro a w ha hw
  rw [h]
  exact wp_skip (next a w ha hw)
theorem w_label {l : Nat} (h : cd F n = .label l) (next : We P F R K .normal E B G L) : Wc P F R K n E B G L := by
  intro a w ha hw
  rw [h]
  exact wp_label (next a w ha hw)
theorem w_exit (id : Nat) (h : cd F n = .exit id) (next : We P F R K (.exit id) E B G L) : Wc P F R K n E B G L := by
  intro a w ha hw
  rw [h]
  exact wp_exit (next a w ha hw)
theorem w_ret (h : cd F n = .ret) (next : We P F R K .ret E B G L) : Wc P F R K n E B G L := by
  intro a w ha hw
  rw [h]
  exact wp_ret (next a w ha hw)
theorem w_block (id x : Nat) (h : cd F n = .block id (cd F x)) (next : Wc P F R (.blk id :: K) x E B G L) : Wc P F R K n E B G L := by
  intro a w ha hw
  rw [h]
  exact wp_block (next a w ha hw)
theorem w_cond (c : Operand) (x y : Nat) (b : Bool) (h : cd F n = .cond c (cd F x) (cd F y)) (hc : ev E c = some (.bool b)) (ht : b = true → Wc P F R K x E B G L) (hf : b = false → Wc P F R K y E B G L) :
    Wc P F R K n E B G L := by
  intro a w ha hw
  rw [h]
  exact wp_cond_split (ev_ok ha hc) (fun e => ht e a w ha hw) (fun e => hf e a w ha hw)
theorem w_region (h : rgd F n = some false) (next : Wo P F R K n 0 E B G L) : Wc P F R K n E B G L := by
  intro a w ha hw
  obtain ⟨id, e⟩ := cd_rg h
  rw [e]
  exact wp_region_list (by simpa using next a w ha hw)
theorem w_quiet (h : rgd F n = some true) (hm : P.follows .mixedOrders = true) (hB : Region.lexB .any (rg F n) = true) (next : Wq P F R K n 0 E B G L) : Wc P F R K n E B G L := by
  intro a w ha hw
  obtain ⟨id, e⟩ := cd_rg h
  rw [e]
  exact wp_region_quiet (C := fun w => St B G L w) hm hB (hw.of_heap rfl) (by simpa using next a ha)
theorem o_end (h : (rg F n).size = i) (next : We P F R K .normal E B G L) : Wo P F R K n i E B G L := by
  intro a w ha hw
  rw [List.drop_of_length_le (by rw [← h]; simp)]
  exact wpList_nil (next a w ha hw)
theorem q_end (h : (rg F n).size = i) (next : We P F R K .normal E B G L) : Wq P F R K n i E B G L := by
  intro a ha
  rw [List.drop_of_length_le (by rw [← h]; simp)]
  exact fun w hw => next a w ha hw
theorem e_seq (next : Wc P F R K n E B G L) : We P F R (.seq n :: K) .normal E B G L := fun a w ha hw => next a w ha hw
theorem e_blk {id : Nat} (next : We P F R K .normal E B G L) : We P F R (.blk id :: K) .normal E B G L := fun a w ha hw => next a w ha hw
theorem e_inv {I : Act → World → Prop} (h : ∀ a w, EnvOk E F.ntmps a → St B G L w → I a w) : We P F R (.inv I :: K) .normal E B G L := fun a w ha hw => h a w ha hw
theorem e_x_seq {id m : Nat} (next : We P F R K (.exit id) E B G L) : We P F R (.seq m :: K) (.exit id) E B G L := fun a w ha hw => next a w ha hw
theorem e_x_inv {id : Nat} {I : Act → World → Prop} (next : We P F R K (.exit id) E B G L) : We P F R (.inv I :: K) (.exit id) E B G L := fun a w ha hw => next a w ha hw
theorem e_x_here {id : Nat} (next : We P F R K .normal E B G L) : We P F R (.blk id :: K) (.exit id) E B G L := fun a w ha hw => by
  show Exit.inBlock id _ _ a w
  simp only [Exit.inBlock, if_true]
  exact next a w ha hw
theorem e_x_blk {id id' : Nat} (h : (id == id') = false) (next : We P F R K (.exit id) E B G L) : We P F R (.blk id' :: K) (.exit id) E B G L := fun a w ha hw => by
  show Exit.inBlock id' _ _ a w
  have : ¬ id = id' := by simpa using h
  simp only [Exit.inBlock, if_neg this]
  exact next a w ha hw
def popx (id : Nat) : List Kont → Option (List Kont)
  | [] => none
  | .seq _ :: K => popx id K
  | .inv _ :: K => popx id K
  | .blk j :: K => if id = j then some K else popx id K
theorem e_pop {id : Nat} : ∀ {K K' : List Kont}, popx id K = some K' → We P F R K' .normal E B G L → We P F R K (.exit id) E B G L
  | [], _, h, _ => by cases h
  | .seq _ :: K, _, h, next => e_x_seq (e_pop (K := K) h next)
  | .inv _ :: K, _, h, next => e_x_inv (e_pop (K := K) h next)
  | .blk j :: K, K', h, next => by
    unfold popx at h
    split at h
    · rename_i e; subst e; injection h with h; subst h; exact e_x_here next
    · rename_i e; exact e_x_blk (by simpa using e) (e_pop (K := K) h next)
def popn : List Kont → Option (Nat × List Kont)
  | .seq m :: K => some (m, K)
  | .blk _ :: K => popn K
  | _ => none
theorem e_nxt (m : Nat) : ∀ {K K' : List Kont}, popn K = some (m, K') → Wc P F R K' m E B G L → We P F R K .normal E B G L
  | [], _, h, _ => by cases h
  | .seq m' :: K, K', h, next => by
    simp only [popn, Option.some.injEq, Prod.mk.injEq] at h
    obtain ⟨rfl, rfl⟩ := h
    exact e_seq next
  | .blk _ :: K, _, h, next => e_blk (e_nxt m (K := K) h next)
  | .inv _ :: K, _, h, _ => by cases h
theorem kp_ret : ∀ (K : List Kont) {a : Act} {w : World}, bodyPost P F R .ret a w → kp P F R K .ret a w
  | [], _, _, h => h
  | .seq _ :: K, _, _, h => kp_ret K h
  | .blk _ :: K, _, _, h => kp_ret K h
  | .inv _ :: K, _, _, h => kp_ret K h
theorem e_ret (v : Value) (h : ∀ a w, EnvOk E F.ntmps a → (results F a.tmps).run P w = .ok v w) (hR : ∀ w, St B G L w → R (.returned v) w) : We P F R K .ret E B G L := fun a w ha hw =>
  kp_ret K ⟨ha.2.1, v, h a w ha, hR w hw⟩
theorem e_end (v : Value) (h : ∀ a w, EnvOk E F.ntmps a → (results F a.tmps).run P w = .ok v w) (hR : ∀ w, St B G L w → R (.returned v) w) : We P F R [] .normal E B G L := fun a w ha hw =>
  ⟨ha.2.1, v, h a w ha, hR w hw⟩
theorem w_env (keys : List Nat) (h : keep E keys = some E') (next : Wc P F R K n E' B G L) : Wc P F R K n E B G L := fun a w ha hw => next a w (ha.sub (keep_sub h)) hw
theorem e_env (keys : List Nat) {x : Exit} (h : keep E keys = some E') (next : We P F R K x E' B G L) : We P F R K x E B G L := fun a w ha hw => next a w (ha.sub (keep_sub h)) hw
theorem exists_least (p : Nat → Prop) : ∀ k, p k → ∃ m, p m ∧ ∀ j, p j → m ≤ j := by
  intro k
  induction k using Nat.strongRecOn with
  | _ k ih =>
    intro hk
    by_cases hx : ∃ j, j < k ∧ p j
    · obtain ⟨j, hj, hp⟩ := hx
      exact ih j hj hp
    · exact ⟨k, hk, fun j hj => Nat.le_of_not_lt fun hlt => hx ⟨j, hlt, hj⟩⟩
theorem w_loop (x : Nat) (I : Nat → Act → World → Prop) (h : cd F n = .loop (cd F x))
    (round : ∀ k a w, I k a w → (cd F x).wp P (kp P F R (.inv (fun a' w' => ∃ j, j < k ∧ I j a' w') :: K)) a w) (k : Nat) (h0 : ∀ a w, EnvOk E F.ntmps a → St B G L w → I k a w) : Wc P F R K n E B G L := by
  intro a w ha hw
  rw [h]
  classical
  let μ : Act → World → Nat := fun a w => if hx : ∃ m, I m a w ∧ ∀ j, I j a w → m ≤ j then hx.choose else 0
  have hμ : ∀ a w, (∃ k, I k a w) → I (μ a w) a w ∧ ∀ j, I j a w → μ a w ≤ j := fun a w ⟨k, hk⟩ => by
    have hx := exists_least (fun m => I m a w) k hk
    simp only [μ, dif_pos hx]
    exact hx.choose_spec
  refine wp_loop (fun a w => ∃ k, I k a w) μ ⟨k, h0 a w ha hw⟩ (fun a w hI => ?_)
  refine Code.wp_mono (fun e a' w' hq => ?_) (round _ a w (hμ a w hI).1)
  cases e with
  | normal =>
    obtain ⟨j, hj, hI'⟩ := hq
    exact ⟨⟨j, hI'⟩, Nat.lt_of_le_of_lt ((hμ a' w' ⟨j, hI'⟩).2 j hI') hj⟩
  | _ => exact hq
theorem calls_W {f : FuncId} {args : Array Value} {w : World} (hf : P.funcs[f]? = some F) (hb : F.body.isSome = true) (hn : Nat.ble args.size F.ntmps = true)
    (h : Wc P F R [] 1 (args.toList.zipIdx.map fun (v, i) => (i, v)) B G L) (hs : St B G L w) : Calls P f args w R := by
  obtain ⟨c, hc⟩ := Option.isSome_iff_exists.1 hb
  replace hn := Nat.le_of_ble_eq_true hn
  have hcd : cd F 1 = c := by unfold cd cdf; simp [hc]
  refine calls_of_wp hf hc ?_
  have := h { tmps := args ++ Array.replicate (F.ntmps - args.size) undef, defers := [] } w ⟨by simp; omega, rfl, fun t v ht => ?_⟩ hs
  · rw [hcd] at this; exact this
  · have hmem : ∀ (l : List Value) (k : Nat), ((l.zipIdx k).map fun (v, i) => (i, v)).lookup t = some v → k ≤ t ∧ l[t - k]? = some v := by
      intro l
      induction l with
      | nil => intro k h; simp at h
      | cons x l ih =>
        intro k h
        simp only [List.zipIdx_cons, List.map_cons, List.lookup_cons] at h
        by_cases e : t = k
        · subst e; simp at h; simp [h]
        · have e' : (t == k) = false := by simpa using e
          rw [e'] at h
          obtain ⟨h1, h2⟩ := ih (k + 1) h
          refine ⟨by omega, ?_⟩
          rw [show t - k = (t - (k + 1)) + 1 by omega]
          simpa using h2
    obtain ⟨_, h2⟩ := hmem args.toList 0 ht
    simp only [Nat.sub_zero, Array.getElem?_toList] at h2
    have hl : t < args.size := (Array.getElem?_eq_some_iff.1 h2).1
    rw [Array.getD_eq_getD_getElem?, Array.getElem?_append_left hl, h2]
    rfl
end
end Go.V
