/- A function that defers one and calls another. -/
import Derived.Test.YtafghfchflngiaaVk
import Derived.Recover
namespace Go.V
open Go
def sh (D : List Deferred) (a : Act) : Act := { a with defers := a.defers ++ D }
theorem sh_put (D : List Deferred) (a : Act) (dst : Option Tmp) (v : Value) : (sh D a).put dst v = sh D (a.put dst v) := by cases dst <;> rfl
theorem sh_eval (D : List Deferred) (a : Act) : (sh D a).eval = a.eval := by funext o; cases o <;> rfl
section
variable {P : Program} {F : Func}
theorem wpList_sh (D : List Deferred) {ops : Array Oper} {Q0 Q : Exit → Act → World → Prop} (hq : ∀ e a w, Q0 e a w → Q e (sh D a) w) : ∀ (l : List Oper) (a : Act) (w : World), wpList P ops Q0 l a w → wpList P ops Q l (sh D a) w := by
  intro l
  induction l with
  | nil => intro a w h; exact hq _ _ _ h
  | cons o l ih =>
    intro a w h
    unfold wpList at h ⊢
    have e1 : (sh D a).tmps = a.tmps := rfl
    rw [e1]
    split at h
    · rename_i hw
      rw [if_pos hw]
      rcases h with h | ⟨h, hl⟩
      · left
        unfold Oper.wp at *
        rw [sh_eval]
        generalize (execOp a.eval o).run P w = r at *
        match r, h with
        | .ok (.value v) w', h =>
          show wpList P ops Q l ((sh D a).put o.dst v) w'
          rw [sh_put]; exact ih _ _ h
        | .ok .skip w', h =>
          show wpList P ops Q l ((sh D a).put o.dst undef) w'
          rw [sh_put]; exact ih _ _ h
        | .ok (.defer d) w', h =>
          show wpList P ops Q l ((sh D { a with defers := d :: a.defers }).put o.dst undef) w'
          rw [sh_put]; exact ih _ _ h
        | .ok (.enter f args) w', h =>
          refine Calls.mono (h : Calls P f args w' _) (fun e w'' hh => ?_)
          cases e with
          | returned v =>
            show wpList P ops Q l ((sh D a).put o.dst v) w''
            rw [sh_put]; exact ih _ _ hh
          | panicked c => exact hq _ _ _ hh
          | outgrown => obtain ⟨a', w', h0⟩ := hh; exact ⟨_, _, hq _ _ _ h0⟩
        | .ok (.row row args) w', h =>
          refine Rows.mono (h : Rows P row args w' _) (fun v w'' hh => ?_)
          show wpList P ops Q l ((sh D a).put o.dst v) w''
          rw [sh_put]; exact ih _ _ hh
        | .halt (.panic v) w', h => exact hq _ _ _ h
        | .ok .recover w', h => exact (h : False).elim
        | .halt .blocked w', h => exact (h : False).elim
      · right
        refine ⟨?_, ?_⟩
        · unfold Oper.asks at *; rw [sh_eval]; exact h
        · obtain ⟨a', w', h0⟩ := hl; exact ⟨_, _, hq _ _ _ h0⟩
    · rename_i hw
      rw [if_neg hw, sh_put]
      exact ih _ _ h
theorem kp_only {J : Act → World → Prop} {Q : Exit → Act → World → Prop} {D : List Deferred} (next : ∀ a w, J a w → Q .normal (sh D a) w) : ∀ (e : Exit) (a : Act) (w : World), kp P F (fun _ _ => False) [.inv J] e a w → Q e (sh D a) w := by
  intro e a w h
  cases e with
  | normal => exact next a w h
  | ret => obtain ⟨_, _, _, h⟩ := (h : bodyPost P F (fun _ _ => False) .ret a w); exact h.elim
  | exit id => exact (h : False).elim
  | goto l => exact (h : False).elim
  | panic c => obtain ⟨_, h⟩ := (h : bodyPost P F (fun _ _ => False) (.panic c) a w); exact h.elim
  | outgrown => exact (h : False).elim
theorem wc_sh (D : List Deferred) {J : Act → World → Prop} {n : Nat} {E : Env} {B G : Asn} {L : List Atom} {Q : Exit → Act → World → Prop} (hr : rgd F n = some false) (next : ∀ a w, J a w → Q .normal (sh D a) w) (h : Wo P F (fun _ _ => False) [.inv J] n 0 E B G L)
    {a : Act} {w : World} (ha : EnvOk E F.ntmps a) (hs : St B G L w) : (cd F n).wp P Q (sh D a) w := by
  obtain ⟨id, e⟩ := cd_rg hr
  rw [e]
  exact wp_region_list (wpList_sh D (kp_only next) _ a w (by simpa using h a w ha hs))
theorem sh_nil (a : Act) : sh [] a = a := by cases a; simp [sh]
theorem sh_defer {D : List Deferred} {d : Deferred} {a : Act} (h : a.defers = []) : sh D { a with defers := d :: a.defers } = sh (d :: D) a := by cases a; simp_all [sh]
theorem EnvOk.act {E : Env} {n : Nat} {a : Act} {d : Deferred} (h : EnvOk E n a) : ∃ b, a = b ∧ EnvOk E n b := ⟨a, rfl, h⟩
theorem s_defer {n i : Nat} {R : Ending → World → Prop} {K : List Kont} {E : Env} {B G : Asn} {L : List Atom} {T : Act → World → Prop} (op : Op) (d : Deferred) (h : opAt0 F n i E = some op) (hd : ∀ (a : Act) (o : Oper) (w : World), o.op = op → EnvOk E F.ntmps a → (execOp a.eval o).run P w = .ok (.defer d) w)
    (next : ∀ a w, EnvOk E F.ntmps a → St B G L w → T { a with defers := d :: a.defers } w) : Stp P F R K n i T E B G L := by
  obtain ⟨o, ho, hop, hdst, hw⟩ := opAt0_spec h
  intro a w ha hs
  unfold wpOp
  simp only [ho]
  rw [if_pos (hw a ha)]
  left
  unfold Oper.wp
  rw [hd a o w hop ha]
  show T ({ a with defers := d :: a.defers }.put o.dst undef) w
  rw [hdst]
  exact next a w ha hs
theorem St.rot {B G : Asn} {L : List Atom} {A : Atom} {w : World} (hs : St B G (A :: L) w) : St B G (L ++ [A]) w := by
  refine ⟨?_, hs.2⟩
  refine Sep.map hs.1 (fun i => if i < 2 then i else if i < L.length + 2 then i + 1 else 2) (fun i A' hi => ?_) (fun i i' hi hi' e => ?_)
  · match i, hi with
    | 0, hi => simpa using hi
    | 1, hi => simpa using hi
    | i + 2, hi =>
      simp only [List.getElem?_cons_succ] at hi
      rw [if_neg (by omega)]
      by_cases h : i < L.length
      · rw [if_pos (by omega)]
        rw [List.getElem?_append_left h] at hi
        simpa using hi
      · rw [if_neg (by omega)]
        rw [List.getElem?_append_right (by omega)] at hi
        have h1 : i - L.length = 0 := by
          have := (List.getElem?_eq_some_iff.1 hi).1
          simp at this; omega
        rw [h1] at hi
        simpa using hi
  · simp at hi hi'
    repeat' split at e
    all_goals omega
theorem St.unrot {B G : Asn} {L : List Atom} {A : Atom} {w : World} (hs : St B G (L ++ [A]) w) : St B G (A :: L) w := by
  refine ⟨?_, hs.2⟩
  refine Sep.map hs.1 (fun i => if i < 2 then i else if i = 2 then L.length + 2 else i - 1) (fun i A' hi => ?_) (fun i i' hi hi' e => ?_)
  · match i, hi with
    | 0, hi => simpa using hi
    | 1, hi => simpa using hi
    | 2, hi =>
      simp at hi
      subst hi
      simp
    | i + 3, hi =>
      simp only [List.getElem?_cons_succ] at hi
      rw [if_neg (by omega), if_neg (by omega)]
      have h := (List.getElem?_eq_some_iff.1 hi).1
      show (Atom.asn B :: Atom.asn G :: (L ++ [A]))[i + 2]? = some A'
      simp only [List.getElem?_cons_succ]
      rw [List.getElem?_append_left h]; exact hi
  · simp at hi hi'
    repeat' split at e
    all_goals omega
theorem St.tail {B G : Asn} {L : List Atom} {A : Atom} {w : World} (hs : St B G (A :: L) w) : St B G L w := by
  refine ⟨?_, hs.2⟩
  refine Sep.map hs.1 (fun i => if i < 2 then i else i + 1) (fun i A' hi => ?_) (fun i i' hi hi' e => ?_)
  · match i, hi with
    | 0, hi => simpa using hi
    | 1, hi => simpa using hi
    | i + 2, hi =>
      show (Atom.asn B :: Atom.asn G :: A :: L)[(if i + 2 < 2 then i + 2 else i + 2 + 1)]? = some A'
      rw [if_neg (by omega)]
      simpa using hi
  · repeat' split at e
    all_goals omega
theorem s_callR {n i : Nat} {R : Ending → World → Prop} {K : List Kont} {E : Env} {B G : Asn} {L : List Atom} {A : Atom} {T : Act → World → Prop} (d : Nat) (f : FuncId) (args : Array Value) {X : Type} {v : X → Value} {B' : X → Asn} {L' : X → List Atom} {Φ : X → Prop} (h : callAt P F n i E = some (some d, f, args))
    (hc : ∀ G w, St B G L w → Calls P f args w (Post v B' G L' Φ))
    (next : ∀ x, Φ x → Tg F T ((d, v x) :: E) (B' x) G (A :: L' x)) : Stp P F R K n i T E B G (A :: L) := by
  obtain ⟨o, ho, hdst, hdn, hw⟩ := callAt_spec h
  intro a w ha hs
  unfold wpOp
  simp only [ho]
  rw [if_pos (hw a ha).1]
  left
  unfold Oper.wp
  rw [(hw a ha).2 w]
  refine (hc _ w hs.rot.group).mono ?_
  rintro e w' ⟨x, hx, rfl, hs'⟩
  show T (a.put o.dst (v x)) w'
  rw [hdst]
  exact next x hx _ w' (ha.put (hdn d rfl)) hs'.ungroup.unrot
def valAt (P : Program) (F : Func) (n i : Nat) (E : Env) : Option (Nat × Value) :=
  if dstsOk F.ntmps (rg F n) then
    match (rg F n)[i]? with
    | some o => match gOk E (rg F n) o, o.dst, okOps E o with
      | some true, some d, true => match symOf P (execOp (evD E) o) [] with
        | some (v, [], []) => some (d, v)
        | _ => none
      | _, _, _ => none
    | none => none
  else none
theorem sS_val {n i : Nat} {E : Env} {Q : Exit → Act → List Frame → World → Prop} {rest : List Nat} {cs : List Frame} {a : Act} {w : World} (d : Nat) (v : Value) (h : valAt P F n i E = some (d, v)) (ha : EnvOk E F.ntmps a)
    (next : ∀ a', EnvOk ((d, v) :: E) F.ntmps a' → wpOpsS P (rg F n) Q rest a' cs w) : wpOpsS P (rg F n) Q (i :: rest) a cs w := by
  unfold valAt at h
  split at h
  · rename_i hd
    split at h
    · rename_i o ho
      split at h
      · rename_i d' hg hdst hok
        split at h
        · rename_i v' hs
          simp only [Option.some.injEq, Prod.mk.injEq] at h
          obtain ⟨rfl, rfl⟩ := h
          obtain ⟨u, h1, h2, h3⟩ := symOf_run P _ _ hs
          have hu : u = [] := by cases u with | nil => rfl | cons => simp at h1
          subst hu
          have hr := h3 rfl w (fun p hp => by cases hp)
          have hdn : d' < F.ntmps := dstsOk_spec hd _ (by rw [Array.any_eq_true']; exact ⟨o, Array.mem_of_getElem? ho, by simp [hdst]⟩)
          unfold wpOpsS
          simp only [ho]
          rw [if_pos (gOk_wanted ha (dstsOk_spec hd) hg), exec_evD ha hok, hr]
          show wpOpsS P (rg F n) Q rest (a.put o.dst v') cs w
          rw [hdst]
          exact next _ (ha.put hdn)
        · cases h
      · cases h
    · cases h
  · cases h
theorem sS_rec {n i : Nat} {E : Env} {Q : Exit → Act → List Frame → World → Prop} {rest : List Nat} {cs : List Frame} {a : Act} {w : World} (d : Nat) (h : opAt F n i E = some (d, .call { callee := .builtin .recover, args := #[], argTypes := #[] })) (ha : EnvOk E F.ntmps a) (hn : recoverD cs = none)
    (next : ∀ a', EnvOk ((d, .nilIface) :: E) F.ntmps a' → wpOpsS P (rg F n) Q rest a' cs w) : wpOpsS P (rg F n) Q (i :: rest) a cs w := by
  obtain ⟨o, ho, hop, hdst, hdn, hw⟩ := opAt_spec h
  have hr : (execOp a.eval o).run P w = .ok .recover w := by simp [execOp, hop, resolve, invoke, builtin]
  unfold wpOpsS
  simp only [ho]
  rw [if_pos (hw a ha), hr]
  simp only [hn]
  rw [hdst]
  exact next _ (ha.put hdn)
theorem resL_run {E : Env} {B G : Asn} {L : List Atom} {a : Act} {w : World} {u : Value} (l : List (Addr × Value)) (ha : EnvOk E F.ntmps a) (hw : St B G L w) (hl : Lds B G L l) (h : resL P F E l = some (u, l.map Prod.fst)) : (results F a.tmps).run P w = .ok u w := by
  unfold resL at h
  split at h
  · rename_i hin
    split at h
    · rename_i v' us hs
      simp only [Option.some.injEq, Prod.mk.injEq] at h
      obtain ⟨rfl, hus⟩ := h
      obtain ⟨u', e1, e2, e3⟩ := symOf_run P _ _ hs
      rw [List.append_nil] at e1
      subst e1
      rw [results_congr ha hin]
      have h4 := e3 hus w (fun p hp => hl w hw p (by simpa using hp))
      simp only [Sem.run_bind] at h4
      cases hr : (results F (tmpsOf E F.ntmps)).run P w with
      | ok v2 w2 =>
        rw [hr] at h4
        simp [Result.andThen] at h4
        obtain ⟨rfl, rfl⟩ := h4
        rfl
      | halt x2 w2 => rw [hr] at h4; simp [Result.andThen] at h4
    · cases h
  · cases h
theorem recoverD_ret {c : Frame} {cs : List Frame} (h : c.mode = .returning) : recoverD (c :: cs) = none := by simp [recoverD, h]
end
end Go.V
