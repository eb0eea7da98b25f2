/- Arrays: parts of them as rows. -/
import Derived.Test.YtafghfchflngiaaVj
namespace Go.V
open Go
def kSl {α : Type} (d : Kd α) : Kd (List α) where
  sz := 1
  pos := by decide
  K := fun B x cs => ∃ A c, Sl d B A c x ∧ cs = [.slice A x.length c]
  len := fun ⟨_, _, _, e⟩ => by rw [e]; rfl
  one := fun ⟨A, c, _, e⟩ u hu => by
    rw [e] at hu
    rw [List.mem_singleton.1 hu]; rfl
  up := fun y ⟨A, c, h, e⟩ => ⟨A, c, h.up y, e⟩
theorem St.unfroz {B B2 G : Asn} {L : List Atom} {A : Atom} {w : World} (x : Ext (V.froz B A) B2) (hs : St B2 G L w) : St B G (A :: L) w := by
  refine ⟨?_, fun u hu => hs.2 u (x.1 u hu)⟩
  obtain ⟨f, hf, hA⟩ := hs.1
  obtain ⟨S', hS', f2, hf2, hA2⟩ := x.2 _ _ (hA 0 (.asn B2) rfl)
  have h0 : ∀ b j, f2 b = some j → f b = some 0 := fun b j hb => hS' b (hf2 b j hb)
  refine ⟨fun b => match f b with | some 0 => (match f2 b with | some 0 => some 0 | some 1 => some 2 | _ => none) | some 1 => some 1 | some (k + 2) => some (k + 3) | none => none, fun b j hb => ?_, fun i Ai hi => ?_⟩
  · cases e : f b with
    | none => simp [e] at hb
    | some k => exact hf b k e
  · match i, hi with
    | 0, hi =>
      simp at hi; subst hi
      refine Eq.mp (congrArg (fun S => B.P S w.heap) ?_) (hA2 0 (.asn B) rfl)
      funext b
      apply propext
      constructor
      · intro h; simp [h0 b 0 h, h]
      · intro h
        dsimp only at h
        split at h
        · split at h <;> first | assumption | (cases h; done) | (injection h with h; omega)
        · injection h with h; omega
        · injection h with h; omega
        · cases h
    | 1, hi =>
      simp at hi; subst hi
      refine Eq.mp (congrArg (fun S => G.P S w.heap) ?_) (hA 1 (.asn G) rfl)
      funext b
      apply propext
      constructor
      · intro h; simp [h]
      · intro h
        dsimp only at h
        split at h
        · split at h <;> first | (cases h; done) | (injection h with h; omega)
        · assumption
        · injection h with h; omega
        · cases h
    | 2, hi =>
      simp at hi; subst hi
      refine Eq.mp (congrArg (fun S => A.P S w.heap) ?_) (hA2 1 A rfl)
      funext b
      apply propext
      constructor
      · intro h; simp [h0 b 1 h, h]
      · intro h
        dsimp only at h
        split at h
        · split at h <;> first | assumption | (cases h; done) | (injection h with h; omega)
        · injection h with h; omega
        · injection h with h; omega
        · cases h
    | i + 3, hi =>
      simp only [List.getElem?_cons_succ] at hi
      refine Eq.mp (congrArg (fun S => Ai.P S w.heap) ?_) (hA (i + 2) Ai (by simpa using hi))
      funext b
      apply propext
      constructor
      · intro h; simp [h]
      · intro h
        dsimp only at h
        split at h
        · split at h <;> first | (cases h; done) | (injection h with h; omega)
        · injection h with h; omega
        · rename_i k e
          injection h with h
          have : k = i := by omega
          subst this; exact e
        · cases h
section
variable {P : Program} {F : Func} {R : Ending → World → Prop} {K : List Kont} {n i d : Nat} {E E' : Env} {B B' G : Asn} {L L' : List Atom} {T : Act → World → Prop}
theorem v_sliceA {t : TypeId} {x : Operand} {lo hi mx : Option Operand} {a : Addr} {N sz : Nat} {l h k : Option Int} {l' h' k' : Nat} {v : Value} (hx : ev E x = some (.pointer (some a))) (ht : arrSz P t = some (N, sz))
    (hl : bnd E lo = some l) (hh : bnd E hi = some h) (hk : bnd E mx = some k) (hmx : mx.isSome = true → hi.isSome = true) (el : l.getD 0 = (l' : Int)) (eh : h.getD N = (h' : Int)) (ek : k.getD N = (k' : Int)) (h1 : Nat.ble l' h' = true) (h2 : Nat.ble h' k' = true) (h3 : Nat.ble k' N = true)
    (hv : v = .slice (some (if k' = l' then a else a.add (l' * sz))) (h' - l') (k' - l')) :
    Val P F (.slice t x lo hi mx) E B G L v := by
  intro ac w o hop ha hs
  subst hv
  replace h1 := Nat.le_of_ble_eq_true h1
  replace h2 := Nat.le_of_ble_eq_true h2
  replace h3 := Nat.le_of_ble_eq_true h3
  unfold arrSz at ht
  split at ht
  · rename_i m e hu
    obtain ⟨i, hi', he⟩ := Option.map_eq_some_iff.1 ht
    simp only [Prod.mk.injEq] at he
    obtain ⟨rfl, rfl⟩ := he
    have bv : ∀ {y : Option Operand} {b : Option Int}, bnd E y = some b → (y.map ac.eval = none ∧ y = none ∧ b = none) ∨ ∃ kk j, y.map ac.eval = some (.int kk j) ∧ y.isSome = true ∧ b = some j := by
      intro y b hb
      cases y with
      | none => simp only [bnd, Option.some.injEq] at hb; exact .inl ⟨rfl, rfl, hb.symm⟩
      | some y =>
        simp only [bnd] at hb
        split at hb
        · rename_i kk j hv
          simp only [Option.some.injEq] at hb
          exact .inr ⟨kk, j, by simp [ev_ok ha hv], rfl, hb.symm⟩
        · cases hb
    have sb : ∀ (kk : IntKind) (j' y : Nat) (code : BoundsCode), j' ≤ y → (Instr.sliceBound (.int kk (j' : Int)) y code).run P w = .ok j' w := by
      intro kk j' y code e2
      simp [Instr.sliceBound, asIntOf, e2]
    have h4 : h' ≤ m := by omega
    have key : (Instr.sliceBounds false m m (lo.map ac.eval) (hi.map ac.eval) (mx.map ac.eval)).run P w = .ok (l', h', k') w := by
      rcases bv hl with ⟨e1, e1', rfl⟩ | ⟨k1, j1, e1, e1', rfl⟩ <;> rcases bv hh with ⟨e2, e2', rfl⟩ | ⟨k2, j2, e2, e2', rfl⟩ <;> rcases bv hk with ⟨e3, e3', rfl⟩ | ⟨k3, j3, e3, e3', rfl⟩ <;>
        rw [e1, e2, e3] <;> simp only [Option.getD_some, Option.getD_none] at el eh ek <;>
        (first | subst el | (obtain rfl : l' = 0 := by omega)) <;> (first | subst eh | (have eh' := Int.ofNat.inj eh; subst eh')) <;> (first | subst ek | (have ek' := Int.ofNat.inj ek; subst ek'))
      all_goals first
        | (exfalso; have := hmx e3'; rw [e2'] at this; cases this; done)
        | (unfold Instr.sliceBounds; simp [Result.andThen, sb, h1, h2, h3, h4])
    simp only [execOp, hop, ev_ok ha hx, Instr.sliceAt, Sem.run_bind, run_underlying hu, Result.andThen]
    simp [Instr.sureAddr, key, sizeOf, typeInfo, hi', Result.andThen]
  · cases ht
theorem e_appG {tx e ty : TypeId} {x y : Operand} {a : Addr} {q k c sz bytes : Nat} {olds news : List Value} {X z : Value} (hx : ev E x = some (.slice (some a) q c)) (hy : ev E y = some X)
    (ht : P.underlying ty = some (.slice e)) (hi : (P.info? e).map (fun i => (i.zero, i.size, i.bytes)) = some (some z, sz, bytes)) (hz : z.cells.size = sz)
    (hold : At B G L a olds) (hl : olds.length = q * sz) (h1 : ∀ u ∈ olds, u.oneCell' = true) (hsrc : SrcAt P B G L tx X k news sz) (hg : c < q + k) (hroom : (q + k) * bytes ≤ 140737488355328) (h63 : q + k ≤ 9223372036854775807) :
    Eff P F (.call { callee := .builtin .append, args := #[x, y], argTypes := #[ty, tx] }) E B G L (fun p : Option Addr × Nat => .slice p.1 (q + k) p.2) (fun p => .own p.1 (q + k) p.2 (olds ++ news) sz e :: L) (fun _ => True) := by
  intro ac w o hop ha hs
  obtain ⟨i, hi', he⟩ := Option.map_eq_some_iff.1 hi
  simp only [Prod.mk.injEq] at he
  obtain ⟨i1, i2, i3⟩ := he
  have src := hsrc w hs
  have hexec : execOp ac.eval o = (do pure (.value (← Builtin.append_ #[ty, tx] o.type #[ac.eval x, ac.eval y]))) := by
    simp [execOp, hop, resolve, invoke, builtin]
  have hlen : (olds ++ news).length = (q + k) * sz := by rw [List.length_append, hl, src.newsLen, Nat.add_mul]
  have hone : ∀ u ∈ olds ++ news, u.oneCell' = true := fun u hu => (List.mem_append.1 hu).elim (h1 u) (src.one u)
  have hfirst : (Builtin.firstCells i.size q (.slice (some a) q c)).run P w.drew = .ok olds.toArray w.drew := by
    rw [i2]
    exact run_firstCells_some w.drew sz q a q c olds hl (fun j v hj => hold w hs j v hj)
  have hr := run_append_grow_src (P := P) w ty tx o.type e i z ht hi' i1 (some a) q c olds hfirst X k news (by rw [i2]; exact src) (by omega) (by omega) (by rw [i3]; exact growslice_fits (by omega) hroom)
  have hcap : q + k ≤ grownCap w (q + k) c e := by
    unfold grownCap Question.cut
    exact Nat.le_add_right _ _
  refine ⟨(some ⟨w.heap.size, 0, none⟩, grownCap w (q + k) c e), w.drew.alloc (.cells ((olds ++ news).toArray ++ Builtin.zeroCells z.cells (grownCap w (q + k) c e - (q + k))) e), ?_, ?_, trivial⟩
  · rw [hexec, ev_ok ha hx, ev_ok ha hy]
    simp only [Sem.run_bind, hr, Result.andThen]; rfl
  · let rest := (Builtin.zeroCells z.cells (grownCap w (q + k) c e - (q + k))).toList
    refine hs.add (heap_alloc_drew w _).1 (fun S' hS' => ⟨hlen, hcap, hone, .inr ⟨_, rest, rfl, hS', ?_, ?_⟩⟩) (heap_alloc_drew w _).2.2
    · simp [rest, size_zeroCells, hz]
    · have : (olds ++ news ++ rest).toArray = (olds ++ news).toArray ++ Builtin.zeroCells z.cells (grownCap w (q + k) c e - (q + k)) := by
        apply Array.ext'; simp [rest]
      rw [this]
      exact (heap_alloc_drew w _).2.1
theorem src_part {tx e t : TypeId} {j g o sz k c : Nat} {cs l : List Value} (hk : P.underlying tx = some (.slice e)) (hj : L[j]? = some (.blk g cs t)) (hl : l.length = k * sz) (hr : (cs.drop o).take l.length = l) (h1 : l.all (·.oneCell') = true) : SrcAt P B G L tx (.slice (some ⟨g, o, none⟩) k c) k l sz := src_within hk hj hl hr (by simpa using h1)
theorem zeroCells_one {z : Value} (hz : z.cells.toList = [z]) (k : Nat) : (Builtin.zeroCells z.cells k).toList = List.replicate k z := by
  have e : z.cells = #[z] := by apply Array.ext'; exact hz
  rw [e]
  unfold Builtin.zeroCells
  apply List.ext_getElem
  · simp
  · intro i h1 h2
    simp [Nat.mod_one]
theorem e_appM {tn e ty : TypeId} {x y : Operand} {j : Nat} {A : Option Addr} {m c k bytes : Nat} {cs : List Value} {z : Value} {kq kn : IntKind} (hx : ev E x = some (.slice A m c)) (hy : ev E y = some (.int kq (k : Nat)))
    (ht : P.underlying ty = some (.slice e)) (htn : P.underlying tn = some (.int kn)) (hi : (P.info? e).map (fun i => (i.zero, i.size, i.bytes)) = some (some z, 1, bytes)) (hz : z.cells.toList = [z]) (hz1 : z.oneCell' = true)
    (hj : L[j]? = some (.own A m c cs 1 e)) (hroom : (m + k) * bytes ≤ 140737488355328) (h63 : m + k ≤ 9223372036854775807) :
    Eff P F (.call { callee := .builtin .append, args := #[x, y], argTypes := #[ty, tn] }) E B G L (fun p : Option Addr × Nat => .slice p.1 (m + k) p.2) (fun p => L.set j (.own p.1 (m + k) p.2 (cs ++ List.replicate k z) 1 e)) (fun _ => True) := by
  intro a w o hop ha hs
  obtain ⟨i, hi', he⟩ := Option.map_eq_some_iff.1 hi
  simp only [Prod.mk.injEq] at he
  obtain ⟨h1, h2, h3⟩ := he
  obtain ⟨S, q1, q2, q3, q4⟩ := hs.at hj
  have hexec : execOp a.eval o = (do pure (.value (← Builtin.append_ #[ty, tn] o.type #[a.eval x, a.eval y]))) := by
    simp [execOp, hop, resolve, invoke, builtin]
  have hzc := zeroCells_one hz
  have hzs : z.cells.size = 1 := by have := congrArg List.length hz; simpa using this
  have hlen : (cs ++ List.replicate k z).length = (m + k) * 1 := by rw [List.length_append, q1, List.length_replicate]; omega
  have hone : ∀ u ∈ cs ++ List.replicate k z, u.oneCell' = true := fun u hu => (List.mem_append.1 hu).elim (q3 u) (fun h => by rw [List.eq_of_mem_replicate h]; exact hz1)
  have hjl : j < L.length := (List.getElem?_eq_some_iff.1 hj).1
  have hkb : k * bytes ≤ (m + k) * bytes := Nat.mul_le_mul_right _ (by omega)
  have hw : IntKind.i64.wrap (k : Int) = k := by rw [IntKind.wrap_i64]; omega
  have h48i : ¬ (281474976710656 < (k : Int) * (i.bytes : Int)) := by
    rw [← Int.natCast_mul, h3]
    omega
  have hneg : ¬ ((k : Int) < 0) := by omega
  by_cases hfit : m + k ≤ c
  · by_cases hk0 : k = 0
    · subst hk0
      refine ⟨(A, c), w, ?_, ?_, trivial⟩
      · have hst : ∀ b : Addr, (storeCells b [] 0).run P w = .ok () w := fun b => rfl
        have hw0 : IntKind.i64.wrap 0 = 0 := rfl
        have hfit' : m ≤ c := by omega
        have hr : (Builtin.append_ #[ty, tn] o.type #[.slice A m c, .int kq ((0 : Nat) : Int)]).run P w = .ok (.slice A (m + 0) c) w := by
          cases A with
          | none => simp [Builtin.append_, run_underlying ht, run_underlying htn, sizeOf, typeInfo, hi', asInt, asIntOf, hw0, hfit']
          | some b => simp [Builtin.append_, run_underlying ht, run_underlying htn, sizeOf, typeInfo, hi', asInt, asIntOf, hw0, hfit', hst]
        rw [hexec, ev_ok ha hx, ev_ok ha hy]
        simp only [Sem.run_bind, hr, Result.andThen]; rfl
      · have : L.set j (.own A (m + 0) c (cs ++ List.replicate 0 z) 1 e) = L := by
          rw [List.replicate_zero, List.append_nil, Nat.add_zero]
          apply List.ext_getElem?
          intro q
          rw [List.getElem?_set]
          by_cases hq : j = q
          · subst hq; rw [if_pos rfl, if_pos hjl, hj]
          · simp [hq]
        show St B G (L.set j (.own A (m + 0) c (cs ++ List.replicate 0 z) 1 e)) w
        rw [this]; exact hs
    · rcases q4 with ⟨rfl, rfl, rfl⟩ | ⟨g, sp, rfl, hS, hsp, hg⟩
      · omega
      · have hcur : (cs ++ sp).length = c * 1 := by
          rw [List.length_append, q1, hsp, ← Nat.add_mul]
          congr 1; omega
        have hnl : (List.replicate k z).length = k := List.length_replicate
        have hle : m * 1 + (List.replicate k z).length ≤ (cs ++ sp).length := by
          rw [hcur, hnl]; omega
        have hst := run_storeCells_at P g (m * 1) e (List.replicate k z) 0 (cs ++ sp).toArray w hg (by simpa using hle) (fun u hu => by rw [List.eq_of_mem_replicate hu]; exact hz1)
        have hr : (Builtin.append_ #[ty, tn] o.type #[.slice (some ⟨g, 0, none⟩) m c, .int kq (k : Int)]).run P w = .ok (.slice (some ⟨g, 0, none⟩) (m + k) c) (w.setRow g ((cs ++ sp).toArray.toList.take (m * 1) ++ List.replicate k z ++ (cs ++ sp).toArray.toList.drop (m * 1 + (List.replicate k z).length)).toArray) := by
          simp only [Nat.add_zero] at hst
          simp [Builtin.append_, run_underlying ht, run_underlying htn, sizeOf, typeInfo, zeroValue, hi', h1, h2, asInt, asIntOf, hw, hneg, h48i, hk0, hfit, hzc, Addr.add_lit] <;> (simp at hst; rw [hst]; simp)
        refine ⟨(some ⟨g, 0, none⟩, c), w.setRow g ((cs ++ sp).toArray.toList.take (m * 1) ++ List.replicate k z ++ (cs ++ sp).toArray.toList.drop (m * 1 + (List.replicate k z).length)).toArray, ?_, ?_, trivial⟩
        · rw [hexec, ev_ok ha hx, ev_ok ha hy]
          simp only [Sem.run_bind, hr, Result.andThen]; rfl
        · refine hs.set hj (g := g) (fun S' hp => ?_) (fun S' hS' => ⟨hlen, hfit, hone, .inr ⟨g, sp.drop k, rfl, hS', ?_, ?_⟩⟩) (by simp) (fun b hb => setRow_other w g b _ hb)
          · obtain ⟨_, _, _, h6⟩ := hp
            rcases h6 with ⟨e', _⟩ | ⟨g', _, e', hS', _⟩
            · cases e'
            · simp only [Option.some.injEq, Addr.mk.injEq, and_true] at e'
              rw [e']; exact hS'
          · rw [List.length_drop, hsp]; omega
          · rw [setRow_heap w g _ _ e (0, 0) hg, hnl]
            have e1 : (cs ++ sp).take (m * 1) = cs := List.take_left' q1
            have e2 : (cs ++ sp).drop (m * 1 + k) = sp.drop k := by rw [← q1, List.drop_append, List.drop_of_length_le (by omega), List.nil_append]; congr 1; omega
            rw [show (cs ++ sp).toArray.toList = cs ++ sp from rfl, e1, e2]
  · have hold : (Builtin.firstCells i.size m (.slice A m c)).run P w.drew = .ok cs.toArray w.drew := by
      rcases q4 with ⟨rfl, rfl, rfl⟩ | ⟨g, sp, rfl, hS, hsp, hg⟩
      · have : cs = [] := by simpa using q1
        subst this
        exact run_firstCells_none w.drew i.size 0 0 0
      · refine run_firstCells_some w.drew i.size m ⟨g, 0, none⟩ m c cs (by rw [h2]; exact q1) (fun q v hv => ?_)
        have e' : (⟨g, 0, none⟩ : Addr).add q = ⟨g, q, none⟩ := by unfold Addr.add; by_cases h0 : q = 0 <;> simp [h0]
        rw [e']
        show w.cell? ⟨g, q, none⟩ = some v
        simp only [World.cell?, hg, Option.isSome_none, Bool.false_eq_true, if_false]
        rw [List.getElem?_toArray, List.getElem?_append_left (List.getElem?_eq_some_iff.1 hv).1]
        exact hv
    have hr := Lib.run_append_grow_zeros (P := P) w ty tn o.type e i z kq kn ht htn hi' h1 A m c cs hold k (by omega) (by omega) (by omega) (by omega) (by rw [h3]; omega) (by rw [h3]; exact growslice_fits (by omega) hroom)
    have hcap : m + k ≤ grownCap w (m + k) c e := by
      unfold grownCap Question.cut
      exact Nat.le_add_right _ _
    have hcells : (cs.toArray ++ Builtin.zeroCells z.cells k ++ Builtin.zeroCells z.cells (grownCap w (m + k) c e - (m + k))) = (cs ++ List.replicate k z ++ List.replicate (grownCap w (m + k) c e - (m + k)) z).toArray := by
      apply Array.ext'; simp [hzc]
    rw [hcells] at hr
    refine ⟨(some ⟨w.heap.size, 0, none⟩, grownCap w (m + k) c e), w.drew.alloc (.cells (cs ++ List.replicate k z ++ List.replicate (grownCap w (m + k) c e - (m + k)) z).toArray e), ?_, ?_, trivial⟩
    · rw [hexec, ev_ok ha hx, ev_ok ha hy]
      simp only [Sem.run_bind, hr, Result.andThen]; rfl
    · have hnew : St B G (.own (some ⟨w.heap.size, 0, none⟩) (m + k) (grownCap w (m + k) c e) (cs ++ List.replicate k z) 1 e :: L) (w.drew.alloc (.cells (cs ++ List.replicate k z ++ List.replicate (grownCap w (m + k) c e - (m + k)) z).toArray e)) := by
        refine hs.add (heap_alloc_drew w _).1 (fun S' hS' => ⟨hlen, hcap, hone, .inr ⟨_, List.replicate (grownCap w (m + k) c e - (m + k)) z, rfl, hS', by simp, (heap_alloc_drew w _).2.1⟩⟩) (heap_alloc_drew w _).2.2
      refine ⟨?_, hnew.2⟩
      refine Sep.map hnew.1 (fun q => if q < 2 then q else if q = j + 2 then 2 else q + 1) (fun q A' hq => ?_) (fun q q' hq hq' e' => ?_)
      · match q, hq with
        | 0, hq => simpa using hq
        | 1, hq => simpa using hq
        | q + 2, hq =>
          simp only [List.getElem?_cons_succ] at hq
          rw [if_neg (by omega)]
          rw [List.getElem?_set] at hq
          by_cases hqj : j = q
          · subst hqj
            rw [if_pos rfl] at hq ⊢
            simpa [hjl] using hq
          · rw [if_neg hqj] at hq
            rw [if_neg (by omega)]
            simpa using hq
      · repeat' split at e'
        all_goals omega
variable {α : Type} {enc : α → List Value} {sz : Nat} {olds news : List Value} {xs ys zs : List α}
theorem range_getD (z : α) : ∀ (m : List α), (List.range m.length).map (fun i => m.getD i z) = m := by
  intro m
  apply List.ext_getElem
  · simp
  · intro i h1 h2
    simp [List.getD_eq_getElem?_getD, h2]
theorem at_arr {pos : 0 < sz} {len : ∀ x, (enc x).length = sz} {one : ∀ x, ∀ u ∈ enc x, u.oneCell' = true} {A : Option Addr} {c n : Nat} {m : List α} (z : α) (hs : Sl (flat enc sz pos len one) B A c xs) (hc : cut xs 0 (n : Int) = some m) : At B G L (adr A 0) (rowOf enc ((List.range n).map fun i => m.getD i z)) := by
  obtain ⟨_, _, h2, h3, h4⟩ := cut_some hc
  have hn : n = m.length := by rw [h4]; simp
  have hm : m = xs.take n := by rw [h3]; simp
  rw [hn, range_getD]
  intro w hw k v hk
  obtain ⟨y, hy, hv⟩ := row_get len pos hk
  have hlt : k / sz < m.length := (List.getElem?_eq_some_iff.1 hy).1
  have hx : xs[k / sz]? = some y := by
    rw [hm, List.getElem?_take] at hy
    split at hy
    · exact hy
    · cases hy
  obtain ⟨cs, hK, hcs⟩ := hs.2 _ y hx
  have e : cs = enc y := hK
  subst e
  have h5 := (hw.base hcs)
  have h6 := h5.2 (k % sz) v hv
  rw [adr_add h5.1] at h6
  rw [adr_add h5.1, Nat.zero_add]
  have e2 : k / sz * sz + k % sz = k := by rw [Nat.mul_comm]; exact Nat.div_add_mod k sz
  have e3 : k / sz * (flat enc sz pos len one).sz + k % sz = k := e2
  rw [e3] at h6
  exact h6
def arrN (P : Program) (t : TypeId) : Option Nat := match P.underlying t with | some (.array n _) => some n | _ => none
theorem v_arrAt {t : TypeId} {x : Operand} {A : Option Addr} {c n : Nat} {m : List α} {d : Kd α} {E : Env} {F : Func} (hs : Sl d B A c xs) (hc : cut xs 0 (n : Int) = some m) (hn : Nat.blt 0 n = true) (hx : ev E x = some (.slice A xs.length c)) (ht : arrN P t = some n) : Val P F (.sliceToArrayPointer t x) E B G L (.pointer (some (adr A 0))) := by
  obtain ⟨_, _, h2, h3, h4⟩ := cut_some hc
  have hn' : 0 < n := Nat.le_of_ble_eq_true hn
  intro ac w o hop ha hw
  have hA : A.isSome = true := hs.some (i := 0) (x := xs[0]'(by omega)) (List.getElem?_eq_getElem (by omega)) w hw
  obtain ⟨a, rfl⟩ := Option.isSome_iff_exists.1 hA
  unfold arrN at ht
  split at ht
  · rename_i n' e hu
    injection ht with ht
    subst ht
    have hl : ¬ xs.length < n' := by omega
    simp [execOp, hop, ev_ok ha hx, Instr.arrayAt, run_underlying hu, hl, adr, Addr.add]
  · cases ht
theorem t_arr {g N : Nat} {v : Value} {x : α} {t : TypeId} (henc : enc x = [v]) (h1 : v.oneCell' = true) (next : Tg F T E B G (.own (some ⟨g, 0, none⟩) N N (rowOf enc (List.replicate N x)) 1 t :: L)) : Tg F T E B G (.blk g (List.replicate N v) t :: L) := by
  refine t_blk_own (m := N) (sz := 1) (by simp) ?_ ?_
  · rw [List.all_eq_true]; intro u hu; rw [List.eq_of_mem_replicate hu]; exact h1
  · rw [← row_rep henc]; exact next
theorem t_lendS {pos : 0 < sz} {len : ∀ x, (enc x).length = sz} {one : ∀ x, ∀ u ∈ enc x, u.oneCell' = true} {A : Option Addr} {m c : Nat} {t : TypeId} (d : Kd α) (hd : d = flat enc sz pos len one) (hl : m = xs.length)
    (next : ∀ B2, Ext B B2 → Sl d B2 A c xs → (∀ B3, Ext B2 B3 → ∀ G L w, St B3 G L w → St B G (.own A m c (rowOf enc xs) sz t :: L) w) → Tg F T E B2 G L) : Tg F T E B G (.own A m c (rowOf enc xs) sz t :: L) := by
  intro a w ha hs
  have hc := (hs.own_len (j := 0) rfl).2
  subst hl hd
  exact next _ (Ext.froz _ _) (sl_of_row hc) (fun B3 y G L w hs => hs.unfroz y) a w ha hs.froz
theorem t_back {A : Atom} {B2 B3 : Asn} (h : ∀ B3, Ext B2 B3 → ∀ G L w, St B3 G L w → St B G (A :: L) w) (x : Ext B2 B3) (next : Tg F T E B G (A :: L)) : Tg F T E B3 G L := fun a w ha hs => next a w ha (h B3 x G L w hs)
theorem s_appG {bytes : Nat} {z : Value} {q k c : Nat} {X : Value} {a : Addr} (d : Nat) (ty tx : TypeId) (x y : Operand) {e : TypeId} (happ : app xs ys = some zs) (hn : q = xs.length) (hk : k = ys.length) (h : opAt F n i E = some (d, .call { callee := .builtin .append, args := #[x, y], argTypes := #[ty, tx] }))
    (hx : ev E x = some (.slice (some a) q c)) (hy : ev E y = some X) (ht : P.underlying ty = some (.slice e)) (hi : (P.info? e).map (fun i => (i.zero, i.size, i.bytes)) = some (some z, sz, bytes)) (hz : z.cells.size = sz) (hold : At B G L a (rowOf enc xs)) (hl : (rowOf enc xs).length = q * sz) (h1 : (rowOf enc xs).all (·.oneCell') = true)
    (hsrc : SrcAt P B G L tx X k (rowOf enc ys) sz) (hb : bytes ≤ 32768) (hg : Nat.blt c (q + k) = true) (next : ∀ A' c', Tg F T ((d, .slice A' zs.length c') :: E) B G (.own A' zs.length c' (rowOf enc zs) sz e :: L)) : Stp P F R K n i T E B G L := by
  rw [← app_len hn hk happ] at next
  obtain ⟨e1, e2⟩ := app_some happ
  have hle : q + k ≤ 4294967296 := by omega
  refine s_eff d _ h (e_appG hx hy ht hi hz hold hl (by simpa using h1) hsrc (Nat.le_of_ble_eq_true hg) ?_ (by omega)) (fun p _ => ?_)
  · have h1 : (q + k) * bytes ≤ 4294967296 * 32768 := Nat.mul_le_mul hle hb
    omega
  · rw [← row_app, ← e1]
    exact next p.1 p.2
theorem s_appM {bytes : Nat} {z : Value} {zx : α} {A : Option Addr} {m c : Nat} {q : Int} {kq kn : IntKind} (d : Nat) (ty tn : TypeId) (x y : Operand) (j : Nat) {e : TypeId} (hmk : mk q zx = some ys) (happ : app xs ys = some zs) (hn : m = xs.length) (h : opAt F n i E = some (d, .call { callee := .builtin .append, args := #[x, y], argTypes := #[ty, tn] }))
    (hx : ev E x = some (.slice A m c)) (hy : ev E y = some (.int kq q)) (ht : P.underlying ty = some (.slice e)) (htn : P.underlying tn = some (.int kn)) (hi : (P.info? e).map (fun i => (i.zero, i.size, i.bytes)) = some (some z, 1, bytes)) (hz : z.cells.toList = [z]) (hz1 : z.oneCell' = true) (henc : enc zx = [z]) (hj : L[j]? = some (.own A m c (rowOf enc xs) 1 e))
    (hb : bytes ≤ 32768) (next : ∀ A' c', Tg F T ((d, .slice A' zs.length c') :: E) B G (L.set j (.own A' zs.length c' (rowOf enc zs) 1 e))) : Stp P F R K n i T E B G L := by
  obtain ⟨k, rfl, hk, hys⟩ := mk_some hmk
  have hkl : k = ys.length := by rw [hys, List.length_replicate]
  rw [← app_len hn hkl happ] at next
  obtain ⟨e1, e2⟩ := app_some happ
  have hle : m + k ≤ 4294967296 := by omega
  refine s_eff d _ h (e_appM hx hy ht htn hi hz hz1 hj ?_ (by omega)) (fun p _ => ?_)
  · have h1 : (m + k) * bytes ≤ 4294967296 * 32768 := Nat.mul_le_mul hle hb
    omega
  · rw [← row_rep henc, ← hys, ← row_app, ← e1]
    exact next p.1 p.2
end
end Go.V
