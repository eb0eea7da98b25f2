/- The document's buffer: what its functions answer. -/
import Derived.Test.YtidkijkkolfooaaPRg
namespace Go.V
open Go

theorem set_at_end {α : Type} (A : List α) (x v : α) (C : List α) : (A ++ x :: C).set A.length v = A ++ v :: C := by
  rw [List.set_append_right _ _ (Nat.le_refl _), Nat.sub_self, List.set_cons_zero]
theorem shift_l1 (r : T_downhaulref26_Buffer) (R : Nat) (hR : r.xRoom = R) (hR2 : R ≤ 8192) (hc : r.xCame.length = R + 1) (ho : r.xOut.length = R + 1) : ∀ (d j : Nat), j + d = R → ∀ k, d < k →
    downhaulref26_Buffer_shift.l1 k r ((j : Int) + 1) ((r.xOut.drop 1).take j ++ List.replicate (R + 1 - j) 0) ((r.xCame.drop 1).take j ++ List.replicate (R + 1 - j) false) = some (r.xOut.drop 1 ++ [0], r.xCame.drop 1 ++ [false]) := by
  intro d
  induction d with
  | zero =>
    intro j hj k hk
    obtain ⟨k, rfl⟩ : ∃ m, k = m + 1 := ⟨k - 1, by omega⟩
    rw [downhaulref26_Buffer_shift.l1, if_f (decide_eq_false (by omega)), List.take_of_length_le (by simp; omega), List.take_of_length_le (by simp; omega), show R + 1 - j = 1 by omega]
    rfl
  | succ d ih =>
    intro j hj k hk
    obtain ⟨k, rfl⟩ : ∃ m, k = m + 1 := ⟨k - 1, by omega⟩
    have e1 : (j : Int) + 1 = ((j + 1 : Nat) : Int) := by omega
    have e2 : I64 ((j : Int) + 1 - 1) = (j : Int) := by rw [I64_id (by omega) (by omega)]; omega
    have hro : R + 1 - j = (R + 1 - (j + 1)) + 1 := by omega
    have lo : ((r.xOut.drop 1).take j).length = j := by simp; omega
    have lc : ((r.xCame.drop 1).take j).length = j := by simp; omega
    have to : (r.xOut.drop 1).take (j + 1) = (r.xOut.drop 1).take j ++ [r.xOut[j + 1]'(by omega)] := by
      rw [List.take_succ_eq_append_getElem (by simp; omega)]
      simp [Nat.add_comm]
    have tc : (r.xCame.drop 1).take (j + 1) = (r.xCame.drop 1).take j ++ [r.xCame[j + 1]'(by omega)] := by
      rw [List.take_succ_eq_append_getElem (by simp; omega)]
      simp [Nat.add_comm]
    rw [downhaulref26_Buffer_shift.l1, if_t (decide_eq_true (by omega)), bind_of (idx_at (n := j + 1) e1 (by omega)), bind_of (idx_at (n := j + 1) e1 (by omega)), e2, bind_of (idx_at (n := j) rfl (by simp; omega)), bind_of (idx_at (n := j) rfl (by simp; omega)), Int.toNat_natCast, hro, List.replicate_succ, List.replicate_succ]
    have so := set_at_end ((r.xOut.drop 1).take j) 0 (r.xOut[j + 1]'(by omega)) (List.replicate (R + 1 - (j + 1)) 0)
    have sc := set_at_end ((r.xCame.drop 1).take j) false (r.xCame[j + 1]'(by omega)) (List.replicate (R + 1 - (j + 1)) false)
    rw [lo] at so
    rw [lc] at sc
    rw [so, sc, I64_id (x := (j : Int) + 1 + 1) (by omega) (by omega)]
    have := ih (j + 1) (by omega) k (by omega)
    rw [to, tc] at this
    simpa using this
theorem shift_ok {r : T_downhaulref26_Buffer} {R : Nat} (hR : r.xRoom = R) (hR2 : R ≤ 8192) (hc : r.xCame.length = R + 1) (ho : r.xOut.length = R + 1) (hi : r.xIn.length ≤ 1000000) {k : Nat} (hk : R < k) {x : Int} (hx : r.xOut[0]? = some x) :
    downhaulref26_Buffer_shift.f k r = some ⟨r.xRoom, U32 (r.xNext + 1), r.xIn ++ [x], r.xCame.drop 1 ++ [false], r.xOut.drop 1 ++ [0], r.xLast, r.xHas⟩ := by
  unfold downhaulref26_Buffer_shift.f
  rw [hR, I64_id (by omega) (by omega), bind_of (mk_at (m := R + 1) (by omega) (by omega)), bind_of (mk_at (m := R + 1) (by omega) (by omega))]
  have h1 := shift_l1 r R hR hR2 hc ho R 0 (by omega) k hk
  have h2 : downhaulref26_Buffer_shift.l1 k r 1 (List.replicate (R + 1) 0) (List.replicate (R + 1) false) = some (r.xOut.drop 1 ++ [0], r.xCame.drop 1 ++ [false]) := by simpa using h1
  rw [h2, Option.bind_some, bind_of (app_at (by simp; omega)), List.nil_append]
  have h3 : idx r.xOut 0 = some x := by unfold idx; rw [if_pos (Int.le_refl 0)]; exact hx
  rw [h3, Option.bind_some, bind_of (app_at (by simp; omega))]
theorem take_shift {m : Nat} : ∀ {l : List Int}, m + 1 ≤ l.length → ∀ (h : 0 < l.length), [l[0]] ++ (l.drop 1 ++ [0]).take m = l.take (m + 1)
  | x :: l, h, _ => by
    have : (l ++ [0]).take m = l.take m := List.take_append_of_le_length (by simp at h; omega)
    simp [this]
theorem insR_l2 (R : Nat) (hR2 : R ≤ 8192) : ∀ (m : Nat) (r : T_downhaulref26_Buffer), r.xRoom = R → r.xCame.length = R + 1 → r.xOut.length = R + 1 → r.xIn.length + m ≤ 1000000 → 0 ≤ r.xNext → r.xNext < 4294967296 → m ≤ R → (∀ i, i < m → r.xCame[i]? = some true) → r.xCame[m]? = some false → ∀ k, m + R + 1 < k →
    downhaulref26_Buffer_Insert.l2 k r = some ⟨r.xRoom, (r.xNext + m) % 4294967296, r.xIn ++ r.xOut.take m, r.xCame.drop m ++ List.replicate m false, r.xOut.drop m ++ List.replicate m 0, r.xLast, r.xHas⟩ := by
  intro m
  induction m with
  | zero =>
    intro r hR hc ho hi h0 h1 hm ht hf k hk
    obtain ⟨k, rfl⟩ : ∃ q, k = q + 1 := ⟨k - 1, by omega⟩
    have h3 : idx r.xCame 0 = some false := by unfold idx; rw [if_pos (Int.le_refl 0)]; exact hf
    rw [downhaulref26_Buffer_Insert.l2, h3, Option.bind_some, if_f rfl]
    have hn : r.xNext % 4294967296 = r.xNext := by omega
    simp [hn]
  | succ m ih =>
    intro r hR hc ho hi h0 h1 hm ht hf k hk
    obtain ⟨k, rfl⟩ : ∃ q, k = q + 1 := ⟨k - 1, by omega⟩
    have h3 : idx r.xCame 0 = some true := by unfold idx; rw [if_pos (Int.le_refl 0)]; exact ht 0 (by omega)
    have ho0 : r.xOut[0]? = some (r.xOut[0]'(by omega)) := List.getElem?_eq_getElem (by omega)
    rw [downhaulref26_Buffer_Insert.l2, h3, Option.bind_some, if_t rfl, bind_of (shift_ok hR hR2 hc ho (by omega) (by omega) ho0)]
    rw [ih ⟨r.xRoom, U32 (r.xNext + 1), r.xIn ++ [r.xOut[0]'(by omega)], r.xCame.drop 1 ++ [false], r.xOut.drop 1 ++ [0], r.xLast, r.xHas⟩ hR (by simp; omega) (by simp; omega) (by simp; omega) (by dsimp only; rw [U32_def]; omega) (by dsimp only; rw [U32_def]; omega) (by omega)
      (fun i hi' => by dsimp only; rw [List.getElem?_append_left (by simp; omega), List.getElem?_drop, Nat.add_comm]; exact ht (i + 1) (by omega))
      (by
        dsimp only
        by_cases hmR : m < R
        · rw [List.getElem?_append_left (by simp; omega), List.getElem?_drop, Nat.add_comm]; exact hf
        · rw [List.getElem?_append_right (by simp; omega)]; simp; omega) k (by omega)]
    dsimp only
    congr 2
    · rw [U32_def]; omega
    · rw [List.append_assoc]
      congr 1
      exact take_shift (by omega) _
    · rw [List.drop_append_of_le_length (by simp; omega), List.drop_drop, List.append_assoc]
      congr 1
      · congr 1; omega
    · rw [List.drop_append_of_le_length (by simp; omega), List.drop_drop, List.append_assoc]
      congr 1
      · congr 1; omega

/-! ### How many came -/
theorem count_l1 (r : T_downhaulref26_Buffer) (R : Nat) (hR : r.xRoom = R) (hR2 : R ≤ 8192) (hc : r.xCame.length = R + 1) : ∀ (d j : Nat), j + d = R + 1 → ∀ k, d < k → ∀ s : Nat, s ≤ j → downhaulref26_Buffer_Count.l1 k r s j = some ((s + (r.xCame.drop j).countP id : Nat) : Int) := by
  intro d
  induction d with
  | zero =>
    intro j hj k hk s hs
    obtain ⟨k, rfl⟩ : ∃ q, k = q + 1 := ⟨k - 1, by omega⟩
    rw [downhaulref26_Buffer_Count.l1, if_f (decide_eq_false (by omega)), List.drop_of_length_le (by omega)]
    simp
  | succ d ih =>
    intro j hj k hk s hs
    obtain ⟨k, rfl⟩ : ∃ q, k = q + 1 := ⟨k - 1, by omega⟩
    have hlt : j < r.xCame.length := by omega
    rw [downhaulref26_Buffer_Count.l1, if_t (decide_eq_true (by omega)), bind_of (idx_at rfl hlt), List.drop_eq_getElem_cons hlt, List.countP_cons, I64_succ (n := j) (by omega)]
    cases hb : r.xCame[j] with
    | true =>
      rw [if_t rfl, I64_succ (by omega), ih (j + 1) (by omega) k (by omega) (s + 1) (by omega)]
      simp; omega
    | false =>
      rw [if_f rfl, ih (j + 1) (by omega) k (by omega) s (by omega)]
      simp
theorem count_ok {r : T_downhaulref26_Buffer} {R : Nat} (hR : r.xRoom = R) (hR2 : R ≤ 8192) (hc : r.xCame.length = R + 1) {k : Nat} (hk : R + 1 < k) : downhaulref26_Buffer_Count.f k r = some ((r.xCame.countP id : Nat) : Int) := by
  unfold downhaulref26_Buffer_Count.f
  have h1 := count_l1 r R hR hR2 hc (R + 1) 0 (by omega) k hk 0 (by omega)
  have h2 : downhaulref26_Buffer_Count.l1 k r 0 0 = some ((r.xCame.countP id : Nat) : Int) := by simpa using h1
  rw [h2]; rfl
theorem countP_or {α : Type} (p q : α → Bool) : ∀ (l : List α), (∀ x ∈ l, ¬ (p x = true ∧ q x = true)) → l.countP (fun x => p x || q x) = l.countP p + l.countP q
  | [], _ => rfl
  | x :: l, h => by
    have := h x (by simp)
    rw [List.countP_cons, List.countP_cons, List.countP_cons, countP_or p q l (fun y hy => h y (by simp [hy]))]
    cases hp : p x <;> cases hq : q x
    · simp
    · simp; omega
    · simp; omega
    · exact absurd ⟨hp, hq⟩ this
theorem count_range (a b : Nat) : ∀ N : Nat, (List.range N).countP (fun w => decide (a ≤ w ∧ w < b)) = min N b - min N a
  | 0 => by simp
  | N + 1 => by
    rw [List.range_succ, List.countP_append, count_range a b N]
    simp only [List.countP_cons, List.countP_nil, decide_eq_true_eq]
    split <;> omega
theorem count_runs : ∀ {lo : Int} {l : List T_sack_run} {N : Nat}, 0 ≤ lo → Srt lo l → (∀ x ∈ l, x.xto ≤ N) → (((List.range N).countP (fun w => pres l (w : Nat)) : Nat) : Int) = runSum l
  | _, [], N, _, _, _ => by
    have : (List.range N).countP (fun w => pres [] (w : Nat)) = 0 := by rw [List.countP_eq_zero]; intro x _ h; cases h
    rw [this]; rfl
  | lo, x :: l, N, h0, ⟨a, b, c⟩, hM => by
    have hx := hM x (by simp)
    have e : (fun w : Nat => pres (x :: l) (w : Int)) = (fun w : Nat => (decide (x.xfrom.toNat ≤ w ∧ w < x.xto.toNat)) || pres l (w : Int)) := by
      funext w
      unfold pres
      rw [List.any_cons]
      congr 1
      rw [Bool.eq_iff_iff, inRun_iff, decide_eq_true_eq]
      omega
    rw [e, countP_or _ _ _ (fun w _ h => by
      have h1 := of_decide_eq_true h.1
      have h2 := c.low (w := (w : Int)) (by omega)
      unfold pres at h
      rw [h2] at h
      cases h.2), count_range]
    have ih := count_runs (N := N) (by omega) c (fun y hy => hM y (by simp [hy]))
    have e2 : runSum (x :: l) = (x.xto - x.xfrom) + runSum l := by simp [runSum]
    rw [e2, ← ih]
    omega

/-! ### The blocks of the document's -/
/-- The runs' parts from p + 1 on. -/
def clip (p : Int) (l : List T_sack_run) : List T_sack_run := (l.filter (fun x => decide (x.xto > p + 1))).map (fun x => ⟨max x.xfrom (p + 1), x.xto⟩)
theorem clip_none {p : Int} {l : List T_sack_run} (h : ∀ x ∈ l, x.xto ≤ p + 1) : clip p l = [] := by
  unfold clip
  rw [List.filter_eq_nil_iff.2 (fun x hx => by have := h x hx; simpa using this)]; rfl
theorem clip_all {p : Int} {l : List T_sack_run} (h : ∀ x ∈ l, p + 1 ≤ x.xfrom ∧ x.xfrom < x.xto) : clip p l = l := by
  unfold clip
  rw [List.filter_eq_self.2 (fun x hx => by have := h x hx; simpa using by omega)]
  have : l.map (fun x => (⟨max x.xfrom (p + 1), x.xto⟩ : T_sack_run)) = l.map id := List.map_congr_left fun x hx => by
    have := h x hx
    show (⟨max x.xfrom (p + 1), x.xto⟩ : T_sack_run) = ⟨x.xfrom, x.xto⟩
    congr 1; omega
  rw [this, List.map_id]
theorem clip_app (p : Int) (A C : List T_sack_run) : clip p (A ++ C) = clip p A ++ clip p C := by unfold clip; rw [List.filter_append, List.map_append]
theorem pres_split {w : Int} : ∀ {lo : Int} {l : List T_sack_run}, Srt lo l → pres l w = true → ∃ A x C, l = A ++ x :: C ∧ x.xfrom ≤ w ∧ w < x.xto ∧ (∀ y ∈ A, y.xto ≤ w) ∧ Srt (x.xto + 1) C
  | _, x :: l, ⟨a, b, c⟩, h => by
    unfold pres at h
    rw [List.any_cons, Bool.or_eq_true] at h
    rcases h with h | h
    · rw [inRun_iff] at h
      exact ⟨[], x, l, rfl, h.1, h.2, (fun y hy => by cases hy), c⟩
    · obtain ⟨A, y, C, h1, h2, h3, h4, h5⟩ := pres_split c h
      have hy := c.mem y (by rw [h1]; simp)
      refine ⟨x :: A, y, C, by rw [h1]; rfl, h2, h3, fun z hz => ?_, h5⟩
      rcases List.mem_cons.1 hz with rfl | hz
      · omega
      · exact h4 z hz
theorem pres_not {w : Int} {l : List T_sack_run} (h : pres l w = false) : ∀ x ∈ l, ¬ (x.xfrom ≤ w ∧ w < x.xto) := by
  intro x hx hw
  unfold pres at h
  rw [List.any_eq_false] at h
  have := h x hx
  rw [inRun_iff] at this
  exact this hw
theorem blksR_l1 (r : T_downhaulref26_Buffer) (R : Nat) (l : List T_sack_run) (hs : Srt 0 l) (hM : ∀ x ∈ l, x.xto ≤ R) (hR2 : R ≤ 8192) (h0 : 0 ≤ r.xNext) (h1 : r.xNext < 4294967296) (hc : ∀ w : Nat, w ≤ R → r.xCame[w]? = some (pres l w)) (hl : l.length ≤ 100000) : ∀ (d : Nat), d ≤ R + 1 → ∀ k, d < k →
    downhaulref26_Buffer_Blocks.l1 k r ((d : Int) - 1) (((clip ((d : Int) - 1) l).map (blkOf r.xNext)).reverse) = some ((l.map (blkOf r.xNext)).reverse) := by
  intro d
  induction d with
  | zero =>
    intro hd k hk
    obtain ⟨k, rfl⟩ : ∃ q, k = q + 1 := ⟨k - 1, by omega⟩
    rw [downhaulref26_Buffer_Blocks.l1, if_f (decide_eq_false (by omega)), clip_all (fun x hx => by have := hs.mem x hx; omega)]
  | succ d ih =>
    intro hd k hk
    obtain ⟨k, rfl⟩ : ∃ q, k = q + 1 := ⟨k - 1, by omega⟩
    have ed : ((d + 1 : Nat) : Int) - 1 = (d : Int) := by omega
    have hcd := hc d (by omega)
    have hidx : idx r.xCame (d : Int) = some (pres l d) := by unfold idx; rw [if_pos (by omega), Int.toNat_natCast]; exact hcd
    have en : I64 ((d : Int) - 1) = (d : Int) - 1 := I64_id (by omega) (by omega)
    rw [downhaulref26_Buffer_Blocks.l1, ed, if_t (decide_eq_true (by omega)), hidx, Option.bind_some, en]
    have eL : U32 (r.xNext + U32 (d : Int)) = (r.xNext + d) % 4294967296 := by rw [U32_id (x := (d : Int)) (by omega) (by omega), U32_def]
    cases hp : pres l d with
    | false =>
      rw [if_t (by rfl)]
      have hn := pres_not hp
      have : clip (d : Int) l = clip ((d : Int) - 1) l := by
        unfold clip
        have e1 : l.filter (fun x => decide (x.xto > (d : Int) + 1)) = l.filter (fun x => decide (x.xto > (d : Int) - 1 + 1)) := List.filter_congr (fun x hx => by
          have g1 := hn x hx
          have g2 := hs.mem x hx
          rw [decide_eq_decide]; omega)
        rw [e1]
        refine List.map_congr_left fun x hx => ?_
        rw [List.mem_filter] at hx
        have g1 := hn x hx.1
        have g3 := of_decide_eq_true hx.2
        congr 1; omega
      rw [this]
      exact ih (by omega) k (by omega)
    | true =>
      rw [if_f (by rfl)]
      obtain ⟨A, x, C, rfl, a1, a2, a3, a4⟩ := pres_split hs hp
      have hxm := hM x (by simp)
      have hx0 := hs.mem x (by simp)
      have c1 : clip (d : Int) A = [] := clip_none (fun y hy => by have := a3 y hy; omega)
      have c2 : clip ((d : Int) - 1) A = [] := clip_none (fun y hy => by have := a3 y hy; omega)
      have c3 : clip (d : Int) C = C := clip_all (fun y hy => by have := a4.mem y hy; omega)
      have c4 : clip ((d : Int) - 1) C = C := clip_all (fun y hy => by have := a4.mem y hy; omega)
      have hCl : C.length ≤ 100000 := by simp at hl; omega
      have e2 : clip ((d : Int) - 1) (A ++ x :: C) = ⟨d, x.xto⟩ :: C := by
        rw [clip_app, c2, List.nil_append, show x :: C = [x] ++ C from rfl, clip_app, c4]
        unfold clip
        rw [List.filter_cons, if_pos (by simpa using by omega)]
        simp; omega
      have e3 : blkOf r.xNext ⟨d, x.xto⟩ = ⟨U32 (r.xNext + U32 (d : Int)), U32 (r.xNext + U32 x.xto)⟩ := rfl
      have hih := ih (by omega) k (by omega)
      rw [e2, List.map_cons, List.reverse_cons, e3] at hih
      by_cases ht : x.xto > (d : Int) + 1
      · have e1 : clip (d : Int) (A ++ x :: C) = ⟨(d : Int) + 1, x.xto⟩ :: C := by
          rw [clip_app, c1, List.nil_append, show x :: C = [x] ++ C from rfl, clip_app, c3]
          unfold clip
          rw [List.filter_cons, if_pos (by simpa using ht)]
          simp; omega
        have e4 : blkOf r.xNext ⟨(d : Int) + 1, x.xto⟩ = ⟨U32 (r.xNext + U32 ((d : Int) + 1)), U32 (r.xNext + U32 x.xto)⟩ := rfl
        rw [e1, List.map_cons, List.reverse_cons, e4]
        have hlen : ((C.map (blkOf r.xNext)).reverse ++ [(⟨U32 (r.xNext + U32 ((d : Int) + 1)), U32 (r.xNext + U32 x.xto)⟩ : T_api_Block)]).length = C.length + 1 := by simp
        have hl2 : (C.map (blkOf r.xNext)).reverse.length = C.length := by simp
        have hlast : idx ((C.map (blkOf r.xNext)).reverse ++ [(⟨U32 (r.xNext + U32 ((d : Int) + 1)), U32 (r.xNext + U32 x.xto)⟩ : T_api_Block)]) (C.length : Nat) = some ⟨U32 (r.xNext + U32 ((d : Int) + 1)), U32 (r.xNext + U32 x.xto)⟩ := by
          rw [idx_at (n := C.length) rfl (by rw [hlen]; omega), List.getElem_append_right (by simp)]
          simp
        have ei : I64 (((C.length + 1 : Nat) : Int) - 1) = (C.length : Nat) := by rw [I64_id (by omega) (by omega)]; omega
        have eq2 : (U32 (r.xNext + U32 ((d : Int) + 1)) == U32 (U32 (r.xNext + U32 (d : Int)) + 1)) = true := by
          rw [eL, U32_id (x := (d : Int) + 1) (by omega) (by omega), U32_def, U32_def, beq_iff_eq]; omega
        rw [hlen, if_t (decide_eq_true (by omega)), ei, hlast, Option.bind_some]
        dsimp only
        rw [if_t eq2, Option.bind_some, Int.toNat_natCast, ← hl2, set_at_end]
        exact hih
      · have e1 : clip (d : Int) (A ++ x :: C) = C := by
          rw [clip_app, c1, List.nil_append, show x :: C = [x] ++ C from rfl, clip_app, c3]
          unfold clip
          rw [List.filter_cons, if_neg (by simpa using by omega)]
          simp
        have ex : x.xto = (d : Int) + 1 := by omega
        have er : U32 (U32 (r.xNext + U32 (d : Int)) + 1) = U32 (r.xNext + U32 x.xto) := by
          rw [eL, ex, U32_id (x := (d : Int) + 1) (by omega) (by omega), U32_def, U32_def]; omega
        rw [e1, er]
        cases C with
        | nil =>
          simp only [List.map_nil, List.reverse_nil, List.nil_append] at hih ⊢
          rw [if_f (by rfl), bind_of (app_at (by simp)), List.nil_append]
          exact hih
        | cons y C =>
          obtain ⟨y1, y2, y3⟩ := a4
          have hym := hM y (by simp)
          have hlen : ((y :: C).map (blkOf r.xNext)).reverse.length = C.length + 1 := by simp
          have hlast : idx ((y :: C).map (blkOf r.xNext)).reverse (C.length : Nat) = some (blkOf r.xNext y) := by
            rw [idx_at (n := C.length) rfl (by rw [hlen]; omega)]
            simp
          have hCl' : C.length ≤ 100000 := by simp at hCl; omega
          have ei : I64 (((C.length + 1 : Nat) : Int) - 1) = (C.length : Nat) := by rw [I64_id (by omega) (by omega)]; omega
          have ne2 : ((blkOf r.xNext y).xLeft == U32 (r.xNext + U32 x.xto)) = false := by
            unfold blkOf
            dsimp only
            rw [U32_id (x := y.xfrom) (by omega) (by omega), U32_id (x := x.xto) (by omega) (by omega), U32_def, U32_def, beq_eq_false_iff_ne]; omega
          rw [hlen, if_t (decide_eq_true (by omega)), ei, hlast, Option.bind_some, if_f ne2, bind_of (app_at (by rw [hlen]; simp; omega))]
          exact hih
def hereR (r : T_downhaulref26_Buffer) (x : T_api_Block) : Bool := r.xHas && decide (U32 (r.xLast - x.xLeft) < U32 (x.xRight - x.xLeft))
theorem blksR_l2 (r : T_downhaulref26_Buffer) (l : List T_api_Block) (hl : l.length ≤ 100000) : ∀ (d j : Nat), j + d = l.length → ∀ k, d < k → ∀ acc : List T_api_Block, acc.length ≤ j → downhaulref26_Buffer_Blocks.l2 k r l j acc = some (acc ++ (l.drop j).filter (hereR r)) := by
  intro d
  induction d with
  | zero =>
    intro j hj k hk acc ha
    obtain ⟨k, rfl⟩ : ∃ q, k = q + 1 := ⟨k - 1, by omega⟩
    rw [downhaulref26_Buffer_Blocks.l2, if_f (decide_eq_false (by omega)), List.drop_of_length_le (by omega)]
    simp
  | succ d ih =>
    intro j hj k hk acc ha
    obtain ⟨k, rfl⟩ : ∃ q, k = q + 1 := ⟨k - 1, by omega⟩
    have hlt : j < l.length := by omega
    rw [downhaulref26_Buffer_Blocks.l2, if_t (decide_eq_true (by omega)), List.drop_eq_getElem_cons hlt, List.filter_cons]
    have hr : hereR r l[j] = (r.xHas && decide (U32 (r.xLast - l[j].xLeft) < U32 (l[j].xRight - l[j].xLeft))) := rfl
    cases hh : r.xHas with
    | false =>
      rw [if_f rfl, I64_succ (by omega), ih (j + 1) (by omega) k (by omega) _ (by omega), if_neg (by rw [hr, hh]; simp)]
    | true =>
      rw [if_t rfl, bind_of (idx_at rfl hlt), bind_of (idx_at rfl hlt), bind_of (idx_at rfl hlt), bind_of (idx_at rfl hlt), I64_succ (by omega)]
      by_cases c : U32 (r.xLast - l[j].xLeft) < U32 (l[j].xRight - l[j].xLeft)
      · rw [if_t (decide_eq_true c), bind_of (app_at (by simp; omega)), ih (j + 1) (by omega) k (by omega) _ (by simp; omega), if_pos (by rw [hr, hh]; simpa using c)]
        simp
      · rw [if_f (decide_eq_false c), ih (j + 1) (by omega) k (by omega) _ (by omega), if_neg (by rw [hr, hh]; simpa using c)]
def neB (x y : T_api_Block) : Bool := !((x.xLeft == y.xLeft) && (x.xRight == y.xRight))
theorem neB_f {x y : T_api_Block} : neB x y = false ↔ x = y := by
  cases x; cases y
  simp [neB]
theorem neB_t {x y : T_api_Block} : neB x y = true ↔ x ≠ y := by
  rw [← Bool.not_eq_false, neB_f]
theorem blksR_l3 (l : List T_api_Block) (hl : l.length ≤ 100000) (y : T_api_Block) : ∀ (d j : Nat), j + d = l.length → ∀ k, d < k → ∀ acc : List T_api_Block, acc.length ≤ j + 1 → downhaulref26_Buffer_Blocks.l3 k l j (y :: acc) = some (y :: acc ++ (l.drop j).filter (fun x => neB x y)) := by
  intro d
  induction d with
  | zero =>
    intro j hj k hk acc ha
    obtain ⟨k, rfl⟩ : ∃ q, k = q + 1 := ⟨k - 1, by omega⟩
    rw [downhaulref26_Buffer_Blocks.l3, if_f (decide_eq_false (by omega)), List.drop_of_length_le (by omega)]
    simp
  | succ d ih =>
    intro j hj k hk acc ha
    obtain ⟨k, rfl⟩ : ∃ q, k = q + 1 := ⟨k - 1, by omega⟩
    have hlt : j < l.length := by omega
    have hn : (!((l[j].xLeft == y.xLeft) && (l[j].xRight == y.xRight))) = neB l[j] y := rfl
    rw [downhaulref26_Buffer_Blocks.l3, if_t (decide_eq_true (by omega)), if_f (by simp; omega), bind_of (idx_at rfl hlt), idx_zero, Option.bind_some, hn, List.drop_eq_getElem_cons hlt, List.filter_cons, I64_succ (by omega)]
    cases c : neB l[j] y with
    | false => rw [if_f rfl, ih (j + 1) (by omega) k (by omega) _ (by omega), if_neg (by simp)]
    | true =>
      rw [if_t rfl, bind_of (idx_at rfl hlt), bind_of (app_at (by simp; omega)), List.cons_append, ih (j + 1) (by omega) k (by omega) _ (by simp; omega), if_pos rfl]
      simp
/-- Blocks that differ, at most one of which p holds of. -/
def Apart (p : T_api_Block → Bool) (l : List T_api_Block) : Prop := l.Pairwise (fun x y => x ≠ y ∧ ¬ (p x = true ∧ p y = true))
theorem first_split {α : Type} {p : α → Bool} : ∀ {l : List α}, l.filter p ≠ [] → ∃ A y C, l = A ++ y :: C ∧ (∀ x ∈ A, p x = false) ∧ p y = true
  | x :: l, h => by
    cases hp : p x with
    | true => exact ⟨[], x, l, rfl, (fun y hy => by cases hy), hp⟩
    | false =>
      rw [List.filter_cons, if_neg (by simp [hp])] at h
      obtain ⟨A, y, C, rfl, h1, h2⟩ := first_split h
      refine ⟨x :: A, y, C, rfl, fun z hz => ?_, h2⟩
      rcases List.mem_cons.1 hz with rfl | hz
      · exact hp
      · exact h1 z hz
theorem blksR_front {p : T_api_Block → Bool} {l : List T_api_Block} (h : Apart p l) (hl : l.length ≤ 100000) {k : Nat} (hk : l.length + 1 < k) : downhaulref26_Buffer_Blocks.l3 k l 0 (l.filter p) = some (front p l) := by
  by_cases hf : l.filter p = []
  · rw [hf]
    have hno : l.findIdx? p = none := by
      rw [List.findIdx?_eq_none_iff]
      intro x hx
      rw [List.filter_eq_nil_iff] at hf
      simpa using hf x hx
    have e : front p l = l := by unfold front; rw [hno]
    rw [e]
    obtain ⟨k, rfl⟩ : ∃ q, k = q + 1 := ⟨k - 1, by omega⟩
    cases l with
    | nil => rw [downhaulref26_Buffer_Blocks.l3, if_f (by rfl)]
    | cons x l =>
      have hx := (List.pairwise_cons.1 h).1
      rw [downhaulref26_Buffer_Blocks.l3, if_t (by simp), if_t (by rfl), idx_zero, Option.bind_some, bind_of (app_at (by simp)), List.nil_append]
      have h3 := blksR_l3 (x :: l) hl x l.length 1 (by simp; omega) k (by simp at hk; omega) [] (by simp)
      have h4 : downhaulref26_Buffer_Blocks.l3 k (x :: l) (I64 (0 + 1)) [x] = some ([x] ++ ((x :: l).drop 1).filter (fun z => neB z x)) := h3
      rw [h4, List.drop_one, List.tail_cons, List.filter_eq_self.2 (fun z hz => by rw [neB_t]; exact (hx z hz).1.symm)]
      rfl
  · obtain ⟨A, y, C, rfl, hA, hy⟩ := first_split hf
    have hpw := List.pairwise_append.1 h
    have hC := (List.pairwise_cons.1 hpw.2.1).1
    have hpC : ∀ z ∈ C, p z = false := fun z hz => by
      have := (hC z hz).2
      cases hz' : p z with
      | false => rfl
      | true => exact absurd ⟨hy, hz'⟩ this
    have e1 : (A ++ y :: C).filter p = [y] := by
      rw [List.filter_append, List.filter_cons, if_pos hy, List.filter_eq_nil_iff.2 (fun z hz => by simp [hA z hz]), List.filter_eq_nil_iff.2 (fun z hz => by simp [hpC z hz])]
      rfl
    have e2 : (A ++ y :: C).filter (fun z => neB z y) = A ++ C := by
      rw [List.filter_append, List.filter_cons, if_neg (by rw [neB_t]; simp), List.filter_eq_self.2 (fun z hz => by rw [neB_t]; exact (hpw.2.2 z hz y (by simp)).1), List.filter_eq_self.2 (fun z hz => by rw [neB_t]; exact (hC z hz).1.symm)]
    have h3 := blksR_l3 (A ++ y :: C) hl y (A ++ y :: C).length 0 (by omega) k (by omega) [] (by simp)
    have h4 : downhaulref26_Buffer_Blocks.l3 k (A ++ y :: C) 0 [y] = some ([y] ++ ((A ++ y :: C).drop 0).filter (fun z => neB z y)) := h3
    rw [e1, h4, List.drop_zero, e2]
    unfold front
    have hi : (A ++ y :: C).findIdx? p = some A.length := by
      rw [List.findIdx?_append, List.findIdx?_eq_none_iff.2 (fun z hz => by simp [hA z hz]), List.findIdx?_cons, if_pos hy]
      simp
    rw [hi]
    dsimp only
    split
    · rw [List.getElem?_append_right (Nat.le_refl _), Nat.sub_self, List.take_left' rfl, show A.length + 1 = (A ++ [y]).length by simp, show A ++ y :: C = (A ++ [y]) ++ C by simp, List.drop_left' rfl]
      rfl
    · have : A = [] := List.length_eq_zero_iff.1 (by omega)
      subst this
      rfl
theorem Srt.pairwise : ∀ {lo : Int} {l : List T_sack_run}, Srt lo l → l.Pairwise (fun x y => x.xto < y.xfrom)
  | _, [], _ => List.Pairwise.nil
  | _, x :: l, ⟨_, _, c⟩ => List.Pairwise.cons (fun y hy => by have := c.mem y hy; omega) c.pairwise
theorem apart_ok {l : List T_sack_run} {F last : Int} {kept : Bool} (hs : Srt 0 l) (hM : ∀ x ∈ l, x.xto ≤ 8192) (h0 : 0 ≤ F) (h1 : F < 4294967296) : Apart (fun x => kept && decide (U32 (last - x.xLeft) < U32 (x.xRight - x.xLeft))) ((l.map (blkOf F)).reverse) := by
  unfold Apart
  rw [List.pairwise_reverse, List.pairwise_map]
  refine List.Pairwise.imp_of_mem (fun {x y} hx hy hxy => ?_) hs.pairwise
  have x1 := hs.mem x hx
  have x2 := hM x hx
  have y1 := hs.mem y hy
  have y2 := hM y hy
  unfold blkOf
  dsimp only
  rw [U32_id (x := x.xfrom) (by omega) (by omega), U32_id (x := x.xto) (by omega) (by omega), U32_id (x := y.xfrom) (by omega) (by omega), U32_id (x := y.xto) (by omega) (by omega)]
  simp only [U32_def]
  constructor
  · intro h
    simp only [T_api_Block.mk.injEq] at h
    omega
  · rintro ⟨g1, g2⟩
    simp only [Bool.and_eq_true, decide_eq_true_eq] at g1 g2
    omega
end Go.V
