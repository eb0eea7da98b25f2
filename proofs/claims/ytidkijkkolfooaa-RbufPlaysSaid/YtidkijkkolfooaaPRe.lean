/- Buffers: runs in order, joined and moved on. -/
import Derived.Test.YtidkijkkolfooaaPRc
namespace Go.V
open Go

/-- Runs in order, none touching another one, from lo on. -/
def Srt : Int → List T_sack_run → Prop
  | _, [] => True
  | lo, x :: l => lo ≤ x.xfrom ∧ x.xfrom < x.xto ∧ Srt (x.xto + 1) l
theorem Srt.mono {lo lo' : Int} (h : lo' ≤ lo) : ∀ {l : List T_sack_run}, Srt lo l → Srt lo' l
  | [], _ => trivial
  | _ :: _, ⟨a, b, c⟩ => ⟨by omega, b, c⟩
theorem Srt.mem {lo : Int} : ∀ {l : List T_sack_run}, Srt lo l → ∀ x ∈ l, lo ≤ x.xfrom ∧ x.xfrom < x.xto
  | y :: l, ⟨a, b, c⟩, x, h => by
    rcases List.mem_cons.1 h with rfl | h
    · exact ⟨a, b⟩
    · have := Srt.mem c x h; omega
theorem Srt.app {lo f t : Int} {C : List T_sack_run} (hf : lo ≤ f) (ht : f < t) (hC : Srt (t + 1) C) : ∀ {A : List T_sack_run}, Srt lo A → (∀ x ∈ A, x.xto < f) → Srt lo (A ++ ⟨f, t⟩ :: C)
  | [], _, _ => ⟨hf, ht, hC⟩
  | x :: A, ⟨a, b, c⟩, h => ⟨a, b, Srt.app (by have := h x (by simp); omega) ht hC c (fun y hy => h y (by simp [hy]))⟩

def joinP : T_sack_run → List T_sack_run → List T_sack_run × T_sack_run
  | r, [] => ([], r)
  | r, x :: xs => if x.xto < r.xfrom then (x :: (joinP r xs).1, (joinP r xs).2) else if x.xfrom > r.xto then (x :: (joinP r xs).1, (joinP r xs).2) else joinP ⟨min r.xfrom x.xfrom, max r.xto x.xto⟩ xs
theorem joinP_l1 (b : T_sack_Board) (hl : b.xruns.length ≤ 1048576) : ∀ (d j : Nat), j + d = b.xruns.length → ∀ k, d < k → ∀ (r : T_sack_run) (acc : List T_sack_run), acc.length ≤ j →
    sack_Board_join.l1 k b j r acc = some (acc ++ (joinP r (b.xruns.drop j)).1, (joinP r (b.xruns.drop j)).2) := by
  intro d
  induction d with
  | zero =>
    intro j hj k hk r acc h2
    obtain ⟨k, rfl⟩ : ∃ m, k = m + 1 := ⟨k - 1, by omega⟩
    rw [sack_Board_join.l1, if_f (by simpa using by omega), List.drop_of_length_le (by omega)]
    simp [joinP]
  | succ d ih =>
    intro j hj k hk r acc h2
    obtain ⟨k, rfl⟩ : ∃ m, k = m + 1 := ⟨k - 1, by omega⟩
    have hlt : j < b.xruns.length := by omega
    have happ : app acc [b.xruns[j]] = some (acc ++ [b.xruns[j]]) := app_at (by simp; omega)
    rw [sack_Board_join.l1, if_t (by simpa using by omega), bind_of (idx_at rfl hlt), I64_succ (by omega), List.drop_eq_getElem_cons hlt]
    by_cases c1 : b.xruns[j].xto < r.xfrom
    · rw [if_t (by simpa using c1), bind_of happ, ih (j + 1) (by omega) k (by omega) _ _ (by simp; omega)]
      simp only [joinP, if_pos c1]
      simp
    · rw [if_f (by simpa using by omega)]
      by_cases c2 : b.xruns[j].xfrom > r.xto
      · rw [if_t (by simpa using c2), bind_of happ, ih (j + 1) (by omega) k (by omega) _ _ (by simp; omega)]
        simp only [joinP, if_neg c1, if_pos c2]
        simp
      · rw [if_f (by simpa using by omega), imin_eq, imax_eq, ih (j + 1) (by omega) k (by omega) _ _ (by omega)]
        simp only [joinP, if_neg c1, if_neg c2]
theorem joinP_far : ∀ (xs : List T_sack_run) (r : T_sack_run), r.xfrom < r.xto → Srt (r.xto + 1) xs → joinP r xs = (xs, r)
  | [], r, _, _ => rfl
  | x :: xs, r, hr, ⟨a, b, c⟩ => by
    rw [joinP, if_neg (by omega), if_pos (by omega), joinP_far xs r hr (c.mono (by omega))]
theorem inRun_iff (w : Int) (x : T_sack_run) : inRun w x = true ↔ x.xfrom ≤ w ∧ w < x.xto := by simp [inRun]
theorem inRun_join {r x : T_sack_run} (h1 : ¬ x.xto < r.xfrom) (h2 : ¬ x.xfrom > r.xto) (hr : r.xfrom < r.xto) (hx : x.xfrom < x.xto) (w : Int) : inRun w ⟨min r.xfrom x.xfrom, max r.xto x.xto⟩ = (inRun w x || inRun w r) := by
  rw [Bool.eq_iff_iff, Bool.or_eq_true, inRun_iff, inRun_iff, inRun_iff]
  dsimp only
  omega
theorem joinP_spec : ∀ (xs : List T_sack_run) (lo : Int) (r : T_sack_run), Srt lo xs → r.xfrom < r.xto → ∃ A C, (joinP r xs).1 = A ++ C ∧ Srt lo A ∧ (∀ x ∈ A, x.xto < (joinP r xs).2.xfrom) ∧ Srt ((joinP r xs).2.xto + 1) C ∧
    (joinP r xs).2.xfrom < (joinP r xs).2.xto ∧ min lo r.xfrom ≤ (joinP r xs).2.xfrom ∧ (joinP r xs).2.xfrom ≤ r.xfrom ∧ ∀ w, ((A ++ C).any (inRun w) || inRun w (joinP r xs).2) = (xs.any (inRun w) || inRun w r)
  | [], lo, r, _, hr => ⟨[], [], rfl, trivial, (fun x hx => by cases hx), trivial, hr, Int.min_le_right _ _, Int.le_refl _, fun w => rfl⟩
  | x :: xs, lo, r, ⟨a, b, c⟩, hr => by
    by_cases c1 : x.xto < r.xfrom
    · obtain ⟨A, C, h1, h2, h3, h4, h5, h6, h7, h8⟩ := joinP_spec xs (x.xto + 1) r c hr
      have e : joinP r (x :: xs) = (x :: (joinP r xs).1, (joinP r xs).2) := by rw [joinP, if_pos c1]
      rw [e]
      refine ⟨x :: A, C, by rw [h1]; rfl, ⟨a, b, h2⟩, fun y hy => ?_, h4, h5, by dsimp only; omega, h7, fun w => ?_⟩
      · rcases List.mem_cons.1 hy with rfl | hy
        · dsimp only; omega
        · exact h3 y hy
      · have := h8 w
        simp only [List.cons_append, List.any_cons, Bool.or_assoc] at this ⊢
        rw [this]
    · by_cases c2 : x.xfrom > r.xto
      · have hs : Srt (r.xto + 1) (x :: xs) := ⟨by omega, b, c⟩
        rw [joinP_far (x :: xs) r hr hs]
        exact ⟨[], x :: xs, rfl, trivial, (fun y hy => by cases hy), hs, hr, Int.min_le_right _ _, Int.le_refl _, fun w => rfl⟩
      · have e : joinP r (x :: xs) = joinP ⟨min r.xfrom x.xfrom, max r.xto x.xto⟩ xs := by rw [joinP, if_neg c1, if_neg c2]
        rw [e]
        obtain ⟨A, C, h1, h2, h3, h4, h5, h6, h7, h8⟩ := joinP_spec xs (x.xto + 1) ⟨min r.xfrom x.xfrom, max r.xto x.xto⟩ c (by dsimp only; omega)
        dsimp only at h6 h7
        refine ⟨A, C, h1, h2.mono (by omega), h3, h4, h5, by omega, by omega, fun w => ?_⟩
        rw [h8, inRun_join c1 c2 hr b]
        simp only [List.any_cons]
        cases inRun w x <;> cases inRun w r <;> cases xs.any (inRun w) <;> rfl
theorem search_at (xs : List T_sack_run) (a : Int) (q0 : Nat) (hq : q0 ≤ xs.length) (hb : ∀ x ∈ xs, -65536 ≤ x.xfrom ∧ x.xfrom ≤ 65536) (ha : -65536 ≤ a ∧ a ≤ 65536) (h1 : ∀ (i : Nat) (h : i < xs.length), i < q0 → xs[i].xfrom < a) (h2 : ∀ (i : Nat) (h : i < xs.length), q0 ≤ i → a ≤ xs[i].xfrom) (hl : xs.length ≤ 1048576) :
    ∀ (k i j : Nat), i ≤ q0 → q0 ≤ j → j ≤ xs.length → j - i < k → slices_BinarySearchFunc_int.l1 k xs a i j = some (q0 : Int) := by
  intro k
  induction k with
  | zero => intro i j _ _ _ h; omega
  | succ k ih =>
    intro i j g1 g2 g3 g4
    rw [slices_BinarySearchFunc_int.l1]
    by_cases hij : i < j
    · have e : I64 (bshr .u64 (U64 (I64 ((i : Int) + (j : Int)))) 1) = (((i + j) / 2 : Nat) : Int) := by
        rw [I64_id (x := (i : Int) + j) (by omega) (by omega), U64_id (by omega) (by omega), bshr_one _ _ (by decide), I64_id (by omega) (by omega)]
        omega
      have hm : (i + j) / 2 < xs.length := by omega
      have hbm := hb _ (List.getElem_mem hm)
      rw [if_t (by simpa using hij), e, bind_of (idx_at rfl hm)]
      unfold sack_Board_join_1.f
      rw [Option.bind_some, I64_id (x := _ - a) (by omega) (by omega)]
      by_cases c : (i + j) / 2 < q0
      · have := h1 _ hm c
        rw [if_t (by simpa using by omega), I64_succ (by omega)]
        exact ih _ _ (by omega) g2 g3 (by omega)
      · have := h2 _ hm (by omega)
        rw [if_f (by simpa using by omega)]
        exact ih _ _ g1 (by omega) (by omega) (by omega)
    · rw [if_f (by simpa using by omega)]
      congr 2; omega
/-- A run is joined to all that it touches. -/
theorem join_spec {b : T_sack_Board} {lo : Int} (hs : Srt lo b.xruns) (h0 : 0 ≤ lo) (hM : ∀ x ∈ b.xruns, x.xto ≤ 65536) (hl : b.xruns.length ≤ 1048575) {r : T_sack_run} (hr : r.xfrom < r.xto) (hr0 : lo ≤ r.xfrom) (hr1 : r.xfrom ≤ 65536) {k : Nat} (hk : b.xruns.length + 1 < k) :
    ∃ l, sack_Board_join.f k b r = some ⟨b.xmade, b.xfirst, l⟩ ∧ Srt lo l ∧ ∀ w, l.any (inRun w) = (b.xruns.any (inRun w) || inRun w r) := by
  obtain ⟨A, C, h1, h2, h3, h4, h5, h6, h7, h8⟩ := joinP_spec b.xruns lo r hs hr
  have hj := joinP_l1 b (by omega) b.xruns.length 0 (by omega) k (by omega) r [] (by simp)
  rw [List.drop_zero, List.nil_append] at hj
  have hj' : sack_Board_join.l1 k b 0 r [] = some ((joinP r b.xruns).1, (joinP r b.xruns).2) := hj
  have hmem : ∀ x ∈ (joinP r b.xruns).1, x ∈ b.xruns := by
    have : ∀ (xs : List T_sack_run) (r : T_sack_run), ∀ x ∈ (joinP r xs).1, x ∈ xs := by
      intro xs
      induction xs with
      | nil => intro r x hx; simp [joinP] at hx
      | cons y ys ih =>
        intro r x hx
        rw [joinP] at hx
        split at hx
        · rcases List.mem_cons.1 hx with rfl | hx
          · simp
          · simp [ih _ _ hx]
        · split at hx
          · rcases List.mem_cons.1 hx with rfl | hx
            · simp
            · simp [ih _ _ hx]
          · simp [ih _ _ hx]
    exact this _ _
  have hlen : (joinP r b.xruns).1.length ≤ b.xruns.length := by
    have : ∀ (xs : List T_sack_run) (r : T_sack_run), (joinP r xs).1.length ≤ xs.length := by
      intro xs
      induction xs with
      | nil => intro r; simp [joinP]
      | cons y ys ih =>
        intro r
        rw [joinP]
        split
        · simp [ih]
        · split
          · simp [ih]
          · have := ih ⟨min r.xfrom y.xfrom, max r.xto y.xto⟩
            simp only [List.length_cons]; omega
    exact this _ _
  generalize (joinP r b.xruns).1 = l at *
  generalize (joinP r b.xruns).2 = r' at *
  subst h1
  unfold sack_Board_join.f
  rw [hj', Option.bind_some]
  dsimp only
  have hf : ∀ x ∈ A ++ C, -65536 ≤ x.xfrom ∧ x.xfrom ≤ 65536 := fun x hx => by
    have g1 := hM x (hmem x hx)
    have g2 := hs.mem x (hmem x hx)
    omega
  have hl1 := search_at (A ++ C) r'.xfrom A.length (by simp) hf (by omega) (fun i hi hA => by
      rw [List.getElem_append_left hA]
      have g1 := h3 _ (List.getElem_mem hA)
      have g2 := h2.mem _ (List.getElem_mem hA)
      omega) (fun i hi hA => by
      rw [List.getElem_append_right hA]
      have g2 := h4.mem _ (List.getElem_mem (l := C) (n := i - A.length) (by simp at hi; omega))
      omega) (by omega) k 0 (A ++ C).length (by omega) (by simp) (Nat.le_refl _) (by omega)
  have hb : ∃ v, slices_BinarySearchFunc_int.f k (A ++ C) r'.xfrom = some ((A.length : Int), v) := by
    unfold slices_BinarySearchFunc_int.f
    have hl1' : slices_BinarySearchFunc_int.l1 k (A ++ C) r'.xfrom 0 ((A ++ C).length : Int) = some (A.length : Int) := hl1
    rw [hl1', Option.bind_some]
    by_cases hq : A.length < (A ++ C).length
    · rw [if_t (decide_eq_true (by omega)), bind_of (idx_at rfl hq)]
      exact ⟨_, rfl⟩
    · rw [if_f (decide_eq_false (by omega))]
      exact ⟨_, rfl⟩
  obtain ⟨v, hb⟩ := hb
  rw [hb, Option.bind_some]
  unfold slices_Insert_sack_run.f
  dsimp only
  rw [insM_at rfl (by simp) (by simp at hlen ⊢; omega), Option.bind_some]
  refine ⟨_, rfl, ?_, fun w => ?_⟩
  · rw [List.take_left' rfl, List.drop_left' rfl, List.append_assoc]
    exact Srt.app (f := r'.xfrom) (t := r'.xto) (by omega) h5 h4 h2 h3
  · rw [List.take_left' rfl, List.drop_left' rfl, ← h8 w]
    simp only [List.any_append, List.any_cons, List.any_nil, Bool.or_false]
    cases A.any (inRun w) <;> cases C.any (inRun w) <;> cases inRun w r' <;> rfl
theorem add_spec {M : Int} (hM : M ≤ 65536) {b : T_sack_Board} (hm : b.xmade = true) (hr : ∀ x ∈ b.xruns, RunOk M x) {lo : Int} (hs : Srt lo b.xruns) (hlo : 0 ≤ lo) (hl : b.xruns.length ≤ 1048575) {s e : Int} (h0 : lo ≤ s) (h1 : s < e) (h2 : e ≤ M) {x y : Int} (hx : I64 (U32 (x - b.xfirst)) = s) (hy : I64 (U32 (y - b.xfirst)) = e)
    {k : Nat} (hk : b.xruns.length + 3 < k) : ∃ v l, sack_Board_Add.f k b y [⟨x, y⟩] = some (v, ⟨b.xmade, b.xfirst, l⟩) ∧ (∀ x ∈ l, RunOk M x) ∧ l.length ≤ b.xruns.length + 1 ∧ 0 < l.length ∧ Srt lo l ∧ ∀ w, l.any (inRun w) = (b.xruns.any (inRun w) || inRun w ⟨s, e⟩) := by
  obtain ⟨k, rfl⟩ : ∃ m, k = m + 2 := ⟨k - 2, by omega⟩
  obtain ⟨l, j1, j2, j3, j4⟩ := join_ok (r := ⟨s, e⟩) hr hl ⟨by dsimp only; omega, h1, h2⟩ (k := k + 1) (by omega)
  obtain ⟨l', i1, i2, i3⟩ := join_spec (r := ⟨s, e⟩) hs hlo (fun x hx => by have := hr x hx; obtain ⟨_, _, _⟩ := this; omega) hl h1 h0 (by dsimp only; omega) (k := k + 1) (by omega)
  have hll : l' = l := by
    rw [j1] at i1
    simpa using i1.symm
  subst hll
  unfold sack_Board_Add.f sack_Board_ok.f
  rw [Option.bind_some, hm, if_f (by rfl), bind_of (bytes_ok hM hm hr (by omega) (by omega))]
  unfold sack_Board_ahead.f
  rw [Option.bind_some, hy]
  have e1 : sack_Board_Add.l1 (k + 2) [⟨x, y⟩] e 0 b = some ⟨b.xmade, b.xfirst, l'⟩ := by
    rw [sack_Board_Add.l1, if_t (by simp), bind_of (idx_zero _ _)]
    unfold sack_Board_ahead.f
    rw [Option.bind_some, Option.bind_some, hx, hy, if_t (by simpa using by omega), if_t (by simp), if_t (by simpa using h1), j1, Option.bind_some, sack_Board_Add.l1, if_f (by simp [I64_def])]
  rw [e1, Option.bind_some, bytes_ok (M := M) hM (by exact hm) j2 (by dsimp only; omega) (by dsimp only; omega)]
  rw [hm]
  exact ⟨_, _, rfl, j2, j3, j4, i2, i3⟩
/-- Runs that are moved on to the first one's end. -/
theorem adv_spec {t : Int} {l : List T_sack_run} (h : Srt (t + 1) l) (ht : 0 ≤ t) : ((⟨0, t⟩ :: l : List T_sack_run).filter (fun x => decide (x.xto > t))).map (advRun t) = l.map (fun x => ⟨x.xfrom - t, x.xto - t⟩) := by
  rw [List.filter_cons, if_neg (by simp)]
  rw [List.filter_eq_self.2 (fun x hx => by have := h.mem x hx; simpa using by omega)]
  refine List.map_congr_left fun x hx => ?_
  have := h.mem x hx
  simp only [advRun, T_sack_run.mk.injEq, and_true]
  omega
theorem Srt.shift (t : Int) : ∀ {lo : Int} {l : List T_sack_run}, Srt lo l → Srt (lo - t) (l.map (fun x => ⟨x.xfrom - t, x.xto - t⟩))
  | _, [], _ => trivial
  | lo, x :: l, ⟨a, b, c⟩ => ⟨by dsimp only; omega, by dsimp only; omega, by have := Srt.shift t c; dsimp only; rwa [show x.xto - t + 1 = x.xto + 1 - t by omega]⟩
theorem any_shift (t w : Int) (l : List T_sack_run) : (l.map (fun x => (⟨x.xfrom - t, x.xto - t⟩ : T_sack_run))).any (inRun w) = l.any (inRun (w + t)) := by
  rw [List.any_map]
  congr 1
  funext x
  rw [Bool.eq_iff_iff]
  simp only [Function.comp, inRun_iff]
  omega
theorem Srt.low {lo : Int} {l : List T_sack_run} (h : Srt lo l) {w : Int} (hw : w < lo) : l.any (inRun w) = false := by
  rw [List.any_eq_false]
  intro x hx
  have := h.mem x hx
  rw [inRun_iff]; omega
end Go.V
