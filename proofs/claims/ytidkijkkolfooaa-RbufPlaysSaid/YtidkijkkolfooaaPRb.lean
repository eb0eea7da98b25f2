/- Buffers: what their functions answer. -/
import Derived.Test.YtidkijkkolfooaaPy
import Derived.Test.YtidkijkkolfooaaVp
namespace Go.V
open Go

theorem bnext {b : T_rbuf_Buffer_o} (hm : b.xBoard.xmade = true) : rbuf_Buffer_Next.f b = some b.xBoard.xfirst := by
  simp [rbuf_Buffer_Next.f, rbuf_Buffer_ok.f, sack_Board_First.f, sack_Board_ok.f, hm]
theorem bwindow {b : T_rbuf_Buffer_o} : rbuf_Buffer_Window.f b = some (I64 ((b.xbytes.length : Int) - b.xn)) := by simp [rbuf_Buffer_Window.f, rbuf_Buffer_ok.f]
theorem blen {b : T_rbuf_Buffer_o} : rbuf_Buffer_Len.f b = some b.xn := by simp [rbuf_Buffer_Len.f, rbuf_Buffer_ok.f]

def inRun (a : Int) (x : T_sack_run) : Bool := decide (x.xfrom ≤ a) && decide (a < x.xto)
theorem has1 (x : T_sack_run) (a : Int) : sack_Board_Has_1.f x a = some (inRun a x) := by
  unfold sack_Board_Has_1.f inRun
  by_cases h : x.xfrom ≤ a <;> simp [h]
theorem indexFunc_l1 (a0 : List T_sack_run) (a1 : Int) (hl : a0.length ≤ 4294967296) : ∀ (d j : Nat), j + d = a0.length → ∀ k, d < k →
    ∃ r, slices_IndexFunc_sack_run.l1 k a0 a1 j = some r ∧ ((∃ i, r = .inl i ∧ 0 ≤ i ∧ (a0.drop j).any (inRun a1) = true) ∨ (r = .inr () ∧ (a0.drop j).any (inRun a1) = false)) := by
  intro d
  induction d with
  | zero =>
    intro j hj k hk
    obtain ⟨k, rfl⟩ : ∃ m, k = m + 1 := ⟨k - 1, by omega⟩
    rw [slices_IndexFunc_sack_run.l1, if_f (by simpa using by omega)]
    refine ⟨_, rfl, .inr ⟨rfl, ?_⟩⟩
    rw [List.drop_of_length_le (by omega)]; rfl
  | succ d ih =>
    intro j hj k hk
    obtain ⟨k, rfl⟩ : ∃ m, k = m + 1 := ⟨k - 1, by omega⟩
    have hlt : j < a0.length := by omega
    rw [slices_IndexFunc_sack_run.l1, if_t (by simpa using by omega), bind_of (idx_at rfl hlt), bind_of (has1 _ _), List.drop_eq_getElem_cons hlt, List.any_cons]
    cases hb : inRun a1 a0[j] with
    | true => exact ⟨_, rfl, .inl ⟨_, rfl, by omega, rfl⟩⟩
    | false =>
      rw [if_f rfl, I64_succ (by omega)]
      simpa using ih (j + 1) (by omega) k (by omega)
theorem has_ok {b : T_sack_Board} (hm : b.xmade = true) (hl : b.xruns.length ≤ 4294967296) (a : Int) {k : Nat} (hk : b.xruns.length < k) :
    sack_Board_Has.f k b a = some (b.xruns.any (inRun (I64 (U32 (a - b.xfirst))))) := by
  obtain ⟨r, h1, h2⟩ := indexFunc_l1 b.xruns (I64 (U32 (a - b.xfirst))) hl b.xruns.length 0 (by omega) k hk
  have h1' : slices_IndexFunc_sack_run.l1 k b.xruns (I64 (U32 (a - b.xfirst))) 0 = some r := h1
  simp only [sack_Board_Has.f, sack_Board_ok.f, hm, sack_Board_ahead.f, slices_ContainsFunc_sack_run.f, slices_IndexFunc_sack_run.f, Option.bind_some, h1']
  rcases h2 with ⟨i, rfl, h0, h3⟩ | ⟨rfl, h3⟩
  · rw [List.drop_zero] at h3
    simp [brk, h3, h0]
  · rw [List.drop_zero] at h3
    rw [h3]
    simp [brk]

theorem place_ok {b : T_rbuf_Buffer_o} (hm : b.xBoard.xmade = true) (h1 : 1 ≤ b.xbytes.length) (h2 : b.xbytes.length ≤ 8192) (h3 : 0 ≤ b.xbegin) (h4 : b.xbegin < b.xbytes.length) (h5 : 0 ≤ b.xn) (h6 : b.xn ≤ 8192) (a : Int) :
    ∃ (i : Nat) (x : Int), rbuf_Buffer_place.f b a = some ((i : Int), x) ∧ b.xbytes[i]? = some x ∧ (i : Int) = (b.xbegin + (a - (b.xBoard.xfirst - b.xn)) % 4294967296) % b.xbytes.length := by
  have e : I64 (b.xbegin + I64 (U32 (a - U32 (b.xBoard.xfirst - U32 b.xn)))) = b.xbegin + (a - (b.xBoard.xfirst - b.xn)) % 4294967296 := by
    rw [U32_id (x := b.xn) h5 (by omega), U32_def, U32_def, I64_id (x := (a - (b.xBoard.xfirst - b.xn) % 4294967296) % 4294967296) (by omega) (by omega), I64_id (by omega) (by omega)]
    omega
  have hp : 0 ≤ b.xbegin + (a - (b.xBoard.xfirst - b.xn)) % 4294967296 := by omega
  unfold rbuf_Buffer_place.f
  rw [bind_of (bnext hm), e, bind_of (divr_at (by omega) hp)]
  have g0 := Int.emod_nonneg (b.xbegin + (a - (b.xBoard.xfirst - b.xn)) % 4294967296) (b := b.xbytes.length) (by omega)
  have g1 := Int.emod_lt_of_pos (b.xbegin + (a - (b.xBoard.xfirst - b.xn)) % 4294967296) (b := b.xbytes.length) (by omega)
  generalize (b.xbegin + (a - (b.xBoard.xfirst - b.xn)) % 4294967296) % (b.xbytes.length : Int) = z at g0 g1 ⊢
  have hz : z.toNat < b.xbytes.length := by omega
  rw [bind_of (idx_at (n := z.toNat) (by omega) hz)]
  exact ⟨z.toNat, b.xbytes[z.toNat], by rw [Int.toNat_of_nonneg g0], List.getElem?_eq_getElem hz, by omega⟩

/-! ### Runs -/
def RunOk (M : Int) (x : T_sack_run) : Prop := 0 ≤ x.xfrom ∧ x.xfrom < x.xto ∧ x.xto ≤ M
def runSum (l : List T_sack_run) : Int := (l.map fun x => x.xto - x.xfrom).sum
theorem bytes_l1 {M : Int} (hM : M ≤ 65536) (b : T_sack_Board) (hr : ∀ x ∈ b.xruns, RunOk M x) (hl : b.xruns.length ≤ 1048576) : ∀ (d j : Nat), j + d = b.xruns.length → ∀ k, d < k → ∀ s : Int, 0 ≤ s → s ≤ (j : Int) * 65536 →
    sack_Board_Bytes.l1 k b s j = some (s + runSum (b.xruns.drop j)) := by
  intro d
  induction d with
  | zero =>
    intro j hj k hk s h0 h1
    obtain ⟨k, rfl⟩ : ∃ m, k = m + 1 := ⟨k - 1, by omega⟩
    rw [sack_Board_Bytes.l1, if_f (by simpa using by omega), List.drop_of_length_le (by omega)]
    simp [runSum]
  | succ d ih =>
    intro j hj k hk s h0 h1
    obtain ⟨k, rfl⟩ : ∃ m, k = m + 1 := ⟨k - 1, by omega⟩
    have hlt : j < b.xruns.length := by omega
    obtain ⟨q1, q2, q3⟩ := hr _ (List.getElem_mem hlt)
    rw [sack_Board_Bytes.l1, if_t (by simpa using by omega), bind_of (idx_at rfl hlt), I64_succ (by omega), I64_id (x := _ - _) (by omega) (by omega), I64_id (by omega) (by omega),
      ih (j + 1) (by omega) k (by omega) _ (by omega) (by omega), List.drop_eq_getElem_cons hlt]
    simp only [runSum, List.map_cons, List.sum_cons]
    congr 1; omega
theorem bytes_ok {M : Int} (hM : M ≤ 65536) {b : T_sack_Board} (hm : b.xmade = true) (hr : ∀ x ∈ b.xruns, RunOk M x) (hl : b.xruns.length ≤ 1048576) {k : Nat} (hk : b.xruns.length < k) : sack_Board_Bytes.f k b = some (runSum b.xruns) := by
  have := bytes_l1 hM b hr hl b.xruns.length 0 (by omega) k hk 0 (by omega) (by omega)
  have h1 : sack_Board_Bytes.l1 k b 0 0 = some (runSum b.xruns) := by
    have e : ((0 : Nat) : Int) = 0 := rfl
    rw [e] at this
    rw [this]; simp
  simp [sack_Board_Bytes.f, sack_Board_ok.f, hm, h1]

theorem join_l1 {M : Int} (b : T_sack_Board) (hr : ∀ x ∈ b.xruns, RunOk M x) (hl : b.xruns.length ≤ 1048576) : ∀ (d j : Nat), j + d = b.xruns.length → ∀ k, d < k → ∀ (r : T_sack_run) (acc : List T_sack_run), RunOk M r → (∀ x ∈ acc, RunOk M x) → acc.length ≤ j →
    ∃ acc' r', sack_Board_join.l1 k b j r acc = some (acc', r') ∧ RunOk M r' ∧ (∀ x ∈ acc', RunOk M x) ∧ acc'.length ≤ b.xruns.length := by
  intro d
  induction d with
  | zero =>
    intro j hj k hk r acc h0 h1 h2
    obtain ⟨k, rfl⟩ : ∃ m, k = m + 1 := ⟨k - 1, by omega⟩
    rw [sack_Board_join.l1, if_f (by simpa using by omega)]
    exact ⟨_, _, rfl, h0, h1, by omega⟩
  | succ d ih =>
    intro j hj k hk r acc h0 h1 h2
    obtain ⟨k, rfl⟩ : ∃ m, k = m + 1 := ⟨k - 1, by omega⟩
    have hlt : j < b.xruns.length := by omega
    have hx := hr _ (List.getElem_mem hlt)
    have happ : app acc [b.xruns[j]] = some (acc ++ [b.xruns[j]]) := app_at (by simp; omega)
    have hok : ∀ x ∈ acc ++ [b.xruns[j]], RunOk M x := fun x hx' => by
      rcases List.mem_append.1 hx' with h | h
      · exact h1 x h
      · rw [List.mem_singleton.1 h]; exact hx
    rw [sack_Board_join.l1, if_t (by simpa using by omega), bind_of (idx_at rfl hlt), I64_succ (by omega)]
    by_cases c1 : b.xruns[j].xto < r.xfrom
    · rw [if_t (by simpa using c1), bind_of happ]
      exact ih (j + 1) (by omega) k (by omega) _ _ h0 hok (by simp; omega)
    · rw [if_f (by simpa using by omega)]
      by_cases c2 : b.xruns[j].xfrom > r.xto
      · rw [if_t (by simpa using c2), bind_of happ]
        exact ih (j + 1) (by omega) k (by omega) _ _ h0 hok (by simp; omega)
      · rw [if_f (by simpa using by omega)]
        refine ih (j + 1) (by omega) k (by omega) _ _ ?_ h1 (by omega)
        obtain ⟨a1, a2, a3⟩ := h0
        obtain ⟨b1, b2, b3⟩ := hx
        refine ⟨?_, ?_, ?_⟩ <;> simp only [imin_eq, imax_eq] <;> omega
theorem search_l1 (xs : List T_sack_run) (a : Int) (hl : xs.length ≤ 1048576) : ∀ (k i j : Nat), i ≤ j → j ≤ xs.length → j - i < k → ∃ q : Nat, slices_BinarySearchFunc_int.l1 k xs a i j = some (q : Int) ∧ q ≤ xs.length := by
  intro k
  induction k with
  | zero => intro i j _ _ h; omega
  | succ k ih =>
    intro i j h1 h2 h3
    rw [slices_BinarySearchFunc_int.l1]
    by_cases hij : i < j
    · have e : I64 (bshr .u64 (U64 (I64 ((i : Int) + (j : Int)))) 1) = (((i + j) / 2 : Nat) : Int) := by
        rw [I64_id (x := (i : Int) + j) (by omega) (by omega), U64_id (by omega) (by omega), bshr_one _ _ (by decide), I64_id (by omega) (by omega)]
        omega
      have hm : (i + j) / 2 < xs.length := by omega
      rw [if_t (by simpa using hij), e, bind_of (idx_at rfl hm)]
      unfold sack_Board_join_1.f
      rw [Option.bind_some]
      split
      · rw [I64_succ (by omega)]
        exact ih _ _ (by omega) h2 (by omega)
      · exact ih _ _ (by omega) (by omega) (by omega)
    · rw [if_f (by simpa using by omega)]
      exact ⟨i, rfl, by omega⟩
theorem search_ok (xs : List T_sack_run) (a : Int) (hl : xs.length ≤ 1048576) {k : Nat} (hk : xs.length < k) : ∃ (q : Nat) (v : Bool), slices_BinarySearchFunc_int.f k xs a = some ((q : Int), v) ∧ q ≤ xs.length := by
  obtain ⟨q, h1, h2⟩ := search_l1 xs a hl k 0 xs.length (by omega) (by omega) (by omega)
  unfold slices_BinarySearchFunc_int.f
  have h1' : slices_BinarySearchFunc_int.l1 k xs a 0 (xs.length : Int) = some (q : Int) := h1
  rw [h1', Option.bind_some]
  by_cases hq : q < xs.length
  · rw [if_t (by simpa using hq), bind_of (idx_at rfl hq)]
    exact ⟨q, _, rfl, h2⟩
  · rw [if_f (by simpa using by omega)]
    exact ⟨q, _, rfl, h2⟩
theorem join_ok {M : Int} {b : T_sack_Board} (hr : ∀ x ∈ b.xruns, RunOk M x) (hl : b.xruns.length ≤ 1048575) {r : T_sack_run} (h0 : RunOk M r) {k : Nat} (hk : b.xruns.length < k) :
    ∃ l, sack_Board_join.f k b r = some ⟨b.xmade, b.xfirst, l⟩ ∧ (∀ x ∈ l, RunOk M x) ∧ l.length ≤ b.xruns.length + 1 ∧ 0 < l.length := by
  obtain ⟨acc, r', h1, h2, h3, h4⟩ := join_l1 b hr (by omega) b.xruns.length 0 (by omega) k hk r [] h0 (fun x hx => by cases hx) (by simp)
  obtain ⟨q, v, h5, h6⟩ := search_ok acc r'.xfrom (by omega) (k := k) (by omega)
  unfold sack_Board_join.f
  have h1' : sack_Board_join.l1 k b 0 r [] = some (acc, r') := h1
  rw [h1', Option.bind_some]
  dsimp only
  rw [h5, Option.bind_some]
  unfold slices_Insert_sack_run.f
  rw [insM_at rfl h6 (by simp; omega), Option.bind_some]
  refine ⟨_, rfl, fun x hx => ?_, ?_, ?_⟩
  · simp only [List.mem_append, List.mem_singleton] at hx
    rcases hx with (h | h) | h
    · exact h3 x (List.mem_of_mem_take h)
    · rw [h]; exact h2
    · exact h3 x (List.mem_of_mem_drop h)
  · simp; omega
  · simp; omega

theorem add_ok {M : Int} (hM : M ≤ 65536) {b : T_sack_Board} (hm : b.xmade = true) (hr : ∀ x ∈ b.xruns, RunOk M x) (hl : b.xruns.length ≤ 1048575) {s e : Int} (h0 : 0 ≤ s) (h1 : s < e) (h2 : e ≤ M) {x y : Int} (hx : I64 (U32 (x - b.xfirst)) = s) (hy : I64 (U32 (y - b.xfirst)) = e)
    {k : Nat} (hk : b.xruns.length + 2 < k) : ∃ v l, sack_Board_Add.f k b y [⟨x, y⟩] = some (v, ⟨b.xmade, b.xfirst, l⟩) ∧ (∀ x ∈ l, RunOk M x) ∧ l.length ≤ b.xruns.length + 1 ∧ 0 < l.length := by
  obtain ⟨k, rfl⟩ : ∃ m, k = m + 2 := ⟨k - 2, by omega⟩
  obtain ⟨l, j1, j2, j3, j4⟩ := join_ok (r := ⟨s, e⟩) hr hl ⟨h0, h1, h2⟩ (k := k + 1) (by omega)
  unfold sack_Board_Add.f sack_Board_ok.f
  rw [Option.bind_some, hm, if_f (by rfl), bind_of (bytes_ok hM hm hr (by omega) (by omega))]
  unfold sack_Board_ahead.f
  rw [Option.bind_some, hy]
  have e1 : sack_Board_Add.l1 (k + 2) [⟨x, y⟩] e 0 b = some ⟨b.xmade, b.xfirst, l⟩ := by
    rw [sack_Board_Add.l1, if_t (by simp), bind_of (idx_zero _ _)]
    unfold sack_Board_ahead.f
    rw [Option.bind_some, Option.bind_some, hx, hy, if_t (by simpa using by omega), if_t (by simp), if_t (by simpa using h1), j1, Option.bind_some, sack_Board_Add.l1, if_f (by simp [I64_def])]
  rw [e1, Option.bind_some, bytes_ok (M := M) hM (by exact hm) j2 (by dsimp only; omega) (by dsimp only; omega)]
  rw [hm]
  exact ⟨_, _, rfl, j2, j3, j4⟩
def blkOf (f : Int) (x : T_sack_run) : T_api_Block := ⟨U32 (f + U32 x.xfrom), U32 (f + U32 x.xto)⟩
theorem blocks_l1 (b : T_sack_Board) (hl : b.xruns.length ≤ 1048576) : ∀ (d j : Nat), j + d = b.xruns.length → ∀ k, d < k → ∀ acc : List T_api_Block, acc.length ≤ j → sack_Board_Blocks.l1 k b j acc = some (acc ++ (b.xruns.drop j).map (blkOf b.xfirst)) := by
  intro d
  induction d with
  | zero =>
    intro j hj k hk acc h0
    obtain ⟨k, rfl⟩ : ∃ m, k = m + 1 := ⟨k - 1, by omega⟩
    rw [sack_Board_Blocks.l1, if_f (by simpa using by omega), List.drop_of_length_le (by omega)]
    simp
  | succ d ih =>
    intro j hj k hk acc h0
    obtain ⟨k, rfl⟩ : ∃ m, k = m + 1 := ⟨k - 1, by omega⟩
    have hlt : j < b.xruns.length := by omega
    rw [sack_Board_Blocks.l1, if_t (by simpa using by omega), bind_of (idx_at rfl hlt), bind_of (app_at (by simp; omega)), I64_succ (by omega), ih (j + 1) (by omega) k (by omega) _ (by simp; omega), List.drop_eq_getElem_cons hlt, List.map_cons]
    simp [blkOf]
theorem blocks_ok {b : T_sack_Board} (hm : b.xmade = true) (hl : b.xruns.length ≤ 1048576) {k : Nat} (hk : b.xruns.length < k) : sack_Board_Blocks.f k b = some (b.xruns.map (blkOf b.xfirst)) := by
  have := blocks_l1 b hl b.xruns.length 0 (by omega) k hk [] (by simp)
  have h1 : sack_Board_Blocks.l1 k b 0 [] = some (b.xruns.map (blkOf b.xfirst)) := by simpa using this
  simp [sack_Board_Blocks.f, sack_Board_ok.f, hm, h1]
def advRun (d : Int) (x : T_sack_run) : T_sack_run := ⟨max (x.xfrom - d) 0, x.xto - d⟩
theorem advance_l1 {M : Int} (hM : M ≤ 65536) (b : T_sack_Board) (hr : ∀ x ∈ b.xruns, RunOk M x) (hl : b.xruns.length ≤ 1048576) {t : Int} (ht0 : 0 ≤ t) (ht1 : t ≤ 65536) : ∀ (d j : Nat), j + d = b.xruns.length → ∀ k, d < k → ∀ acc : List T_sack_run, acc.length ≤ j →
    sack_Board_Advance.l1 k b t j acc = some (acc ++ ((b.xruns.drop j).filter (fun x => decide (x.xto > t))).map (advRun t)) := by
  intro d
  induction d with
  | zero =>
    intro j hj k hk acc h0
    obtain ⟨k, rfl⟩ : ∃ m, k = m + 1 := ⟨k - 1, by omega⟩
    rw [sack_Board_Advance.l1, if_f (by simpa using by omega), List.drop_of_length_le (by omega)]
    simp
  | succ d ih =>
    intro j hj k hk acc h0
    obtain ⟨k, rfl⟩ : ∃ m, k = m + 1 := ⟨k - 1, by omega⟩
    have hlt : j < b.xruns.length := by omega
    obtain ⟨q1, q2, q3⟩ := hr _ (List.getElem_mem hlt)
    rw [sack_Board_Advance.l1, if_t (by simpa using by omega), bind_of (idx_at rfl hlt), I64_succ (by omega), List.drop_eq_getElem_cons hlt, List.filter_cons]
    by_cases c : b.xruns[j].xto > t
    · rw [if_t (by simpa using c), bind_of (app_at (by simp; omega)), ih (j + 1) (by omega) k (by omega) _ (by simp; omega), if_t (by simpa using c), List.map_cons]
      simp only [advRun, imax_eq]
      rw [I64_id (x := _ - _) (by omega) (by omega), I64_id (x := _ - _) (by omega) (by omega)]
      simp
    · rw [if_f (by simpa using by omega), ih (j + 1) (by omega) k (by omega) _ (by omega), if_f (by simpa using by omega)]
theorem advance_ok {M : Int} (hM : M ≤ 65536) {b : T_sack_Board} (hm : b.xmade = true) (hr : ∀ x ∈ b.xruns, RunOk M x) (hl : b.xruns.length ≤ 1048576) {t a : Int} (ht0 : 1 ≤ t) (ht1 : t ≤ 65536) (ha : I64 (U32 (a - b.xfirst)) = t) {k : Nat} (hk : b.xruns.length < k) :
    sack_Board_Advance.f k b a = some (true, ⟨b.xmade, a, (b.xruns.filter (fun x => decide (x.xto > t))).map (advRun t)⟩) := by
  have := advance_l1 hM b hr hl (t := t) (by omega) ht1 b.xruns.length 0 (by omega) k hk [] (by simp)
  have h1 : sack_Board_Advance.l1 k b t 0 [] = some ((b.xruns.filter (fun x => decide (x.xto > t))).map (advRun t)) := by simpa using this
  unfold sack_Board_Advance.f sack_Board_ok.f
  rw [Option.bind_some, hm, if_f (by rfl)]
  unfold sack_Board_ahead.f
  rw [Option.bind_some, ha, if_f (by simpa using by omega), if_f (by simpa using by omega), h1]
  rfl
theorem adv_run {M t : Int} {l : List T_sack_run} (hr : ∀ x ∈ l, RunOk M x) (ht : 0 ≤ t) : ∀ x ∈ (l.filter (fun x => decide (x.xto > t))).map (advRun t), RunOk (M - t) x := by
  intro x hx
  obtain ⟨y, hy, rfl⟩ := List.mem_map.1 hx
  have h1 := List.mem_filter.1 hy
  obtain ⟨a1, a2, a3⟩ := hr y h1.1
  have h2 := of_decide_eq_true h1.2
  unfold advRun RunOk
  dsimp only
  omega
end Go.V
