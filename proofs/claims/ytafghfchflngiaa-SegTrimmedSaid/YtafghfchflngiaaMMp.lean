/- What is trimmed lies in the window, and is a part of what it was: the plain law. -/
import Derived.Test.YtafghfchflngiaaMMc
namespace Go.V
open Go
theorem alive_ok (m : Nat) : w_alive.f (m + 60) = some true := by kernel_rfl
theorem tmod_neg {x : Int} (h0 : -4294967296 < x) (h1 : x < 0) : Int.tmod x 4294967296 = x := by
  rw [show x = -(-x) by omega, Int.neg_tmod, tmod_pos (by omega)]
  omega
theorem ahead_ok {a b : Int} (ha : 0 ≤ a ∧ a ≤ 4294967295) (hb : 0 ≤ b ∧ b ≤ 4294967295) : r_ahead.f a b = some ((b - a) % 4294967296) := by
  unfold r_ahead.f
  rw [I64_id (x := a) (by omega) (by omega), I64_id (x := b) (by omega) (by omega), I64_id (x := b - a) (by omega) (by omega)]
  by_cases c : 0 ≤ b - a
  · rw [tmod_pos c, if_f (decide_eq_false (by omega))]
  · rw [tmod_neg (by omega) (by omega), if_t (decide_eq_true (by omega)), I64_id (by omega) (by omega)]
    congr 1; omega
theorem diff_ok {a b : Int} (ha : 0 ≤ a ∧ a ≤ 4294967295) (hb : 0 ≤ b ∧ b ≤ 4294967295) : ∃ d, r_Diff.f a b = some d ∧ -2147483648 ≤ d ∧ d < 2147483648 ∧ (d = (b - a) % 4294967296 ∨ d = (b - a) % 4294967296 - 4294967296) := by
  unfold r_Diff.f
  rw [ahead_ok ha hb, Option.bind_some]
  by_cases c : (b - a) % 4294967296 ≥ 2147483648
  · rw [if_t (decide_eq_true c), I64_id (by omega) (by omega), I32_def]
    exact ⟨_, rfl, by omega, by omega, .inr (by omega)⟩
  · rw [if_f (decide_eq_false c), I32_def]
    exact ⟨_, rfl, by omega, by omega, .inl (by omega)⟩
theorem in_ok {n b z : Int} (hn : 0 ≤ n ∧ n ≤ 4294967295) (hb : 0 ≤ b ∧ b ≤ 4294967295) (hz : 0 ≤ z ∧ z ≤ 4294967295) (h : (n - b) % 4294967296 < z) : r_In.f n b z = some true := by
  unfold r_In.f
  rw [ahead_ok hb hn, Option.bind_some, I64_id (by omega) (by omega), decide_eq_true h]
theorem far_any (s : TS) : ∃ v, w_far.f s = some v := by
  unfold w_far.f
  repeat' split
  all_goals exact ⟨_, rfl⟩
theorem sacks_same (xs : List TB) (hl : xs.length ≤ 9223372036854775807) : ∀ (k p : Nat), p ≤ xs.length → xs.length < p + k → sEq.l1 k xs xs (p : Int) = some (.inr ()) := by
  intro k
  induction k with
  | zero => intro p h1 h2; omega
  | succ k ih =>
    intro p h1 h2
    rw [sEq.l1]
    by_cases c : p < xs.length
    · rw [if_t (decide_eq_true (by omega)), bind_of (idx_at rfl c), bind_of (idx_at rfl c), if_f (by simp), I64_succ (by omega)]
      exact ih (p + 1) (by omega) (by omega)
    · rw [if_f (decide_eq_false (by omega))]
theorem equal_same (xs : List TB) (k : Nat) (hl : xs.length ≤ 9223372036854775807) (hk : xs.length < k) : sEq.f k xs xs = some true := by
  unfold sEq.f
  rw [if_f (by simp), show (0 : Int) = ((0 : Nat) : Int) from rfl, bind_of (sacks_same xs hl k 0 (by omega) (by omega))]
  rfl
theorem same_self (x : TS) (k : Nat) (hl : x.o.sk.length ≤ 9223372036854775807) (hk : x.o.sk.length < k) : seg_Same_2.f k x x = some true := by
  unfold seg_Same_2.f opts_Same_2.f bytes_Equal.f
  rw [equal_same _ k hl hk]
  simp
theorem found_true (s t : TS) : ∀ (k : Nat) (p : Int), w_SegTrimmed.l1 (k + 1) s t true p = some true := by
  intro k p
  rw [w_SegTrimmed.l1]
  split
  · rw [if_f (by rfl)]
  · rfl
theorem find_ok (s t : TS) (i : Nat) (hi : i + t.da.length ≤ s.da.length) (he : (s.da.take (i + t.da.length)).drop i = t.da) (hl : s.da.length ≤ 100000) :
    ∀ (k p : Nat) (f : Bool), p ≤ i → i < p + k → w_SegTrimmed.l1 (k + 1) s t f (p : Int) = some true := by
  intro k
  induction k with
  | zero => intro p f h1 h2; omega
  | succ k ih =>
    intro p f h1 h2
    cases f with
    | true => exact found_true s t (k + 1) p
    | false =>
      rw [w_SegTrimmed.l1]
      have e1 : I64 ((p : Int) + (t.da.length : Int)) = ((p + t.da.length : Nat) : Int) := by rw [I64_id (by omega) (by omega)]; rfl
      rw [e1, if_t (decide_eq_true (by omega)), if_t (by rfl), bind_of (cut_at (n := p) (m := p + t.da.length) rfl rfl (by omega) (by omega)), I64_succ (by omega)]
      by_cases c : p = i
      · subst c
        rw [he, beq_self_eq_true]
        exact found_true s t k _
      · exact ih (p + 1) _ (by omega) (by omega)
theorem found_true2 (s t : TS) : ∀ (k : Nat) (p : Int), w_SegTrimmed.l2 (k + 1) s t true p = some true := by
  intro k p
  rw [w_SegTrimmed.l2]
  split
  · rw [if_f (by rfl)]
  · rfl
theorem find_ok2 (s t : TS) (i : Nat) (hi : i + t.da.length ≤ s.da.length) (he : (s.da.take (i + t.da.length)).drop i = t.da) (hl : s.da.length ≤ 100000) :
    ∀ (k p : Nat) (f : Bool), p ≤ i → i < p + k → w_SegTrimmed.l2 (k + 1) s t f (p : Int) = some true := by
  intro k
  induction k with
  | zero => intro p f h1 h2; omega
  | succ k ih =>
    intro p f h1 h2
    cases f with
    | true => exact found_true2 s t (k + 1) p
    | false =>
      rw [w_SegTrimmed.l2]
      have e1 : I64 ((p : Int) + (t.da.length : Int)) = ((p + t.da.length : Nat) : Int) := by rw [I64_id (by omega) (by omega)]; rfl
      rw [e1, if_t (decide_eq_true (by omega)), if_t (by rfl), bind_of (cut_at (n := p) (m := p + t.da.length) rfl rfl (by omega) (by omega)), I64_succ (by omega)]
      by_cases c : p = i
      · subst c
        rw [he, beq_self_eq_true]
        exact found_true2 s t k _
      · exact ih (p + 1) _ (by omega) (by omega)
theorem pureSegTrimmed : PureSegTrimmed := by
  intro a0 a1 a2 w0 w1 w2
  obtain ⟨_, _, wS, _, wF, _, _, ⟨_, _, ⟨wK, _⟩, _⟩, _⟩ := w0
  have hS := wfI_u32 wS
  have hF := wfI_u8 wF
  have h1 := wfI_u32 w1
  have h2 := wfI_u32 w2
  have hK : a0.o.sk.length ≤ 9223372036854775807 := Nat.le_trans wK (by decide)
  refine ⟨a0.o.sk.length + a0.da.length + 40 + 60, ?_⟩
  have ha := alive_ok (a0.o.sk.length + a0.da.length + 40)
  generalize hk : a0.o.sk.length + a0.da.length + 40 + 60 = K at ha
  obtain ⟨d, hd, d0, d1, dd⟩ := diff_ok h1 hS
  obtain ⟨v, hv⟩ := far_any a0
  unfold w_SegTrimmed.f
  rw [hd, Option.bind_some, hv, Option.bind_some]
  cases v with
  | true => rw [if_t rfl, ha]; rfl
  | false =>
  rw [if_f rfl]
  by_cases c1 : (a0.da.length : Int) > 1500
  · rw [if_t (decide_eq_true c1), ha]; rfl
  rw [if_f (decide_eq_false c1)]
  by_cases c2 : d > 1073741824
  · rw [if_t (decide_eq_true c2), ha]; rfl
  rw [if_f (decide_eq_false c2)]
  by_cases c3 : d < (-1073741824)
  · rw [if_t (decide_eq_true c3), ha]; rfl
  rw [if_f (decide_eq_false c3)]
  by_cases c4 : a2 > 1073741824
  · rw [if_t (decide_eq_true c4), ha]; rfl
  rw [if_f (decide_eq_false c4)]
  have hA : I32 (U32 (a1 - a0.sq)) = -d := by rw [U32_def, I32_def]; omega
  obtain ⟨X, i, j, e, hij, sX, q1, q2, _⟩ := trim_ok a0 a1 a2 (-d) hF.1 hF.2 (by omega) (by omega) (by omega) hA
  obtain ⟨x0, x1, xz⟩ := sub_ok hF.1 hF.2 sX
  have fX := flags_ok x0 x1
  have f01 := fX.fin01
  have s01 := fX.syn01
  obtain ⟨q, hq⟩ : ∃ q, (if 0 < -d then a1 else a0.sq) = q := ⟨_, rfl⟩
  rw [hq] at e
  have hqr : 0 ≤ q ∧ q ≤ 4294967295 ∧ (q - a1) % 4294967296 = max d 0 ∧ I32 (U32 (a1 - q)) = min (-d) 0 := by
    rw [U32_def, I32_def]
    split at hq <;> subst hq <;> omega
  rw [e, Option.bind_some]
  have hdl : ((a0.da.drop i).take j).length = j := by rw [List.length_take, List.length_drop]; omega
  have hdt : (a0.da.take (i + j)).drop i = (a0.da.drop i).take j := by rw [List.drop_take]; congr 1; omega
  obtain ⟨t, htd⟩ : ∃ t : TS, ({ a0 with sq := q, fl := X, da := (a0.da.drop i).take j } : TS) = t := ⟨_, rfl⟩
  have t1 : t.fl = X := by rw [← htd]
  have t2 : t.sq = q := by rw [← htd]
  have t3 : t.da = (a0.da.drop i).take j := by rw [← htd]
  have t4 : t.da.length = j := by rw [t3, hdl]
  have t5 : t.o = a0.o := by rw [← htd]
  rw [htd]
  have hlen := len_eq t (by rw [t1]; exact fX) (by omega)
  rw [t1, t4] at hlen
  rw [hlen, Option.bind_some, len_eq a0 (flags_ok hF.1 hF.2) (by omega)]
  have hfind1 : w_SegTrimmed.l1 (K - 1 + 1) a0 t ((t.da.length : Int) == 0) 0 = some true := find_ok a0 t i (by omega) (by rw [t4, hdt, t3]) (by omega) (K - 1) 0 ((t.da.length : Int) == 0) (by omega) (by omega)
  have hfind2 : w_SegTrimmed.l2 (K - 1 + 1) a0 t ((t.da.length : Int) == 0) 0 = some true := find_ok2 a0 t i (by omega) (by rw [t4, hdt, t3]) (by omega) (K - 1) 0 ((t.da.length : Int) == 0) (by omega) (by omega)
  rw [show K - 1 + 1 = K by omega] at hfind1 hfind2
  have hagain : seg_Trim.f t a1 a2 = some t := by
    obtain ⟨X', i', j', e', _, _, _, _, q3⟩ := trim_ok t a1 a2 (min (-d) 0) (by rw [t1]; exact x0) (by rw [t1]; exact x1) (by omega) (by omega) (by omega) (by rw [t2]; exact hqr.2.2.2)
    obtain ⟨r1, r2, r3⟩ := q3 (by omega) (by rw [t1, t4]; omega)
    rw [e', r1, r2, r3, if_neg (by omega), List.drop_zero, List.take_length]
  have hsame := same_self t K (by rw [t5]; exact hK) (by rw [t5]; omega)
  have hfl : (bandn .u8 t.fl a0.fl == 0) = true := by rw [t1, xz]; rfl
  by_cases c5 : (j : Int) + finW X + synW X > 0
  · rw [if_t (decide_eq_true c5), t2, bind_of (in_ok ⟨hqr.1, hqr.2.1⟩ h1 h2 (by omega)), if_f (by rfl)]
    have hu : U32 (U32 (q + ((j : Int) + finW X + synW X)) - 1) = (q + ((j : Int) + finW X + synW X) - 1) % 4294967296 := by rw [U32_def, U32_def]; omega
    rw [hu, bind_of (in_ok (by omega) h1 h2 (by omega)), if_f (by rfl), Option.bind_some, if_f (decide_eq_false (by omega)), hfind1, Option.bind_some, if_t rfl, hagain, Option.bind_some, hsame, Option.bind_some, if_t rfl, if_t hfl, ha]
    rfl
  · rw [if_f (decide_eq_false c5), Option.bind_some, if_f (decide_eq_false (by omega)), hfind2, Option.bind_some, if_t rfl, hagain, Option.bind_some, hsame, Option.bind_some, if_t rfl, if_t hfl, ha]
    rfl
end Go.V
