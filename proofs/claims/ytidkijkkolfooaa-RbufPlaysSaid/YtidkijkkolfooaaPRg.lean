/- Buffers: the blocks that are told. -/
import Derived.Test.YtidkijkkolfooaaPRf
namespace Go.V
open Go

theorem reverse_l1 (l : List T_api_Block) (hl : l.length ≤ 1048576) : ∀ (d i : Nat) (p : List T_api_Block), p.length = l.length → (∀ x, x < l.length → p[x]? = if x < i ∨ l.length - i ≤ x then l[l.length - 1 - x]? else l[x]?) → 2 * i ≤ l.length → l.length - 2 * i ≤ d → ∀ k, d < k →
    slices_Reverse_api_Block.l1 k i ((l.length : Int) - 1 - i) p = some l.reverse := by
  intro d
  induction d using Nat.strongRecOn with
  | _ d ih =>
    intro i p hp hx hi hd k hk
    obtain ⟨k, rfl⟩ : ∃ m, k = m + 1 := ⟨k - 1, by omega⟩
    rw [slices_Reverse_api_Block.l1]
    by_cases c : 2 * i + 1 < l.length
    · have h1 : i < p.length := by omega
      have h2 : l.length - 1 - i < p.length := by omega
      have e2 : ((l.length : Int) - 1 - i) = ((l.length - 1 - i : Nat) : Int) := by omega
      rw [if_t (decide_eq_true (by omega)), e2, bind_of (idx_at rfl h2), bind_of (idx_at rfl h1), bind_of (idx_at rfl h1), Int.toNat_natCast, bind_of (idx_at (n := l.length - 1 - i) rfl (by simp; omega)), Int.toNat_natCast, I64_succ (by omega), I64_id (by omega) (by omega)]
      rw [show ((l.length - 1 - i : Nat) : Int) - 1 = (l.length : Int) - 1 - ((i + 1 : Nat) : Int) by omega]
      refine ih (d - 1) (by omega) (i + 1) _ (by simp [hp]) (fun x hxl => ?_) (by omega) (by omega) k (by omega)
      have hxi := hx i (by omega)
      have hxj := hx (l.length - 1 - i) (by omega)
      rw [if_neg (by omega), List.getElem?_eq_getElem h1] at hxi
      rw [if_neg (by omega), List.getElem?_eq_getElem h2] at hxj
      rw [List.getElem?_set, List.getElem?_set, List.length_set]
      by_cases a1 : l.length - 1 - i = x
      · subst a1
        rw [if_pos rfl, if_pos h2, if_pos (by omega), hxi]
        congr 1; omega
      · rw [if_neg a1]
        by_cases a2 : i = x
        · subst a2
          rw [if_pos rfl, if_pos h1, if_pos (by omega), hxj]
        · rw [if_neg a2, hx x hxl]
          by_cases a3 : x < i ∨ l.length - i ≤ x
          · rw [if_pos a3, if_pos (by omega)]
          · rw [if_neg a3, if_neg (by omega)]
    · rw [if_f (decide_eq_false (by omega))]
      congr 1
      apply List.ext_getElem?
      intro x
      by_cases hxl : x < l.length
      · rw [hx x hxl, List.getElem?_reverse hxl]
        split
        · rfl
        · congr 1; omega
      · rw [List.getElem?_eq_none (by omega), List.getElem?_eq_none (by simp; omega)]
theorem reverse_ok (l : List T_api_Block) (hl : l.length ≤ 1048576) {k : Nat} (hk : l.length < k) : slices_Reverse_api_Block.f k l = some l.reverse := by
  unfold slices_Reverse_api_Block.f
  have := reverse_l1 l hl l.length 0 l rfl (fun x hx => by rw [if_neg (by omega)]) (by omega) (by omega) k hk
  have h1 : slices_Reverse_api_Block.l1 k 0 (I64 ((l.length : Int) - 1)) l = some l.reverse := by
    rw [I64_id (by omega) (by omega)]
    have e : (l.length : Int) - 1 - ((0 : Nat) : Int) = (l.length : Int) - 1 := by omega
    rw [e] at this
    exact this
  rw [h1]; rfl
def here (b : T_rbuf_Buffer_o) (x : T_api_Block) : Bool := b.xkept && decide (U32 (b.xlast - x.xLeft) < U32 (x.xRight - x.xLeft))
theorem here_ok (b : T_rbuf_Buffer_o) (x : T_api_Block) : rbuf_Buffer_Blocks_1.f x b = some (here b x) := by
  unfold rbuf_Buffer_Blocks_1.f ring_In.f here
  cases b.xkept <;> simp
theorem findB_l1 (b : T_rbuf_Buffer_o) (l : List T_api_Block) (hl : l.length ≤ 1048576) : ∀ (d j : Nat), j + d = l.length → ∀ k, d < k →
    slices_IndexFunc_api_Block.l1 k l b j = some (match (l.drop j).findIdx? (here b) with | some i => .inl ((j + i : Nat) : Int) | none => .inr ()) := by
  intro d
  induction d with
  | zero =>
    intro j hj k hk
    obtain ⟨k, rfl⟩ : ∃ m, k = m + 1 := ⟨k - 1, by omega⟩
    rw [slices_IndexFunc_api_Block.l1, if_f (decide_eq_false (by omega)), List.drop_of_length_le (by omega)]
    rfl
  | succ d ih =>
    intro j hj k hk
    obtain ⟨k, rfl⟩ : ∃ m, k = m + 1 := ⟨k - 1, by omega⟩
    have hlt : j < l.length := by omega
    rw [slices_IndexFunc_api_Block.l1, if_t (decide_eq_true (by omega)), bind_of (idx_at rfl hlt), bind_of (here_ok _ _), List.drop_eq_getElem_cons hlt, List.findIdx?_cons]
    cases hb : here b l[j] with
    | true => simp
    | false =>
      rw [if_f rfl, I64_succ (by omega), ih (j + 1) (by omega) k (by omega)]
      simp only [Bool.false_eq_true, if_false]
      cases (List.drop (j + 1) l).findIdx? (here b) with
      | none => rfl
      | some i => simp only [Option.map_some]; congr 3; omega
theorem findB_ok (b : T_rbuf_Buffer_o) (l : List T_api_Block) (hl : l.length ≤ 1048576) {k : Nat} (hk : l.length < k) : slices_IndexFunc_api_Block.f k l b = some (match l.findIdx? (here b) with | some i => (i : Int) | none => -1) := by
  unfold slices_IndexFunc_api_Block.f
  have h1 : slices_IndexFunc_api_Block.l1 k l b 0 = _ := findB_l1 b l hl l.length 0 (by omega) k hk
  rw [h1, Option.bind_some, List.drop_zero]
  cases l.findIdx? (here b) with
  | none => rfl
  | some i => simp [brk]
/-- The first one that p holds of goes to the front. -/
def front {α : Type} (p : α → Bool) (l : List α) : List α := match l.findIdx? p with
  | some i => if 0 < i then l[i]?.toList ++ (l.take i ++ l.drop (i + 1)) else l
  | none => l
theorem front_mem {α : Type} {p : α → Bool} {l : List α} {x : α} (h : x ∈ front p l) : x ∈ l := by
  unfold front at h
  split at h
  · split at h
    · simp only [List.mem_append, Option.mem_toList] at h
      rcases h with h | h | h
      · exact List.mem_of_getElem? h
      · exact List.mem_of_mem_take h
      · exact List.mem_of_mem_drop h
    · exact h
  · exact h
theorem front_len {α : Type} {p : α → Bool} {l : List α} : (front p l).length = l.length := by
  unfold front
  split
  · rename_i i hi
    split
    · have hil : i < l.length := by
        rw [List.findIdx?_eq_some_iff_getElem] at hi
        exact hi.1
      rw [List.getElem?_eq_getElem hil]
      simp; omega
    · rfl
  · rfl
def blkList (b : T_rbuf_Buffer_o) : List T_api_Block := (b.xBoard.xruns.map (blkOf b.xBoard.xfirst)).reverse
theorem blocksB_ok {b : T_rbuf_Buffer_o} (hm : b.xBoard.xmade = true) (hl : b.xBoard.xruns.length ≤ 1000000) {most : Int} (h0 : most ≤ 9223372036854775807) {k : Nat} (hk : b.xBoard.xruns.length < k) :
    rbuf_Buffer_Blocks.f k b most = some (if most < 1 then [] else (front (here b) (blkList b)).take most.toNat) := by
  unfold rbuf_Buffer_Blocks.f rbuf_Buffer_ok.f
  rw [Option.bind_some, if_f (by rfl)]
  by_cases hmo : most < 1
  · rw [if_t (decide_eq_true hmo), if_pos hmo]
  · rw [if_f (decide_eq_false hmo), if_neg hmo, bind_of (blocks_ok hm (by omega) hk), bind_of (reverse_ok _ (by simp; omega) (by simpa using hk))]
    have hbl : (b.xBoard.xruns.map (blkOf b.xBoard.xfirst)).reverse = blkList b := rfl
    rw [hbl]
    have hlen : (blkList b).length = b.xBoard.xruns.length := by simp [blkList]
    rw [bind_of (findB_ok b _ (by omega) (by omega))]
    have htk : ∀ l : List T_api_Block, (cut l 0 (imin most (l.length : Int))).bind (fun l1 => some l1) = some (l.take most.toNat) := fun l => by
      rw [bind_of (cut_to (m := min most.toNat l.length) (by rw [imin_eq]; omega) (Nat.min_le_right _ _))]
      by_cases hc : most.toNat ≤ l.length
      · rw [Nat.min_eq_left hc]
      · rw [Nat.min_eq_right (by omega), List.take_length, List.take_of_length_le (by omega)]
    unfold front
    cases hf : (blkList b).findIdx? (here b) with
    | none =>
      dsimp only
      rw [if_f (by rfl), htk]
    | some i =>
      have hil : i < (blkList b).length := by
        rw [List.findIdx?_eq_some_iff_getElem] at hf
        exact hf.1
      dsimp only
      by_cases hi : 0 < i
      · rw [if_t (decide_eq_true (by omega)), if_pos hi, bind_of (idx_at rfl hil), I64_succ (by omega)]
        unfold slices_Delete_api_Block.f slices_Insert_api_Block.f
        have hd : delM (blkList b) (i : Int) ((i + 1 : Nat) : Int) = some ((blkList b).take i ++ (blkList b).drop (i + 1)) := by
          unfold delM
          rw [if_pos ⟨by omega, by omega, by omega⟩, Int.toNat_natCast, Int.toNat_natCast]
        have hins : ∀ (xs : List T_api_Block) (v : T_api_Block), xs.length ≤ 1048576 → insM xs 0 [v] = some (v :: xs) := fun xs v hx => by
          have := insM_at (i := 0) (q := 0) (xs := xs) (vs := [v]) (by rfl) (by omega) (by simp; omega)
          simpa using this
        rw [hd, Option.bind_some, hins _ _ (by simp; omega), Option.bind_some, htk]
        rw [List.getElem?_eq_getElem hil]
        simp
      · rw [if_f (decide_eq_false (by omega)), if_neg hi, htk]
theorem runSum_le {M : Int} : ∀ {lo : Int} {l : List T_sack_run}, Srt lo l → (∀ x ∈ l, x.xto ≤ M) → lo ≤ M → runSum l ≤ M - lo
  | lo, [], _, _, h => by simp [runSum]; omega
  | lo, x :: l, ⟨a, b, c⟩, hM, h => by
    have e : runSum (x :: l) = (x.xto - x.xfrom) + runSum l := by simp [runSum]
    have hx := hM x (by simp)
    rw [e]
    by_cases hc : x.xto + 1 ≤ M
    · have := runSum_le c (fun y hy => hM y (by simp [hy])) hc
      omega
    · have hnil : l = [] := by
        cases l with
        | nil => rfl
        | cons y l =>
          have h1 := hM y (by simp)
          obtain ⟨c1, c2, _⟩ := c
          omega
      subst hnil
      simp [runSum]; omega
end Go.V
