/- A buffer answers every call as the document's: the plain law. -/
import Derived.Test.YtidkijkkolfooaaPRh
import Derived.Test.YtidkijkkolfooaaPRd
namespace Go.V
open Go

/-- The document's buffer r has what b has. -/
structure Rel (R : Nat) (b : T_rbuf_Buffer_o) (r : T_downhaulref26_Buffer) : Prop where
  room : r.xRoom = R
  next : r.xNext = b.xBoard.xfirst
  inl : (r.xIn.length : Int) = b.xn
  inb : ∀ i : Nat, i < r.xIn.length → r.xIn[i]? = some (bAt b.xbytes b.xbegin i)
  cl : r.xCame.length = R + 1
  ol : r.xOut.length = R + 1
  came : ∀ w : Nat, w ≤ R → r.xCame[w]? = some (pres b.xBoard.xruns w)
  out : ∀ w : Nat, pres b.xBoard.xruns w = true → r.xOut[w]? = some (bAt b.xbytes b.xbegin (b.xn + w))
  last : r.xLast = b.xlast
  has : r.xHas = b.xkept
theorem pres_lt {R j : Nat} {b : T_rbuf_Buffer_o} (h : Inv R j b) {w : Int} (hp : pres b.xBoard.xruns w = true) : 0 ≤ w ∧ w < R - b.xn := by
  unfold pres at hp
  rw [List.any_eq_true] at hp
  obtain ⟨x, hx, hw⟩ := hp
  rw [inRun_iff] at hw
  obtain ⟨_, _, _⟩ := h.runs x hx
  omega

/-- Behind j of a piece's bytes. -/
structure Mid (r p : T_downhaulref26_Buffer) (P : List Int) (D s W : Int) (j : Nat) : Prop where
  room : p.xRoom = r.xRoom
  next : p.xNext = r.xNext
  inn : p.xIn = r.xIn
  cl : p.xCame.length = r.xCame.length
  ol : p.xOut.length = r.xOut.length
  came : ∀ (w : Nat) (c : Bool), r.xCame[w]? = some c → p.xCame[w]? = some (c || decide (s ≤ w ∧ (w : Int) < min (D + j) W))
  out : ∀ (w : Nat), r.xCame[w]? = some true → p.xOut[w]? = r.xOut[w]?
  outn : ∀ (w : Nat), r.xCame[w]? = some false → s ≤ w → (w : Int) < min (D + j) W → p.xOut[w]? = some (P.getD ((w : Int) - D).toNat 0)
  last : p.xLast = if min (D + j) W ≤ s then r.xLast else (r.xNext + min (D + j) W - 1) % 4294967296
  has : p.xHas = if min (D + j) W ≤ s then r.xHas else true
theorem insR_l1 (r : T_downhaulref26_Buffer) (R : Nat) (hR : r.xRoom = R) (hR2 : R ≤ 8192) (hcl : r.xCame.length = R + 1) (hol : r.xOut.length = R + 1) (hin : r.xIn.length ≤ R) (h0 : 0 ≤ r.xNext) (h1 : r.xNext < 4294967296) (a : Int) (P : List Int) (hP : P.length ≤ 1000000) {D s W : Int} (hD : I32 (U32 (a - r.xNext)) = D) (hs : s = max D 0) (hW : W = R - r.xIn.length) : ∀ (d j : Nat), j + d = P.length → ∀ k, d < k → ∀ p, Mid r p P D s W j →
    ∃ p', downhaulref26_Buffer_Insert.l1 k r a P j p = some p' ∧ Mid r p' P D s W P.length := by
  have hDb : -2147483648 ≤ D ∧ D ≤ 2147483647 := by rw [← hD, I32_def]; omega
  intro d
  induction d with
  | zero =>
    intro j hj k hk p hp
    obtain ⟨k, rfl⟩ : ∃ q, k = q + 1 := ⟨k - 1, by omega⟩
    rw [downhaulref26_Buffer_Insert.l1, if_f (decide_eq_false (by omega))]
    exact ⟨p, rfl, by rw [show P.length = j by omega]; exact hp⟩
  | succ d ih =>
    intro j hj k hk p hp
    obtain ⟨k, rfl⟩ : ∃ q, k = q + 1 := ⟨k - 1, by omega⟩
    have hlt : j < P.length := by omega
    obtain ⟨m1, m2, m3, m4, m5, m6, m7, m8, m9, m10⟩ := hp
    have hv : I64 (I64 (I32 (U32 (a - p.xNext))) + (j : Int)) = D + j := by
      rw [m2, hD, I64_id (x := D) (by omega) (by omega), I64_id (by omega) (by omega)]
    have hw : I64 (r.xRoom - (r.xIn.length : Int)) = W := by rw [hR, I64_id (by omega) (by omega), hW]
    rw [downhaulref26_Buffer_Insert.l1, if_t (decide_eq_true (by omega)), hv, hw, I64_succ (n := j) (by omega)]
    by_cases c1 : D + j < 0
    · rw [if_t (decide_eq_true c1)]
      have e1 : min (D + ((j + 1 : Nat) : Int)) W ≤ s ∧ min (D + (j : Int)) W ≤ s := by omega
      refine ih (j + 1) (by omega) k (by omega) p ⟨m1, m2, m3, m4, m5, fun w c hc => ?_, m7, fun w hc g1 g2 => by omega, ?_, ?_⟩
      · rw [m6 w c hc]
        congr 2
        rw [decide_eq_decide]; omega
      · rw [m9, if_pos e1.1, if_pos e1.2]
      · rw [m10, if_pos e1.1, if_pos e1.2]
    · rw [if_f (decide_eq_false c1)]
      by_cases c2 : D + j ≥ W
      · rw [if_t (decide_eq_true c2)]
        have e1 : min (D + ((j + 1 : Nat) : Int)) W = min (D + (j : Int)) W := by omega
        exact ih (j + 1) (by omega) k (by omega) p ⟨m1, m2, m3, m4, m5, by rw [e1]; exact m6, m7, by rw [e1]; exact m8, by rw [e1]; exact m9, by rw [e1]; exact m10⟩
      · rw [if_f (decide_eq_false c2)]
        obtain ⟨v, hv2⟩ : ∃ v : Nat, D + j = v := ⟨(D + j).toNat, by omega⟩
        have e1 : min (D + ((j + 1 : Nat) : Int)) W = v + 1 := by omega
        have e2 : min (D + (j : Int)) W = v := by omega
        have hvs : s ≤ v := by omega
        have hvR : v < R + 1 := by omega
        have hcv : r.xCame[v]? = some (r.xCame[v]'(by omega)) := List.getElem?_eq_getElem (by omega)
        have hpv := m6 v _ hcv
        rw [e2] at hpv
        have hpv' : idx p.xCame (v : Int) = some (r.xCame[v]'(by omega)) := by
          unfold idx
          rw [if_pos (by omega), Int.toNat_natCast, hpv]
          simp
        have eU : U32 (p.xNext + U32 ((v : Nat) : Int)) = (r.xNext + (v + 1) - 1) % 4294967296 := by rw [m2, U32_id (x := (v : Int)) (by omega) (by omega), U32_def]; congr 1; omega
        rw [hv2, hpv', Option.bind_some, eU]
        cases hcb : r.xCame[v]'(by omega) with
        | false =>
          rw [hcb] at hcv hpv'
          rw [if_t (by rfl), bind_of (idx_at rfl hlt), Option.bind_some, bind_of (idx_at (n := v) rfl (by omega)), Int.toNat_natCast]
          refine ih (j + 1) (by omega) k (by omega) _ ⟨m1, m2, m3, by simp [m4], by simp [m5], fun w c hc => ?_, fun w hc => ?_, fun w hc g1 g2 => ?_, ?_, ?_⟩
          · dsimp only
            rw [List.getElem?_set, e1]
            by_cases hwv : v = w
            · subst hwv
              rw [if_pos rfl, if_pos (by omega), decide_eq_true (by omega), Bool.or_true]
            · rw [if_neg hwv, m6 w c hc, e2]
              congr 2
              rw [decide_eq_decide]; omega
          · dsimp only
            rw [List.getElem?_set, if_neg (by rintro rfl; rw [hcv] at hc; cases hc), m7 w hc]
          · dsimp only
            rw [List.getElem?_set]
            by_cases hwv : v = w
            · subst hwv
              rw [if_pos rfl, if_pos (by omega), show ((v : Int) - D).toNat = j by omega, List.getD_eq_getElem?_getD, List.getElem?_eq_getElem hlt]
              rfl
            · rw [if_neg hwv]
              exact m8 w hc g1 (by omega)
          · dsimp only; rw [e1, if_neg (by omega)]
          · dsimp only; rw [e1, if_neg (by omega)]
        | true =>
          rw [hcb] at hcv
          rw [if_f (by rfl)]
          refine ih (j + 1) (by omega) k (by omega) _ ⟨m1, m2, m3, m4, m5, fun w c hc => ?_, m7, fun w hc g1 g2 => ?_, ?_, ?_⟩
          · dsimp only
            rw [m6 w c hc, e1, e2]
            by_cases hwv : w = v
            · subst hwv
              rw [hcv] at hc
              injection hc with hc
              rw [← hc]; rfl
            · congr 2
              rw [decide_eq_decide]; omega
          · by_cases hwv : w = v
            · subst hwv; rw [hcv] at hc; cases hc
            · exact m8 w hc g1 (by omega)
          · dsimp only; rw [e1, if_neg (by omega)]
          · dsimp only; rw [e1, if_neg (by omega)]

set_option maxHeartbeats 2000000 in
theorem insR_ok {R j : Nat} {b : T_rbuf_Buffer_o} {r : T_downhaulref26_Buffer} (hI : Inv R j b) (hr : Rel R b r) (hs : Srt 1 b.xBoard.xruns) (hj : j ≤ 1000) {a : Int} (h0 : 0 ≤ a) (h1 : a < 4294967296) (P : List Int) (hP : P.length ≤ 3000) {k : Nat} (hk : 20000 < k) :
    ∃ n b' r', rbuf_Buffer_Insert.f k b a P = some (n, b') ∧ downhaulref26_Buffer_Insert.f k r a P = some (n, r') ∧ Inv R (j + 1) b' ∧ Srt 1 b'.xBoard.xruns ∧ Rel R b' r' := by
  obtain ⟨n, b', i1, i2, i3, i4⟩ := insert_spec hI hs (by omega) h0 h1 P (by omega) (k := k) (by omega)
  refine ⟨n, b', ?_⟩
  obtain ⟨q1, q2, q3, q4, q5, q6, q7, q8, q9, q10⟩ := hr
  have hn0 := hI.n0
  have hn1 := hI.n1
  have hR2 := hI.R2
  have hbl := hI.len
  have hf0 := hI.f0
  have hf1 := hI.f1
  have hn1' := i2.n1
  have hbl' := i2.len
  generalize hD : I32 (U32 (a - b.xBoard.xfirst)) = D
  have hDb : -2147483648 ≤ D ∧ D ≤ 2147483647 := by rw [← hD, I32_def]; omega
  have hS : winS b a = max D 0 := by unfold winS; rw [hD]
  have hQ : winQ b a P = (P.drop (max (-D) 0).toNat).take (max (R - b.xn - max D 0) 0).toNat := by unfold winQ; rw [hD, hS, hbl]
  have hQl : ((winQ b a P).length : Int) = max (min (D + P.length) (R - b.xn) - max D 0) 0 := by rw [hQ, List.length_take, List.length_drop]; omega
  have hQg : ∀ i : Nat, i < (winQ b a P).length → (winQ b a P).getD i 0 = P.getD (max D 0 - D + i).toNat 0 := by
    intro i hi
    have hi' : i < (max ((R : Int) - b.xn - max D 0) 0).toNat := by omega
    rw [hQ, List.getD_eq_getElem?_getD, List.getElem?_take, if_pos hi', List.getElem?_drop, List.getD_eq_getElem?_getD]
    congr 2; omega
  rw [hS] at i3 i4
  generalize winQ b a P = q at i3 i4 hQl hQg
  obtain ⟨x1, x2, x3, x4, x5, x6, x7, x8, x9, x10⟩ := i3
  -- the document's loop over the bytes
  have hmid0 : Mid r r P D (max D 0) (R - r.xIn.length) 0 := ⟨rfl, rfl, rfl, rfl, rfl, fun w c hc => by rw [hc, decide_eq_false (by omega), Bool.or_false], fun w hc => rfl, fun w hc g1 g2 => by omega, by rw [if_pos (by omega)], by rw [if_pos (by omega)]⟩
  obtain ⟨p, p1, p2⟩ := insR_l1 r R q1 hR2 q5 q6 (by omega) (by rw [q2]; exact hf0) (by rw [q2]; exact hf1) a P (by omega) (D := D) (by rw [q2]; exact hD) rfl rfl P.length 0 (by omega) k (by omega) r hmid0
  have p1' : downhaulref26_Buffer_Insert.l1 k r a P 0 r = some p := p1
  obtain ⟨m1, m2, m3, m4, m5, m6, m7, m8, m9, m10⟩ := p2
  have hW : (R : Int) - r.xIn.length = R - b.xn := by omega
  rw [hW] at m6 m8 m9 m10
  -- what came, now
  have hcame : ∀ w : Nat, w ≤ R → p.xCame[w]? = some (pres b.xBoard.xruns w || inRun w ⟨max D 0, max D 0 + q.length⟩) := fun w hw => by
    rw [m6 w _ (q7 w hw)]
    congr 2
    rw [Bool.eq_iff_iff, decide_eq_true_eq, inRun_iff]
    dsimp only
    omega
  have hout : ∀ w : Nat, (w : Int) < R - b.xn → (pres b.xBoard.xruns w || inRun w ⟨max D 0, max D 0 + q.length⟩) = true → p.xOut[w]? = some (bAt b'.xbytes b'.xbegin (b.xn + w)) := fun w hw hp => by
    cases hpw : pres b.xBoard.xruns w with
    | true =>
      rw [m7 w (by rw [q7 w (by omega), hpw]), q8 w hpw, x6 _ (by omega) (by omega), if_neg]
      rintro ⟨_, _, g3⟩
      rw [show b.xn + (w : Int) - b.xn = w by omega, hpw] at g3
      cases g3
    | false =>
      rw [hpw, Bool.false_or, inRun_iff] at hp
      dsimp only at hp
      rw [m8 w (by rw [q7 w (by omega), hpw]) (by omega) (by omega), x6 _ (by omega) (by omega), if_pos ⟨by omega, by omega, by rw [show b.xn + (w : Int) - b.xn = w by omega, hpw]⟩, hQg _ (by omega)]
      congr 2; omega
  obtain ⟨m, rfl⟩ : ∃ m : Nat, n = m := ⟨n.toNat, by omega⟩
  have hmR : m ≤ R := by omega
  have hgone : ∀ i, i < m → p.xCame[i]? = some true := fun i hi => by
    rw [hcame i (by omega), x8 (i : Int) (by omega) (by omega)]
  have hstop : p.xCame[m]? = some false := by
    rw [hcame m hmR]
    have := x7 0 (by omega)
    rw [Int.zero_add] at this
    rw [← this]
    unfold pres
    rw [x5.low (by omega)]
  have l2 := insR_l2 R hR2 m p (by rw [m1, q1]) (by omega) (by omega) (by rw [m3]; omega) (by rw [m2, q2]; exact hf0) (by rw [m2, q2]; exact hf1) hmR hgone hstop k (by omega)
  have hinl : p.xIn.length = r.xIn.length := by rw [m3]
  have hpo : p.xOut.length = R + 1 := by omega
  refine ⟨⟨p.xRoom, (p.xNext + m) % 4294967296, p.xIn ++ p.xOut.take m, p.xCame.drop m ++ List.replicate m false, p.xOut.drop m ++ List.replicate m 0, p.xLast, p.xHas⟩, i1, ?_, i2, x5, ⟨?_, ?_, ?_, fun i hi => ?_, ?_, ?_, fun w hw => ?_, fun w hp => ?_, ?_, ?_⟩⟩
  · unfold downhaulref26_Buffer_Insert.f
    rw [p1', Option.bind_some, l2, Option.bind_some]
    dsimp only
    have : I64 (((p.xIn ++ p.xOut.take m).length : Int) - (r.xIn.length : Int)) = (m : Int) := by
      rw [List.length_append, List.length_take, I64_id (by omega) (by omega)]; omega
    rw [this]
  · dsimp only; rw [m1, q1]
  · dsimp only; rw [m2, q2, x3]
  · dsimp only; rw [List.length_append, List.length_take, x2]; omega
  · dsimp only at hi ⊢
    rw [List.length_append, List.length_take] at hi
    by_cases hlt : i < r.xIn.length
    · rw [List.getElem?_append_left (by omega), m3, q4 i hlt, x6 _ (by omega) (by omega), if_neg (by omega)]
    · rw [List.getElem?_append_right (by omega), List.getElem?_take, if_pos (by omega), hout (i - p.xIn.length) (by omega) (x8 _ (by omega) (by omega))]
      congr 2; omega
  · dsimp only; rw [List.length_append, List.length_drop, List.length_replicate]; omega
  · dsimp only; rw [List.length_append, List.length_drop, List.length_replicate]; omega
  · dsimp only
    rw [x7 w (by omega)]
    by_cases hwm : w + m ≤ R
    · rw [List.getElem?_append_left (by rw [List.length_drop]; omega), List.getElem?_drop, hcame (m + w) (by omega)]
      congr 2
      · congr 1; omega
      · congr 1; omega
    · rw [List.getElem?_append_right (by rw [List.length_drop]; omega), List.getElem?_replicate, if_pos (by rw [List.length_drop]; omega)]
      congr 1
      symm
      rw [Bool.or_eq_false_iff]
      constructor
      · cases hx : pres b.xBoard.xruns ((w : Int) + m) with
        | false => rfl
        | true => have := pres_lt hI hx; omega
      · rw [Bool.eq_false_iff]
        intro hx
        rw [inRun_iff] at hx
        dsimp only at hx
        omega
  · dsimp only
    have hwl := pres_lt i2 hp
    rw [x7 w (by omega)] at hp
    rw [List.getElem?_append_left (by rw [List.length_drop]; omega), List.getElem?_drop, hout (m + w) (by omega) (by rw [show ((m + w : Nat) : Int) = w + m by omega]; exact hp)]
    congr 2; omega
  · dsimp only
    rw [m9, x9, q2, q9]
    by_cases hq0 : q.length = 0
    · rw [if_pos hq0, if_pos (by omega)]
    · rw [if_neg hq0, if_neg (by omega)]
      congr 1; omega
  · dsimp only
    rw [m10, x10, q10]
    by_cases hq0 : q.length = 0
    · rw [if_pos hq0, if_pos (by omega)]
    · rw [if_neg hq0, if_neg (by omega)]
theorem readR_ok {R j : Nat} {b : T_rbuf_Buffer_o} {r : T_downhaulref26_Buffer} (hI : Inv R j b) (hr : Rel R b r) (N : Int) {k : Nat} (hk : 20000 < k) :
    ∃ l b' r', rbuf_Buffer_Read.f k b N = some (l, b') ∧ downhaulref26_Buffer_Read.f r N = some (l, r') ∧ Inv R j b' ∧ b'.xBoard = b.xBoard ∧ Rel R b' r' := by
  obtain ⟨l, b', h1, h2, h3, h4, h5, h6, h7, h8, h9⟩ := read_spec hI N (k := k) (by omega)
  obtain ⟨q1, q2, q3, q4, q5, q6, q7, q8, q9, q10⟩ := hr
  have hn0 := hI.n0
  have hn1 := hI.n1
  have hR2 := hI.R2
  have e1 : imin (imax N 0) (r.xIn.length : Int) = (l.length : Nat) := by rw [imin_eq, imax_eq]; omega
  have hl : r.xIn.take l.length = l := by
    apply List.ext_getElem?
    intro i
    rw [List.getElem?_take]
    split
    · rename_i hi
      rw [q4 i (by omega), h8 i hi]
    · rename_i hi
      rw [List.getElem?_eq_none (by omega)]
  refine ⟨l, b', ⟨r.xRoom, r.xNext, r.xIn.drop l.length, r.xCame, r.xOut, r.xLast, r.xHas⟩, h1, ?_, h3, h5, ⟨q1, by rw [h5]; exact q2, ?_, fun i hi => ?_, q5, q6, by rw [h5]; exact q7, fun w hp => ?_, by rw [h6]; exact q9, by rw [h7]; exact q10⟩⟩
  · unfold downhaulref26_Buffer_Read.f
    rw [e1, bind_of (cut_to rfl (by omega)), bind_of (app_at (by simp; omega)), List.nil_append, bind_of (cut_from rfl rfl (by omega)), hl]
  · dsimp only; rw [List.length_drop]; omega
  · dsimp only at hi ⊢
    rw [List.length_drop] at hi
    rw [List.getElem?_drop, q4 _ (by omega), h9 _ (by omega) (by omega)]
    congr 2; omega
  · dsimp only
    rw [h5] at hp
    have hwl := pres_lt hI hp
    rw [q8 w hp, h9 _ (by omega) (by omega)]
    congr 2; omega
theorem same_l1 (l : List T_api_Block) (hl : l.length ≤ 1000000) : ∀ (d j : Nat), j + d = l.length → ∀ k, d < k → downhaullaw26_same.l1 k l l j = some (.inr ()) := by
  intro d
  induction d with
  | zero =>
    intro j hj k hk
    obtain ⟨k, rfl⟩ : ∃ q, k = q + 1 := ⟨k - 1, by omega⟩
    rw [downhaullaw26_same.l1, if_f (decide_eq_false (by omega))]
  | succ d ih =>
    intro j hj k hk
    obtain ⟨k, rfl⟩ : ∃ q, k = q + 1 := ⟨k - 1, by omega⟩
    have hlt : j < l.length := by omega
    rw [downhaullaw26_same.l1, if_t (decide_eq_true (by omega)), bind_of (idx_at rfl hlt), bind_of (idx_at rfl hlt), if_f (by simp), I64_succ (by omega)]
    exact ih (j + 1) (by omega) k (by omega)
theorem same_ok (l : List T_api_Block) (hl : l.length ≤ 1000000) {k : Nat} (hk : l.length < k) : downhaullaw26_same.f k l l = some true := by
  unfold downhaullaw26_same.f
  have h1 : downhaullaw26_same.l1 k l l 0 = some (.inr ()) := same_l1 l hl l.length 0 (by omega) k hk
  rw [if_f (by simp), h1]; rfl
/-- What both tell of themselves is the same. -/
theorem tells_ok {R j : Nat} {b : T_rbuf_Buffer_o} {r : T_downhaulref26_Buffer} (hI : Inv R j b) (hr : Rel R b r) (hs : Srt 1 b.xBoard.xruns) (hj : j ≤ 1000) {N : Int} (hN : N ≤ 9223372036854775807) {k : Nat} (hk : 20000 < k) :
    rbuf_Buffer_Next.f b = some r.xNext ∧ rbuf_Buffer_Window.f b = some ((R : Int) - b.xn) ∧ downhaulref26_Buffer_Window.f r = some ((R : Int) - b.xn) ∧ rbuf_Buffer_Len.f b = some (r.xIn.length : Int) ∧ rbuf_Buffer_Out.f k b = some (runSum b.xBoard.xruns) ∧ downhaulref26_Buffer_Count.f k r = some (runSum b.xBoard.xruns) ∧
      ∃ l, rbuf_Buffer_Blocks.f k b N = some l ∧ downhaulref26_Buffer_Blocks.f k r N = some l ∧ downhaullaw26_same.f k l l = some true := by
  have hn0 := hI.n0
  have hn1 := hI.n1
  have hR2 := hI.R2
  have hlen := hI.len
  have hcnt := hI.cnt
  have hM : ∀ x ∈ b.xBoard.xruns, x.xto ≤ R := fun x hx => by obtain ⟨_, _, _⟩ := hI.runs x hx; omega
  obtain ⟨q1, q2, q3, q4, q5, q6, q7, q8, q9, q10⟩ := hr
  refine ⟨by rw [bnext hI.made, q2], by rw [bwindow, hlen, I64_id (by omega) (by omega)], by unfold downhaulref26_Buffer_Window.f; rw [q1, q3, I64_id (by omega) (by omega)], by rw [blen, q3], ?_, ?_, ?_⟩
  · unfold rbuf_Buffer_Out.f rbuf_Buffer_ok.f
    rw [Option.bind_some, if_f (by rfl), bind_of (bytes_ok (M := R - b.xn) (by omega) hI.made hI.runs (by omega) (by omega))]
  · rw [count_ok q1 hR2 q5 (by omega), ← count_runs (N := R + 1) (Int.le_refl 0) (hs.mono (lo' := 0) (by omega)) (fun x hx => by have := hM x hx; omega)]
    have e : r.xCame = (List.range (R + 1)).map (fun w => pres b.xBoard.xruns (w : Nat)) := by
      apply List.ext_getElem?
      intro i
      by_cases hi : i ≤ R
      · rw [q7 i hi, List.getElem?_map, List.getElem?_range (by omega)]; rfl
      · rw [List.getElem?_eq_none (by omega), List.getElem?_eq_none (by simp; omega)]
    rw [e, List.countP_map]
    rfl
  · have hbl := blocksB_ok hI.made (by omega) hN (k := k) (by omega)
    have hB : (b.xBoard.xruns.map (blkOf r.xNext)).reverse = blkList b := by unfold blkList; rw [q2]
    have hbll : (blkList b).length = b.xBoard.xruns.length := by simp [blkList]
    have hl1 := blksR_l1 r R b.xBoard.xruns (hs.mono (lo' := 0) (by omega)) hM hR2 (by rw [q2]; exact hI.f0) (by rw [q2]; exact hI.f1) q7 (by omega) (R + 1) (Nat.le_refl _) k (by omega)
    have hcl : clip (((R + 1 : Nat) : Int) - 1) b.xBoard.xruns = [] := clip_none (fun x hx => by have := hM x hx; omega)
    rw [hcl, hB] at hl1
    have hl1' : downhaulref26_Buffer_Blocks.l1 k r r.xRoom [] = some (blkList b) := by
      rw [q1]
      have e : ((R + 1 : Nat) : Int) - 1 = R := by omega
      rw [e] at hl1
      exact hl1
    have hl2 : downhaulref26_Buffer_Blocks.l2 k r (blkList b) 0 [] = some ([] ++ ((blkList b).drop 0).filter (hereR r)) := blksR_l2 r (blkList b) (by omega) (blkList b).length 0 (by omega) k (by omega) [] (by simp)
    have hh : hereR r = here b := by funext x; unfold hereR here; rw [q9, q10]
    rw [List.drop_zero, List.nil_append, hh] at hl2
    have hap : Apart (here b) (blkList b) := apart_ok (last := b.xlast) (kept := b.xkept) (hs.mono (lo' := 0) (by omega)) (fun x hx => by have := hM x hx; omega) hI.f0 hI.f1
    have hl3 := blksR_front hap (by omega) (k := k) (by omega)
    have hfl : (front (here b) (blkList b)).length = b.xBoard.xruns.length := by rw [front_len, hbll]
    have hcut : ∀ l : List T_api_Block, (cut l 0 (imin (imax N 0) (l.length : Int))).bind (fun l1 => some l1) = some (l.take N.toNat) := fun l => by
      rw [bind_of (cut_to (m := min N.toNat l.length) (by rw [imin_eq, imax_eq]; omega) (Nat.min_le_right _ _))]
      by_cases hc : N.toNat ≤ l.length
      · rw [Nat.min_eq_left hc]
      · rw [Nat.min_eq_right (by omega), List.take_length, List.take_of_length_le (by omega)]
    have hR : downhaulref26_Buffer_Blocks.f k r N = some ((front (here b) (blkList b)).take N.toNat) := by
      unfold downhaulref26_Buffer_Blocks.f
      rw [hl1', Option.bind_some, hl2, Option.bind_some, hl3, Option.bind_some, hcut]
    refine ⟨_, hbl, ?_, ?_⟩
    · rw [hR]
      by_cases hN1 : N < 1
      · rw [if_pos hN1, show N.toNat = 0 by omega]; rfl
      · rw [if_neg hN1]
    · have hle : (if N < 1 then [] else (front (here b) (blkList b)).take N.toNat).length ≤ b.xBoard.xruns.length := by
        split
        · simp
        · rw [List.length_take, hfl]; omega
      exact same_ok _ (by omega) (by omega)

theorem plays_l1 (R : Nat) (l : List T_downhaullaw26_Step) (hl : l.length ≤ 60) (hb : ∀ x ∈ l, x.xBytes.length ≤ 3000) (hp : ∀ x ∈ l, phiT_downhaullaw26_Step x) : ∀ (d j : Nat), j + d = l.length → ∀ (b : T_rbuf_Buffer_o) (r : T_downhaulref26_Buffer), Inv R j b → Srt 1 b.xBoard.xruns → Rel R b r → ∀ k, d + 20001 < k → ∃ x, downhaullaw26_RbufPlays.l1 k l j r b = some (.inr x) := by
  intro d
  induction d with
  | zero =>
    intro j hj b r hI hs hr k hk
    obtain ⟨k, rfl⟩ : ∃ q, k = q + 1 := ⟨k - 1, by omega⟩
    rw [downhaullaw26_RbufPlays.l1, if_f (decide_eq_false (by omega))]
    exact ⟨_, rfl⟩
  | succ d ih =>
    intro j hj b r hI hs hr k hk
    obtain ⟨k, rfl⟩ : ∃ q, k = q + 1 := ⟨k - 1, by omega⟩
    have hlt : j < l.length := by omega
    have hlen := hb _ (List.getElem_mem hlt)
    have hN := (wfI_i64 (hp _ (List.getElem_mem hlt)).1).2
    rw [downhaullaw26_RbufPlays.l1, if_t (decide_eq_true (by omega)), bind_of (idx_at rfl hlt), I64_succ (n := j) (by omega)]
    generalize l[j] = e at hlen hN ⊢
    cases e.xRead with
    | true =>
      rw [if_t rfl]
      obtain ⟨o, b', r', g1, g2, g3, g4, g5⟩ := readR_ok hI hr e.xN (k := k) (by omega)
      rw [g1, Option.bind_some, g2, Option.bind_some]
      dsimp only
      have hs' : Srt 1 b'.xBoard.xruns := by rw [g4]; exact hs
      obtain ⟨t1, t2, t3, t4, t5, t6, m, t7, t8, t9⟩ := tells_ok g3 g5 hs' (by omega) (N := e.xN) hN (k := k) (by omega)
      rw [if_f (by simp), t1, Option.bind_some, if_f (by simp), t2, Option.bind_some, t3, Option.bind_some, if_f (by simp), t4, Option.bind_some, if_f (by simp), t5, Option.bind_some, t6, Option.bind_some, if_f (by simp), t7, Option.bind_some, t8, Option.bind_some, t9, Option.bind_some, if_f (by rfl)]
      have g3' : Inv R (j + 1) b' := ⟨g3.made, g3.len, g3.R1, g3.R2, g3.b0, g3.b1, g3.n0, g3.n1, g3.f0, g3.f1, g3.runs, Nat.le_succ_of_le g3.cnt⟩
      exact ih (j + 1) (by omega) b' r' g3' hs' g5 k (by omega)
    | false =>
      rw [if_f rfl]
      have hu := U32_def (r.xNext + U32 e.xAhead)
      obtain ⟨n, b', r', g1, g2, g3, hs', g5⟩ := insR_ok hI hr hs (by omega) (a := U32 (r.xNext + U32 e.xAhead)) (by omega) (by omega) e.xBytes hlen (k := k) (by omega)
      rw [g1, Option.bind_some, g2, Option.bind_some]
      dsimp only
      obtain ⟨t1, t2, t3, t4, t5, t6, m, t7, t8, t9⟩ := tells_ok g3 g5 hs' (by omega) (N := e.xN) hN (k := k) (by omega)
      rw [if_f (by simp), t1, Option.bind_some, if_f (by simp), t2, Option.bind_some, t3, Option.bind_some, if_f (by simp), t4, Option.bind_some, if_f (by simp), t5, Option.bind_some, t6, Option.bind_some, if_f (by simp), t7, Option.bind_some, t8, Option.bind_some, t9, Option.bind_some, if_f (by rfl)]
      exact ih (j + 1) (by omega) b' r' g3 hs' g5 k (by omega)

theorem pureRbufPlays : PureRbufPlays := by
  intro a0 a1 a2 w0 w1 m2 w2
  have h0 := wfI_u16 w0
  have h1 := wfI_u32 w1
  refine ⟨40000, ?_⟩
  unfold downhaullaw26_RbufPlays.f
  have e0 : Int.tmod (I64 a0) 301 = a0 % 301 := by
    rw [I64_id (x := a0) (by omega) (by omega), tmod_pos h0.1]
  rw [e0]
  by_cases hz : a0 % 301 < 1
  · have n1 : rbuf_New.f (a0 % 301) a1 = some (none, 1) := by unfold rbuf_New.f; rw [if_t (decide_eq_true hz)]
    have n2 : downhaulref26_New.f (a0 % 301) a1 = some (⟨0, 0, [], [], [], 0, false⟩, 1) := by unfold downhaulref26_New.f; rw [if_t (decide_eq_true hz)]
    rw [n1, Option.bind_some]
    dsimp only [optE]
    rw [n2, Option.bind_some]
    dsimp only
    rw [if_f (by rfl), if_t (by rfl), if_t (by rfl), if_t (by rfl), bind_of (alive_ok' (by omega))]
  · obtain ⟨b, n1, n2, n3, n4, n5, n6⟩ := new_ok (room := a0 % 301) (next := a1) (by omega) (by omega) h1.1 (by omega)
    have r1 : downhaulref26_New.f (a0 % 301) a1 = some (⟨a0 % 301, a1, [], List.replicate ((a0 % 301).toNat + 1) false, List.replicate ((a0 % 301).toNat + 1) 0, 0, false⟩, 0) := by
      unfold downhaulref26_New.f
      rw [if_f (decide_eq_false hz), if_f (decide_eq_false (by omega)), I64_id (by omega) (by omega), bind_of (mk_at (m := (a0 % 301).toNat + 1) (by omega) (by omega)), bind_of (mk_at (m := (a0 % 301).toNat + 1) (by omega) (by omega))]
    have hb : b.xlast = 0 ∧ b.xkept = false := by
      unfold rbuf_New.f sack_New.f at n1
      rw [if_f (decide_eq_false hz), if_f (decide_eq_false (by omega)), Option.bind_some, bind_of (mk_at (m := (a0 % 301).toNat) (by omega) (by omega))] at n1
      simp only [Option.some.injEq, Prod.mk.injEq, and_true] at n1
      rw [← n1]; exact ⟨rfl, rfl⟩
    have hrel : Rel (a0 % 301).toNat b ⟨a0 % 301, a1, [], List.replicate ((a0 % 301).toNat + 1) false, List.replicate ((a0 % 301).toNat + 1) 0, 0, false⟩ :=
      ⟨by dsimp only; omega, by rw [n4], by rw [n3]; rfl, (fun i hi => by simp at hi), by simp, by simp, (fun w hw => by rw [n6]; dsimp only; rw [List.getElem?_replicate, if_pos (by omega)]; rfl), (fun w hp => by rw [n6] at hp; cases hp), hb.1.symm, hb.2.symm⟩
    rw [n1, Option.bind_some]
    dsimp only [optE]
    rw [r1, Option.bind_some]
    dsimp only
    rw [if_f (by rfl), if_f (by rfl), bind_of (far_ok a2 (by omega))]
    by_cases hf : farSum (a2.take 60) > 3000
    · rw [if_t (by simpa using hf), if_t (by rfl), if_t (by rfl), bind_of (alive_ok' (by omega))]
    · rw [if_f (by simpa using by omega), bind_of (short_ok a2)]
      obtain ⟨x, hx⟩ := plays_l1 (a0 % 301).toNat (a2.take 60) (List.length_take_le _ _) (far_len hf) (fun y hy => w2 y (List.mem_of_mem_take hy)) (a2.take 60).length 0 (by omega) b _ n2 (by rw [n6]; trivial) hrel 40000 (by have := List.length_take_le 60 a2; omega)
      have hx' : downhaullaw26_RbufPlays.l1 40000 (a2.take 60) 0 ⟨a0 % 301, a1, [], List.replicate ((a0 % 301).toNat + 1) false, List.replicate ((a0 % 301).toNat + 1) 0, 0, false⟩ b = some (.inr x) := hx
      rw [hx', Option.bind_some]
      dsimp only [brk]
      rw [bind_of (alive_ok' (by omega))]
end Go.V
