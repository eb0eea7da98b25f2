/- What comes in: what is known of it, and how it stands in memory; the plain statement. -/
import Derived.Test.YtafghfchflngiaaMx7
import Derived.Test.YtafghfchflngiaaVz
set_option maxRecDepth 100000
set_option linter.unusedVariables false
namespace Go.V
open Go Go.Proofs
def phiTB (x : TB) : Prop := (wfI .u32 x.le) ∧ (wfI .u32 x.ri)
theorem opensTB {H : Type} {enc : TypeId × Value → H} {W : World} : Opens enc Try.prog W 84 kTB phiTB := fun fuel cs y h => by
  obtain ⟨hl, hf⟩ := open_flds [(0, 27, 1), (1, 27, 1)] (by kernel_rfl) h
  obtain ⟨n0, y0, h0⟩ := hf 0 0 27 1 rfl
  obtain ⟨b0, e0, _, w0⟩ := DataW.trod_int (k := .u32) (by kernel_rfl) h0
  obtain ⟨n1, y1, h1⟩ := hf 1 1 27 1 rfl
  obtain ⟨b1, e1, _, w1⟩ := DataW.trod_int (k := .u32) (by kernel_rfl) h1
  have hc : cs = [v32 b0] ++ ([v32 b1] ++ []) := part 0 1 e0 (part 1 1 e1 (part_end hl))
  exact ⟨(⟨b0, b1⟩ : TB), ⟨w0, w1⟩, hc⟩
def phiTM (x : TM) : Prop := (wfI .u8 x.x0) ∧ (wfI .u8 x.x1) ∧ (wfI .u8 x.x2) ∧ (wfI .u8 x.x3) ∧ (wfI .u8 x.x4) ∧ (wfI .u8 x.x5) ∧ (wfI .u8 x.x6) ∧ (wfI .u8 x.x7) ∧ (wfI .u8 x.x8) ∧ (wfI .u8 x.x9) ∧ (wfI .u8 x.x10) ∧ (wfI .u8 x.x11)
theorem opensTM {H : Type} {enc : TypeId × Value → H} {W : World} : Opens enc Try.prog W 29 kTM phiTM := fun fuel cs y h => by
  obtain ⟨hl, hf⟩ := open_flds [(0, 5, 1), (1, 5, 1), (2, 5, 1), (3, 5, 1), (4, 5, 1), (5, 5, 1), (6, 5, 1), (7, 5, 1), (8, 5, 1), (9, 5, 1), (10, 5, 1), (11, 5, 1)] (by kernel_rfl) h
  obtain ⟨n0, y0, h0⟩ := hf 0 0 5 1 rfl
  obtain ⟨b0, e0, _, w0⟩ := DataW.trod_int (k := .u8) (by kernel_rfl) h0
  obtain ⟨n1, y1, h1⟩ := hf 1 1 5 1 rfl
  obtain ⟨b1, e1, _, w1⟩ := DataW.trod_int (k := .u8) (by kernel_rfl) h1
  obtain ⟨n2, y2, h2⟩ := hf 2 2 5 1 rfl
  obtain ⟨b2, e2, _, w2⟩ := DataW.trod_int (k := .u8) (by kernel_rfl) h2
  obtain ⟨n3, y3, h3⟩ := hf 3 3 5 1 rfl
  obtain ⟨b3, e3, _, w3⟩ := DataW.trod_int (k := .u8) (by kernel_rfl) h3
  obtain ⟨n4, y4, h4⟩ := hf 4 4 5 1 rfl
  obtain ⟨b4, e4, _, w4⟩ := DataW.trod_int (k := .u8) (by kernel_rfl) h4
  obtain ⟨n5, y5, h5⟩ := hf 5 5 5 1 rfl
  obtain ⟨b5, e5, _, w5⟩ := DataW.trod_int (k := .u8) (by kernel_rfl) h5
  obtain ⟨n6, y6, h6⟩ := hf 6 6 5 1 rfl
  obtain ⟨b6, e6, _, w6⟩ := DataW.trod_int (k := .u8) (by kernel_rfl) h6
  obtain ⟨n7, y7, h7⟩ := hf 7 7 5 1 rfl
  obtain ⟨b7, e7, _, w7⟩ := DataW.trod_int (k := .u8) (by kernel_rfl) h7
  obtain ⟨n8, y8, h8⟩ := hf 8 8 5 1 rfl
  obtain ⟨b8, e8, _, w8⟩ := DataW.trod_int (k := .u8) (by kernel_rfl) h8
  obtain ⟨n9, y9, h9⟩ := hf 9 9 5 1 rfl
  obtain ⟨b9, e9, _, w9⟩ := DataW.trod_int (k := .u8) (by kernel_rfl) h9
  obtain ⟨n10, y10, h10⟩ := hf 10 10 5 1 rfl
  obtain ⟨b10, e10, _, w10⟩ := DataW.trod_int (k := .u8) (by kernel_rfl) h10
  obtain ⟨n11, y11, h11⟩ := hf 11 11 5 1 rfl
  obtain ⟨b11, e11, _, w11⟩ := DataW.trod_int (k := .u8) (by kernel_rfl) h11
  have hc : cs = [v8 b0] ++ ([v8 b1] ++ ([v8 b2] ++ ([v8 b3] ++ ([v8 b4] ++ ([v8 b5] ++ ([v8 b6] ++ ([v8 b7] ++ ([v8 b8] ++ ([v8 b9] ++ ([v8 b10] ++ ([v8 b11] ++ []))))))))))) := part 0 1 e0 (part 1 1 e1 (part 2 1 e2 (part 3 1 e3 (part 4 1 e4 (part 5 1 e5 (part 6 1 e6 (part 7 1 e7 (part 8 1 e8 (part 9 1 e9 (part 10 1 e10 (part 11 1 e11 (part_end hl))))))))))))
  exact ⟨(⟨b0, b1, b2, b3, b4, b5, b6, b7, b8, b9, b10, b11⟩ : TM), ⟨w0, w1, w2, w3, w4, w5, w6, w7, w8, w9, w10, w11⟩, hc⟩
def phiTO (x : TO) : Prop := (wfI .u16 x.ms) ∧ (wfI .u8 x.sc) ∧ (x.sk.length ≤ maxLen ∧ ∀ y ∈ x.sk, phiTB y) ∧ (wfI .u32 x.va) ∧ (wfI .u32 x.ec) ∧ (wfI .u8 x.ki) ∧ (wfI .u8 x.ni) ∧ (phiTM x.m)
theorem opensTO {H : Type} {enc : TypeId × Value → H} {W : World} : Opens enc Try.prog W 31 kTO phiTO := fun fuel cs y h => by
  obtain ⟨hl, hf⟩ := open_flds [(0, 4, 1), (1, 26, 1), (2, 4, 1), (3, 5, 1), (4, 4, 1), (5, 28, 1), (6, 4, 1), (7, 27, 1), (8, 27, 1), (9, 4, 1), (10, 5, 1), (11, 5, 1), (12, 29, 12)] (by kernel_rfl) h
  obtain ⟨n0, y0, h0⟩ := hf 0 0 4 1 rfl
  obtain ⟨b0, e0, _⟩ := DataW.trod_bool (by kernel_rfl) h0
  obtain ⟨n1, y1, h1⟩ := hf 1 1 26 1 rfl
  obtain ⟨b1, e1, _, w1⟩ := DataW.trod_int (k := .u16) (by kernel_rfl) h1
  obtain ⟨n2, y2, h2⟩ := hf 2 2 4 1 rfl
  obtain ⟨b2, e2, _⟩ := DataW.trod_bool (by kernel_rfl) h2
  obtain ⟨n3, y3, h3⟩ := hf 3 3 5 1 rfl
  obtain ⟨b3, e3, _, w3⟩ := DataW.trod_int (k := .u8) (by kernel_rfl) h3
  obtain ⟨n4, y4, h4⟩ := hf 4 4 4 1 rfl
  obtain ⟨b4, e4, _⟩ := DataW.trod_bool (by kernel_rfl) h4
  obtain ⟨n5, y5, h5⟩ := hf 5 5 28 1 rfl
  obtain ⟨b5, A5, c5, e5, s5, m5, w5, _⟩ := open_sl (opensTB ) (by kernel_rfl) (by kernel_rfl) h5
  obtain ⟨n6, y6, h6⟩ := hf 6 6 4 1 rfl
  obtain ⟨b6, e6, _⟩ := DataW.trod_bool (by kernel_rfl) h6
  obtain ⟨n7, y7, h7⟩ := hf 7 7 27 1 rfl
  obtain ⟨b7, e7, _, w7⟩ := DataW.trod_int (k := .u32) (by kernel_rfl) h7
  obtain ⟨n8, y8, h8⟩ := hf 8 8 27 1 rfl
  obtain ⟨b8, e8, _, w8⟩ := DataW.trod_int (k := .u32) (by kernel_rfl) h8
  obtain ⟨n9, y9, h9⟩ := hf 9 9 4 1 rfl
  obtain ⟨b9, e9, _⟩ := DataW.trod_bool (by kernel_rfl) h9
  obtain ⟨n10, y10, h10⟩ := hf 10 10 5 1 rfl
  obtain ⟨b10, e10, _, w10⟩ := DataW.trod_int (k := .u8) (by kernel_rfl) h10
  obtain ⟨n11, y11, h11⟩ := hf 11 11 5 1 rfl
  obtain ⟨b11, e11, _, w11⟩ := DataW.trod_int (k := .u8) (by kernel_rfl) h11
  obtain ⟨n12, y12, h12⟩ := hf 12 12 29 12 rfl
  obtain ⟨b12, w12, K12⟩ := opensTM _ _ _ h12
  have e12 : (cs.drop 12).take 12 = [v8 b12.x0, v8 b12.x1, v8 b12.x2, v8 b12.x3, v8 b12.x4, v8 b12.x5, v8 b12.x6, v8 b12.x7, v8 b12.x8, v8 b12.x9, v8 b12.x10, v8 b12.x11] := K12
  have hc : cs = [vb b0] ++ ([v16 b1] ++ ([vb b2] ++ ([v8 b3] ++ ([vb b4] ++ ([.slice A5 b5.length c5] ++ ([vb b6] ++ ([v32 b7] ++ ([v32 b8] ++ ([vb b9] ++ ([v8 b10] ++ ([v8 b11] ++ ([v8 b12.x0, v8 b12.x1, v8 b12.x2, v8 b12.x3, v8 b12.x4, v8 b12.x5, v8 b12.x6, v8 b12.x7, v8 b12.x8, v8 b12.x9, v8 b12.x10, v8 b12.x11] ++ [])))))))))))) := part 0 1 e0 (part 1 1 e1 (part 2 1 e2 (part 3 1 e3 (part 4 1 e4 (part 5 1 e5 (part 6 1 e6 (part 7 1 e7 (part 8 1 e8 (part 9 1 e9 (part 10 1 e10 (part 11 1 e11 (part 12 12 e12 (part_end hl)))))))))))))
  exact ⟨(⟨b0, b1, b2, b3, b4, b5, b6, b7, b8, b9, b10, b11, b12⟩ : TO), ⟨w1, w3, ⟨Nat.le_trans s5.1 m5, w5⟩, w7, w8, w10, w11, w12⟩, ⟨A5, c5, s5, hc⟩⟩
def phiTS (x : TS) : Prop := (wfI .u16 x.sr) ∧ (wfI .u16 x.ds) ∧ (wfI .u32 x.sq) ∧ (wfI .u32 x.ak) ∧ (wfI .u8 x.fl) ∧ (wfI .u16 x.wi) ∧ (wfI .u16 x.ur) ∧ (phiTO x.o) ∧ (x.da.length ≤ maxLen ∧ ∀ y ∈ x.da, (wfI .u8) y)
theorem opensTS {H : Type} {enc : TypeId × Value → H} {W : World} : Opens enc Try.prog W 34 kTS phiTS := fun fuel cs y h => by
  obtain ⟨hl, hf⟩ := open_flds [(0, 26, 1), (1, 26, 1), (2, 27, 1), (3, 27, 1), (4, 5, 1), (5, 26, 1), (6, 26, 1), (7, 31, 24), (31, 32, 1)] (by kernel_rfl) h
  obtain ⟨n0, y0, h0⟩ := hf 0 0 26 1 rfl
  obtain ⟨b0, e0, _, w0⟩ := DataW.trod_int (k := .u16) (by kernel_rfl) h0
  obtain ⟨n1, y1, h1⟩ := hf 1 1 26 1 rfl
  obtain ⟨b1, e1, _, w1⟩ := DataW.trod_int (k := .u16) (by kernel_rfl) h1
  obtain ⟨n2, y2, h2⟩ := hf 2 2 27 1 rfl
  obtain ⟨b2, e2, _, w2⟩ := DataW.trod_int (k := .u32) (by kernel_rfl) h2
  obtain ⟨n3, y3, h3⟩ := hf 3 3 27 1 rfl
  obtain ⟨b3, e3, _, w3⟩ := DataW.trod_int (k := .u32) (by kernel_rfl) h3
  obtain ⟨n4, y4, h4⟩ := hf 4 4 5 1 rfl
  obtain ⟨b4, e4, _, w4⟩ := DataW.trod_int (k := .u8) (by kernel_rfl) h4
  obtain ⟨n5, y5, h5⟩ := hf 5 5 26 1 rfl
  obtain ⟨b5, e5, _, w5⟩ := DataW.trod_int (k := .u16) (by kernel_rfl) h5
  obtain ⟨n6, y6, h6⟩ := hf 6 6 26 1 rfl
  obtain ⟨b6, e6, _, w6⟩ := DataW.trod_int (k := .u16) (by kernel_rfl) h6
  obtain ⟨n7, y7, h7⟩ := hf 7 7 31 24 rfl
  obtain ⟨b7, w7, K7⟩ := opensTO _ _ _ h7
  obtain ⟨A7_5, c7_5, s7_5, e7⟩ := K7
  obtain ⟨n8, y8, h8⟩ := hf 8 31 32 1 rfl
  obtain ⟨b8, A8, c8, e8, s8, m8, w8, _⟩ := open_sl (opens_int (t := 5) (k := .u8) (by kernel_rfl)) (by kernel_rfl) (by kernel_rfl) h8
  have hc : cs = [v16 b0] ++ ([v16 b1] ++ ([v32 b2] ++ ([v32 b3] ++ ([v8 b4] ++ ([v16 b5] ++ ([v16 b6] ++ ([vb b7.hM, v16 b7.ms, vb b7.hS, v8 b7.sc, vb b7.sO, .slice A7_5 b7.sk.length c7_5, vb b7.hT, v32 b7.va, v32 b7.ec, vb b7.hO, v8 b7.ki, v8 b7.ni, v8 b7.m.x0, v8 b7.m.x1, v8 b7.m.x2, v8 b7.m.x3, v8 b7.m.x4, v8 b7.m.x5, v8 b7.m.x6, v8 b7.m.x7, v8 b7.m.x8, v8 b7.m.x9, v8 b7.m.x10, v8 b7.m.x11] ++ ([.slice A8 b8.length c8] ++ [])))))))) := part 0 1 e0 (part 1 1 e1 (part 2 1 e2 (part 3 1 e3 (part 4 1 e4 (part 5 1 e5 (part 6 1 e6 (part 7 24 e7 (part 31 1 e8 (part_end hl)))))))))
  exact ⟨(⟨b0, b1, b2, b3, b4, b5, b6, b7, b8⟩ : TS), ⟨w0, w1, w2, w3, w4, w5, w6, w7, ⟨Nat.le_trans s8.1 m8, w8⟩⟩, ⟨A7_5, c7_5, A8, c8, s7_5, s8, hc⟩⟩
/-- The plain statement. -/
def PureSegTrimmed : Prop := ∀ (a0 : TS) (a1 : Int) (a2 : Int), (phiTS a0) → (wfI .u32 a1) → (wfI .u32 a2) → ∃ k : Nat, w_SegTrimmed.f k a0 a1 a2 = some true
end Go.V
