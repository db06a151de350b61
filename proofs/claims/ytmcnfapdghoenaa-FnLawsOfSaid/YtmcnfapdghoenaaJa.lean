
/- Survivors at nodes, by whole numbers. Plain. -/
import Derived.Test.YtmcnfapdghoenaaJ9
namespace Go.Proofs.Ytmcnfapdghoenaa
open Go Go.RowKit

attribute [local irreducible] tw EX eN eP EN
def TR : Rat := 4398046511104
def KR : Rat := 1048576
theorem wR_TR : wR = TR * 256 := by decide +kernel
theorem TRv : TR = 4398046511104 := rfl
theorem wRv : wR = 1125899906842624 := rfl
theorem KRv : KR = 1048576 := rfl
theorem EX_8 : EX 8 ≤ 3300 := by decide +kernel
theorem EX_3 : 20 ≤ EX (299999 / 100000) := by decide +kernel
theorem EX_31 : EX (301 / 100) ≤ 21 := by decide +kernel
theorem EX_any {x y : Rat} (h1 : -200 ≤ x) (h : x ≤ y) (h2 : y ≤ 8) : EX y - EX x ≤ 4200 * (y - x) := by
  by_cases h0 : y ≤ 0
  · have := EX_lip h1 h h0; grind
  · have a := EX_lip2 h1 h (by grind) h2
    have b := EX_mono (show -200 ≤ y by grind) h2 (by decide)
    have c := EX_8
    have d := Rat.mul_le_mul_of_nonneg_right (show 5 / 4 * EX y ≤ 4200 by grind) (show 0 ≤ y - x by grind)
    grind
theorem EX_close {x y d : Rat} (x1 : -200 ≤ x) (x2 : x ≤ 8) (y1 : -200 ≤ y) (y2 : y ≤ 8) (h1 : x ≤ y + d) (h2 : y ≤ x + d) (hd : 0 ≤ d) : EX x ≤ EX y + 4200 * d ∧ EX y ≤ EX x + 4200 * d := by
  by_cases h : x ≤ y
  · have a := EX_any x1 h y2
    have b := EX_mono x1 h y2
    constructor <;> grind
  · have a := EX_any y1 (show y ≤ x by grind) x2
    have b := EX_mono y1 (show y ≤ x by grind) x2
    constructor <;> grind
theorem TR_pos : 0 < TR := by decide +kernel
theorem by_TR {a b : Rat} (h : a * TR ≤ b * TR) : a ≤ b := by
  by_cases hc : a ≤ b
  · exact hc
  · have := Rat.mul_pos (show 0 < a - b by grind) TR_pos; grind
theorem over_TR (n : Nat) : ∃ x : Rat, x * TR = (n : Rat) ∧ 0 ≤ x := by
  refine ⟨(n : Rat) * TR⁻¹, ?_, jmul_nn (Rat.natCast_nonneg) (Rat.le_of_lt (Rat.inv_pos.2 TR_pos))⟩
  rw [Rat.mul_assoc, Rat.inv_mul_cancel _ (by have := TR_pos; grind)]; grind
theorem eN_at {z : Nat} {Z : Rat} (h1 : Z * TR ≤ -(z : Rat) + 130) (h2 : -(z : Rat) ≤ Z * TR + 130) (z1 : -100 ≤ Z) (z2 : Z ≤ 79 / 10) : (eN z : Rat) ≤ EX Z * wR + wR / 3000000 ∧ EX Z * wR ≤ (eN z : Rat) + wR / 3000000 := by
  obtain ⟨x, hx, x0⟩ := over_TR z
  have d1 : Z ≤ -x + 1 / 33000000000 := by_TR (by rw [TRv] at *; grind)
  have d2 : -x ≤ Z + 1 / 33000000000 := by_TR (by rw [TRv] at *; grind)
  obtain ⟨a, b⟩ := eN_near (a := z) (x := -x) (by rw [wR_TR, ← hx]; grind) (by grind) (by grind)
  obtain ⟨c, d⟩ := EX_close (x := -x) (y := Z) (d := 1 / 33000000000) (by grind) (by grind) (by grind) (by grind) d2 d1 (by grind)
  have c' := Rat.mul_le_mul_of_nonneg_right c (Rat.le_of_lt wR_pos)
  have d' := Rat.mul_le_mul_of_nonneg_right d (Rat.le_of_lt wR_pos)
  rw [wRv] at *
  constructor <;> grind
theorem eP_at {z : Nat} {Z : Rat} (h1 : Z * TR ≤ (z : Rat) + 130) (h2 : (z : Rat) ≤ Z * TR + 130) (z1 : -1 ≤ Z) (z2 : Z ≤ 79 / 10) : (eP z : Rat) ≤ EX Z * wR + wR / 3000000 ∧ EX Z * wR ≤ (eP z : Rat) + wR / 3000000 := by
  obtain ⟨x, hx, x0⟩ := over_TR z
  have d1 : Z ≤ x + 1 / 33000000000 := by_TR (by rw [TRv] at *; grind)
  have d2 : x ≤ Z + 1 / 33000000000 := by_TR (by rw [TRv] at *; grind)
  obtain ⟨⟨a, b⟩, e⟩ := eP_near (a := z) (x := x) (by rw [wR_TR, ← hx]; grind) x0 (by grind)
  obtain ⟨c, d⟩ := EX_close (x := x) (y := Z) (d := 1 / 33000000000) (by grind) (by grind) (by grind) (by grind) d2 d1 (by grind)
  have f := EX_mono (show -200 ≤ x by grind) (show x ≤ 8 by grind) (by decide)
  have g := EX_8
  have c' := Rat.mul_le_mul_of_nonneg_right c (Rat.le_of_lt wR_pos)
  have d' := Rat.mul_le_mul_of_nonneg_right d (Rat.le_of_lt wR_pos)
  rw [wRv] at *
  constructor <;> grind
def k1 (e : Nat) : Nat := Nat.shiftRight (eN (Nat.shiftRight e 8)) 30
def k2 (e : Nat) : Nat := Nat.div 1180591620717411303424 (Nat.add 1125899906842624 e)
theorem EN_near {a b d : Rat} (ha : 0 ≤ a) (hb : 0 ≤ b) (h1 : a ≤ b + d) (h2 : b ≤ a + d) (hd : 0 ≤ d) : EN a ≤ EN b + 5 / 4 * d ∧ EN b ≤ EN a + 5 / 4 * d := by
  by_cases h : a ≤ b
  · obtain ⟨p, q⟩ := EN_fall ha h
    constructor <;> grind
  · obtain ⟨p, q⟩ := EN_fall hb (show b ≤ a by grind)
    constructor <;> grind
theorem EN_EX {a : Rat} (h0 : 0 ≤ a) (h1 : a ≤ 100) : EN a ≤ EX (-a) + 1 / 50000000 ∧ EX (-a) ≤ EN a + 1 / 50000000 := by
  by_cases h : a ≤ 20
  · have : EN a = EX (-a) := by unfold EN; rw [if_pos h]
    rw [this]; constructor <;> grind
  · rw [EN_big (by grind)]
    have a1 := EX_20
    have a2 := EX_mono (show -200 ≤ -a by grind) (show -a ≤ -20 by grind) (by decide)
    constructor <;> grind
theorem k1_at {e : Nat} {A : Rat} (h1 : (e : Rat) ≤ A * wR + wR / 3000000) (h2 : A * wR ≤ (e : Rat) + wR / 3000000) (a0 : 0 ≤ A) (a1 : A ≤ 22) : (k1 e : Rat) ≤ EN A * KR + 3 ∧ EN A * KR ≤ (k1 e : Rat) + 3 := by
  obtain ⟨f1, f2⟩ := floor_near (a := e) (show 0 < 256 by decide)
  have es : Nat.shiftRight e 8 = e / 256 := by show e >>> 8 = _; rw [Nat.shiftRight_eq_div_pow]
  have ek : k1 e = eN (e / 256) / 1073741824 := by
    show Nat.shiftRight (eN (Nat.shiftRight e 8)) 30 = _
    rw [es]; show _ >>> 30 = _; rw [Nat.shiftRight_eq_div_pow]
  obtain ⟨g1, g2⟩ := floor_near (a := eN (e / 256)) (show 0 < 1073741824 by decide)
  rw [ek]
  have c1 : ((256 : Nat) : Rat) = 256 := rfl
  have c2 : ((1073741824 : Nat) : Rat) = 1073741824 := rfl
  rw [c1] at f1 f2
  rw [c2] at g1 g2
  obtain ⟨x, hx, x0⟩ := over_TR (e / 256)
  have d1 : x ≤ A + 1 / 2900000 := by_TR (by rw [TRv] at *; rw [wRv] at h1 h2; grind)
  have d2 : A ≤ x + 1 / 2900000 := by_TR (by rw [TRv] at *; rw [wRv] at h1 h2; grind)
  obtain ⟨a, b⟩ := eN_near (a := e / 256) (x := -x) (by rw [wR_TR, ← hx]; grind) (by grind) (by grind)
  obtain ⟨p, q⟩ := EN_near x0 a0 d1 d2 (by grind)
  obtain ⟨r, s⟩ := EN_EX x0 (by grind)
  generalize ((eN (e / 256) / 1073741824 : Nat) : Rat) = N at *
  generalize ((eN (e / 256) : Nat) : Rat) = M at *
  rw [wRv] at *
  rw [KRv]
  constructor <;> grind
theorem k2_at {e : Nat} {A : Rat} (h1 : (e : Rat) ≤ A * wR + wR / 3000000) (h2 : A * wR ≤ (e : Rat) + wR / 3000000) (a0 : 0 ≤ A) : (k2 e : Rat) ≤ (1 + A)⁻¹ * KR + 3 ∧ (1 + A)⁻¹ * KR ≤ (k2 e : Rat) + 3 := by
  obtain ⟨f1, f2⟩ := floor_near (a := 1180591620717411303424) (b := 1125899906842624 + e) (by omega)
  have ek : k2 e = 1180591620717411303424 / (1125899906842624 + e) := rfl
  rw [ek]
  have c1 : ((1180591620717411303424 : Nat) : Rat) = wR * KR := by decide +kernel
  rw [Rat.natCast_add, c1] at f1 f2
  have c2 : ((1125899906842624 : Nat) : Rat) = wR := rfl
  rw [c2] at f1 f2
  have hw := wR_pos
  -- e by wR is B
  obtain ⟨B, hB, B0⟩ : ∃ B : Rat, B * wR = (e : Rat) ∧ 0 ≤ B := by
    refine ⟨(e : Rat) * wR⁻¹, ?_, jmul_nn (Rat.natCast_nonneg) (Rat.le_of_lt (Rat.inv_pos.2 hw))⟩
    rw [Rat.mul_assoc, Rat.inv_mul_cancel _ (by grind)]; grind
  rw [← hB] at f1 f2 h1 h2
  generalize ((1180591620717411303424 / (1125899906842624 + e) : Nat) : Rat) = q at *
  have q1 : q * (1 + B) ≤ KR := by
    by_cases hc : q * (1 + B) ≤ KR
    · exact hc
    · have := Rat.mul_pos (show 0 < q * (1 + B) - KR by grind) hw; grind
  have q2 : KR ≤ q * (1 + B) + (1 + B) := by
    by_cases hc : KR ≤ q * (1 + B) + (1 + B)
    · exact hc
    · have := Rat.mul_pos (show 0 < KR - (q * (1 + B) + (1 + B)) by grind) hw; grind
  have b1 : B ≤ A + 1 / 3000000 := by
    by_cases hc : B ≤ A + 1 / 3000000
    · exact hc
    · have := Rat.mul_pos (show 0 < B - (A + 1 / 3000000) by grind) hw; grind
  have b2 : A ≤ B + 1 / 3000000 := by
    by_cases hc : A ≤ B + 1 / 3000000
    · exact hc
    · have := Rat.mul_pos (show 0 < A - (B + 1 / 3000000) by grind) hw; grind
  obtain ⟨i1, i2⟩ := inv_in (show 1 ≤ 1 + B by grind)
  obtain ⟨j1, j2⟩ := inv_in (show 1 ≤ 1 + A by grind)
  have iB : (1 + B) * (1 + B)⁻¹ = 1 := Rat.mul_inv_cancel _ (by grind)
  have r1 := Rat.mul_le_mul_of_nonneg_right q1 (Rat.le_of_lt i1)
  have r2 := Rat.mul_le_mul_of_nonneg_right q2 (Rat.le_of_lt i1)
  have t1 : q * (1 + B) * (1 + B)⁻¹ = q := by rw [Rat.mul_assoc, iB]; grind
  have t2 : (q * (1 + B) + (1 + B)) * (1 + B)⁻¹ = q + 1 := by
    have : (q * (1 + B) + (1 + B)) * (1 + B)⁻¹ = q * ((1 + B) * (1 + B)⁻¹) + (1 + B) * (1 + B)⁻¹ := by grind
    rw [this, iB]; grind
  rw [t1] at r1
  rw [t2] at r2
  have u : (1 + A)⁻¹ ≤ (1 + B)⁻¹ + 1 / 3000000 ∧ (1 + B)⁻¹ ≤ (1 + A)⁻¹ + 1 / 3000000 := by
    by_cases h : A ≤ B
    · obtain ⟨p, q⟩ := inv_fall a0 h
      have k1 := jmul_le i2 (jmul_nn (show 0 ≤ B - A by grind) (Rat.le_of_lt j1))
      have k2 := jmul_le j2 (show 0 ≤ B - A by grind)
      constructor <;> grind
    · obtain ⟨p, q⟩ := inv_fall B0 (show B ≤ A by grind)
      have k1 := jmul_le j2 (jmul_nn (show 0 ≤ A - B by grind) (Rat.le_of_lt i1))
      have k2 := jmul_le i2 (show 0 ≤ A - B by grind)
      constructor <;> grind
  clear f1 f2 q1 q2 t1 t2 iB h1 h2 hB
  generalize (1 + A)⁻¹ = a at *
  generalize (1 + B)⁻¹ = b at *
  rw [KRv] at *
  constructor <;> grind
end Go.Proofs.Ytmcnfapdghoenaa
