
/- The exact exponential by whole numbers. Plain. Condition: numbers from -200 to 8. -/
import Derived.Test.YtmcnfapdghoenaaJC
namespace Go.Proofs.Ytmcnfapdghoenaa
open Go Go.RowKit

attribute [local irreducible] tw EX
/-- One, in whole numbers. -/
def wO : Nat := 1125899906842624
def wR : Rat := 1125899906842624
theorem wO_R : (wO : Rat) = wR := rfl
theorem wR_pos : 0 < wR := by decide +kernel
def hN (a : Nat) : Nat → Nat
  | 0 => wO
  | j + 1 => Nat.sub wO (Nat.div (Nat.shiftRight (Nat.mul a (hN a j)) 50) (12 - j))
def hP (a : Nat) : Nat → Nat
  | 0 => wO
  | j + 1 => Nat.add wO (Nat.div (Nat.shiftRight (Nat.mul a (hP a j)) 50) (12 - j))
def qN (p : Nat) : Nat → Nat
  | 0 => p
  | j + 1 => Nat.shiftRight (Nat.mul (qN p j) (qN p j)) 50
theorem floor_near {a b : Nat} (hb : 0 < b) : ((a / b : Nat) : Rat) * (b : Rat) ≤ (a : Rat) ∧ (a : Rat) ≤ ((a / b : Nat) : Rat) * (b : Rat) + (b : Rat) := by
  have h1 := Nat.div_add_mod a b
  have h3 := Nat.mod_lt a hb
  have e : a / b * b = b * (a / b) := Nat.mul_comm _ _
  have k1 : a / b * b ≤ a := by omega
  have k2 : a ≤ a / b * b + b := by omega
  constructor
  · have : ((a / b * b : Nat) : Rat) ≤ (a : Rat) := by exact_mod_cast k1
    rw [Rat.natCast_mul] at this; exact this
  · have : (a : Rat) ≤ ((a / b * b + b : Nat) : Rat) := by exact_mod_cast k2
    rw [Rat.natCast_add, Rat.natCast_mul] at this; exact this
/-- Near in whole numbers: n by wO is x, but for e by wO. -/
def Wn (n : Nat) (x e : Rat) : Prop := (n : Rat) ≤ x * wR + e ∧ x * wR ≤ (n : Rat) + e
theorem shr50 (n : Nat) : Nat.shiftRight n 50 = n / wO := by
  show n >>> 50 = _
  rw [Nat.shiftRight_eq_div_pow]; rfl
/-- One part of Horner's rule. -/
theorem wn_part {a h k : Nat} {x p : Rat} (ha : (a : Rat) = x * wR) (hh : Wn h p 6) (x0 : 0 ≤ x) (x1 : x ≤ 4 / 5) (p0 : 0 ≤ p) (hk : 1 ≤ k) : Wn (Nat.div (Nat.shiftRight (Nat.mul a h) 50) k) (x * p / (k : Rat)) 6 := by
  obtain ⟨b1, b2⟩ := hh
  have w0 := wR_pos
  have hkp : 0 < wO * k := Nat.mul_pos (by decide) hk
  have hk1 : (1 : Rat) ≤ (k : Rat) := by exact_mod_cast hk
  obtain ⟨f1, f2⟩ := floor_near (a := a * h) hkp
  have e0 : Nat.div (Nat.shiftRight (Nat.mul a h) 50) k = a * h / (wO * k) := by
    rw [shr50]; show a * h / wO / k = _; rw [Nat.div_div_eq_div_mul]
  rw [Rat.natCast_mul, Rat.natCast_mul, wO_R, ha] at f1 f2
  unfold Wn
  rw [e0]
  generalize ((a * h / (wO * k) : Nat) : Rat) = q at *
  generalize (h : Rat) = H at *
  generalize (k : Rat) = K at *
  obtain ⟨i1, i2⟩ := inv_in hk1
  have iK : K⁻¹ * K = 1 := Rat.inv_mul_cancel _ (by grind)
  rw [Rat.div_def]
  obtain ⟨g1, g2⟩ := j_abs (u := x) (v := H - p * wR) (e := 4 / 5) (B := 6) (by grind) (by grind) (by grind) (by grind)
  have c1 : q * K ≤ x * H := by
    by_cases hc : q * K ≤ x * H
    · exact hc
    · have := Rat.mul_pos (show 0 < q * K - x * H by grind) w0; grind
  have c2 : x * H ≤ q * K + K := by
    by_cases hc : x * H ≤ q * K + K
    · exact hc
    · have := Rat.mul_pos (show 0 < x * H - (q * K + K) by grind) w0; grind
  have d1 := Rat.mul_le_mul_of_nonneg_right c1 (Rat.le_of_lt i1)
  have d2 := Rat.mul_le_mul_of_nonneg_right c2 (Rat.le_of_lt i1)
  have e1 : q * K * K⁻¹ = q := by rw [Rat.mul_assoc, Rat.mul_comm K, iK]; grind
  have e2 : (q * K + K) * K⁻¹ = q + 1 := by
    have : (q * K + K) * K⁻¹ = q * (K⁻¹ * K) + K⁻¹ * K := by grind
    rw [this, iK]; grind
  rw [e1] at d1
  rw [e2] at d2
  obtain ⟨r1, r2⟩ := j_abs (u := x * (H - p * wR)) (v := K⁻¹) (e := 24 / 5) (B := 1) (by grind) (by grind) (by grind) i2
  have e3 : x * H * K⁻¹ = x * p * K⁻¹ * wR + x * (H - p * wR) * K⁻¹ := by grind
  rw [e3] at d1 d2
  generalize x * (H - p * wR) * K⁻¹ = R at *
  generalize x * p * K⁻¹ * wR = T at *
  clear f1 f2 g1 g2 c1 c2 e3 iK i1 i2
  constructor <;> grind
theorem wn_neg {a : Nat} {x : Rat} (ht : (a : Rat) = -x * wR) (h1 : -4 / 5 ≤ x) (h2 : x ≤ 0) : ∀ j, j ≤ 12 → Wn (hN a j) (pH x j) 6
  | 0, _ => by
    unfold Wn
    have : (hN a 0 : Nat) = wO := rfl
    rw [this, wO_R]
    show wR ≤ 1 * wR + 6 ∧ 1 * wR ≤ wR + 6
    constructor <;> grind
  | j + 1, hj => by
    obtain ⟨p1, p2⟩ := pH_in h1 (show x ≤ 1 / 25 by grind) j (by omega)
    obtain ⟨q1, q2⟩ := pH_neg h1 h2 (j + 1) (by omega)
    obtain ⟨a1, a2⟩ := wn_part (k := 12 - j) ht (wn_neg ht h1 h2 j (by omega)) (by grind) (by grind) (by grind) (by omega)
    have ep : pH x (j + 1) = 1 + x * pH x j / ((12 - j : Nat) : Rat) := rfl
    have en : -x * pH x j / ((12 - j : Nat) : Rat) = -(x * pH x j / ((12 - j : Nat) : Rat)) := by rw [Rat.div_def, Rat.div_def]; grind
    rw [en] at a1 a2
    have hq : hN a (j + 1) = wO - Nat.div (Nat.shiftRight (Nat.mul a (hN a j)) 50) (12 - j) := rfl
    have hwR : wR = 1125899906842624 := rfl
    generalize Nat.div (Nat.shiftRight (Nat.mul a (hN a j)) 50) (12 - j) = q at *
    rw [ep] at q1 q2 ⊢
    generalize x * pH x j / ((12 - j : Nat) : Rat) = T at *
    have hle : q ≤ wO := by
      have : (q : Rat) ≤ (wO : Rat) := by
        rw [wO_R]
        have := jmul_le (show -T ≤ 4 / 5 by grind) (Rat.le_of_lt wR_pos)
        grind
      exact_mod_cast this
    have ec : ((hN a (j + 1) : Nat) : Rat) = wR - (q : Rat) := by
      have : hN a (j + 1) + q = wO := by rw [hq]; exact Nat.sub_add_cancel hle
      have : ((hN a (j + 1) + q : Nat) : Rat) = (wO : Rat) := by rw [this]
      rw [Rat.natCast_add, wO_R] at this; grind
    unfold Wn
    rw [ec]
    constructor <;> grind
theorem wn_pos {a : Nat} {x : Rat} (ht : (a : Rat) = x * wR) (h1 : 0 ≤ x) (h2 : x ≤ 1 / 25) : ∀ j, j ≤ 12 → Wn (hP a j) (pH x j) 6
  | 0, _ => by
    unfold Wn
    have : (hP a 0 : Nat) = wO := rfl
    rw [this, wO_R]
    show wR ≤ 1 * wR + 6 ∧ 1 * wR ≤ wR + 6
    constructor <;> grind
  | j + 1, hj => by
    obtain ⟨p1, p2⟩ := pH_in (show -4 / 5 ≤ x by grind) h2 j (by omega)
    obtain ⟨a1, a2⟩ := wn_part (k := 12 - j) ht (wn_pos ht h1 h2 j (by omega)) h1 (by grind) (by grind) (by omega)
    have ep : pH x (j + 1) = 1 + x * pH x j / ((12 - j : Nat) : Rat) := rfl
    have hq : hP a (j + 1) = wO + Nat.div (Nat.shiftRight (Nat.mul a (hP a j)) 50) (12 - j) := rfl
    have ec : ((hP a (j + 1) : Nat) : Rat) = wR + ((Nat.div (Nat.shiftRight (Nat.mul a (hP a j)) 50) (12 - j) : Nat) : Rat) := by
      rw [hq, Rat.natCast_add, wO_R]
    unfold Wn
    rw [ec, ep]
    constructor <;> grind
/-- Squares of what is from 0 to 1. -/
theorem wn_sq {n : Nat} {w e : Rat} (h : Wn n w e) (w0 : 0 ≤ w) (w1 : w ≤ 1) (e0 : 2 ≤ e) (e1 : e ≤ 1000000) : Wn (Nat.shiftRight (Nat.mul n n) 50) (w * w) (3 * e) := by
  obtain ⟨a, b⟩ := h
  have hw := wR_pos
  have e0' : Nat.shiftRight (Nat.mul n n) 50 = n * n / wO := shr50 _
  rw [e0']
  obtain ⟨f1, f2⟩ := floor_near (a := n * n) (show 0 < wO by decide)
  rw [Rat.natCast_mul, wO_R] at f1 f2
  unfold Wn
  generalize ((n * n / wO : Nat) : Rat) = q at *
  generalize (n : Rat) = N at *
  obtain ⟨g1, g2⟩ := j_abs (u := N - w * wR) (v := N + w * wR) (e := e) (B := 2 * wR + e) (by grind) (by grind) (by
    have := jmul_nn w0 (Rat.le_of_lt hw); grind) (by
    have := Rat.mul_le_mul_of_nonneg_right w1 (Rat.le_of_lt hw); grind)
  have e2 : N * N = w * wR * (w * wR) + (N - w * wR) * (N + w * wR) := by grind
  have e3 : w * wR * (w * wR) = w * w * wR * wR := by grind
  have hwR : wR = 1125899906842624 := rfl
  have k := jmul_le (show e ≤ wR / 1000 by rw [hwR]; grind) (show 0 ≤ e by grind)
  clear hwR
  rw [e2, e3] at f1 f2
  generalize (N - w * wR) * (N + w * wR) = D at *
  generalize hX : w * w * wR = X at *
  have k2 : e * (2 * wR + e) = 2 * e * wR + e * e := by grind
  rw [k2] at g1 g2
  have k3 : e * (wR / 1000) = e * wR / 1000 := by grind
  rw [k3] at k
  have ew := Rat.mul_le_mul_of_nonneg_right e0 (Rat.le_of_lt hw)
  constructor
  · by_cases hc : q ≤ X + 3 * e
    · exact hc
    · have := Rat.mul_pos (show 0 < q - (X + 3 * e) by grind) hw; grind
  · by_cases hc : X ≤ q + 3 * e
    · exact hc
    · have := Rat.mul_pos (show 0 < X - (q + 3 * e) by grind) hw; grind
theorem wn_sqs {n : Nat} {w : Rat} (h : Wn n w 6) (w0 : 0 ≤ w) (w1 : w ≤ 1) : ∀ j, j ≤ 8 → Wn (qN n j) (sqN w j) (6 * ((3 ^ j : Nat) : Rat)) ∧ 0 ≤ sqN w j ∧ sqN w j ≤ 1
  | 0, _ => by
    have : ((3 ^ 0 : Nat) : Rat) = 1 := rfl
    rw [this]
    exact ⟨⟨by have := h.1; show (n : Rat) ≤ w * wR + 6 * 1; grind, by have := h.2; show w * wR ≤ (n : Rat) + 6 * 1; grind⟩, w0, w1⟩
  | j + 1, hj => by
    obtain ⟨a, b, c⟩ := wn_sqs h w0 w1 j (by omega)
    have hp : ((3 ^ (j + 1) : Nat) : Rat) = 3 * ((3 ^ j : Nat) : Rat) := by rw [Nat.pow_succ, Nat.mul_comm]; exact Rat.natCast_mul 3 (3 ^ j)
    have h1 : (1 : Rat) ≤ ((3 ^ j : Nat) : Rat) := by exact_mod_cast Nat.one_le_pow _ _ (by decide)
    have h2 : ((3 ^ j : Nat) : Rat) ≤ 2187 := by
      have : 3 ^ j ≤ 3 ^ 7 := Nat.pow_le_pow_right (by decide) (by omega)
      exact_mod_cast this
    have x := wn_sq a b c (by grind) (by grind)
    have bb := jmul_nn b b
    have cc := jmul_le c b
    refine ⟨?_, bb, by show sqN w j * sqN w j ≤ 1; grind⟩
    rw [hp]
    have e : 6 * (3 * ((3 ^ j : Nat) : Rat)) = 3 * (6 * ((3 ^ j : Nat) : Rat)) := by grind
    rw [e]; exact x
/-- Squares of what is from 1 to 100; the error in proportion. -/
theorem wn_sqr {n : Nat} {w e : Rat} (h : Wn n w (e * w)) (w0 : 1 ≤ w) (w1 : w ≤ 100) (e0 : 2 ≤ e) (e1 : e ≤ 1000000) : Wn (Nat.shiftRight (Nat.mul n n) 50) (w * w) (3 * e * (w * w)) := by
  obtain ⟨a, b⟩ := h
  have hw := wR_pos
  have e0' : Nat.shiftRight (Nat.mul n n) 50 = n * n / wO := shr50 _
  rw [e0']
  obtain ⟨f1, f2⟩ := floor_near (a := n * n) (show 0 < wO by decide)
  rw [Rat.natCast_mul, wO_R] at f1 f2
  unfold Wn
  generalize ((n * n / wO : Nat) : Rat) = q at *
  generalize (n : Rat) = N at *
  have ewn := jmul_nn (show 0 ≤ e by grind) (show 0 ≤ w by grind)
  have wwn := jmul_nn (show 0 ≤ w by grind) (Rat.le_of_lt hw)
  obtain ⟨g1, g2⟩ := j_abs (u := N - w * wR) (v := N + w * wR) (e := e * w) (B := 2 * (w * wR) + e * w) (by grind) (by grind) (by grind) (by grind)
  have e2 : N * N = w * wR * (w * wR) + (N - w * wR) * (N + w * wR) := by grind
  have e3 : w * wR * (w * wR) = w * w * wR * wR := by grind
  have hwR : wR = 1125899906842624 := rfl
  have k := jmul_le (show e ≤ wR / 1000 by rw [hwR]; grind) (show 0 ≤ e by grind)
  clear hwR
  rw [e2, e3] at f1 f2
  generalize (N - w * wR) * (N + w * wR) = D at *
  have ww1 : 1 ≤ w * w := by have := jmul_le w0 (show 0 ≤ w by grind); grind
  have k1 := Rat.mul_le_mul_of_nonneg_right k (show 0 ≤ w * w by grind)
  have k2 : e * w * (2 * (w * wR) + e * w) = 2 * (e * (w * w) * wR) + e * e * (w * w) := by grind
  rw [k2] at g1 g2
  have k3 : e * (wR / 1000) * (w * w) = e * (w * w) * wR / 1000 := by grind
  rw [k3] at k1
  have ew := Rat.mul_le_mul_of_nonneg_right e0 (show 0 ≤ w * w by grind)
  have ew2 := Rat.mul_le_mul_of_nonneg_right (show 2 ≤ e * (w * w) by grind) (Rat.le_of_lt hw)
  have e4 : 3 * e * (w * w) = 3 * (e * (w * w)) := by grind
  rw [e4]
  generalize w * w * wR = X at *
  generalize e * e * (w * w) = Y at *
  generalize e * (w * w) = Z at *
  clear k k2 k3 e2 e3 e4 ewn wwn a b ww1 ew
  constructor
  · by_cases hc : q ≤ X + 3 * Z
    · exact hc
    · have := Rat.mul_pos (show 0 < q - (X + 3 * Z) by grind) hw; grind
  · by_cases hc : X ≤ q + 3 * Z
    · exact hc
    · have := Rat.mul_pos (show 0 < X - (q + 3 * Z) by grind) hw; grind
theorem wn_sqrs {n : Nat} {w : Rat} (h : Wn n w 6) (w1 : 1 ≤ w) (w2 : w ≤ 10321 / 10000) : ∀ j, j ≤ 8 → Wn (qN n j) (sqN w j) (6 * ((3 ^ j : Nat) : Rat) * sqN w j) ∧ 1 ≤ sqN w j
  | 0, _ => by
    have : ((3 ^ 0 : Nat) : Rat) = 1 := rfl
    rw [this]
    exact ⟨⟨by have := h.1; show (n : Rat) ≤ w * wR + 6 * 1 * w; grind, by have := h.2; show w * wR ≤ (n : Rat) + 6 * 1 * w; grind⟩, w1⟩
  | j + 1, hj => by
    obtain ⟨a, b⟩ := wn_sqrs h w1 w2 j (by omega)
    have hp : ((3 ^ (j + 1) : Nat) : Rat) = 3 * ((3 ^ j : Nat) : Rat) := by rw [Nat.pow_succ, Nat.mul_comm]; exact Rat.natCast_mul 3 (3 ^ j)
    have h1 : (1 : Rat) ≤ ((3 ^ j : Nat) : Rat) := by exact_mod_cast Nat.one_le_pow _ _ (by decide)
    have h2 : ((3 ^ j : Nat) : Rat) ≤ 2187 := by
      have : 3 ^ j ≤ 3 ^ 7 := Nat.pow_le_pow_right (by decide) (by omega)
      exact_mod_cast this
    have hm := (sqN_mono (by grind) w2 j).2
    have ht := sqN_top j (by omega)
    have x := wn_sqr a b (by grind) (by grind) (by grind)
    have b2 := jmul_le b (show (0 : Rat) ≤ sqN w j by grind)
    refine ⟨?_, by show 1 ≤ sqN w j * sqN w j; grind⟩
    rw [hp]
    have e : 6 * (3 * ((3 ^ j : Nat) : Rat)) * sqN w (j + 1) = 3 * (6 * ((3 ^ j : Nat) : Rat)) * (sqN w j * sqN w j) := by
      show 6 * (3 * ((3 ^ j : Nat) : Rat)) * (sqN w j * sqN w j) = _; grind
    rw [e]; exact x
def sqK (q : Nat) : Nat := Nat.shiftRight (Nat.mul q q) 50
def sq8 (q : Nat) : Nat := sqK (sqK (sqK (sqK (sqK (sqK (sqK (sqK q)))))))
def eN (a : Nat) : Nat := sq8 (Nat.sub 1125899906842624 (Nat.div (Nat.shiftRight (Nat.mul a (Nat.sub 1125899906842624 (Nat.div (Nat.shiftRight (Nat.mul a (Nat.sub 1125899906842624 (Nat.div (Nat.shiftRight (Nat.mul a (Nat.sub 1125899906842624 (Nat.div (Nat.shiftRight (Nat.mul a (Nat.sub 1125899906842624 (Nat.div (Nat.shiftRight (Nat.mul a (Nat.sub 1125899906842624 (Nat.div (Nat.shiftRight (Nat.mul a (Nat.sub 1125899906842624 (Nat.div (Nat.shiftRight (Nat.mul a (Nat.sub 1125899906842624 (Nat.div (Nat.shiftRight (Nat.mul a (Nat.sub 1125899906842624 (Nat.div (Nat.shiftRight (Nat.mul a (Nat.sub 1125899906842624 (Nat.div (Nat.shiftRight (Nat.mul a (Nat.sub 1125899906842624 (Nat.div (Nat.shiftRight (Nat.mul a (Nat.sub 1125899906842624 (Nat.div (Nat.shiftRight (Nat.mul a 1125899906842624) 50) 12))) 50) 11))) 50) 10))) 50) 9))) 50) 8))) 50) 7))) 50) 6))) 50) 5))) 50) 4))) 50) 3))) 50) 2))) 50) 1))
def eP (a : Nat) : Nat := sq8 (Nat.add 1125899906842624 (Nat.div (Nat.shiftRight (Nat.mul a (Nat.add 1125899906842624 (Nat.div (Nat.shiftRight (Nat.mul a (Nat.add 1125899906842624 (Nat.div (Nat.shiftRight (Nat.mul a (Nat.add 1125899906842624 (Nat.div (Nat.shiftRight (Nat.mul a (Nat.add 1125899906842624 (Nat.div (Nat.shiftRight (Nat.mul a (Nat.add 1125899906842624 (Nat.div (Nat.shiftRight (Nat.mul a (Nat.add 1125899906842624 (Nat.div (Nat.shiftRight (Nat.mul a (Nat.add 1125899906842624 (Nat.div (Nat.shiftRight (Nat.mul a (Nat.add 1125899906842624 (Nat.div (Nat.shiftRight (Nat.mul a (Nat.add 1125899906842624 (Nat.div (Nat.shiftRight (Nat.mul a (Nat.add 1125899906842624 (Nat.div (Nat.shiftRight (Nat.mul a (Nat.add 1125899906842624 (Nat.div (Nat.shiftRight (Nat.mul a 1125899906842624) 50) 12))) 50) 11))) 50) 10))) 50) 9))) 50) 8))) 50) 7))) 50) 6))) 50) 5))) 50) 4))) 50) 3))) 50) 2))) 50) 1))
theorem eN_eq (a : Nat) : eN a = qN (hN a 12) 8 := rfl
theorem eP_eq (a : Nat) : eP a = qN (hP a 12) 8 := rfl
/-- The exponential of what is not above nothing, by whole numbers. -/
theorem eN_near {a : Nat} {x : Rat} (ht : (a : Rat) * 256 = -x * wR) (h1 : -200 ≤ x) (h2 : x ≤ 0) : Wn (eN a) (EX x) 40000 := by
  have hx : (a : Rat) = -(x / 256) * wR := by rw [div256]; grind
  have a := wn_neg hx (by rw [div256]; grind) (by rw [div256]; grind) 12 (by decide)
  obtain ⟨c, d⟩ := pH_neg (t := x / 256) (by rw [div256]; grind) (by rw [div256]; grind) 12 (by decide)
  obtain ⟨⟨p, q⟩, -, -⟩ := wn_sqs a (by grind) d 8 (by decide)
  have b8 : ((3 ^ 8 : Nat) : Rat) = 6561 := rfl
  rw [b8] at p q
  have e : EX x = sqN (pH (x / 256) 12) 8 := by unfold EX; rfl
  rw [e]
  rw [eN_eq]; exact ⟨by grind, by grind⟩
/-- That of what is not below nothing. -/
theorem eP_near {a : Nat} {x : Rat} (ht : (a : Rat) * 256 = x * wR) (h1 : 0 ≤ x) (h2 : x ≤ 8) : Wn (eP a) (EX x) (40000 * EX x) ∧ 1 ≤ EX x := by
  have hx : (a : Rat) = x / 256 * wR := by rw [div256]; grind
  have a := wn_pos hx (by rw [div256]; grind) (by rw [div256]; grind) 12 (by decide)
  obtain ⟨c, d⟩ := pH_pos (t := x / 256) (by rw [div256]; grind) (by rw [div256]; grind) 12 (by decide)
  have d2 := pH_top (t := x / 256) (by rw [div256]; grind) (by rw [div256]; grind)
  obtain ⟨⟨p, q⟩, o⟩ := wn_sqrs a c d2 8 (by decide)
  have b8 : ((3 ^ 8 : Nat) : Rat) = 6561 := rfl
  rw [b8] at p q
  have e : EX x = sqN (pH (x / 256) 12) 8 := by unfold EX; rfl
  rw [e]
  rw [eP_eq]; exact ⟨⟨by grind, by grind⟩, o⟩
end Go.Proofs.Ytmcnfapdghoenaa
