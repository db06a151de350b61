
/- The logarithm's series rises. Plain. Condition: reduced numbers from 3/4 to 3/2, nearly. -/
import Derived.Test.YtmcnfapdghoenaaJ2
namespace Go.Proofs.Ytmcnfapdghoenaa
open Go Go.RowKit

attribute [local irreducible] tw
theorem gQ_rise {u t : Rat} (h0 : 0 ≤ u) (h : u ≤ t) (h1 : t ≤ 1 / 23) : ∀ j, j ≤ 13 → 0 ≤ gQ t j - gQ u j ∧ gQ t j - gQ u j ≤ 11 / 10 * (t - u)
  | 0, _ => by unfold gQ; constructor <;> grind
  | j + 1, hj => by
    obtain ⟨a, b⟩ := gQ_rise h0 h h1 j (by omega)
    obtain ⟨c, d⟩ := gQ_in (u := t) (by grind) h1 j (by omega)
    have e1 : gQ t (j + 1) = ((25 - 2 * j : Nat) : Rat)⁻¹ + t * gQ t j := rfl
    have e2 : gQ u (j + 1) = ((25 - 2 * j : Nat) : Rat)⁻¹ + u * gQ u j := rfl
    have e : gQ t (j + 1) - gQ u (j + 1) = (t - u) * gQ t j + u * (gQ t j - gQ u j) := by rw [e1, e2]; grind
    have f := jmul_nn (show 0 ≤ t - u by grind) c
    have g := jmul_nn h0 a
    have f2 := jmul_le d (show 0 ≤ t - u by grind)
    have g2 := jmul_le b h0
    have g3 := Rat.mul_le_mul_of_nonneg_right (show u ≤ 1 / 23 by grind) (show 0 ≤ 11 / 10 * (t - u) by grind)
    rw [e]
    constructor <;> grind
theorem gQ_one {u : Rat} (h0 : 0 ≤ u) (h1 : u ≤ 1 / 23) : 1 ≤ gQ u 13 := by
  obtain ⟨c, d⟩ := gQ_in h0 h1 12 (by decide)
  have e : gQ u 13 = ((1 : Nat) : Rat)⁻¹ + u * gQ u 12 := rfl
  have e1 : ((1 : Nat) : Rat)⁻¹ = 1 := by decide +kernel
  have f := jmul_nn h0 c
  rw [e, e1]; grind
theorem hL_rise {s t : Rat} (h1 : -1 / 7 ≤ s) (h : s ≤ t) (h2 : t ≤ 41 / 200) : 0 ≤ t * gQ (t * t) 13 - s * gQ (s * s) 13 ∧ t * gQ (t * t) 13 - s * gQ (s * s) 13 ≤ 23 / 20 * (t - s) := by
  have sq : ∀ z : Rat, -1 / 7 ≤ z → z ≤ 41 / 200 → 0 ≤ z * z ∧ z * z ≤ 1 / 23 := fun z a b => by
    obtain ⟨p, q⟩ := j_abs (u := z) (v := z) (e := 41 / 200) (B := 41 / 200) (by grind) b (by grind) b
    refine ⟨?_, by grind⟩
    by_cases hz : 0 ≤ z
    · exact jmul_nn hz hz
    · have := jmul_nn (show 0 ≤ -z by grind) (show 0 ≤ -z by grind); grind
  obtain ⟨s1, s2⟩ := sq s h1 (by grind)
  obtain ⟨t1, t2⟩ := sq t (by grind) h2
  obtain ⟨g1, g2⟩ := gQ_in t1 t2 13 (by decide)
  have g3 := gQ_one t1 t2
  -- how far the sums are apart
  have hd : gQ (t * t) 13 - gQ (s * s) 13 ≤ 451 / 1000 * (t - s) ∧ -(451 / 1000 * (t - s)) ≤ gQ (t * t) 13 - gQ (s * s) 13 := by
    have e : t * t - s * s = (t - s) * (t + s) := by grind
    have k1 := jmul_le (show t + s ≤ 41 / 100 by grind) (show 0 ≤ t - s by grind)
    have k2 := jmul_le (show -(41 / 100) ≤ t + s by grind) (show 0 ≤ t - s by grind)
    by_cases hc : s * s ≤ t * t
    · obtain ⟨a, b⟩ := gQ_rise s1 hc t2 13 (by decide)
      constructor <;> grind
    · obtain ⟨a, b⟩ := gQ_rise t1 (show t * t ≤ s * s by grind) s2 13 (by decide)
      constructor <;> grind
  obtain ⟨d1, d2⟩ := hd
  obtain ⟨p, q⟩ := j_abs (u := s) (v := gQ (t * t) 13 - gQ (s * s) 13) (e := 41 / 200) (B := 451 / 1000 * (t - s)) (by grind) (by grind) d2 d1
  have e : t * gQ (t * t) 13 - s * gQ (s * s) 13 = (t - s) * gQ (t * t) 13 + s * (gQ (t * t) 13 - gQ (s * s) 13) := by grind
  have k1 := jmul_le g2 (show 0 ≤ t - s by grind)
  have k2 := jmul_le g3 (show 0 ≤ t - s by grind)
  rw [e]
  generalize s * (gQ (t * t) 13 - gQ (s * s) 13) = R at *
  generalize (t - s) * gQ (t * t) 13 = T at *
  constructor <;> grind
theorem sL_rise {m n : Rat} (h1 : 3 / 4 ≤ m) (h : m ≤ n) : 0 ≤ sL n - sL m ∧ sL n - sL m ≤ 2 / 3 * (n - m) := by
  have im : (m + 1)⁻¹ * (m + 1) = 1 := Rat.inv_mul_cancel _ (by grind)
  have inn : (n + 1)⁻¹ * (n + 1) = 1 := Rat.inv_mul_cancel _ (by grind)
  have pm : 0 < (m + 1)⁻¹ := Rat.inv_pos.2 (by grind)
  have pn : 0 < (n + 1)⁻¹ := Rat.inv_pos.2 (by grind)
  have um : (m + 1)⁻¹ ≤ 4 / 7 := by
    have := jmul_le (show 7 / 4 ≤ m + 1 by grind) (Rat.le_of_lt pm); grind
  have un : (n + 1)⁻¹ ≤ 4 / 7 := by
    have := jmul_le (show 7 / 4 ≤ n + 1 by grind) (Rat.le_of_lt pn); grind
  have e : sL n - sL m = 2 * ((n - m) * ((m + 1)⁻¹ * (n + 1)⁻¹)) := by
    unfold sL
    generalize (m + 1)⁻¹ = a at *
    generalize (n + 1)⁻¹ = b at *
    have e1 : (n - 1) * b - (m - 1) * a = (n - 1) * b * (a * (m + 1)) - (m - 1) * a * (b * (n + 1)) := by rw [im, inn]; grind
    rw [e1]; grind
  have q0 := jmul_nn (Rat.le_of_lt pm) (Rat.le_of_lt pn)
  have q1 := jmul_le un (Rat.le_of_lt pm)
  have r0 := jmul_nn (show 0 ≤ n - m by grind) q0
  have r1 := jmul_le (show (m + 1)⁻¹ * (n + 1)⁻¹ ≤ 16 / 49 by grind) (show 0 ≤ n - m by grind)
  rw [e]
  constructor <;> grind
theorem fL_rise {m n : Rat} (h1 : 3 / 4 ≤ m) (h : m ≤ n) (h2 : n ≤ 151 / 100) : 0 ≤ fL n - fL m ∧ fL n - fL m ≤ 8 / 5 * (n - m) := by
  obtain ⟨a, b⟩ := sL_rise h1 h
  obtain ⟨c1, c2, -, -⟩ := sL_in h1 (show m ≤ 151 / 100 by grind)
  obtain ⟨d1, d2, -, -⟩ := sL_in (m := n) (by grind) h2
  obtain ⟨p, q⟩ := hL_rise c1 (show sL m ≤ sL n by grind) d2
  have e : fL n - fL m = 2 * (sL n * gQ (sL n * sL n) 13 - sL m * gQ (sL m * sL m) 13) := by unfold fL; grind
  rw [e]
  constructor <;> grind
theorem fL_seam : fL (3 / 2) - fL (3 / 4) ≤ 69314718055995 / 100000000000000 ∧ 69314718055994 / 100000000000000 ≤ fL (3 / 2) - fL (3 / 4) := by decide +kernel
/-- Logarithms of reduced numbers, compared. -/
theorem lnLe {m n d : Rat} {k l : Int} (m1 : 3 / 4 ≤ m) (m2 : m ≤ 3 / 2 + 1 / 50000000000) (n1 : 3 / 4 ≤ n) (n2 : n ≤ 3 / 2 + 1 / 50000000000) (d0 : 0 ≤ d) (d1 : d ≤ 1 / 1000) (h : m * tw k ≤ n * tw l * (1 + d)) :
    fL m + (k : Rat) * LN2 ≤ fL n + (l : Rat) * LN2 + 5 * d + 1 / 1000000000 := by
  obtain ⟨o1, o2, o3⟩ := ln2_val
  obtain ⟨s1, s2⟩ := fL_seam
  have nd := jmul_le d1 (show 0 ≤ n by grind)
  have nd0 := jmul_nn (show 0 ≤ n by grind) d0
  have nd2 := Rat.mul_le_mul_of_nonneg_right (show n ≤ 151 / 100 by grind) d0
  rcases Int.lt_trichotomy k l with hk | hk | hk
  · -- the second is a binade above
    obtain ⟨a, b⟩ := fL_rise (m := 3 / 4) (n := n) (by decide +kernel) n1 (by grind)
    have hm : fL m ≤ fL (3 / 2) + 1 / 10000000000 := by
      by_cases hc : m ≤ 3 / 2
      · obtain ⟨p, q⟩ := fL_rise m1 hc (by decide +kernel); grind
      · obtain ⟨p, q⟩ := fL_rise (m := 3 / 2) (n := m) (by decide +kernel) (by grind) (by grind); grind
    have hkl : (k : Rat) + 1 ≤ (l : Rat) := by
      have h : ((k + 1 : Int) : Rat) ≤ (l : Rat) := Rat.intCast_le_intCast.2 (by omega)
      rw [Rat.intCast_add] at h; exact h
    have := Rat.mul_le_mul_of_nonneg_right hkl (show 0 ≤ LN2 by grind)
    grind
  · subst hk
    have T0 := tw_pos k
    have hmn : m ≤ n * (1 + d) := by
      by_cases hc : m ≤ n * (1 + d)
      · exact hc
      · have := Rat.mul_pos (show 0 < m - n * (1 + d) by grind) T0; grind
    by_cases hc : m ≤ n
    · obtain ⟨p, q⟩ := fL_rise m1 hc (by grind); grind
    · obtain ⟨p, q⟩ := fL_rise n1 (show n ≤ m by grind) (by grind); grind
  · -- the first is a binade above
    obtain ⟨j, hj⟩ : ∃ j : Nat, k = l + 1 + (j : Int) := ⟨(k - l - 1).toNat, by omega⟩
    have T0 := tw_pos l
    have hT : tw k = tw l * (2 * ((2 ^ j : Nat) : Rat)) := by
      rw [hj, tw_add, tw_add, tw_one, tw_nat]; grind
    rw [hT] at h
    have one : (1 : Rat) ≤ ((2 ^ j : Nat) : Rat) := by exact_mod_cast Nat.one_le_two_pow
    have hmn : m * (2 * ((2 ^ j : Nat) : Rat)) ≤ n * (1 + d) := by
      by_cases hc : m * (2 * ((2 ^ j : Nat) : Rat)) ≤ n * (1 + d)
      · exact hc
      · have := Rat.mul_pos (show 0 < m * (2 * ((2 ^ j : Nat) : Rat)) - n * (1 + d) by grind) T0
        have e : (m * (2 * ((2 ^ j : Nat) : Rat)) - n * (1 + d)) * tw l = m * (tw l * (2 * ((2 ^ j : Nat) : Rat))) - n * tw l * (1 + d) := by grind
        grind
    have hj0 : j = 0 := by
      cases j with
      | zero => rfl
      | succ j =>
        exfalso
        have one : (1 : Rat) ≤ ((2 ^ j : Nat) : Rat) := by exact_mod_cast Nat.one_le_two_pow
        rw [pow2_succ] at hmn
        have := jmul_le one (show 0 ≤ m by grind)
        grind
    subst hj0
    have e1 : ((2 ^ 0 : Nat) : Rat) = 1 := rfl
    rw [e1] at hmn
    have hk1 : (k : Rat) = (l : Rat) + 1 := by
      have : k = l + 1 := by omega
      rw [this, Rat.intCast_add]; rfl
    obtain ⟨p, q⟩ := fL_rise (m := 3 / 4) (n := m) (by decide +kernel) m1 (by grind)
    rw [hk1]
    by_cases hc : n ≤ 3 / 2
    · obtain ⟨p2, q2⟩ := fL_rise n1 hc (by decide +kernel); grind
    · obtain ⟨p2, q2⟩ := fL_rise (m := 3 / 2) (n := n) (by decide +kernel) (by grind) (by grind); grind
end Go.Proofs.Ytmcnfapdghoenaa
/- Survivors in floats, near exact ones. Plain. Condition: a time by scale from 2^-14 to 256. -/
namespace Go.Proofs.Ytmcnfapdghoenaa
open Go Go.RowKit

attribute [local irreducible] tw EX fL
/-- l is a logarithm of v, nearly. -/
def LnOf (v l : Rat) : Prop := ∃ (m : Rat) (k : Int), 3 / 4 ≤ m ∧ m ≤ 3 / 2 + 1 / 50000000000 ∧ -14 ≤ k ∧ k ≤ 8 ∧ m * tw k ≤ v + v / 10000000000 ∧ v ≤ m * tw k + v / 10000000000 ∧ l = fL m + (k : Rat) * LN2
theorem log_of {x : Nat} (n : Num .f32 x) (h1 : 1 / 16384 ≤ fv .f32 x) (h2 : fv .f32 x ≤ 256) : ∃ l, LnOf (fv .f32 x) l ∧ Nr .f32 (logF x) l (1 / 1000000) := by
  obtain ⟨m, k, a1, a2, a3, a4, a5, a6, a7⟩ := log_near n h1 h2
  exact ⟨_, ⟨m, k, a1, a2, a3, a4, a5, a6, rfl⟩, a7⟩
theorem LnOf.le {v w l r d : Rat} (h : LnOf v l) (g : LnOf w r) (hv : 0 < v) (hw : 0 < w) (d0 : 0 ≤ d) (d1 : d ≤ 1 / 10000) (e : v ≤ w * (1 + d)) : l ≤ r + 5 * d + 1 / 200000000 := by
  obtain ⟨m, k, a1, a2, -, -, a5, a6, rfl⟩ := h
  obtain ⟨n, j, b1, b2, -, -, b5, b6, rfl⟩ := g
  have wd := jmul_le d1 (Rat.le_of_lt hw)
  have wd0 := jmul_nn (Rat.le_of_lt hw) d0
  have nt : 0 ≤ n * tw j := jmul_nn (by grind) (Rat.le_of_lt (tw_pos j))
  have nd := jmul_le (show d + 1 / 1500000000 ≤ 1 / 1000 by grind) nt
  have nd1 := jmul_nn nt d0
  have h := lnLe (d := d + 1 / 1500000000) a1 a2 b1 b2 (by grind) (by grind) (k := k) (l := j) (by
    have e1 : n * tw j * (1 + (d + 1 / 1500000000)) = n * tw j + n * tw j * d + n * tw j * (1 / 1500000000) := by grind
    have e2 : w * (1 + d) = w + w * d := by grind
    have e3 : w * d ≤ n * tw j * d + w / 10000000000 * d := by
      have := Rat.mul_le_mul_of_nonneg_right b6 d0; grind
    have e4 := jmul_le d1 (show 0 ≤ w / 10000000000 by grind)
    rw [e1]
    rw [e2] at e
    generalize n * tw j * d = s1 at *
    generalize w / 10000000000 * d = s2 at *
    generalize w * d = s3 at *
    generalize n * tw j = s4 at *
    generalize m * tw k = s5 at *
    grind)
  grind
/-- The size of a logarithm. -/
theorem LnOf.in {v l : Rat} (h : LnOf v l) : -10 ≤ l ∧ l ≤ 6 := by
  obtain ⟨m, k, a1, a2, a3, a4, -, -, rfl⟩ := h
  obtain ⟨o1, o2, o3⟩ := ln2_val
  have r1 : (-14 : Rat) ≤ (k : Rat) := by
    have h : ((-14 : Int) : Rat) ≤ (k : Rat) := Rat.intCast_le_intCast.2 a3
    exact h
  have r2 : (k : Rat) ≤ 8 := by
    have h : (k : Rat) ≤ ((8 : Int) : Rat) := Rat.intCast_le_intCast.2 a4
    exact h
  have b1 := Rat.mul_le_mul_of_nonneg_right r1 (show 0 ≤ LN2 by grind)
  have b2 := Rat.mul_le_mul_of_nonneg_right r2 (show 0 ≤ LN2 by grind)
  have c1 : -29 / 100 ≤ fL (3 / 4) := by unfold fL; decide +kernel
  have c2 : fL (151 / 100) ≤ 42 / 100 := by unfold fL; decide +kernel
  obtain ⟨p, -⟩ := fL_rise (m := 3 / 4) (n := m) (by decide +kernel) a1 (by grind)
  obtain ⟨q, -⟩ := fL_rise (m := m) (n := 151 / 100) a1 (by grind) (by decide +kernel)
  constructor <;> grind
/-! ### One operation in 32 bits -/
theorem mulF {a b : Nat} {x y e f X Y : Rat} (h1 : Nr .f32 a x e) (h2 : Nr .f32 b y f) (x1 : x ≤ X) (x2 : -X ≤ x) (y1 : y + f ≤ Y) (y2 : -Y ≤ y - f) (he : 0 ≤ e) (hf : 0 ≤ f) (hA : X * Y + e * Y ≤ 100000000) :
    Nr .f32 (fop .mul .f32 a b) (x * y) (e * Y + X * f + ((X * Y + e * Y) / 16000000 + 1 / 1000000000000000000)) := by
  obtain ⟨n1, l1, u1⟩ := h1
  obtain ⟨n2, l2, u2⟩ := h2
  have h100 := tw100
  obtain ⟨p1, p2⟩ := j_abs (u := fv .f32 a - x) (v := fv .f32 b) (e := e) (B := Y) (by grind) (by grind) (by grind) (by grind)
  obtain ⟨q1, q2⟩ := j_abs (u := x) (v := fv .f32 b - y) (e := X) (B := f) (by grind) (by grind) (by grind) (by grind)
  obtain ⟨r1, r2⟩ := j_abs (u := x) (v := fv .f32 b) (e := X) (B := Y) (by grind) (by grind) (by grind) (by grind)
  have e1 : fv .f32 a * fv .f32 b = x * fv .f32 b + (fv .f32 a - x) * fv .f32 b := by grind
  have e2 : x * fv .f32 b = x * y + x * (fv .f32 b - y) := by grind
  obtain ⟨⟨n, l, u⟩, _⟩ := (wr_mul n1 n2).nr (A := X * Y + e * Y) (by rw [e1]; grind) (by rw [e1]; grind) (by grind)
  obtain ⟨w1, w2, w3, w4⟩ := u32j
  have w5 : 0 ≤ X * Y + e * Y := by
    have a1 : 0 ≤ X := by grind
    have a2 : 0 ≤ Y := by grind
    have a3 := jmul_nn a1 a2
    have a4 := jmul_nn he a2
    grind
  have w6 := Rat.mul_le_mul_of_nonneg_right w1 w5
  rw [e1, e2] at l u
  generalize (fv .f32 a - x) * fv .f32 b = s1 at *
  generalize x * (fv .f32 b - y) = s2 at *
  generalize x * fv .f32 b = s3 at *
  generalize x * y = s4 at *
  generalize X * Y = s5 at *
  generalize e * Y = s6 at *
  generalize X * f = s7 at *
  generalize uu .f32 * (s5 + s6) = s8 at *
  exact ⟨n, by grind, by grind⟩
/-! ### The exponential in 32 bits -/
theorem expF_neg {x : Nat} (n : Num .f32 x) (h1 : -200 ≤ fv .f32 x) (h2 : fv .f32 x ≤ 0) : Nr .f32 (expF x) (EX (fv .f32 x)) (1 / 14000000) ∧ 0 ≤ EX (fv .f32 x) ∧ EX (fv .f32 x) ≤ 1 := by
  obtain ⟨⟨m, l, u⟩, a, b⟩ := exp_neg n h1 h2
  have h100 := tw100
  obtain ⟨⟨pn, pl, pu⟩, -, -⟩ := narrow_val (A := 1 + 1 / 1000) m (by grind) (by grind) (by grind)
  obtain ⟨w1, w2, w3, w4⟩ := u32j
  exact ⟨⟨pn, by show fv .f32 (narrowF (expW x)) ≤ _; grind, by show _ ≤ fv .f32 (narrowF (expW x)) + _; grind⟩, a, b⟩
theorem expF_pos {x : Nat} (n : Num .f32 x) (h1 : 0 ≤ fv .f32 x) (h2 : fv .f32 x ≤ 8) : Nr .f32 (expF x) (EX (fv .f32 x)) (EX (fv .f32 x) / 14000000) ∧ 1 ≤ EX (fv .f32 x) ∧ EX (fv .f32 x) ≤ 3300 := by
  obtain ⟨⟨m, l, u⟩, a, b⟩ := exp_pos n h1 h2
  have h100 := tw100
  obtain ⟨⟨pn, pl, pu⟩, -, -⟩ := narrow_val (A := EX (fv .f32 x) * (1 + 1 / 1000)) m (by grind) (by grind) (by grind)
  obtain ⟨w1, w2, w3, w4⟩ := u32j
  have w5 := Rat.mul_le_mul_of_nonneg_right w1 (show 0 ≤ EX (fv .f32 x) * (1 + 1 / 1000) by grind)
  generalize EX (fv .f32 x) = E at *
  generalize uu .f32 * (E * (1 + 1 / 1000)) = s1 at *
  exact ⟨⟨pn, by show fv .f32 (narrowF (expW x)) ≤ _; grind, by show _ ≤ fv .f32 (narrowF (expW x)) + _; grind⟩, a, b⟩
/-- A power: near the exact one, for a shape and a logarithm. -/
def powF (y x : Nat) : Nat := expF (fop .mul .f32 y (logF x))
theorem pow_near {y x : Nat} {l : Rat} (ny : Num .f32 y) (y1 : -3 ≤ fv .f32 y) (y2 : fv .f32 y ≤ 3) (nl : Nr .f32 (logF x) l (1 / 1000000)) (l1 : -10 ≤ l) (l2 : l ≤ 6) (hz : fv .f32 y * l ≤ 79 / 10) :
    Num .f32 (powF y x) ∧ fv .f32 (powF y x) ≤ EX (fv .f32 y * l) + (1 + EX (fv .f32 y * l)) / 100000 ∧ EX (fv .f32 y * l) ≤ fv .f32 (powF y x) + (1 + EX (fv .f32 y * l)) / 100000 ∧ 0 ≤ EX (fv .f32 y * l) ∧ EX (fv .f32 y * l) ≤ 3300 := by
  obtain ⟨c1, c2⟩ := j_abs (u := fv .f32 y) (v := l) (e := 3) (B := 10) (by grind) y2 (by grind) (by grind)
  have m := mulF (Nr.of ny) nl (X := 3) (Y := 101 / 10) (by grind) (by grind) (by grind) (by grind) (by decide +kernel) (by decide +kernel) (by decide +kernel)
  replace m : Nr .f32 (fop .mul .f32 y (logF x)) (fv .f32 y * l) (1 / 180000) := m.mono (by decide +kernel)
  obtain ⟨zn, zl, zu⟩ := m
  unfold powF
  generalize fop .mul .f32 y (logF x) = z at *
  generalize hq : fv .f32 y * l = q at *
  have mono := fun {a b : Rat} (h1 : -200 ≤ a) (h : a ≤ b) (h2 : b ≤ 8) => EX_mono h1 h h2
  have q0 := (mono (show -200 ≤ q by grind) (Rat.le_refl) (show q ≤ 8 by grind)).1
  have qt : EX q ≤ 3300 := by
    have h8 := (mono (show -200 ≤ q by grind) (show q ≤ 8 by grind) Rat.le_refl).2
    have e8 : EX 8 ≤ 3300 := by
      have hp := pH_top (t := 8 / 256) (by decide +kernel) (by decide +kernel)
      have h0 := (pH_pos (t := 8 / 256) (by decide +kernel) (by decide +kernel) 12 (by decide)).1
      have := (sqN_mono (show 0 ≤ pH (8 / 256) 12 by grind) hp 8).2
      have e : EX 8 = sqN (pH (8 / 256) 12) 8 := by unfold EX; rfl
      rw [e]; exact Rat.le_trans this sqN_8
    grind
  by_cases hz0 : fv .f32 z ≤ 0
  · obtain ⟨⟨pn, pl, pu⟩, a, b⟩ := expF_neg zn (by grind) hz0
    by_cases hqz : q ≤ fv .f32 z
    · have k1 := (mono (show -200 ≤ q by grind) hqz (by grind)).2
      have k2 := EX_lip (show -200 ≤ q by grind) hqz hz0
      exact ⟨pn, by grind, by grind, q0, qt⟩
    · have k1 := (mono (show -200 ≤ fv .f32 z by grind) (show fv .f32 z ≤ q by grind) (by grind)).2
      by_cases hq0 : q ≤ 0
      · have k2 := EX_lip (show -200 ≤ fv .f32 z by grind) (show fv .f32 z ≤ q by grind) hq0
        exact ⟨pn, by grind, by grind, q0, qt⟩
      · have k2 := EX_lip2 (show -200 ≤ fv .f32 z by grind) (show fv .f32 z ≤ q by grind) (by grind) (by grind)
        have k3 := jmul_le (show q - fv .f32 z ≤ 1 / 180000 by grind) (show 0 ≤ 5 / 4 * EX q by grind)
        exact ⟨pn, by grind, by grind, q0, qt⟩
  · obtain ⟨⟨pn, pl, pu⟩, a, b⟩ := expF_pos zn (by grind) (by grind)
    by_cases hqz : q ≤ fv .f32 z
    · have k1 := (mono (show -200 ≤ q by grind) hqz (by grind)).2
      have k2 := EX_lip2 (show -200 ≤ q by grind) hqz (by grind) (by grind)
      have k3 := jmul_le (show fv .f32 z - q ≤ 1 / 180000 by grind) (show 0 ≤ 5 / 4 * EX (fv .f32 z) by grind)
      exact ⟨pn, by grind, by grind, q0, qt⟩
    · have k1 := (mono (show -200 ≤ fv .f32 z by grind) (show fv .f32 z ≤ q by grind) (by grind)).2
      have k2 := EX_lip2 (show -200 ≤ fv .f32 z by grind) (show fv .f32 z ≤ q by grind) (by grind) (by grind)
      have k3 := jmul_le (show q - fv .f32 z ≤ 1 / 180000 by grind) (show 0 ≤ 5 / 4 * EX q by grind)
      exact ⟨pn, by grind, by grind, q0, qt⟩
end Go.Proofs.Ytmcnfapdghoenaa
/- Survivors fall. Plain. Condition: as in the theorems. -/
namespace Go.Proofs.Ytmcnfapdghoenaa
open Go Go.RowKit

attribute [local irreducible] tw EX
theorem hL_grow {s t : Rat} (h1 : -1 / 7 ≤ s) (h : s ≤ t) (h2 : t ≤ 41 / 200) : 9 / 10 * (t - s) ≤ t * gQ (t * t) 13 - s * gQ (s * s) 13 := by
  have sq : ∀ z : Rat, -1 / 7 ≤ z → z ≤ 41 / 200 → 0 ≤ z * z ∧ z * z ≤ 1 / 23 := fun z a b => by
    obtain ⟨p, q⟩ := j_abs (u := z) (v := z) (e := 41 / 200) (B := 41 / 200) (by grind) b (by grind) b
    refine ⟨?_, by grind⟩
    by_cases hz : 0 ≤ z
    · exact jmul_nn hz hz
    · have := jmul_nn (show 0 ≤ -z by grind) (show 0 ≤ -z by grind); grind
  obtain ⟨s1, s2⟩ := sq s h1 (by grind)
  obtain ⟨t1, t2⟩ := sq t (by grind) h2
  have g3 := gQ_one t1 t2
  have hd : gQ (t * t) 13 - gQ (s * s) 13 ≤ 451 / 1000 * (t - s) ∧ -(451 / 1000 * (t - s)) ≤ gQ (t * t) 13 - gQ (s * s) 13 := by
    have e : t * t - s * s = (t - s) * (t + s) := by grind
    have k1 := jmul_le (show t + s ≤ 41 / 100 by grind) (show 0 ≤ t - s by grind)
    have k2 := jmul_le (show -(41 / 100) ≤ t + s by grind) (show 0 ≤ t - s by grind)
    by_cases hc : s * s ≤ t * t
    · obtain ⟨a, b⟩ := gQ_rise s1 hc t2 13 (by decide)
      constructor <;> grind
    · obtain ⟨a, b⟩ := gQ_rise t1 (show t * t ≤ s * s by grind) s2 13 (by decide)
      constructor <;> grind
  obtain ⟨d1, d2⟩ := hd
  obtain ⟨p, q⟩ := j_abs (u := s) (v := gQ (t * t) 13 - gQ (s * s) 13) (e := 41 / 200) (B := 451 / 1000 * (t - s)) (by grind) (by grind) d2 d1
  have e : t * gQ (t * t) 13 - s * gQ (s * s) 13 = (t - s) * gQ (t * t) 13 + s * (gQ (t * t) 13 - gQ (s * s) 13) := by grind
  have k2 := jmul_le g3 (show 0 ≤ t - s by grind)
  rw [e]
  generalize s * (gQ (t * t) 13 - gQ (s * s) 13) = R at *
  generalize (t - s) * gQ (t * t) 13 = T at *
  grind
theorem sL_grow {m n : Rat} (h1 : 3 / 4 ≤ m) (h : m ≤ n) (h2 : n ≤ 151 / 100) : 3 / 10 * (n - m) ≤ sL n - sL m := by
  have im : (m + 1)⁻¹ * (m + 1) = 1 := Rat.inv_mul_cancel _ (by grind)
  have inn : (n + 1)⁻¹ * (n + 1) = 1 := Rat.inv_mul_cancel _ (by grind)
  have pm : 0 < (m + 1)⁻¹ := Rat.inv_pos.2 (by grind)
  have pn : 0 < (n + 1)⁻¹ := Rat.inv_pos.2 (by grind)
  have um : 39 / 100 ≤ (m + 1)⁻¹ := by
    have := jmul_le (show m + 1 ≤ 251 / 100 by grind) (Rat.le_of_lt pm); grind
  have un : 39 / 100 ≤ (n + 1)⁻¹ := by
    have := jmul_le (show n + 1 ≤ 251 / 100 by grind) (Rat.le_of_lt pn); grind
  have e : sL n - sL m = 2 * ((n - m) * ((m + 1)⁻¹ * (n + 1)⁻¹)) := by
    unfold sL
    generalize (m + 1)⁻¹ = a at *
    generalize (n + 1)⁻¹ = b at *
    have e1 : (n - 1) * b - (m - 1) * a = (n - 1) * b * (a * (m + 1)) - (m - 1) * a * (b * (n + 1)) := by rw [im, inn]; grind
    rw [e1]; grind
  have q1 := jmul_le un (Rat.le_of_lt pm)
  have r1 := jmul_le (show 152 / 1000 ≤ (m + 1)⁻¹ * (n + 1)⁻¹ by grind) (show 0 ≤ n - m by grind)
  rw [e]
  grind
theorem fL_grow {m n : Rat} (h1 : 3 / 4 ≤ m) (h : m ≤ n) (h2 : n ≤ 151 / 100) : 1 / 2 * (n - m) ≤ fL n - fL m := by
  have a := sL_grow h1 h h2
  obtain ⟨c1, c2, -, -⟩ := sL_in h1 (show m ≤ 151 / 100 by grind)
  obtain ⟨d1, d2, -, -⟩ := sL_in (m := n) (by grind) h2
  have p := hL_grow c1 (show sL m ≤ sL n by grind) d2
  have e : fL n - fL m = 2 * (sL n * gQ (sL n * sL n) 13 - sL m * gQ (sL m * sL m) 13) := by unfold fL; grind
  rw [e]
  grind
/-- Numbers that are apart have logarithms that are. -/
theorem LnOf.lt {v w l r : Rat} (h : LnOf v l) (g : LnOf w r) (hv : 0 < v) (hw : 0 < w) (e : v * (33 / 32) ≤ w) : l + 1 / 100 ≤ r := by
  obtain ⟨m, k, m1, m2, -, -, a5, a6, rfl⟩ := h
  obtain ⟨n, j, n1, n2, -, -, b5, b6, rfl⟩ := g
  obtain ⟨o1, o2, o3⟩ := ln2_val
  obtain ⟨s1, s2⟩ := fL_seam
  have hmn : m * tw k * (103 / 100) ≤ n * tw j := by grind
  clear e a5 a6 b5 b6
  rcases Int.lt_trichotomy k j with hk | hk | hk
  · obtain ⟨q, hq⟩ : ∃ q : Nat, j = k + 1 + (q : Int) := ⟨(j - k - 1).toNat, by omega⟩
    have T0 := tw_pos k
    have hT : tw j = tw k * (2 * ((2 ^ q : Nat) : Rat)) := by
      rw [hq, tw_add, tw_add, tw_one, tw_nat]; grind
    have hjr : (j : Rat) = (k : Rat) + 1 + (q : Rat) := by
      rw [hq, Rat.intCast_add, Rat.intCast_add, Rat.intCast_natCast]; rfl
    have A := fL_grow (m := 3 / 4) (n := n) (by decide +kernel) n1 (by grind)
    have B : fL m ≤ fL (3 / 2) + 1 / 10000000000 := by
      by_cases hc : m ≤ 3 / 2
      · obtain ⟨p, _⟩ := fL_rise m1 hc (by decide +kernel); grind
      · obtain ⟨p, q⟩ := fL_rise (m := 3 / 2) (n := m) (by decide +kernel) (by grind) (by grind); grind
    cases q with
    | zero =>
      have e1 : ((2 ^ 0 : Nat) : Rat) = 1 := rfl
      have e0 : ((0 : Nat) : Rat) = 0 := rfl
      rw [hT, e1] at hmn
      rw [e0] at hjr
      have hm2 : m * (103 / 100) ≤ 2 * n := by
        by_cases hc : m * (103 / 100) ≤ 2 * n
        · exact hc
        · have := Rat.mul_pos (show 0 < m * (103 / 100) - 2 * n by grind) T0
          grind
      rw [hjr]
      by_cases hc : m ≤ 3 / 2
      · have C := fL_grow m1 hc (by decide +kernel)
        grind
      · grind
    | succ q =>
      have q0 : (0 : Rat) ≤ (q : Rat) := Rat.natCast_nonneg
      have e1 : ((q + 1 : Nat) : Rat) = (q : Rat) + 1 := Rat.natCast_add q 1
      rw [hjr, e1]
      have := jmul_nn q0 (show 0 ≤ LN2 by grind)
      grind
  · subst hk
    have T0 := tw_pos k
    have hm2 : m * (103 / 100) ≤ n := by
      by_cases hc : m * (103 / 100) ≤ n
      · exact hc
      · have := Rat.mul_pos (show 0 < m * (103 / 100) - n by grind) T0; grind
    have := fL_grow m1 (show m ≤ n by grind) (by grind)
    grind
  · exfalso
    obtain ⟨q, hq⟩ : ∃ q : Nat, k = j + 1 + (q : Int) := ⟨(k - j - 1).toNat, by omega⟩
    have T0 := tw_pos j
    have hT : tw k = tw j * (2 * ((2 ^ q : Nat) : Rat)) := by
      rw [hq, tw_add, tw_add, tw_one, tw_nat]; grind
    have one : (1 : Rat) ≤ ((2 ^ q : Nat) : Rat) := by exact_mod_cast Nat.one_le_two_pow
    rw [hT] at hmn
    have := jmul_le one (show 0 ≤ m by grind)
    have h3 := Rat.mul_pos (show 0 < m * (2 * ((2 ^ q : Nat) : Rat)) * (103 / 100) - n by grind) T0
    have e : (m * (2 * ((2 ^ q : Nat) : Rat)) * (103 / 100) - n) * tw j = m * (tw j * (2 * ((2 ^ q : Nat) : Rat))) * (103 / 100) - n * tw j := by grind
    grind
end Go.Proofs.Ytmcnfapdghoenaa
