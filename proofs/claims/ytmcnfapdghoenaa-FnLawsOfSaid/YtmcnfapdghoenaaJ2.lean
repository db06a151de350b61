
/- The logarithm in floats, near an exact series. Plain. Condition: numbers from 2^-14 to 256. -/
import Derived.Test.YtmcnfapdghoenaaJ1
import Derived.Test.YtmcnfapdghoenaaTK
namespace Go.Proofs.Ytmcnfapdghoenaa
open Go Go.RowKit

attribute [local irreducible] tw
/-! ### Halving and doubling -/
theorem twoD_val : Num .f64 twoD ∧ fv .f64 twoD = 2 := by
  have h : twoD = fkD 2 := by decide +kernel
  obtain ⟨a, b⟩ := fkD_val (k := 2) (by decide)
  rw [← h] at a b
  exact ⟨a, b⟩
theorem oneD_num : Num .f64 oneD ∧ fv .f64 oneD = 1 := by
  have h : oneD = fkD 1 := by decide +kernel
  obtain ⟨a, b⟩ := fkD_val (k := 1) (by decide)
  rw [← h] at a b
  exact ⟨a, b⟩
theorem c15_val : Num .f64 c15 ∧ fv .f64 c15 = 3 / 2 := by
  refine ⟨⟨_, _, _, c15_read⟩, ?_⟩
  rw [fv_eq c15_read]
  have h1 := tw_neg 52
  have h2 : tw (-((52 : Nat) : Int)) = tw (-52) := rfl
  have h3 : ((2 ^ 52 : Nat) : Rat) = 4503599627370496 := rfl
  have h4 : ((3 * 2 ^ 51 : Nat) : Rat) = 6755399441055744 := rfl
  rw [h2, h3] at h1
  simp only [Bool.false_eq_true, if_false, h4]
  grind
theorem c075_val : Num .f64 c075 ∧ fv .f64 c075 = 3 / 4 := by
  refine ⟨⟨_, _, _, c075_read⟩, ?_⟩
  rw [fv_eq c075_read]
  have h1 := tw_neg 53
  have h2 : tw (-((53 : Nat) : Int)) = tw (-53) := rfl
  have h3 : ((2 ^ 53 : Nat) : Rat) = 9007199254740992 := rfl
  have h4 : ((3 * 2 ^ 51 : Nat) : Rat) = 6755399441055744 := rfl
  rw [h2, h3] at h1
  simp only [Bool.false_eq_true, if_false, h4]
  grind
theorem pow2_pos (j : Nat) : (0 : Rat) < ((2 ^ j : Nat) : Rat) := by exact_mod_cast Nat.pow_pos (by decide)
theorem pow2_succ (j : Nat) : ((2 ^ (j + 1) : Nat) : Rat) = 2 * ((2 ^ j : Nat) : Rat) := by rw [Nat.pow_succ, Nat.mul_comm]; exact Rat.natCast_mul 2 (2 ^ j)
/-- One halving of what is 3/2 or more, and not above 300. -/
theorem half_near {a : Nat} (n : Num .f64 a) (h1 : 3 / 2 ≤ fv .f64 a) (h2 : fv .f64 a ≤ 300) : Num .f64 (fop .quo .f64 a twoD) ∧ fv .f64 (fop .quo .f64 a twoD) * 2 ≤ fv .f64 a + fv .f64 a / 100000000000000 ∧ fv .f64 a ≤ fv .f64 (fop .quo .f64 a twoD) * 2 + fv .f64 a / 100000000000000 := by
  obtain ⟨t1, t2⟩ := twoD_val
  have hi : (2 : Rat)⁻¹ = 1 / 2 := by decide +kernel
  have d := divQ (A := fv .f64 a) (Nr.of n) t1 t2 (by decide +kernel) (by rw [hi]; grind) (by rw [hi]; grind) (by decide +kernel) (by grind)
  rw [hi] at d
  obtain ⟨m, l, u⟩ := d
  exact ⟨m, by grind, by grind⟩
theorem twice_near {a : Nat} (n : Num .f64 a) (h1 : 1 / 100000 ≤ fv .f64 a) (h2 : fv .f64 a ≤ 20) : Num .f64 (fop .mul .f64 a twoD) ∧ fv .f64 (fop .mul .f64 a twoD) ≤ 2 * fv .f64 a + fv .f64 a / 1000000000000 ∧ 2 * fv .f64 a ≤ fv .f64 (fop .mul .f64 a twoD) + fv .f64 a / 1000000000000 := by
  obtain ⟨t1, t2⟩ := twoD_val
  have d := mulJ (X := fv .f64 a) (Y := 2) (Nr.of n) (Nr.of t1) (by grind) (by grind) (by rw [t2]; grind) (by rw [t2]; grind) (by decide +kernel) (by decide +kernel) (by grind)
  rw [t2] at d
  obtain ⟨m, l, u⟩ := d
  exact ⟨m, by grind, by grind⟩
/-- After j halvings. -/
theorem hv_near {y : Nat} {v : Rat} (n : Num .f64 y) (hv : fv .f64 y = v) (h2 : v ≤ 256) : ∀ j, (∀ i, i < j → fcmp .geq .f64 (hvD y i) c15 = true) → 3 / 2 ≤ v ∨ j = 0 → j ≤ 8 ∧ Num .f64 (hvD y j) ∧ fv .f64 (hvD y j) * ((2 ^ j : Nat) : Rat) ≤ v + (j : Rat) * (v / 10000000000000) ∧ v ≤ fv .f64 (hvD y j) * ((2 ^ j : Nat) : Rat) + (j : Rat) * (v / 10000000000000)
  | 0, _, _ => by
    have e1 : ((2 ^ 0 : Nat) : Rat) = 1 := rfl
    have e2 : ((0 : Nat) : Rat) * (v / 10000000000000) = 0 := Rat.zero_mul _
    rw [e1, e2]
    refine ⟨Nat.zero_le _, n, ?_, ?_⟩
    · show fv .f64 y * 1 ≤ v + 0; grind
    · show v ≤ fv .f64 y * 1 + 0; grind
  | j + 1, h, _ => by
    have hv15 : 3 / 2 ≤ v := by
      obtain ⟨c1, c2⟩ := c15_val
      have := h 0 (by omega)
      rw [show hvD y 0 = y from rfl, geq_val n c1, decide_eq_true_eq, c2, hv] at this
      exact this
    obtain ⟨i4, m, l, u⟩ := hv_near n hv h2 j (fun i hi => h i (by omega)) (.inl hv15)
    obtain ⟨c1, c2⟩ := c15_val
    have hj := h j (by omega)
    rw [geq_val m c1, decide_eq_true_eq, c2] at hj
    have hjr : (j : Rat) ≤ 8 := by exact_mod_cast i4
    have hj0 : (0 : Rat) ≤ (j : Rat) := Rat.natCast_nonneg
    have p0 := pow2_pos j
    have hone : (1 : Rat) ≤ ((2 ^ j : Nat) : Rat) := by exact_mod_cast Nat.one_le_two_pow
    have k1 := Rat.mul_le_mul_of_nonneg_right hjr (show 0 ≤ v / 10000000000000 by grind)
    -- so the halved is not above 17
    have hup : fv .f64 (hvD y j) ≤ 300 := by
      have := jmul_le hone (show 0 ≤ fv .f64 (hvD y j) by grind)
      grind
    have hj3 : j ≤ 7 := by
      rcases Nat.lt_or_ge j 8 with h3 | h3
      · omega
      · have : j = 8 := by omega
        subst this
        have e16 : ((2 ^ 8 : Nat) : Rat) = 256 := rfl
        rw [e16] at l
        grind
    obtain ⟨a, b, c⟩ := half_near m hj hup
    have ej : ((j + 1 : Nat) : Rat) = (j : Rat) + 1 := Rat.natCast_add j 1
    refine ⟨by omega, a, ?_, ?_⟩
    · rw [pow2_succ, ej]
      show fv .f64 (fop .quo .f64 (hvD y j) twoD) * (2 * ((2 ^ j : Nat) : Rat)) ≤ _
      have k2 := Rat.mul_le_mul_of_nonneg_right b (Rat.le_of_lt p0)
      have k3 : (fv .f64 (hvD y j) + fv .f64 (hvD y j) / 100000000000000) * ((2 ^ j : Nat) : Rat) = fv .f64 (hvD y j) * ((2 ^ j : Nat) : Rat) + fv .f64 (hvD y j) * ((2 ^ j : Nat) : Rat) / 100000000000000 := by grind
      rw [k3] at k2
      have k4 : fv .f64 (fop .quo .f64 (hvD y j) twoD) * (2 * ((2 ^ j : Nat) : Rat)) = fv .f64 (fop .quo .f64 (hvD y j) twoD) * 2 * ((2 ^ j : Nat) : Rat) := by grind
      rw [k4]
      generalize fv .f64 (fop .quo .f64 (hvD y j) twoD) * 2 * ((2 ^ j : Nat) : Rat) = s1 at *
      generalize fv .f64 (hvD y j) * ((2 ^ j : Nat) : Rat) = s2 at *
      grind
    · rw [pow2_succ, ej]
      show v ≤ fv .f64 (fop .quo .f64 (hvD y j) twoD) * (2 * ((2 ^ j : Nat) : Rat)) + _
      have k2 := Rat.mul_le_mul_of_nonneg_right c (Rat.le_of_lt p0)
      have k3 : (fv .f64 (fop .quo .f64 (hvD y j) twoD) * 2 + fv .f64 (hvD y j) / 100000000000000) * ((2 ^ j : Nat) : Rat) = fv .f64 (fop .quo .f64 (hvD y j) twoD) * 2 * ((2 ^ j : Nat) : Rat) + fv .f64 (hvD y j) * ((2 ^ j : Nat) : Rat) / 100000000000000 := by grind
      rw [k3] at k2
      have k4 : fv .f64 (fop .quo .f64 (hvD y j) twoD) * (2 * ((2 ^ j : Nat) : Rat)) = fv .f64 (fop .quo .f64 (hvD y j) twoD) * 2 * ((2 ^ j : Nat) : Rat) := by grind
      rw [k4]
      generalize fv .f64 (fop .quo .f64 (hvD y j) twoD) * 2 * ((2 ^ j : Nat) : Rat) = s1 at *
      generalize fv .f64 (hvD y j) * ((2 ^ j : Nat) : Rat) = s2 at *
      grind
/-- After j doublings. -/
theorem tw_near {y : Nat} {v : Rat} (n : Num .f64 y) (hv : fv .f64 y = v) (h1 : 1 / 20000 ≤ v) (h2 : v ≤ 3 / 2) : ∀ j, (∀ i, i < j → fcmp .lss .f64 (twD y i) c075 = true) → j ≤ 14 ∧ Num .f64 (twD y j) ∧ fv .f64 (twD y j) ≤ v * ((2 ^ j : Nat) : Rat) + (j : Rat) * (v * ((2 ^ j : Nat) : Rat) / 500000000000) ∧ v * ((2 ^ j : Nat) : Rat) ≤ fv .f64 (twD y j) + (j : Rat) * (v * ((2 ^ j : Nat) : Rat) / 500000000000)
  | 0, _ => by
    have e1 : ((2 ^ 0 : Nat) : Rat) = 1 := rfl
    have e2 : ((0 : Nat) : Rat) * (v * 1 / 500000000000) = 0 := Rat.zero_mul _
    rw [e1, e2]
    refine ⟨Nat.zero_le _, n, ?_, ?_⟩
    · show fv .f64 y ≤ v * 1 + 0; grind
    · show v * 1 ≤ fv .f64 y + 0; grind
  | j + 1, h => by
    obtain ⟨i4, m, l, u⟩ := tw_near n hv h1 h2 j fun i hi => h i (by omega)
    obtain ⟨c1, c2⟩ := c075_val
    have hj := h j (by omega)
    rw [lss_val m c1, decide_eq_true_eq, c2] at hj
    have hjr : (j : Rat) ≤ 14 := by exact_mod_cast i4
    have hj0 : (0 : Rat) ≤ (j : Rat) := Rat.natCast_nonneg
    have p0 := pow2_pos j
    have hone : (1 : Rat) ≤ ((2 ^ j : Nat) : Rat) := by exact_mod_cast Nat.one_le_two_pow
    have hvj := jmul_le hone (show 0 ≤ v by grind)
    have hj13 : j ≤ 13 := by
      rcases Nat.lt_or_ge j 14 with h3 | h3
      · omega
      · have : j = 14 := by omega
        subst this
        have e16 : ((2 ^ 14 : Nat) : Rat) = 16384 := rfl
        rw [e16] at u
        have e14 : ((14 : Nat) : Rat) = 14 := rfl
        rw [e14] at u
        grind
    generalize hX : v * ((2 ^ j : Nat) : Rat) = X at *
    have k1 := Rat.mul_le_mul_of_nonneg_right hjr (show 0 ≤ X / 500000000000 by grind)
    have k0 := jmul_nn hj0 (show 0 ≤ X / 500000000000 by grind)
    obtain ⟨a, b, c⟩ := twice_near m (by grind) (by grind)
    have ej : ((j + 1 : Nat) : Rat) = (j : Rat) + 1 := Rat.natCast_add j 1
    have eX : v * ((2 ^ (j + 1) : Nat) : Rat) = 2 * X := by rw [pow2_succ, ← hX]; grind
    rw [eX, ej]
    refine ⟨by omega, a, ?_, ?_⟩
    · show fv .f64 (fop .mul .f64 (twD y j) twoD) ≤ _
      grind
    · show _ ≤ fv .f64 (fop .mul .f64 (twD y j) twoD) + _
      grind
/-! ### The series -/
def gQ (u : Rat) : Nat → Rat
  | 0 => 0
  | j + 1 => ((25 - 2 * j : Nat) : Rat)⁻¹ + u * gQ u j
def sL (m : Rat) : Rat := (m - 1) * (m + 1)⁻¹
def fL (m : Rat) : Rat := 2 * (sL m * gQ (sL m * sL m) 13)
def LN2 : Rat := fv .f64 ln2D
theorem inv_in {K : Rat} (h : 1 ≤ K) : 0 < K⁻¹ ∧ K⁻¹ ≤ 1 := by
  have hin : 0 < K⁻¹ := Rat.inv_pos.2 (by grind)
  have e1 : K⁻¹ * K = 1 := Rat.inv_mul_cancel _ (by grind)
  have e2 := jmul_le h (Rat.le_of_lt hin)
  exact ⟨hin, by grind⟩
theorem gQ_in {u : Rat} (h0 : 0 ≤ u) (h1 : u ≤ 1 / 23) : ∀ j, j ≤ 13 → 0 ≤ gQ u j ∧ gQ u j ≤ 21 / 20
  | 0, _ => by unfold gQ; constructor <;> decide +kernel
  | j + 1, h => by
    obtain ⟨a, b⟩ := gQ_in h0 h1 j (by omega)
    have hk : (1 : Rat) ≤ ((25 - 2 * j : Nat) : Rat) := by exact_mod_cast (show 1 ≤ 25 - 2 * j by omega)
    obtain ⟨c, d⟩ := inv_in hk
    have e := jmul_nn h0 a
    have f := jmul_le b h0
    unfold gQ
    constructor <;> grind
theorem sL_eq {m : Rat} (h : 1 / 2 ≤ m) : sL m * (m + 1) = m - 1 := by
  unfold sL; rw [Rat.mul_assoc, Rat.inv_mul_cancel _ (by grind)]; grind
theorem sL_in {m : Rat} (h1 : 3 / 4 ≤ m) (h2 : m ≤ 151 / 100) : -1 / 7 ≤ sL m ∧ sL m ≤ 41 / 200 ∧ 0 ≤ sL m * sL m ∧ sL m * sL m ≤ 1 / 23 := by
  have e := sL_eq (show 1 / 2 ≤ m by grind)
  have lo : -1 / 7 ≤ sL m := by
    by_cases h : -1 / 7 ≤ sL m
    · exact h
    · have k := Rat.mul_pos (show 0 < -1 / 7 - sL m by grind) (show 0 < m + 1 by grind)
      have k2 : (-1 / 7 - sL m) * (m + 1) = -1 / 7 * (m + 1) - sL m * (m + 1) := by grind
      grind
  have up : sL m ≤ 41 / 200 := by
    by_cases h : sL m ≤ 41 / 200
    · exact h
    · have k := Rat.mul_pos (show 0 < sL m - 41 / 200 by grind) (show 0 < m + 1 by grind)
      have k2 : (sL m - 41 / 200) * (m + 1) = sL m * (m + 1) - 41 / 200 * (m + 1) := by grind
      grind
  obtain ⟨a, b⟩ := j_abs (u := sL m) (v := sL m) (e := 41 / 200) (B := 41 / 200) (by grind) up (by grind) up
  refine ⟨lo, up, ?_, by grind⟩
  rcases Rat.le_total (a := 0) (b := sL m) with h | h
  · exact jmul_nn h h
  · have := jmul_nn (show 0 ≤ -sL m by grind) (show 0 ≤ -sL m by grind); grind
theorem ofD_val {i : Int} (h : i.natAbs < 16777216) : Num .f64 (ofD i) ∧ fv .f64 (ofD i) = (i : Rat) := ofInt_val .f64 h
theorem ln2_val : Num .f64 ln2D ∧ 69314718055994 / 100000000000000 ≤ LN2 ∧ LN2 ≤ 69314718055995 / 100000000000000 := by
  have h : (FloatKind.f64).format.read ln2D = .number false 6243314768165359 (-53) := by decide +kernel
  refine ⟨⟨_, _, _, h⟩, ?_⟩
  unfold LN2
  rw [fv_eq h]
  have h1 := tw_neg 53
  have h2 : tw (-((53 : Nat) : Int)) = tw (-53) := rfl
  have h3 : ((2 ^ 53 : Nat) : Rat) = 9007199254740992 := rfl
  have h4 : ((6243314768165359 : Nat) : Rat) = 6243314768165359 := rfl
  rw [h2, h3] at h1
  simp only [Bool.false_eq_true, if_false, h4]
  constructor <;> grind
theorem s_near {y : Nat} (n : Num .f64 y) (h1 : 3 / 4 ≤ fv .f64 y) (h2 : fv .f64 y ≤ 151 / 100) : Nr .f64 (fop .quo .f64 (fop .sub .f64 y oneD) (fop .add .f64 y oneD)) (sL (fv .f64 y)) (2 / 1000000000000000) := by
  obtain ⟨o1, o2⟩ := oneD_num
  have h100 := tw100
  obtain ⟨w1, w2, w3, w4⟩ := u64j
  have hs : Nr .f64 (fop .sub .f64 y oneD) (fv .f64 y - 1) (1 / 1000000000000000) := by
    have := Nr.sub (A := 1) (Nr.of n) (Nr.of o1) (by rw [o2]; grind) (by rw [o2]; grind) (by grind)
    rw [o2] at this
    exact this.mono (by grind)
  have ha : Nr .f64 (fop .add .f64 y oneD) (fv .f64 y + 1) (1 / 1000000000000000) := by
    have := Nr.add (A := 3) (Nr.of n) (Nr.of o1) (by rw [o2]; grind) (by rw [o2]; grind) (by grind)
    rw [o2] at this
    exact this.mono (by grind)
  obtain ⟨na, la, ua⟩ := ha
  have hK : 1 ≤ fv .f64 (fop .add .f64 y oneD) := by grind
  generalize hK0 : fv .f64 (fop .add .f64 y oneD) = K at *
  obtain ⟨i1, i2⟩ := inv_in hK
  have iK : K⁻¹ * K = 1 := Rat.inv_mul_cancel _ (by grind)
  have hl := hs.2.1
  have hu := hs.2.2
  obtain ⟨p1, p2⟩ := j_abs (u := fv .f64 (fop .sub .f64 y oneD)) (v := K⁻¹) (e := 6 / 10) (B := 1) (by grind) (by grind) (by grind) i2
  have d := divQ (A := 6 / 10) hs na hK0 hK (by grind) (by grind) (by decide +kernel) (by decide +kernel)
  -- the exact quotient
  obtain ⟨s1, s2, -, -⟩ := sL_in h1 h2
  have se := sL_eq (show 1 / 2 ≤ fv .f64 y by grind)
  have key : (fv .f64 y - 1) * K⁻¹ - sL (fv .f64 y) = sL (fv .f64 y) * (fv .f64 y + 1 - K) * K⁻¹ := by
    rw [← se]
    have : sL (fv .f64 y) = sL (fv .f64 y) * (K⁻¹ * K) := by rw [iK]; grind
    grind
  obtain ⟨q1, q2⟩ := j_abs (u := sL (fv .f64 y)) (v := fv .f64 y + 1 - K) (e := 41 / 200) (B := 1 / 1000000000000000) (by grind) s2 (by grind) (by grind)
  obtain ⟨r1, r2⟩ := j_abs (u := sL (fv .f64 y) * (fv .f64 y + 1 - K)) (v := K⁻¹) (e := 41 / 200 * (1 / 1000000000000000)) (B := 1) (by grind) (by grind) (by grind) i2
  obtain ⟨m, l, u⟩ := d
  generalize sL (fv .f64 y) * (fv .f64 y + 1 - K) * K⁻¹ = R at *
  generalize (fv .f64 y - 1) * K⁻¹ = T at *
  clear p1 p2 q1 q2 se iK i1 i2 hs
  exact ⟨m, by grind, by grind⟩
theorem lgQ_near {ub : Nat} {u : Rat} (hu : Nr .f64 ub u (1 / 1000000000000000)) (h0 : 0 ≤ u) (h1 : u ≤ 1 / 23) : ∀ j, j ≤ 13 → Nr .f64 (lgQ ub j) (gQ u j) (2 / 1000000000000000)
  | 0, _ => by
    have h : (FloatKind.f64).format.read (cn .f64 0) = .number false 0 (-1074) := by decide +kernel
    have n : Num .f64 (lgQ ub 0) := ⟨_, _, _, h⟩
    have v : fv .f64 (lgQ ub 0) = 0 := by
      show fv .f64 (cn .f64 0) = 0
      rw [fv_eq h]; show ((0 : Nat) : Rat) * tw (-1074) = 0; exact Rat.zero_mul _
    have := Nr.of n
    rw [v] at this
    exact this.mono (by decide +kernel)
  | j + 1, hj => by
    have ih := lgQ_near hu h0 h1 j (by omega)
    obtain ⟨a, b⟩ := gQ_in h0 (by grind) j (by omega)
    obtain ⟨o1, o2⟩ := oneD_num
    obtain ⟨k1, k2⟩ := ofD_val (i := 25 - 2 * (j : Int)) (by omega)
    have hki : ((25 - 2 * (j : Int) : Int) : Rat) = ((25 - 2 * j : Nat) : Rat) := by
      have : (25 - 2 * (j : Int) : Int) = ((25 - 2 * j : Nat) : Int) := by omega
      rw [this, Rat.intCast_natCast]
    rw [hki] at k2
    have hk : (1 : Rat) ≤ ((25 - 2 * j : Nat) : Rat) := by exact_mod_cast (show 1 ≤ 25 - 2 * j by omega)
    obtain ⟨c, d⟩ := inv_in hk
    have q := divQ (A := 1) (Nr.of o1) k1 k2 hk (by rw [o2]; grind) (by rw [o2]; grind) (by decide +kernel) (by decide +kernel)
    rw [o2] at q
    have m := mulJ hu ih (X := 1 / 23) (Y := 106 / 100) (by grind) (by grind) (by grind) (by grind) (by decide +kernel) (by decide +kernel) (by decide +kernel)
    have p := jmul_nn h0 a
    have p2 := jmul_le b h0
    have s := addJ q m (A := 2) (by grind) (by grind) (by decide +kernel) (by decide +kernel)
    have e1 : (1 : Rat) * ((25 - 2 * j : Nat) : Rat)⁻¹ = ((25 - 2 * j : Nat) : Rat)⁻¹ := Rat.one_mul _
    rw [e1] at s
    exact s.mono (by grind)
theorem lgFin_near {y : Nat} {e : Int} (n : Num .f64 y) (h1 : 3 / 4 ≤ fv .f64 y) (h2 : fv .f64 y ≤ 151 / 100) (e1 : -14 ≤ e) (e2 : e ≤ 8) : Nr .f64 (lgFin y e) (fL (fv .f64 y) + (e : Rat) * LN2) (1 / 100000000000000) := by
  obtain ⟨a1, a2, a3, a4⟩ := sL_in h1 h2
  have s := s_near n h1 h2
  have u := mulJ s s (X := 41 / 200) (Y := 21 / 100) (by grind) (by grind) (by grind) (by grind) (by decide +kernel) (by decide +kernel) (by decide +kernel)
  have q := lgQ_near (u.mono (by decide +kernel)) a3 a4 13 (by decide)
  obtain ⟨b1, b2⟩ := gQ_in a3 (by grind) 13 (by decide)
  have sq := mulJ s q (X := 41 / 200) (Y := 106 / 100) (by grind) (by grind) (by grind) (by grind) (by decide +kernel) (by decide +kernel) (by decide +kernel)
  obtain ⟨c1, c2⟩ := j_abs (u := sL (fv .f64 y)) (v := gQ (sL (fv .f64 y) * sL (fv .f64 y)) 13) (e := 41 / 200) (B := 21 / 20) (by grind) (by grind) (by grind) b2
  obtain ⟨t1, t2⟩ := twoD_val
  have tn := Nr.of t1
  rw [t2] at tn
  have tq := mulJ tn sq (X := 2) (Y := 22 / 100) (by grind) (by grind) (by grind) (by grind) (by decide +kernel) (by decide +kernel) (by decide +kernel)
  obtain ⟨k1, k2⟩ := ofD_val (i := e) (by omega)
  have kn := Nr.of k1
  rw [k2] at kn
  obtain ⟨l1, l2, l3⟩ := ln2_val
  have ln : Nr .f64 ln2D LN2 0 := Nr.of l1
  have r1 : (-14 : Rat) ≤ (e : Rat) := by
    have h : ((-14 : Int) : Rat) ≤ (e : Rat) := Rat.intCast_le_intCast.2 e1
    exact h
  have r2 : (e : Rat) ≤ 8 := by exact_mod_cast e2
  have el := mulJ kn ln (X := 14) (Y := 7 / 10) (by grind) (by grind) (by grind) (by grind) (by decide +kernel) (by decide +kernel) (by decide +kernel)
  obtain ⟨d1, d2⟩ := j_abs (u := (e : Rat)) (v := LN2) (e := 14) (B := 7 / 10) (by grind) (by grind) (by grind) (by grind)
  have s := addJ tq el (A := 12) (by grind) (by grind) (by decide +kernel) (by decide +kernel)
  exact s.mono (by decide +kernel)
/-! ### The whole -/
theorem tw_pow (j : Nat) : tw (j : Int) = ((2 ^ j : Nat) : Rat) := tw_nat j
/-- The logarithm of a float is the series' value of its reduced number. -/
theorem log_near {x : Nat} (n : Num .f32 x) (h1 : 1 / 16384 ≤ fv .f32 x) (h2 : fv .f32 x ≤ 256) :
    ∃ (m : Rat) (k : Int), 3 / 4 ≤ m ∧ m ≤ 3 / 2 + 1 / 50000000000 ∧ -14 ≤ k ∧ k ≤ 8 ∧ m * tw k ≤ fv .f32 x + fv .f32 x / 10000000000 ∧ fv .f32 x ≤ m * tw k + fv .f32 x / 10000000000 ∧ Nr .f32 (logF x) (fL m + (k : Rat) * LN2) (1 / 1000000) := by
  obtain ⟨s, mm, ee, hr⟩ := n
  have hv := fv_eq hr
  have hr' : Ieee.single.read x = .number s mm ee := hr
  have tp := tw_pos ee
  have hs : s = false := by
    cases s
    · rfl
    · rw [hv] at h1
      simp only [if_true] at h1
      have := jmul_nn (show (0 : Rat) ≤ (mm : Rat) from Rat.natCast_nonneg) (Rat.le_of_lt tp)
      grind
  subst hs
  have hm : mm ≠ 0 := by
    rintro rfl
    rw [hv] at h1
    have : ((0 : Nat) : Rat) = 0 := rfl
    simp only [Bool.false_eq_true, if_false, this, Rat.zero_mul] at h1
    grind
  have hlog : logF x = narrowF (logW (wide x)) := by
    unfold logF; rw [hr']; simp [hm]
  obtain ⟨wn, wv⟩ := wide_val (x := x) ⟨_, _, _, hr⟩
  have hb := wide_bg hr' hm
  generalize fv .f32 x = v at *
  obtain ⟨j, ok, hc⟩ := hv_ends hb
  obtain ⟨e1, b1⟩ := hv_out ok hc
  obtain ⟨j4, n1, l1, u1⟩ := hv_near wn wv h2 j ok.2.1 (by
    by_cases h : j = 0
    · exact .inr h
    · refine .inl ?_
      obtain ⟨c1, c2⟩ := c15_val
      have := ok.2.1 0 (by omega)
      rw [show hvD (wide x) 0 = wide x from rfl, geq_val wn c1, decide_eq_true_eq, c2, wv] at this
      exact this)
  obtain ⟨c1, c2⟩ := c15_val
  rw [geq_val n1 c1, decide_eq_false_iff_not, c2] at hc
  have p0 := pow2_pos j
  have j0 : (0 : Rat) ≤ (j : Rat) := Rat.natCast_nonneg
  have j4r : (j : Rat) ≤ 8 := by exact_mod_cast j4
  have jk := Rat.mul_le_mul_of_nonneg_right j4r (show 0 ≤ v / 10000000000000 by grind)
  have p16 : ((2 ^ j : Nat) : Rat) ≤ 256 := by
    have : 2 ^ j ≤ 2 ^ 8 := Nat.pow_le_pow_right (by decide) j4
    exact_mod_cast this
  obtain ⟨i, ok2, hd⟩ := tw_ends b1
  have e2 := tw_out ok2 hd
  have hW : logW (wide x) = lgFin (twD (hvD (wide x) j) i) ((j : Int) - (i : Int)) := by
    unfold logW lgE; rw [e1, e2]
  generalize hy1 : hvD (wide x) j = y1 at *
  have v1lo : 1 / 20000 ≤ fv .f64 y1 := by
    by_cases h : j = 0
    · subst h
      have e16 : ((2 ^ 0 : Nat) : Rat) = 1 := rfl
      rw [e16] at u1
      have e0 : ((0 : Nat) : Rat) = 0 := rfl
      rw [e0] at u1
      grind
    · obtain ⟨c1, c2⟩ := c15_val
      have h0 := ok.2.1 0 (by omega)
      rw [show hvD (wide x) 0 = wide x from rfl, geq_val wn c1, decide_eq_true_eq, c2, wv] at h0
      by_cases h5 : 1 / 20000 ≤ fv .f64 y1
      · exact h5
      · exfalso
        by_cases h6 : 0 ≤ fv .f64 y1
        · have := jmul_le p16 h6; grind
        · have := jmul_nn (show 0 ≤ -fv .f64 y1 by grind) (Rat.le_of_lt p0); grind
  have tn := tw_near (y := y1) n1 rfl v1lo (by grind) i ok2.2.1
  obtain ⟨i14, n2, l2, u2⟩ := tn
  obtain ⟨d1, d2⟩ := c075_val
  rw [lss_val n2 d1, decide_eq_false_iff_not, d2] at hd
  have q0 := pow2_pos i
  have i0 : (0 : Rat) ≤ (i : Rat) := Rat.natCast_nonneg
  have i14r : (i : Rat) ≤ 14 := by exact_mod_cast i14
  have hup : fv .f64 (twD y1 i) ≤ 3 / 2 + 1 / 50000000000 := by
    cases i with
    | zero =>
      show fv .f64 y1 ≤ _
      grind
    | succ i =>
      obtain ⟨-, n3, l3, u3⟩ := tw_near (y := y1) n1 rfl v1lo (by grind) i (fun a ha => ok2.2.1 a (by omega))
      have h3 := ok2.2.1 i (by omega)
      rw [lss_val n3 d1, decide_eq_true_eq, d2] at h3
      have hone : (1 : Rat) ≤ ((2 ^ i : Nat) : Rat) := by exact_mod_cast Nat.one_le_two_pow
      have hvj := jmul_le hone (show 0 ≤ fv .f64 y1 by grind)
      have i13 : (i : Rat) ≤ 14 := by exact_mod_cast (show i ≤ 14 by omega)
      have k1 := Rat.mul_le_mul_of_nonneg_right i13 (show 0 ≤ fv .f64 y1 * ((2 ^ i : Nat) : Rat) / 500000000000 by grind)
      obtain ⟨-, b, -⟩ := twice_near n3 (by grind) (by grind)
      show fv .f64 (fop .mul .f64 (twD y1 i) twoD) ≤ _
      grind
  have nr := lgFin_near (e := (j : Int) - (i : Int)) n2 (by grind) (by grind) (by omega) (by omega)
  have hT : tw ((j : Int) - (i : Int)) * ((2 ^ i : Nat) : Rat) = ((2 ^ j : Nat) : Rat) := by
    rw [← tw_pow, ← tw_add, ← tw_pow]; congr 1; omega
  have T0 := tw_pos ((j : Int) - (i : Int))
  refine ⟨fv .f64 (twD y1 i), (j : Int) - (i : Int), by grind, hup, by omega, by omega, ?_, ?_, ?_⟩
  · have k := Rat.mul_le_mul_of_nonneg_right l2 (Rat.le_of_lt T0)
    generalize tw ((j : Int) - (i : Int)) = T at *
    have ka : (fv .f64 y1 * ((2 ^ i : Nat) : Rat) + (i : Rat) * (fv .f64 y1 * ((2 ^ i : Nat) : Rat) / 500000000000)) * T = fv .f64 y1 * (T * ((2 ^ i : Nat) : Rat)) + (i : Rat) * (fv .f64 y1 * (T * ((2 ^ i : Nat) : Rat)) / 500000000000) := by grind
    rw [ka, hT] at k
    generalize hZ : fv .f64 y1 * ((2 ^ j : Nat) : Rat) = Z at *
    have z0 : 0 ≤ Z := by rw [← hZ]; exact jmul_nn (by grind) (Rat.le_of_lt p0)
    have kk := Rat.mul_le_mul_of_nonneg_right i14r (show 0 ≤ Z / 500000000000 by grind)
    grind
  · have k := Rat.mul_le_mul_of_nonneg_right u2 (Rat.le_of_lt T0)
    generalize tw ((j : Int) - (i : Int)) = T at *
    have ka : fv .f64 y1 * ((2 ^ i : Nat) : Rat) * T = fv .f64 y1 * (T * ((2 ^ i : Nat) : Rat)) := by grind
    have kb : (fv .f64 (twD y1 i) + (i : Rat) * (fv .f64 y1 * ((2 ^ i : Nat) : Rat) / 500000000000)) * T = fv .f64 (twD y1 i) * T + (i : Rat) * (fv .f64 y1 * (T * ((2 ^ i : Nat) : Rat)) / 500000000000) := by grind
    rw [ka, kb, hT] at k
    generalize hZ : fv .f64 y1 * ((2 ^ j : Nat) : Rat) = Z at *
    have z0 : 0 ≤ Z := by rw [← hZ]; exact jmul_nn (by grind) (Rat.le_of_lt p0)
    have kk := Rat.mul_le_mul_of_nonneg_right i14r (show 0 ≤ Z / 500000000000 by grind)
    grind
  · rw [hlog, hW]
    obtain ⟨nn, nl, nu⟩ := nr
    -- the size of the logarithm
    obtain ⟨a1, a2, a3, a4⟩ := sL_in (m := fv .f64 (twD y1 i)) (by grind) (by grind)
    obtain ⟨b3, b4⟩ := gQ_in a3 a4 13 (by decide)
    obtain ⟨g1, g2⟩ := j_abs (u := sL (fv .f64 (twD y1 i))) (v := gQ (sL (fv .f64 (twD y1 i)) * sL (fv .f64 (twD y1 i))) 13) (e := 41 / 200) (B := 21 / 20) (by grind) (by grind) (by grind) b4
    obtain ⟨o1, o2, o3⟩ := ln2_val
    have r1 : (-14 : Rat) ≤ (((j : Int) - (i : Int) : Int) : Rat) := by
      have h : ((-14 : Int) : Rat) ≤ (((j : Int) - (i : Int) : Int) : Rat) := Rat.intCast_le_intCast.2 (by omega)
      exact h
    have r2 : (((j : Int) - (i : Int) : Int) : Rat) ≤ 8 := by
      have h : (((j : Int) - (i : Int) : Int) : Rat) ≤ ((8 : Int) : Rat) := Rat.intCast_le_intCast.2 (by omega)
      exact h
    obtain ⟨d3, d4⟩ := j_abs (u := (((j : Int) - (i : Int) : Int) : Rat)) (v := LN2) (e := 14) (B := 7 / 10) (by grind) (by grind) (by grind) (by grind)
    have hf : fL (fv .f64 (twD y1 i)) = 2 * (sL (fv .f64 (twD y1 i)) * gQ (sL (fv .f64 (twD y1 i)) * sL (fv .f64 (twD y1 i))) 13) := rfl
    have h100 := tw100
    obtain ⟨⟨pn, pl, pu⟩, -, -⟩ := narrow_val (A := 11) nn (by grind) (by grind) (by grind)
    obtain ⟨w1, w2, w3, w4⟩ := u32j
    exact ⟨pn, by grind, by grind⟩
end Go.Proofs.Ytmcnfapdghoenaa
