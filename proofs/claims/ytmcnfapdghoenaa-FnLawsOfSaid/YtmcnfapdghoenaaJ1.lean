
/- The exponential in floats, near an exact one. Plain. Condition: numbers from -200 to 8. -/
import Derived.Test.YtmcnfapdghoenaaRa
namespace Go.Proofs.Ytmcnfapdghoenaa
open Go Go.RowKit

attribute [local irreducible] tw
/-! ### Small laws -/
theorem jmul_nn {a b : Rat} (ha : 0 ≤ a) (hb : 0 ≤ b) : 0 ≤ a * b := Rat.mul_nonneg ha hb
theorem jmul_le {a b c : Rat} (h : b ≤ c) (ha : 0 ≤ a) : a * b ≤ a * c := Rat.mul_le_mul_of_nonneg_left h ha
theorem j_abs {u v e B : Rat} (h1 : -e ≤ u) (h2 : u ≤ e) (h3 : -B ≤ v) (h4 : v ≤ B) : u * v ≤ e * B ∧ -(e * B) ≤ u * v := by
  have a := jmul_nn (show (0 : Rat) ≤ e - u by grind) (show (0 : Rat) ≤ B + v by grind)
  have b := jmul_nn (show (0 : Rat) ≤ e + u by grind) (show (0 : Rat) ≤ B - v by grind)
  have c := jmul_nn (show (0 : Rat) ≤ e - u by grind) (show (0 : Rat) ≤ B - v by grind)
  have d := jmul_nn (show (0 : Rat) ≤ e + u by grind) (show (0 : Rat) ≤ B + v by grind)
  constructor <;> grind
theorem u64j : uu .f64 ≤ 1 / 9000000000000000 ∧ 0 < uu .f64 ∧ eta .f64 ≤ 1 / 1000000000000000000 ∧ 0 < eta .f64 := by
  refine ⟨?_, tw_pos _, ?_, eta64.1⟩
  · rw [uu64]; decide +kernel
  · exact Rat.le_trans eta64.2 (by decide +kernel)
theorem u32j : uu .f32 ≤ 1 / 16000000 ∧ 0 < uu .f32 ∧ eta .f32 ≤ 1 / 1000000000000000000 ∧ 0 < eta .f32 := by
  refine ⟨?_, tw_pos _, ?_, eta32.1⟩
  · rw [uu32]; decide +kernel
  · exact Rat.le_trans eta32.2 (by decide +kernel)
/-- One product in 64 bits. -/
theorem mulJ {a b : Nat} {x y e f X Y : Rat} (h1 : Nr .f64 a x e) (h2 : Nr .f64 b y f) (x1 : x ≤ X) (x2 : -X ≤ x) (y1 : y + f ≤ Y) (y2 : -Y ≤ y - f) (he : 0 ≤ e) (hf : 0 ≤ f) (hA : X * Y + e * Y ≤ 100000000) :
    Nr .f64 (fop .mul .f64 a b) (x * y) (e * Y + X * f + ((X * Y + e * Y) / 9000000000000000 + 1 / 1000000000000000000)) := by
  obtain ⟨n1, l1, u1⟩ := h1
  obtain ⟨n2, l2, u2⟩ := h2
  have h100 := tw100
  obtain ⟨p1, p2⟩ := j_abs (u := fv .f64 a - x) (v := fv .f64 b) (e := e) (B := Y) (by grind) (by grind) (by grind) (by grind)
  obtain ⟨q1, q2⟩ := j_abs (u := x) (v := fv .f64 b - y) (e := X) (B := f) (by grind) (by grind) (by grind) (by grind)
  obtain ⟨r1, r2⟩ := j_abs (u := x) (v := fv .f64 b) (e := X) (B := Y) (by grind) (by grind) (by grind) (by grind)
  have e1 : fv .f64 a * fv .f64 b = x * fv .f64 b + (fv .f64 a - x) * fv .f64 b := by grind
  have e2 : x * fv .f64 b = x * y + x * (fv .f64 b - y) := by grind
  obtain ⟨⟨n, l, u⟩, _⟩ := (wr_mul n1 n2).nr (A := X * Y + e * Y) (by rw [e1]; grind) (by rw [e1]; grind) (by grind)
  obtain ⟨w1, w2, w3, w4⟩ := u64j
  have w5 : 0 ≤ X * Y + e * Y := by
    have a1 : 0 ≤ X := by grind
    have a2 : 0 ≤ Y := by grind
    have a3 := jmul_nn a1 a2
    have a4 := jmul_nn he a2
    grind
  have w6 := Rat.mul_le_mul_of_nonneg_right w1 w5
  rw [e1, e2] at l u
  generalize (fv .f64 a - x) * fv .f64 b = s1 at *
  generalize x * (fv .f64 b - y) = s2 at *
  generalize x * fv .f64 b = s3 at *
  generalize x * y = s4 at *
  generalize X * Y = s5 at *
  generalize e * Y = s6 at *
  generalize X * f = s7 at *
  generalize uu .f64 * (s5 + s6) = s8 at *
  exact ⟨n, by grind, by grind⟩
/-! ### The exact one -/
def pH (t : Rat) : Nat → Rat
  | 0 => 1
  | j + 1 => 1 + t * pH t j / ((12 - j : Nat) : Rat)
def sqN (p : Rat) : Nat → Rat
  | 0 => p
  | j + 1 => sqN p j * sqN p j
def EX (x : Rat) : Rat := sqN (pH (x / 256) 12) 8
theorem divK {a : Rat} {k : Nat} (h : 1 ≤ k) (ha : 0 ≤ a) : 0 ≤ a / (k : Rat) ∧ a / (k : Rat) ≤ a := by
  have hk : (1 : Rat) ≤ (k : Rat) := by exact_mod_cast h
  have e : a / (k : Rat) * (k : Rat) = a := Rat.div_mul_cancel (by grind)
  have h0 : 0 ≤ a / (k : Rat) := by
    rw [Rat.div_def]; exact jmul_nn ha (Rat.le_of_lt (Rat.inv_pos.2 (by grind)))
  have := jmul_le hk h0
  exact ⟨h0, by grind⟩
theorem divN {a : Rat} {k : Nat} : -a / (k : Rat) = -(a / (k : Rat)) := by rw [Rat.div_def, Rat.div_def]; grind
/-- Below nothing. -/
theorem pH_neg {t : Rat} (h1 : -4 / 5 ≤ t) (h2 : t ≤ 0) : ∀ j, j ≤ 12 → 1 / 5 ≤ pH t j ∧ pH t j ≤ 1
  | 0, _ => by unfold pH; constructor <;> decide +kernel
  | j + 1, h => by
    obtain ⟨a, b⟩ := pH_neg h1 h2 j (by omega)
    obtain ⟨c, d⟩ := j_abs (u := -t) (v := pH t j) (e := 4 / 5) (B := 1) (by grind) (by grind) (by grind) (by grind)
    have h0 := jmul_nn (show (0 : Rat) ≤ -t by grind) (show (0 : Rat) ≤ pH t j by grind)
    obtain ⟨q1, q2⟩ := divK (k := 12 - j) (by omega) h0
    have e : t * pH t j / ((12 - j : Nat) : Rat) = -(-t * pH t j / ((12 - j : Nat) : Rat)) := by rw [← divN]; congr 1; grind
    unfold pH
    rw [e]
    constructor <;> grind
theorem pH_pos {t : Rat} (h1 : 0 ≤ t) (h2 : t ≤ 1 / 25) : ∀ j, j ≤ 12 → 1 ≤ pH t j ∧ pH t j ≤ 6 / 5
  | 0, _ => by unfold pH; constructor <;> decide +kernel
  | j + 1, h => by
    obtain ⟨a, b⟩ := pH_pos h1 h2 j (by omega)
    obtain ⟨c, d⟩ := j_abs (u := t) (v := pH t j) (e := 1 / 25) (B := 6 / 5) (by grind) (by grind) (by grind) (by grind)
    have h0 := jmul_nn h1 (show (0 : Rat) ≤ pH t j by grind)
    obtain ⟨q1, q2⟩ := divK (k := 12 - j) (by omega) h0
    unfold pH
    constructor <;> grind
theorem pH_in {t : Rat} (h1 : -4 / 5 ≤ t) (h2 : t ≤ 1 / 25) (j : Nat) (hj : j ≤ 12) : 1 / 5 ≤ pH t j ∧ pH t j ≤ 6 / 5 := by
  by_cases h : t ≤ 0
  · obtain ⟨a, b⟩ := pH_neg h1 h j hj; exact ⟨a, by grind⟩
  · obtain ⟨a, b⟩ := pH_pos (by grind) h2 j hj; exact ⟨by grind, b⟩
/-! ### The float -/
theorem fkD_val {k : Nat} (h : k ≤ 12) : Num .f64 (fkD k) ∧ fv .f64 (fkD k) = (k : Rat) := by
  obtain ⟨a, b⟩ := ofInt_val .f64 (z := (k : Int)) (by omega)
  rw [Rat.intCast_natCast] at b
  exact ⟨a, b⟩
theorem oneD_val : Nr .f64 oneD 1 0 := by
  have h : oneD = fkD 1 := by decide +kernel
  obtain ⟨a, b⟩ := fkD_val (k := 1) (by decide)
  rw [← h] at a b
  have : ((1 : Nat) : Rat) = 1 := rfl
  rw [this] at b
  exact ⟨a, by rw [b]; decide +kernel, by rw [b]; decide +kernel⟩
theorem divQ {a y : Nat} {x e A K : Rat} (h : Nr .f64 a x e) (n2 : Num .f64 y) (v2 : fv .f64 y = K) (hk1 : 1 ≤ K) (h1 : fv .f64 a * K⁻¹ ≤ A) (h2 : -A ≤ fv .f64 a * K⁻¹) (he : 0 ≤ e) (hA : A ≤ 100000000) :
    Nr .f64 (fop .quo .f64 a y) (x * K⁻¹) (e + (A / 3000000000000000 + 1 / 1000000000000000000)) := by
  obtain ⟨n, l, u⟩ := h
  have h100 := tw100
  obtain ⟨V, hW, -, hV⟩ := wr_div n n2 (by rw [v2]; grind)
  rw [v2] at hV
  have hin : 0 < K⁻¹ := Rat.inv_pos.2 (by grind)
  have hin1 : K⁻¹ ≤ 1 := by
    have e1 : K⁻¹ * K = 1 := Rat.inv_mul_cancel _ (by grind)
    have e2 := jmul_le hk1 (Rat.le_of_lt hin)
    grind
  have hA0 : 0 ≤ A := by grind
  have d1 : fv .f64 a / K = fv .f64 a * K⁻¹ := Rat.div_def _ _
  obtain ⟨q1, q2⟩ := j_abs (u := fv .f64 a - x) (v := K⁻¹) (e := e) (B := 1) (by grind) (by grind) (by grind) hin1
  obtain ⟨v1, v3⟩ := hV A (by rw [d1]; exact h1) (by rw [d1]; grind)
  obtain ⟨w1, w2, w3, w4⟩ := u64j
  have w6 := Rat.mul_le_mul_of_nonneg_right w1 hA0
  rw [d1] at v1 v3
  have e3 : fv .f64 a * K⁻¹ = x * K⁻¹ + (fv .f64 a - x) * K⁻¹ := by grind
  have w7 := Rat.mul_le_mul_of_nonneg_right w1 (show (0 : Rat) ≤ 2 * A by grind)
  obtain ⟨⟨m, l3, u3⟩, _⟩ := hW.nr (A := 2 * A) (by grind) (by grind) (by grind)
  generalize (fv .f64 a - x) * K⁻¹ = s1 at *
  generalize fv .f64 a * K⁻¹ = s2 at *
  generalize x * K⁻¹ = s3 at *
  generalize uu .f64 * (2 * A) = s5 at *
  generalize uu .f64 * A = s4 at *
  clear hV hW hin hin1 d1 n n2 v2 h100 w1 w2
  exact ⟨m, by grind, by grind⟩
theorem divJ {a k : Nat} {x e A : Rat} (h : Nr .f64 a x e) (hk : 1 ≤ k) (hk2 : k ≤ 12) (h1 : x + e ≤ A) (h2 : -A ≤ x - e) (he : 0 ≤ e) (hA : A ≤ 100000000) :
    Nr .f64 (fop .quo .f64 a (fkD k)) (x / (k : Rat)) (e + (A / 3000000000000000 + 1 / 1000000000000000000)) := by
  obtain ⟨n2, v2⟩ := fkD_val hk2
  have hk1 : (1 : Rat) ≤ (k : Rat) := by exact_mod_cast hk
  have hin : 0 < ((k : Rat))⁻¹ := Rat.inv_pos.2 (by grind)
  have hin1 : ((k : Rat))⁻¹ ≤ 1 := by
    have e1 : ((k : Rat))⁻¹ * (k : Rat) = 1 := Rat.inv_mul_cancel _ (by grind)
    have e2 := jmul_le hk1 (Rat.le_of_lt hin)
    grind
  have hl := h.2.1
  have hu := h.2.2
  obtain ⟨p1, p2⟩ := j_abs (u := fv .f64 a) (v := ((k : Rat))⁻¹) (e := A) (B := 1) (by grind) (by grind) (by grind) hin1
  rw [Rat.div_def]
  exact divQ h n2 v2 hk1 (by grind) (by grind) he hA
theorem addJ {a b : Nat} {x y e f A : Rat} (h1 : Nr .f64 a x e) (h2 : Nr .f64 b y f) (h3 : x + y + e + f ≤ A) (h4 : -A ≤ x + y - e - f) (hA : A ≤ 100000000) (h0 : 0 ≤ A) :
    Nr .f64 (fop .add .f64 a b) (x + y) (e + f + (A / 9000000000000000 + 1 / 1000000000000000000)) := by
  have h100 := tw100
  obtain ⟨w1, w2, w3, w4⟩ := u64j
  have w6 := Rat.mul_le_mul_of_nonneg_right w1 h0
  exact (Nr.add h1 h2 h3 (by grind) (by grind)).mono (by grind)
theorem horner_near {tb : Nat} {t : Rat} (ht : Nr .f64 tb t (1 / 1000000000000000)) (h1 : -79 / 100 ≤ t) (h2 : t ≤ 1 / 25) : ∀ j, j ≤ 12 → Nr .f64 (expHorner tb j) (pH t j) (3 / 100000000000000)
  | 0, _ => oneD_val.mono (by decide +kernel)
  | j + 1, h => by
    have ih := horner_near ht h1 h2 j (by omega)
    obtain ⟨a, b⟩ := pH_in (t := t) (by grind) h2 j (by omega)
    have m := mulJ ht ih (X := 79 / 100) (Y := 13 / 10) (by grind) (by grind) (by grind) (by grind) (by decide +kernel) (by decide +kernel) (by decide +kernel)
    obtain ⟨c, d⟩ := j_abs (u := t) (v := pH t j) (e := 79 / 100) (B := 6 / 5) (by grind) (by grind) (by grind) (by grind)
    have q := divJ (k := 12 - j) (A := 1) m (by omega) (by omega) (by grind) (by grind) (by decide +kernel) (by decide +kernel)
    have hk0 : (1 : Rat) ≤ ((12 - j : Nat) : Rat) := by exact_mod_cast (show 1 ≤ 12 - j by omega)
    have hin : 0 < (((12 - j : Nat) : Rat))⁻¹ := Rat.inv_pos.2 (by grind)
    obtain ⟨e1, e2⟩ : t * pH t j / ((12 - j : Nat) : Rat) ≤ 1 ∧ -1 ≤ t * pH t j / ((12 - j : Nat) : Rat) := by
      have hk1 : (1 : Rat) ≤ ((12 - j : Nat) : Rat) := by exact_mod_cast (show 1 ≤ 12 - j by omega)
      have e1 : (((12 - j : Nat) : Rat))⁻¹ * ((12 - j : Nat) : Rat) = 1 := Rat.inv_mul_cancel _ (by grind)
      have e2 := jmul_le hk1 (Rat.le_of_lt hin)
      obtain ⟨g1, g2⟩ := j_abs (u := t * pH t j) (v := (((12 - j : Nat) : Rat))⁻¹) (e := 1) (B := 1) (by grind) (by grind) (by grind) (by grind)
      rw [Rat.div_def]
      constructor <;> grind
    have s := addJ oneD_val q (A := 3) (by grind) (by grind) (by decide +kernel) (by decide +kernel)
    show Nr .f64 (expStep tb (expHorner tb j) (12 - j)) (1 + t * pH t j / ((12 - j : Nat) : Rat)) _
    exact s.mono (by grind)
/-! ### Squares -/
theorem sq_abs {v : Nat} {w e : Rat} (h : Nr .f64 v w e) (w0 : 0 ≤ w) (w1 : w ≤ 1) (e0 : 1 / 1000000000000000 ≤ e) (e1 : e ≤ 1 / 1000) : Nr .f64 (fop .mul .f64 v v) (w * w) (3 * e) ∧ 0 ≤ w * w ∧ w * w ≤ 1 := by
  have a := jmul_nn w0 w0
  have b := jmul_le w1 w0
  have c := jmul_le e1 (show (0 : Rat) ≤ e by grind)
  have m := mulJ h h (X := 1) (Y := 1 + 1 / 1000) (by grind) (by grind) (by grind) (by grind) (by grind) (by grind) (by grind)
  exact ⟨m.mono (by grind), a, by grind⟩
theorem expSq_abs {v : Nat} {w : Rat} (h : Nr .f64 v w (3 / 100000000000000)) (w0 : 0 ≤ w) (w1 : w ≤ 1) : ∀ j, j ≤ 8 → Nr .f64 (expSq v j) (sqN w j) (3 / 100000000000000 * ((3 ^ j : Nat) : Rat)) ∧ 0 ≤ sqN w j ∧ sqN w j ≤ 1
  | 0, _ => ⟨h.mono (by decide +kernel), w0, w1⟩
  | j + 1, hj => by
    obtain ⟨a, b, c⟩ := expSq_abs h w0 w1 j (by omega)
    have hp : ((3 ^ (j + 1) : Nat) : Rat) = 3 * ((3 ^ j : Nat) : Rat) := by rw [Nat.pow_succ, Nat.mul_comm]; exact Rat.natCast_mul 3 (3 ^ j)
    have h1 : (1 : Rat) ≤ ((3 ^ j : Nat) : Rat) := by exact_mod_cast Nat.one_le_pow _ _ (by decide)
    have h2 : ((3 ^ j : Nat) : Rat) ≤ 2187 := by
      have : 3 ^ j ≤ 3 ^ 7 := Nat.pow_le_pow_right (by decide) (by omega)
      exact_mod_cast this
    obtain ⟨x, y, z⟩ := sq_abs a b c (by grind) (by grind)
    exact ⟨by rw [hp]; exact x.mono (by grind), y, z⟩
theorem sq_rel {v : Nat} {w d : Rat} (h : Nr .f64 v w (d * w)) (w1 : 1 ≤ w) (w2 : w ≤ 100) (d0 : 1 / 1000000000000000 ≤ d) (d1 : d ≤ 1 / 1000) : Nr .f64 (fop .mul .f64 v v) (w * w) (3 * d * (w * w)) := by
  have a := jmul_nn (show (0 : Rat) ≤ d by grind) (show (0 : Rat) ≤ w by grind)
  have b := Rat.mul_le_mul_of_nonneg_right d1 (show (0 : Rat) ≤ w by grind)
  have c := Rat.mul_le_mul_of_nonneg_right d0 (show (0 : Rat) ≤ w by grind)
  have ww := jmul_le w2 (show (0 : Rat) ≤ w by grind)
  have ww1 := jmul_le w1 (show (0 : Rat) ≤ w by grind)
  have k1 := Rat.mul_le_mul_of_nonneg_right b (show (0 : Rat) ≤ w by grind)
  have k2 := jmul_le b a
  have k3 := Rat.mul_le_mul_of_nonneg_right c (show (0 : Rat) ≤ w by grind)
  have m := mulJ h h (X := w) (Y := w + d * w) (by grind) (by grind) (by grind) (by grind) a a (by grind)
  refine m.mono ?_
  have e1 : d * w * (w + d * w) + w * (d * w) + ((w * (w + d * w) + d * w * (w + d * w)) / 9000000000000000 + 1 / 1000000000000000000) = 2 * (d * w * w) + d * w * (d * w) + ((w * w + 2 * (d * w * w) + d * w * (d * w)) / 9000000000000000 + 1 / 1000000000000000000) := by grind
  have e2 : 3 * d * (w * w) = 3 * (d * w * w) := by grind
  have e3 : d * w * (d * w) ≤ d * w * (1 / 1000 * w) := k2
  have e4 : d * w * (1 / 1000 * w) = 1 / 1000 * (d * w * w) := by grind
  have e5 : 1 / 1000000000000000 * w * w = 1 / 1000000000000000 * (w * w) := by grind
  rw [e1, e2]
  generalize d * w * (d * w) = s1 at *
  generalize d * w * w = s2 at *
  generalize w * w = s3 at *
  grind
theorem sqN_mono {a b : Rat} (h0 : 0 ≤ a) (h : a ≤ b) : ∀ j, 0 ≤ sqN a j ∧ sqN a j ≤ sqN b j
  | 0 => ⟨h0, h⟩
  | j + 1 => by
    obtain ⟨x, y⟩ := sqN_mono h0 h j
    have p := jmul_nn x x
    have q := jmul_le y x
    have r := Rat.mul_le_mul_of_nonneg_right y (show (0 : Rat) ≤ sqN b j by grind)
    exact ⟨p, by show sqN a j * sqN a j ≤ sqN b j * sqN b j; grind⟩
theorem sqN_one : ∀ j, sqN 1 j = 1
  | 0 => rfl
  | j + 1 => by show sqN 1 j * sqN 1 j = 1; rw [sqN_one j]; decide +kernel
theorem sqN_top : ∀ j, j ≤ 7 → sqN (10321 / 10000) j ≤ 100 := by
  intro j hj
  have : j = 0 ∨ j = 1 ∨ j = 2 ∨ j = 3 ∨ j = 4 ∨ j = 5 ∨ j = 6 ∨ j = 7 := by omega
  rcases this with h | h | h | h | h | h | h | h <;> subst h <;> decide +kernel
theorem sqN_8 : sqN (10321 / 10000) 8 ≤ 3300 := by decide +kernel
theorem expSq_rel {v : Nat} {w : Rat} (h : Nr .f64 v w (3 / 100000000000000)) (w1 : 1 ≤ w) (w2 : w ≤ 10321 / 10000) : ∀ j, j ≤ 8 → Nr .f64 (expSq v j) (sqN w j) (3 / 100000000000000 * ((3 ^ j : Nat) : Rat) * sqN w j) ∧ 1 ≤ sqN w j
  | 0, _ => ⟨h.mono (by have : ((3 ^ 0 : Nat) : Rat) = 1 := rfl
                        rw [this]; show _ ≤ 3 / 100000000000000 * 1 * w; grind), w1⟩
  | j + 1, hj => by
    obtain ⟨a, b⟩ := expSq_rel h w1 w2 j (by omega)
    have hp : ((3 ^ (j + 1) : Nat) : Rat) = 3 * ((3 ^ j : Nat) : Rat) := by rw [Nat.pow_succ, Nat.mul_comm]; exact Rat.natCast_mul 3 (3 ^ j)
    have h1 : (1 : Rat) ≤ ((3 ^ j : Nat) : Rat) := by exact_mod_cast Nat.one_le_pow _ _ (by decide)
    have h2 : ((3 ^ j : Nat) : Rat) ≤ 2187 := by
      have : 3 ^ j ≤ 3 ^ 7 := Nat.pow_le_pow_right (by decide) (by omega)
      exact_mod_cast this
    have hm := (sqN_mono (by grind) w2 j).2
    have ht := sqN_top j (by omega)
    have x := sq_rel a b (by grind) (by grind) (by grind)
    have b2 := jmul_le b (show (0 : Rat) ≤ sqN w j by grind)
    refine ⟨?_, by show 1 ≤ sqN w j * sqN w j; grind⟩
    rw [hp]
    exact x.mono (by show _ ≤ 3 / 100000000000000 * (3 * ((3 ^ j : Nat) : Rat)) * (sqN w j * sqN w j); grind)
/-! ### The whole -/
theorem twoFiveSix : Num .f64 4643211215818981376 ∧ fv .f64 4643211215818981376 = 256 := by
  have h : 4643211215818981376 = floatOfInt .f64 256 := by decide +kernel
  obtain ⟨a, b⟩ := ofInt_val .f64 (z := 256) (by decide)
  rw [← h] at a b
  exact ⟨a, b⟩
theorem expT_near {x : Nat} (n : Num .f32 x) (h1 : -200 ≤ fv .f32 x) (h2 : fv .f32 x ≤ 8) : Nr .f64 (expT x) (fv .f32 x / 256) (1 / 1000000000000000) := by
  obtain ⟨m, v⟩ := wide_val n
  obtain ⟨a, b⟩ := twoFiveSix
  have d := divQ (A := 8 / 10) (Nr.of m) a b (by decide +kernel) (by rw [v]; grind) (by rw [v]; grind) (by decide +kernel) (by decide +kernel)
  rw [v] at d
  rw [Rat.div_def]
  exact d.mono (by decide +kernel)
theorem pH_top {t : Rat} (h1 : 0 ≤ t) (h2 : t ≤ 1 / 32) : pH t 12 ≤ 10321 / 10000 := by
  obtain ⟨a, b⟩ := pH_pos h1 (by grind) 10 (by decide)
  have e1 : pH t 12 = 1 + t * pH t 11 / ((1 : Nat) : Rat) := rfl
  have e2 : pH t 11 = 1 + t * pH t 10 / ((2 : Nat) : Rat) := rfl
  have c1 : ((1 : Nat) : Rat) = 1 := rfl
  have c2 : ((2 : Nat) : Rat) = 2 := rfl
  rw [c1] at e1
  rw [c2] at e2
  obtain ⟨p, q⟩ := j_abs (u := t) (v := pH t 10) (e := 1 / 32) (B := 6 / 5) (by grind) h2 (by grind) b
  have k : pH t 11 ≤ 1 + 1 / 50 := by rw [e2]; grind
  have k0 : 0 ≤ pH t 11 := (pH_pos h1 (by grind) 11 (by decide)).1 |> fun h => by grind
  obtain ⟨p2, q2⟩ := j_abs (u := t) (v := pH t 11) (e := 1 / 32) (B := 1 + 1 / 50) (by grind) h2 (by grind) k
  rw [e1]
  have d : t * pH t 11 / 1 = t * pH t 11 := by rw [Rat.div_def]; have : (1 : Rat)⁻¹ = 1 := by decide +kernel
                                               rw [this]; grind
  rw [d]; grind
theorem exp_neg {x : Nat} (n : Num .f32 x) (h1 : -200 ≤ fv .f32 x) (h2 : fv .f32 x ≤ 0) : Nr .f64 (expW x) (EX (fv .f32 x)) (1 / 4000000000) ∧ 0 ≤ EX (fv .f32 x) ∧ EX (fv .f32 x) ≤ 1 := by
  have ht := expT_near n h1 (by grind)
  have hd : fv .f32 x / 256 = fv .f32 x * (1 / 256) := by rw [Rat.div_def]; have : (256 : Rat)⁻¹ = 1 / 256 := by decide +kernel
                                                          rw [this]
  have hh := horner_near ht (by rw [hd]; grind) (by rw [hd]; grind) 12 (by decide)
  obtain ⟨a, b⟩ := pH_neg (t := fv .f32 x / 256) (by rw [hd]; grind) (by rw [hd]; grind) 12 (by decide)
  obtain ⟨c, d, e⟩ := expSq_abs hh (by grind) b 8 (by decide)
  exact ⟨c.mono (by decide +kernel), d, e⟩
theorem exp_pos {x : Nat} (n : Num .f32 x) (h1 : 0 ≤ fv .f32 x) (h2 : fv .f32 x ≤ 8) : Nr .f64 (expW x) (EX (fv .f32 x)) (EX (fv .f32 x) / 4000000000) ∧ 1 ≤ EX (fv .f32 x) ∧ EX (fv .f32 x) ≤ 3300 := by
  have ht := expT_near n (by grind) h2
  have hd : fv .f32 x / 256 = fv .f32 x * (1 / 256) := by rw [Rat.div_def]; have : (256 : Rat)⁻¹ = 1 / 256 := by decide +kernel
                                                          rw [this]
  have hh := horner_near ht (by rw [hd]; grind) (by rw [hd]; grind) 12 (by decide)
  obtain ⟨a, -⟩ := pH_pos (t := fv .f32 x / 256) (by rw [hd]; grind) (by rw [hd]; grind) 12 (by decide)
  have b := pH_top (t := fv .f32 x / 256) (by rw [hd]; grind) (by rw [hd]; grind)
  obtain ⟨c, d⟩ := expSq_rel hh a b 8 (by decide)
  have hm := (sqN_mono (show 0 ≤ pH (fv .f32 x / 256) 12 by grind) b 8).2
  have h3 : ((3 ^ 8 : Nat) : Rat) = 6561 := rfl
  rw [h3] at c
  refine ⟨c.mono ?_, d, Rat.le_trans hm sqN_8⟩
  show _ ≤ sqN (pH (fv .f32 x / 256) 12) 8 / 4000000000
  generalize sqN (pH (fv .f32 x / 256) 12) 8 = q at *
  grind
/-! ### It rises -/
theorem pH_neg2 {t : Rat} (h1 : -4 / 5 ≤ t) (h2 : t ≤ 1 / 25) : ∀ j, j ≤ 11 → 3 / 5 ≤ pH t j
  | 0, _ => by unfold pH; decide +kernel
  | j + 1, h => by
    obtain ⟨a, b⟩ := pH_in h1 h2 j (by omega)
    have hk2 : (2 : Rat) ≤ ((12 - j : Nat) : Rat) := by exact_mod_cast (show 2 ≤ 12 - j by omega)
    have hin : 0 < (((12 - j : Nat) : Rat))⁻¹ := Rat.inv_pos.2 (by grind)
    have hin1 : (((12 - j : Nat) : Rat))⁻¹ ≤ 1 / 2 := by
      have e1 : (((12 - j : Nat) : Rat))⁻¹ * ((12 - j : Nat) : Rat) = 1 := Rat.inv_mul_cancel _ (by grind)
      have e2 := jmul_le hk2 (Rat.le_of_lt hin)
      grind
    unfold pH
    rw [Rat.div_def]
    by_cases ht : t ≤ 0
    · obtain ⟨a1, b1⟩ := pH_neg h1 ht j (by omega)
      obtain ⟨c, d⟩ := j_abs (u := t) (v := pH t j) (e := 4 / 5) (B := 1) (by grind) (by grind) (by grind) (by grind)
      obtain ⟨p, q⟩ := j_abs (u := t * pH t j) (v := (((12 - j : Nat) : Rat))⁻¹) (e := 4 / 5) (B := 1 / 2) (by grind) (by grind) (by grind) hin1
      grind
    · have := jmul_nn (jmul_nn (show (0 : Rat) ≤ t by grind) (show (0 : Rat) ≤ pH t j by grind)) (Rat.le_of_lt hin)
      grind
theorem pH_rise {t s : Rat} (h1 : -4 / 5 ≤ t) (h : t ≤ s) (h2 : s ≤ 1 / 25) : ∀ j, j ≤ 12 → 0 ≤ pH s j - pH t j ∧ (pH s j - pH t j) * ((13 - j : Nat) : Rat) ≤ 5 / 4 * (s - t)
  | 0, _ => by
    have e : pH s 0 - pH t 0 = 0 := by show (1 : Rat) - 1 = 0; decide +kernel
    rw [e, Rat.zero_mul]; constructor <;> grind
  | j + 1, hj => by
    obtain ⟨a, b⟩ := pH_rise h1 h h2 j (by omega)
    have hk2 : (2 : Rat) ≤ ((13 - j : Nat) : Rat) := by exact_mod_cast (show 2 ≤ 13 - j by omega)
    have hd := Rat.mul_le_mul_of_nonneg_left hk2 a
    -- the difference is at most 5/8 of the step
    have hD : pH s j - pH t j ≤ 5 / 8 * (s - t) := by grind
    obtain ⟨p1, p2⟩ := pH_in (t := s) (by grind) h2 j (by omega)
    have p3 := pH_neg2 (t := s) (by grind) h2 j (by omega)
    have hk0 : (1 : Rat) ≤ ((12 - j : Nat) : Rat) := by exact_mod_cast (show 1 ≤ 12 - j by omega)
    have hin : 0 < (((12 - j : Nat) : Rat))⁻¹ := Rat.inv_pos.2 (by grind)
    have e1 : (((12 - j : Nat) : Rat))⁻¹ * ((12 - j : Nat) : Rat) = 1 := Rat.inv_mul_cancel _ (by grind)
    have eK : 13 - (j + 1) = 12 - j := by omega
    have ex : pH s (j + 1) - pH t (j + 1) = (s * pH s j - t * pH t j) * (((12 - j : Nat) : Rat))⁻¹ := by
      show (1 + s * pH s j / ((12 - j : Nat) : Rat)) - (1 + t * pH t j / ((12 - j : Nat) : Rat)) = _
      rw [Rat.div_def, Rat.div_def]; grind
    have es : s * pH s j - t * pH t j = (s - t) * pH s j + t * (pH s j - pH t j) := by grind
    have g1 := jmul_le p3 (show (0 : Rat) ≤ s - t by grind)
    have g2 := jmul_le p2 (show (0 : Rat) ≤ s - t by grind)
    have g3 : -(1 / 2 * (s - t)) ≤ t * (pH s j - pH t j) ∧ t * (pH s j - pH t j) ≤ 1 / 25 * (5 / 8 * (s - t)) := by
      constructor
      · have := Rat.mul_le_mul_of_nonneg_right (show -4 / 5 ≤ t from h1) a
        grind
      · have := Rat.mul_le_mul_of_nonneg_right (show t ≤ 1 / 25 by grind) a
        grind
    have lo : 0 ≤ s * pH s j - t * pH t j := by rw [es]; grind
    have up : s * pH s j - t * pH t j ≤ 5 / 4 * (s - t) := by rw [es]; grind
    rw [eK, ex]
    refine ⟨jmul_nn lo (Rat.le_of_lt hin), ?_⟩
    have : (s * pH s j - t * pH t j) * (((12 - j : Nat) : Rat))⁻¹ * ((12 - j : Nat) : Rat) = s * pH s j - t * pH t j := by rw [Rat.mul_assoc, e1]; grind
    rw [this]; exact up
theorem sqN_lip {a b : Rat} (h0 : 0 ≤ a) (h : a ≤ b) (h1 : b ≤ 1) : ∀ j, sqN b j - sqN a j ≤ ((2 ^ j : Nat) : Rat) * (b - a) ∧ sqN b j ≤ 1
  | 0 => by have : ((2 ^ 0 : Nat) : Rat) = 1 := rfl
            rw [this]; exact ⟨by show b - a ≤ _; grind, h1⟩
  | j + 1 => by
    obtain ⟨x, y⟩ := sqN_lip h0 h h1 j
    obtain ⟨m0, m1⟩ := sqN_mono h0 h j
    have hp : ((2 ^ (j + 1) : Nat) : Rat) = 2 * ((2 ^ j : Nat) : Rat) := by rw [Nat.pow_succ, Nat.mul_comm]; exact Rat.natCast_mul 2 (2 ^ j)
    have e : sqN b (j + 1) - sqN a (j + 1) = (sqN b j - sqN a j) * (sqN b j + sqN a j) := by show sqN b j * sqN b j - sqN a j * sqN a j = _; grind
    have k := jmul_le (show sqN b j + sqN a j ≤ 2 by grind) (show 0 ≤ sqN b j - sqN a j by grind)
    have k2 := jmul_le y (show 0 ≤ sqN b j by grind)
    rw [e, hp]
    exact ⟨by grind, by show sqN b j * sqN b j ≤ 1; grind⟩
theorem sqN_lip2 {a b : Rat} (h0 : 0 ≤ a) (h : a ≤ b) (h1 : 1 ≤ b) : ∀ j, sqN b j - sqN a j ≤ ((2 ^ j : Nat) : Rat) * sqN b j * (b - a)
  | 0 => by have e : ((2 ^ 0 : Nat) : Rat) = 1 := rfl
            have := jmul_le h1 (show 0 ≤ b - a by grind)
            rw [e]; show b - a ≤ 1 * b * (b - a); grind
  | j + 1 => by
    have x := sqN_lip2 h0 h h1 j
    obtain ⟨m0, m1⟩ := sqN_mono h0 h j
    have hp : ((2 ^ (j + 1) : Nat) : Rat) = 2 * ((2 ^ j : Nat) : Rat) := by rw [Nat.pow_succ, Nat.mul_comm]; exact Rat.natCast_mul 2 (2 ^ j)
    have e : sqN b (j + 1) - sqN a (j + 1) = (sqN b j - sqN a j) * (sqN b j + sqN a j) := by show sqN b j * sqN b j - sqN a j * sqN a j = _; grind
    have k := jmul_le (show sqN b j + sqN a j ≤ 2 * sqN b j by grind) (show 0 ≤ sqN b j - sqN a j by grind)
    have k2 := Rat.mul_le_mul_of_nonneg_right x (show 0 ≤ 2 * sqN b j by grind)
    rw [e, hp]
    show _ ≤ 2 * ((2 ^ j : Nat) : Rat) * (sqN b j * sqN b j) * (b - a)
    grind
theorem div256 (x : Rat) : x / 256 = x * (1 / 256) := by rw [Rat.div_def]; have : (256 : Rat)⁻¹ = 1 / 256 := by decide +kernel
                                                         rw [this]
theorem pH_12 {t s : Rat} (h1 : -4 / 5 ≤ t) (h : t ≤ s) (h2 : s ≤ 1 / 25) : 0 ≤ pH s 12 - pH t 12 ∧ pH s 12 - pH t 12 ≤ 5 / 4 * (s - t) := by
  obtain ⟨a, b⟩ := pH_rise h1 h h2 12 (by decide)
  have : ((13 - 12 : Nat) : Rat) = 1 := rfl
  rw [this] at b
  exact ⟨a, by grind⟩
theorem EX_mono {x y : Rat} (h1 : -200 ≤ x) (h : x ≤ y) (h2 : y ≤ 8) : 0 ≤ EX x ∧ EX x ≤ EX y := by
  obtain ⟨a, b⟩ := pH_12 (t := x / 256) (s := y / 256) (by rw [div256]; grind) (by rw [div256, div256]; grind) (by rw [div256]; grind)
  have c := (pH_in (t := x / 256) (by rw [div256]; grind) (by rw [div256]; grind) 12 (by decide)).1
  exact sqN_mono (by grind) (by grind) 8
theorem EX_lip {x y : Rat} (h1 : -200 ≤ x) (h : x ≤ y) (h2 : y ≤ 0) : EX y - EX x ≤ 5 / 4 * (y - x) := by
  obtain ⟨a, b⟩ := pH_12 (t := x / 256) (s := y / 256) (by rw [div256]; grind) (by rw [div256, div256]; grind) (by rw [div256]; grind)
  have c := (pH_in (t := x / 256) (by rw [div256]; grind) (by rw [div256]; grind) 12 (by decide)).1
  have d := (pH_neg (t := y / 256) (by rw [div256]; grind) (by rw [div256]; grind) 12 (by decide)).2
  have e := (sqN_lip (show 0 ≤ pH (x / 256) 12 by grind) (show pH (x / 256) 12 ≤ pH (y / 256) 12 by grind) d 8).1
  have h256 : ((2 ^ 8 : Nat) : Rat) = 256 := rfl
  rw [h256] at e
  have f : y / 256 - x / 256 = 1 / 256 * (y - x) := by rw [div256, div256]; grind
  rw [f] at b
  show sqN (pH (y / 256) 12) 8 - sqN (pH (x / 256) 12) 8 ≤ _
  grind
theorem EX_lip2 {x y : Rat} (h1 : -200 ≤ x) (h : x ≤ y) (h0 : 0 ≤ y) (h2 : y ≤ 8) : EX y - EX x ≤ 5 / 4 * EX y * (y - x) := by
  obtain ⟨a, b⟩ := pH_12 (t := x / 256) (s := y / 256) (by rw [div256]; grind) (by rw [div256, div256]; grind) (by rw [div256]; grind)
  have c := (pH_in (t := x / 256) (by rw [div256]; grind) (by rw [div256]; grind) 12 (by decide)).1
  have d := (pH_pos (t := y / 256) (by rw [div256]; grind) (by rw [div256]; grind) 12 (by decide)).1
  have e := sqN_lip2 (show 0 ≤ pH (x / 256) 12 by grind) (show pH (x / 256) 12 ≤ pH (y / 256) 12 by grind) d 8
  have h256 : ((2 ^ 8 : Nat) : Rat) = 256 := rfl
  rw [h256] at e
  have f : y / 256 - x / 256 = 1 / 256 * (y - x) := by rw [div256, div256]; grind
  rw [f] at b
  have g0 := (sqN_mono (show 0 ≤ pH (y / 256) 12 by grind) (Rat.le_refl (a := pH (y / 256) 12)) 8).1
  have g := jmul_le b (show 0 ≤ 256 * sqN (pH (y / 256) 12) 8 by grind)
  show sqN (pH (y / 256) 12) 8 - sqN (pH (x / 256) 12) 8 ≤ 5 / 4 * sqN (pH (y / 256) 12) 8 * (y - x)
  grind
end Go.Proofs.Ytmcnfapdghoenaa
