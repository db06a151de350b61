
/- Which of two causes comes first: the sums. Plain. -/
import Derived.Test.YtmcnfapdghoenaaPA2
namespace Go.Proofs.Ytmcnfapdghoenaa
open Go Go.RowKit

attribute [local irreducible] tw EX expX logF EN fL nodeL LO eN
/-! ### By whole numbers -/
def sumN : Nat → Nat
  | 0 => 0
  | i + 1 => Nat.add (sumN i) (Nat.mul (eN (Nat.mul (Nat.succ (Nat.mul 2 i)) 34359738368)) (eN (Nat.mul (Nat.succ (Nat.mul 2 i)) 68719476736)))
section
attribute [local semireducible] eN
theorem sumN_256 : 213 * 1267650600228229401496703205376 ≤ 10 * sumN 256 ∧ 10 * sumN 256 ≤ 214 * 1267650600228229401496703205376 := by decide +kernel
end
def cG (i : Nat) : Rat := EN (((2 * i + 1 : Nat) : Rat) / 128) * EN (((2 * i + 1 : Nat) : Rat) / 64)
def sumG : Nat → Rat
  | 0 => 0
  | i + 1 => sumG i + cG i
theorem EN_int {n e : Nat} {D : Rat} (hn : n ≤ 511) (hD : (e : Rat) * D = 4398046511104) (hd : 64 ≤ D) : ((eN (n * e) : Nat) : Rat) ≤ EN ((n : Rat) / D) * wR + 40000 ∧ EN ((n : Rat) / D) * wR ≤ ((eN (n * e) : Nat) : Rat) + 40000 := by
  have n0 : (0 : Rat) ≤ (n : Rat) := Rat.natCast_nonneg
  have n1 : (n : Rat) ≤ 511 := by exact_mod_cast hn
  obtain ⟨x, hx⟩ : ∃ x, x = (n : Rat) / D := ⟨_, rfl⟩
  have e1 : x * D = (n : Rat) := by rw [hx, Rat.div_mul_cancel (by grind)]
  have x0 : 0 ≤ x := by
    by_cases hc : 0 ≤ x
    · exact hc
    · have := Rat.mul_pos (show 0 < -x by grind) (show 0 < D by grind); grind
  have x8 : x ≤ 8 := by have := jmul_le hd x0; grind
  rw [← hx]
  have ee : EN x = EX (-x) := by unfold EN; rw [if_pos (by grind)]
  rw [ee]
  obtain ⟨a, b⟩ := eN_near (a := n * e) (x := -x) (by rw [Rat.natCast_mul, ← e1, wRv]; grind) (by grind) (by grind)
  exact ⟨a, b⟩
theorem sumG_near : ∀ k, k ≤ 256 → (sumN k : Rat) ≤ sumG k * (wR * wR) + (k : Rat) * (100000 * wR) ∧ sumG k * (wR * wR) ≤ (sumN k : Rat) + (k : Rat) * (100000 * wR)
  | 0, _ => by
    have e : sumN 0 = 0 := rfl
    have e2 : sumG 0 = 0 := rfl
    have c : ((0 : Nat) : Rat) = 0 := rfl
    rw [e, e2, c]; constructor <;> grind
  | k + 1, h => by
    obtain ⟨p, q⟩ := sumG_near k (by omega)
    obtain ⟨a1, a2⟩ := EN_int (n := 2 * k + 1) (e := 34359738368) (D := 128) (by omega) (by decide +kernel) (by decide +kernel)
    obtain ⟨b1, b2⟩ := EN_int (n := 2 * k + 1) (e := 68719476736) (D := 64) (by omega) (by decide +kernel) (by decide +kernel)
    have n0 : (0 : Rat) ≤ ((2 * k + 1 : Nat) : Rat) := Rat.natCast_nonneg
    obtain ⟨u0, u1⟩ := EN_in (a := ((2 * k + 1 : Nat) : Rat) / 128) (by grind)
    obtain ⟨v0, v1⟩ := EN_in (a := ((2 * k + 1 : Nat) : Rat) / 64) (by grind)
    have e : sumN (k + 1) = sumN k + eN ((2 * k + 1) * 34359738368) * eN ((2 * k + 1) * 68719476736) := rfl
    obtain ⟨na, hna⟩ : ∃ na, na = eN ((2 * k + 1) * 34359738368) := ⟨_, rfl⟩
    obtain ⟨nb, hnb⟩ : ∃ nb, nb = eN ((2 * k + 1) * 68719476736) := ⟨_, rfl⟩
    rw [← hna] at a1 a2
    rw [← hnb] at b1 b2
    rw [← hna, ← hnb] at e
    clear hna hnb
    have e2 : sumG (k + 1) = sumG k + cG k := rfl
    have ek : ((k + 1 : Nat) : Rat) = (k : Rat) + 1 := by rw [Rat.natCast_add]; rfl
    rw [e, e2, ek, Rat.natCast_add, Rat.natCast_mul]
    unfold cG
    have z1 : (0 : Rat) ≤ (na : Rat) := Rat.natCast_nonneg
    have z2 : (0 : Rat) ≤ (nb : Rat) := Rat.natCast_nonneg
    generalize (na : Rat) = A at *
    generalize (nb : Rat) = B at *
    generalize EN (((2 * k + 1 : Nat) : Rat) / 128) = E at *
    generalize EN (((2 * k + 1 : Nat) : Rat) / 64) = F at *
    have w0 := wR_pos
    have wv := wRv
    -- A B against E F, by one factor and the other
    have ew := Rat.mul_le_mul_of_nonneg_right u1 (Rat.le_of_lt w0)
    have fw := Rat.mul_le_mul_of_nonneg_right v1 (Rat.le_of_lt w0)
    obtain ⟨r1, r2⟩ := j_abs (u := A - E * wR) (v := B) (e := 40000) (B := wR + 40000) (by grind) (by grind) (by grind) (by grind)
    obtain ⟨t1, t2⟩ := j_abs (u := B - F * wR) (v := E * wR) (e := 40000) (B := wR) (by grind) (by grind) (by have := jmul_nn u0 (Rat.le_of_lt w0); grind) (by grind)
    have key : A * B - E * F * (wR * wR) = (A - E * wR) * B + (B - F * wR) * (E * wR) := by grind
    have key2 : (sumG k + E * F) * (wR * wR) = sumG k * (wR * wR) + E * F * (wR * wR) := by grind
    rw [key2]
    generalize (A - E * wR) * B = s1 at *
    generalize (B - F * wR) * (E * wR) = s2 at *
    generalize E * F * (wR * wR) = s3 at *
    generalize A * B = s4 at *
    generalize sumG k * (wR * wR) = s5 at *
    clear ew fw z1 z2
    rw [wv] at *
    constructor <;> grind
theorem sumG_256 : 2129 / 100 ≤ sumG 256 ∧ sumG 256 ≤ 2141 / 100 := by
  obtain ⟨a, b⟩ := sumG_near 256 (Nat.le_refl _)
  obtain ⟨c, d⟩ := sumN_256
  have c' : ((213 * 1267650600228229401496703205376 : Nat) : Rat) ≤ ((10 * sumN 256 : Nat) : Rat) := by exact_mod_cast c
  have d' : ((10 * sumN 256 : Nat) : Rat) ≤ ((214 * 1267650600228229401496703205376 : Nat) : Rat) := by exact_mod_cast d
  rw [Rat.natCast_mul] at c' d'
  rw [Rat.natCast_mul 10] at c'
  rw [Rat.natCast_mul 214] at d'
  have k1 : ((10 : Nat) : Rat) = 10 := rfl
  have k2 : ((213 : Nat) : Rat) = 213 := rfl
  have k3 : ((214 : Nat) : Rat) = 214 := rfl
  have k4 : ((1267650600228229401496703205376 : Nat) : Rat) = 1267650600228229401496703205376 := rfl
  have k5 : ((256 : Nat) : Rat) = 256 := rfl
  rw [k1] at c' d'
  rw [k2, k4] at c'
  rw [k3, k4] at d'
  rw [k5, wRv] at a b
  constructor <;> grind
end Go.Proofs.Ytmcnfapdghoenaa
/- Which of two causes comes first, as the program tells it. Plain. -/
namespace Go.Proofs.Ytmcnfapdghoenaa
open Go Go.RowKit

attribute [local irreducible] tw EX expX logF EN fL nodeL LO eN sumN
def hC : Nat := 1031798784
def TC (i : Nat) : Nat := fop .mul .f32 (aF i) hC
theorem TC_all : ∀ i : Nat, i < 256 → (opB .mul (aF i) hC (TC i) && decide (fv .f32 (TC i) = ((2 * i + 1 : Nat) : Rat) / 32)) = true := by decide +kernel
theorem hC_all : opB .quo 1098907648 (floatOfInt .f32 256) hC = true ∧ opB .quo 1065353216 1082130432 1048576000 = true ∧ opB .quo 1065353216 1073741824 1056964608 = true ∧ fv .f32 hC = 1 / 16 ∧ fv .f32 1048576000 = 1 / 4 ∧ fv .f32 1056964608 = 1 / 2 ∧ fv .f32 1082130432 = 4 ∧ fv .f32 1073741824 = 2 ∧ numB .f32 1082130432 = true ∧ numB .f32 1073741824 = true ∧ numB .f32 hC = true ∧ fv .f32 1065353216 = 1 ∧ numB .f32 1065353216 = true := by decide +kernel
theorem TC_v {i : Nat} (h : i < 256) : FopV .mul .f32 (aF i) hC (TC i) ∧ Num .f32 (TC i) ∧ fv .f32 (TC i) = ((2 * i + 1 : Nat) : Rat) / 32 := by
  have := TC_all i h
  rw [Bool.and_eq_true, decide_eq_true_eq] at this
  exact ⟨(opB_v this.1).1, (opB_v this.1).2, this.2⟩
def cC (m : Nat) : Nat := if m = 0 then 1082130432 else 1073741824
def gC (m : Nat) : Nat := if m = 0 then 1048576000 else 1056964608
def SC (i m : Nat) : Nat := s0F (fop .quo .f32 (TC i) (cC m))
def AC (i : Nat) : Nat → Nat
  | 0 => 1065353216
  | m + 1 => fop .mul .f32 (AC i m) (SC i m)
def UC (i m : Nat) : Nat := fop .mul .f32 (AC i 2) (gC m)
def VC (i m : Nat) : Nat := fop .mul .f32 (UC i m) hC
def OC : Nat → Nat → Nat
  | 0, _ => 0
  | i + 1, m => fop .add .f32 (OC i m) (VC i m)
theorem EN_lip {a b d : Rat} (ha : 0 ≤ a) (hb : 0 ≤ b) (h1 : a ≤ b + d) (h2 : b ≤ a + d) (hd : 0 ≤ d) : EN a ≤ EN b + 5 / 4 * d ∧ EN b ≤ EN a + 5 / 4 * d := EN_near ha hb h1 h2 hd
/-- One survivor. -/
theorem SC_v {i m : Nat} {D : Rat} (hi : i < 256) (hD : fv .f32 (cC m) * 32 = D) (nc : Num .f32 (cC m)) (d1 : 64 ≤ D) (d2 : D ≤ 128) :
    ∃ x n, FopV .quo .f32 (TC i) (cC m) x ∧ Num .f32 x ∧ FopV .sub .f32 0 x n ∧ Num .f32 n ∧ fv .f32 n ≤ 8 ∧ expX n = SC i m ∧ Num .f32 (SC i m) ∧ 0 ≤ fv .f32 (SC i m) ∧ fv .f32 (SC i m) ≤ 1 ∧ fv .f32 (SC i m) ≤ EN (((2 * i + 1 : Nat) : Rat) / D) + 1 / 250000 ∧ EN (((2 * i + 1 : Nat) : Rat) / D) ≤ fv .f32 (SC i m) + 1 / 250000 := by
  obtain ⟨-, nt, vt⟩ := TC_v hi
  obtain ⟨z1, z2⟩ := zeroF_val
  have n0 : (1 : Rat) ≤ ((2 * i + 1 : Nat) : Rat) := by exact_mod_cast (show 1 ≤ 2 * i + 1 by omega)
  have n1 : ((2 * i + 1 : Nat) : Rat) ≤ 511 := by exact_mod_cast (show 2 * i + 1 ≤ 511 by omega)
  generalize ((2 * i + 1 : Nat) : Rat) = n at *
  obtain ⟨X, hX⟩ : ∃ x, x = n / D := ⟨_, rfl⟩
  have e1 : X * D = n := by rw [hX, Rat.div_mul_cancel (by grind)]
  rw [← hX]
  clear hX
  have x0 : 1 / 128 ≤ X := by
    by_cases hc : 1 / 128 ≤ X
    · exact hc
    · have := Rat.mul_pos (show 0 < 1 / 128 - X by grind) (show 0 < D by grind); grind
  have x8 : X ≤ 8 := by have := jmul_le d1 (show 0 ≤ X by grind); grind
  obtain ⟨nx, l, u⟩ := quo_rel (X := X) nt nc vt rfl (by grind) (by grind) (by grind) (by grind)
  obtain ⟨vn, v0, -, -⟩ := neg_near (p := 0) (A := 16) nx (by grind) (by grind) (by decide +kernel)
  obtain ⟨sn, s1, s2⟩ := expX_01 vn v0
  obtain ⟨-, l2, u2⟩ := s0_near nx (by grind) (by grind)
  obtain ⟨p, q⟩ := EN_lip (a := fv .f32 (fop .quo .f32 (TC i) (cC m))) (b := X) (d := 1 / 1000000) (by grind) (by grind) (by grind) (by grind) (by grind)
  have eS : SC i m = s0F (fop .quo .f32 (TC i) (cC m)) := rfl
  have eS2 : expX (fop .sub .f32 0 (fop .quo .f32 (TC i) (cC m))) = SC i m := rfl
  rw [eS2] at sn s1 s2
  rw [← eS] at l2 u2
  exact ⟨_, _, fopV_of rfl nt nc nx, nx, fopV_of rfl z1 nx vn, vn, by grind, rfl, sn, s1, s2, by grind, by grind⟩
theorem two_m {m : Nat} (h : m < 2) : m = 0 ∨ m = 1 := by omega
/-- All of one step. -/
theorem stepC {i : Nat} (hi : i < 256) : Num .f32 (AC i 1) ∧ FopV .mul .f32 (AC i 0) (SC i 0) (AC i 1) ∧ Num .f32 (AC i 2) ∧ FopV .mul .f32 (AC i 1) (SC i 1) (AC i 2) ∧
    ∀ m, m < 2 → FopV .mul .f32 (AC i 2) (gC m) (UC i m) ∧ FopV .mul .f32 (UC i m) hC (VC i m) ∧ Num .f32 (VC i m) ∧ 0 ≤ fv .f32 (VC i m) ∧ fv .f32 (VC i m) ≤ cG i * (fv .f32 (gC m) / 16) + 1 / 2000000 ∧ cG i * (fv .f32 (gC m) / 16) ≤ fv .f32 (VC i m) + 1 / 2000000 := by
  obtain ⟨k1, k2, k3, v1, v2, v3, v4, v5, b1, b2, b3, v6, b4⟩ := hC_all
  have c0 : cC 0 = 1082130432 := rfl
  have c1 : cC 1 = 1073741824 := rfl
  obtain ⟨-, -, -, -, -, -, -, -, sn0, s00, s01, s0l, s0u⟩ := SC_v (m := 0) (D := 128) hi (by rw [c0, v4]; decide +kernel) (by rw [c0]; exact num_of b1) (by decide +kernel) (by decide +kernel)
  obtain ⟨-, -, -, -, -, -, -, -, sn1, s10, s11, s1l, s1u⟩ := SC_v (m := 1) (D := 64) hi (by rw [c1, v5]; decide +kernel) (by rw [c1]; exact num_of b2) (by decide +kernel) (by decide +kernel)
  obtain ⟨no, vo⟩ := oneB_val
  have e0 : AC i 0 = oneB := rfl
  have e1 : AC i 1 = fop .mul .f32 oneB (SC i 0) := rfl
  have e2 : AC i 2 = fop .mul .f32 (AC i 1) (SC i 1) := rfl
  have h100 := tw100
  obtain ⟨w1, w2, w3, w4⟩ := u32j
  obtain ⟨⟨n1, l1, u1⟩, p1, -⟩ := (wr_mul no sn0).nr (A := 1) (by rw [vo]; grind) (by rw [vo]; grind) (by grind)
  rw [← e1, vo] at l1 u1 p1
  rw [← e1] at n1
  replace p1 := p1 (by grind)
  have m1 := jmul_nn p1 s10
  have m2 := Rat.mul_le_mul_of_nonneg_right (show fv .f32 (AC i 1) ≤ 2 by grind) s10
  obtain ⟨⟨n2, l2, u2⟩, p2, -⟩ := (wr_mul n1 sn1).nr (A := 2) (by grind) (by grind) (by grind)
  rw [← e2] at l2 u2 p2 n2
  replace p2 := p2 m1
  have fA1 : FopV .mul .f32 (AC i 0) (SC i 0) (AC i 1) := by rw [e0]; exact fopV_of rfl no sn0 (e1 ▸ n1)
  have fA2 : FopV .mul .f32 (AC i 1) (SC i 1) (AC i 2) := fopV_of rfl n1 sn1 (e2 ▸ n2)
  -- the product is near
  obtain ⟨E0, E1⟩ := EN_in (a := ((2 * i + 1 : Nat) : Rat) / 128) (by have : (0 : Rat) ≤ ((2 * i + 1 : Nat) : Rat) := Rat.natCast_nonneg
                                                                      grind)
  obtain ⟨F0, F1⟩ := EN_in (a := ((2 * i + 1 : Nat) : Rat) / 64) (by have : (0 : Rat) ≤ ((2 * i + 1 : Nat) : Rat) := Rat.natCast_nonneg
                                                                     grind)
  have hG : fv .f32 (AC i 2) ≤ cG i + 1 / 100000 ∧ cG i ≤ fv .f32 (AC i 2) + 1 / 100000 ∧ 0 ≤ cG i ∧ cG i ≤ 1 := by
    unfold cG
    generalize EN (((2 * i + 1 : Nat) : Rat) / 128) = E at *
    generalize EN (((2 * i + 1 : Nat) : Rat) / 64) = F at *
    obtain ⟨r1, r2⟩ := j_abs (u := fv .f32 (AC i 1) - E) (v := fv .f32 (SC i 1)) (e := 1 / 240000) (B := 1) (by grind) (by grind) (by grind) s11
    obtain ⟨t1, t2⟩ := j_abs (u := fv .f32 (SC i 1) - F) (v := E) (e := 1 / 250000) (B := 1) (by grind) (by grind) (by grind) E1
    have key : fv .f32 (AC i 1) * fv .f32 (SC i 1) - E * F = (fv .f32 (AC i 1) - E) * fv .f32 (SC i 1) + (fv .f32 (SC i 1) - F) * E := by grind
    have g0 := jmul_nn E0 F0
    have g1 := jmul_le F1 E0
    generalize (fv .f32 (AC i 1) - E) * fv .f32 (SC i 1) = q1 at *
    generalize (fv .f32 (SC i 1) - F) * E = q2 at *
    generalize fv .f32 (AC i 1) * fv .f32 (SC i 1) = q3 at *
    generalize E * F = q4 at *
    refine ⟨by grind, by grind, by grind, by grind⟩
  obtain ⟨g1, g2, g3, g4⟩ := hG
  refine ⟨n1, fA1, n2, fA2, fun m hm => ?_⟩
  have ng : Num .f32 (gC m) := by
    rcases two_m hm with rfl | rfl
    · exact (opB_v k2).2
    · exact (opB_v k3).2
  have vg : 1 / 4 ≤ fv .f32 (gC m) ∧ fv .f32 (gC m) ≤ 1 / 2 := by
    rcases two_m hm with rfl | rfl
    · show 1 / 4 ≤ fv .f32 1048576000 ∧ fv .f32 1048576000 ≤ 1 / 2; rw [v2]; constructor <;> decide +kernel
    · show 1 / 4 ≤ fv .f32 1056964608 ∧ fv .f32 1056964608 ≤ 1 / 2; rw [v3]; constructor <;> decide +kernel
  obtain ⟨vg1, vg2⟩ := vg
  have nh := num_of b3
  have eU : UC i m = fop .mul .f32 (AC i 2) (gC m) := rfl
  have eV : VC i m = fop .mul .f32 (UC i m) hC := rfl
  have a1 := jmul_nn p2 (show 0 ≤ fv .f32 (gC m) by grind)
  have a2 := jmul_le vg2 p2
  obtain ⟨⟨n3, l3, u3⟩, p3, -⟩ := (wr_mul n2 ng).nr (A := 1) (by grind) (by grind) (by grind)
  rw [← eU] at n3 l3 u3 p3
  replace p3 := p3 a1
  obtain ⟨⟨n4, l4, u4⟩, p4, -⟩ := (wr_mul n3 nh).nr (A := 1 / 8) (by rw [v1]; grind) (by rw [v1]; grind) (by grind)
  rw [← eV, v1] at l4 u4 p4
  rw [← eV] at n4
  replace p4 := p4 (by grind)
  have d1 := Rat.mul_le_mul_of_nonneg_right g1 (show 0 ≤ fv .f32 (gC m) by grind)
  have d2 := Rat.mul_le_mul_of_nonneg_right g2 (show 0 ≤ fv .f32 (gC m) by grind)
  have key1 : (cG i + 1 / 100000) * fv .f32 (gC m) = cG i * fv .f32 (gC m) + fv .f32 (gC m) / 100000 := by grind
  have key2 : (fv .f32 (AC i 2) + 1 / 100000) * fv .f32 (gC m) = fv .f32 (AC i 2) * fv .f32 (gC m) + fv .f32 (gC m) / 100000 := by grind
  rw [key1] at d1
  rw [key2] at d2
  have key3 : cG i * (fv .f32 (gC m) / 16) = cG i * fv .f32 (gC m) / 16 := by grind
  rw [key3]
  generalize cG i * fv .f32 (gC m) = q1 at *
  generalize fv .f32 (AC i 2) * fv .f32 (gC m) = q2 at *
  exact ⟨fopV_of rfl n2 ng (eU ▸ n3), fopV_of rfl n3 nh (eV ▸ n4), n4, p4, by grind, by grind⟩
theorem OC_v {m : Nat} (hm : m < 2) : ∀ i, i ≤ 256 → Num .f32 (OC i m) ∧ 0 ≤ fv .f32 (OC i m) ∧ fv .f32 (OC i m) ≤ sumG i * (fv .f32 (gC m) / 16) + (i : Rat) / 600000 ∧ sumG i * (fv .f32 (gC m) / 16) ≤ fv .f32 (OC i m) + (i : Rat) / 600000 ∧ 0 ≤ sumG i ∧ sumG i ≤ (i : Rat)
  | 0, _ => by
    obtain ⟨z1, z2⟩ := zeroF_val
    have e : OC 0 m = 0 := rfl
    have e2 : sumG 0 = 0 := rfl
    have c : ((0 : Nat) : Rat) = 0 := rfl
    rw [e, e2, c, z2]
    exact ⟨z1, by grind, by grind, by grind, by grind, by grind⟩
  | i + 1, h => by
    obtain ⟨n, p0, l, u, g0, g1⟩ := OC_v hm i (by omega)
    obtain ⟨-, -, -, -, hs⟩ := stepC (i := i) (by omega)
    obtain ⟨-, -, nv, v0, vl, vu⟩ := hs m hm
    have e : OC (i + 1) m = fop .add .f32 (OC i m) (VC i m) := rfl
    have e2 : sumG (i + 1) = sumG i + cG i := rfl
    have ei : ((i + 1 : Nat) : Rat) = (i : Rat) + 1 := by rw [Rat.natCast_add]; rfl
    have i0 : (0 : Rat) ≤ (i : Rat) := Rat.natCast_nonneg
    have i1 : (i : Rat) ≤ 255 := by exact_mod_cast (show i ≤ 255 by omega)
    obtain ⟨k1, k2, k3, v1, v2, v3, -⟩ := hC_all
    have vg : 0 ≤ fv .f32 (gC m) ∧ fv .f32 (gC m) ≤ 1 / 2 := by
      rcases two_m hm with rfl | rfl
      · show 0 ≤ fv .f32 1048576000 ∧ fv .f32 1048576000 ≤ 1 / 2; rw [v2]; constructor <;> decide +kernel
      · show 0 ≤ fv .f32 1056964608 ∧ fv .f32 1056964608 ≤ 1 / 2; rw [v3]; constructor <;> decide +kernel
    have cg : 0 ≤ cG i ∧ cG i ≤ 1 := by
      have q0 : (0 : Rat) ≤ ((2 * i + 1 : Nat) : Rat) := Rat.natCast_nonneg
      obtain ⟨E0, E1⟩ := EN_in (a := ((2 * i + 1 : Nat) : Rat) / 128) (by grind)
      obtain ⟨F0, F1⟩ := EN_in (a := ((2 * i + 1 : Nat) : Rat) / 64) (by grind)
      have a := jmul_nn E0 F0
      have b := jmul_le F1 E0
      unfold cG
      constructor <;> grind
    have h100 := tw100
    obtain ⟨w1, w2, w3, w4⟩ := u32j
    have t1 := jmul_le (show fv .f32 (gC m) / 16 ≤ 1 / 32 by grind) g0
    have t2 := jmul_le (show fv .f32 (gC m) / 16 ≤ 1 / 32 by grind) cg.1
    obtain ⟨⟨n2, l2, u2⟩, s2, -⟩ := (wr_add n nv).nr (A := 10) (by grind) (by grind) (by grind)
    rw [← e] at n2 l2 u2 s2
    have key : (sumG i + cG i) * (fv .f32 (gC m) / 16) = sumG i * (fv .f32 (gC m) / 16) + cG i * (fv .f32 (gC m) / 16) := by grind
    rw [e2, ei, key]
    exact ⟨n2, s2 (by grind), by grind, by grind, by grind, by grind⟩
end Go.Proofs.Ytmcnfapdghoenaa
