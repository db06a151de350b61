
/- Means in floats do not fall by more than 1/20. Plain. Conditions: in the theorems. -/
import Derived.Test.YtmcnfapdghoenaaJH
namespace Go.Proofs.Ytmcnfapdghoenaa
open Go Go.RowKit

attribute [local irreducible] tw EX eN eP EN nodeL LO k1 k2 idx vN s0 s1 s2 s3 fL
def meanF (S : Nat → Nat) (h : Nat) : Nat → Nat
  | 0 => 0
  | k + 1 => fop .add .f32 (meanF S h k) (fop .mul .f32 (S k) h)
def sumR (S : Nat → Nat) : Nat → Rat
  | 0 => 0
  | k + 1 => sumR S k + fv .f32 (S k)
theorem mean_near {S : Nat → Nat} {h a : Nat} (nh : Num .f32 h) (vh : fv .f32 h = (a : Rat) / 256) (a2 : a ≤ 46) : ∀ k, k ≤ 32 → (∀ i, i < k → Num .f32 (S i) ∧ 0 ≤ fv .f32 (S i) ∧ fv .f32 (S i) ≤ 1 + 1 / 50000) →
    Nr .f32 (meanF S h k) ((a : Rat) / 256 * sumR S k) ((k : Rat) * (1 / 1500000)) ∧ 0 ≤ fv .f32 (meanF S h k) ∧ 0 ≤ sumR S k ∧ sumR S k ≤ (k : Rat) * (1 + 1 / 50000)
  | 0, _, _ => by
    obtain ⟨z1, z2⟩ := zeroF_val
    have c : ((0 : Nat) : Rat) = 0 := rfl
    rw [c]
    have e : meanF S h 0 = 0 := rfl
    have e2 : sumR S 0 = 0 := rfl
    rw [e, e2]
    refine ⟨⟨z1, by rw [z2]; grind, by rw [z2]; grind⟩, by rw [z2]; grind, by grind, by grind⟩
  | k + 1, hk, hS => by
    obtain ⟨⟨mn, ml, mu⟩, ms, r0, r1⟩ := mean_near nh vh a2 k (by omega) fun i hi => hS i (by omega)
    obtain ⟨sn, s0, s1⟩ := hS k (by omega)
    have a0 : (0 : Rat) ≤ (a : Rat) := Rat.natCast_nonneg
    have a46 : (a : Rat) ≤ 46 := by exact_mod_cast a2
    have k0 : (0 : Rat) ≤ (k : Rat) := Rat.natCast_nonneg
    have k32 : (k : Rat) ≤ 31 := by exact_mod_cast (show k ≤ 31 by omega)
    have ek : ((k + 1 : Nat) : Rat) = (k : Rat) + 1 := by rw [Rat.natCast_add]; rfl
    have h100 := tw100
    obtain ⟨w1, w2, w3, w4⟩ := u32j
    have e1 : meanF S h (k + 1) = fop .add .f32 (meanF S h k) (fop .mul .f32 (S k) h) := rfl
    have e2 : sumR S (k + 1) = sumR S k + fv .f32 (S k) := rfl
    have p0 := jmul_nn s0 (show 0 ≤ (a : Rat) / 256 by grind)
    have p1 := Rat.mul_le_mul_of_nonneg_right s1 (show 0 ≤ (a : Rat) / 256 by grind)
    obtain ⟨⟨pn, pl, pu⟩, ps, -⟩ := (wr_mul sn nh).nr (A := 1 / 4) (by rw [vh]; grind) (by rw [vh]; grind) (by grind)
    rw [vh] at pl pu ps
    replace ps := ps p0
    have q1 := jmul_le r1 (show 0 ≤ (a : Rat) / 256 by grind)
    have q0 := jmul_nn (show 0 ≤ (a : Rat) / 256 by grind) r0
    have q2 := jmul_le k32 (show 0 ≤ (a : Rat) / 256 * (1 + 1 / 50000) by grind)
    have q3 : (a : Rat) / 256 * ((k : Rat) * (1 + 1 / 50000)) = (a : Rat) / 256 * (1 + 1 / 50000) * (k : Rat) := by grind
    rw [q3] at q1
    obtain ⟨⟨n, l, u⟩, sg, -⟩ := (wr_add mn pn).nr (A := 7) (by grind) (by grind) (by grind)
    rw [e1, e2, ek]
    have e3 : (a : Rat) / 256 * (sumR S k + fv .f32 (S k)) = (a : Rat) / 256 * sumR S k + fv .f32 (S k) * ((a : Rat) / 256) := by grind
    rw [e3]
    refine ⟨⟨n, by grind, by grind⟩, sg (by grind), by grind, by grind⟩
theorem sum_tab {f S : Nat → Nat} {a b : Nat} : ∀ k, (∀ i, i < k → Near f (S i) (idx ((2 * i + 1) * a) b)) → sumR S k * KR ≤ (nodeS f 0 a b k : Rat) + 460 * (k : Rat) ∧ (nodeS f 1 a b k : Rat) ≤ sumR S k * KR + 460 * (k : Rat)
  | 0, _ => by
    have e1 : nodeS f 0 a b 0 = 0 := rfl
    have e3 : nodeS f 1 a b 0 = 0 := rfl
    have e2 : sumR S 0 = 0 := rfl
    have c : ((0 : Nat) : Rat) = 0 := rfl
    rw [e1, e2, e3, c]; constructor <;> grind
  | k + 1, h => by
    obtain ⟨p, q⟩ := sum_tab k fun i hi => h i (by omega)
    obtain ⟨-, -, -, c, d⟩ := h k (by omega)
    have e1 : nodeS f 0 a b (k + 1) = nodeS f 0 a b k + f (idx ((2 * k + 1) * a) b + 0) := rfl
    have e3 : nodeS f 1 a b (k + 1) = nodeS f 1 a b k + f (idx ((2 * k + 1) * a) b + 1) := rfl
    have e2 : sumR S (k + 1) = sumR S k + fv .f32 (S k) := rfl
    have ek : ((k + 1 : Nat) : Rat) = (k : Rat) + 1 := by rw [Rat.natCast_add]; rfl
    rw [e1, e2, e3, ek, Rat.natCast_add, Rat.natCast_add, Nat.add_zero]
    constructor <;> grind
/-- What the check gives for a table. -/
def Falls (f : Nat → Nat) : Prop := ∀ b, 1 ≤ b → b ≤ 32 → ∀ p q, 1 ≤ p → p ≤ 30 → p < q → q ≤ 46 → p * nodeS f 0 p b 32 ≤ q * nodeS f 1 q b 32 + 11000000
theorem falls_of {f : Nat → Nat} (hf : ∀ i, f i ≤ 1100000) (h : chkB (tabN f 2304 0) 11000000 32 = true) : Falls f := chkB_at (tab_of hf (Nat.le_refl _)) hf 32 (Nat.le_refl _) h
/-- Means grow with time, but for 1/20. -/
theorem means_grow {f S S' : Nat → Nat} {h h' p q b : Nat} (hf : Falls f) (b1 : 1 ≤ b) (b2 : b ≤ 32) (p1 : 1 ≤ p) (p2 : p ≤ 30) (pq : p < q) (q2 : q ≤ 46)
    (nh : Num .f32 h) (vh : fv .f32 h = (p : Rat) / 256) (nh' : Num .f32 h') (vh' : fv .f32 h' = (q : Rat) / 256)
    (hS : ∀ i, i < 32 → Near f (S i) (idx ((2 * i + 1) * p) b)) (hS' : ∀ i, i < 32 → Near f (S' i) (idx ((2 * i + 1) * q) b)) :
    fv .f32 (meanF S h 32) ≤ fv .f32 (meanF S' h' 32) + 499 / 10000 ∧ 0 ≤ fv .f32 (meanF S h 32) ∧ fv .f32 (meanF S h 32) ≤ (p : Rat) / 8 + 9 / 10000 ∧ Num .f32 (meanF S h 32) ∧ Num .f32 (meanF S' h' 32) ∧ 0 ≤ fv .f32 (meanF S' h' 32) ∧ fv .f32 (meanF S' h' 32) ≤ 10 := by
  obtain ⟨⟨n1, l1, u1⟩, g1, r1, t1⟩ := mean_near nh vh (by omega) 32 (Nat.le_refl _) fun i hi => ⟨(hS i hi).1, (hS i hi).2.1, (hS i hi).2.2.1⟩
  obtain ⟨⟨n2, l2, u2⟩, g2, r2, t2⟩ := mean_near nh' vh' q2 32 (Nat.le_refl _) fun i hi => ⟨(hS' i hi).1, (hS' i hi).2.1, (hS' i hi).2.2.1⟩
  obtain ⟨a1, -⟩ := sum_tab 32 hS
  obtain ⟨-, a2⟩ := sum_tab 32 hS'
  have c32 : ((32 : Nat) : Rat) = 32 := rfl
  rw [c32] at l1 u1 t1 l2 u2 t2 a1 a2
  have hh : ((p * nodeS f 0 p b 32 : Nat) : Rat) ≤ ((q * nodeS f 1 q b 32 + 11000000 : Nat) : Rat) := by exact_mod_cast hf b b1 b2 p q p1 p2 pq q2
  rw [Rat.natCast_add, Rat.natCast_mul, Rat.natCast_mul] at hh
  have c11 : ((11000000 : Nat) : Rat) = 11000000 := rfl
  rw [c11] at hh
  have p0 : (0 : Rat) ≤ (p : Rat) := Rat.natCast_nonneg
  have q0 : (0 : Rat) ≤ (q : Rat) := Rat.natCast_nonneg
  have p30 : (p : Rat) ≤ 30 := by exact_mod_cast p2
  have q46 : (q : Rat) ≤ 46 := by exact_mod_cast q2
  have b1 := jmul_le a1 p0
  have b2 := jmul_le a2 q0
  have d1 := jmul_le t1 p0
  have d2 := jmul_le t2 q0
  rw [KRv] at *
  generalize sumR S 32 = s at *
  generalize sumR S' 32 = s' at *
  generalize (nodeS f 0 p b 32 : Rat) = N at *
  generalize (nodeS f 1 q b 32 : Rat) = N' at *
  have e1 : (p : Rat) / 256 * s = (p : Rat) * s / 256 := by grind
  have e2 : (q : Rat) / 256 * s' = (q : Rat) * s' / 256 := by grind
  rw [e1] at l1 u1
  rw [e2] at l2 u2
  have e3 : (p : Rat) * (s * 1048576) = (p : Rat) * s * 1048576 := by grind
  have e4 : (q : Rat) * (s' * 1048576 + 460 * 32) = (q : Rat) * s' * 1048576 + (q : Rat) * 14720 := by grind
  have e5 : (p : Rat) * (N + 460 * 32) = (p : Rat) * N + (p : Rat) * 14720 := by grind
  rw [e3, e5] at b1
  rw [e4] at b2
  generalize (p : Rat) * s = u at *
  generalize (q : Rat) * s' = u' at *
  generalize (p : Rat) * N = v at *
  generalize (q : Rat) * N' = v' at *
  refine ⟨by grind, g1, by grind, n1, n2, g2, by grind⟩
end Go.Proofs.Ytmcnfapdghoenaa
