
/- Entries of the tables are not above 2^20. Plain. -/
import Derived.Test.YtmcnfapdghoenaaJD
namespace Go.Proofs.Ytmcnfapdghoenaa
open Go Go.RowKit

theorem hN_le (a : Nat) : ∀ j, hN a j ≤ wO
  | 0 => Nat.le_refl _
  | j + 1 => Nat.sub_le _ _
theorem qN_le {p : Nat} (h : p ≤ wO) : ∀ j, qN p j ≤ wO
  | 0 => h
  | j + 1 => by
    have ih := qN_le h j
    show Nat.shiftRight (Nat.mul (qN p j) (qN p j)) 50 ≤ wO
    rw [shr50]
    show qN p j * qN p j / wO ≤ wO
    have := Nat.mul_le_mul ih (Nat.le_refl (qN p j))
    exact Nat.le_trans (Nat.div_le_div_right this) (by rw [Nat.mul_div_cancel_left _ (by decide)]; exact ih)
theorem eN_le (a : Nat) : eN a ≤ wO := by rw [eN_eq]; exact qN_le (hN_le a 12) 8
attribute [local irreducible] eN eP LO nodeL zP zN
theorem k1_le (e : Nat) : k1 e ≤ 1100000 := by
  have h := eN_le (Nat.shiftRight e 8)
  have ek : k1 e = eN (Nat.shiftRight e 8) / 1073741824 := by
    show Nat.shiftRight (eN (Nat.shiftRight e 8)) 30 = _
    generalize eN (Nat.shiftRight e 8) = x
    show x >>> 30 = _
    rw [Nat.shiftRight_eq_div_pow]
  have hw : wO = 1125899906842624 := rfl
  rw [hw] at h
  rw [ek]
  generalize eN (Nat.shiftRight e 8) = x at *
  omega
theorem k2_le (e : Nat) : k2 e ≤ 1100000 := by
  have ek : k2 e = 1180591620717411303424 / (1125899906842624 + e) := rfl
  rw [ek]
  exact Nat.div_le_of_le_mul (by omega)
attribute [local irreducible] k1 k2
theorem s1_le (m j : Nat) : s1 m j ≤ 1100000 := by
  unfold s1
  generalize Nat.ble LO (nodeL j) = p
  generalize Nat.ble (zP m j) 13194139533312 = q
  cases p with
  | false => rw [cond_false]; exact k1_le _
  | true =>
    rw [cond_true]
    cases q with
    | false => rw [cond_false]; exact Nat.zero_le _
    | true => rw [cond_true]; exact k1_le _
theorem s2_le (m j : Nat) : s2 m j ≤ 1100000 := by
  unfold s2
  generalize Nat.ble LO (nodeL j) = p
  cases p with
  | false => rw [cond_false]; exact k2_le _
  | true => rw [cond_true]; exact k2_le _
end Go.Proofs.Ytmcnfapdghoenaa
/- Entries of the tables for kinds 0 and 3. Plain. -/
namespace Go.Proofs.Ytmcnfapdghoenaa
open Go Go.RowKit

attribute [local irreducible] eN eP nodeL LO k1 k2
def s0 (j : Nat) : Nat := k1 (Nat.shiftLeft (Nat.add 128 (Nat.mod j 128)) (Nat.add (Nat.div j 128) 29))
def s3 (j : Nat) : Nat := Nat.sub 1048576 (Nat.shiftRight (Nat.shiftLeft (Nat.add 128 (Nat.mod j 128)) (Nat.div j 128)) 1)
theorem s0_le (j : Nat) : s0 j ≤ 1100000 := k1_le _
theorem s3_le (j : Nat) : s3 j ≤ 1100000 := Nat.le_trans (Nat.sub_le _ _) (by decide)
end Go.Proofs.Ytmcnfapdghoenaa
