
/- How many parts a set has; sets of so many parts. Plain laws. -/
import Derived.Test.YtgmdoboeenpjpaaBu
namespace Go.Proofs.Ytgmdoboeenpjpaa
open Go Go.RowKit

/-- How many parts a set has (of at most k). -/
def popF : Nat → Nat → Nat
  | 0, _ => 0
  | k + 1, s => s % 2 + popF k (s / 2)
theorem popF_zero : ∀ k, popF k 0 = 0
  | 0 => rfl
  | k + 1 => by simp [popF, popF_zero k]
theorem popF_more : ∀ (k m s : Nat), s < 2 ^ k → k ≤ m → popF m s = popF k s
  | 0, m, s, hs, _ => by
    have : s = 0 := by simpa using hs
    subst this; rw [popF_zero, popF_zero]
  | k + 1, m, s, hs, hm => by
    obtain ⟨m', rfl⟩ : ∃ m', m = m' + 1 := ⟨m - 1, by omega⟩
    have hp : 2 ^ (k + 1) = 2 * 2 ^ k := by rw [Nat.pow_succ, Nat.mul_comm]
    rw [popF, popF, popF_more k m' (s / 2) (by omega) (by omega)]
theorem popF_le : ∀ (k a b : Nat), hasB a b = true → popF k b ≤ popF k a
  | 0, _, _, _ => Nat.le_refl _
  | k + 1, a, b, h => by
    have h1 : hasB (a / 2) (b / 2) = true := hasB_bits.2 fun i hi => by
      rw [← Nat.testBit_succ] at hi ⊢; exact hasB_bits.1 h _ hi
    have h2 : b % 2 ≤ a % 2 := by
      have := hasB_bits.1 h 0
      simp only [Nat.testBit_zero, decide_eq_true_eq] at this
      omega
    have := popF_le k _ _ h1
    rw [popF, popF]; omega
theorem popF_eq : ∀ (k a b : Nat), a < 2 ^ k → b < 2 ^ k → hasB a b = true → popF k b = popF k a → b = a
  | 0, a, b, ha, hb, _, _ => by
    have h1 : a = 0 := by simpa using ha
    have h2 : b = 0 := by simpa using hb
    omega
  | k + 1, a, b, ha, hb, h, he => by
    have hp : 2 ^ (k + 1) = 2 * 2 ^ k := by rw [Nat.pow_succ, Nat.mul_comm]
    have h1 : hasB (a / 2) (b / 2) = true := hasB_bits.2 fun i hi => by
      rw [← Nat.testBit_succ] at hi ⊢; exact hasB_bits.1 h _ hi
    have h2 : b % 2 ≤ a % 2 := by
      have := hasB_bits.1 h 0
      simp only [Nat.testBit_zero, decide_eq_true_eq] at this
      omega
    have h3 := popF_le k _ _ h1
    rw [popF, popF] at he
    have := popF_eq k (a / 2) (b / 2) (by omega) (by omega) h1 (by omega)
    omega
def pop (s : Nat) : Nat := popF 64 s
theorem pop_zero : pop 0 = 0 := popF_zero 64
theorem pop_half (s : Nat) (hs : s < 18446744073709551616) : pop s = s % 2 + pop (s / 2) := by
  have h0 : (2 : Nat) ^ 63 = 9223372036854775808 := by decide
  have h : popF 64 (s / 2) = popF 63 (s / 2) := popF_more 63 64 (s / 2) (by omega) (by decide)
  show popF (63 + 1) s = _
  rw [popF]
  show _ = s % 2 + popF 64 (s / 2)
  rw [h]
theorem pop_le (s k : Nat) (hs : s < 2 ^ k) (hk : k ≤ 64) : pop s ≤ k := by
  have : ∀ k s, popF k s ≤ k := by
    intro k
    induction k with
    | zero => intro s; exact Nat.le_refl _
    | succ k ih => intro s; rw [popF]; have := ih (s / 2); omega
  unfold pop
  rw [popF_more k 64 s hs hk]
  exact this k s

/-- The sets of so many parts, ascending. -/
def voteL (p v : Nat) : List Nat := (List.range (2 ^ p)).filter fun s => decide (pop s = v)
theorem voteL_asc (p v : Nat) : (voteL p v).Pairwise (· < ·) := asc_filter (asc_range _)
theorem voteL_anti {p v : Nat} (hp : p ≤ 20) : anti (voteL p v) = true := by
  unfold anti
  rw [List.all_eq_true]
  intro s hs
  simp only [Bool.not_eq_true', List.any_eq_false, Bool.and_eq_true, bne_iff_ne, ne_eq, not_and]
  intro q hq hne hh
  rw [voteL, List.mem_filter, List.mem_range, decide_eq_true_eq] at hs hq
  have h64 : 2 ^ p ≤ 2 ^ 64 := Nat.pow_le_pow_right (by decide) (by omega)
  exact hne (popF_eq 64 s q (by omega) (by omega) hh (by show pop q = pop s; rw [hs.2, hq.2]))
theorem vote_same {p v : Nat} (hp : p ≤ 20) {N : Nat} (hN : 2 ^ p ≤ N) : minL (setsOf N (voteL p v)) = voteL p v := by
  rw [setsOf_self (fun z hz => by rw [voteL, List.mem_filter, List.mem_range] at hz; omega) (voteL_asc p v), minL_of_anti (voteL_anti hp)]
theorem or_bit {s b : Nat} (h : s.testBit b = false) : s ||| 2 ^ b = s + 2 ^ b := by
  refine (nat_add_or _ _ ?_).symm
  apply Nat.eq_of_testBit_eq; intro i
  rw [Nat.testBit_and, Nat.testBit_two_pow, Nat.zero_testBit]
  by_cases hi : b = i
  · subst hi; simp [h]
  · simp [hi]
end Go.Proofs.Ytgmdoboeenpjpaa
