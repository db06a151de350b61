
/- Two systems beside each other: the sets. Plain laws. -/
import Derived.Test.YtgmdoboeenpjpaaYp
namespace Go.Proofs.Ytgmdoboeenpjpaa
open Go Go.RowKit Go.ChangeShapes Go.WideShapes Go.ChangeAt

/-- The sets of parts of one system, behind those of another one of a parts. -/
def shL (a : Nat) (B : List Nat) : List Nat := B.map fun q => q * 2 ^ a
def beL (a : Nat) (A B : List Nat) : List Nat := A ++ shL a B
theorem shL_len (a : Nat) (B : List Nat) : (shL a B).length = B.length := by simp [shL]
theorem testBit_sh (q a i : Nat) : (q * 2 ^ a).testBit i = (decide (a ≤ i) && q.testBit (i - a)) := by
  rw [← Nat.shiftLeft_eq, Nat.testBit_shiftLeft]
theorem hasB_sh {a b c : Nat} (h : hasB (b * 2 ^ a) (c * 2 ^ a) = true) : hasB b c = true := hasB_bits.2 fun i hi => by
  have := hasB_bits.1 h (i + a) (by rw [testBit_sh]; simp [hi])
  rw [testBit_sh] at this
  simpa using this
theorem low_bit {q a : Nat} (h1 : 1 ≤ q) (h2 : q < 2 ^ a) : ∃ i, i < a ∧ q.testBit i = true := by
  obtain ⟨i, hi⟩ := Nat.exists_testBit_of_ne_zero (show q ≠ 0 by omega)
  refine ⟨i, ?_, hi⟩
  rcases Nat.lt_or_ge i a with h | h
  · exact h
  · have := Nat.ge_two_pow_of_testBit hi
    have := Nat.pow_le_pow_right (show 0 < 2 by decide) h
    omega
theorem anti_iff {zs : List Nat} : anti zs = true ↔ ∀ s ∈ zs, ∀ q ∈ zs, hasB s q = true → q = s := by
  unfold anti
  rw [List.all_eq_true]
  constructor
  · intro h s hs q hq hh
    have := h s hs
    simp only [Bool.not_eq_true', List.any_eq_false, Bool.and_eq_true, bne_iff_ne, ne_eq, not_and] at this
    apply Classical.byContradiction
    intro hne
    exact this q hq hne hh
  · intro h s hs
    simp only [Bool.not_eq_true', List.any_eq_false, Bool.and_eq_true, bne_iff_ne, ne_eq, not_and]
    intro q hq hne hh
    exact hne (h s hs q hq hh)
theorem be_asc {a : Nat} {A B : List Nat} (hA : A.Pairwise (· < ·)) (hB : B.Pairwise (· < ·)) (hlt : ∀ x ∈ A, x < 2 ^ a) (hpos : ∀ x ∈ B, 1 ≤ x) : (beL a A B).Pairwise (· < ·) := by
  unfold beL shL
  have hp : 0 < 2 ^ a := Nat.pow_pos (by decide)
  refine List.pairwise_append.2 ⟨hA, ?_, ?_⟩
  · rw [List.pairwise_map]
    exact hB.imp fun h => Nat.mul_lt_mul_of_pos_right h hp
  · intro x hx y hy
    obtain ⟨q, hq, rfl⟩ := List.mem_map.1 hy
    have h1 := hlt x hx
    have h2 : 1 * 2 ^ a ≤ q * 2 ^ a := Nat.mul_le_mul_right _ (hpos q hq)
    omega
theorem be_anti {a : Nat} {A B : List Nat} (hA : anti A = true) (hB : anti B = true) (hlt : ∀ x ∈ A, 1 ≤ x ∧ x < 2 ^ a) (hpos : ∀ x ∈ B, 1 ≤ x) : anti (beL a A B) = true := by
  rw [anti_iff] at *
  unfold beL shL
  intro s hs q hq hh
  rcases List.mem_append.1 hs with hs | hs <;> rcases List.mem_append.1 hq with hq | hq
  · exact hA s hs q hq hh
  · obtain ⟨b, hb, rfl⟩ := List.mem_map.1 hq
    have h1 := hasB_le hh
    have h2 := (hlt s hs).2
    have h3 : 1 * 2 ^ a ≤ b * 2 ^ a := Nat.mul_le_mul_right _ (hpos b hb)
    omega
  · obtain ⟨b, hb, rfl⟩ := List.mem_map.1 hs
    obtain ⟨i, hi, hbit⟩ := low_bit (hlt q hq).1 (hlt q hq).2
    have := hasB_bits.1 hh i hbit
    rw [testBit_sh] at this
    simp only [Bool.and_eq_true, decide_eq_true_eq] at this
    omega
  · obtain ⟨b, hb, rfl⟩ := List.mem_map.1 hs
    obtain ⟨c, hc, rfl⟩ := List.mem_map.1 hq
    rw [hB b hb c hc (hasB_sh hh)]
theorem sysB_ups {p : Int} {zs : List Int} (h : sysB p zs = true) : (downs zs).Pairwise (· < ·) ∧ anti (downs zs) = true := by
  unfold sysB at h
  rw [Bool.and_eq_true, Bool.and_eq_true] at h
  exact ⟨asc_iff.1 h.2.1, h.2.2⟩
theorem be_least {a b : Nat} {A B : List Nat} (hA : SysN a A) (hB : SysN b B) (h1 : A.Pairwise (· < ·)) (h2 : B.Pairwise (· < ·)) (h3 : anti A = true) (h4 : anti B = true) :
    leastN (beL a A B) = beL a A B ∧ (∀ z ∈ beL a A B, z < 1048577) ∧ (beL a A B).length ≤ 128 ∧ 0 < (beL a A B).length := by
  have hlt : ∀ z ∈ beL a A B, z < 1048577 := fun z hz => by
    rcases List.mem_append.1 hz with hz | hz
    · have := hA.small z hz; omega
    · obtain ⟨q, hq, rfl⟩ := List.mem_map.1 hz
      have e1 := hB.small q hq
      have e2 := (pow10N hA.p10).2.2.2
      have : q * 2 ^ a ≤ 1024 * 1024 := Nat.mul_le_mul (by omega) e2
      omega
  refine ⟨?_, hlt, ?_, ?_⟩
  · unfold leastN
    rw [setsOf_self hlt (be_asc h1 h2 (fun x hx => hA.lt x hx) hB.pos), minL_of_anti (be_anti h3 h4 (fun x hx => ⟨hA.pos x hx, hA.lt x hx⟩) hB.pos)]
  · unfold beL; rw [List.length_append, shL_len]; have := hA.l64; have := hB.l64; omega
  · unfold beL; rw [List.length_append]; have := hA.l1; omega
def besideO (p q : Int) (zs ys : List Int) : Option (Int × List Int) := if sysB p zs && sysB q ys then sysO (p + q) (ups (beL p.toNat (downs zs) (downs ys))) else none
theorem besideO_len (p q : Int) (zs ys : List Int) : ((besideO p q zs ys).getD (0, [])).2.length ≤ 1048576 := by
  unfold besideO
  split
  · exact sysO_len _ _
  · simp
end Go.Proofs.Ytgmdoboeenpjpaa
