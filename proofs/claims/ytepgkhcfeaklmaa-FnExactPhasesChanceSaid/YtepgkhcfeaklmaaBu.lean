
/- Systems as lists of numbers: when they work, their cuts. Plain laws. -/
import Derived.Test.YtepgkhcfeaklmaaBt
namespace Go.Proofs.Ytepgkhcfeaklmaa
open Go Go.RowKit

/-- A set without the parts of another one. -/
theorem testBit_wo (a c : Nat) (ha : a < 9223372036854775808) (hc : c < 9223372036854775808) (i : Nat) : (a - (a &&& c)).testBit i = (a.testBit i && !c.testBit i) := by
  rw [← andNot_nat a c ha hc]
  have e : (18446744073709551615 - c) = 2 ^ 64 - (c + 1) := by omega
  rw [e]
  simp only [Nat.testBit_and, Nat.testBit_two_pow_sub_succ (show c < 2 ^ 64 by omega)]
  by_cases hi : i < 64
  · simp [hi]
  · have : a.testBit i = false := Nat.testBit_lt_two_pow (Nat.lt_of_lt_of_le (show a < 2 ^ 64 by omega) (Nat.pow_le_pow_right (by decide) (by omega)))
    simp [this]
theorem testBit_whole (p i : Nat) : (2 ^ p - 1).testBit i = decide (i < p) := by
  rw [Nat.testBit_two_pow_sub_one]
theorem and_whole {p s : Nat} (hs : s < 2 ^ p) : (2 ^ p - 1) &&& s = s := by
  rw [Nat.and_comm, Nat.and_two_pow_sub_one_eq_mod, Nat.mod_eq_of_lt hs]
theorem pow_small {p : Nat} (hp : p ≤ 20) : 2 ^ p ≤ 1048576 := Nat.pow_le_pow_right (show 0 < 2 by decide) hp
theorem testBit_compl {p s : Nat} (hp : p ≤ 20) (hs : s < 2 ^ p) (i : Nat) : (2 ^ p - 1 - s).testBit i = (decide (i < p) && !s.testBit i) := by
  have h := pow_small hp
  have h1 := testBit_wo (2 ^ p - 1) s (by omega) (by omega) i
  rw [and_whole hs, testBit_whole] at h1
  exact h1
theorem testBit_drop {s b : Nat} (hs : s < 9223372036854775808) (hb : s.testBit b = true) (i : Nat) : (s - 2 ^ b).testBit i = (s.testBit i && decide (i ≠ b)) := by
  have h2 : 2 ^ b ≤ s := Nat.ge_two_pow_of_testBit hb
  have h1 := testBit_wo s (2 ^ b) hs (by omega) i
  have e : s &&& 2 ^ b = 2 ^ b := by
    apply Nat.eq_of_testBit_eq; intro j
    rw [Nat.testBit_and, Nat.testBit_two_pow]
    by_cases hj : b = j
    · subst hj; simp [hb]
    · simp [hj]
  rw [e, Nat.testBit_two_pow] at h1
  rw [h1]
  by_cases h : i = b
  · subst h; simp
  · have : ¬ b = i := fun e => h e.symm
    simp [h, this]

/-- A system works with a set that has one of its paths. -/
def worksB (ns : List Nat) (s : Nat) : Bool := ns.any fun q => hasB s q
theorem worksB_iff {ns : List Nat} {s : Nat} : worksB ns s = true ↔ ∃ q ∈ ns, hasB s q = true := by simp [worksB]
theorem worksB_mono {ns : List Nat} {s t : Nat} (h : hasB t s = true) (hw : worksB ns s = true) : worksB ns t = true := by
  obtain ⟨q, hq, h2⟩ := worksB_iff.1 hw
  exact worksB_iff.2 ⟨q, hq, hasB_trans h h2⟩

def cutB (p : Nat) (ns : List Nat) (s : Nat) : Bool := !worksB ns (2 ^ p - 1 - s)
/-- The cuts, as the program finds them. -/
def cutsI (p : Nat) (ns : List Nat) : List Nat := minL ((List.range (2 ^ p)).filter (cutB p ns))
/-- A set is a cut, and no set with one part less is. -/
def cutS (p : Nat) (ns : List Nat) (s : Nat) : Bool := cutB p ns s && (List.range p).all fun b => !(s.testBit b) || worksB ns (2 ^ p - 1 - (s - 2 ^ b))
/-- The cuts, as the reference finds them. -/
def cutsS (p : Nat) (ns : List Nat) : List Nat := (List.range (2 ^ p)).filter fun s => decide (1 ≤ s) && cutS p ns s

theorem cuts_same {p : Nat} {ns : List Nat} (hp : p ≤ 20) (hw : worksB ns (2 ^ p - 1) = true) : cutsI p ns = cutsS p ns := by
  have hP := pow_small hp
  refine asc_ext (minL_asc (asc_filter (asc_range _))) (asc_filter (asc_range _)) fun s => ?_
  rw [cutsI, cutsS, mem_minL, List.mem_filter, List.mem_filter, List.mem_range]
  simp only [cutS, Bool.and_eq_true, decide_eq_true_eq, List.all_eq_true, List.mem_range, Bool.or_eq_true, Bool.not_eq_true']
  constructor
  · rintro ⟨⟨h1, h2⟩, h3⟩
    refine ⟨h1, ?_, h2, fun b hb => ?_⟩
    · rcases Nat.eq_zero_or_pos s with e | h
      · subst e
        simp [cutB, hw] at h2
      · exact h
    · cases hs : s.testBit b with
      | false => exact .inl rfl
      | true =>
        right
        have hle : 2 ^ b ≤ s := Nat.ge_two_pow_of_testBit hs
        have hpos : 0 < 2 ^ b := Nat.pow_pos (by decide)
        cases hq : worksB ns (2 ^ p - 1 - (s - 2 ^ b)) with
        | true => rfl
        | false =>
          have := h3 (s - 2 ^ b) (List.mem_filter.2 ⟨List.mem_range.2 (by omega), by simp [cutB, hq]⟩) (hasB_bits.2 fun i hi => by
            rw [testBit_drop (by omega) hs, Bool.and_eq_true] at hi; exact hi.1)
          omega
  · rintro ⟨h1, h2, h3, h4⟩
    refine ⟨⟨h1, h3⟩, fun q hq hh => ?_⟩
    rw [List.mem_filter, List.mem_range] at hq
    by_cases hne : q = s
    · exact hne
    exfalso
    have hx : ∃ b, s.testBit b = true ∧ q.testBit b = false := by
      apply Classical.byContradiction
      intro hno
      apply hne
      refine hasB_anti (hasB_bits.2 fun i hi => ?_) hh
      cases hqb : q.testBit i with
      | true => rfl
      | false => exact absurd ⟨i, hi, hqb⟩ hno
    obtain ⟨b, hb1, hb2⟩ := hx
    have hle : 2 ^ b ≤ s := Nat.ge_two_pow_of_testBit hb1
    have hpos : 0 < 2 ^ b := Nat.pow_pos (by decide)
    have hbp : b < p := by
      rcases Nat.lt_or_ge b p with h | h
      · exact h
      · have := Nat.pow_le_pow_right (show 0 < 2 by decide) h; omega
    rcases h4 b hbp with h5 | h5
    · rw [hb1] at h5; cases h5
    · have h6 : worksB ns (2 ^ p - 1 - q) = true := by
        refine worksB_mono (hasB_bits.2 fun i hi => ?_) h5
        rw [testBit_compl hp (by omega), testBit_drop (by omega) hb1] at hi
        rw [testBit_compl hp hq.1]
        simp only [Bool.and_eq_true, Bool.not_eq_true', Bool.and_eq_false_iff, decide_eq_true_eq, decide_eq_false_iff_not, ne_eq, Decidable.not_not] at hi ⊢
        refine ⟨hi.1, ?_⟩
        rcases hi.2 with h7 | h7
        · cases h8 : q.testBit i with
          | false => rfl
          | true => rw [hasB_bits.1 hh i h8] at h7; cases h7
        · subst h7; exact hb2
      have h7 := hq.2
      simp [cutB, h6] at h7

/-! ### Valid systems -/
/-- What a valid system is, of sets that are natural numbers. -/
def sysN (p : Nat) (ns : List Nat) : Bool := asc ns && anti ns
theorem contains_iff {zs : List Nat} {s : Nat} : zs.contains s = true ↔ s ∈ zs := by simp
/-- The program asks whether a list is its own least sets. -/
theorem least_self {N : Nat} {ns : List Nat} (hb : ∀ z ∈ ns, z < N) : ns = minL (setsOf N ns) ↔ (asc ns && anti ns) = true := by
  rw [Bool.and_eq_true]
  constructor
  · intro h
    have ha : ns.Pairwise (· < ·) := by rw [h]; exact minL_asc (setsOf_asc _ _)
    have h2 : setsOf N ns = ns := setsOf_self hb ha
    rw [h2] at h
    exact ⟨asc_iff.2 ha, minL_eq_self.1 h.symm⟩
  · rintro ⟨h1, h2⟩
    rw [setsOf_self hb (asc_iff.1 h1), minL_of_anti h2]
/-- The least sets of a list, as the reference finds them. -/
def leastS (zs : List Nat) : List Nat := (List.range 1024).filter fun s => decide (1 ≤ s) && zs.contains s && zs.all fun p => !(p != s && hasB s p)
theorem least_same {N : Nat} {zs : List Nat} (hb : ∀ z ∈ zs, z < N) (h1 : ∀ z ∈ zs, 1 ≤ z ∧ z < 1024) : minL (setsOf N zs) = leastS zs := by
  refine asc_ext (minL_asc (setsOf_asc _ _)) (asc_filter (asc_range _)) fun s => ?_
  rw [mem_minL, mem_setsOf hb, leastS, List.mem_filter, List.mem_range]
  simp only [Bool.and_eq_true, decide_eq_true_eq, contains_iff, List.all_eq_true, Bool.not_eq_true', Bool.and_eq_false_iff, bne_eq_false_iff_eq]
  constructor
  · rintro ⟨h2, h3⟩
    refine ⟨(h1 s h2).2, ⟨(h1 s h2).1, h2⟩, fun p hp => ?_⟩
    cases hh : hasB s p with
    | false => exact .inr rfl
    | true => exact .inl (h3 p ((mem_setsOf hb).2 hp) hh)
  · rintro ⟨h2, ⟨h3, h4⟩, h5⟩
    refine ⟨h4, fun p hp hh => ?_⟩
    rcases h5 p ((mem_setsOf hb).1 hp) with h | h
    · exact h
    · rw [hh] at h; cases h
/-- A list that ascends strictly, of sets none of which has all parts of another one: pair by pair, as the reference looks at it. -/
def pairOk (ns : List Nat) (i : Nat) : Bool := (decide (i = 0) || decide (ns.getD (i - 1) 0 < ns.getD i 0)) && (List.range i).all fun k => !(hasB (ns.getD i 0) (ns.getD k 0)) && !(hasB (ns.getD k 0) (ns.getD i 0))
theorem asc_getD {ns : List Nat} : ns.Pairwise (· < ·) ↔ ∀ i, i + 1 < ns.length → ns.getD i 0 < ns.getD (i + 1) 0 := by
  induction ns with
  | nil => simp
  | cons a l ih =>
    cases l with
    | nil => simp
    | cons b l =>
      rw [← asc_iff, asc, Bool.and_eq_true, decide_eq_true_eq, asc_iff, ih]
      constructor
      · rintro ⟨h1, h2⟩ i hi
        cases i with
        | zero => simpa using h1
        | succ i => simpa using h2 i (by simpa using hi)
      · intro h
        refine ⟨by simpa using h 0 (by simp), fun i hi => by simpa using h (i + 1) (by simpa using hi)⟩
theorem pair_all {ns : List Nat} : (asc ns && anti ns) = (List.range ns.length).all (pairOk ns) := by
  rw [Bool.eq_iff_iff, Bool.and_eq_true, List.all_eq_true, asc_iff]
  simp only [List.mem_range, pairOk, Bool.and_eq_true, Bool.or_eq_true, decide_eq_true_eq, List.all_eq_true, Bool.not_eq_true']
  constructor
  · rintro ⟨h1, h2⟩ i hi
    have hg : ∀ k, k < ns.length → ns.getD k 0 ∈ ns := fun k hk => by simp [hk]
    have hmono : ∀ k, k < i → ns.getD k 0 < ns.getD i 0 := fun k hk => by
      have := List.pairwise_iff_getElem.1 h1 k i (by omega) hi hk
      simpa [hi, show k < ns.length by omega] using this
    have hno : ∀ a ∈ ns, ∀ b ∈ ns, hasB a b = true → b = a := by
      intro a ha b hb hab
      have := List.all_eq_true.1 h2 a ha
      simp only [Bool.not_eq_true', List.any_eq_false, Bool.and_eq_true, bne_iff_ne, ne_eq, not_and] at this
      apply Classical.byContradiction
      intro hne
      exact this b hb hne hab
    refine ⟨?_, fun k hk => ?_⟩
    · rcases Nat.eq_zero_or_pos i with e | h
      · exact .inl e
      · exact .inr (hmono (i - 1) (by omega))
    · have hlt := hmono k hk
      have hkn : k < ns.length := by omega
      constructor
      · cases hh : hasB (ns.getD i 0) (ns.getD k 0) with
        | false => rfl
        | true => have := hno _ (hg i hi) _ (hg k hkn) hh; omega
      · cases hh : hasB (ns.getD k 0) (ns.getD i 0) with
        | false => rfl
        | true => have := hno _ (hg k hkn) _ (hg i hi) hh; omega
  · intro h
    have ha : ns.Pairwise (· < ·) := asc_getD.2 fun i hi => by
      have := (h (i + 1) hi).1
      rcases this with e | h2
      · omega
      · simpa using h2
    refine ⟨ha, ?_⟩
    unfold anti
    rw [List.all_eq_true]
    intro s hs
    simp only [Bool.not_eq_true', List.any_eq_false, Bool.and_eq_true, bne_iff_ne, ne_eq, not_and]
    intro q hq hne hh
    obtain ⟨i, hi, rfl⟩ := List.getElem_of_mem hs
    obtain ⟨k, hk, rfl⟩ := List.getElem_of_mem hq
    rcases Nat.lt_trichotomy i k with h3 | h3 | h3
    · have := ((h k hk).2 i h3).2
      simp only [List.getD_eq_getElem?_getD, List.getElem?_eq_getElem hk, List.getElem?_eq_getElem hi, Option.getD_some] at this
      rw [hh] at this; cases this
    · subst h3; exact hne rfl
    · have := ((h i hi).2 k h3).1
      simp only [List.getD_eq_getElem?_getD, List.getElem?_eq_getElem hk, List.getElem?_eq_getElem hi, Option.getD_some] at this
      rw [hh] at this; cases this
end Go.Proofs.Ytepgkhcfeaklmaa
