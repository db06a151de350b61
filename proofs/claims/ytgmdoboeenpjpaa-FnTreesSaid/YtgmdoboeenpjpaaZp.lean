
/- The places that roads join, in plain Lean. No program in sight. -/
import Derived.Test.YtgmdoboeenpjpaaYN
import Derived.Test.YtgmdoboeenpjpaaBb
namespace Go.Proofs.Ytgmdoboeenpjpaa
open Go

/-- The two ends of a road. -/
def rA (rs : List Nat) (j : Nat) : Nat := rs.getD (2 * j) 0
def rB (rs : List Nat) (j : Nat) : Nat := rs.getD (2 * j + 1) 0
def bothN (a b : Nat) : Nat := 2 ^ a ||| 2 ^ b
/-- A road of the set joins just one of its ends to the place 0. -/
def grows (rs : List Nat) (set P j : Nat) : Bool := set.testBit j && (P.testBit (rA rs j) != P.testBit (rB rs j))
def stepR (rs : List Nat) (set P j : Nat) : Nat := if grows rs set P j then P ||| bothN (rA rs j) (rB rs j) else P
def rnd (rs : List Nat) (set P : Nat) : Nat → Nat
  | 0 => P
  | k + 1 => stepR rs set (rnd rs set P k) k
def itR (rs : List Nat) (set : Nat) : Nat → Nat
  | 0 => 1
  | n + 1 => rnd rs set (itR rs set n) (rs.length / 2)
/-- The places that a set of roads joins to the place 0. -/
def joinN (q : Nat) (rs : List Nat) (set : Nat) : Nat := itR rs set q
def joinsB (q : Nat) (rs : List Nat) (set : Nat) : Bool := (joinN q rs set).testBit (q - 1)
def wholeB (q : Nat) (rs : List Nat) (set : Nat) : Bool := joinN q rs set == 2 ^ q - 1
/-- Roads between places. -/
structure RoadN (q : Nat) (rs : List Nat) : Prop where
  q2 : 2 ≤ q
  q6 : q ≤ 6
  l2 : 2 ≤ rs.length
  l20 : rs.length ≤ 20
  even : rs.length % 2 = 0
  lt : ∀ r ∈ rs, r < q
  ne : ∀ j, j < rs.length / 2 → rA rs j ≠ rB rs j
theorem RoadN.at {q : Nat} {rs : List Nat} (h : RoadN q rs) (i : Nat) : rs.getD i 0 < q := by
  rw [List.getD_eq_getElem?_getD]
  cases e : rs[i]? with
  | none => have := h.q2; simp; omega
  | some x => exact h.lt x (List.mem_of_getElem? e)
theorem bit_both (a b i : Nat) : (bothN a b).testBit i = (decide (a = i) || decide (b = i)) := by
  unfold bothN; rw [Nat.testBit_or, Nat.testBit_two_pow, Nat.testBit_two_pow]
theorem or_both_hasB (P a b : Nat) : hasB (P ||| bothN a b) P = true := hasB_bits.2 fun i hi => by rw [Nat.testBit_or, hi]; rfl
theorem stepR_has (rs : List Nat) (set P j : Nat) : hasB (stepR rs set P j) P = true := by
  unfold stepR; split
  · exact or_both_hasB _ _ _
  · exact hasB_refl _
theorem rnd_has (rs : List Nat) (set P : Nat) : ∀ k, hasB (rnd rs set P k) P = true
  | 0 => hasB_refl _
  | k + 1 => hasB_trans (stepR_has rs set _ k) (rnd_has rs set P k)
theorem stepR_grows {rs : List Nat} {set P j : Nat} : stepR rs set P j ≠ P ↔ grows rs set P j = true := by
  unfold stepR
  cases h : grows rs set P j
  · simp
  · simp only [if_true, ne_eq, iff_true]
    intro e
    have hg := h
    unfold grows at hg
    rw [Bool.and_eq_true, bne_iff_ne] at hg
    have h1 := congrArg (fun x => Nat.testBit x (rA rs j)) e
    have h2 := congrArg (fun x => Nat.testBit x (rB rs j)) e
    simp only [Nat.testBit_or, bit_both, decide_true, Bool.true_or, Bool.or_true] at h1 h2
    exact hg.2 (h1.symm.trans h2)
theorem rnd_step_ne {rs : List Nat} {set P k : Nat} : (rnd rs set P (k + 1) ≠ P) ↔ (rnd rs set P k ≠ P ∨ grows rs set (rnd rs set P k) k = true) := by
  constructor
  · intro h
    by_cases e : rnd rs set P k = P
    · refine Or.inr (stepR_grows.1 ?_)
      rw [e]
      rw [rnd, e] at h
      exact h
    · exact Or.inl e
  · rintro h e
    have h1 : hasB (rnd rs set P (k + 1)) (rnd rs set P k) = true := stepR_has rs set _ k
    rw [e] at h1
    have h2 : rnd rs set P k = P := hasB_anti (rnd_has rs set P k) h1
    rcases h with h | h
    · exact h h2
    · refine stepR_grows.2 h ?_
      exact e.trans h2.symm
theorem stepR_lt {q : Nat} {rs : List Nat} (h : RoadN q rs) {set P j : Nat} (hP : P < 2 ^ q) : stepR rs set P j < 2 ^ q := by
  unfold stepR bothN
  split
  · exact Nat.or_lt_two_pow hP (Nat.or_lt_two_pow (Nat.pow_lt_pow_right (by decide) (h.at _)) (Nat.pow_lt_pow_right (by decide) (h.at _)))
  · exact hP
theorem rnd_lt {q : Nat} {rs : List Nat} (h : RoadN q rs) {set P : Nat} (hP : P < 2 ^ q) : ∀ k, rnd rs set P k < 2 ^ q
  | 0 => hP
  | k + 1 => stepR_lt h (rnd_lt h hP k)
theorem itR_lt {q : Nat} {rs : List Nat} (h : RoadN q rs) (set : Nat) : ∀ n, itR rs set n < 2 ^ q
  | 0 => Nat.one_lt_two_pow (by have := h.q2; omega)
  | n + 1 => rnd_lt h (itR_lt h set n) _
theorem itR_has (rs : List Nat) (set n : Nat) : hasB (itR rs set (n + 1)) (itR rs set n) = true := rnd_has rs set _ _
theorem itR_fix {rs : List Nat} {set k : Nat} (h : itR rs set (k + 1) = itR rs set k) : ∀ n, k ≤ n → itR rs set n = itR rs set k := by
  intro n hn
  induction n with
  | zero => rw [Nat.le_zero.1 hn]
  | succ n ih =>
    by_cases e : k = n + 1
    · rw [e]
    · have h1 := ih (by omega)
      show rnd rs set (itR rs set n) _ = _
      rw [h1]
      exact h
theorem itR_pop {q : Nat} {rs : List Nat} (h : RoadN q rs) (set : Nat) : ∀ k, (∀ j, j < k → itR rs set (j + 1) ≠ itR rs set j) → k + 1 ≤ popF q (itR rs set k)
  | 0, _ => by
    have h1 : popF 1 1 = 1 := by decide
    have h2 : popF q 1 = popF 1 1 := popF_more 1 q 1 (by decide) (by have := h.q2; omega)
    show 1 ≤ popF q 1
    omega
  | k + 1, hne => by
    have ih := itR_pop h set k fun j hj => hne j (by omega)
    have h1 := popF_le q _ _ (itR_has rs set k)
    have h2 : popF q (itR rs set k) ≠ popF q (itR rs set (k + 1)) := fun e =>
      hne k (by omega) (popF_eq q _ _ (itR_lt h set _) (itR_lt h set _) (itR_has rs set k) e).symm
    omega
theorem popF_le' : ∀ (k s : Nat), popF k s ≤ k
  | 0, s => Nat.le_refl _
  | k + 1, s => by
    have := popF_le' k (s / 2)
    have : popF (k + 1) s = s % 2 + popF k (s / 2) := rfl
    omega
theorem itR_stops {q : Nat} {rs : List Nat} (h : RoadN q rs) (set : Nat) : ∃ k, k < q ∧ itR rs set (k + 1) = itR rs set k := by
  refine Classical.byContradiction fun hn => ?_
  have h1 := itR_pop h set q fun j hj e => hn ⟨j, hj, e⟩
  have := popF_le' q (itR rs set q)
  omega
/-- The program's rounds end where the reference's do. -/
theorem itR_end {q : Nat} {rs : List Nat} (h : RoadN q rs) {set n : Nat} (he : itR rs set (n + 1) = itR rs set n) : itR rs set n = joinN q rs set := by
  obtain ⟨k, hk, hf⟩ := itR_stops h set
  unfold joinN
  rw [itR_fix hf q (by omega)]
  rcases Nat.le_total k n with h1 | h1
  · exact itR_fix hf n h1
  · exact (itR_fix he k h1).symm
theorem joinN_lt {q : Nat} {rs : List Nat} (h : RoadN q rs) (set : Nat) : joinN q rs set < 2 ^ q := itR_lt h set q

/-! ### More roads join more places -/
theorem stepR_mono {rs : List Nat} {s t P Q j : Nat} (hs : hasB t s = true) (hP : hasB Q P = true) : hasB (stepR rs t Q j) (stepR rs s P j) = true := by
  unfold stepR
  cases h1 : grows rs s P j
  · simp only [Bool.false_eq_true, if_false]
    exact hasB_trans (stepR_has rs t Q j) hP
  · simp only [if_true]
    unfold grows at h1
    rw [Bool.and_eq_true, bne_iff_ne] at h1
    have ht := hasB_bits.1 hs j h1.1
    rw [hasB_bits]
    intro i hi
    rw [Nat.testBit_or, Bool.or_eq_true] at hi
    cases h2 : grows rs t Q j
    · simp only [Bool.false_eq_true, if_false]
      unfold grows at h2
      rw [ht, Bool.true_and] at h2
      have h3 : Q.testBit (rA rs j) = Q.testBit (rB rs j) := by
        cases ea : Q.testBit (rA rs j) <;> cases eb : Q.testBit (rB rs j) <;> simp_all
      have h4 : Q.testBit (rA rs j) = true := by
        cases ea : P.testBit (rA rs j)
        · cases eb : P.testBit (rB rs j)
          · exact absurd (ea.trans eb.symm) h1.2
          · rw [h3]; exact hasB_bits.1 hP _ eb
        · exact hasB_bits.1 hP _ ea
      rcases hi with hi | hi
      · exact hasB_bits.1 hP i hi
      · rw [bit_both, Bool.or_eq_true, decide_eq_true_eq, decide_eq_true_eq] at hi
        rcases hi with rfl | rfl
        · exact h4
        · rw [← h3]; exact h4
    · simp only [if_true]
      rw [Nat.testBit_or, Bool.or_eq_true]
      rcases hi with hi | hi
      · exact Or.inl (hasB_bits.1 hP i hi)
      · exact Or.inr hi
theorem rnd_mono {rs : List Nat} {s t P Q : Nat} (hs : hasB t s = true) (hP : hasB Q P = true) : ∀ k, hasB (rnd rs t Q k) (rnd rs s P k) = true
  | 0 => hP
  | k + 1 => stepR_mono hs (rnd_mono hs hP k)
theorem itR_mono {rs : List Nat} {s t : Nat} (hs : hasB t s = true) : ∀ n, hasB (itR rs t n) (itR rs s n) = true
  | 0 => hasB_refl _
  | n + 1 => rnd_mono hs (itR_mono hs n) _
theorem joinsB_mono (q : Nat) (rs : List Nat) {s t : Nat} (hs : hasB t s = true) (h : joinsB q rs s = true) : joinsB q rs t = true := hasB_bits.1 (itR_mono hs q) _ h
theorem bit_none {P : Nat} (h : ∀ i, P.testBit i = false) : P = 0 := Nat.eq_of_testBit_eq fun i => by rw [h, Nat.zero_testBit]
theorem wholeB_all {q : Nat} {rs : List Nat} (h : RoadN q rs) (set : Nat) : wholeB q rs set = (List.range q).all fun i => (joinN q rs set).testBit i := by
  have hlt := joinN_lt h set
  unfold wholeB
  generalize joinN q rs set = P at *
  rw [Bool.eq_iff_iff, beq_iff_eq, List.all_eq_true]
  constructor
  · rintro rfl i hi
    rw [testBit_whole]; simpa using hi
  · intro ha
    refine Nat.eq_of_testBit_eq fun i => ?_
    rw [testBit_whole]
    by_cases hi : i < q
    · rw [ha i (List.mem_range.2 hi)]; simp [hi]
    · simp only [hi, decide_false]
      exact Nat.testBit_lt_two_pow (Nat.lt_of_lt_of_le hlt (Nat.pow_le_pow_right (by decide) (by omega)))

/-! ### The least of a property that more parts keep -/
/-- A set that has the property, and none does with one part less. -/
def lowB (p : Nat) (f : Nat → Bool) (s : Nat) : Bool := f s && (List.range p).all fun b => !(s.testBit b) || !(f (s - 2 ^ b))
def lowL (p : Nat) (f : Nat → Bool) : List Nat := (List.range (2 ^ p)).filter (lowB p f)
theorem low_mem {p : Nat} {f : Nat → Bool} (hp : p ≤ 20) (hm : ∀ s t, hasB t s = true → f s = true → f t = true) {s : Nat} (hs : s < 2 ^ p) :
    lowB p f s = true ↔ (f s = true ∧ ∀ x, x < 2 ^ p → f x = true → hasB s x = true → x = s) := by
  have hps := pow_small hp
  unfold lowB
  rw [Bool.and_eq_true, List.all_eq_true]
  constructor
  · rintro ⟨h1, h2⟩
    refine ⟨h1, fun x hx hf hh => ?_⟩
    refine Classical.byContradiction fun hne => ?_
    obtain ⟨b, hb1, hb2⟩ : ∃ b, s.testBit b = true ∧ x.testBit b = false := by
      refine Classical.byContradiction fun hn => hne ?_
      refine hasB_anti (hasB_bits.2 fun i hi => ?_) hh
      cases e : x.testBit i
      · exact absurd ⟨i, hi, e⟩ hn
      · rfl
    have hbp : b < p := by
      refine Classical.byContradiction fun hn => ?_
      rw [Nat.testBit_lt_two_pow (Nat.lt_of_lt_of_le hs (Nat.pow_le_pow_right (by decide) (by omega)))] at hb1
      cases hb1
    have h3 := h2 b (List.mem_range.2 hbp)
    rw [hb1] at h3
    have h4 : f (s - 2 ^ b) = true := hm x _ (hasB_bits.2 fun i hi => by
      rw [testBit_drop (by omega) hb1, hasB_bits.1 hh i hi, Bool.true_and, decide_eq_true_eq]
      rintro rfl
      rw [hb2] at hi; cases hi) hf
    rw [h4] at h3
    cases h3
  · rintro ⟨h1, h2⟩
    refine ⟨h1, fun b hb => ?_⟩
    cases e : s.testBit b
    · rfl
    · cases ef : f (s - 2 ^ b)
      · rfl
      · have h3 : hasB s (s - 2 ^ b) = true := hasB_bits.2 fun i hi => by
          rw [testBit_drop (by omega) e, Bool.and_eq_true] at hi
          exact hi.1
        have h4 := h2 _ (Nat.lt_of_le_of_lt (Nat.sub_le _ _) hs) ef h3
        have h5 := congrArg (fun z => Nat.testBit z b) h4
        simp only [testBit_drop (show s < 9223372036854775808 by omega) e, e] at h5
        simp at h5
theorem low_least {p : Nat} {f : Nat → Bool} (hp : p ≤ 20) (hm : ∀ s t, hasB t s = true → f s = true → f t = true) : leastN ((List.range (2 ^ p)).filter f) = lowL p f := by
  have hps := pow_small hp
  unfold leastN
  rw [setsOf_self (fun z hz => by rw [List.mem_filter, List.mem_range] at hz; omega) (asc_filter (asc_range _))]
  refine asc_ext (minL_asc (asc_filter (asc_range _))) (asc_filter (asc_range _)) fun s => ?_
  rw [mem_minL, lowL, List.mem_filter, List.mem_filter, List.mem_range]
  constructor
  · rintro ⟨⟨h1, h2⟩, h3⟩
    exact ⟨h1, (low_mem hp hm h1).2 ⟨h2, fun x hx hf hh => h3 x (List.mem_filter.2 ⟨List.mem_range.2 hx, hf⟩) hh⟩⟩
  · rintro ⟨h1, h2⟩
    obtain ⟨h3, h4⟩ := (low_mem hp hm h1).1 h2
    exact ⟨⟨h1, h3⟩, fun x hx hh => h4 x (List.mem_range.1 (List.mem_filter.1 hx).1) (List.mem_filter.1 hx).2 hh⟩
end Go.Proofs.Ytgmdoboeenpjpaa
