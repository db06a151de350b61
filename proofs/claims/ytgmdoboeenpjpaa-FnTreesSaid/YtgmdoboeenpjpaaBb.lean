
/- Sets of parts as numbers: what the operations on bits of 64-bit ints do to natural numbers. Plain laws. -/
import Derived.WalkKit
import Derived.Lib.SlicesCompact
namespace Go.Proofs.Ytgmdoboeenpjpaa
open Go Go.RowKit

theorem wrap_nat (n : Nat) (h : n < 9223372036854775808) : IntKind.i64.wrap (n : Int) = (n : Int) := IntWalk.i64_in _ (by omega)
theorem ofInt_nat (n : Nat) (h : n < 18446744073709551616) : (BitVec.ofInt 64 (n : Int)).toNat = n := by
  rw [BitVec.toNat_ofInt]
  have : ((2 ^ 64 : Nat) : Int) = 18446744073709551616 := by decide
  rw [this]; omega
theorem bits_and (a b : Nat) (ha : a < 9223372036854775808) (hb : b < 9223372036854775808) : bits .and .i64 (a : Int) (b : Int) = ((a &&& b : Nat) : Int) := by
  show IntKind.i64.wrap ((BitVec.ofInt 64 (a : Int) &&& BitVec.ofInt 64 (b : Int)).toNat : Int) = _
  rw [BitVec.toNat_and, ofInt_nat a (by omega), ofInt_nat b (by omega)]
  exact wrap_nat _ (Nat.lt_of_le_of_lt Nat.and_le_left ha)
theorem bits_or (a b : Nat) (ha : a < 9223372036854775808) (hb : b < 9223372036854775808) : bits .or .i64 (a : Int) (b : Int) = ((a ||| b : Nat) : Int) := by
  show IntKind.i64.wrap ((BitVec.ofInt 64 (a : Int) ||| BitVec.ofInt 64 (b : Int)).toNat : Int) = _
  rw [BitVec.toNat_or, ofInt_nat a (by omega), ofInt_nat b (by omega)]
  exact wrap_nat _ (Nat.or_lt_two_pow (n := 63) ha hb)
theorem nat_add_or (a b : Nat) (h : a &&& b = 0) : a + b = a ||| b := by
  induction a using Nat.strongRecOn generalizing b with
  | _ a ih =>
    by_cases ha : a = 0
    · subst ha; simp
    · have h1 : (a / 2) &&& (b / 2) = 0 := by rw [← Nat.and_div_two]; simp [h]
      have h2 := ih (a / 2) (by omega) (b / 2) h1
      have h3 : (a &&& b) % 2 = 0 := by rw [h]
      have h4 : ((a ||| b) / 2) = (a / 2) ||| (b / 2) := Nat.or_div_two
      have h5 : (a ||| b) % 2 = (a % 2) ||| (b % 2) := Nat.or_mod_two_pow (n := 1)
      have h6 : (a &&& b) % 2 = (a % 2) &&& (b % 2) := Nat.and_mod_two_pow (n := 1)
      rw [h3] at h6
      rcases Nat.mod_two_eq_zero_or_one a with ea | ea <;> rcases Nat.mod_two_eq_zero_or_one b with eb | eb <;> rw [ea, eb] at h5 h6 <;> (try simp only [show (0 ||| 0 : Nat) = 0 from rfl, show (0 ||| 1 : Nat) = 1 from rfl, show (1 ||| 0 : Nat) = 1 from rfl, show (1 ||| 1 : Nat) = 1 from rfl] at h5) <;> (try simp only [show (1 &&& 1 : Nat) = 1 from rfl] at h6) <;> omega
/-- a without the parts of b. -/
theorem andNot_nat (a b : Nat) (ha : a < 9223372036854775808) (hb : b < 9223372036854775808) : a &&& (18446744073709551615 - b) = a - (a &&& b) := by
  have e : (18446744073709551615 - b) = 2 ^ 64 - (b + 1) := by omega
  have h2 : (a &&& (18446744073709551615 - b)) + (a &&& b) = a := by
    have h3 : (a &&& (18446744073709551615 - b)) &&& (a &&& b) = 0 := by
      apply Nat.eq_of_testBit_eq; intro i
      rw [e]
      simp only [Nat.testBit_and, Nat.zero_testBit, Nat.testBit_two_pow_sub_succ (show b < 2 ^ 64 by omega)]
      cases a.testBit i <;> cases b.testBit i <;> simp
    have h4 : (a &&& (18446744073709551615 - b)) ||| (a &&& b) = a := by
      apply Nat.eq_of_testBit_eq; intro i
      rw [e]
      simp only [Nat.testBit_and, Nat.testBit_or, Nat.testBit_two_pow_sub_succ (show b < 2 ^ 64 by omega)]
      by_cases hi : i < 64
      · simp [hi]; cases a.testBit i <;> cases b.testBit i <;> simp
      · have : a.testBit i = false := Nat.testBit_lt_two_pow (Nat.lt_of_lt_of_le (show a < 2 ^ 64 by omega) (Nat.pow_le_pow_right (by decide) (by omega)))
        simp [this]
    rw [nat_add_or _ _ h3, h4]
  omega
theorem bits_andNot (a b : Nat) (ha : a < 9223372036854775808) (hb : b < 9223372036854775808) : bits .andNot .i64 (a : Int) (b : Int) = ((a - (a &&& b) : Nat) : Int) := by
  show IntKind.i64.wrap ((BitVec.ofInt 64 (a : Int) &&& ~~~BitVec.ofInt 64 (b : Int)).toNat : Int) = _
  rw [BitVec.toNat_and, BitVec.toNat_not, ofInt_nat a (by omega), ofInt_nat b (by omega)]
  have e : (2 ^ 64 - 1 - b) = 18446744073709551615 - b := by omega
  rw [e, andNot_nat a b ha hb]
  exact wrap_nat _ (by omega)

/-- A set has all parts of another one. -/
def hasB (set part : Nat) : Bool := part &&& set == part
theorem hasB_refl (a : Nat) : hasB a a = true := by simp [hasB]
theorem hasB_trans {a b c : Nat} (h1 : hasB a b = true) (h2 : hasB b c = true) : hasB a c = true := by
  simp only [hasB, beq_iff_eq] at *
  calc c &&& a = (c &&& b) &&& a := by rw [h2]
    _ = c &&& (b &&& a) := Nat.and_assoc _ _ _
    _ = c := by rw [h1, h2]
theorem hasB_le {a b : Nat} (h : hasB a b = true) : b ≤ a := by
  simp only [hasB, beq_iff_eq] at h
  rw [← h]; exact Nat.and_le_right
theorem hasB_anti {a b : Nat} (h1 : hasB a b = true) (h2 : hasB b a = true) : a = b := Nat.le_antisymm (hasB_le h2) (hasB_le h1)
/-- 'part &^ set == 0'. -/
theorem has_zero (set part : Nat) : (part - (part &&& set) = 0) ↔ hasB set part = true := by
  have := @Nat.and_le_left part set
  simp only [hasB, beq_iff_eq]
  omega
theorem hasB_bits {a b : Nat} : hasB a b = true ↔ ∀ i, b.testBit i = true → a.testBit i = true := by
  simp only [hasB, beq_iff_eq]
  constructor
  · intro h i hi
    have := congrArg (fun x => Nat.testBit x i) h
    simp only [Nat.testBit_and, hi, Bool.true_and] at this
    exact this
  · intro h
    apply Nat.eq_of_testBit_eq; intro i
    rw [Nat.testBit_and]
    cases hb : b.testBit i
    · rfl
    · simp [h i hb]

/-! ### The least sets of a list -/
/-- The sets none of which has all parts of another one. -/
def minL (zs : List Nat) : List Nat := zs.filter fun s => !(zs.any fun p => p != s && hasB s p)
theorem mem_minL {zs : List Nat} {s : Nat} : s ∈ minL zs ↔ s ∈ zs ∧ ∀ p ∈ zs, hasB s p = true → p = s := by
  unfold minL
  rw [List.mem_filter]
  simp only [Bool.not_eq_true', List.any_eq_false, Bool.and_eq_true, bne_iff_ne, ne_eq, not_and]
  constructor
  · rintro ⟨h1, h2⟩
    refine ⟨h1, fun p hp hh => ?_⟩
    by_cases e : p = s
    · exact e
    · exact absurd hh (h2 p hp e)
  · rintro ⟨h1, h2⟩
    exact ⟨h1, fun p hp hne hh => hne (h2 p hp hh)⟩
/-- No set has all parts of another one. -/
def anti (zs : List Nat) : Bool := zs.all fun s => !(zs.any fun p => p != s && hasB s p)
theorem minL_anti (zs : List Nat) : anti (minL zs) = true := by
  unfold anti
  rw [List.all_eq_true]
  intro s hs
  simp only [Bool.not_eq_true', List.any_eq_false, Bool.and_eq_true, bne_iff_ne, ne_eq, not_and]
  intro p hp hne hh
  exact hne ((mem_minL.1 hs).2 p (mem_minL.1 hp).1 hh)
theorem minL_of_anti {zs : List Nat} (h : anti zs = true) : minL zs = zs := by
  unfold minL
  exact List.filter_eq_self.2 (List.all_eq_true.1 h)
theorem minL_eq_self {zs : List Nat} : minL zs = zs ↔ anti zs = true := by
  constructor
  · intro h; rw [← h]; exact minL_anti zs
  · exact minL_of_anti
/-- Below every set of a list lies one of the least ones. -/
theorem minL_below {zs : List Nat} : ∀ {s : Nat}, s ∈ zs → ∃ p ∈ minL zs, hasB s p = true := by
  intro s
  induction s using Nat.strongRecOn with
  | _ s ih =>
    intro hs
    by_cases h : ∀ p ∈ zs, hasB s p = true → p = s
    · exact ⟨s, mem_minL.2 ⟨hs, h⟩, hasB_refl s⟩
    · obtain ⟨p, h⟩ := Classical.not_forall.1 h
      simp only [Classical.not_imp] at h
      obtain ⟨hp, hh, hne⟩ := h
      have hlt : p < s := by have := hasB_le hh; omega
      obtain ⟨q, hq, hq2⟩ := ih p hlt hp
      exact ⟨q, hq, hasB_trans hh hq2⟩

/-- Strictly ascending. -/
def asc : List Nat → Bool
  | [] => true
  | [_] => true
  | a :: b :: l => decide (a < b) && asc (b :: l)
theorem asc_iff {zs : List Nat} : asc zs = true ↔ zs.Pairwise (· < ·) := by
  induction zs with
  | nil => simp [asc]
  | cons a l ih =>
    cases l with
    | nil => simp [asc]
    | cons b l =>
      rw [asc, Bool.and_eq_true, decide_eq_true_eq, ih, List.pairwise_cons (a := a)]
      constructor
      · rintro ⟨h1, h2⟩
        refine ⟨fun x hx => ?_, h2⟩
        rcases List.mem_cons.1 hx with rfl | hx
        · exact h1
        · have := (List.pairwise_cons.1 h2).1 x hx; omega
      · rintro ⟨h1, h2⟩
        exact ⟨h1 b (by simp), h2⟩
/-- Two strictly ascending lists of the same sets are the same. -/
theorem asc_ext : ∀ {xs ys : List Nat}, xs.Pairwise (· < ·) → ys.Pairwise (· < ·) → (∀ x, x ∈ xs ↔ x ∈ ys) → xs = ys
  | [], [], _, _, _ => rfl
  | [], y :: ys, _, _, h => by have := (h y).2 (by simp); simp at this
  | x :: xs, [], _, _, h => by have := (h x).1 (by simp); simp at this
  | x :: xs, y :: ys, hx, hy, h => by
    obtain ⟨hx1, hx2⟩ := List.pairwise_cons.1 hx
    obtain ⟨hy1, hy2⟩ := List.pairwise_cons.1 hy
    have e : x = y := by
      rcases List.mem_cons.1 ((h x).1 (by simp)) with e | h1
      · exact e
      · rcases List.mem_cons.1 ((h y).2 (by simp)) with e | h2
        · exact e.symm
        · have := hx1 y h2; have := hy1 x h1; omega
    subst e
    rw [asc_ext hx2 hy2 fun z => ?_]
    constructor
    · intro hz
      rcases List.mem_cons.1 ((h z).1 (by simp [hz])) with e | h2
      · subst e; have := hx1 z hz; omega
      · exact h2
    · intro hz
      rcases List.mem_cons.1 ((h z).2 (by simp [hz])) with e | h2
      · subst e; have := hy1 z hz; omega
      · exact h2
theorem asc_range (n : Nat) : (List.range n).Pairwise (· < ·) := List.pairwise_lt_range
theorem asc_filter {zs : List Nat} {p : Nat → Bool} (h : zs.Pairwise (· < ·)) : (zs.filter p).Pairwise (· < ·) := h.filter p
theorem minL_asc {zs : List Nat} (h : zs.Pairwise (· < ·)) : (minL zs).Pairwise (· < ·) := asc_filter h
/-- The sets of a list, ascending, each once (below a bound). -/
def setsOf (N : Nat) (zs : List Nat) : List Nat := (List.range N).filter fun s => zs.contains s
theorem setsOf_asc (N : Nat) (zs : List Nat) : (setsOf N zs).Pairwise (· < ·) := asc_filter (asc_range N)
theorem mem_setsOf {N : Nat} {zs : List Nat} {s : Nat} (hb : ∀ z ∈ zs, z < N) : s ∈ setsOf N zs ↔ s ∈ zs := by
  unfold setsOf
  rw [List.mem_filter, List.mem_range, List.contains_iff_mem]
  exact ⟨fun h => h.2, fun h => ⟨hb s h, h⟩⟩
theorem setsOf_self {N : Nat} {zs : List Nat} (hb : ∀ z ∈ zs, z < N) (ha : zs.Pairwise (· < ·)) : setsOf N zs = zs := asc_ext (setsOf_asc _ _) ha fun _ => mem_setsOf hb
end Go.Proofs.Ytgmdoboeenpjpaa
/- Systems as lists of numbers: when they work, their cuts. Plain laws. -/
namespace Go.Proofs.Ytgmdoboeenpjpaa
open Go Go.RowKit

/-- A set without the parts of another one. -/
theorem testBit_wo (a c : Nat) (ha : a < 9223372036854775808) (hc : c < 9223372036854775808) (i : Nat) : (a - (a &&& c)).testBit i = (a.testBit i && !c.testBit i) := by
  rw [← andNot_nat a c ha hc]
  have e : (18446744073709551615 - c) = 2 ^ 64 - (c + 1) := by omega
  rw [e]
  simp only [Nat.testBit_and, Nat.testBit_two_pow_sub_succ (show c < 2 ^ 64 by omega)]
  by_cases hi : i < 64
  · simp [hi]
  · have : a.testBit i = false := Nat.testBit_lt_two_pow (Nat.lt_of_lt_of_le (show a < 2 ^ 64 by omega) (Nat.pow_le_pow_right (by decide) (by omega)))
    simp [this]
theorem testBit_whole (p i : Nat) : (2 ^ p - 1).testBit i = decide (i < p) := by
  rw [Nat.testBit_two_pow_sub_one]
theorem and_whole {p s : Nat} (hs : s < 2 ^ p) : (2 ^ p - 1) &&& s = s := by
  rw [Nat.and_comm, Nat.and_two_pow_sub_one_eq_mod, Nat.mod_eq_of_lt hs]
theorem pow_small {p : Nat} (hp : p ≤ 20) : 2 ^ p ≤ 1048576 := Nat.pow_le_pow_right (show 0 < 2 by decide) hp
theorem testBit_compl {p s : Nat} (hp : p ≤ 20) (hs : s < 2 ^ p) (i : Nat) : (2 ^ p - 1 - s).testBit i = (decide (i < p) && !s.testBit i) := by
  have h := pow_small hp
  have h1 := testBit_wo (2 ^ p - 1) s (by omega) (by omega) i
  rw [and_whole hs, testBit_whole] at h1
  exact h1
theorem testBit_drop {s b : Nat} (hs : s < 9223372036854775808) (hb : s.testBit b = true) (i : Nat) : (s - 2 ^ b).testBit i = (s.testBit i && decide (i ≠ b)) := by
  have h2 : 2 ^ b ≤ s := Nat.ge_two_pow_of_testBit hb
  have h1 := testBit_wo s (2 ^ b) hs (by omega) i
  have e : s &&& 2 ^ b = 2 ^ b := by
    apply Nat.eq_of_testBit_eq; intro j
    rw [Nat.testBit_and, Nat.testBit_two_pow]
    by_cases hj : b = j
    · subst hj; simp [hb]
    · simp [hj]
  rw [e, Nat.testBit_two_pow] at h1
  rw [h1]
  by_cases h : i = b
  · subst h; simp
  · have : ¬ b = i := fun e => h e.symm
    simp [h, this]

/-- A system works with a set that has one of its paths. -/
def worksB (ns : List Nat) (s : Nat) : Bool := ns.any fun q => hasB s q
theorem worksB_iff {ns : List Nat} {s : Nat} : worksB ns s = true ↔ ∃ q ∈ ns, hasB s q = true := by simp [worksB]
theorem worksB_mono {ns : List Nat} {s t : Nat} (h : hasB t s = true) (hw : worksB ns s = true) : worksB ns t = true := by
  obtain ⟨q, hq, h2⟩ := worksB_iff.1 hw
  exact worksB_iff.2 ⟨q, hq, hasB_trans h h2⟩

def cutB (p : Nat) (ns : List Nat) (s : Nat) : Bool := !worksB ns (2 ^ p - 1 - s)
/-- The cuts, as the program finds them. -/
def cutsI (p : Nat) (ns : List Nat) : List Nat := minL ((List.range (2 ^ p)).filter (cutB p ns))
/-- A set is a cut, and no set with one part less is. -/
def cutS (p : Nat) (ns : List Nat) (s : Nat) : Bool := cutB p ns s && (List.range p).all fun b => !(s.testBit b) || worksB ns (2 ^ p - 1 - (s - 2 ^ b))
/-- The cuts, as the reference finds them. -/
def cutsS (p : Nat) (ns : List Nat) : List Nat := (List.range (2 ^ p)).filter fun s => decide (1 ≤ s) && cutS p ns s

theorem cuts_same {p : Nat} {ns : List Nat} (hp : p ≤ 20) (hw : worksB ns (2 ^ p - 1) = true) : cutsI p ns = cutsS p ns := by
  have hP := pow_small hp
  refine asc_ext (minL_asc (asc_filter (asc_range _))) (asc_filter (asc_range _)) fun s => ?_
  rw [cutsI, cutsS, mem_minL, List.mem_filter, List.mem_filter, List.mem_range]
  simp only [cutS, Bool.and_eq_true, decide_eq_true_eq, List.all_eq_true, List.mem_range, Bool.or_eq_true, Bool.not_eq_true']
  constructor
  · rintro ⟨⟨h1, h2⟩, h3⟩
    refine ⟨h1, ?_, h2, fun b hb => ?_⟩
    · rcases Nat.eq_zero_or_pos s with e | h
      · subst e
        simp [cutB, hw] at h2
      · exact h
    · cases hs : s.testBit b with
      | false => exact .inl rfl
      | true =>
        right
        have hle : 2 ^ b ≤ s := Nat.ge_two_pow_of_testBit hs
        have hpos : 0 < 2 ^ b := Nat.pow_pos (by decide)
        cases hq : worksB ns (2 ^ p - 1 - (s - 2 ^ b)) with
        | true => rfl
        | false =>
          have := h3 (s - 2 ^ b) (List.mem_filter.2 ⟨List.mem_range.2 (by omega), by simp [cutB, hq]⟩) (hasB_bits.2 fun i hi => by
            rw [testBit_drop (by omega) hs, Bool.and_eq_true] at hi; exact hi.1)
          omega
  · rintro ⟨h1, h2, h3, h4⟩
    refine ⟨⟨h1, h3⟩, fun q hq hh => ?_⟩
    rw [List.mem_filter, List.mem_range] at hq
    by_cases hne : q = s
    · exact hne
    exfalso
    have hx : ∃ b, s.testBit b = true ∧ q.testBit b = false := by
      apply Classical.byContradiction
      intro hno
      apply hne
      refine hasB_anti (hasB_bits.2 fun i hi => ?_) hh
      cases hqb : q.testBit i with
      | true => rfl
      | false => exact absurd ⟨i, hi, hqb⟩ hno
    obtain ⟨b, hb1, hb2⟩ := hx
    have hle : 2 ^ b ≤ s := Nat.ge_two_pow_of_testBit hb1
    have hpos : 0 < 2 ^ b := Nat.pow_pos (by decide)
    have hbp : b < p := by
      rcases Nat.lt_or_ge b p with h | h
      · exact h
      · have := Nat.pow_le_pow_right (show 0 < 2 by decide) h; omega
    rcases h4 b hbp with h5 | h5
    · rw [hb1] at h5; cases h5
    · have h6 : worksB ns (2 ^ p - 1 - q) = true := by
        refine worksB_mono (hasB_bits.2 fun i hi => ?_) h5
        rw [testBit_compl hp (by omega), testBit_drop (by omega) hb1] at hi
        rw [testBit_compl hp hq.1]
        simp only [Bool.and_eq_true, Bool.not_eq_true', Bool.and_eq_false_iff, decide_eq_true_eq, decide_eq_false_iff_not, ne_eq, Decidable.not_not] at hi ⊢
        refine ⟨hi.1, ?_⟩
        rcases hi.2 with h7 | h7
        · cases h8 : q.testBit i with
          | false => rfl
          | true => rw [hasB_bits.1 hh i h8] at h7; cases h7
        · subst h7; exact hb2
      have h7 := hq.2
      simp [cutB, h6] at h7

/-! ### Valid systems -/
/-- What a valid system is, of sets that are natural numbers. -/
def sysN (p : Nat) (ns : List Nat) : Bool := asc ns && anti ns
theorem contains_iff {zs : List Nat} {s : Nat} : zs.contains s = true ↔ s ∈ zs := by simp
/-- The program asks whether a list is its own least sets. -/
theorem least_self {N : Nat} {ns : List Nat} (hb : ∀ z ∈ ns, z < N) : ns = minL (setsOf N ns) ↔ (asc ns && anti ns) = true := by
  rw [Bool.and_eq_true]
  constructor
  · intro h
    have ha : ns.Pairwise (· < ·) := by rw [h]; exact minL_asc (setsOf_asc _ _)
    have h2 : setsOf N ns = ns := setsOf_self hb ha
    rw [h2] at h
    exact ⟨asc_iff.2 ha, minL_eq_self.1 h.symm⟩
  · rintro ⟨h1, h2⟩
    rw [setsOf_self hb (asc_iff.1 h1), minL_of_anti h2]
/-- The least sets of a list, as the reference finds them. -/
def leastS (zs : List Nat) : List Nat := (List.range 1024).filter fun s => decide (1 ≤ s) && zs.contains s && zs.all fun p => !(p != s && hasB s p)
theorem least_same {N : Nat} {zs : List Nat} (hb : ∀ z ∈ zs, z < N) (h1 : ∀ z ∈ zs, 1 ≤ z ∧ z < 1024) : minL (setsOf N zs) = leastS zs := by
  refine asc_ext (minL_asc (setsOf_asc _ _)) (asc_filter (asc_range _)) fun s => ?_
  rw [mem_minL, mem_setsOf hb, leastS, List.mem_filter, List.mem_range]
  simp only [Bool.and_eq_true, decide_eq_true_eq, contains_iff, List.all_eq_true, Bool.not_eq_true', Bool.and_eq_false_iff, bne_eq_false_iff_eq]
  constructor
  · rintro ⟨h2, h3⟩
    refine ⟨(h1 s h2).2, ⟨(h1 s h2).1, h2⟩, fun p hp => ?_⟩
    cases hh : hasB s p with
    | false => exact .inr rfl
    | true => exact .inl (h3 p ((mem_setsOf hb).2 hp) hh)
  · rintro ⟨h2, ⟨h3, h4⟩, h5⟩
    refine ⟨h4, fun p hp hh => ?_⟩
    rcases h5 p ((mem_setsOf hb).1 hp) with h | h
    · exact h
    · rw [hh] at h; cases h
/-- A list that ascends strictly, of sets none of which has all parts of another one: pair by pair, as the reference looks at it. -/
def pairOk (ns : List Nat) (i : Nat) : Bool := (decide (i = 0) || decide (ns.getD (i - 1) 0 < ns.getD i 0)) && (List.range i).all fun k => !(hasB (ns.getD i 0) (ns.getD k 0)) && !(hasB (ns.getD k 0) (ns.getD i 0))
theorem asc_getD {ns : List Nat} : ns.Pairwise (· < ·) ↔ ∀ i, i + 1 < ns.length → ns.getD i 0 < ns.getD (i + 1) 0 := by
  induction ns with
  | nil => simp
  | cons a l ih =>
    cases l with
    | nil => simp
    | cons b l =>
      rw [← asc_iff, asc, Bool.and_eq_true, decide_eq_true_eq, asc_iff, ih]
      constructor
      · rintro ⟨h1, h2⟩ i hi
        cases i with
        | zero => simpa using h1
        | succ i => simpa using h2 i (by simpa using hi)
      · intro h
        refine ⟨by simpa using h 0 (by simp), fun i hi => by simpa using h (i + 1) (by simpa using hi)⟩
theorem pair_all {ns : List Nat} : (asc ns && anti ns) = (List.range ns.length).all (pairOk ns) := by
  rw [Bool.eq_iff_iff, Bool.and_eq_true, List.all_eq_true, asc_iff]
  simp only [List.mem_range, pairOk, Bool.and_eq_true, Bool.or_eq_true, decide_eq_true_eq, List.all_eq_true, Bool.not_eq_true']
  constructor
  · rintro ⟨h1, h2⟩ i hi
    have hg : ∀ k, k < ns.length → ns.getD k 0 ∈ ns := fun k hk => by simp [hk]
    have hmono : ∀ k, k < i → ns.getD k 0 < ns.getD i 0 := fun k hk => by
      have := List.pairwise_iff_getElem.1 h1 k i (by omega) hi hk
      simpa [hi, show k < ns.length by omega] using this
    have hno : ∀ a ∈ ns, ∀ b ∈ ns, hasB a b = true → b = a := by
      intro a ha b hb hab
      have := List.all_eq_true.1 h2 a ha
      simp only [Bool.not_eq_true', List.any_eq_false, Bool.and_eq_true, bne_iff_ne, ne_eq, not_and] at this
      apply Classical.byContradiction
      intro hne
      exact this b hb hne hab
    refine ⟨?_, fun k hk => ?_⟩
    · rcases Nat.eq_zero_or_pos i with e | h
      · exact .inl e
      · exact .inr (hmono (i - 1) (by omega))
    · have hlt := hmono k hk
      have hkn : k < ns.length := by omega
      constructor
      · cases hh : hasB (ns.getD i 0) (ns.getD k 0) with
        | false => rfl
        | true => have := hno _ (hg i hi) _ (hg k hkn) hh; omega
      · cases hh : hasB (ns.getD k 0) (ns.getD i 0) with
        | false => rfl
        | true => have := hno _ (hg k hkn) _ (hg i hi) hh; omega
  · intro h
    have ha : ns.Pairwise (· < ·) := asc_getD.2 fun i hi => by
      have := (h (i + 1) hi).1
      rcases this with e | h2
      · omega
      · simpa using h2
    refine ⟨ha, ?_⟩
    unfold anti
    rw [List.all_eq_true]
    intro s hs
    simp only [Bool.not_eq_true', List.any_eq_false, Bool.and_eq_true, bne_iff_ne, ne_eq, not_and]
    intro q hq hne hh
    obtain ⟨i, hi, rfl⟩ := List.getElem_of_mem hs
    obtain ⟨k, hk, rfl⟩ := List.getElem_of_mem hq
    rcases Nat.lt_trichotomy i k with h3 | h3 | h3
    · have := ((h k hk).2 i h3).2
      simp only [List.getD_eq_getElem?_getD, List.getElem?_eq_getElem hk, List.getElem?_eq_getElem hi, Option.getD_some] at this
      rw [hh] at this; cases this
    · subst h3; exact hne rfl
    · have := ((h i hi).2 k h3).1
      simp only [List.getD_eq_getElem?_getD, List.getElem?_eq_getElem hk, List.getElem?_eq_getElem hi, Option.getD_some] at this
      rw [hh] at this; cases this
end Go.Proofs.Ytgmdoboeenpjpaa
/- A list sorted and freed of what stands twice: the sets of the list, ascending. Plain laws. -/
namespace Go.Proofs.Ytgmdoboeenpjpaa
open Go Go.RowKit

theorem asc_extI : ∀ {xs ys : List Int}, xs.Pairwise (· < ·) → ys.Pairwise (· < ·) → (∀ x, x ∈ xs ↔ x ∈ ys) → xs = ys
  | [], [], _, _, _ => rfl
  | [], y :: ys, _, _, h => by have := (h y).2 (by simp); simp at this
  | x :: xs, [], _, _, h => by have := (h x).1 (by simp); simp at this
  | x :: xs, y :: ys, hx, hy, h => by
    obtain ⟨hx1, hx2⟩ := List.pairwise_cons.1 hx
    obtain ⟨hy1, hy2⟩ := List.pairwise_cons.1 hy
    have e : x = y := by
      rcases List.mem_cons.1 ((h x).1 (by simp)) with e | h1
      · exact e
      · rcases List.mem_cons.1 ((h y).2 (by simp)) with e | h2
        · exact e.symm
        · have := hx1 y h2; have := hy1 x h1; omega
    subst e
    rw [asc_extI hx2 hy2 fun z => ?_]
    constructor
    · intro hz
      rcases List.mem_cons.1 ((h z).1 (by simp [hz])) with e | h2
      · subst e; have := hx1 z hz; omega
      · exact h2
    · intro hz
      rcases List.mem_cons.1 ((h z).2 (by simp [hz])) with e | h2
      · subst e; have := hy1 z hz; omega
      · exact h2

theorem compact_upto (d : Array Int) (hs : ∀ i j, i ≤ j → j < d.size → d[i]! ≤ d[j]!) : ∀ m, m ≤ d.size → (Lib.compactUpTo d m).Pairwise (· < ·) ∧ (∀ x ∈ Lib.compactUpTo d m, ∃ j, j < m ∧ d[j]! = x) ∧ (∀ j, j < m → d[j]! ∈ Lib.compactUpTo d m)
  | 0, _ => by simp [Lib.compactUpTo]
  | m + 1, hm => by
    obtain ⟨h1, h2, h3⟩ := compact_upto d hs m (by omega)
    rw [Lib.compactUpTo_succ]
    cases hk : Lib.keeps d m with
    | true =>
      simp only [if_true]
      refine ⟨List.pairwise_append.2 ⟨h1, List.pairwise_singleton _ _, fun x hx y hy => ?_⟩, fun x hx => ?_, fun j hj => ?_⟩
      · obtain ⟨j, hj, rfl⟩ := h2 x hx
        obtain rfl := List.mem_singleton.1 hy
        simp only [Lib.keeps, decide_eq_true_eq] at hk
        rcases hk with e | hk
        · omega
        · have a := hs j (m - 1) (by omega) (by omega)
          have b := hs (m - 1) m (by omega) (by omega)
          omega
      · rcases List.mem_append.1 hx with h | h
        · obtain ⟨j, hj, e⟩ := h2 x h; exact ⟨j, by omega, e⟩
        · obtain rfl := List.mem_singleton.1 h; exact ⟨m, by omega, rfl⟩
      · by_cases e : j = m
        · subst e; exact List.mem_append_right _ (by simp)
        · exact List.mem_append_left _ (h3 j (by omega))
    | false =>
      simp only [Bool.false_eq_true, if_false, List.append_nil]
      refine ⟨h1, fun x hx => ?_, fun j hj => ?_⟩
      · obtain ⟨j, hj, e⟩ := h2 x hx; exact ⟨j, by omega, e⟩
      · by_cases e : j = m
        · subst e
          simp only [Lib.keeps, decide_eq_false_iff_not, not_or, ne_eq, Decidable.not_not] at hk
          rw [hk.2]
          exact h3 (j - 1) (by omega)
        · exact h3 j (by omega)

theorem compact_sorted (zs : List Int) : (Lib.compact (zs.mergeSort fun x y => decide (x ≤ y))).Pairwise (· < ·) ∧ ∀ x, x ∈ Lib.compact (zs.mergeSort fun x y => decide (x ≤ y)) ↔ x ∈ zs := by
  have hp : (zs.mergeSort fun x y => decide (x ≤ y)).Pairwise (fun a b => decide (a ≤ b) = true) :=
    List.pairwise_mergeSort (fun a b c h1 h2 => by simp only [decide_eq_true_eq] at *; omega) (fun a b => by simp only [Bool.or_eq_true, decide_eq_true_eq]; omega) zs
  have hm : ∀ x, x ∈ (zs.mergeSort fun x y => decide (x ≤ y)) ↔ x ∈ zs := fun x => List.mem_mergeSort
  generalize (zs.mergeSort fun x y => decide (x ≤ y)) = ys at *
  have hs : ∀ i j, i ≤ j → j < ys.toArray.size → ys.toArray[i]! ≤ ys.toArray[j]! := by
    intro i j hij hj
    have hj' : j < ys.length := by simpa using hj
    rw [getElem!_pos ys.toArray i (by simp; omega), getElem!_pos ys.toArray j (by simpa using hj)]
    simp only [List.getElem_toArray]
    rcases Nat.lt_or_ge i j with h | h
    · have := List.pairwise_iff_getElem.1 hp i j (by omega) hj' h
      simpa using this
    · have : i = j := by omega
      subst this; exact Int.le_refl _
  obtain ⟨h1, h2, h3⟩ := compact_upto ys.toArray hs ys.length (by simp)
  refine ⟨h1, fun x => ?_⟩
  rw [← hm x]
  constructor
  · intro hx
    obtain ⟨j, hj, rfl⟩ := h2 x hx
    rw [getElem!_pos ys.toArray j (by simpa using hj)]
    simp
  · intro hx
    obtain ⟨j, hj, rfl⟩ := List.getElem_of_mem hx
    have := h3 j hj
    rw [getElem!_pos ys.toArray j (by simpa using hj)] at this
    simp at this
    exact this

def ups (ns : List Nat) : List Int := ns.map fun (n : Nat) => (n : Int)
theorem ups_len (ns : List Nat) : (ups ns).length = ns.length := by simp [ups]
theorem mem_ups {ns : List Nat} {x : Int} : x ∈ ups ns ↔ ∃ n ∈ ns, (n : Int) = x := by simp [ups]
theorem ups_lt {ns : List Nat} (h : ns.Pairwise (· < ·)) : (ups ns).Pairwise (· < ·) := by
  unfold ups
  rw [List.pairwise_map]
  exact h.imp fun h => by omega
theorem compact_ups {N : Nat} {ns : List Nat} (hb : ∀ z ∈ ns, z < N) : Lib.compact ((ups ns).mergeSort fun x y => decide (x ≤ y)) = ups (setsOf N ns) := by
  obtain ⟨h1, h2⟩ := compact_sorted (ups ns)
  refine asc_extI h1 (ups_lt (setsOf_asc _ _)) fun x => ?_
  rw [h2, mem_ups, mem_ups]
  exact ⟨fun ⟨n, hn, e⟩ => ⟨n, (mem_setsOf hb).2 hn, e⟩, fun ⟨n, hn, e⟩ => ⟨n, (mem_setsOf hb).1 hn, e⟩⟩
/-- A set of ints has all parts of another one: 'part &^ set == 0'. -/
def hasI (set part : Int) : Bool := bits .andNot .i64 part set == 0
theorem hasI_nat {a b : Nat} (ha : a < 9223372036854775808) (hb : b < 9223372036854775808) : hasI a b = hasB a b := by
  unfold hasI
  rw [bits_andNot b a hb ha, Bool.eq_iff_iff, ← has_zero]
  simp
/-- What 'least' leaves out: sets that have all parts of another one of the list. -/
def aboveI (cs : List Int) (s : Int) : Bool := cs.any fun p => p != s && hasI s p
theorem least_ups {cs : List Nat} (hb : ∀ z ∈ cs, z < 9223372036854775808) : (ups cs).filter (fun x => !aboveI (ups cs) x) = ups (minL cs) := by
  unfold minL ups
  rw [List.filter_map]
  congr 1
  apply List.filter_congr
  intro s hs
  have hs' := hb s hs
  simp only [Function.comp, aboveI]
  congr 1
  rw [List.any_map, Bool.eq_iff_iff, List.any_eq_true, List.any_eq_true]
  constructor
  · rintro ⟨q, hq, h⟩
    simp only [Function.comp, Bool.and_eq_true, bne_iff_ne, ne_eq, Int.natCast_inj] at h
    exact ⟨q, hq, by rw [← hasI_nat hs' (hb q hq)]; simp [h.1, h.2]⟩
  · rintro ⟨q, hq, h⟩
    simp only [Bool.and_eq_true, bne_iff_ne, ne_eq] at h
    exact ⟨q, hq, by simp only [Function.comp, Bool.and_eq_true, bne_iff_ne, ne_eq, Int.natCast_inj]; exact ⟨h.1, by rw [hasI_nat hs' (hb q hq)]; exact h.2⟩⟩
end Go.Proofs.Ytgmdoboeenpjpaa
/- How many parts a set has; sets of so many parts. Plain laws. -/
namespace Go.Proofs.Ytgmdoboeenpjpaa
open Go Go.RowKit

/-- How many parts a set has (of at most k). -/
def popF : Nat → Nat → Nat
  | 0, _ => 0
  | k + 1, s => s % 2 + popF k (s / 2)
theorem popF_zero : ∀ k, popF k 0 = 0
  | 0 => rfl
  | k + 1 => by simp [popF, popF_zero k]
theorem popF_more : ∀ (k m s : Nat), s < 2 ^ k → k ≤ m → popF m s = popF k s
  | 0, m, s, hs, _ => by
    have : s = 0 := by simpa using hs
    subst this; rw [popF_zero, popF_zero]
  | k + 1, m, s, hs, hm => by
    obtain ⟨m', rfl⟩ : ∃ m', m = m' + 1 := ⟨m - 1, by omega⟩
    have hp : 2 ^ (k + 1) = 2 * 2 ^ k := by rw [Nat.pow_succ, Nat.mul_comm]
    rw [popF, popF, popF_more k m' (s / 2) (by omega) (by omega)]
theorem popF_le : ∀ (k a b : Nat), hasB a b = true → popF k b ≤ popF k a
  | 0, _, _, _ => Nat.le_refl _
  | k + 1, a, b, h => by
    have h1 : hasB (a / 2) (b / 2) = true := hasB_bits.2 fun i hi => by
      rw [← Nat.testBit_succ] at hi ⊢; exact hasB_bits.1 h _ hi
    have h2 : b % 2 ≤ a % 2 := by
      have := hasB_bits.1 h 0
      simp only [Nat.testBit_zero, decide_eq_true_eq] at this
      omega
    have := popF_le k _ _ h1
    rw [popF, popF]; omega
theorem popF_eq : ∀ (k a b : Nat), a < 2 ^ k → b < 2 ^ k → hasB a b = true → popF k b = popF k a → b = a
  | 0, a, b, ha, hb, _, _ => by
    have h1 : a = 0 := by simpa using ha
    have h2 : b = 0 := by simpa using hb
    omega
  | k + 1, a, b, ha, hb, h, he => by
    have hp : 2 ^ (k + 1) = 2 * 2 ^ k := by rw [Nat.pow_succ, Nat.mul_comm]
    have h1 : hasB (a / 2) (b / 2) = true := hasB_bits.2 fun i hi => by
      rw [← Nat.testBit_succ] at hi ⊢; exact hasB_bits.1 h _ hi
    have h2 : b % 2 ≤ a % 2 := by
      have := hasB_bits.1 h 0
      simp only [Nat.testBit_zero, decide_eq_true_eq] at this
      omega
    have h3 := popF_le k _ _ h1
    rw [popF, popF] at he
    have := popF_eq k (a / 2) (b / 2) (by omega) (by omega) h1 (by omega)
    omega
def pop (s : Nat) : Nat := popF 64 s
theorem pop_zero : pop 0 = 0 := popF_zero 64
theorem pop_half (s : Nat) (hs : s < 18446744073709551616) : pop s = s % 2 + pop (s / 2) := by
  have h0 : (2 : Nat) ^ 63 = 9223372036854775808 := by decide
  have h : popF 64 (s / 2) = popF 63 (s / 2) := popF_more 63 64 (s / 2) (by omega) (by decide)
  show popF (63 + 1) s = _
  rw [popF]
  show _ = s % 2 + popF 64 (s / 2)
  rw [h]
theorem pop_le (s k : Nat) (hs : s < 2 ^ k) (hk : k ≤ 64) : pop s ≤ k := by
  have : ∀ k s, popF k s ≤ k := by
    intro k
    induction k with
    | zero => intro s; exact Nat.le_refl _
    | succ k ih => intro s; rw [popF]; have := ih (s / 2); omega
  unfold pop
  rw [popF_more k 64 s hs hk]
  exact this k s

/-- The sets of so many parts, ascending. -/
def voteL (p v : Nat) : List Nat := (List.range (2 ^ p)).filter fun s => decide (pop s = v)
theorem voteL_asc (p v : Nat) : (voteL p v).Pairwise (· < ·) := asc_filter (asc_range _)
theorem voteL_anti {p v : Nat} (hp : p ≤ 20) : anti (voteL p v) = true := by
  unfold anti
  rw [List.all_eq_true]
  intro s hs
  simp only [Bool.not_eq_true', List.any_eq_false, Bool.and_eq_true, bne_iff_ne, ne_eq, not_and]
  intro q hq hne hh
  rw [voteL, List.mem_filter, List.mem_range, decide_eq_true_eq] at hs hq
  have h64 : 2 ^ p ≤ 2 ^ 64 := Nat.pow_le_pow_right (by decide) (by omega)
  exact hne (popF_eq 64 s q (by omega) (by omega) hh (by show pop q = pop s; rw [hs.2, hq.2]))
theorem vote_same {p v : Nat} (hp : p ≤ 20) {N : Nat} (hN : 2 ^ p ≤ N) : minL (setsOf N (voteL p v)) = voteL p v := by
  rw [setsOf_self (fun z hz => by rw [voteL, List.mem_filter, List.mem_range] at hz; omega) (voteL_asc p v), minL_of_anti (voteL_anti hp)]
theorem or_bit {s b : Nat} (h : s.testBit b = false) : s ||| 2 ^ b = s + 2 ^ b := by
  refine (nat_add_or _ _ ?_).symm
  apply Nat.eq_of_testBit_eq; intro i
  rw [Nat.testBit_and, Nat.testBit_two_pow, Nat.zero_testBit]
  by_cases hi : b = i
  · subst hi; simp [h]
  · simp [hi]
end Go.Proofs.Ytgmdoboeenpjpaa
