
/- Sets of parts as numbers: what the operations on bits of 64-bit ints do to natural numbers. Plain laws. -/
import Derived.WalkKit
namespace Go.Proofs.Ytepgkhcfeaklmaa
open Go Go.RowKit

theorem wrap_nat (n : Nat) (h : n < 9223372036854775808) : IntKind.i64.wrap (n : Int) = (n : Int) := IntWalk.i64_in _ (by omega)
theorem ofInt_nat (n : Nat) (h : n < 18446744073709551616) : (BitVec.ofInt 64 (n : Int)).toNat = n := by
  rw [BitVec.toNat_ofInt]
  have : ((2 ^ 64 : Nat) : Int) = 18446744073709551616 := by decide
  rw [this]; omega
theorem bits_and (a b : Nat) (ha : a < 9223372036854775808) (hb : b < 9223372036854775808) : bits .and .i64 (a : Int) (b : Int) = ((a &&& b : Nat) : Int) := by
  show IntKind.i64.wrap ((BitVec.ofInt 64 (a : Int) &&& BitVec.ofInt 64 (b : Int)).toNat : Int) = _
  rw [BitVec.toNat_and, ofInt_nat a (by omega), ofInt_nat b (by omega)]
  exact wrap_nat _ (Nat.lt_of_le_of_lt Nat.and_le_left ha)
theorem bits_or (a b : Nat) (ha : a < 9223372036854775808) (hb : b < 9223372036854775808) : bits .or .i64 (a : Int) (b : Int) = ((a ||| b : Nat) : Int) := by
  show IntKind.i64.wrap ((BitVec.ofInt 64 (a : Int) ||| BitVec.ofInt 64 (b : Int)).toNat : Int) = _
  rw [BitVec.toNat_or, ofInt_nat a (by omega), ofInt_nat b (by omega)]
  exact wrap_nat _ (Nat.or_lt_two_pow (n := 63) ha hb)
theorem nat_add_or (a b : Nat) (h : a &&& b = 0) : a + b = a ||| b := by
  induction a using Nat.strongRecOn generalizing b with
  | _ a ih =>
    by_cases ha : a = 0
    · subst ha; simp
    · have h1 : (a / 2) &&& (b / 2) = 0 := by rw [← Nat.and_div_two]; simp [h]
      have h2 := ih (a / 2) (by omega) (b / 2) h1
      have h3 : (a &&& b) % 2 = 0 := by rw [h]
      have h4 : ((a ||| b) / 2) = (a / 2) ||| (b / 2) := Nat.or_div_two
      have h5 : (a ||| b) % 2 = (a % 2) ||| (b % 2) := Nat.or_mod_two_pow (n := 1)
      have h6 : (a &&& b) % 2 = (a % 2) &&& (b % 2) := Nat.and_mod_two_pow (n := 1)
      rw [h3] at h6
      rcases Nat.mod_two_eq_zero_or_one a with ea | ea <;> rcases Nat.mod_two_eq_zero_or_one b with eb | eb <;> rw [ea, eb] at h5 h6 <;> (try simp only [show (0 ||| 0 : Nat) = 0 from rfl, show (0 ||| 1 : Nat) = 1 from rfl, show (1 ||| 0 : Nat) = 1 from rfl, show (1 ||| 1 : Nat) = 1 from rfl] at h5) <;> (try simp only [show (1 &&& 1 : Nat) = 1 from rfl] at h6) <;> omega
/-- a without the parts of b. -/
theorem andNot_nat (a b : Nat) (ha : a < 9223372036854775808) (hb : b < 9223372036854775808) : a &&& (18446744073709551615 - b) = a - (a &&& b) := by
  have e : (18446744073709551615 - b) = 2 ^ 64 - (b + 1) := by omega
  have h2 : (a &&& (18446744073709551615 - b)) + (a &&& b) = a := by
    have h3 : (a &&& (18446744073709551615 - b)) &&& (a &&& b) = 0 := by
      apply Nat.eq_of_testBit_eq; intro i
      rw [e]
      simp only [Nat.testBit_and, Nat.zero_testBit, Nat.testBit_two_pow_sub_succ (show b < 2 ^ 64 by omega)]
      cases a.testBit i <;> cases b.testBit i <;> simp
    have h4 : (a &&& (18446744073709551615 - b)) ||| (a &&& b) = a := by
      apply Nat.eq_of_testBit_eq; intro i
      rw [e]
      simp only [Nat.testBit_and, Nat.testBit_or, Nat.testBit_two_pow_sub_succ (show b < 2 ^ 64 by omega)]
      by_cases hi : i < 64
      · simp [hi]; cases a.testBit i <;> cases b.testBit i <;> simp
      · have : a.testBit i = false := Nat.testBit_lt_two_pow (Nat.lt_of_lt_of_le (show a < 2 ^ 64 by omega) (Nat.pow_le_pow_right (by decide) (by omega)))
        simp [this]
    rw [nat_add_or _ _ h3, h4]
  omega
theorem bits_andNot (a b : Nat) (ha : a < 9223372036854775808) (hb : b < 9223372036854775808) : bits .andNot .i64 (a : Int) (b : Int) = ((a - (a &&& b) : Nat) : Int) := by
  show IntKind.i64.wrap ((BitVec.ofInt 64 (a : Int) &&& ~~~BitVec.ofInt 64 (b : Int)).toNat : Int) = _
  rw [BitVec.toNat_and, BitVec.toNat_not, ofInt_nat a (by omega), ofInt_nat b (by omega)]
  have e : (2 ^ 64 - 1 - b) = 18446744073709551615 - b := by omega
  rw [e, andNot_nat a b ha hb]
  exact wrap_nat _ (by omega)

/-- A set has all parts of another one. -/
def hasB (set part : Nat) : Bool := part &&& set == part
theorem hasB_refl (a : Nat) : hasB a a = true := by simp [hasB]
theorem hasB_trans {a b c : Nat} (h1 : hasB a b = true) (h2 : hasB b c = true) : hasB a c = true := by
  simp only [hasB, beq_iff_eq] at *
  calc c &&& a = (c &&& b) &&& a := by rw [h2]
    _ = c &&& (b &&& a) := Nat.and_assoc _ _ _
    _ = c := by rw [h1, h2]
theorem hasB_le {a b : Nat} (h : hasB a b = true) : b ≤ a := by
  simp only [hasB, beq_iff_eq] at h
  rw [← h]; exact Nat.and_le_right
theorem hasB_anti {a b : Nat} (h1 : hasB a b = true) (h2 : hasB b a = true) : a = b := Nat.le_antisymm (hasB_le h2) (hasB_le h1)
/-- 'part &^ set == 0'. -/
theorem has_zero (set part : Nat) : (part - (part &&& set) = 0) ↔ hasB set part = true := by
  have := @Nat.and_le_left part set
  simp only [hasB, beq_iff_eq]
  omega
theorem hasB_bits {a b : Nat} : hasB a b = true ↔ ∀ i, b.testBit i = true → a.testBit i = true := by
  simp only [hasB, beq_iff_eq]
  constructor
  · intro h i hi
    have := congrArg (fun x => Nat.testBit x i) h
    simp only [Nat.testBit_and, hi, Bool.true_and] at this
    exact this
  · intro h
    apply Nat.eq_of_testBit_eq; intro i
    rw [Nat.testBit_and]
    cases hb : b.testBit i
    · rfl
    · simp [h i hb]

/-! ### The least sets of a list -/
/-- The sets none of which has all parts of another one. -/
def minL (zs : List Nat) : List Nat := zs.filter fun s => !(zs.any fun p => p != s && hasB s p)
theorem mem_minL {zs : List Nat} {s : Nat} : s ∈ minL zs ↔ s ∈ zs ∧ ∀ p ∈ zs, hasB s p = true → p = s := by
  unfold minL
  rw [List.mem_filter]
  simp only [Bool.not_eq_true', List.any_eq_false, Bool.and_eq_true, bne_iff_ne, ne_eq, not_and]
  constructor
  · rintro ⟨h1, h2⟩
    refine ⟨h1, fun p hp hh => ?_⟩
    by_cases e : p = s
    · exact e
    · exact absurd hh (h2 p hp e)
  · rintro ⟨h1, h2⟩
    exact ⟨h1, fun p hp hne hh => hne (h2 p hp hh)⟩
/-- No set has all parts of another one. -/
def anti (zs : List Nat) : Bool := zs.all fun s => !(zs.any fun p => p != s && hasB s p)
theorem minL_anti (zs : List Nat) : anti (minL zs) = true := by
  unfold anti
  rw [List.all_eq_true]
  intro s hs
  simp only [Bool.not_eq_true', List.any_eq_false, Bool.and_eq_true, bne_iff_ne, ne_eq, not_and]
  intro p hp hne hh
  exact hne ((mem_minL.1 hs).2 p (mem_minL.1 hp).1 hh)
theorem minL_of_anti {zs : List Nat} (h : anti zs = true) : minL zs = zs := by
  unfold minL
  exact List.filter_eq_self.2 (List.all_eq_true.1 h)
theorem minL_eq_self {zs : List Nat} : minL zs = zs ↔ anti zs = true := by
  constructor
  · intro h; rw [← h]; exact minL_anti zs
  · exact minL_of_anti
/-- Below every set of a list lies one of the least ones. -/
theorem minL_below {zs : List Nat} : ∀ {s : Nat}, s ∈ zs → ∃ p ∈ minL zs, hasB s p = true := by
  intro s
  induction s using Nat.strongRecOn with
  | _ s ih =>
    intro hs
    by_cases h : ∀ p ∈ zs, hasB s p = true → p = s
    · exact ⟨s, mem_minL.2 ⟨hs, h⟩, hasB_refl s⟩
    · obtain ⟨p, h⟩ := Classical.not_forall.1 h
      simp only [Classical.not_imp] at h
      obtain ⟨hp, hh, hne⟩ := h
      have hlt : p < s := by have := hasB_le hh; omega
      obtain ⟨q, hq, hq2⟩ := ih p hlt hp
      exact ⟨q, hq, hasB_trans hh hq2⟩

/-- Strictly ascending. -/
def asc : List Nat → Bool
  | [] => true
  | [_] => true
  | a :: b :: l => decide (a < b) && asc (b :: l)
theorem asc_iff {zs : List Nat} : asc zs = true ↔ zs.Pairwise (· < ·) := by
  induction zs with
  | nil => simp [asc]
  | cons a l ih =>
    cases l with
    | nil => simp [asc]
    | cons b l =>
      rw [asc, Bool.and_eq_true, decide_eq_true_eq, ih, List.pairwise_cons (a := a)]
      constructor
      · rintro ⟨h1, h2⟩
        refine ⟨fun x hx => ?_, h2⟩
        rcases List.mem_cons.1 hx with rfl | hx
        · exact h1
        · have := (List.pairwise_cons.1 h2).1 x hx; omega
      · rintro ⟨h1, h2⟩
        exact ⟨h1 b (by simp), h2⟩
/-- Two strictly ascending lists of the same sets are the same. -/
theorem asc_ext : ∀ {xs ys : List Nat}, xs.Pairwise (· < ·) → ys.Pairwise (· < ·) → (∀ x, x ∈ xs ↔ x ∈ ys) → xs = ys
  | [], [], _, _, _ => rfl
  | [], y :: ys, _, _, h => by have := (h y).2 (by simp); simp at this
  | x :: xs, [], _, _, h => by have := (h x).1 (by simp); simp at this
  | x :: xs, y :: ys, hx, hy, h => by
    obtain ⟨hx1, hx2⟩ := List.pairwise_cons.1 hx
    obtain ⟨hy1, hy2⟩ := List.pairwise_cons.1 hy
    have e : x = y := by
      rcases List.mem_cons.1 ((h x).1 (by simp)) with e | h1
      · exact e
      · rcases List.mem_cons.1 ((h y).2 (by simp)) with e | h2
        · exact e.symm
        · have := hx1 y h2; have := hy1 x h1; omega
    subst e
    rw [asc_ext hx2 hy2 fun z => ?_]
    constructor
    · intro hz
      rcases List.mem_cons.1 ((h z).1 (by simp [hz])) with e | h2
      · subst e; have := hx1 z hz; omega
      · exact h2
    · intro hz
      rcases List.mem_cons.1 ((h z).2 (by simp [hz])) with e | h2
      · subst e; have := hy1 z hz; omega
      · exact h2
theorem asc_range (n : Nat) : (List.range n).Pairwise (· < ·) := List.pairwise_lt_range
theorem asc_filter {zs : List Nat} {p : Nat → Bool} (h : zs.Pairwise (· < ·)) : (zs.filter p).Pairwise (· < ·) := h.filter p
theorem minL_asc {zs : List Nat} (h : zs.Pairwise (· < ·)) : (minL zs).Pairwise (· < ·) := asc_filter h
/-- The sets of a list, ascending, each once (below a bound). -/
def setsOf (N : Nat) (zs : List Nat) : List Nat := (List.range N).filter fun s => zs.contains s
theorem setsOf_asc (N : Nat) (zs : List Nat) : (setsOf N zs).Pairwise (· < ·) := asc_filter (asc_range N)
theorem mem_setsOf {N : Nat} {zs : List Nat} {s : Nat} (hb : ∀ z ∈ zs, z < N) : s ∈ setsOf N zs ↔ s ∈ zs := by
  unfold setsOf
  rw [List.mem_filter, List.mem_range, List.contains_iff_mem]
  exact ⟨fun h => h.2, fun h => ⟨hb s h, h⟩⟩
theorem setsOf_self {N : Nat} {zs : List Nat} (hb : ∀ z ∈ zs, z < N) (ha : zs.Pairwise (· < ·)) : setsOf N zs = zs := asc_ext (setsOf_asc _ _) ha fun _ => mem_setsOf hb
end Go.Proofs.Ytepgkhcfeaklmaa
