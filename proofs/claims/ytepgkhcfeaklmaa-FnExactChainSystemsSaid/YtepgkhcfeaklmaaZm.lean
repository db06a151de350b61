
/- Two systems one behind the other: the sets. Plain laws. -/
import Derived.Test.YtepgkhcfeaklmaaZk
namespace Go.Proofs.Ytepgkhcfeaklmaa
open Go Go.RowKit Go.ChangeShapes Go.WideShapes Go.ChangeAt

def rowC (N : Nat) (B : List Nat) (p : Nat) : List Nat := B.map fun q => p + q * N
def rowR (N : Nat) (A : List Nat) (q : Nat) : List Nat := A.map fun p => p + q * N
/-- The program's list: the first system's sets without. -/
def chI (N : Nat) (A B : List Nat) : List Nat := A.flatMap (rowC N B)
/-- The reference's list: the second system's sets without. -/
def chL (N : Nat) (A B : List Nat) : List Nat := B.flatMap (rowR N A)
theorem rowC_len (N : Nat) (B : List Nat) (p : Nat) : (rowC N B p).length = B.length := by simp [rowC]
theorem rowR_len (N : Nat) (A : List Nat) (p : Nat) : (rowR N A p).length = A.length := by simp [rowR]
theorem flat_len {n : Nat} (f : Nat → List Nat) (hf : ∀ x, (f x).length = n) : ∀ xs : List Nat, (xs.flatMap f).length = xs.length * n
  | [] => by simp
  | x :: xs => by rw [List.flatMap_cons, List.length_append, flat_len f hf xs, hf, List.length_cons, Nat.succ_mul]; omega
theorem chI_len (N : Nat) (A B : List Nat) : (chI N A B).length = A.length * B.length := flat_len _ (rowC_len N B) A
theorem chL_len (N : Nat) (A B : List Nat) : (chL N A B).length = B.length * A.length := flat_len _ (rowR_len N A) B
theorem flat_take (f : Nat → List Nat) (xs : List Nat) {k : Nat} (h : k < xs.length) : (xs.take (k + 1)).flatMap f = (xs.take k).flatMap f ++ f xs[k] := by
  rw [List.take_succ_eq_append_getElem h, List.flatMap_append]; simp
theorem rowC_take (N : Nat) (B : List Nat) (p : Nat) {k : Nat} (h : k < B.length) : rowC N (B.take (k + 1)) p = rowC N (B.take k) p ++ [p + B[k] * N] := by
  unfold rowC; rw [List.take_succ_eq_append_getElem h, List.map_append]; rfl
theorem rowR_take (N : Nat) (A : List Nat) (q : Nat) {k : Nat} (h : k < A.length) : rowR N (A.take (k + 1)) q = rowR N (A.take k) q ++ [A[k] + q * N] := by
  unfold rowR; rw [List.take_succ_eq_append_getElem h, List.map_append]; rfl
theorem mem_chI {N : Nat} {A B : List Nat} {s : Nat} : s ∈ chI N A B ↔ ∃ p ∈ A, ∃ q ∈ B, s = p + q * N := by
  unfold chI rowC
  rw [List.mem_flatMap]
  constructor
  · rintro ⟨p, hp, h⟩
    obtain ⟨q, hq, rfl⟩ := List.mem_map.1 h
    exact ⟨p, hp, q, hq, rfl⟩
  · rintro ⟨p, hp, q, hq, rfl⟩
    exact ⟨p, hp, List.mem_map.2 ⟨q, hq, rfl⟩⟩
theorem mem_chL {N : Nat} {A B : List Nat} {s : Nat} : s ∈ chL N A B ↔ ∃ p ∈ A, ∃ q ∈ B, s = p + q * N := by
  unfold chL rowR
  rw [List.mem_flatMap]
  constructor
  · rintro ⟨q, hq, h⟩
    obtain ⟨p, hp, rfl⟩ := List.mem_map.1 h
    exact ⟨p, hp, q, hq, rfl⟩
  · rintro ⟨p, hp, q, hq, rfl⟩
    exact ⟨q, hq, List.mem_map.2 ⟨p, hp, rfl⟩⟩
theorem chL_asc {N : Nat} {A : List Nat} (hA : A.Pairwise (· < ·)) (hlt : ∀ x ∈ A, x < N) : ∀ {B : List Nat}, B.Pairwise (· < ·) → (chL N A B).Pairwise (· < ·)
  | [], _ => by simp [chL]
  | q :: B, h => by
    obtain ⟨h1, h2⟩ := List.pairwise_cons.1 h
    have ih := chL_asc hA hlt h2
    unfold chL at *
    rw [List.flatMap_cons]
    refine List.pairwise_append.2 ⟨?_, ih, ?_⟩
    · unfold rowR; rw [List.pairwise_map]; exact hA.imp fun h => by omega
    · intro x hx y hy
      obtain ⟨p, hp, rfl⟩ := List.mem_map.1 hx
      obtain ⟨q', hq', hy⟩ := List.mem_flatMap.1 hy
      obtain ⟨p', hp', rfl⟩ := List.mem_map.1 hy
      have e1 := hlt p hp
      have e2 : (q + 1) * N ≤ q' * N := Nat.mul_le_mul_right _ (h1 q' hq')
      have e3 : (q + 1) * N = q * N + N := Nat.succ_mul q N
      omega
theorem bit_ch {p q a : Nat} (h : p < 2 ^ a) (j : Nat) : (p + q * 2 ^ a).testBit j = if j < a then p.testBit j else q.testBit (j - a) := by
  rw [Nat.add_comm, Nat.mul_comm]; exact Nat.testBit_two_pow_mul_add q h j
theorem chL_anti {a : Nat} {A B : List Nat} (hA : anti A = true) (hB : anti B = true) (hlt : ∀ x ∈ A, x < 2 ^ a) : anti (chL (2 ^ a) A B) = true := by
  rw [anti_iff] at *
  intro s hs s' hs' hh
  obtain ⟨p, hp, q, hq, rfl⟩ := mem_chL.1 hs
  obtain ⟨p', hp', q', hq', rfl⟩ := mem_chL.1 hs'
  have hb := hasB_bits.1 hh
  have e1 : p' = p := hA p hp p' hp' (hasB_bits.2 fun i hi => by
    have hia : i < a := by
      rcases Nat.lt_or_ge i a with h | h
      · exact h
      · have h1 := Nat.ge_two_pow_of_testBit hi
        have h2 := Nat.pow_le_pow_right (show 0 < 2 by decide) h
        have := hlt p' hp'
        omega
    have := hb i (by rw [bit_ch (hlt p' hp'), if_pos hia]; exact hi)
    rw [bit_ch (hlt p hp), if_pos hia] at this
    exact this)
  have e2 : q' = q := hB q hq q' hq' (hasB_bits.2 fun i hi => by
    have := hb (i + a) (by rw [bit_ch (hlt p' hp'), if_neg (by omega), Nat.add_sub_cancel]; exact hi)
    rw [bit_ch (hlt p hp), if_neg (by omega), Nat.add_sub_cancel] at this
    exact this)
  rw [e1, e2]
theorem ch_or {p q a : Nat} (h : p < 2 ^ a) : p ||| (q * 2 ^ a) = p + q * 2 ^ a := by
  apply Nat.eq_of_testBit_eq
  intro i
  rw [Nat.testBit_or, bit_ch h, testBit_sh]
  by_cases hi : i < a
  · simp [hi, show ¬ a ≤ i by omega]
  · have : p.testBit i = false := Nat.testBit_lt_two_pow (Nat.lt_of_lt_of_le h (Nat.pow_le_pow_right (by decide) (by omega)))
    simp [hi, this, show a ≤ i by omega]
theorem ch_least {a b : Nat} {A B : List Nat} (hA : SysN a A) (hB : SysN b B) (h1 : A.Pairwise (· < ·)) (h2 : B.Pairwise (· < ·)) (h3 : anti A = true) (h4 : anti B = true) :
    leastN (chI (2 ^ a) A B) = chL (2 ^ a) A B ∧ (∀ z ∈ chI (2 ^ a) A B, z < 1048577) ∧ (chI (2 ^ a) A B).length ≤ 4096 ∧ 0 < (chI (2 ^ a) A B).length := by
  have hlt : ∀ z ∈ chI (2 ^ a) A B, z < 1048577 := fun z hz => by
    obtain ⟨p, hp, q, hq, rfl⟩ := mem_chI.1 hz
    have e1 := hA.small p hp
    have e2 := hB.small q hq
    have e3 := (pow10N hA.p10).2.2.2
    have : q * 2 ^ a ≤ 1023 * 1024 := Nat.mul_le_mul (by omega) e3
    omega
  have hlt' : ∀ z ∈ chL (2 ^ a) A B, z < 1048577 := fun z hz => hlt z (mem_chI.2 (mem_chL.1 hz))
  refine ⟨?_, hlt, ?_, ?_⟩
  · unfold leastN
    have : setsOf 1048577 (chI (2 ^ a) A B) = chL (2 ^ a) A B :=
      asc_ext (setsOf_asc _ _) (chL_asc h1 (fun x hx => hA.lt x hx) h2) fun x => by rw [mem_setsOf hlt, mem_chI, mem_chL]
    rw [this, minL_of_anti (chL_anti h3 h4 fun x hx => hA.lt x hx)]
  · rw [chI_len]; exact Nat.mul_le_mul hA.l64 hB.l64
  · rw [chI_len]; exact Nat.mul_pos hA.l1 hB.l1
def serO (p q : Int) (zs ys : List Int) : Option (Int × List Int) := if sysB p zs && sysB q ys then sysO (p + q) (ups (chL (2 ^ p.toNat) (downs zs) (downs ys))) else none
theorem serO_len (p q : Int) (zs ys : List Int) : ((serO p q zs ys).getD (0, [])).2.length ≤ 1048576 := by
  unfold serO
  split
  · exact sysO_len _ _
  · simp
theorem sysO_long {p : Int} {zs : List Int} (h : 64 < zs.length) : sysO p zs = none := by
  unfold sysO sysB goodI manyB
  rw [if_neg]
  simp
  intro _ h3 _
  have := inB_iff.1 h3
  omega
theorem ser_none {p q : Int} {zs ys : List Int} (h : twoB p q zs ys = false ∨ 64 < zs.length * ys.length) : serO p q zs ys = none := by
  unfold serO
  cases hv : sysB p zs && sysB q ys
  · rfl
  · rw [if_pos rfl]
    rcases h with h | h
    · unfold twoB at h
      rw [hv] at h
      simp only [Bool.true_and, decide_eq_false_iff_not] at h
      unfold sysO sysB goodI inB
      rw [if_neg]
      simp
      intro; omega
    · exact sysO_long (by rw [ups_len, chL_len, downs_len, downs_len, Nat.mul_comm]; exact h)
end Go.Proofs.Ytepgkhcfeaklmaa
