
/- FnExactValidChain returns true for every input and changes nothing that was there. No condition. -/
import Derived.Test.YtkkmhckhggggaaaC
namespace Go.Proofs.Ytkkmhckhggggaaa
open Go Go.RowKit Go.ChangeShapes Go.WideShapes Go.ChangeAt

theorem div_of_lt {n i : Nat} (hn : 1 ≤ n) (hi : i < n * n) (hd : i % (n + 1) = 0) : ∃ k, k < n ∧ i = k * n + k := by
  refine ⟨i / (n + 1), ?_, ?_⟩
  · apply Nat.div_lt_of_lt_mul
    have : (n + 1) * n = n * n + n := by rw [Nat.add_mul]; omega
    omega
  · have h := Nat.div_add_mod i (n + 1)
    rw [hd, Nat.add_zero] at h
    have : (n + 1) * (i / (n + 1)) = i / (n + 1) * n + i / (n + 1) := by rw [Nat.mul_comm, Nat.mul_add, Nat.mul_one]
    omega

/-- The program asks the same of a chain as the reference. -/
theorem chainOk_same (n : Int) (bs : List Nat) : chainOkI n bs = chainOk n bs := by
  unfold chainOkI chainOk
  cases hin : inB n 1 8 with
  | false => rfl
  | true =>
    by_cases hlen : (bs.length : Int) = n * n
    · have hn8 := inB_iff.1 hin
      obtain ⟨m, rfl⟩ := Int.eq_ofNat_of_zero_le (show 0 ≤ n by omega)
      have hl : bs.length = m * m := by exact_mod_cast hlen
      simp only [hlen, decide_true, Bool.true_and, Int.toNat_natCast]
      rw [Bool.eq_iff_iff]
      simp only [Bool.and_eq_true, List.all_eq_true, List.mem_range, List.mem_map, forall_exists_index, and_imp, forall_apply_eq_imp_iff₂]
      constructor
      · rintro ⟨h1, h2⟩ i hi
        have hg : bs.getD i 0 = bs[i] := by simp [hi]
        unfold diagB
        rw [hg, h1 _ (List.getElem_mem hi)]
        by_cases hd : i % (m + 1) = 0
        · obtain ⟨k, hk, rfl⟩ := div_of_lt (by omega) (by omega) hd
          have := h2 k hk
          rw [hg] at this
          simpa [hd] using this
        · simp [hd]
      · intro h
        refine ⟨fun x hx => ?_, fun k hk => ?_⟩
        · obtain ⟨i, hi, rfl⟩ := List.getElem_of_mem hx
          have hg : bs.getD i 0 = bs[i] := by simp [hi]
          have := h i hi
          unfold diagB at this
          rw [hg, Bool.and_eq_true] at this
          exact this.1
        · have hi : k * m + k < bs.length := by
            have h4 : (k + 1) * m ≤ m * m := Nat.mul_le_mul_right m hk
            have h5 : (k + 1) * m = k * m + m := Nat.succ_mul k m
            omega
          have := h _ hi
          unfold diagB at this
          rw [Bool.and_eq_true] at this
          have hd : (k * m + k) % (m + 1) = 0 := by
            have : k * m + k = (m + 1) * k := by rw [Nat.mul_comm, Nat.add_mul]; omega
            rw [this, Nat.mul_mod_right]
          simpa [hd] using this.2
    · have : ((bs.length : Int) == n * n) = false := by simpa using hlen
      simp [hlen]

def ChV (p : Int) (bs : List Nat) (v : Value) : Prop := ∃ g, v = .agg #[.int .i64 p, .slice (some ⟨g, 0, none⟩) bs.length bs.length]
def ChW (p : Int) (bs : List Nat) (v : Value) (w : World) : Prop := ∃ g, v = .agg #[.int .i64 p, .slice (some ⟨g, 0, none⟩) bs.length bs.length] ∧ RdF w (.slice (some ⟨g, 0, none⟩) bs.length bs.length) bs
theorem ChW.st (p : Int) (bs : List Nat) (v : Value) : St (ChW p bs v) := fun _ _ ⟨g, h1, h2⟩ hx => ⟨g, h1, h2.ext hx⟩
theorem ChW.rd {p : Int} {bs : List Nat} {a : Option Addr} {n : Nat} {w : World} (h : ChW p bs (.agg #[.int .i64 p, .slice a n n]) w) : RdF w (.slice a n n) bs := by
  obtain ⟨g, e, hr⟩ := h
  simp at e
  obtain ⟨rfl, rfl, _⟩ := e
  exact hr

end Go.Proofs.Ytkkmhckhggggaaa
