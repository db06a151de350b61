
/- Times in floats are exact. Plain. Conditions: in the theorems. -/
import Derived.Test.YtmcnfapdghoenaaO1
import Derived.Test.YtmcnfapdghoenaaN0
namespace Go.Proofs.Ytmcnfapdghoenaa
open Go Go.RowKit

def tF (a : Nat) : Nat := fop .quo .f32 (floatOfInt .f32 (a : Int)) 1090519040
def hF (q : Nat) : Nat := fop .quo .f32 (tF q) (floatOfInt .f32 32)
def aF (i : Nat) : Nat := fop .add .f32 (floatOfInt .f32 (i : Int)) 1056964608
def TF (q i : Nat) : Nat := fop .mul .f32 (aF i) (hF q)
def opB (op : BinOp) (p q V : Nat) : Bool := decide (floatBits op .f32 p q = some V) && decide (V < 4294967296) && numB .f32 V
theorem opB_v {op : BinOp} {p q V : Nat} (h : opB op p q V = true) : FopV op .f32 p q V ∧ Num .f32 V := by
  unfold opB at h
  simp only [Bool.and_eq_true, decide_eq_true_eq] at h
  exact ⟨⟨h.1.1, h.1.2⟩, num_of h.2⟩
theorem tF_all : ∀ a : Nat, a < 47 → (opB .quo (floatOfInt .f32 (a : Int)) 1090519040 (tF a) && decide (fv .f32 (tF a) = (a : Rat) / 8)) = true := by decide +kernel
theorem hF_all : ∀ q : Nat, q < 47 → (opB .quo (tF q) (floatOfInt .f32 32) (hF q) && decide (fv .f32 (hF q) = (q : Rat) / 256)) = true := by decide +kernel
theorem aF_all : ∀ i : Nat, i < 256 → (opB .add (floatOfInt .f32 (i : Int)) 1056964608 (aF i) && decide (fv .f32 (aF i) = ((2 * i + 1 : Nat) : Rat) / 2)) = true := by decide +kernel
theorem tF_v {a : Nat} (h : a < 47) : FopV .quo .f32 (floatOfInt .f32 (a : Int)) 1090519040 (tF a) ∧ Num .f32 (tF a) ∧ fv .f32 (tF a) = (a : Rat) / 8 := by
  have := tF_all a h
  rw [Bool.and_eq_true, decide_eq_true_eq] at this
  exact ⟨(opB_v this.1).1, (opB_v this.1).2, this.2⟩
theorem hF_v {a : Nat} (h : a < 47) : FopV .quo .f32 (tF a) (floatOfInt .f32 32) (hF a) ∧ Num .f32 (hF a) ∧ fv .f32 (hF a) = (a : Rat) / 256 := by
  have := hF_all a h
  rw [Bool.and_eq_true, decide_eq_true_eq] at this
  exact ⟨(opB_v this.1).1, (opB_v this.1).2, this.2⟩
theorem aF_v {i : Nat} (h : i < 256) : FopV .add .f32 (floatOfInt .f32 (i : Int)) 1056964608 (aF i) ∧ Num .f32 (aF i) ∧ fv .f32 (aF i) = ((2 * i + 1 : Nat) : Rat) / 2 := by
  have := aF_all i h
  rw [Bool.and_eq_true, decide_eq_true_eq] at this
  exact ⟨(opB_v this.1).1, (opB_v this.1).2, this.2⟩
theorem cF_v {b : Nat} (h : b < 33) : FopV .quo .f32 (floatOfInt .f32 (b : Int)) 1073741824 (cF b) ∧ Num .f32 (cF b) ∧ fv .f32 (cF b) = (b : Rat) / 2 := by
  obtain ⟨a, c, d, e⟩ := cF_all b h
  exact ⟨⟨a, c⟩, num_of d, e⟩
theorem yF_v {m : Nat} (h : m < 13) : FopV .quo .f32 (floatOfInt .f32 (m : Int)) 1082130432 (yF m) ∧ Num .f32 (yF m) ∧ fv .f32 (yF m) = (m : Rat) / 4 := by
  obtain ⟨a, c, d, e⟩ := yF_all m h
  exact ⟨⟨a, c⟩, num_of d, e⟩
/-- A later time. -/
theorem later_all : ∀ a : Nat, a < 31 → ∀ d : Nat, d < 17 → opB .add (tF a) (tF d) (tF (a + d)) = true := by decide +kernel
theorem TF_all : ∀ q : Nat, q < 47 → ∀ i : Nat, i < 32 → (opB .mul (aF i) (hF q) (TF q i) && decide (fv .f32 (TF q i) = (((2 * i + 1) * q : Nat) : Rat) / 512)) = true := by decide +kernel
theorem TF_v {q i : Nat} (hq : q < 47) (hi : i < 32) : FopV .mul .f32 (aF i) (hF q) (TF q i) ∧ Num .f32 (TF q i) ∧ fv .f32 (TF q i) = (((2 * i + 1) * q : Nat) : Rat) / 512 := by
  have := TF_all q hq i hi
  rw [Bool.and_eq_true, decide_eq_true_eq] at this
  exact ⟨(opB_v this.1).1, (opB_v this.1).2, this.2⟩
end Go.Proofs.Ytmcnfapdghoenaa
