
/- How likely a system works, both sides. Condition: a valid system, a list of numbers that can be read. -/
import Derived.Test.YtepgkhcfeaklmaaYv
import Derived.Test.YtepgkhcfeaklmaaDC
namespace Go.Proofs.Ytepgkhcfeaklmaa
open Go Go.RowKit Go.ChangeShapes Go.WideShapes Go.ChangeAt

attribute [local irreducible] LX

theorem bitC_and (s i : Nat) (hs : s < 1024) : bits .and .i64 ((s : Int) / 2 ^ i) 1 = if s.testBit i then 1 else 0 := by
  have h1 : ((s : Int) / 2 ^ i) = ((s / 2 ^ i : Nat) : Int) := by exact_mod_cast rfl
  have h2 : s / 2 ^ i < 1024 := Nat.lt_of_le_of_lt (Nat.div_le_self _ _) hs
  have h3 := bits_and (s / 2 ^ i) 1 (by omega) (by decide)
  rw [h1]
  refine Eq.trans h3 ?_
  rw [Nat.and_one_is_mod, Nat.testBit_eq_decide_div_mod_eq]
  by_cases h : s / 2 ^ i % 2 = 1
  · simp [h]
  · have : s / 2 ^ i % 2 = 0 := by omega
    simp [this]

def oneF : Nat := cn .f32 1065353216
/-- A part's chance to work, or to fail, as a set says. -/
def pickC (s i c : Nat) : Nat := if s.testBit i then c else fop .sub .f32 oneF c
/-- How likely just the parts of a set work, of the first parts. -/
def prK (s : Nat) (C : List Nat) : Nat → Nat
  | 0 => oneF
  | i + 1 => fop .mul .f32 (prK s C i) (pickC s i (C.getD i 0))
def chS (p : Nat) (ns C : List Nat) : Nat := sumF (cn .f32 0) (((List.range (2 ^ p)).filter (worksB ns)).map fun s => prK s C p)



/-! ### ChanceOf -/
def chOk (p : Int) (zs : List Int) (bs : List Nat) : Bool := sysB p zs && chancesB bs p
def chanceO (p : Int) (zs : List Int) (bs : List Nat) : Option Nat := if chOk p zs bs then some (chS p.toNat (downs zs) (bs.map (cn .f32))) else none
theorem chOk_get {p : Int} {zs : List Int} {bs : List Nat} (h : chOk p zs bs = true) : SysN p.toNat (downs zs) ∧ p = (p.toNat : Int) ∧ zs = ups (downs zs) ∧ bs.length = p.toNat := by
  unfold chOk at h
  rw [Bool.and_eq_true] at h
  obtain ⟨h1, h2, h3⟩ := SysN.of (sys_good' h.1)
  have h4 := h.2
  unfold chancesB at h4
  rw [Bool.and_eq_true, decide_eq_true_eq] at h4
  exact ⟨h1, h2, h3, by omega⟩

end Go.Proofs.Ytepgkhcfeaklmaa
