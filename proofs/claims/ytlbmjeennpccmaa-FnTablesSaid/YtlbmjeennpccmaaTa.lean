
/- Small whole numbers in single precision: products, differences, comparisons are exact. Plain. -/
import Derived.Test.YtlbmjeennpccmaaCr
namespace Go.Proofs.Ytlbmjeennpccmaa
open Go

theorem mulI_all : ((List.range 97).all fun a => (List.range 97).all fun b => fop .mul .f32 (ofI (a : Int)) (ofI (b : Int)) == ofI ((a * b : Nat) : Int)) = true := by decide +kernel
theorem subI_all : ((List.range 97).all fun a => (List.range 97).all fun b => fop .sub .f32 (ofI (a : Int)) (ofI (b : Int)) == ofI ((a : Int) - (b : Int))) = true := by decide +kernel
theorem eqlI_all : ((List.range 97).all fun a => (List.range 97).all fun b => fcmp .eql .f32 (ofI (a : Int)) (ofI (b : Int)) == decide (a = b)) = true := by decide +kernel
theorem all97 {p : Nat → Nat → Bool} (h : ((List.range 97).all fun a => (List.range 97).all fun b => p a b) = true) {a b : Nat} (ha : a ≤ 96) (hb : b ≤ 96) : p a b = true := by
  rw [List.all_eq_true] at h
  have h1 := h a (List.mem_range.2 (by omega))
  rw [List.all_eq_true] at h1
  exact h1 b (List.mem_range.2 (by omega))
theorem mulI {a b : Nat} (ha : a ≤ 96) (hb : b ≤ 96) : fop .mul .f32 (ofI (a : Int)) (ofI (b : Int)) = ofI ((a * b : Nat) : Int) := by simpa using all97 mulI_all ha hb
theorem subI {a b : Nat} (ha : a ≤ 96) (hb : b ≤ 96) : fop .sub .f32 (ofI (a : Int)) (ofI (b : Int)) = ofI ((a : Int) - (b : Int)) := by simpa using all97 subI_all ha hb
theorem eqlI {a b : Nat} (ha : a ≤ 96) (hb : b ≤ 96) : fcmp .eql .f32 (ofI (a : Int)) (ofI (b : Int)) = decide (a = b) := by simpa using all97 eqlI_all ha hb
end Go.Proofs.Ytlbmjeennpccmaa
