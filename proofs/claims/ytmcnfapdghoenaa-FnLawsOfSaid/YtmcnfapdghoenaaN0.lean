
/- The time that a share survives, in floats, leads back to the share: what is to be checked. Plain. -/
import Derived.Test.YtmcnfapdghoenaaJC
namespace Go.Proofs.Ytmcnfapdghoenaa
open Go Go.RowKit

def yF (m : Nat) : Nat := fop .quo .f32 (floatOfInt .f32 (m : Int)) 1082130432
def cF (b : Nat) : Nat := fop .quo .f32 (floatOfInt .f32 (b : Int)) 1073741824
def numB (k : FloatKind) (b : Nat) : Bool := match k.format.read b with | .number _ _ _ => true | _ => false
theorem num_of {k : FloatKind} {b : Nat} (h : numB k b = true) : Num k b := by
  unfold numB at h
  cases hr : k.format.read b with
  | number s m e => exact ⟨s, m, e, hr⟩
  | nan s f => rw [hr] at h; cases h
  | infinity s => rw [hr] at h; cases h
theorem yF_all : ∀ m : Nat, m < 13 → floatBits .quo .f32 (floatOfInt .f32 (m : Int)) 1082130432 = some (yF m) ∧ yF m < 4294967296 ∧ numB .f32 (yF m) = true ∧ fv .f32 (yF m) = (m : Rat) / 4 := by decide +kernel
theorem cF_all : ∀ b : Nat, b < 33 → floatBits .quo .f32 (floatOfInt .f32 (b : Int)) 1073741824 = some (cF b) ∧ cF b < 4294967296 ∧ numB .f32 (cF b) = true ∧ fv .f32 (cF b) = (b : Rat) / 2 := by decide +kernel

/-- A share; its logarithm, the sign turned; one by a shape. -/
def shF (j : Nat) : Nat := fop .quo .f32 (floatOfInt .f32 (j : Int)) 1098907648
def lF (j : Nat) : Nat := fop .sub .f32 0 (logF (shF j))
def zF (m : Nat) : Nat := fop .quo .f32 1065353216 (yF m)
def oF (j : Nat) : Nat := fop .quo .f32 (fop .sub .f32 1065353216 (shF j)) (shF j)
def x1F (m j : Nat) : Nat := powF (zF m) (lF j)
def x2F (m j : Nat) : Nat := powF (zF m) (oF j)
/-- s is a share of 16, nearly. -/
def shB (s j : Nat) : Bool := numB .f32 s && decide (fv .f32 s ≤ (j : Rat) / 16 + 1 / 5000) && decide ((j : Rat) / 16 ≤ fv .f32 s + 1 / 5000)
def xB (x : Nat) : Bool := numB .f32 x && decide (1 / 10000 ≤ fv .f32 x) && decide (fv .f32 x ≤ 250)
def t1B (m j : Nat) : Bool := (fun x => xB x && shB (s1F (yF m) x) j) (x1F m j)
def t2B (m j : Nat) : Bool := (fun x => xB x && shB (s2F (yF m) x) j) (x2F m j)
def t0B (j : Nat) : Bool := (fun x => xB x && shB (s0F x) j) (lF j)
def rB (f : Nat → Bool) : Nat → Bool
  | 0 => true
  | j + 1 => bif f (j + 1) then rB f j else false
theorem rB_at {f : Nat → Bool} : ∀ n, rB f n = true → ∀ j, 1 ≤ j → j ≤ n → f j = true
  | 0, _, j, h1, h2 => by omega
  | n + 1, h, j, h1, h2 => by
    have h' : (bif f (n + 1) then rB f n else false) = true := h
    cases hc : f (n + 1) with
    | false => rw [hc] at h'; cases h'
    | true =>
      rw [hc, cond_true] at h'
      by_cases e : j = n + 1
      · rw [e]; exact hc
      · exact rB_at n h' j h1 (by omega)
theorem t0_all : rB t0B 15 = true := by decide +kernel
end Go.Proofs.Ytmcnfapdghoenaa
