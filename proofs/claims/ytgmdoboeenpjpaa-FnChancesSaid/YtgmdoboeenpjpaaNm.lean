
/- Contracts of the functions that hand back one number and whether it is finite; and a law's walk over such. No condition. -/
import Derived.Test.YtgmdoboeenpjpaaD
import Derived.Test.YtgmdoboeenpjpaaSN
namespace Go.Proofs.Ytgmdoboeenpjpaa
open Go Go.RowKit Go.ChangeShapes Go.WideShapes Go.ChangeAt

/-- A number and true; or 0 and false. -/
def NmPost (o : Option Nat) (w : World) (e : Ending) (w' : World) : Prop :=
  Ext w w' ∧ match o with
  | some x => ∃ b, e = .returned (.tuple #[.float .f32 b, .bool true]) ∧ cn .f32 b = x ∧ b < 4294967296
  | none => e = .returned (.tuple #[.float .f32 0, .bool false])
/-- The number, or 0 if it is not finite. -/
def numOr (b : Nat) : Nat := if finB (cn .f32 b) then b else 0
def finO (x : Nat) : Option Nat := if finB x then some x else none
theorem NmPost.ext {o : Option Nat} {w w1 w' : World} {e : Ending} (h : NmPost o w1 e w') (X : Ext w w1) : NmPost o w e w' := ⟨X.trans h.1, h.2⟩
theorem nmPost_of {b : Nat} {w w' : World} (X : Ext w w') (hb : b < 4294967296) :
    NmPost (finO (cn .f32 b)) w (.returned (.tuple #[.float .f32 (numOr b), .bool (finB (cn .f32 b))])) w' := by
  refine ⟨X, ?_⟩
  unfold finO numOr
  cases finB (cn .f32 b)
  · rfl
  · exact ⟨b, rfl, rfl, hb⟩


theorem wide_same {a b x y : Nat} (ha : cn .f32 a = cn .f32 b) (hx : cn .f64 x = Go.Proofs.Ytgmdoboeenpjpaa.wide (cn .f32 a)) (hy : cn .f64 y = Go.Proofs.Ytgmdoboeenpjpaa.wide (cn .f32 b)) : cn .f64 x = cn .f64 y := by rw [hx, hy, ha]
end Go.Proofs.Ytgmdoboeenpjpaa
