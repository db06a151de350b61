
/- ChanceOf, both sides. Condition: lists that can be read. -/
import Derived.Test.YtepgkhcfeaklmaaZa
namespace Go.Proofs.Ytepgkhcfeaklmaa
open Go Go.RowKit Go.ChangeShapes Go.WideShapes Go.ChangeAt

attribute [local irreducible] LX

theorem l03Chances_eq {v : Value} {bs : List Nat} {n : Int} {c : Bool} (h : chancesB bs n = c) (w : World) (r : RdF w v bs) :
    Calls Try.prog 93 #[v, .int .i64 n] w fun e w' => e = .returned (.bool c) ∧ w = w' := by subst h; exact l03Chances_any v bs n w r


end Go.Proofs.Ytepgkhcfeaklmaa
