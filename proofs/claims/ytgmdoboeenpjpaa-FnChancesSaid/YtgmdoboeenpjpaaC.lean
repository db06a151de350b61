
/- Contracts of the functions on chains, and the laws FnExactValidChain, FnExactSameChain. No condition. -/
import Derived.Test.YtgmdoboeenpjpaaRows
import Derived.Test.YtgmdoboeenpjpaaB
import Derived.Deep.QuietTactic
import Derived.BigQuiet
import Derived.Outline
namespace Go.Proofs.Ytgmdoboeenpjpaa
open Go Go.RowKit Go.ChangeShapes Go.WideShapes Go.ChangeAt





/-- What a valid chain is, as the reference asks it. -/
def diagB (n : Nat) (i : Nat) (x : Nat) : Bool := leastB x && !(decide (i % (n + 1) = 0) && fcmp .neq .f32 x (cn .f32 0))
def chainOk (n : Int) (bs : List Nat) : Bool := inB n 1 8 && decide ((bs.length : Int) = n * n) && (List.range bs.length).all fun i => diagB n.toNat i (cn .f32 (bs.getD i 0))


def chainOkI (n : Int) (bs : List Nat) : Bool := inB n 1 8 && decide ((bs.length : Int) = n * n) && (bs.map (cn .f32)).all leastB &&
  (List.range n.toNat).all fun i => !(fcmp .neq .f32 (cn .f32 (bs.getD (i * n.toNat + i) 0)) (cn .f32 0))


end Go.Proofs.Ytgmdoboeenpjpaa
