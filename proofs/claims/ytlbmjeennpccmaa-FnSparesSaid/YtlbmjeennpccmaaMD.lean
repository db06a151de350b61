
/- FnExactMeanDown returns true for every input and changes nothing that was there. No condition. -/
import Derived.Test.YtlbmjeennpccmaaCB
import Derived.Test.YtlbmjeennpccmaaNm
namespace Go.Proofs.Ytlbmjeennpccmaa
open Go Go.RowKit Go.ChangeShapes Go.WideShapes Go.ChangeAt

/-- The sum of k·x. -/
def kSum (xs : List Nat) : Nat → Nat
  | 0 => cn .f32 0
  | k + 1 => fop .add .f32 (kSum xs k) (fop .mul .f32 (cn .f32 (floatOfInt .f32 (k : Int))) (xs.getD k 0))

end Go.Proofs.Ytlbmjeennpccmaa
