
/- Means: the check by the kernel for a shape. Plain. -/
import Derived.Test.YtmcnfapdghoenaaJG
namespace Go.Proofs.Ytmcnfapdghoenaa
open Go Go.RowKit

theorem chk1_3 : chkB (tabN (s1 3) 2304 0) 11000000 32 = true := by decide +kernel
theorem chk2_3 : chkB (tabN (s2 3) 2304 0) 11000000 32 = true := by decide +kernel
end Go.Proofs.Ytmcnfapdghoenaa
