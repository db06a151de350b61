
/- Means: the check by the kernel for a shape. Plain. -/
import Derived.Test.YtmcnfapdghoenaaJG
namespace Go.Proofs.Ytmcnfapdghoenaa
open Go Go.RowKit

theorem chk1_9 : chkB (tabN (s1 9) 2304 0) 11000000 32 = true := by decide +kernel
theorem chk2_9 : chkB (tabN (s2 9) 2304 0) 11000000 32 = true := by decide +kernel
end Go.Proofs.Ytmcnfapdghoenaa
