
/- Means: the check by the kernel for kinds 0 and 3. Plain. -/
import Derived.Test.YtmcnfapdghoenaaJG
namespace Go.Proofs.Ytmcnfapdghoenaa
open Go Go.RowKit

theorem chk0 : chkB (tabN s0 2304 0) 11000000 32 = true := by decide +kernel
theorem chk3 : chkB (tabN s3 2304 0) 11000000 32 = true := by decide +kernel
end Go.Proofs.Ytmcnfapdghoenaa
