
/- The time that a share survives leads back to the share: checks by the kernel, kind 2. Plain. -/
import Derived.Test.YtmcnfapdghoenaaN0
namespace Go.Proofs.Ytmcnfapdghoenaa
open Go Go.RowKit

theorem t2_10 : rB (t2B 10) 15 = true := by decide +kernel
theorem t2_11 : rB (t2B 11) 15 = true := by decide +kernel
theorem t2_12 : rB (t2B 12) 15 = true := by decide +kernel
end Go.Proofs.Ytmcnfapdghoenaa
