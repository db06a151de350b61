
/- The time that a share survives leads back to the share: checks by the kernel, kind 2. Plain. -/
import Derived.Test.YtmcnfapdghoenaaN0
namespace Go.Proofs.Ytmcnfapdghoenaa
open Go Go.RowKit

theorem t2_6 : rB (t2B 6) 15 = true := by decide +kernel
theorem t2_7 : rB (t2B 7) 15 = true := by decide +kernel
theorem t2_8 : rB (t2B 8) 15 = true := by decide +kernel
theorem t2_9 : rB (t2B 9) 15 = true := by decide +kernel
end Go.Proofs.Ytmcnfapdghoenaa
