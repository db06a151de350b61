
/- The time that a share survives leads back to the share: checks by the kernel, kind 1. Plain. -/
import Derived.Test.YtmcnfapdghoenaaN0
namespace Go.Proofs.Ytmcnfapdghoenaa
open Go Go.RowKit

theorem t1_6 : rB (t1B 6) 15 = true := by decide +kernel
theorem t1_7 : rB (t1B 7) 15 = true := by decide +kernel
theorem t1_8 : rB (t1B 8) 15 = true := by decide +kernel
theorem t1_9 : rB (t1B 9) 15 = true := by decide +kernel
end Go.Proofs.Ytmcnfapdghoenaa
