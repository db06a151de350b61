
/- The time that a share survives leads back to the share: checks by the kernel, kind 1. Plain. -/
import Derived.Test.YtmcnfapdghoenaaN0
namespace Go.Proofs.Ytmcnfapdghoenaa
open Go Go.RowKit

theorem t1_10 : rB (t1B 10) 15 = true := by decide +kernel
theorem t1_11 : rB (t1B 11) 15 = true := by decide +kernel
theorem t1_12 : rB (t1B 12) 15 = true := by decide +kernel
end Go.Proofs.Ytmcnfapdghoenaa
