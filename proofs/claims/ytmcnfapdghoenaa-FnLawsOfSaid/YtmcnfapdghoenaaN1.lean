
/- The time that a share survives leads back to the share: checks by the kernel, kind 1. Plain. -/
import Derived.Test.YtmcnfapdghoenaaN0
namespace Go.Proofs.Ytmcnfapdghoenaa
open Go Go.RowKit

theorem t1_2 : rB (t1B 2) 15 = true := by decide +kernel
theorem t1_3 : rB (t1B 3) 15 = true := by decide +kernel
theorem t1_4 : rB (t1B 4) 15 = true := by decide +kernel
theorem t1_5 : rB (t1B 5) 15 = true := by decide +kernel
end Go.Proofs.Ytmcnfapdghoenaa
