
/- The time that a share survives leads back to the share: checks by the kernel, kind 2. Plain. -/
import Derived.Test.YtmcnfapdghoenaaN0
namespace Go.Proofs.Ytmcnfapdghoenaa
open Go Go.RowKit

theorem t2_2 : rB (t2B 2) 15 = true := by decide +kernel
theorem t2_3 : rB (t2B 3) 15 = true := by decide +kernel
theorem t2_4 : rB (t2B 4) 15 = true := by decide +kernel
theorem t2_5 : rB (t2B 5) 15 = true := by decide +kernel
end Go.Proofs.Ytmcnfapdghoenaa
