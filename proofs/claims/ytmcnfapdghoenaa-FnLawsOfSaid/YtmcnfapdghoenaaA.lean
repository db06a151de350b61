
/- Contracts of the laws' helpers for lists of integers and for systems, and of the two functions SameSystem. Conditions: lists that can be read, of at most 2^20 numbers where they are copied. -/
import Derived.Test.YtmcnfapdghoenaaProg
import Derived.Test.YtmcnfapdghoenaaLib
import Derived.Test.YtmcnfapdghoenaaRg
import Derived.Deep.QuietTactic
import Derived.BigQuiet
import Derived.Outline
namespace Go.Proofs.Ytmcnfapdghoenaa
open Go Go.RowKit

theorem infoI64 : (Try.prog.info? 2).map (fun i => (i.zero, i.size, i.bytes)) = some (some (.int .i64 0), 1, 8) := by kernel_rfl

def sysEqB (p q : Int) (zs ys : List Int) : Bool := decide (p = q ∧ zs = ys)
theorem sysEqB_self (p : Int) (zs : List Int) : sysEqB p p zs zs = true := by simp [sysEqB]




end Go.Proofs.Ytmcnfapdghoenaa
