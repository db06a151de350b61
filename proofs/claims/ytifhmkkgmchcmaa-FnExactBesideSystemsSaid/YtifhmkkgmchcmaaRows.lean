/-
  No cell of these rows narrows 'for every input' (looked for: loops, veiled, ifaces, maps, wideKeys, modest, calm, conditions, laid).
  DERIVED. THE GIVEN ROWS OF THIS SEAT. 14 by the template 'for every input the law returns true; each argument reads behind the call as it read before'; 0 by the template 'total and deterministic' (their statements: YtifhmkkgmchcmaaTotals.lean).
  GIVEN WITH THE SEED: the statements are not yours to turn. If you find one false, say at which input.
  Laid BY PROGRAM, IN A SANDBOX (cutbox-rows.mjs): the forced cells as the released guide's own fill.sh prints them over the translation 656344ab2d128185… (all of the seat's roots in one cut). By AI agents, Wed Nov 11 2026. No macro, syntax, notation, axiom, sorry.
-/
import Derived.Test.YtifhmkkgmchcmaaChecked
import GoSem.Claim
import GoSem.ClaimJoined
import GoSem.ClaimMapViews
import Derived.JoinedTies
import Derived.KernelRfl
namespace Go.Proofs.Ytifhmkkgmchcmaa
/- THE CELL 'sum', in the pinned program and in every row, IS THE sha256 OF THE DUMP (.gsa) THAT YtifhmkkgmchcmaaProg.lean LOADS. Nothing in Lean hashes anything: it is a label: what it is worth is what the hold of that sum in a sandbox is worth. -/
noncomputable def Try.pinned : Pinned := { name := "ytifhmkkgmchcmaa", sum := "656344ab2d128185293a1f64d55a62109361054fe8b556003fde29ceedd17fe5", checked := Try.checked }
namespace Rows
def none {H : Type} : Left H := { results := [], args := [] }

/-- 'laws.FnExactValidSystem': WHATEVER THE INPUT: true; the input reads as it did. -/
def fnExactValidSystemSpec : ChangeSpec := { name := "fnExactValidSystem", fn := fun _ => fun
  | [d] => { results := [.lit (.bool true)], args := [d] }
  | _ => none }
def fnExactValidSystemRow : OpenClaim := { program := "ytifhmkkgmchcmaa", sum := "656344ab2d128185293a1f64d55a62109361054fe8b556003fde29ceedd17fe5", func := "loop.example/g01382/laws.FnExactValidSystem", spec := "fnExactValidSystem", unfollowed := true, recurses := true, apart := false }
def FnExactValidSystemSaid : Prop := fnExactValidSystemRow.holds Try.pinned (OpenSpec.ofChange fnExactValidSystemSpec)

/-- ITS FALSE NEIGHBOUR: 'it returns false'. Refute it at one input. -/
def fnExactValidSystemWrong : ChangeSpec := { name := "fnExactValidSystem", fn := fun _ => fun
  | [d] => { results := [.lit (.bool false)], args := [d] }
  | _ => none }
def FnExactValidSystemWrongFalsely : Prop := fnExactValidSystemRow.holds Try.pinned (OpenSpec.ofChange fnExactValidSystemWrong)

/-- 'laws.FnExactWorksWith': WHATEVER THE INPUT: true; the input reads as it did. -/
def fnExactWorksWithSpec : ChangeSpec := { name := "fnExactWorksWith", fn := fun _ => fun
  | [d1, d2] => { results := [.lit (.bool true)], args := [d1, d2] }
  | _ => none }
def fnExactWorksWithRow : OpenClaim := { program := "ytifhmkkgmchcmaa", sum := "656344ab2d128185293a1f64d55a62109361054fe8b556003fde29ceedd17fe5", func := "loop.example/g01382/laws.FnExactWorksWith", spec := "fnExactWorksWith", unfollowed := true, recurses := true, apart := false }
def FnExactWorksWithSaid : Prop := fnExactWorksWithRow.holds Try.pinned (OpenSpec.ofChange fnExactWorksWithSpec)

/-- ITS FALSE NEIGHBOUR: 'it returns false'. Refute it at one input. -/
def fnExactWorksWithWrong : ChangeSpec := { name := "fnExactWorksWith", fn := fun _ => fun
  | [d1, d2] => { results := [.lit (.bool false)], args := [d1, d2] }
  | _ => none }
def FnExactWorksWithWrongFalsely : Prop := fnExactWorksWithRow.holds Try.pinned (OpenSpec.ofChange fnExactWorksWithWrong)

/-- 'laws.FnExactSystemOf': WHATEVER THE INPUT: true; the input reads as it did. -/
def fnExactSystemOfSpec : ChangeSpec := { name := "fnExactSystemOf", fn := fun _ => fun
  | [d1, d2] => { results := [.lit (.bool true)], args := [d1, d2] }
  | _ => none }
def fnExactSystemOfRow : OpenClaim := { program := "ytifhmkkgmchcmaa", sum := "656344ab2d128185293a1f64d55a62109361054fe8b556003fde29ceedd17fe5", func := "loop.example/g01382/laws.FnExactSystemOf", spec := "fnExactSystemOf", unfollowed := true, recurses := true, apart := false }
def FnExactSystemOfSaid : Prop := fnExactSystemOfRow.holds Try.pinned (OpenSpec.ofChange fnExactSystemOfSpec)

/-- ITS FALSE NEIGHBOUR: 'it returns false'. Refute it at one input. -/
def fnExactSystemOfWrong : ChangeSpec := { name := "fnExactSystemOf", fn := fun _ => fun
  | [d1, d2] => { results := [.lit (.bool false)], args := [d1, d2] }
  | _ => none }
def FnExactSystemOfWrongFalsely : Prop := fnExactSystemOfRow.holds Try.pinned (OpenSpec.ofChange fnExactSystemOfWrong)

/-- 'laws.FnExactBesideSystems': WHATEVER THE INPUT: true; the input reads as it did. -/
def fnExactBesideSystemsSpec : ChangeSpec := { name := "fnExactBesideSystems", fn := fun _ => fun
  | [d1, d2] => { results := [.lit (.bool true)], args := [d1, d2] }
  | _ => none }
def fnExactBesideSystemsRow : OpenClaim := { program := "ytifhmkkgmchcmaa", sum := "656344ab2d128185293a1f64d55a62109361054fe8b556003fde29ceedd17fe5", func := "loop.example/g01382/laws.FnExactBesideSystems", spec := "fnExactBesideSystems", unfollowed := true, recurses := true, apart := false }
def FnExactBesideSystemsSaid : Prop := fnExactBesideSystemsRow.holds Try.pinned (OpenSpec.ofChange fnExactBesideSystemsSpec)

/-- ITS FALSE NEIGHBOUR: 'it returns false'. Refute it at one input. -/
def fnExactBesideSystemsWrong : ChangeSpec := { name := "fnExactBesideSystems", fn := fun _ => fun
  | [d1, d2] => { results := [.lit (.bool false)], args := [d1, d2] }
  | _ => none }
def FnExactBesideSystemsWrongFalsely : Prop := fnExactBesideSystemsRow.holds Try.pinned (OpenSpec.ofChange fnExactBesideSystemsWrong)

/-- 'laws.FnExactChainSystems': WHATEVER THE INPUT: true; the input reads as it did. -/
def fnExactChainSystemsSpec : ChangeSpec := { name := "fnExactChainSystems", fn := fun _ => fun
  | [d1, d2] => { results := [.lit (.bool true)], args := [d1, d2] }
  | _ => none }
def fnExactChainSystemsRow : OpenClaim := { program := "ytifhmkkgmchcmaa", sum := "656344ab2d128185293a1f64d55a62109361054fe8b556003fde29ceedd17fe5", func := "loop.example/g01382/laws.FnExactChainSystems", spec := "fnExactChainSystems", unfollowed := true, recurses := true, apart := false }
def FnExactChainSystemsSaid : Prop := fnExactChainSystemsRow.holds Try.pinned (OpenSpec.ofChange fnExactChainSystemsSpec)

/-- ITS FALSE NEIGHBOUR: 'it returns false'. Refute it at one input. -/
def fnExactChainSystemsWrong : ChangeSpec := { name := "fnExactChainSystems", fn := fun _ => fun
  | [d1, d2] => { results := [.lit (.bool false)], args := [d1, d2] }
  | _ => none }
def FnExactChainSystemsWrongFalsely : Prop := fnExactChainSystemsRow.holds Try.pinned (OpenSpec.ofChange fnExactChainSystemsWrong)

/-- 'laws.FnExactSwingCounts': WHATEVER THE INPUT: true; the input reads as it did. -/
def fnExactSwingCountsSpec : ChangeSpec := { name := "fnExactSwingCounts", fn := fun _ => fun
  | [d] => { results := [.lit (.bool true)], args := [d] }
  | _ => none }
def fnExactSwingCountsRow : OpenClaim := { program := "ytifhmkkgmchcmaa", sum := "656344ab2d128185293a1f64d55a62109361054fe8b556003fde29ceedd17fe5", func := "loop.example/g01382/laws.FnExactSwingCounts", spec := "fnExactSwingCounts", unfollowed := true, recurses := true, apart := false }
def FnExactSwingCountsSaid : Prop := fnExactSwingCountsRow.holds Try.pinned (OpenSpec.ofChange fnExactSwingCountsSpec)

/-- ITS FALSE NEIGHBOUR: 'it returns false'. Refute it at one input. -/
def fnExactSwingCountsWrong : ChangeSpec := { name := "fnExactSwingCounts", fn := fun _ => fun
  | [d] => { results := [.lit (.bool false)], args := [d] }
  | _ => none }
def FnExactSwingCountsWrongFalsely : Prop := fnExactSwingCountsRow.holds Try.pinned (OpenSpec.ofChange fnExactSwingCountsWrong)

/-- 'laws.FnExactCutsOf': WHATEVER THE INPUT: true; the input reads as it did. -/
def fnExactCutsOfSpec : ChangeSpec := { name := "fnExactCutsOf", fn := fun _ => fun
  | [d] => { results := [.lit (.bool true)], args := [d] }
  | _ => none }
def fnExactCutsOfRow : OpenClaim := { program := "ytifhmkkgmchcmaa", sum := "656344ab2d128185293a1f64d55a62109361054fe8b556003fde29ceedd17fe5", func := "loop.example/g01382/laws.FnExactCutsOf", spec := "fnExactCutsOf", unfollowed := true, recurses := true, apart := false }
def FnExactCutsOfSaid : Prop := fnExactCutsOfRow.holds Try.pinned (OpenSpec.ofChange fnExactCutsOfSpec)

/-- ITS FALSE NEIGHBOUR: 'it returns false'. Refute it at one input. -/
def fnExactCutsOfWrong : ChangeSpec := { name := "fnExactCutsOf", fn := fun _ => fun
  | [d] => { results := [.lit (.bool false)], args := [d] }
  | _ => none }
def FnExactCutsOfWrongFalsely : Prop := fnExactCutsOfRow.holds Try.pinned (OpenSpec.ofChange fnExactCutsOfWrong)

/-- 'laws.FnExactVoteSystem': WHATEVER THE INPUT: true; the input reads as it did. -/
def fnExactVoteSystemSpec : ChangeSpec := { name := "fnExactVoteSystem", fn := fun _ => fun
  | [d1, d2] => { results := [.lit (.bool true)], args := [d1, d2] }
  | _ => none }
def fnExactVoteSystemRow : OpenClaim := { program := "ytifhmkkgmchcmaa", sum := "656344ab2d128185293a1f64d55a62109361054fe8b556003fde29ceedd17fe5", func := "loop.example/g01382/laws.FnExactVoteSystem", spec := "fnExactVoteSystem", unfollowed := true, recurses := true, apart := false }
def FnExactVoteSystemSaid : Prop := fnExactVoteSystemRow.holds Try.pinned (OpenSpec.ofChange fnExactVoteSystemSpec)

/-- ITS FALSE NEIGHBOUR: 'it returns false'. Refute it at one input. -/
def fnExactVoteSystemWrong : ChangeSpec := { name := "fnExactVoteSystem", fn := fun _ => fun
  | [d1, d2] => { results := [.lit (.bool false)], args := [d1, d2] }
  | _ => none }
def FnExactVoteSystemWrongFalsely : Prop := fnExactVoteSystemRow.holds Try.pinned (OpenSpec.ofChange fnExactVoteSystemWrong)

/-- 'laws.FnExactOtherSystem': WHATEVER THE INPUT: true; the input reads as it did. -/
def fnExactOtherSystemSpec : ChangeSpec := { name := "fnExactOtherSystem", fn := fun _ => fun
  | [d] => { results := [.lit (.bool true)], args := [d] }
  | _ => none }
def fnExactOtherSystemRow : OpenClaim := { program := "ytifhmkkgmchcmaa", sum := "656344ab2d128185293a1f64d55a62109361054fe8b556003fde29ceedd17fe5", func := "loop.example/g01382/laws.FnExactOtherSystem", spec := "fnExactOtherSystem", unfollowed := true, recurses := true, apart := false }
def FnExactOtherSystemSaid : Prop := fnExactOtherSystemRow.holds Try.pinned (OpenSpec.ofChange fnExactOtherSystemSpec)

/-- ITS FALSE NEIGHBOUR: 'it returns false'. Refute it at one input. -/
def fnExactOtherSystemWrong : ChangeSpec := { name := "fnExactOtherSystem", fn := fun _ => fun
  | [d] => { results := [.lit (.bool false)], args := [d] }
  | _ => none }
def FnExactOtherSystemWrongFalsely : Prop := fnExactOtherSystemRow.holds Try.pinned (OpenSpec.ofChange fnExactOtherSystemWrong)

/-- 'laws.FnExactWorkingCounts': WHATEVER THE INPUT: true; the input reads as it did. -/
def fnExactWorkingCountsSpec : ChangeSpec := { name := "fnExactWorkingCounts", fn := fun _ => fun
  | [d] => { results := [.lit (.bool true)], args := [d] }
  | _ => none }
def fnExactWorkingCountsRow : OpenClaim := { program := "ytifhmkkgmchcmaa", sum := "656344ab2d128185293a1f64d55a62109361054fe8b556003fde29ceedd17fe5", func := "loop.example/g01382/laws.FnExactWorkingCounts", spec := "fnExactWorkingCounts", unfollowed := true, recurses := true, apart := false }
def FnExactWorkingCountsSaid : Prop := fnExactWorkingCountsRow.holds Try.pinned (OpenSpec.ofChange fnExactWorkingCountsSpec)

/-- ITS FALSE NEIGHBOUR: 'it returns false'. Refute it at one input. -/
def fnExactWorkingCountsWrong : ChangeSpec := { name := "fnExactWorkingCounts", fn := fun _ => fun
  | [d] => { results := [.lit (.bool false)], args := [d] }
  | _ => none }
def FnExactWorkingCountsWrongFalsely : Prop := fnExactWorkingCountsRow.holds Try.pinned (OpenSpec.ofChange fnExactWorkingCountsWrong)

/-- 'laws.FnExactChanceOf': WHATEVER THE INPUT: true; the input reads as it did. -/
def fnExactChanceOfSpec : ChangeSpec := { name := "fnExactChanceOf", fn := fun _ => fun
  | [d1, d2] => { results := [.lit (.bool true)], args := [d1, d2] }
  | _ => none }
def fnExactChanceOfRow : OpenClaim := { program := "ytifhmkkgmchcmaa", sum := "656344ab2d128185293a1f64d55a62109361054fe8b556003fde29ceedd17fe5", func := "loop.example/g01382/laws.FnExactChanceOf", spec := "fnExactChanceOf", unfollowed := true, recurses := true, apart := false }
def FnExactChanceOfSaid : Prop := fnExactChanceOfRow.holds Try.pinned (OpenSpec.ofChange fnExactChanceOfSpec)

/-- ITS FALSE NEIGHBOUR: 'it returns false'. Refute it at one input. -/
def fnExactChanceOfWrong : ChangeSpec := { name := "fnExactChanceOf", fn := fun _ => fun
  | [d1, d2] => { results := [.lit (.bool false)], args := [d1, d2] }
  | _ => none }
def FnExactChanceOfWrongFalsely : Prop := fnExactChanceOfRow.holds Try.pinned (OpenSpec.ofChange fnExactChanceOfWrong)

/-- 'laws.FnExactSharedShock': WHATEVER THE INPUT: true; the input reads as it did. -/
def fnExactSharedShockSpec : ChangeSpec := { name := "fnExactSharedShock", fn := fun _ => fun
  | [d1, d2, d3, d4] => { results := [.lit (.bool true)], args := [d1, d2, d3, d4] }
  | _ => none }
def fnExactSharedShockRow : OpenClaim := { program := "ytifhmkkgmchcmaa", sum := "656344ab2d128185293a1f64d55a62109361054fe8b556003fde29ceedd17fe5", func := "loop.example/g01382/laws.FnExactSharedShock", spec := "fnExactSharedShock", unfollowed := true, recurses := true, apart := false }
def FnExactSharedShockSaid : Prop := fnExactSharedShockRow.holds Try.pinned (OpenSpec.ofChange fnExactSharedShockSpec)

/-- ITS FALSE NEIGHBOUR: 'it returns false'. Refute it at one input. -/
def fnExactSharedShockWrong : ChangeSpec := { name := "fnExactSharedShock", fn := fun _ => fun
  | [d1, d2, d3, d4] => { results := [.lit (.bool false)], args := [d1, d2, d3, d4] }
  | _ => none }
def FnExactSharedShockWrongFalsely : Prop := fnExactSharedShockRow.holds Try.pinned (OpenSpec.ofChange fnExactSharedShockWrong)

/-- 'laws.FnExactChanceBounds': WHATEVER THE INPUT: true; the input reads as it did. -/
def fnExactChanceBoundsSpec : ChangeSpec := { name := "fnExactChanceBounds", fn := fun _ => fun
  | [d1, d2] => { results := [.lit (.bool true)], args := [d1, d2] }
  | _ => none }
def fnExactChanceBoundsRow : OpenClaim := { program := "ytifhmkkgmchcmaa", sum := "656344ab2d128185293a1f64d55a62109361054fe8b556003fde29ceedd17fe5", func := "loop.example/g01382/laws.FnExactChanceBounds", spec := "fnExactChanceBounds", unfollowed := true, recurses := true, apart := false }
def FnExactChanceBoundsSaid : Prop := fnExactChanceBoundsRow.holds Try.pinned (OpenSpec.ofChange fnExactChanceBoundsSpec)

/-- ITS FALSE NEIGHBOUR: 'it returns false'. Refute it at one input. -/
def fnExactChanceBoundsWrong : ChangeSpec := { name := "fnExactChanceBounds", fn := fun _ => fun
  | [d1, d2] => { results := [.lit (.bool false)], args := [d1, d2] }
  | _ => none }
def FnExactChanceBoundsWrongFalsely : Prop := fnExactChanceBoundsRow.holds Try.pinned (OpenSpec.ofChange fnExactChanceBoundsWrong)

/-- 'laws.FnExactPartChances': WHATEVER THE INPUT: true; the input reads as it did. -/
def fnExactPartChancesSpec : ChangeSpec := { name := "fnExactPartChances", fn := fun _ => fun
  | [d1, d2] => { results := [.lit (.bool true)], args := [d1, d2] }
  | _ => none }
def fnExactPartChancesRow : OpenClaim := { program := "ytifhmkkgmchcmaa", sum := "656344ab2d128185293a1f64d55a62109361054fe8b556003fde29ceedd17fe5", func := "loop.example/g01382/laws.FnExactPartChances", spec := "fnExactPartChances", unfollowed := true, recurses := true, apart := false }
def FnExactPartChancesSaid : Prop := fnExactPartChancesRow.holds Try.pinned (OpenSpec.ofChange fnExactPartChancesSpec)

/-- ITS FALSE NEIGHBOUR: 'it returns false'. Refute it at one input. -/
def fnExactPartChancesWrong : ChangeSpec := { name := "fnExactPartChances", fn := fun _ => fun
  | [d1, d2] => { results := [.lit (.bool false)], args := [d1, d2] }
  | _ => none }
def FnExactPartChancesWrongFalsely : Prop := fnExactPartChancesRow.holds Try.pinned (OpenSpec.ofChange fnExactPartChancesWrong)

/- THE SECOND FORM. 'bulk': how many values and letters a reading holds, each counted each time it is reached (what is shared counts as often as it is met; a slice's spare places count too). A statement '..UptoSaid' is the law's where the arguments, and the package variables that the reading takes, are together of bulk at most 1048576: NARROWER than '..Said'. Prove '..Said' where nothing that the law and all that it calls make is longer than what came in: it says more and counts as full. Else prove '..UptoSaid'. A law counts once. -/
mutual
def uptoBulk {H : Type} : DataW H → Nat
  | .lit (.string bytes) => bytes.length + 1
  | .lit _ => 1
  | .nil => 1
  | .ptr d => uptoBulk d + 1
  | .slice elems spare => uptoBulkAll elems + uptoBulkAll spare + 1
  | .agg parts => uptoBulkAll parts + 1
  | .iface _ d => uptoBulk d + 1
  | .map entries => uptoBulkEntries entries + 1
  | .held _ => 1
def uptoBulkAll {H : Type} : List (DataW H) → Nat
  | [] => 0
  | d :: r => uptoBulk d + uptoBulkAll r
def uptoBulkEntries {H : Type} : List (Lit × DataW H) → Nat
  | [] => 0
  | x :: r => uptoBulkEntry x + uptoBulkEntries r
def uptoBulkEntry {H : Type} : Lit × DataW H → Nat
  | (.string bytes, d) => bytes.length + uptoBulk d + 1
  | (_, d) => uptoBulk d + 1
 end
def uptoSmall : (H : Type) → List (DataW H) → Bool := fun _ ds => decide (uptoBulkAll ds ≤ 1048576)
def OpenSpec.upto (s : _root_.Go.ChangeSpec) : _root_.Go.OpenSpec := { _root_.Go.OpenSpec.ofChange s with cond := some uptoSmall }

/-- 'laws.FnExactValidSystem', WHERE WHAT IT READS IS OF BULK AT MOST 1048576: true; the input reads as it did. -/
def fnExactValidSystemUptoRow : OpenClaim := { program := "ytifhmkkgmchcmaa", sum := "656344ab2d128185293a1f64d55a62109361054fe8b556003fde29ceedd17fe5", func := "loop.example/g01382/laws.FnExactValidSystem", spec := "fnExactValidSystem", unfollowed := true, recurses := true, apart := false, narrowed := true }
def FnExactValidSystemUptoSaid : Prop := fnExactValidSystemUptoRow.holds Try.pinned (OpenSpec.upto fnExactValidSystemSpec)

/-- 'laws.FnExactWorksWith', WHERE WHAT IT READS IS OF BULK AT MOST 1048576: true; the input reads as it did. -/
def fnExactWorksWithUptoRow : OpenClaim := { program := "ytifhmkkgmchcmaa", sum := "656344ab2d128185293a1f64d55a62109361054fe8b556003fde29ceedd17fe5", func := "loop.example/g01382/laws.FnExactWorksWith", spec := "fnExactWorksWith", unfollowed := true, recurses := true, apart := false, narrowed := true }
def FnExactWorksWithUptoSaid : Prop := fnExactWorksWithUptoRow.holds Try.pinned (OpenSpec.upto fnExactWorksWithSpec)

/-- 'laws.FnExactSystemOf', WHERE WHAT IT READS IS OF BULK AT MOST 1048576: true; the input reads as it did. -/
def fnExactSystemOfUptoRow : OpenClaim := { program := "ytifhmkkgmchcmaa", sum := "656344ab2d128185293a1f64d55a62109361054fe8b556003fde29ceedd17fe5", func := "loop.example/g01382/laws.FnExactSystemOf", spec := "fnExactSystemOf", unfollowed := true, recurses := true, apart := false, narrowed := true }
def FnExactSystemOfUptoSaid : Prop := fnExactSystemOfUptoRow.holds Try.pinned (OpenSpec.upto fnExactSystemOfSpec)

/-- 'laws.FnExactBesideSystems', WHERE WHAT IT READS IS OF BULK AT MOST 1048576: true; the input reads as it did. -/
def fnExactBesideSystemsUptoRow : OpenClaim := { program := "ytifhmkkgmchcmaa", sum := "656344ab2d128185293a1f64d55a62109361054fe8b556003fde29ceedd17fe5", func := "loop.example/g01382/laws.FnExactBesideSystems", spec := "fnExactBesideSystems", unfollowed := true, recurses := true, apart := false, narrowed := true }
def FnExactBesideSystemsUptoSaid : Prop := fnExactBesideSystemsUptoRow.holds Try.pinned (OpenSpec.upto fnExactBesideSystemsSpec)

/-- 'laws.FnExactChainSystems', WHERE WHAT IT READS IS OF BULK AT MOST 1048576: true; the input reads as it did. -/
def fnExactChainSystemsUptoRow : OpenClaim := { program := "ytifhmkkgmchcmaa", sum := "656344ab2d128185293a1f64d55a62109361054fe8b556003fde29ceedd17fe5", func := "loop.example/g01382/laws.FnExactChainSystems", spec := "fnExactChainSystems", unfollowed := true, recurses := true, apart := false, narrowed := true }
def FnExactChainSystemsUptoSaid : Prop := fnExactChainSystemsUptoRow.holds Try.pinned (OpenSpec.upto fnExactChainSystemsSpec)

/-- 'laws.FnExactSwingCounts', WHERE WHAT IT READS IS OF BULK AT MOST 1048576: true; the input reads as it did. -/
def fnExactSwingCountsUptoRow : OpenClaim := { program := "ytifhmkkgmchcmaa", sum := "656344ab2d128185293a1f64d55a62109361054fe8b556003fde29ceedd17fe5", func := "loop.example/g01382/laws.FnExactSwingCounts", spec := "fnExactSwingCounts", unfollowed := true, recurses := true, apart := false, narrowed := true }
def FnExactSwingCountsUptoSaid : Prop := fnExactSwingCountsUptoRow.holds Try.pinned (OpenSpec.upto fnExactSwingCountsSpec)

/-- 'laws.FnExactCutsOf', WHERE WHAT IT READS IS OF BULK AT MOST 1048576: true; the input reads as it did. -/
def fnExactCutsOfUptoRow : OpenClaim := { program := "ytifhmkkgmchcmaa", sum := "656344ab2d128185293a1f64d55a62109361054fe8b556003fde29ceedd17fe5", func := "loop.example/g01382/laws.FnExactCutsOf", spec := "fnExactCutsOf", unfollowed := true, recurses := true, apart := false, narrowed := true }
def FnExactCutsOfUptoSaid : Prop := fnExactCutsOfUptoRow.holds Try.pinned (OpenSpec.upto fnExactCutsOfSpec)

/-- 'laws.FnExactVoteSystem', WHERE WHAT IT READS IS OF BULK AT MOST 1048576: true; the input reads as it did. -/
def fnExactVoteSystemUptoRow : OpenClaim := { program := "ytifhmkkgmchcmaa", sum := "656344ab2d128185293a1f64d55a62109361054fe8b556003fde29ceedd17fe5", func := "loop.example/g01382/laws.FnExactVoteSystem", spec := "fnExactVoteSystem", unfollowed := true, recurses := true, apart := false, narrowed := true }
def FnExactVoteSystemUptoSaid : Prop := fnExactVoteSystemUptoRow.holds Try.pinned (OpenSpec.upto fnExactVoteSystemSpec)

/-- 'laws.FnExactOtherSystem', WHERE WHAT IT READS IS OF BULK AT MOST 1048576: true; the input reads as it did. -/
def fnExactOtherSystemUptoRow : OpenClaim := { program := "ytifhmkkgmchcmaa", sum := "656344ab2d128185293a1f64d55a62109361054fe8b556003fde29ceedd17fe5", func := "loop.example/g01382/laws.FnExactOtherSystem", spec := "fnExactOtherSystem", unfollowed := true, recurses := true, apart := false, narrowed := true }
def FnExactOtherSystemUptoSaid : Prop := fnExactOtherSystemUptoRow.holds Try.pinned (OpenSpec.upto fnExactOtherSystemSpec)

/-- 'laws.FnExactWorkingCounts', WHERE WHAT IT READS IS OF BULK AT MOST 1048576: true; the input reads as it did. -/
def fnExactWorkingCountsUptoRow : OpenClaim := { program := "ytifhmkkgmchcmaa", sum := "656344ab2d128185293a1f64d55a62109361054fe8b556003fde29ceedd17fe5", func := "loop.example/g01382/laws.FnExactWorkingCounts", spec := "fnExactWorkingCounts", unfollowed := true, recurses := true, apart := false, narrowed := true }
def FnExactWorkingCountsUptoSaid : Prop := fnExactWorkingCountsUptoRow.holds Try.pinned (OpenSpec.upto fnExactWorkingCountsSpec)

/-- 'laws.FnExactChanceOf', WHERE WHAT IT READS IS OF BULK AT MOST 1048576: true; the input reads as it did. -/
def fnExactChanceOfUptoRow : OpenClaim := { program := "ytifhmkkgmchcmaa", sum := "656344ab2d128185293a1f64d55a62109361054fe8b556003fde29ceedd17fe5", func := "loop.example/g01382/laws.FnExactChanceOf", spec := "fnExactChanceOf", unfollowed := true, recurses := true, apart := false, narrowed := true }
def FnExactChanceOfUptoSaid : Prop := fnExactChanceOfUptoRow.holds Try.pinned (OpenSpec.upto fnExactChanceOfSpec)

/-- 'laws.FnExactSharedShock', WHERE WHAT IT READS IS OF BULK AT MOST 1048576: true; the input reads as it did. -/
def fnExactSharedShockUptoRow : OpenClaim := { program := "ytifhmkkgmchcmaa", sum := "656344ab2d128185293a1f64d55a62109361054fe8b556003fde29ceedd17fe5", func := "loop.example/g01382/laws.FnExactSharedShock", spec := "fnExactSharedShock", unfollowed := true, recurses := true, apart := false, narrowed := true }
def FnExactSharedShockUptoSaid : Prop := fnExactSharedShockUptoRow.holds Try.pinned (OpenSpec.upto fnExactSharedShockSpec)

/-- 'laws.FnExactChanceBounds', WHERE WHAT IT READS IS OF BULK AT MOST 1048576: true; the input reads as it did. -/
def fnExactChanceBoundsUptoRow : OpenClaim := { program := "ytifhmkkgmchcmaa", sum := "656344ab2d128185293a1f64d55a62109361054fe8b556003fde29ceedd17fe5", func := "loop.example/g01382/laws.FnExactChanceBounds", spec := "fnExactChanceBounds", unfollowed := true, recurses := true, apart := false, narrowed := true }
def FnExactChanceBoundsUptoSaid : Prop := fnExactChanceBoundsUptoRow.holds Try.pinned (OpenSpec.upto fnExactChanceBoundsSpec)

/-- 'laws.FnExactPartChances', WHERE WHAT IT READS IS OF BULK AT MOST 1048576: true; the input reads as it did. -/
def fnExactPartChancesUptoRow : OpenClaim := { program := "ytifhmkkgmchcmaa", sum := "656344ab2d128185293a1f64d55a62109361054fe8b556003fde29ceedd17fe5", func := "loop.example/g01382/laws.FnExactPartChances", spec := "fnExactPartChances", unfollowed := true, recurses := true, apart := false, narrowed := true }
def FnExactPartChancesUptoSaid : Prop := fnExactPartChancesUptoRow.holds Try.pinned (OpenSpec.upto fnExactPartChancesSpec)

end Rows
end Go.Proofs.Ytifhmkkgmchcmaa
