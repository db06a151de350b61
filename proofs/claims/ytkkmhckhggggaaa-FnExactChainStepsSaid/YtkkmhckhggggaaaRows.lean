/-
  No cell of these rows narrows 'for every input' (looked for: loops, veiled, ifaces, maps, wideKeys, modest, calm, conditions, laid).
  DERIVED. THE GIVEN ROWS OF THIS SEAT. 14 by the template 'for every input the law returns true; each argument reads behind the call as it read before'; 0 by the template 'total and deterministic' (their statements: YtkkmhckhggggaaaTotals.lean).
  GIVEN WITH THE SEED: the statements are not yours to turn. If you find one false, say at which input.
  Laid BY PROGRAM, IN A SANDBOX (cutbox-rows.mjs): the forced cells as the released guide's own fill.sh prints them over the translation 2ed49d34e4b75d25… (all of the seat's roots in one cut). By AI agents, Wed Nov 11 2026. No macro, syntax, notation, axiom, sorry.
-/
import Derived.Test.YtkkmhckhggggaaaChecked
import GoSem.Claim
import GoSem.ClaimJoined
import GoSem.ClaimMapViews
import Derived.JoinedTies
import Derived.KernelRfl
namespace Go.Proofs.Ytkkmhckhggggaaa
/- THE CELL 'sum', in the pinned program and in every row, IS THE sha256 OF THE DUMP (.gsa) THAT YtkkmhckhggggaaaProg.lean LOADS. Nothing in Lean hashes anything: it is a label: what it is worth is what the hold of that sum in a sandbox is worth. -/
noncomputable def Try.pinned : Pinned := { name := "ytkkmhckhggggaaa", sum := "2ed49d34e4b75d253863f17f460e0904222128687ab0d0f96fc6271cffee7ff7", checked := Try.checked }
namespace Rows
def none {H : Type} : Left H := { results := [], args := [] }

/-- 'laws.FnExactOrderLives': WHATEVER THE INPUT: true; the input reads as it did. -/
def fnExactOrderLivesSpec : ChangeSpec := { name := "fnExactOrderLives", fn := fun _ => fun
  | [d] => { results := [.lit (.bool true)], args := [d] }
  | _ => none }
def fnExactOrderLivesRow : OpenClaim := { program := "ytkkmhckhggggaaa", sum := "2ed49d34e4b75d253863f17f460e0904222128687ab0d0f96fc6271cffee7ff7", func := "loop.example/g01382/laws.FnExactOrderLives", spec := "fnExactOrderLives", unfollowed := true, recurses := true, apart := false }
def FnExactOrderLivesSaid : Prop := fnExactOrderLivesRow.holds Try.pinned (OpenSpec.ofChange fnExactOrderLivesSpec)

/-- ITS FALSE NEIGHBOUR: 'it returns false'. Refute it at one input. -/
def fnExactOrderLivesWrong : ChangeSpec := { name := "fnExactOrderLives", fn := fun _ => fun
  | [d] => { results := [.lit (.bool false)], args := [d] }
  | _ => none }
def FnExactOrderLivesWrongFalsely : Prop := fnExactOrderLivesRow.holds Try.pinned (OpenSpec.ofChange fnExactOrderLivesWrong)

/-- 'laws.FnExactFailureTimes': WHATEVER THE INPUT: true; the input reads as it did. -/
def fnExactFailureTimesSpec : ChangeSpec := { name := "fnExactFailureTimes", fn := fun _ => fun
  | [d] => { results := [.lit (.bool true)], args := [d] }
  | _ => none }
def fnExactFailureTimesRow : OpenClaim := { program := "ytkkmhckhggggaaa", sum := "2ed49d34e4b75d253863f17f460e0904222128687ab0d0f96fc6271cffee7ff7", func := "loop.example/g01382/laws.FnExactFailureTimes", spec := "fnExactFailureTimes", unfollowed := true, recurses := true, apart := false }
def FnExactFailureTimesSaid : Prop := fnExactFailureTimesRow.holds Try.pinned (OpenSpec.ofChange fnExactFailureTimesSpec)

/-- ITS FALSE NEIGHBOUR: 'it returns false'. Refute it at one input. -/
def fnExactFailureTimesWrong : ChangeSpec := { name := "fnExactFailureTimes", fn := fun _ => fun
  | [d] => { results := [.lit (.bool false)], args := [d] }
  | _ => none }
def FnExactFailureTimesWrongFalsely : Prop := fnExactFailureTimesRow.holds Try.pinned (OpenSpec.ofChange fnExactFailureTimesWrong)

/-- 'laws.FnExactMiddleLife': WHATEVER THE INPUT: true; the input reads as it did. -/
def fnExactMiddleLifeSpec : ChangeSpec := { name := "fnExactMiddleLife", fn := fun _ => fun
  | [d] => { results := [.lit (.bool true)], args := [d] }
  | _ => none }
def fnExactMiddleLifeRow : OpenClaim := { program := "ytkkmhckhggggaaa", sum := "2ed49d34e4b75d253863f17f460e0904222128687ab0d0f96fc6271cffee7ff7", func := "loop.example/g01382/laws.FnExactMiddleLife", spec := "fnExactMiddleLife", unfollowed := true, recurses := true, apart := false }
def FnExactMiddleLifeSaid : Prop := fnExactMiddleLifeRow.holds Try.pinned (OpenSpec.ofChange fnExactMiddleLifeSpec)

/-- ITS FALSE NEIGHBOUR: 'it returns false'. Refute it at one input. -/
def fnExactMiddleLifeWrong : ChangeSpec := { name := "fnExactMiddleLife", fn := fun _ => fun
  | [d] => { results := [.lit (.bool false)], args := [d] }
  | _ => none }
def FnExactMiddleLifeWrongFalsely : Prop := fnExactMiddleLifeRow.holds Try.pinned (OpenSpec.ofChange fnExactMiddleLifeWrong)

/-- 'laws.FnRanks': WHATEVER THE INPUT: true; the input reads as it did. -/
def fnRanksSpec : ChangeSpec := { name := "fnRanks", fn := fun _ => fun
  | [d1, d2] => { results := [.lit (.bool true)], args := [d1, d2] }
  | _ => none }
def fnRanksRow : OpenClaim := { program := "ytkkmhckhggggaaa", sum := "2ed49d34e4b75d253863f17f460e0904222128687ab0d0f96fc6271cffee7ff7", func := "loop.example/g01382/laws.FnRanks", spec := "fnRanks", unfollowed := true, recurses := true, apart := false }
def FnRanksSaid : Prop := fnRanksRow.holds Try.pinned (OpenSpec.ofChange fnRanksSpec)

/-- ITS FALSE NEIGHBOUR: 'it returns false'. Refute it at one input. -/
def fnRanksWrong : ChangeSpec := { name := "fnRanks", fn := fun _ => fun
  | [d1, d2] => { results := [.lit (.bool false)], args := [d1, d2] }
  | _ => none }
def FnRanksWrongFalsely : Prop := fnRanksRow.holds Try.pinned (OpenSpec.ofChange fnRanksWrong)

/-- 'laws.FnExactSurvivorAt': WHATEVER THE INPUT: true; the input reads as it did. -/
def fnExactSurvivorAtSpec : ChangeSpec := { name := "fnExactSurvivorAt", fn := fun _ => fun
  | [d1, d2] => { results := [.lit (.bool true)], args := [d1, d2] }
  | _ => none }
def fnExactSurvivorAtRow : OpenClaim := { program := "ytkkmhckhggggaaa", sum := "2ed49d34e4b75d253863f17f460e0904222128687ab0d0f96fc6271cffee7ff7", func := "loop.example/g01382/laws.FnExactSurvivorAt", spec := "fnExactSurvivorAt", unfollowed := true, recurses := true, apart := false }
def FnExactSurvivorAtSaid : Prop := fnExactSurvivorAtRow.holds Try.pinned (OpenSpec.ofChange fnExactSurvivorAtSpec)

/-- ITS FALSE NEIGHBOUR: 'it returns false'. Refute it at one input. -/
def fnExactSurvivorAtWrong : ChangeSpec := { name := "fnExactSurvivorAt", fn := fun _ => fun
  | [d1, d2] => { results := [.lit (.bool false)], args := [d1, d2] }
  | _ => none }
def FnExactSurvivorAtWrongFalsely : Prop := fnExactSurvivorAtRow.holds Try.pinned (OpenSpec.ofChange fnExactSurvivorAtWrong)

/-- 'laws.FnExactHazardSums': WHATEVER THE INPUT: true; the input reads as it did. -/
def fnExactHazardSumsSpec : ChangeSpec := { name := "fnExactHazardSums", fn := fun _ => fun
  | [d] => { results := [.lit (.bool true)], args := [d] }
  | _ => none }
def fnExactHazardSumsRow : OpenClaim := { program := "ytkkmhckhggggaaa", sum := "2ed49d34e4b75d253863f17f460e0904222128687ab0d0f96fc6271cffee7ff7", func := "loop.example/g01382/laws.FnExactHazardSums", spec := "fnExactHazardSums", unfollowed := true, recurses := true, apart := false }
def FnExactHazardSumsSaid : Prop := fnExactHazardSumsRow.holds Try.pinned (OpenSpec.ofChange fnExactHazardSumsSpec)

/-- ITS FALSE NEIGHBOUR: 'it returns false'. Refute it at one input. -/
def fnExactHazardSumsWrong : ChangeSpec := { name := "fnExactHazardSums", fn := fun _ => fun
  | [d] => { results := [.lit (.bool false)], args := [d] }
  | _ => none }
def FnExactHazardSumsWrongFalsely : Prop := fnExactHazardSumsRow.holds Try.pinned (OpenSpec.ofChange fnExactHazardSumsWrong)

/-- 'laws.FnExactSurvivorTable': WHATEVER THE INPUT: true; the input reads as it did. -/
def fnExactSurvivorTableSpec : ChangeSpec := { name := "fnExactSurvivorTable", fn := fun _ => fun
  | [d] => { results := [.lit (.bool true)], args := [d] }
  | _ => none }
def fnExactSurvivorTableRow : OpenClaim := { program := "ytkkmhckhggggaaa", sum := "2ed49d34e4b75d253863f17f460e0904222128687ab0d0f96fc6271cffee7ff7", func := "loop.example/g01382/laws.FnExactSurvivorTable", spec := "fnExactSurvivorTable", unfollowed := true, recurses := true, apart := false }
def FnExactSurvivorTableSaid : Prop := fnExactSurvivorTableRow.holds Try.pinned (OpenSpec.ofChange fnExactSurvivorTableSpec)

/-- ITS FALSE NEIGHBOUR: 'it returns false'. Refute it at one input. -/
def fnExactSurvivorTableWrong : ChangeSpec := { name := "fnExactSurvivorTable", fn := fun _ => fun
  | [d] => { results := [.lit (.bool false)], args := [d] }
  | _ => none }
def FnExactSurvivorTableWrongFalsely : Prop := fnExactSurvivorTableRow.holds Try.pinned (OpenSpec.ofChange fnExactSurvivorTableWrong)

/-- 'laws.FnExactLogRankOf': WHATEVER THE INPUT: true; the input reads as it did. -/
def fnExactLogRankOfSpec : ChangeSpec := { name := "fnExactLogRankOf", fn := fun _ => fun
  | [d1, d2] => { results := [.lit (.bool true)], args := [d1, d2] }
  | _ => none }
def fnExactLogRankOfRow : OpenClaim := { program := "ytkkmhckhggggaaa", sum := "2ed49d34e4b75d253863f17f460e0904222128687ab0d0f96fc6271cffee7ff7", func := "loop.example/g01382/laws.FnExactLogRankOf", spec := "fnExactLogRankOf", unfollowed := true, recurses := true, apart := false }
def FnExactLogRankOfSaid : Prop := fnExactLogRankOfRow.holds Try.pinned (OpenSpec.ofChange fnExactLogRankOfSpec)

/-- ITS FALSE NEIGHBOUR: 'it returns false'. Refute it at one input. -/
def fnExactLogRankOfWrong : ChangeSpec := { name := "fnExactLogRankOf", fn := fun _ => fun
  | [d1, d2] => { results := [.lit (.bool false)], args := [d1, d2] }
  | _ => none }
def FnExactLogRankOfWrongFalsely : Prop := fnExactLogRankOfRow.holds Try.pinned (OpenSpec.ofChange fnExactLogRankOfWrong)

/-- 'laws.FnExactPaperPairs': WHATEVER THE INPUT: true; the input reads as it did. -/
def fnExactPaperPairsSpec : ChangeSpec := { name := "fnExactPaperPairs", fn := fun _ => fun
  | [d] => { results := [.lit (.bool true)], args := [d] }
  | _ => none }
def fnExactPaperPairsRow : OpenClaim := { program := "ytkkmhckhggggaaa", sum := "2ed49d34e4b75d253863f17f460e0904222128687ab0d0f96fc6271cffee7ff7", func := "loop.example/g01382/laws.FnExactPaperPairs", spec := "fnExactPaperPairs", inPlace := ["math.Float64frombits", "math.Float64bits"], unfollowed := true, recurses := true, apart := false }
def FnExactPaperPairsSaid : Prop := fnExactPaperPairsRow.holds Try.pinned (OpenSpec.ofChange fnExactPaperPairsSpec)

/-- ITS FALSE NEIGHBOUR: 'it returns false'. Refute it at one input. -/
def fnExactPaperPairsWrong : ChangeSpec := { name := "fnExactPaperPairs", fn := fun _ => fun
  | [d] => { results := [.lit (.bool false)], args := [d] }
  | _ => none }
def FnExactPaperPairsWrongFalsely : Prop := fnExactPaperPairsRow.holds Try.pinned (OpenSpec.ofChange fnExactPaperPairsWrong)

/-- 'laws.FnTables': WHATEVER THE INPUT: true; the input reads as it did. -/
def fnTablesSpec : ChangeSpec := { name := "fnTables", fn := fun _ => fun
  | [d1, d2] => { results := [.lit (.bool true)], args := [d1, d2] }
  | _ => none }
def fnTablesRow : OpenClaim := { program := "ytkkmhckhggggaaa", sum := "2ed49d34e4b75d253863f17f460e0904222128687ab0d0f96fc6271cffee7ff7", func := "loop.example/g01382/laws.FnTables", spec := "fnTables", inPlace := ["math.sqrt"], unfollowed := true, recurses := true, apart := false }
def FnTablesSaid : Prop := fnTablesRow.holds Try.pinned (OpenSpec.ofChange fnTablesSpec)

/-- ITS FALSE NEIGHBOUR: 'it returns false'. Refute it at one input. -/
def fnTablesWrong : ChangeSpec := { name := "fnTables", fn := fun _ => fun
  | [d1, d2] => { results := [.lit (.bool false)], args := [d1, d2] }
  | _ => none }
def FnTablesWrongFalsely : Prop := fnTablesRow.holds Try.pinned (OpenSpec.ofChange fnTablesWrong)

/-- 'laws.FnExactSurvivorSpreads': WHATEVER THE INPUT: true; the input reads as it did. -/
def fnExactSurvivorSpreadsSpec : ChangeSpec := { name := "fnExactSurvivorSpreads", fn := fun _ => fun
  | [d] => { results := [.lit (.bool true)], args := [d] }
  | _ => none }
def fnExactSurvivorSpreadsRow : OpenClaim := { program := "ytkkmhckhggggaaa", sum := "2ed49d34e4b75d253863f17f460e0904222128687ab0d0f96fc6271cffee7ff7", func := "loop.example/g01382/laws.FnExactSurvivorSpreads", spec := "fnExactSurvivorSpreads", inPlace := ["math.sqrt"], unfollowed := true, recurses := true, apart := false }
def FnExactSurvivorSpreadsSaid : Prop := fnExactSurvivorSpreadsRow.holds Try.pinned (OpenSpec.ofChange fnExactSurvivorSpreadsSpec)

/-- ITS FALSE NEIGHBOUR: 'it returns false'. Refute it at one input. -/
def fnExactSurvivorSpreadsWrong : ChangeSpec := { name := "fnExactSurvivorSpreads", fn := fun _ => fun
  | [d] => { results := [.lit (.bool false)], args := [d] }
  | _ => none }
def FnExactSurvivorSpreadsWrongFalsely : Prop := fnExactSurvivorSpreadsRow.holds Try.pinned (OpenSpec.ofChange fnExactSurvivorSpreadsWrong)

/-- 'laws.FnExactSplitSpares': WHATEVER THE INPUT: true; the input reads as it did. -/
def fnExactSplitSparesSpec : ChangeSpec := { name := "fnExactSplitSpares", fn := fun _ => fun
  | [d1, d2] => { results := [.lit (.bool true)], args := [d1, d2] }
  | _ => none }
def fnExactSplitSparesRow : OpenClaim := { program := "ytkkmhckhggggaaa", sum := "2ed49d34e4b75d253863f17f460e0904222128687ab0d0f96fc6271cffee7ff7", func := "loop.example/g01382/laws.FnExactSplitSpares", spec := "fnExactSplitSpares", inPlace := ["math.Float64frombits"], unfollowed := true, recurses := true, apart := false }
def FnExactSplitSparesSaid : Prop := fnExactSplitSparesRow.holds Try.pinned (OpenSpec.ofChange fnExactSplitSparesSpec)

/-- ITS FALSE NEIGHBOUR: 'it returns false'. Refute it at one input. -/
def fnExactSplitSparesWrong : ChangeSpec := { name := "fnExactSplitSpares", fn := fun _ => fun
  | [d1, d2] => { results := [.lit (.bool false)], args := [d1, d2] }
  | _ => none }
def FnExactSplitSparesWrongFalsely : Prop := fnExactSplitSparesRow.holds Try.pinned (OpenSpec.ofChange fnExactSplitSparesWrong)

/-- 'laws.FnExactChainSteps': WHATEVER THE INPUT: true; the input reads as it did. -/
def fnExactChainStepsSpec : ChangeSpec := { name := "fnExactChainSteps", fn := fun _ => fun
  | [d1, d2, d3, d4] => { results := [.lit (.bool true)], args := [d1, d2, d3, d4] }
  | _ => none }
def fnExactChainStepsRow : OpenClaim := { program := "ytkkmhckhggggaaa", sum := "2ed49d34e4b75d253863f17f460e0904222128687ab0d0f96fc6271cffee7ff7", func := "loop.example/g01382/laws.FnExactChainSteps", spec := "fnExactChainSteps", unfollowed := true, recurses := true, apart := false }
def FnExactChainStepsSaid : Prop := fnExactChainStepsRow.holds Try.pinned (OpenSpec.ofChange fnExactChainStepsSpec)

/-- ITS FALSE NEIGHBOUR: 'it returns false'. Refute it at one input. -/
def fnExactChainStepsWrong : ChangeSpec := { name := "fnExactChainSteps", fn := fun _ => fun
  | [d1, d2, d3, d4] => { results := [.lit (.bool false)], args := [d1, d2, d3, d4] }
  | _ => none }
def FnExactChainStepsWrongFalsely : Prop := fnExactChainStepsRow.holds Try.pinned (OpenSpec.ofChange fnExactChainStepsWrong)

/-- 'laws.FnSpares': WHATEVER THE INPUT: true; the input reads as it did. -/
def fnSparesSpec : ChangeSpec := { name := "fnSpares", fn := fun _ => fun
  | [d1, d2] => { results := [.lit (.bool true)], args := [d1, d2] }
  | _ => none }
def fnSparesRow : OpenClaim := { program := "ytkkmhckhggggaaa", sum := "2ed49d34e4b75d253863f17f460e0904222128687ab0d0f96fc6271cffee7ff7", func := "loop.example/g01382/laws.FnSpares", spec := "fnSpares", inPlace := ["math.Float64frombits"], unfollowed := true, recurses := true, apart := false }
def FnSparesSaid : Prop := fnSparesRow.holds Try.pinned (OpenSpec.ofChange fnSparesSpec)

/-- ITS FALSE NEIGHBOUR: 'it returns false'. Refute it at one input. -/
def fnSparesWrong : ChangeSpec := { name := "fnSpares", fn := fun _ => fun
  | [d1, d2] => { results := [.lit (.bool false)], args := [d1, d2] }
  | _ => none }
def FnSparesWrongFalsely : Prop := fnSparesRow.holds Try.pinned (OpenSpec.ofChange fnSparesWrong)

/- THE SECOND FORM. 'bulk': how many values and letters a reading holds, each counted each time it is reached (what is shared counts as often as it is met; a slice's spare places count too). A statement '..UptoSaid' is the law's where the arguments, and the package variables that the reading takes, are together of bulk at most 1048576: NARROWER than '..Said'. Prove '..Said' where nothing that the law and all that it calls make is longer than what came in: it says more and counts as full. Else prove '..UptoSaid'. A law counts once. -/
mutual
def uptoBulk {H : Type} : DataW H → Nat
  | .lit (.string bytes) => bytes.length + 1
  | .lit _ => 1
  | .nil => 1
  | .ptr d => uptoBulk d + 1
  | .slice elems spare => uptoBulkAll elems + uptoBulkAll spare + 1
  | .agg parts => uptoBulkAll parts + 1
  | .iface _ d => uptoBulk d + 1
  | .map entries => uptoBulkEntries entries + 1
  | .held _ => 1
def uptoBulkAll {H : Type} : List (DataW H) → Nat
  | [] => 0
  | d :: r => uptoBulk d + uptoBulkAll r
def uptoBulkEntries {H : Type} : List (Lit × DataW H) → Nat
  | [] => 0
  | x :: r => uptoBulkEntry x + uptoBulkEntries r
def uptoBulkEntry {H : Type} : Lit × DataW H → Nat
  | (.string bytes, d) => bytes.length + uptoBulk d + 1
  | (_, d) => uptoBulk d + 1
 end
def uptoSmall : (H : Type) → List (DataW H) → Bool := fun _ ds => decide (uptoBulkAll ds ≤ 1048576)
def OpenSpec.upto (s : _root_.Go.ChangeSpec) : _root_.Go.OpenSpec := { _root_.Go.OpenSpec.ofChange s with cond := some uptoSmall }

/-- 'laws.FnExactOrderLives', WHERE WHAT IT READS IS OF BULK AT MOST 1048576: true; the input reads as it did. -/
def fnExactOrderLivesUptoRow : OpenClaim := { program := "ytkkmhckhggggaaa", sum := "2ed49d34e4b75d253863f17f460e0904222128687ab0d0f96fc6271cffee7ff7", func := "loop.example/g01382/laws.FnExactOrderLives", spec := "fnExactOrderLives", unfollowed := true, recurses := true, apart := false, narrowed := true }
def FnExactOrderLivesUptoSaid : Prop := fnExactOrderLivesUptoRow.holds Try.pinned (OpenSpec.upto fnExactOrderLivesSpec)

/-- 'laws.FnExactFailureTimes', WHERE WHAT IT READS IS OF BULK AT MOST 1048576: true; the input reads as it did. -/
def fnExactFailureTimesUptoRow : OpenClaim := { program := "ytkkmhckhggggaaa", sum := "2ed49d34e4b75d253863f17f460e0904222128687ab0d0f96fc6271cffee7ff7", func := "loop.example/g01382/laws.FnExactFailureTimes", spec := "fnExactFailureTimes", unfollowed := true, recurses := true, apart := false, narrowed := true }
def FnExactFailureTimesUptoSaid : Prop := fnExactFailureTimesUptoRow.holds Try.pinned (OpenSpec.upto fnExactFailureTimesSpec)

/-- 'laws.FnExactMiddleLife', WHERE WHAT IT READS IS OF BULK AT MOST 1048576: true; the input reads as it did. -/
def fnExactMiddleLifeUptoRow : OpenClaim := { program := "ytkkmhckhggggaaa", sum := "2ed49d34e4b75d253863f17f460e0904222128687ab0d0f96fc6271cffee7ff7", func := "loop.example/g01382/laws.FnExactMiddleLife", spec := "fnExactMiddleLife", unfollowed := true, recurses := true, apart := false, narrowed := true }
def FnExactMiddleLifeUptoSaid : Prop := fnExactMiddleLifeUptoRow.holds Try.pinned (OpenSpec.upto fnExactMiddleLifeSpec)

/-- 'laws.FnRanks', WHERE WHAT IT READS IS OF BULK AT MOST 1048576: true; the input reads as it did. -/
def fnRanksUptoRow : OpenClaim := { program := "ytkkmhckhggggaaa", sum := "2ed49d34e4b75d253863f17f460e0904222128687ab0d0f96fc6271cffee7ff7", func := "loop.example/g01382/laws.FnRanks", spec := "fnRanks", unfollowed := true, recurses := true, apart := false, narrowed := true }
def FnRanksUptoSaid : Prop := fnRanksUptoRow.holds Try.pinned (OpenSpec.upto fnRanksSpec)

/-- 'laws.FnExactSurvivorAt', WHERE WHAT IT READS IS OF BULK AT MOST 1048576: true; the input reads as it did. -/
def fnExactSurvivorAtUptoRow : OpenClaim := { program := "ytkkmhckhggggaaa", sum := "2ed49d34e4b75d253863f17f460e0904222128687ab0d0f96fc6271cffee7ff7", func := "loop.example/g01382/laws.FnExactSurvivorAt", spec := "fnExactSurvivorAt", unfollowed := true, recurses := true, apart := false, narrowed := true }
def FnExactSurvivorAtUptoSaid : Prop := fnExactSurvivorAtUptoRow.holds Try.pinned (OpenSpec.upto fnExactSurvivorAtSpec)

/-- 'laws.FnExactHazardSums', WHERE WHAT IT READS IS OF BULK AT MOST 1048576: true; the input reads as it did. -/
def fnExactHazardSumsUptoRow : OpenClaim := { program := "ytkkmhckhggggaaa", sum := "2ed49d34e4b75d253863f17f460e0904222128687ab0d0f96fc6271cffee7ff7", func := "loop.example/g01382/laws.FnExactHazardSums", spec := "fnExactHazardSums", unfollowed := true, recurses := true, apart := false, narrowed := true }
def FnExactHazardSumsUptoSaid : Prop := fnExactHazardSumsUptoRow.holds Try.pinned (OpenSpec.upto fnExactHazardSumsSpec)

/-- 'laws.FnExactSurvivorTable', WHERE WHAT IT READS IS OF BULK AT MOST 1048576: true; the input reads as it did. -/
def fnExactSurvivorTableUptoRow : OpenClaim := { program := "ytkkmhckhggggaaa", sum := "2ed49d34e4b75d253863f17f460e0904222128687ab0d0f96fc6271cffee7ff7", func := "loop.example/g01382/laws.FnExactSurvivorTable", spec := "fnExactSurvivorTable", unfollowed := true, recurses := true, apart := false, narrowed := true }
def FnExactSurvivorTableUptoSaid : Prop := fnExactSurvivorTableUptoRow.holds Try.pinned (OpenSpec.upto fnExactSurvivorTableSpec)

/-- 'laws.FnExactLogRankOf', WHERE WHAT IT READS IS OF BULK AT MOST 1048576: true; the input reads as it did. -/
def fnExactLogRankOfUptoRow : OpenClaim := { program := "ytkkmhckhggggaaa", sum := "2ed49d34e4b75d253863f17f460e0904222128687ab0d0f96fc6271cffee7ff7", func := "loop.example/g01382/laws.FnExactLogRankOf", spec := "fnExactLogRankOf", unfollowed := true, recurses := true, apart := false, narrowed := true }
def FnExactLogRankOfUptoSaid : Prop := fnExactLogRankOfUptoRow.holds Try.pinned (OpenSpec.upto fnExactLogRankOfSpec)

/-- 'laws.FnExactPaperPairs', WHERE WHAT IT READS IS OF BULK AT MOST 1048576: true; the input reads as it did. -/
def fnExactPaperPairsUptoRow : OpenClaim := { program := "ytkkmhckhggggaaa", sum := "2ed49d34e4b75d253863f17f460e0904222128687ab0d0f96fc6271cffee7ff7", func := "loop.example/g01382/laws.FnExactPaperPairs", spec := "fnExactPaperPairs", inPlace := ["math.Float64frombits", "math.Float64bits"], unfollowed := true, recurses := true, apart := false, narrowed := true }
def FnExactPaperPairsUptoSaid : Prop := fnExactPaperPairsUptoRow.holds Try.pinned (OpenSpec.upto fnExactPaperPairsSpec)

/-- 'laws.FnTables', WHERE WHAT IT READS IS OF BULK AT MOST 1048576: true; the input reads as it did. -/
def fnTablesUptoRow : OpenClaim := { program := "ytkkmhckhggggaaa", sum := "2ed49d34e4b75d253863f17f460e0904222128687ab0d0f96fc6271cffee7ff7", func := "loop.example/g01382/laws.FnTables", spec := "fnTables", inPlace := ["math.sqrt"], unfollowed := true, recurses := true, apart := false, narrowed := true }
def FnTablesUptoSaid : Prop := fnTablesUptoRow.holds Try.pinned (OpenSpec.upto fnTablesSpec)

/-- 'laws.FnExactSurvivorSpreads', WHERE WHAT IT READS IS OF BULK AT MOST 1048576: true; the input reads as it did. -/
def fnExactSurvivorSpreadsUptoRow : OpenClaim := { program := "ytkkmhckhggggaaa", sum := "2ed49d34e4b75d253863f17f460e0904222128687ab0d0f96fc6271cffee7ff7", func := "loop.example/g01382/laws.FnExactSurvivorSpreads", spec := "fnExactSurvivorSpreads", inPlace := ["math.sqrt"], unfollowed := true, recurses := true, apart := false, narrowed := true }
def FnExactSurvivorSpreadsUptoSaid : Prop := fnExactSurvivorSpreadsUptoRow.holds Try.pinned (OpenSpec.upto fnExactSurvivorSpreadsSpec)

/-- 'laws.FnExactSplitSpares', WHERE WHAT IT READS IS OF BULK AT MOST 1048576: true; the input reads as it did. -/
def fnExactSplitSparesUptoRow : OpenClaim := { program := "ytkkmhckhggggaaa", sum := "2ed49d34e4b75d253863f17f460e0904222128687ab0d0f96fc6271cffee7ff7", func := "loop.example/g01382/laws.FnExactSplitSpares", spec := "fnExactSplitSpares", inPlace := ["math.Float64frombits"], unfollowed := true, recurses := true, apart := false, narrowed := true }
def FnExactSplitSparesUptoSaid : Prop := fnExactSplitSparesUptoRow.holds Try.pinned (OpenSpec.upto fnExactSplitSparesSpec)

/-- 'laws.FnExactChainSteps', WHERE WHAT IT READS IS OF BULK AT MOST 1048576: true; the input reads as it did. -/
def fnExactChainStepsUptoRow : OpenClaim := { program := "ytkkmhckhggggaaa", sum := "2ed49d34e4b75d253863f17f460e0904222128687ab0d0f96fc6271cffee7ff7", func := "loop.example/g01382/laws.FnExactChainSteps", spec := "fnExactChainSteps", unfollowed := true, recurses := true, apart := false, narrowed := true }
def FnExactChainStepsUptoSaid : Prop := fnExactChainStepsUptoRow.holds Try.pinned (OpenSpec.upto fnExactChainStepsSpec)

/-- 'laws.FnSpares', WHERE WHAT IT READS IS OF BULK AT MOST 1048576: true; the input reads as it did. -/
def fnSparesUptoRow : OpenClaim := { program := "ytkkmhckhggggaaa", sum := "2ed49d34e4b75d253863f17f460e0904222128687ab0d0f96fc6271cffee7ff7", func := "loop.example/g01382/laws.FnSpares", spec := "fnSpares", inPlace := ["math.Float64frombits"], unfollowed := true, recurses := true, apart := false, narrowed := true }
def FnSparesUptoSaid : Prop := fnSparesUptoRow.holds Try.pinned (OpenSpec.upto fnSparesSpec)

end Rows
end Go.Proofs.Ytkkmhckhggggaaa
