/-
  No cell of these rows narrows 'for every input' (looked for: loops, veiled, ifaces, maps, wideKeys, modest, calm, conditions, laid).
  DERIVED. THE GIVEN ROWS OF THIS SEAT. 12 by the template 'for every input the law returns true; each argument reads behind the call as it read before'; 0 by the template 'total and deterministic' (their statements: YtnlnjhbckfcmfaaTotals.lean).
  GIVEN WITH THE SEED: the statements are not yours to turn. If you find one false, say at which input.
  Laid BY PROGRAM, IN A SANDBOX (cutbox-rows.mjs): the forced cells as the released guide's own fill.sh prints them over the translation 7ce9ac0b5a859e52… (all of the seat's roots in one cut). By AI agents, Wed Nov 11 2026. No macro, syntax, notation, axiom, sorry.
-/
import Derived.Test.YtnlnjhbckfcmfaaChecked
import GoSem.Claim
import GoSem.ClaimJoined
import GoSem.ClaimMapViews
import Derived.JoinedTies
import Derived.KernelRfl
namespace Go.Proofs.Ytnlnjhbckfcmfaa
/- THE CELL 'sum', in the pinned program and in every row, IS THE sha256 OF THE DUMP (.gsa) THAT YtnlnjhbckfcmfaaProg.lean LOADS. Nothing in Lean hashes anything: it is a label: what it is worth is what the hold of that sum in a sandbox is worth. -/
noncomputable def Try.pinned : Pinned := { name := "ytnlnjhbckfcmfaa", sum := "7ce9ac0b5a859e52fbbdbeb5825d5b6bdeb7b9d62b000f3bd01fda6ca68580a6", checked := Try.checked }
namespace Rows
def none {H : Type} : Left H := { results := [], args := [] }

/-- 'laws.FnExactSameSystem': WHATEVER THE INPUT: true; the input reads as it did. -/
def fnExactSameSystemSpec : ChangeSpec := { name := "fnExactSameSystem", fn := fun _ => fun
  | [d1, d2] => { results := [.lit (.bool true)], args := [d1, d2] }
  | _ => none }
def fnExactSameSystemRow : OpenClaim := { program := "ytnlnjhbckfcmfaa", sum := "7ce9ac0b5a859e52fbbdbeb5825d5b6bdeb7b9d62b000f3bd01fda6ca68580a6", func := "loop.example/g01382/laws.FnExactSameSystem", spec := "fnExactSameSystem", apart := false }
def FnExactSameSystemSaid : Prop := fnExactSameSystemRow.holds Try.pinned (OpenSpec.ofChange fnExactSameSystemSpec)

/-- ITS FALSE NEIGHBOUR: 'it returns false'. Refute it at one input. -/
def fnExactSameSystemWrong : ChangeSpec := { name := "fnExactSameSystem", fn := fun _ => fun
  | [d1, d2] => { results := [.lit (.bool false)], args := [d1, d2] }
  | _ => none }
def FnExactSameSystemWrongFalsely : Prop := fnExactSameSystemRow.holds Try.pinned (OpenSpec.ofChange fnExactSameSystemWrong)

/-- 'laws.FnExactValidChain': WHATEVER THE INPUT: true; the input reads as it did. -/
def fnExactValidChainSpec : ChangeSpec := { name := "fnExactValidChain", fn := fun _ => fun
  | [d] => { results := [.lit (.bool true)], args := [d] }
  | _ => none }
def fnExactValidChainRow : OpenClaim := { program := "ytnlnjhbckfcmfaa", sum := "7ce9ac0b5a859e52fbbdbeb5825d5b6bdeb7b9d62b000f3bd01fda6ca68580a6", func := "loop.example/g01382/laws.FnExactValidChain", spec := "fnExactValidChain", unfollowed := true, recurses := true, apart := false }
def FnExactValidChainSaid : Prop := fnExactValidChainRow.holds Try.pinned (OpenSpec.ofChange fnExactValidChainSpec)

/-- ITS FALSE NEIGHBOUR: 'it returns false'. Refute it at one input. -/
def fnExactValidChainWrong : ChangeSpec := { name := "fnExactValidChain", fn := fun _ => fun
  | [d] => { results := [.lit (.bool false)], args := [d] }
  | _ => none }
def FnExactValidChainWrongFalsely : Prop := fnExactValidChainRow.holds Try.pinned (OpenSpec.ofChange fnExactValidChainWrong)

/-- 'laws.FnExactSameChain': WHATEVER THE INPUT: true; the input reads as it did. -/
def fnExactSameChainSpec : ChangeSpec := { name := "fnExactSameChain", fn := fun _ => fun
  | [d1, d2] => { results := [.lit (.bool true)], args := [d1, d2] }
  | _ => none }
def fnExactSameChainRow : OpenClaim := { program := "ytnlnjhbckfcmfaa", sum := "7ce9ac0b5a859e52fbbdbeb5825d5b6bdeb7b9d62b000f3bd01fda6ca68580a6", func := "loop.example/g01382/laws.FnExactSameChain", spec := "fnExactSameChain", inPlace := ["math.Float32bits", "math.Float64bits"], unfollowed := true, recurses := true, apart := false }
def FnExactSameChainSaid : Prop := fnExactSameChainRow.holds Try.pinned (OpenSpec.ofChange fnExactSameChainSpec)

/-- ITS FALSE NEIGHBOUR: 'it returns false'. Refute it at one input. -/
def fnExactSameChainWrong : ChangeSpec := { name := "fnExactSameChain", fn := fun _ => fun
  | [d1, d2] => { results := [.lit (.bool false)], args := [d1, d2] }
  | _ => none }
def FnExactSameChainWrongFalsely : Prop := fnExactSameChainRow.holds Try.pinned (OpenSpec.ofChange fnExactSameChainWrong)

/-- 'laws.FnExactDiagramChance': WHATEVER THE INPUT: true; the input reads as it did. -/
def fnExactDiagramChanceSpec : ChangeSpec := { name := "fnExactDiagramChance", fn := fun _ => fun
  | [d1, d2] => { results := [.lit (.bool true)], args := [d1, d2] }
  | _ => none }
def fnExactDiagramChanceRow : OpenClaim := { program := "ytnlnjhbckfcmfaa", sum := "7ce9ac0b5a859e52fbbdbeb5825d5b6bdeb7b9d62b000f3bd01fda6ca68580a6", func := "loop.example/g01382/laws.FnExactDiagramChance", spec := "fnExactDiagramChance", unfollowed := true, recurses := true, apart := false }
def FnExactDiagramChanceSaid : Prop := fnExactDiagramChanceRow.holds Try.pinned (OpenSpec.ofChange fnExactDiagramChanceSpec)

/-- ITS FALSE NEIGHBOUR: 'it returns false'. Refute it at one input. -/
def fnExactDiagramChanceWrong : ChangeSpec := { name := "fnExactDiagramChance", fn := fun _ => fun
  | [d1, d2] => { results := [.lit (.bool false)], args := [d1, d2] }
  | _ => none }
def FnExactDiagramChanceWrongFalsely : Prop := fnExactDiagramChanceRow.holds Try.pinned (OpenSpec.ofChange fnExactDiagramChanceWrong)

/-- 'laws.FnExactSparesFor': WHATEVER THE INPUT: true; the input reads as it did. -/
def fnExactSparesForSpec : ChangeSpec := { name := "fnExactSparesFor", fn := fun _ => fun
  | [d1, d2] => { results := [.lit (.bool true)], args := [d1, d2] }
  | _ => none }
def fnExactSparesForRow : OpenClaim := { program := "ytnlnjhbckfcmfaa", sum := "7ce9ac0b5a859e52fbbdbeb5825d5b6bdeb7b9d62b000f3bd01fda6ca68580a6", func := "loop.example/g01382/laws.FnExactSparesFor", spec := "fnExactSparesFor", inPlace := ["math.Float64frombits"], unfollowed := true, recurses := true, apart := false }
def FnExactSparesForSaid : Prop := fnExactSparesForRow.holds Try.pinned (OpenSpec.ofChange fnExactSparesForSpec)

/-- ITS FALSE NEIGHBOUR: 'it returns false'. Refute it at one input. -/
def fnExactSparesForWrong : ChangeSpec := { name := "fnExactSparesFor", fn := fun _ => fun
  | [d1, d2] => { results := [.lit (.bool false)], args := [d1, d2] }
  | _ => none }
def FnExactSparesForWrongFalsely : Prop := fnExactSparesForRow.holds Try.pinned (OpenSpec.ofChange fnExactSparesForWrong)

/-- 'laws.FnSpares': WHATEVER THE INPUT: true; the input reads as it did. -/
def fnSparesSpec : ChangeSpec := { name := "fnSpares", fn := fun _ => fun
  | [d1, d2] => { results := [.lit (.bool true)], args := [d1, d2] }
  | _ => none }
def fnSparesRow : OpenClaim := { program := "ytnlnjhbckfcmfaa", sum := "7ce9ac0b5a859e52fbbdbeb5825d5b6bdeb7b9d62b000f3bd01fda6ca68580a6", func := "loop.example/g01382/laws.FnSpares", spec := "fnSpares", inPlace := ["math.Float64frombits"], unfollowed := true, recurses := true, apart := false }
def FnSparesSaid : Prop := fnSparesRow.holds Try.pinned (OpenSpec.ofChange fnSparesSpec)

/-- ITS FALSE NEIGHBOUR: 'it returns false'. Refute it at one input. -/
def fnSparesWrong : ChangeSpec := { name := "fnSpares", fn := fun _ => fun
  | [d1, d2] => { results := [.lit (.bool false)], args := [d1, d2] }
  | _ => none }
def FnSparesWrongFalsely : Prop := fnSparesRow.holds Try.pinned (OpenSpec.ofChange fnSparesWrong)

/-- 'laws.FnExactCrewBalance': WHATEVER THE INPUT: true; the input reads as it did. -/
def fnExactCrewBalanceSpec : ChangeSpec := { name := "fnExactCrewBalance", fn := fun _ => fun
  | [d1, d2, d3, d4] => { results := [.lit (.bool true)], args := [d1, d2, d3, d4] }
  | _ => none }
def fnExactCrewBalanceRow : OpenClaim := { program := "ytnlnjhbckfcmfaa", sum := "7ce9ac0b5a859e52fbbdbeb5825d5b6bdeb7b9d62b000f3bd01fda6ca68580a6", func := "loop.example/g01382/laws.FnExactCrewBalance", spec := "fnExactCrewBalance", unfollowed := true, recurses := true, apart := false }
def FnExactCrewBalanceSaid : Prop := fnExactCrewBalanceRow.holds Try.pinned (OpenSpec.ofChange fnExactCrewBalanceSpec)

/-- ITS FALSE NEIGHBOUR: 'it returns false'. Refute it at one input. -/
def fnExactCrewBalanceWrong : ChangeSpec := { name := "fnExactCrewBalance", fn := fun _ => fun
  | [d1, d2, d3, d4] => { results := [.lit (.bool false)], args := [d1, d2, d3, d4] }
  | _ => none }
def FnExactCrewBalanceWrongFalsely : Prop := fnExactCrewBalanceRow.holds Try.pinned (OpenSpec.ofChange fnExactCrewBalanceWrong)

/-- 'laws.FnExactMeanDown': WHATEVER THE INPUT: true; the input reads as it did. -/
def fnExactMeanDownSpec : ChangeSpec := { name := "fnExactMeanDown", fn := fun _ => fun
  | [d1, d2, d3, d4] => { results := [.lit (.bool true)], args := [d1, d2, d3, d4] }
  | _ => none }
def fnExactMeanDownRow : OpenClaim := { program := "ytnlnjhbckfcmfaa", sum := "7ce9ac0b5a859e52fbbdbeb5825d5b6bdeb7b9d62b000f3bd01fda6ca68580a6", func := "loop.example/g01382/laws.FnExactMeanDown", spec := "fnExactMeanDown", unfollowed := true, recurses := true, apart := false }
def FnExactMeanDownSaid : Prop := fnExactMeanDownRow.holds Try.pinned (OpenSpec.ofChange fnExactMeanDownSpec)

/-- ITS FALSE NEIGHBOUR: 'it returns false'. Refute it at one input. -/
def fnExactMeanDownWrong : ChangeSpec := { name := "fnExactMeanDown", fn := fun _ => fun
  | [d1, d2, d3, d4] => { results := [.lit (.bool false)], args := [d1, d2, d3, d4] }
  | _ => none }
def FnExactMeanDownWrongFalsely : Prop := fnExactMeanDownRow.holds Try.pinned (OpenSpec.ofChange fnExactMeanDownWrong)

/-- 'laws.FnExactValidTree': WHATEVER THE INPUT: true; the input reads as it did. -/
def fnExactValidTreeSpec : ChangeSpec := { name := "fnExactValidTree", fn := fun _ => fun
  | [d1, d2] => { results := [.lit (.bool true)], args := [d1, d2] }
  | _ => none }
def fnExactValidTreeRow : OpenClaim := { program := "ytnlnjhbckfcmfaa", sum := "7ce9ac0b5a859e52fbbdbeb5825d5b6bdeb7b9d62b000f3bd01fda6ca68580a6", func := "loop.example/g01382/laws.FnExactValidTree", spec := "fnExactValidTree", unfollowed := true, recurses := true, apart := false }
def FnExactValidTreeSaid : Prop := fnExactValidTreeRow.holds Try.pinned (OpenSpec.ofChange fnExactValidTreeSpec)

/-- ITS FALSE NEIGHBOUR: 'it returns false'. Refute it at one input. -/
def fnExactValidTreeWrong : ChangeSpec := { name := "fnExactValidTree", fn := fun _ => fun
  | [d1, d2] => { results := [.lit (.bool false)], args := [d1, d2] }
  | _ => none }
def FnExactValidTreeWrongFalsely : Prop := fnExactValidTreeRow.holds Try.pinned (OpenSpec.ofChange fnExactValidTreeWrong)

/-- 'laws.FnExactNeedShares': WHATEVER THE INPUT: true; the input reads as it did. -/
def fnExactNeedSharesSpec : ChangeSpec := { name := "fnExactNeedShares", fn := fun _ => fun
  | [d1, d2] => { results := [.lit (.bool true)], args := [d1, d2] }
  | _ => none }
def fnExactNeedSharesRow : OpenClaim := { program := "ytnlnjhbckfcmfaa", sum := "7ce9ac0b5a859e52fbbdbeb5825d5b6bdeb7b9d62b000f3bd01fda6ca68580a6", func := "loop.example/g01382/laws.FnExactNeedShares", spec := "fnExactNeedShares", inPlace := ["math.Float64frombits"], unfollowed := true, recurses := true, apart := false }
def FnExactNeedSharesSaid : Prop := fnExactNeedSharesRow.holds Try.pinned (OpenSpec.ofChange fnExactNeedSharesSpec)

/-- ITS FALSE NEIGHBOUR: 'it returns false'. Refute it at one input. -/
def fnExactNeedSharesWrong : ChangeSpec := { name := "fnExactNeedShares", fn := fun _ => fun
  | [d1, d2] => { results := [.lit (.bool false)], args := [d1, d2] }
  | _ => none }
def FnExactNeedSharesWrongFalsely : Prop := fnExactNeedSharesRow.holds Try.pinned (OpenSpec.ofChange fnExactNeedSharesWrong)

/-- 'laws.FnExactStandbySurvives': WHATEVER THE INPUT: true; the input reads as it did. -/
def fnExactStandbySurvivesSpec : ChangeSpec := { name := "fnExactStandbySurvives", fn := fun _ => fun
  | [d1, d2, d3] => { results := [.lit (.bool true)], args := [d1, d2, d3] }
  | _ => none }
def fnExactStandbySurvivesRow : OpenClaim := { program := "ytnlnjhbckfcmfaa", sum := "7ce9ac0b5a859e52fbbdbeb5825d5b6bdeb7b9d62b000f3bd01fda6ca68580a6", func := "loop.example/g01382/laws.FnExactStandbySurvives", spec := "fnExactStandbySurvives", inPlace := ["math.Float64frombits"], unfollowed := true, recurses := true, apart := false }
def FnExactStandbySurvivesSaid : Prop := fnExactStandbySurvivesRow.holds Try.pinned (OpenSpec.ofChange fnExactStandbySurvivesSpec)

/-- ITS FALSE NEIGHBOUR: 'it returns false'. Refute it at one input. -/
def fnExactStandbySurvivesWrong : ChangeSpec := { name := "fnExactStandbySurvives", fn := fun _ => fun
  | [d1, d2, d3] => { results := [.lit (.bool false)], args := [d1, d2, d3] }
  | _ => none }
def FnExactStandbySurvivesWrongFalsely : Prop := fnExactStandbySurvivesRow.holds Try.pinned (OpenSpec.ofChange fnExactStandbySurvivesWrong)

/-- 'laws.FnExactFailsBy': WHATEVER THE INPUT: true; the input reads as it did. -/
def fnExactFailsBySpec : ChangeSpec := { name := "fnExactFailsBy", fn := fun _ => fun
  | [d1, d2, d3] => { results := [.lit (.bool true)], args := [d1, d2, d3] }
  | _ => none }
def fnExactFailsByRow : OpenClaim := { program := "ytnlnjhbckfcmfaa", sum := "7ce9ac0b5a859e52fbbdbeb5825d5b6bdeb7b9d62b000f3bd01fda6ca68580a6", func := "loop.example/g01382/laws.FnExactFailsBy", spec := "fnExactFailsBy", unfollowed := true, recurses := true, apart := false }
def FnExactFailsBySaid : Prop := fnExactFailsByRow.holds Try.pinned (OpenSpec.ofChange fnExactFailsBySpec)

/-- ITS FALSE NEIGHBOUR: 'it returns false'. Refute it at one input. -/
def fnExactFailsByWrong : ChangeSpec := { name := "fnExactFailsBy", fn := fun _ => fun
  | [d1, d2, d3] => { results := [.lit (.bool false)], args := [d1, d2, d3] }
  | _ => none }
def FnExactFailsByWrongFalsely : Prop := fnExactFailsByRow.holds Try.pinned (OpenSpec.ofChange fnExactFailsByWrong)

/- THE SECOND FORM. 'bulk': how many values and letters a reading holds, each counted each time it is reached (what is shared counts as often as it is met; a slice's spare places count too). A statement '..UptoSaid' is the law's where the arguments, and the package variables that the reading takes, are together of bulk at most 1048576: NARROWER than '..Said'. Prove '..Said' where nothing that the law and all that it calls make is longer than what came in: it says more and counts as full. Else prove '..UptoSaid'. A law counts once. -/
mutual
def uptoBulk {H : Type} : DataW H → Nat
  | .lit (.string bytes) => bytes.length + 1
  | .lit _ => 1
  | .nil => 1
  | .ptr d => uptoBulk d + 1
  | .slice elems spare => uptoBulkAll elems + uptoBulkAll spare + 1
  | .agg parts => uptoBulkAll parts + 1
  | .iface _ d => uptoBulk d + 1
  | .map entries => uptoBulkEntries entries + 1
  | .held _ => 1
def uptoBulkAll {H : Type} : List (DataW H) → Nat
  | [] => 0
  | d :: r => uptoBulk d + uptoBulkAll r
def uptoBulkEntries {H : Type} : List (Lit × DataW H) → Nat
  | [] => 0
  | x :: r => uptoBulkEntry x + uptoBulkEntries r
def uptoBulkEntry {H : Type} : Lit × DataW H → Nat
  | (.string bytes, d) => bytes.length + uptoBulk d + 1
  | (_, d) => uptoBulk d + 1
 end
def uptoSmall : (H : Type) → List (DataW H) → Bool := fun _ ds => decide (uptoBulkAll ds ≤ 1048576)
def OpenSpec.upto (s : _root_.Go.ChangeSpec) : _root_.Go.OpenSpec := { _root_.Go.OpenSpec.ofChange s with cond := some uptoSmall }

/-- 'laws.FnExactSameSystem', WHERE WHAT IT READS IS OF BULK AT MOST 1048576: true; the input reads as it did. -/
def fnExactSameSystemUptoRow : OpenClaim := { program := "ytnlnjhbckfcmfaa", sum := "7ce9ac0b5a859e52fbbdbeb5825d5b6bdeb7b9d62b000f3bd01fda6ca68580a6", func := "loop.example/g01382/laws.FnExactSameSystem", spec := "fnExactSameSystem", apart := false, narrowed := true }
def FnExactSameSystemUptoSaid : Prop := fnExactSameSystemUptoRow.holds Try.pinned (OpenSpec.upto fnExactSameSystemSpec)

/-- 'laws.FnExactValidChain', WHERE WHAT IT READS IS OF BULK AT MOST 1048576: true; the input reads as it did. -/
def fnExactValidChainUptoRow : OpenClaim := { program := "ytnlnjhbckfcmfaa", sum := "7ce9ac0b5a859e52fbbdbeb5825d5b6bdeb7b9d62b000f3bd01fda6ca68580a6", func := "loop.example/g01382/laws.FnExactValidChain", spec := "fnExactValidChain", unfollowed := true, recurses := true, apart := false, narrowed := true }
def FnExactValidChainUptoSaid : Prop := fnExactValidChainUptoRow.holds Try.pinned (OpenSpec.upto fnExactValidChainSpec)

/-- 'laws.FnExactSameChain', WHERE WHAT IT READS IS OF BULK AT MOST 1048576: true; the input reads as it did. -/
def fnExactSameChainUptoRow : OpenClaim := { program := "ytnlnjhbckfcmfaa", sum := "7ce9ac0b5a859e52fbbdbeb5825d5b6bdeb7b9d62b000f3bd01fda6ca68580a6", func := "loop.example/g01382/laws.FnExactSameChain", spec := "fnExactSameChain", inPlace := ["math.Float32bits", "math.Float64bits"], unfollowed := true, recurses := true, apart := false, narrowed := true }
def FnExactSameChainUptoSaid : Prop := fnExactSameChainUptoRow.holds Try.pinned (OpenSpec.upto fnExactSameChainSpec)

/-- 'laws.FnExactDiagramChance', WHERE WHAT IT READS IS OF BULK AT MOST 1048576: true; the input reads as it did. -/
def fnExactDiagramChanceUptoRow : OpenClaim := { program := "ytnlnjhbckfcmfaa", sum := "7ce9ac0b5a859e52fbbdbeb5825d5b6bdeb7b9d62b000f3bd01fda6ca68580a6", func := "loop.example/g01382/laws.FnExactDiagramChance", spec := "fnExactDiagramChance", unfollowed := true, recurses := true, apart := false, narrowed := true }
def FnExactDiagramChanceUptoSaid : Prop := fnExactDiagramChanceUptoRow.holds Try.pinned (OpenSpec.upto fnExactDiagramChanceSpec)

/-- 'laws.FnExactSparesFor', WHERE WHAT IT READS IS OF BULK AT MOST 1048576: true; the input reads as it did. -/
def fnExactSparesForUptoRow : OpenClaim := { program := "ytnlnjhbckfcmfaa", sum := "7ce9ac0b5a859e52fbbdbeb5825d5b6bdeb7b9d62b000f3bd01fda6ca68580a6", func := "loop.example/g01382/laws.FnExactSparesFor", spec := "fnExactSparesFor", inPlace := ["math.Float64frombits"], unfollowed := true, recurses := true, apart := false, narrowed := true }
def FnExactSparesForUptoSaid : Prop := fnExactSparesForUptoRow.holds Try.pinned (OpenSpec.upto fnExactSparesForSpec)

/-- 'laws.FnSpares', WHERE WHAT IT READS IS OF BULK AT MOST 1048576: true; the input reads as it did. -/
def fnSparesUptoRow : OpenClaim := { program := "ytnlnjhbckfcmfaa", sum := "7ce9ac0b5a859e52fbbdbeb5825d5b6bdeb7b9d62b000f3bd01fda6ca68580a6", func := "loop.example/g01382/laws.FnSpares", spec := "fnSpares", inPlace := ["math.Float64frombits"], unfollowed := true, recurses := true, apart := false, narrowed := true }
def FnSparesUptoSaid : Prop := fnSparesUptoRow.holds Try.pinned (OpenSpec.upto fnSparesSpec)

/-- 'laws.FnExactCrewBalance', WHERE WHAT IT READS IS OF BULK AT MOST 1048576: true; the input reads as it did. -/
def fnExactCrewBalanceUptoRow : OpenClaim := { program := "ytnlnjhbckfcmfaa", sum := "7ce9ac0b5a859e52fbbdbeb5825d5b6bdeb7b9d62b000f3bd01fda6ca68580a6", func := "loop.example/g01382/laws.FnExactCrewBalance", spec := "fnExactCrewBalance", unfollowed := true, recurses := true, apart := false, narrowed := true }
def FnExactCrewBalanceUptoSaid : Prop := fnExactCrewBalanceUptoRow.holds Try.pinned (OpenSpec.upto fnExactCrewBalanceSpec)

/-- 'laws.FnExactMeanDown', WHERE WHAT IT READS IS OF BULK AT MOST 1048576: true; the input reads as it did. -/
def fnExactMeanDownUptoRow : OpenClaim := { program := "ytnlnjhbckfcmfaa", sum := "7ce9ac0b5a859e52fbbdbeb5825d5b6bdeb7b9d62b000f3bd01fda6ca68580a6", func := "loop.example/g01382/laws.FnExactMeanDown", spec := "fnExactMeanDown", unfollowed := true, recurses := true, apart := false, narrowed := true }
def FnExactMeanDownUptoSaid : Prop := fnExactMeanDownUptoRow.holds Try.pinned (OpenSpec.upto fnExactMeanDownSpec)

/-- 'laws.FnExactValidTree', WHERE WHAT IT READS IS OF BULK AT MOST 1048576: true; the input reads as it did. -/
def fnExactValidTreeUptoRow : OpenClaim := { program := "ytnlnjhbckfcmfaa", sum := "7ce9ac0b5a859e52fbbdbeb5825d5b6bdeb7b9d62b000f3bd01fda6ca68580a6", func := "loop.example/g01382/laws.FnExactValidTree", spec := "fnExactValidTree", unfollowed := true, recurses := true, apart := false, narrowed := true }
def FnExactValidTreeUptoSaid : Prop := fnExactValidTreeUptoRow.holds Try.pinned (OpenSpec.upto fnExactValidTreeSpec)

/-- 'laws.FnExactNeedShares', WHERE WHAT IT READS IS OF BULK AT MOST 1048576: true; the input reads as it did. -/
def fnExactNeedSharesUptoRow : OpenClaim := { program := "ytnlnjhbckfcmfaa", sum := "7ce9ac0b5a859e52fbbdbeb5825d5b6bdeb7b9d62b000f3bd01fda6ca68580a6", func := "loop.example/g01382/laws.FnExactNeedShares", spec := "fnExactNeedShares", inPlace := ["math.Float64frombits"], unfollowed := true, recurses := true, apart := false, narrowed := true }
def FnExactNeedSharesUptoSaid : Prop := fnExactNeedSharesUptoRow.holds Try.pinned (OpenSpec.upto fnExactNeedSharesSpec)

/-- 'laws.FnExactStandbySurvives', WHERE WHAT IT READS IS OF BULK AT MOST 1048576: true; the input reads as it did. -/
def fnExactStandbySurvivesUptoRow : OpenClaim := { program := "ytnlnjhbckfcmfaa", sum := "7ce9ac0b5a859e52fbbdbeb5825d5b6bdeb7b9d62b000f3bd01fda6ca68580a6", func := "loop.example/g01382/laws.FnExactStandbySurvives", spec := "fnExactStandbySurvives", inPlace := ["math.Float64frombits"], unfollowed := true, recurses := true, apart := false, narrowed := true }
def FnExactStandbySurvivesUptoSaid : Prop := fnExactStandbySurvivesUptoRow.holds Try.pinned (OpenSpec.upto fnExactStandbySurvivesSpec)

/-- 'laws.FnExactFailsBy', WHERE WHAT IT READS IS OF BULK AT MOST 1048576: true; the input reads as it did. -/
def fnExactFailsByUptoRow : OpenClaim := { program := "ytnlnjhbckfcmfaa", sum := "7ce9ac0b5a859e52fbbdbeb5825d5b6bdeb7b9d62b000f3bd01fda6ca68580a6", func := "loop.example/g01382/laws.FnExactFailsBy", spec := "fnExactFailsBy", unfollowed := true, recurses := true, apart := false, narrowed := true }
def FnExactFailsByUptoSaid : Prop := fnExactFailsByUptoRow.holds Try.pinned (OpenSpec.upto fnExactFailsBySpec)

end Rows
end Go.Proofs.Ytnlnjhbckfcmfaa
