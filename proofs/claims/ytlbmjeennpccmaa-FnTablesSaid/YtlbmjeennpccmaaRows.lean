/-
  No cell of these rows narrows 'for every input' (looked for: loops, veiled, ifaces, maps, wideKeys, modest, calm, conditions, laid).
  DERIVED. THE GIVEN ROWS OF THIS SEAT. 6 by the template 'for every input the law returns true; each argument reads behind the call as it read before'; 0 by the template 'total and deterministic' (their statements: YtlbmjeennpccmaaTotals.lean).
  GIVEN WITH THE SEED: the statements are not yours to turn. If you find one false, say at which input.
  Laid BY PROGRAM, IN A SANDBOX (cutbox-rows.mjs): the forced cells as the released guide's own fill.sh prints them over the translation 914e254bb987a415… (all of the seat's roots in one cut). By AI agents, Wed Nov 11 2026. No macro, syntax, notation, axiom, sorry.
-/
import Derived.Test.YtlbmjeennpccmaaChecked
import GoSem.Claim
import GoSem.ClaimJoined
import GoSem.ClaimMapViews
import Derived.JoinedTies
import Derived.KernelRfl
namespace Go.Proofs.Ytlbmjeennpccmaa
/- THE CELL 'sum', in the pinned program and in every row, IS THE sha256 OF THE DUMP (.gsa) THAT YtlbmjeennpccmaaProg.lean LOADS. Nothing in Lean hashes anything: it is a label: what it is worth is what the hold of that sum in a sandbox is worth. -/
noncomputable def Try.pinned : Pinned := { name := "ytlbmjeennpccmaa", sum := "914e254bb987a41537519e9a61fd855c6ea4b292817d004d4fe83f2095abeb57", checked := Try.checked }
namespace Rows
def none {H : Type} : Left H := { results := [], args := [] }

/-- 'laws.FnExactLogRankOf': WHATEVER THE INPUT: true; the input reads as it did. -/
def fnExactLogRankOfSpec : ChangeSpec := { name := "fnExactLogRankOf", fn := fun _ => fun
  | [d1, d2] => { results := [.lit (.bool true)], args := [d1, d2] }
  | _ => none }
def fnExactLogRankOfRow : OpenClaim := { program := "ytlbmjeennpccmaa", sum := "914e254bb987a41537519e9a61fd855c6ea4b292817d004d4fe83f2095abeb57", func := "loop.example/g01382/laws.FnExactLogRankOf", spec := "fnExactLogRankOf", unfollowed := true, recurses := true, apart := false }
def FnExactLogRankOfSaid : Prop := fnExactLogRankOfRow.holds Try.pinned (OpenSpec.ofChange fnExactLogRankOfSpec)

/-- ITS FALSE NEIGHBOUR: 'it returns false'. Refute it at one input. -/
def fnExactLogRankOfWrong : ChangeSpec := { name := "fnExactLogRankOf", fn := fun _ => fun
  | [d1, d2] => { results := [.lit (.bool false)], args := [d1, d2] }
  | _ => none }
def FnExactLogRankOfWrongFalsely : Prop := fnExactLogRankOfRow.holds Try.pinned (OpenSpec.ofChange fnExactLogRankOfWrong)

/-- 'laws.FnExactSurvivorSpreads': WHATEVER THE INPUT: true; the input reads as it did. -/
def fnExactSurvivorSpreadsSpec : ChangeSpec := { name := "fnExactSurvivorSpreads", fn := fun _ => fun
  | [d] => { results := [.lit (.bool true)], args := [d] }
  | _ => none }
def fnExactSurvivorSpreadsRow : OpenClaim := { program := "ytlbmjeennpccmaa", sum := "914e254bb987a41537519e9a61fd855c6ea4b292817d004d4fe83f2095abeb57", func := "loop.example/g01382/laws.FnExactSurvivorSpreads", spec := "fnExactSurvivorSpreads", inPlace := ["math.sqrt"], unfollowed := true, recurses := true, apart := false }
def FnExactSurvivorSpreadsSaid : Prop := fnExactSurvivorSpreadsRow.holds Try.pinned (OpenSpec.ofChange fnExactSurvivorSpreadsSpec)

/-- ITS FALSE NEIGHBOUR: 'it returns false'. Refute it at one input. -/
def fnExactSurvivorSpreadsWrong : ChangeSpec := { name := "fnExactSurvivorSpreads", fn := fun _ => fun
  | [d] => { results := [.lit (.bool false)], args := [d] }
  | _ => none }
def FnExactSurvivorSpreadsWrongFalsely : Prop := fnExactSurvivorSpreadsRow.holds Try.pinned (OpenSpec.ofChange fnExactSurvivorSpreadsWrong)

/-- 'laws.FnSpares': WHATEVER THE INPUT: true; the input reads as it did. -/
def fnSparesSpec : ChangeSpec := { name := "fnSpares", fn := fun _ => fun
  | [d1, d2] => { results := [.lit (.bool true)], args := [d1, d2] }
  | _ => none }
def fnSparesRow : OpenClaim := { program := "ytlbmjeennpccmaa", sum := "914e254bb987a41537519e9a61fd855c6ea4b292817d004d4fe83f2095abeb57", func := "loop.example/g01382/laws.FnSpares", spec := "fnSpares", inPlace := ["math.Float64frombits"], unfollowed := true, recurses := true, apart := false }
def FnSparesSaid : Prop := fnSparesRow.holds Try.pinned (OpenSpec.ofChange fnSparesSpec)

/-- ITS FALSE NEIGHBOUR: 'it returns false'. Refute it at one input. -/
def fnSparesWrong : ChangeSpec := { name := "fnSpares", fn := fun _ => fun
  | [d1, d2] => { results := [.lit (.bool false)], args := [d1, d2] }
  | _ => none }
def FnSparesWrongFalsely : Prop := fnSparesRow.holds Try.pinned (OpenSpec.ofChange fnSparesWrong)

/-- 'laws.FnExactPaperPairs': WHATEVER THE INPUT: true; the input reads as it did. -/
def fnExactPaperPairsSpec : ChangeSpec := { name := "fnExactPaperPairs", fn := fun _ => fun
  | [d] => { results := [.lit (.bool true)], args := [d] }
  | _ => none }
def fnExactPaperPairsRow : OpenClaim := { program := "ytlbmjeennpccmaa", sum := "914e254bb987a41537519e9a61fd855c6ea4b292817d004d4fe83f2095abeb57", func := "loop.example/g01382/laws.FnExactPaperPairs", spec := "fnExactPaperPairs", inPlace := ["math.Float64frombits", "math.Float64bits"], unfollowed := true, recurses := true, apart := false }
def FnExactPaperPairsSaid : Prop := fnExactPaperPairsRow.holds Try.pinned (OpenSpec.ofChange fnExactPaperPairsSpec)

/-- ITS FALSE NEIGHBOUR: 'it returns false'. Refute it at one input. -/
def fnExactPaperPairsWrong : ChangeSpec := { name := "fnExactPaperPairs", fn := fun _ => fun
  | [d] => { results := [.lit (.bool false)], args := [d] }
  | _ => none }
def FnExactPaperPairsWrongFalsely : Prop := fnExactPaperPairsRow.holds Try.pinned (OpenSpec.ofChange fnExactPaperPairsWrong)

/-- 'laws.FnRanks': WHATEVER THE INPUT: true; the input reads as it did. -/
def fnRanksSpec : ChangeSpec := { name := "fnRanks", fn := fun _ => fun
  | [d1, d2] => { results := [.lit (.bool true)], args := [d1, d2] }
  | _ => none }
def fnRanksRow : OpenClaim := { program := "ytlbmjeennpccmaa", sum := "914e254bb987a41537519e9a61fd855c6ea4b292817d004d4fe83f2095abeb57", func := "loop.example/g01382/laws.FnRanks", spec := "fnRanks", unfollowed := true, recurses := true, apart := false }
def FnRanksSaid : Prop := fnRanksRow.holds Try.pinned (OpenSpec.ofChange fnRanksSpec)

/-- ITS FALSE NEIGHBOUR: 'it returns false'. Refute it at one input. -/
def fnRanksWrong : ChangeSpec := { name := "fnRanks", fn := fun _ => fun
  | [d1, d2] => { results := [.lit (.bool false)], args := [d1, d2] }
  | _ => none }
def FnRanksWrongFalsely : Prop := fnRanksRow.holds Try.pinned (OpenSpec.ofChange fnRanksWrong)

/-- 'laws.FnTables': WHATEVER THE INPUT: true; the input reads as it did. -/
def fnTablesSpec : ChangeSpec := { name := "fnTables", fn := fun _ => fun
  | [d1, d2] => { results := [.lit (.bool true)], args := [d1, d2] }
  | _ => none }
def fnTablesRow : OpenClaim := { program := "ytlbmjeennpccmaa", sum := "914e254bb987a41537519e9a61fd855c6ea4b292817d004d4fe83f2095abeb57", func := "loop.example/g01382/laws.FnTables", spec := "fnTables", inPlace := ["math.sqrt"], unfollowed := true, recurses := true, apart := false }
def FnTablesSaid : Prop := fnTablesRow.holds Try.pinned (OpenSpec.ofChange fnTablesSpec)

/-- ITS FALSE NEIGHBOUR: 'it returns false'. Refute it at one input. -/
def fnTablesWrong : ChangeSpec := { name := "fnTables", fn := fun _ => fun
  | [d1, d2] => { results := [.lit (.bool false)], args := [d1, d2] }
  | _ => none }
def FnTablesWrongFalsely : Prop := fnTablesRow.holds Try.pinned (OpenSpec.ofChange fnTablesWrong)

/- THE SECOND FORM. 'bulk': how many values and letters a reading holds, each counted each time it is reached (what is shared counts as often as it is met; a slice's spare places count too). A statement '..UptoSaid' is the law's where the arguments, and the package variables that the reading takes, are together of bulk at most 1048576: NARROWER than '..Said'. Prove '..Said' where nothing that the law and all that it calls make is longer than what came in: it says more and counts as full. Else prove '..UptoSaid'. A law counts once. -/
mutual
def uptoBulk {H : Type} : DataW H → Nat
  | .lit (.string bytes) => bytes.length + 1
  | .lit _ => 1
  | .nil => 1
  | .ptr d => uptoBulk d + 1
  | .slice elems spare => uptoBulkAll elems + uptoBulkAll spare + 1
  | .agg parts => uptoBulkAll parts + 1
  | .iface _ d => uptoBulk d + 1
  | .map entries => uptoBulkEntries entries + 1
  | .held _ => 1
def uptoBulkAll {H : Type} : List (DataW H) → Nat
  | [] => 0
  | d :: r => uptoBulk d + uptoBulkAll r
def uptoBulkEntries {H : Type} : List (Lit × DataW H) → Nat
  | [] => 0
  | x :: r => uptoBulkEntry x + uptoBulkEntries r
def uptoBulkEntry {H : Type} : Lit × DataW H → Nat
  | (.string bytes, d) => bytes.length + uptoBulk d + 1
  | (_, d) => uptoBulk d + 1
 end
def uptoSmall : (H : Type) → List (DataW H) → Bool := fun _ ds => decide (uptoBulkAll ds ≤ 1048576)
def OpenSpec.upto (s : _root_.Go.ChangeSpec) : _root_.Go.OpenSpec := { _root_.Go.OpenSpec.ofChange s with cond := some uptoSmall }

/-- 'laws.FnExactLogRankOf', WHERE WHAT IT READS IS OF BULK AT MOST 1048576: true; the input reads as it did. -/
def fnExactLogRankOfUptoRow : OpenClaim := { program := "ytlbmjeennpccmaa", sum := "914e254bb987a41537519e9a61fd855c6ea4b292817d004d4fe83f2095abeb57", func := "loop.example/g01382/laws.FnExactLogRankOf", spec := "fnExactLogRankOf", unfollowed := true, recurses := true, apart := false, narrowed := true }
def FnExactLogRankOfUptoSaid : Prop := fnExactLogRankOfUptoRow.holds Try.pinned (OpenSpec.upto fnExactLogRankOfSpec)

/-- 'laws.FnExactSurvivorSpreads', WHERE WHAT IT READS IS OF BULK AT MOST 1048576: true; the input reads as it did. -/
def fnExactSurvivorSpreadsUptoRow : OpenClaim := { program := "ytlbmjeennpccmaa", sum := "914e254bb987a41537519e9a61fd855c6ea4b292817d004d4fe83f2095abeb57", func := "loop.example/g01382/laws.FnExactSurvivorSpreads", spec := "fnExactSurvivorSpreads", inPlace := ["math.sqrt"], unfollowed := true, recurses := true, apart := false, narrowed := true }
def FnExactSurvivorSpreadsUptoSaid : Prop := fnExactSurvivorSpreadsUptoRow.holds Try.pinned (OpenSpec.upto fnExactSurvivorSpreadsSpec)

/-- 'laws.FnSpares', WHERE WHAT IT READS IS OF BULK AT MOST 1048576: true; the input reads as it did. -/
def fnSparesUptoRow : OpenClaim := { program := "ytlbmjeennpccmaa", sum := "914e254bb987a41537519e9a61fd855c6ea4b292817d004d4fe83f2095abeb57", func := "loop.example/g01382/laws.FnSpares", spec := "fnSpares", inPlace := ["math.Float64frombits"], unfollowed := true, recurses := true, apart := false, narrowed := true }
def FnSparesUptoSaid : Prop := fnSparesUptoRow.holds Try.pinned (OpenSpec.upto fnSparesSpec)

/-- 'laws.FnExactPaperPairs', WHERE WHAT IT READS IS OF BULK AT MOST 1048576: true; the input reads as it did. -/
def fnExactPaperPairsUptoRow : OpenClaim := { program := "ytlbmjeennpccmaa", sum := "914e254bb987a41537519e9a61fd855c6ea4b292817d004d4fe83f2095abeb57", func := "loop.example/g01382/laws.FnExactPaperPairs", spec := "fnExactPaperPairs", inPlace := ["math.Float64frombits", "math.Float64bits"], unfollowed := true, recurses := true, apart := false, narrowed := true }
def FnExactPaperPairsUptoSaid : Prop := fnExactPaperPairsUptoRow.holds Try.pinned (OpenSpec.upto fnExactPaperPairsSpec)

/-- 'laws.FnRanks', WHERE WHAT IT READS IS OF BULK AT MOST 1048576: true; the input reads as it did. -/
def fnRanksUptoRow : OpenClaim := { program := "ytlbmjeennpccmaa", sum := "914e254bb987a41537519e9a61fd855c6ea4b292817d004d4fe83f2095abeb57", func := "loop.example/g01382/laws.FnRanks", spec := "fnRanks", unfollowed := true, recurses := true, apart := false, narrowed := true }
def FnRanksUptoSaid : Prop := fnRanksUptoRow.holds Try.pinned (OpenSpec.upto fnRanksSpec)

/-- 'laws.FnTables', WHERE WHAT IT READS IS OF BULK AT MOST 1048576: true; the input reads as it did. -/
def fnTablesUptoRow : OpenClaim := { program := "ytlbmjeennpccmaa", sum := "914e254bb987a41537519e9a61fd855c6ea4b292817d004d4fe83f2095abeb57", func := "loop.example/g01382/laws.FnTables", spec := "fnTables", inPlace := ["math.sqrt"], unfollowed := true, recurses := true, apart := false, narrowed := true }
def FnTablesUptoSaid : Prop := fnTablesUptoRow.holds Try.pinned (OpenSpec.upto fnTablesSpec)

end Rows
end Go.Proofs.Ytlbmjeennpccmaa
