/-
  No cell of these rows narrows 'for every input' (looked for: loops, veiled, ifaces, maps, wideKeys, modest, calm, conditions, laid).
  DERIVED. THE GIVEN ROWS OF THIS SEAT. 7 by the template 'for every input the law returns true; each argument reads behind the call as it read before'; 0 by the template 'total and deterministic' (their statements: YtepgkhcfeaklmaaTotals.lean).
  GIVEN WITH THE SEED: the statements are not yours to turn. If you find one false, say at which input.
  Laid BY PROGRAM, IN A SANDBOX (cutbox-rows.mjs): the forced cells as the released guide's own fill.sh prints them over the translation ccc49e512881b145… (all of the seat's roots in one cut). By AI agents, Wed Nov 11 2026. No macro, syntax, notation, axiom, sorry.
-/
import Derived.Test.YtepgkhcfeaklmaaChecked
import GoSem.Claim
import GoSem.ClaimJoined
import GoSem.ClaimMapViews
import Derived.JoinedTies
import Derived.KernelRfl
namespace Go.Proofs.Ytepgkhcfeaklmaa
/- THE CELL 'sum', in the pinned program and in every row, IS THE sha256 OF THE DUMP (.gsa) THAT YtepgkhcfeaklmaaProg.lean LOADS. Nothing in Lean hashes anything: it is a label: what it is worth is what the hold of that sum in a sandbox is worth. -/
noncomputable def Try.pinned : Pinned := { name := "ytepgkhcfeaklmaa", sum := "ccc49e512881b14582174780946ac5e0707f759c0562b0566e09f31681588e8c", checked := Try.checked }
namespace Rows
def none {H : Type} : Left H := { results := [], args := [] }

/-- 'laws.FnExactJoinedCounts': WHATEVER THE INPUT: true; the input reads as it did. -/
def fnExactJoinedCountsSpec : ChangeSpec := { name := "fnExactJoinedCounts", fn := fun _ => fun
  | [d1, d2] => { results := [.lit (.bool true)], args := [d1, d2] }
  | _ => none }
def fnExactJoinedCountsRow : OpenClaim := { program := "ytepgkhcfeaklmaa", sum := "ccc49e512881b14582174780946ac5e0707f759c0562b0566e09f31681588e8c", func := "loop.example/g01382/laws.FnExactJoinedCounts", spec := "fnExactJoinedCounts", unfollowed := true, recurses := true, plainKeys := false, apart := false }
def FnExactJoinedCountsSaid : Prop := fnExactJoinedCountsRow.holds Try.pinned (OpenSpec.ofChange fnExactJoinedCountsSpec)

/-- ITS FALSE NEIGHBOUR: 'it returns false'. Refute it at one input. -/
def fnExactJoinedCountsWrong : ChangeSpec := { name := "fnExactJoinedCounts", fn := fun _ => fun
  | [d1, d2] => { results := [.lit (.bool false)], args := [d1, d2] }
  | _ => none }
def FnExactJoinedCountsWrongFalsely : Prop := fnExactJoinedCountsRow.holds Try.pinned (OpenSpec.ofChange fnExactJoinedCountsWrong)

/-- 'laws.FnSystems': WHATEVER THE INPUT: true; the input reads as it did. -/
def fnSystemsSpec : ChangeSpec := { name := "fnSystems", fn := fun _ => fun
  | [d1, d2] => { results := [.lit (.bool true)], args := [d1, d2] }
  | _ => none }
def fnSystemsRow : OpenClaim := { program := "ytepgkhcfeaklmaa", sum := "ccc49e512881b14582174780946ac5e0707f759c0562b0566e09f31681588e8c", func := "loop.example/g01382/laws.FnSystems", spec := "fnSystems", unfollowed := true, recurses := true, plainKeys := false, apart := false }
def FnSystemsSaid : Prop := fnSystemsRow.holds Try.pinned (OpenSpec.ofChange fnSystemsSpec)

/-- ITS FALSE NEIGHBOUR: 'it returns false'. Refute it at one input. -/
def fnSystemsWrong : ChangeSpec := { name := "fnSystems", fn := fun _ => fun
  | [d1, d2] => { results := [.lit (.bool false)], args := [d1, d2] }
  | _ => none }
def FnSystemsWrongFalsely : Prop := fnSystemsRow.holds Try.pinned (OpenSpec.ofChange fnSystemsWrong)

/-- 'laws.FnExactTreeDiagram': WHATEVER THE INPUT: true; the input reads as it did. -/
def fnExactTreeDiagramSpec : ChangeSpec := { name := "fnExactTreeDiagram", fn := fun _ => fun
  | [d1, d2] => { results := [.lit (.bool true)], args := [d1, d2] }
  | _ => none }
def fnExactTreeDiagramRow : OpenClaim := { program := "ytepgkhcfeaklmaa", sum := "ccc49e512881b14582174780946ac5e0707f759c0562b0566e09f31681588e8c", func := "loop.example/g01382/laws.FnExactTreeDiagram", spec := "fnExactTreeDiagram", unfollowed := true, recurses := true, plainKeys := false, apart := false }
def FnExactTreeDiagramSaid : Prop := fnExactTreeDiagramRow.holds Try.pinned (OpenSpec.ofChange fnExactTreeDiagramSpec)

/-- ITS FALSE NEIGHBOUR: 'it returns false'. Refute it at one input. -/
def fnExactTreeDiagramWrong : ChangeSpec := { name := "fnExactTreeDiagram", fn := fun _ => fun
  | [d1, d2] => { results := [.lit (.bool false)], args := [d1, d2] }
  | _ => none }
def FnExactTreeDiagramWrongFalsely : Prop := fnExactTreeDiagramRow.holds Try.pinned (OpenSpec.ofChange fnExactTreeDiagramWrong)

/-- 'laws.FnExactChainSystems': WHATEVER THE INPUT: true; the input reads as it did. -/
def fnExactChainSystemsSpec : ChangeSpec := { name := "fnExactChainSystems", fn := fun _ => fun
  | [d1, d2] => { results := [.lit (.bool true)], args := [d1, d2] }
  | _ => none }
def fnExactChainSystemsRow : OpenClaim := { program := "ytepgkhcfeaklmaa", sum := "ccc49e512881b14582174780946ac5e0707f759c0562b0566e09f31681588e8c", func := "loop.example/g01382/laws.FnExactChainSystems", spec := "fnExactChainSystems", unfollowed := true, recurses := true, plainKeys := false, apart := false }
def FnExactChainSystemsSaid : Prop := fnExactChainSystemsRow.holds Try.pinned (OpenSpec.ofChange fnExactChainSystemsSpec)

/-- ITS FALSE NEIGHBOUR: 'it returns false'. Refute it at one input. -/
def fnExactChainSystemsWrong : ChangeSpec := { name := "fnExactChainSystems", fn := fun _ => fun
  | [d1, d2] => { results := [.lit (.bool false)], args := [d1, d2] }
  | _ => none }
def FnExactChainSystemsWrongFalsely : Prop := fnExactChainSystemsRow.holds Try.pinned (OpenSpec.ofChange fnExactChainSystemsWrong)

/-- 'laws.FnExactRoadSystem': WHATEVER THE INPUT: true; the input reads as it did. -/
def fnExactRoadSystemSpec : ChangeSpec := { name := "fnExactRoadSystem", fn := fun _ => fun
  | [d1, d2] => { results := [.lit (.bool true)], args := [d1, d2] }
  | _ => none }
def fnExactRoadSystemRow : OpenClaim := { program := "ytepgkhcfeaklmaa", sum := "ccc49e512881b14582174780946ac5e0707f759c0562b0566e09f31681588e8c", func := "loop.example/g01382/laws.FnExactRoadSystem", spec := "fnExactRoadSystem", unfollowed := true, recurses := true, plainKeys := false, apart := false }
def FnExactRoadSystemSaid : Prop := fnExactRoadSystemRow.holds Try.pinned (OpenSpec.ofChange fnExactRoadSystemSpec)

/-- ITS FALSE NEIGHBOUR: 'it returns false'. Refute it at one input. -/
def fnExactRoadSystemWrong : ChangeSpec := { name := "fnExactRoadSystem", fn := fun _ => fun
  | [d1, d2] => { results := [.lit (.bool false)], args := [d1, d2] }
  | _ => none }
def FnExactRoadSystemWrongFalsely : Prop := fnExactRoadSystemRow.holds Try.pinned (OpenSpec.ofChange fnExactRoadSystemWrong)

/-- 'laws.FnExactTreeCuts': WHATEVER THE INPUT: true; the input reads as it did. -/
def fnExactTreeCutsSpec : ChangeSpec := { name := "fnExactTreeCuts", fn := fun _ => fun
  | [d1, d2] => { results := [.lit (.bool true)], args := [d1, d2] }
  | _ => none }
def fnExactTreeCutsRow : OpenClaim := { program := "ytepgkhcfeaklmaa", sum := "ccc49e512881b14582174780946ac5e0707f759c0562b0566e09f31681588e8c", func := "loop.example/g01382/laws.FnExactTreeCuts", spec := "fnExactTreeCuts", unfollowed := true, recurses := true, plainKeys := false, apart := false }
def FnExactTreeCutsSaid : Prop := fnExactTreeCutsRow.holds Try.pinned (OpenSpec.ofChange fnExactTreeCutsSpec)

/-- ITS FALSE NEIGHBOUR: 'it returns false'. Refute it at one input. -/
def fnExactTreeCutsWrong : ChangeSpec := { name := "fnExactTreeCuts", fn := fun _ => fun
  | [d1, d2] => { results := [.lit (.bool false)], args := [d1, d2] }
  | _ => none }
def FnExactTreeCutsWrongFalsely : Prop := fnExactTreeCutsRow.holds Try.pinned (OpenSpec.ofChange fnExactTreeCutsWrong)

/-- 'laws.FnExactPhasesChance': WHATEVER THE INPUT: true; the input reads as it did. -/
def fnExactPhasesChanceSpec : ChangeSpec := { name := "fnExactPhasesChance", fn := fun _ => fun
  | [d1, d2] => { results := [.lit (.bool true)], args := [d1, d2] }
  | _ => none }
def fnExactPhasesChanceRow : OpenClaim := { program := "ytepgkhcfeaklmaa", sum := "ccc49e512881b14582174780946ac5e0707f759c0562b0566e09f31681588e8c", func := "loop.example/g01382/laws.FnExactPhasesChance", spec := "fnExactPhasesChance", unfollowed := true, recurses := true, plainKeys := false, apart := false }
def FnExactPhasesChanceSaid : Prop := fnExactPhasesChanceRow.holds Try.pinned (OpenSpec.ofChange fnExactPhasesChanceSpec)

/-- ITS FALSE NEIGHBOUR: 'it returns false'. Refute it at one input. -/
def fnExactPhasesChanceWrong : ChangeSpec := { name := "fnExactPhasesChance", fn := fun _ => fun
  | [d1, d2] => { results := [.lit (.bool false)], args := [d1, d2] }
  | _ => none }
def FnExactPhasesChanceWrongFalsely : Prop := fnExactPhasesChanceRow.holds Try.pinned (OpenSpec.ofChange fnExactPhasesChanceWrong)

/- THE SECOND FORM. 'bulk': how many values and letters a reading holds, each counted each time it is reached (what is shared counts as often as it is met; a slice's spare places count too). A statement '..UptoSaid' is the law's where the arguments, and the package variables that the reading takes, are together of bulk at most 1048576: NARROWER than '..Said'. Prove '..Said' where nothing that the law and all that it calls make is longer than what came in: it says more and counts as full. Else prove '..UptoSaid'. A law counts once. -/
mutual
def uptoBulk {H : Type} : DataW H → Nat
  | .lit (.string bytes) => bytes.length + 1
  | .lit _ => 1
  | .nil => 1
  | .ptr d => uptoBulk d + 1
  | .slice elems spare => uptoBulkAll elems + uptoBulkAll spare + 1
  | .agg parts => uptoBulkAll parts + 1
  | .iface _ d => uptoBulk d + 1
  | .map entries => uptoBulkEntries entries + 1
  | .held _ => 1
def uptoBulkAll {H : Type} : List (DataW H) → Nat
  | [] => 0
  | d :: r => uptoBulk d + uptoBulkAll r
def uptoBulkEntries {H : Type} : List (Lit × DataW H) → Nat
  | [] => 0
  | x :: r => uptoBulkEntry x + uptoBulkEntries r
def uptoBulkEntry {H : Type} : Lit × DataW H → Nat
  | (.string bytes, d) => bytes.length + uptoBulk d + 1
  | (_, d) => uptoBulk d + 1
 end
def uptoSmall : (H : Type) → List (DataW H) → Bool := fun _ ds => decide (uptoBulkAll ds ≤ 1048576)
def OpenSpec.upto (s : _root_.Go.ChangeSpec) : _root_.Go.OpenSpec := { _root_.Go.OpenSpec.ofChange s with cond := some uptoSmall }

/-- 'laws.FnExactJoinedCounts', WHERE WHAT IT READS IS OF BULK AT MOST 1048576: true; the input reads as it did. -/
def fnExactJoinedCountsUptoRow : OpenClaim := { program := "ytepgkhcfeaklmaa", sum := "ccc49e512881b14582174780946ac5e0707f759c0562b0566e09f31681588e8c", func := "loop.example/g01382/laws.FnExactJoinedCounts", spec := "fnExactJoinedCounts", unfollowed := true, recurses := true, plainKeys := false, apart := false, narrowed := true }
def FnExactJoinedCountsUptoSaid : Prop := fnExactJoinedCountsUptoRow.holds Try.pinned (OpenSpec.upto fnExactJoinedCountsSpec)

/-- 'laws.FnSystems', WHERE WHAT IT READS IS OF BULK AT MOST 1048576: true; the input reads as it did. -/
def fnSystemsUptoRow : OpenClaim := { program := "ytepgkhcfeaklmaa", sum := "ccc49e512881b14582174780946ac5e0707f759c0562b0566e09f31681588e8c", func := "loop.example/g01382/laws.FnSystems", spec := "fnSystems", unfollowed := true, recurses := true, plainKeys := false, apart := false, narrowed := true }
def FnSystemsUptoSaid : Prop := fnSystemsUptoRow.holds Try.pinned (OpenSpec.upto fnSystemsSpec)

/-- 'laws.FnExactTreeDiagram', WHERE WHAT IT READS IS OF BULK AT MOST 1048576: true; the input reads as it did. -/
def fnExactTreeDiagramUptoRow : OpenClaim := { program := "ytepgkhcfeaklmaa", sum := "ccc49e512881b14582174780946ac5e0707f759c0562b0566e09f31681588e8c", func := "loop.example/g01382/laws.FnExactTreeDiagram", spec := "fnExactTreeDiagram", unfollowed := true, recurses := true, plainKeys := false, apart := false, narrowed := true }
def FnExactTreeDiagramUptoSaid : Prop := fnExactTreeDiagramUptoRow.holds Try.pinned (OpenSpec.upto fnExactTreeDiagramSpec)

/-- 'laws.FnExactChainSystems', WHERE WHAT IT READS IS OF BULK AT MOST 1048576: true; the input reads as it did. -/
def fnExactChainSystemsUptoRow : OpenClaim := { program := "ytepgkhcfeaklmaa", sum := "ccc49e512881b14582174780946ac5e0707f759c0562b0566e09f31681588e8c", func := "loop.example/g01382/laws.FnExactChainSystems", spec := "fnExactChainSystems", unfollowed := true, recurses := true, plainKeys := false, apart := false, narrowed := true }
def FnExactChainSystemsUptoSaid : Prop := fnExactChainSystemsUptoRow.holds Try.pinned (OpenSpec.upto fnExactChainSystemsSpec)

/-- 'laws.FnExactRoadSystem', WHERE WHAT IT READS IS OF BULK AT MOST 1048576: true; the input reads as it did. -/
def fnExactRoadSystemUptoRow : OpenClaim := { program := "ytepgkhcfeaklmaa", sum := "ccc49e512881b14582174780946ac5e0707f759c0562b0566e09f31681588e8c", func := "loop.example/g01382/laws.FnExactRoadSystem", spec := "fnExactRoadSystem", unfollowed := true, recurses := true, plainKeys := false, apart := false, narrowed := true }
def FnExactRoadSystemUptoSaid : Prop := fnExactRoadSystemUptoRow.holds Try.pinned (OpenSpec.upto fnExactRoadSystemSpec)

/-- 'laws.FnExactTreeCuts', WHERE WHAT IT READS IS OF BULK AT MOST 1048576: true; the input reads as it did. -/
def fnExactTreeCutsUptoRow : OpenClaim := { program := "ytepgkhcfeaklmaa", sum := "ccc49e512881b14582174780946ac5e0707f759c0562b0566e09f31681588e8c", func := "loop.example/g01382/laws.FnExactTreeCuts", spec := "fnExactTreeCuts", unfollowed := true, recurses := true, plainKeys := false, apart := false, narrowed := true }
def FnExactTreeCutsUptoSaid : Prop := fnExactTreeCutsUptoRow.holds Try.pinned (OpenSpec.upto fnExactTreeCutsSpec)

/-- 'laws.FnExactPhasesChance', WHERE WHAT IT READS IS OF BULK AT MOST 1048576: true; the input reads as it did. -/
def fnExactPhasesChanceUptoRow : OpenClaim := { program := "ytepgkhcfeaklmaa", sum := "ccc49e512881b14582174780946ac5e0707f759c0562b0566e09f31681588e8c", func := "loop.example/g01382/laws.FnExactPhasesChance", spec := "fnExactPhasesChance", unfollowed := true, recurses := true, plainKeys := false, apart := false, narrowed := true }
def FnExactPhasesChanceUptoSaid : Prop := fnExactPhasesChanceUptoRow.holds Try.pinned (OpenSpec.upto fnExactPhasesChanceSpec)

end Rows
end Go.Proofs.Ytepgkhcfeaklmaa
