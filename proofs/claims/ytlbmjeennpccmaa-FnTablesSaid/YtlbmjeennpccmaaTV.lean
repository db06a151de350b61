
/- Contracts of the functions that say whether a tree is valid, of the reference and of the program. Condition: a list that can be read. -/
import Derived.Test.YtlbmjeennpccmaaGA
import Derived.Test.YtlbmjeennpccmaaB
namespace Go.Proofs.Ytlbmjeennpccmaa
open Go Go.RowKit Go.ChangeShapes Go.WideShapes Go.ChangeAt

def kidOk (p : Int) (n i : Nat) (x : Int) : Bool := inB x (-p) ((n : Int) - 1) && !(decide (0 ≤ x) && decide (x ≤ i))
def gateOk (p : Int) (n i : Nat) (g : Gt) : Bool :=
  inB g.kind 0 2 && inB g.kids.length 1 10 && (if g.kind = 2 then inB g.votes 1 g.kids.length else decide (g.votes = 0)) && g.kids.all (kidOk p n i)
def treeOk (p : Int) (gs : List Gt) : Bool := inB p 1 10 && inB gs.length 1 16 && (List.range gs.length).all fun i => (gs[i]?.map (gateOk p gs.length i)).getD true


end Go.Proofs.Ytlbmjeennpccmaa
