
/- FnExactSameSystem returns true for every input and changes nothing that was there. No condition. -/
import Derived.Test.YtgmdoboeenpjpaaRows
import Derived.Test.YtgmdoboeenpjpaaRead
import Derived.Test.YtgmdoboeenpjpaaA
import Derived.Test.YtgmdoboeenpjpaaRg
import Derived.Outline
namespace Go.Proofs.Ytgmdoboeenpjpaa
open Go Go.RowKit Go.ChangeShapes Go.WideShapes Go.ChangeAt

def SysV (p : Int) (zs : List Int) (v : Value) : Prop := ∃ g, v = .agg #[.int .i64 p, .slice (some ⟨g, 0, none⟩) zs.length zs.length]
def SysW (p : Int) (zs : List Int) (v : Value) (w : World) : Prop := ∃ g, v = .agg #[.int .i64 p, .slice (some ⟨g, 0, none⟩) zs.length zs.length] ∧ RdI w (.slice (some ⟨g, 0, none⟩) zs.length zs.length) zs
theorem SysW.st (p : Int) (zs : List Int) (v : Value) : St (SysW p zs v) := fun _ _ ⟨g, h1, h2⟩ hx => ⟨g, h1, h2.ext hx⟩

theorem SysW.rd {p : Int} {zs : List Int} {a : Option Addr} {n : Nat} {w : World} (h : SysW p zs (.agg #[.int .i64 p, .slice a n n]) w) : RdI w (.slice a n n) zs := by
  obtain ⟨g, e, hr⟩ := h
  simp at e
  obtain ⟨rfl, rfl, _⟩ := e
  exact hr


end Go.Proofs.Ytgmdoboeenpjpaa
