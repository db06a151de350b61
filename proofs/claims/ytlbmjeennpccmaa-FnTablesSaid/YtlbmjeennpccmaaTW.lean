
/- Contracts of the functions of the program that say whether numbers lie between bounds and whether a tree is valid. Condition: a list that can be read. -/
import Derived.Test.YtlbmjeennpccmaaTV
namespace Go.Proofs.Ytlbmjeennpccmaa
open Go Go.RowKit Go.ChangeShapes Go.WideShapes Go.ChangeAt

theorem all_any {α : Type} (p : α → Bool) : ∀ l : List α, (!(l.any fun x => !(p x))) = l.all p
  | [] => rfl
  | x :: l => by simp only [List.any_cons, List.all_cons, Bool.not_or, Bool.not_not, all_any p l]


end Go.Proofs.Ytlbmjeennpccmaa
