
/- Contracts of the functions that sum lists of 32-bit numbers and ask whether all are finite. No condition. -/
import Derived.Test.YtgmdoboeenpjpaaC
namespace Go.Proofs.Ytgmdoboeenpjpaa
open Go Go.RowKit

/-- The sum of canonical bits, from left to right. -/
def sumF (s : Nat) (xs : List Nat) : Nat := xs.foldl (fun a x => fop .add .f32 a x) s
theorem sumF_take {s : Nat} {xs : List Nat} {k : Nat} (hk : k < xs.length) : sumF s (xs.take (k + 1)) = fop .add .f32 (sumF s (xs.take k)) xs[k] := by
  unfold sumF
  rw [List.take_add_one, List.getElem?_eq_getElem hk]
  simp only [Option.toList_some, List.foldl_append, List.foldl_cons, List.foldl_nil]
theorem map_take_cn {bs : List Nat} {k : Nat} : (bs.take k).map (cn .f32) = (bs.map (cn .f32)).take k := by rw [List.map_take]


def finAll (xs : List Nat) : Bool := xs.all finB



/-- What 'ifAll' hands back: the list itself, or nothing. -/
def orNil (c : Bool) (v : Value) : Value := if c then v else .slice none 0 0


end Go.Proofs.Ytgmdoboeenpjpaa
