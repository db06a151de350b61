
/- Contracts of the functions that ask whether numbers are chances. No condition. -/
import Derived.Test.YtlbmjeennpccmaaTW
import Derived.Test.YtlbmjeennpccmaaD
import Derived.Test.YtlbmjeennpccmaaNm
import Derived.Test.YtlbmjeennpccmaaE
import Derived.Test.YtlbmjeennpccmaaRh
namespace Go.Proofs.Ytlbmjeennpccmaa
open Go Go.RowKit Go.ChangeShapes Go.WideShapes Go.ChangeAt

theorem isShare_any (b : Nat) (w : World) : Calls Try.prog 64 #[.float .f32 b] w fun e w' => e = .returned (.bool (shareB (cn .f32 b))) ∧ w = w' := by
  cases h : fcmp .geq .f32 (cn .f32 b) (cn .f32 0)
  all_goals
    have H := Lib.hid h
    go_enter Try.func64, Try.ntmps64
    go_wp2_with (refine wpList_fcmp rfl rfl rfl rfl rfl (by first | with_reducible assumption | exact rfl) ?_)
    go_ret
    exact ⟨ret_bool (by unfold shareB; rw [H.out]; rfl), rfl⟩
theorem isShare_eq {b : Nat} {c : Bool} (h : shareB (cn .f32 b) = c) (w : World) : Calls Try.prog 64 #[.float .f32 b] w fun e w' => e = .returned (.bool c) ∧ w = w' := by subst h; exact isShare_any b w

/-- So many chances. -/
def chancesB (bs : List Nat) (n : Int) : Bool := (bs.map (cn .f32)).all shareB && decide ((bs.length : Int) = n)


end Go.Proofs.Ytlbmjeennpccmaa
