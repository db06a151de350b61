
/- Contracts of the functions that hand back one number and whether it is finite; and a law's walk over such. No condition. -/
import Derived.Test.YtlbmjeennpccmaaD
import Derived.Test.YtlbmjeennpccmaaSN
namespace Go.Proofs.Ytlbmjeennpccmaa
open Go Go.RowKit Go.ChangeShapes Go.WideShapes Go.ChangeAt

/-- A number and true; or 0 and false. -/
def NmPost (o : Option Nat) (w : World) (e : Ending) (w' : World) : Prop :=
  Ext w w' ∧ match o with
  | some x => ∃ b, e = .returned (.tuple #[.float .f32 b, .bool true]) ∧ cn .f32 b = x ∧ b < 4294967296
  | none => e = .returned (.tuple #[.float .f32 0, .bool false])
/-- The number, or 0 if it is not finite. -/
def numOr (b : Nat) : Nat := if finB (cn .f32 b) then b else 0
def finO (x : Nat) : Option Nat := if finB x then some x else none
theorem NmPost.ext {o : Option Nat} {w w1 w' : World} {e : Ending} (h : NmPost o w1 e w') (X : Ext w w1) : NmPost o w e w' := ⟨X.trans h.1, h.2⟩
theorem nmPost_of {b : Nat} {w w' : World} (X : Ext w w') (hb : b < 4294967296) :
    NmPost (finO (cn .f32 b)) w (.returned (.tuple #[.float .f32 (numOr b), .bool (finB (cn .f32 b))])) w' := by
  refine ⟨X, ?_⟩
  unfold finO numOr
  cases finB (cn .f32 b)
  · rfl
  · exact ⟨b, rfl, rfl, hb⟩

theorem isFinite_eq {b : Nat} {c : Bool} (h : finB (cn .f32 b) = c) (w : World) : Calls Try.prog 84 #[.float .f32 b] w fun e w' => e = .returned (.bool c) ∧ Ext w w' := by subst h; exact isFinite_any b w
theorem ifFinite_any (b : Nat) (w : World) : Calls Try.prog 53 #[.float .f32 b] w fun e w' => e = .returned (.tuple #[.float .f32 (numOr b), .bool (finB (cn .f32 b))]) ∧ Ext w w' := by
  have hn : numOr b = if finB (cn .f32 b) then b else 0 := rfl
  rw [hn]
  clear hn
  cases hf : finB (cn .f32 b)
  all_goals
    have Hf := Lib.hid hf
    clear hf
    go_enter Try.func53, Try.ntmps53
    go_wp2_with fail
    refine (isFinite_eq Hf.out _).mono ?_
    rintro e w1 ⟨rfl, X⟩
    go_wp2_with fail
    go_ret2
    exact ⟨rfl, X⟩
theorem l02Number_any (b : Nat) (w : World) : Calls Try.prog 48 #[.float .f32 b] w fun e w' => e = .returned (.tuple #[.float .f32 (numOr b), .bool (finB (cn .f32 b))]) ∧ Ext w w' := by
  have hn : numOr b = if finB (cn .f32 b) then b else 0 := rfl
  rw [hn]
  clear hn
  cases hf : finB (cn .f32 b)
  all_goals
    have Hf := Lib.hid hf
    clear hf
    go_enter Try.func48, Try.ntmps48
    go_wp2_with fail
    refine (l01Finite_eq Hf.out _).mono ?_
    rintro e w1 ⟨rfl, X⟩
    go_wp2_with fail
    go_ret2
    exact ⟨rfl, X⟩

theorem wide_same {a b x y : Nat} (ha : cn .f32 a = cn .f32 b) (hx : cn .f64 x = Go.Proofs.Ytlbmjeennpccmaa.wide (cn .f32 a)) (hy : cn .f64 y = Go.Proofs.Ytlbmjeennpccmaa.wide (cn .f32 b)) : cn .f64 x = cn .f64 y := by rw [hx, hy, ha]
end Go.Proofs.Ytlbmjeennpccmaa
