
/- Marks in lists of integers and of 32-bit numbers: what is written lies in the list's own block. Condition: at most 2^20 numbers. -/
import Derived.Test.YtgmdoboeenpjpaaMk
import Derived.Maps.AppendAt
namespace Go.Proofs.Ytgmdoboeenpjpaa
open Go Go.RowKit Go.ChangeShapes Go.WideShapes Go.ChangeAt

theorem grownBy_setCell (W : World) (b j : Nat) (v : Value) : W.grownBy (W.setCell ⟨b, j, none⟩ v) (some b) :=
  ⟨rfl, rfl, rfl, (Below.setCell (Below.refl b W) (Nat.le_refl _) v).size, fun k _ hk => Below.heap_setCell _ _ _ k (fun e => hk (by rw [e]))⟩
theorem grownBy_refl (W : World) (row : Option Nat) : W.grownBy W row := ⟨rfl, rfl, rfl, Nat.le_refl _, fun _ _ _ => rfl⟩
theorem grown_ext {w w' : World} {B g : Nat} (h : w.grownBy w' (some g)) (hb : B ≤ g) (hB : B ≤ w.heap.size) : Below B w w' := (Below.refl _ _).grown h hB fun k hk => by cases hk; exact hb
theorem own_grown {w w' : World} {B g g2 n cap k : Nat} {e : TypeId} {xs : List Value} (h : w.ownsRow B e k (.slice (some ⟨g2, 0, none⟩) n cap) n xs) (hg : w.grownBy w' (some g)) (hne : g < B) :
    w'.ownsRow B e k (.slice (some ⟨g2, 0, none⟩) n cap) n xs :=
  h.kept hg (.inr fun he => by
    have := (h.lt g2 rfl).1
    simp [Value.ownBlock] at he
    omega)

/-- The marks from k on. -/
def marksI (k : Int) (n : Nat) : List Int := (List.range n).map fun (i : Nat) => k + (i : Int)
theorem marksI_len (k : Int) (n : Nat) : (marksI k n).length = n := by simp [marksI]
theorem marksI_get (k : Int) (n i : Nat) (h : i < n) : (marksI k n)[i]'(by rw [marksI_len]; exact h) = k + (i : Int) := by simp [marksI]
theorem marksI_succ (k : Int) (n : Nat) : marksI k (n + 1) = marksI k n ++ [k + (n : Int)] := by
  unfold marksI; rw [List.range_succ, List.map_append]; rfl

attribute [local go_sem] run_store_float




/-- A list of integers is nothing or its own. -/
theorem RdI_nil (w : World) : RdI w (.slice none 0 0) [] := ⟨rfl, none, 0, rfl, Nat.le_refl _, Nat.zero_le _, fun _ => rfl, fun _ h => by cases h⟩
end Go.Proofs.Ytgmdoboeenpjpaa
