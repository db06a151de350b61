
/- FnExactCrewBalance returns true for every input and changes nothing that was there. No condition. -/
import Derived.Test.YtgmdoboeenpjpaaCr
import Derived.Test.YtgmdoboeenpjpaaMk
namespace Go.Proofs.Ytgmdoboeenpjpaa
open Go Go.RowKit Go.ChangeShapes Go.WideShapes Go.ChangeAt

theorem RdF_nil (w : World) : RdF w (.slice none 0 0) [] := ⟨⟨rfl, none, 0, rfl, Nat.le_refl _, Nat.zero_le _, fun _ => rfl, fun _ h => by cases h⟩, by simp⟩

/-- A list of 32-bit numbers of the call's own and true; or nothing and false. -/
def FlPost (o : Option (List Nat)) (w : World) (e : Ending) (w' : World) : Prop :=
  Ext w w' ∧ match o with
  | some xs => ∃ (g cap : Nat) (os : List Nat), e = .returned (.tuple #[.slice (some ⟨g, 0, none⟩) os.length cap, .bool true]) ∧ os.map (cn .f32) = xs ∧ (∀ b ∈ os, b < 4294967296) ∧
      w'.ownsRow w.heap.size 31 1 (.slice (some ⟨g, 0, none⟩) os.length cap) os.length (os.map (Value.float .f32))
  | none => e = .returned (.tuple #[.slice none 0 0, .bool false])

theorem flPost_crew {m c : Int} {f r : Nat} {w w' : World} {e : Ending} (h : CrewPost m c f r w e w') : FlPost (if crewPre m c f r && finAll (crewOut m c f r) then some (crewOut m c f r) else none) w e w' := by
  obtain ⟨X, h⟩ := h
  refine ⟨X, ?_⟩
  split at h
  · rename_i hc
    rw [if_pos hc]
    exact h
  · rename_i hc
    rw [if_neg hc]
    exact h


end Go.Proofs.Ytgmdoboeenpjpaa
