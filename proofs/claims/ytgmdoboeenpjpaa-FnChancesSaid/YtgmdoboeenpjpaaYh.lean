
/- Results of the laws on systems that are lists of 32-bit numbers. No condition. -/
import Derived.Test.YtgmdoboeenpjpaaYg
import Derived.Test.YtgmdoboeenpjpaaCB
namespace Go.Proofs.Ytgmdoboeenpjpaa
open Go Go.RowKit Go.ChangeShapes Go.WideShapes Go.ChangeAt

/-- A list of numbers of the call's own, by their canonical bits, or nothing. -/
def OwF (B : Nat) (w : World) (v : Value) (xs : List Nat) : Prop := (v = .slice none 0 0 ∧ xs = []) ∨ ∃ (g cap : Nat) (os : List Nat), v = .slice (some ⟨g, 0, none⟩) os.length cap ∧ os.map (cn .f32) = xs ∧ (∀ b ∈ os, b < 4294967296) ∧
  w.ownsRow B 31 1 (.slice (some ⟨g, 0, none⟩) os.length cap) os.length (os.map (Value.float .f32))
theorem OwF.ext {B : Nat} {w w' : World} {v : Value} {xs : List Nat} (h : OwF B w v xs) (hx : Ext w w') : OwF B w' v xs := by
  rcases h with h | ⟨g, cap, os, rfl, h1, h2, own⟩
  · exact .inl h
  · exact .inr ⟨g, cap, os, rfl, h1, h2, own_ext' own hx⟩
theorem OwF.grown {B g : Nat} {w w' : World} {v : Value} {xs : List Nat} (h : OwF B w v xs) (hg : w.grownBy w' (some g)) (hne : g < B) : OwF B w' v xs := by
  rcases h with h | ⟨g2, cap, os, rfl, h1, h2, own⟩
  · exact .inl h
  · exact .inr ⟨g2, cap, os, rfl, h1, h2, own_grown own hg hne⟩
theorem OwF.rd {B : Nat} {w : World} {v : Value} {xs : List Nat} (h : OwF B w v xs) : ∃ os, RdF w v os ∧ os.map (cn .f32) = xs := by
  rcases h with ⟨rfl, rfl⟩ | ⟨g, cap, os, rfl, h1, h2, own⟩
  · exact ⟨[], RdF_nil _, rfl⟩
  · exact ⟨os, ⟨own_rd own, h2⟩, h1⟩
theorem postF_own {o : Option (List Nat)} {w w' : World} {e : Ending} (h : FlPost o w e w') : ∃ v, e = .returned (.tuple #[v, .bool o.isSome]) ∧ OwF w.heap.size w' v (o.getD []) ∧ Ext w w' := by
  obtain ⟨X, h⟩ := h
  cases o with
  | none => exact ⟨_, h, .inl ⟨rfl, rfl⟩, X⟩
  | some zs => obtain ⟨g, cap, os, rfl, h1, h2, own⟩ := h; exact ⟨_, rfl, .inr ⟨g, cap, os, rfl, h1, h2, own⟩, X⟩
end Go.Proofs.Ytgmdoboeenpjpaa
