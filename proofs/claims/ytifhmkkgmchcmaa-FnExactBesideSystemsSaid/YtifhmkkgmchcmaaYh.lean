
/- Results of the laws on systems that are lists of 32-bit numbers. No condition. -/
import Derived.Test.YtifhmkkgmchcmaaYg
import Derived.Test.YtifhmkkgmchcmaaCB
namespace Go.Proofs.Ytifhmkkgmchcmaa
open Go Go.RowKit Go.ChangeShapes Go.WideShapes Go.ChangeAt

/-- A list of numbers of the call's own, by their canonical bits, or nothing. -/
def OwF (B : Nat) (w : World) (v : Value) (xs : List Nat) : Prop := (v = .slice none 0 0 ∧ xs = []) ∨ ∃ (g cap : Nat) (os : List Nat), v = .slice (some ⟨g, 0, none⟩) os.length cap ∧ os.map (cn .f32) = xs ∧ (∀ b ∈ os, b < 4294967296) ∧
  w.ownsRow B 49 1 (.slice (some ⟨g, 0, none⟩) os.length cap) os.length (os.map (Value.float .f32))
theorem OwF.ext {B : Nat} {w w' : World} {v : Value} {xs : List Nat} (h : OwF B w v xs) (hx : Ext w w') : OwF B w' v xs := by
  rcases h with h | ⟨g, cap, os, rfl, h1, h2, own⟩
  · exact .inl h
  · exact .inr ⟨g, cap, os, rfl, h1, h2, own_ext' own hx⟩
theorem OwF.grown {B g : Nat} {w w' : World} {v : Value} {xs : List Nat} (h : OwF B w v xs) (hg : w.grownBy w' (some g)) (hne : g < B) : OwF B w' v xs := by
  rcases h with h | ⟨g2, cap, os, rfl, h1, h2, own⟩
  · exact .inl h
  · exact .inr ⟨g2, cap, os, rfl, h1, h2, own_grown own hg hne⟩
theorem OwF.rd {B : Nat} {w : World} {v : Value} {xs : List Nat} (h : OwF B w v xs) : ∃ os, RdF w v os ∧ os.map (cn .f32) = xs := by
  rcases h with ⟨rfl, rfl⟩ | ⟨g, cap, os, rfl, h1, h2, own⟩
  · exact ⟨[], RdF_nil _, rfl⟩
  · exact ⟨os, ⟨own_rd own, h2⟩, h1⟩
theorem postF_own {o : Option (List Nat)} {w w' : World} {e : Ending} (h : FlPost o w e w') : ∃ v, e = .returned (.tuple #[v, .bool o.isSome]) ∧ OwF w.heap.size w' v (o.getD []) ∧ Ext w w' := by
  obtain ⟨X, h⟩ := h
  cases o with
  | none => exact ⟨_, h, .inl ⟨rfl, rfl⟩, X⟩
  | some zs => obtain ⟨g, cap, os, rfl, h1, h2, own⟩ := h; exact ⟨_, rfl, .inr ⟨g, cap, os, rfl, h1, h2, own⟩, X⟩
theorem eqF_eq {B1 B2 : Nat} {v1 v2 : Value} {xs : List Nat} {w : World} (h1 : OwF B1 w v1 xs) (h2 : OwF B2 w v2 xs) : Calls Try.prog 50 #[v1, v2] w fun e w' => e = .returned (.bool true) ∧ Ext w w' := by
  obtain ⟨os, r1, e1⟩ := h1.rd
  obtain ⟨ps, r2, e2⟩ := h2.rd
  exact eqFloat32S_any v1 v2 os ps w r1 r2 (by show _ = _; rw [e1, e2])
theorem markF_own (k0 : Int) (B : Nat) (v : Value) (xs : List Nat) (w : World) (h : OwF B w v xs) (hB : B ≤ w.heap.size) (h0 : 0 ≤ k0) (h1 : k0 ≤ 1048576) (hn : xs.length ≤ 1048576) :
    Calls Try.prog 57 #[v, .int .i64 k0] w fun e w' => e = .returned (.int .i64 (k0 + xs.length)) ∧ Below B w w' ∧ RdF w' v (marksF k0 xs.length) := by
  rcases h with ⟨rfl, rfl⟩ | ⟨g, cap, os, rfl, rfl, h2, own⟩
  · refine (markF_nil k0 w).mono ?_
    rintro e w' ⟨rfl, rfl⟩
    exact ⟨by simp, Below.refl _ _, RdF_nil _⟩
  · rw [List.length_map] at *
    refine (markF_g k0 g os.length cap B os w own h0 h1 hn).mono ?_
    rintro e w' ⟨rfl, hg, own'⟩
    exact ⟨rfl, grown_ext hg (own.lt g rfl).1 hB, ⟨by rw [marksF_len]; exact own_rd own', marksF_lt _ _⟩⟩
end Go.Proofs.Ytifhmkkgmchcmaa
