
/- The laws' own functions on systems and their results. No condition. -/
import Derived.Test.YtgmdoboeenpjpaaSG
import Derived.Test.YtgmdoboeenpjpaaYd
import Derived.Test.YtgmdoboeenpjpaaEM
namespace Go.Proofs.Ytgmdoboeenpjpaa
open Go Go.RowKit Go.ChangeShapes Go.WideShapes Go.ChangeAt

attribute [local go_sem] run_store_float

theorem RdI_none (w : World) : RdI w (.slice none 0 0) [] := ⟨rfl, none, 0, rfl, Nat.le_refl _, Nat.zero_le _, fun _ => rfl, fun _ h => by cases h⟩
/-- Blocks from T on are as they were. -/
def KeptFrom (T : Nat) (w w' : World) : Prop := ∀ b, T ≤ b → b < w.heap.size → w'.heap[b]? = w.heap[b]?
theorem KeptFrom.of_ext {T : Nat} {w w' : World} (h : Ext w w') : KeptFrom T w w' := fun b _ hb => h.block b hb
theorem KeptFrom.of_grown {T g : Nat} {w w' : World} (h : w.grownBy w' (some g)) (hg : g < T) : KeptFrom T w w' := fun b hT hb => h.block b hb (fun e => by cases e; omega)
theorem Bx.of_block {w w' : World} {b : Nat} {vs : List Value} (h : Bx w b vs) (hs : w.heap.size ≤ w'.heap.size) (hb : w'.heap[b]? = w.heap[b]?) : Bx w' b vs :=
  ⟨Nat.lt_of_lt_of_le h.1 hs, fun j hj => (World.cell?_of_block hb).trans (h.2 j hj)⟩
theorem Bx.kept {T : Nat} {w w' : World} {b : Nat} {vs : List Value} (h : Bx w b vs) (hs : w.heap.size ≤ w'.heap.size) (k : KeptFrom T w w') (hT : T ≤ b) : Bx w' b vs := h.of_block hs (k b hT h.1)
theorem Bx.grown {g : Nat} {w w' : World} {b : Nat} {vs : List Value} (h : Bx w b vs) (k : w.grownBy w' (some g)) (hne : b ≠ g) : Bx w' b vs := h.of_block k.size (k.block b h.1 (fun e => hne (Option.some.inj e)))

/-- A list of ints of the call's own (in a block below T), or nothing. -/
def OwZ (B T : Nat) (w : World) (v : Value) (zs : List Int) : Prop := (v = .slice none 0 0 ∧ zs = []) ∨ ∃ g cap, v = .slice (some ⟨g, 0, none⟩) zs.length cap ∧ g < T ∧ w.ownsRow B 2 1 (.slice (some ⟨g, 0, none⟩) zs.length cap) zs.length (zs.map (Value.int .i64))
theorem OwZ.rd {B T : Nat} {w : World} {v : Value} {zs : List Int} (h : OwZ B T w v zs) : RdI w v zs := by
  rcases h with ⟨rfl, rfl⟩ | ⟨g, cap, rfl, -, own⟩
  · exact RdI_none _
  · exact own_rd own
theorem OwZ.ext {B T : Nat} {w w' : World} {v : Value} {zs : List Int} (h : OwZ B T w v zs) (hx : Ext w w') : OwZ B T w' v zs := by
  rcases h with h | ⟨g, cap, rfl, hT, own⟩
  · exact .inl h
  · exact .inr ⟨g, cap, rfl, hT, own_ext' own hx⟩
theorem OwZ.grown {B T g : Nat} {w w' : World} {v : Value} {zs : List Int} (h : OwZ B T w v zs) (hg : w.grownBy w' (some g)) (hne : g < B) : OwZ B T w' v zs := by
  rcases h with h | ⟨g2, cap, rfl, hT, own⟩
  · exact .inl h
  · exact .inr ⟨g2, cap, rfl, hT, own_grown own hg hne⟩

/-- What functions that hand back ints leave. -/
def ZlPost (o : Option (List Int)) (w : World) (e : Ending) (w' : World) : Prop :=
  Ext w w' ∧ match o with
  | some zs => ∃ g cap, e = .returned (.tuple #[.slice (some ⟨g, 0, none⟩) zs.length cap, .bool true]) ∧ w'.ownsRow w.heap.size 2 1 (.slice (some ⟨g, 0, none⟩) zs.length cap) zs.length (zs.map (Value.int .i64))
  | none => e = .returned (.tuple #[.slice none 0 0, .bool false])
theorem zlPost_own {o : Option (List Int)} {w w' : World} {e : Ending} (h : ZlPost o w e w') : ∃ v, e = .returned (.tuple #[v, .bool o.isSome]) ∧ OwZ w.heap.size w'.heap.size w' v (o.getD []) ∧ Ext w w' := by
  obtain ⟨X, h⟩ := h
  cases o with
  | none => exact ⟨_, h, .inl ⟨rfl, rfl⟩, X⟩
  | some zs => obtain ⟨g, cap, rfl, own⟩ := h; exact ⟨_, rfl, .inr ⟨g, cap, rfl, (own.lt g rfl).2, own⟩, X⟩
/-- What functions that hand back a system leave. -/
def YsPost (o : Option (Int × List Int)) (w : World) (e : Ending) (w' : World) : Prop :=
  Ext w w' ∧ match o with
  | some q => ∃ g cap, e = .returned (.tuple #[.agg #[.int .i64 q.1, .slice (some ⟨g, 0, none⟩) q.2.length cap], .bool true]) ∧ w'.ownsRow w.heap.size 2 1 (.slice (some ⟨g, 0, none⟩) q.2.length cap) q.2.length (q.2.map (Value.int .i64))
  | none => e = .returned (.tuple #[.agg #[.int .i64 0, .slice none 0 0], .bool false])
theorem ysPost_own {o : Option (Int × List Int)} {w w' : World} {e : Ending} (h : YsPost o w e w') : ∃ v, e = .returned (.tuple #[.agg #[.int .i64 (o.getD (0, [])).1, v], .bool o.isSome]) ∧ OwZ w.heap.size w'.heap.size w' v (o.getD (0, [])).2 ∧ Ext w w' := by
  obtain ⟨X, h⟩ := h
  cases o with
  | none => exact ⟨_, h, .inl ⟨rfl, rfl⟩, X⟩
  | some q => obtain ⟨g, cap, rfl, own⟩ := h; exact ⟨_, rfl, .inr ⟨g, cap, rfl, (own.lt g rfl).2, own⟩, X⟩
theorem OwZ.shape {B T : Nat} {w : World} {v : Value} {zs : List Int} (h : OwZ B T w v zs) : ∃ a n c, v = .slice a n c := by
  rcases h with ⟨rfl, -⟩ | ⟨g, cap, rfl, -, -⟩
  · exact ⟨_, _, _, rfl⟩
  · exact ⟨_, _, _, rfl⟩

end Go.Proofs.Ytgmdoboeenpjpaa
/- Results of the laws on systems that are lists of 32-bit numbers. No condition. -/
namespace Go.Proofs.Ytgmdoboeenpjpaa
open Go Go.RowKit Go.ChangeShapes Go.WideShapes Go.ChangeAt

/-- A list of numbers of the call's own, by their canonical bits, or nothing. -/
def OwF (B : Nat) (w : World) (v : Value) (xs : List Nat) : Prop := (v = .slice none 0 0 ∧ xs = []) ∨ ∃ (g cap : Nat) (os : List Nat), v = .slice (some ⟨g, 0, none⟩) os.length cap ∧ os.map (cn .f32) = xs ∧ (∀ b ∈ os, b < 4294967296) ∧
  w.ownsRow B 31 1 (.slice (some ⟨g, 0, none⟩) os.length cap) os.length (os.map (Value.float .f32))
theorem OwF.ext {B : Nat} {w w' : World} {v : Value} {xs : List Nat} (h : OwF B w v xs) (hx : Ext w w') : OwF B w' v xs := by
  rcases h with h | ⟨g, cap, os, rfl, h1, h2, own⟩
  · exact .inl h
  · exact .inr ⟨g, cap, os, rfl, h1, h2, own_ext' own hx⟩
theorem OwF.grown {B g : Nat} {w w' : World} {v : Value} {xs : List Nat} (h : OwF B w v xs) (hg : w.grownBy w' (some g)) (hne : g < B) : OwF B w' v xs := by
  rcases h with h | ⟨g2, cap, os, rfl, h1, h2, own⟩
  · exact .inl h
  · exact .inr ⟨g2, cap, os, rfl, h1, h2, own_grown own hg hne⟩
theorem OwF.rd {B : Nat} {w : World} {v : Value} {xs : List Nat} (h : OwF B w v xs) : ∃ os, RdF w v os ∧ os.map (cn .f32) = xs := by
  rcases h with ⟨rfl, rfl⟩ | ⟨g, cap, os, rfl, h1, h2, own⟩
  · exact ⟨[], RdF_nil _, rfl⟩
  · exact ⟨os, ⟨own_rd own, h2⟩, h1⟩
theorem postF_own {o : Option (List Nat)} {w w' : World} {e : Ending} (h : FlPost o w e w') : ∃ v, e = .returned (.tuple #[v, .bool o.isSome]) ∧ OwF w.heap.size w' v (o.getD []) ∧ Ext w w' := by
  obtain ⟨X, h⟩ := h
  cases o with
  | none => exact ⟨_, h, .inl ⟨rfl, rfl⟩, X⟩
  | some zs => obtain ⟨g, cap, os, rfl, h1, h2, own⟩ := h; exact ⟨_, rfl, .inr ⟨g, cap, os, rfl, h1, h2, own⟩, X⟩
end Go.Proofs.Ytgmdoboeenpjpaa
