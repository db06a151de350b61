
/- FnExactCrewBalance returns true for every input and changes nothing that was there. No condition. -/
import Derived.Test.YtlbmjeennpccmaaCr
import Derived.Test.YtlbmjeennpccmaaMk
import Derived.Test.YtlbmjeennpccmaaLh
namespace Go.Proofs.Ytlbmjeennpccmaa
open Go Go.RowKit Go.ChangeShapes Go.WideShapes Go.ChangeAt

theorem RdF_nil (w : World) : RdF w (.slice none 0 0) [] := ⟨⟨rfl, none, 0, rfl, Nat.le_refl _, Nat.zero_le _, fun _ => rfl, fun _ h => by cases h⟩, by simp⟩

/-- A list of 32-bit numbers of the call's own and true; or nothing and false. -/
def FlPost (o : Option (List Nat)) (w : World) (e : Ending) (w' : World) : Prop :=
  Ext w w' ∧ match o with
  | some xs => ∃ (g cap : Nat) (os : List Nat), e = .returned (.tuple #[.slice (some ⟨g, 0, none⟩) os.length cap, .bool true]) ∧ os.map (cn .f32) = xs ∧ (∀ b ∈ os, b < 4294967296) ∧
      w'.ownsRow w.heap.size 24 1 (.slice (some ⟨g, 0, none⟩) os.length cap) os.length (os.map (Value.float .f32))
  | none => e = .returned (.tuple #[.slice none 0 0, .bool false])

theorem flPost_crew {m c : Int} {f r : Nat} {w w' : World} {e : Ending} (h : CrewPost m c f r w e w') : FlPost (if crewPre m c f r && finAll (crewOut m c f r) then some (crewOut m c f r) else none) w e w' := by
  obtain ⟨X, h⟩ := h
  refine ⟨X, ?_⟩
  split at h
  · rename_i hc
    rw [if_pos hc]
    exact h
  · rename_i hc
    rw [if_neg hc]
    exact h


end Go.Proofs.Ytlbmjeennpccmaa
/- Results of the laws on lives: lists of the call's own, or nothing. No condition. -/
namespace Go.Proofs.Ytlbmjeennpccmaa
open Go Go.RowKit Go.ChangeShapes Go.WideShapes Go.ChangeAt

/-- A list of lives of the call's own, or nothing. -/
def OwL (B : Nat) (w : World) (v : Value) (ls : List Lf) : Prop := (v = .slice none 0 0 ∧ ls = []) ∨ ∃ g cap, v = .slice (some ⟨g, 0, none⟩) ls.length cap ∧ OwnL B w g cap ls
theorem OwL.ext {B : Nat} {w w' : World} {v : Value} {ls : List Lf} (h : OwL B w v ls) (hx : Ext w w') : OwL B w' v ls := by
  rcases h with h | ⟨g, cap, rfl, own⟩
  · exact .inl h
  · exact .inr ⟨g, cap, rfl, own.ext hx⟩
theorem OwL.grown {B g : Nat} {w w' : World} {v : Value} {ls : List Lf} (h : OwL B w v ls) (hg : w.grownBy w' (some g)) (hne : g < B) : OwL B w' v ls := by
  rcases h with h | ⟨g2, cap, rfl, own⟩
  · exact .inl h
  · exact .inr ⟨g2, cap, rfl, own.grown hg hne⟩
theorem OwL.rd {B : Nat} {w : World} {v : Value} {ls : List Lf} (h : OwL B w v ls) (hb : ∀ x ∈ ls, x.1 < 4294967296) : RdL w v ls := by
  rcases h with ⟨rfl, rfl⟩ | ⟨g, cap, rfl, own⟩
  · exact RdL_nil _
  · exact own.rd hb

/-- A list of numbers of the call's own, by their canonical bits, or nothing. -/
def OwF (B : Nat) (w : World) (v : Value) (xs : List Nat) : Prop := (v = .slice none 0 0 ∧ xs = []) ∨ ∃ (g cap : Nat) (os : List Nat), v = .slice (some ⟨g, 0, none⟩) os.length cap ∧ os.map (cn .f32) = xs ∧ (∀ b ∈ os, b < 4294967296) ∧
  w.ownsRow B 24 1 (.slice (some ⟨g, 0, none⟩) os.length cap) os.length (os.map (Value.float .f32))
theorem OwF.ext {B : Nat} {w w' : World} {v : Value} {xs : List Nat} (h : OwF B w v xs) (hx : Ext w w') : OwF B w' v xs := by
  rcases h with h | ⟨g, cap, os, rfl, h1, h2, own⟩
  · exact .inl h
  · exact .inr ⟨g, cap, os, rfl, h1, h2, own_ext own hx⟩
theorem OwF.grown {B g : Nat} {w w' : World} {v : Value} {xs : List Nat} (h : OwF B w v xs) (hg : w.grownBy w' (some g)) (hne : g < B) : OwF B w' v xs := by
  rcases h with h | ⟨g2, cap, os, rfl, h1, h2, own⟩
  · exact .inl h
  · exact .inr ⟨g2, cap, os, rfl, h1, h2, own_grown own hg hne⟩
theorem OwF.rd {B : Nat} {w : World} {v : Value} {xs : List Nat} (h : OwF B w v xs) : ∃ os, RdF w v os ∧ os.map (cn .f32) = xs := by
  rcases h with ⟨rfl, rfl⟩ | ⟨g, cap, os, rfl, h1, h2, own⟩
  · exact ⟨[], RdF_nil _, rfl⟩
  · exact ⟨os, ⟨own_rd own, h2⟩, h1⟩

/-- What the functions hand back: lives, or nothing and false. -/
def LfPost (o : Option (List Lf)) (w : World) (e : Ending) (w' : World) : Prop :=
  Ext w w' ∧ match o with
  | some ls => ∃ g cap, e = .returned (.tuple #[.slice (some ⟨g, 0, none⟩) ls.length cap, .bool true]) ∧ OwnL w.heap.size w' g cap ls
  | none => e = .returned (.tuple #[.slice none 0 0, .bool false])
theorem postL_own {o : Option (List Lf)} {w w' : World} {e : Ending} (h : LfPost o w e w') : ∃ v, e = .returned (.tuple #[v, .bool o.isSome]) ∧ OwL w.heap.size w' v (o.getD []) ∧ Ext w w' := by
  obtain ⟨X, h⟩ := h
  cases o with
  | none => exact ⟨_, h, .inl ⟨rfl, rfl⟩, X⟩
  | some zs => obtain ⟨g, cap, rfl, own⟩ := h; exact ⟨_, rfl, .inr ⟨g, cap, rfl, own⟩, X⟩
theorem postF_own {o : Option (List Nat)} {w w' : World} {e : Ending} (h : FlPost o w e w') : ∃ v, e = .returned (.tuple #[v, .bool o.isSome]) ∧ OwF w.heap.size w' v (o.getD []) ∧ Ext w w' := by
  obtain ⟨X, h⟩ := h
  cases o with
  | none => exact ⟨_, h, .inl ⟨rfl, rfl⟩, X⟩
  | some zs => obtain ⟨g, cap, os, rfl, h1, h2, own⟩ := h; exact ⟨_, rfl, .inr ⟨g, cap, os, rfl, h1, h2, own⟩, X⟩

theorem eqL_eq {B1 B2 : Nat} {v1 v2 : Value} {ls : List Lf} {w : World} (h1 : OwL B1 w v1 ls) (h2 : OwL B2 w v2 ls) (hb : ∀ x ∈ ls, x.1 < 4294967296) : Calls Try.prog 14 #[v1, v2] w fun e w' => e = .returned (.bool true) ∧ Ext w w' :=
  eqLifeS_any v1 v2 ls ls w (h1.rd hb) (h2.rd hb) rfl
theorem markL_own (k0 : Int) (B : Nat) (v : Value) (ls : List Lf) (w : World) (h : OwL B w v ls) (hB : B ≤ w.heap.size) (h0 : 0 ≤ k0) (h1 : k0 ≤ 1048576) (hn : ls.length ≤ 1048576) :
    Calls Try.prog 18 #[v, .int .i64 k0] w fun e w' => e = .returned (.int .i64 (k0 + 2 * ls.length)) ∧ Below B w w' ∧ OwL B w' v (marksL k0 ls.length) := by
  rcases h with ⟨rfl, rfl⟩ | ⟨g, cap, rfl, own⟩
  · refine (markL_nil k0 w).mono ?_
    rintro e w' ⟨rfl, rfl⟩
    exact ⟨by simp, Below.refl _ _, .inl ⟨rfl, rfl⟩⟩
  · refine (markL_g k0 g cap B ls w own h0 h1 hn).mono ?_
    rintro e w' ⟨rfl, hg, own'⟩
    exact ⟨rfl, grown_ext hg own.lt.1 hB, .inr ⟨g, cap, by rw [marksL_len], own'⟩⟩
theorem eqF_eq {B1 B2 : Nat} {v1 v2 : Value} {xs : List Nat} {w : World} (h1 : OwF B1 w v1 xs) (h2 : OwF B2 w v2 xs) : Calls Try.prog 17 #[v1, v2] w fun e w' => e = .returned (.bool true) ∧ Ext w w' := by
  obtain ⟨os, r1, e1⟩ := h1.rd
  obtain ⟨ps, r2, e2⟩ := h2.rd
  exact eqFloat32S_any v1 v2 os ps w r1 r2 (by show _ = _; rw [e1, e2])
theorem markF_own (k0 : Int) (B : Nat) (v : Value) (xs : List Nat) (w : World) (h : OwF B w v xs) (hB : B ≤ w.heap.size) (h0 : 0 ≤ k0) (h1 : k0 ≤ 1048576) (hn : xs.length ≤ 1048576) :
    Calls Try.prog 19 #[v, .int .i64 k0] w fun e w' => e = .returned (.int .i64 (k0 + xs.length)) ∧ Below B w w' ∧ RdF w' v (marksF k0 xs.length) := by
  rcases h with ⟨rfl, rfl⟩ | ⟨g, cap, os, rfl, rfl, h2, own⟩
  · refine (markF_nil k0 w).mono ?_
    rintro e w' ⟨rfl, rfl⟩
    exact ⟨by simp, Below.refl _ _, RdF_nil _⟩
  · rw [List.length_map] at *
    refine (markF_g k0 g os.length cap B os w own h0 h1 hn).mono ?_
    rintro e w' ⟨rfl, hg, own'⟩
    exact ⟨rfl, grown_ext hg (own.lt g rfl).1 hB, ⟨by rw [marksF_len]; exact own_rd own', marksF_lt _ _⟩⟩
end Go.Proofs.Ytlbmjeennpccmaa
