
/- Lives as the program's memory holds them: two cells each. No condition. -/
import Derived.Test.YtlbmjeennpccmaaSN
import Derived.Test.YtlbmjeennpccmaaLo
import Derived.Test.YtlbmjeennpccmaaCr
import Derived.Test.YtlbmjeennpccmaaMi
import Derived.BigRegion
import Derived.IntWalk
namespace Go.Proofs.Ytlbmjeennpccmaa
open Go Go.RowKit Go.ChangeShapes Go.WideShapes Go.ChangeAt

abbrev Lf := Nat × Bool
def lfC (x : Lf) : List Value := [.float .f32 x.1, .bool x.2]
def lfs (ls : List Lf) : List Value := (ls.map lfC).flatten
theorem lfs_cons (x : Lf) (ls : List Lf) : lfs (x :: ls) = .float .f32 x.1 :: .bool x.2 :: lfs ls := rfl
theorem lfs_len : ∀ ls : List Lf, (lfs ls).length = ls.length * 2
  | [] => rfl
  | x :: ls => by rw [lfs_cons, List.length_cons, List.length_cons, lfs_len ls, List.length_cons]; omega
theorem lfs_0 : ∀ (ls : List Lf) (k : Nat) (h : k < ls.length), (lfs ls)[k * 2]? = some (.float .f32 ls[k].1)
  | x :: ls, 0, _ => rfl
  | x :: ls, k + 1, h => by
    rw [lfs_cons, show (k + 1) * 2 = k * 2 + 1 + 1 by omega, List.getElem?_cons_succ, List.getElem?_cons_succ, lfs_0 ls k (by simpa using h)]; rfl
theorem lfs_1 : ∀ (ls : List Lf) (k : Nat) (h : k < ls.length), (lfs ls)[k * 2 + 1]? = some (.bool ls[k].2)
  | x :: ls, 0, _ => rfl
  | x :: ls, k + 1, h => by
    rw [lfs_cons, show (k + 1) * 2 + 1 = k * 2 + 1 + 1 + 1 by omega, List.getElem?_cons_succ, List.getElem?_cons_succ, lfs_1 ls k (by simpa using h)]; rfl
theorem lfs_set : ∀ (ls : List Lf) (k : Nat) (x : Lf), ((lfs ls).set (k * 2) (.float .f32 x.1)).set (k * 2 + 1) (.bool x.2) = lfs (ls.set k x)
  | [], k, x => rfl
  | y :: ls, 0, x => rfl
  | y :: ls, k + 1, x => by
    rw [lfs_cons, show (k + 1) * 2 + 1 = k * 2 + 1 + 1 + 1 by omega, show (k + 1) * 2 = k * 2 + 1 + 1 by omega, List.set_cons_succ, List.set_cons_succ, List.set_cons_succ, List.set_cons_succ, lfs_set ls k x, List.set_cons_succ, lfs_cons]

def RdL (w : World) (v : Value) (ls : List Lf) : Prop := Rd 2 w v ls.length (lfs ls) ∧ ∀ x ∈ ls, x.1 < 4294967296
theorem RdL.ext {w w' : World} {v : Value} {ls : List Lf} (h : RdL w v ls) (hb : Ext w w') : RdL w' v ls := ⟨h.1.ext hb, h.2⟩
theorem RdL.at {w : World} {a : Option Addr} {cap n : Nat} {ls : List Lf} (h : RdL w (.slice a n cap) ls) {k : Nat} (hk : k < ls.length) :
    ∃ b off, a = some ⟨b, off, none⟩ ∧ b < w.heap.size ∧ w.cell? ⟨b, off + k * 2, none⟩ = some (.float .f32 ls[k].1) ∧ w.cell? ⟨b, off + k * 2 + 1, none⟩ = some (.bool ls[k].2) := by
  have hn : n = ls.length := by obtain ⟨⟨_, _, _, h2, _⟩, _⟩ := h; cases h2; rfl
  subst hn
  obtain ⟨b, off, h1, h2, h3⟩ := Rd.pos h.1 (by omega : 0 < ls.length * 2)
  refine ⟨b, off, h1, h2, ?_, ?_⟩
  · rw [h3 (k * 2) (by omega)]; exact lfs_0 ls k hk
  · rw [Nat.add_assoc, h3 (k * 2 + 1) (by omega)]; exact lfs_1 ls k hk
theorem RdL_nil (w : World) : RdL w (.slice none 0 0) [] := ⟨⟨rfl, none, 0, rfl, Nat.le_refl _, Nat.zero_le _, fun _ => rfl, fun _ h => by cases h⟩, by simp⟩

/-- A list of lives of the call's own. -/
def OwnL (B : Nat) (w : World) (g cap : Nat) (ls : List Lf) : Prop := w.ownsRow B 61 2 (.slice (some ⟨g, 0, none⟩) ls.length cap) ls.length (lfs ls)
theorem OwnL.rd {B : Nat} {w : World} {g cap : Nat} {ls : List Lf} (h : OwnL B w g cap ls) (hb : ∀ x ∈ ls, x.1 < 4294967296) : RdL w (.slice (some ⟨g, 0, none⟩) ls.length cap) ls := ⟨own_rd h, hb⟩
theorem OwnL.ext {B : Nat} {w w' : World} {g cap : Nat} {ls : List Lf} (h : OwnL B w g cap ls) (hx : Ext w w') : OwnL B w' g cap ls := own_ext h hx
theorem OwnL.grown {B : Nat} {w w' : World} {g g2 cap : Nat} {ls : List Lf} (h : OwnL B w g cap ls) (hg : w.grownBy w' (some g2)) (hne : g2 < B) : OwnL B w' g cap ls := own_grown h hg hne
theorem OwnL.lt {B : Nat} {w : World} {g cap : Nat} {ls : List Lf} (h : OwnL B w g cap ls) : B ≤ g ∧ g < w.heap.size := World.ownsRow.lt h g rfl
theorem OwnL.cells {B : Nat} {w : World} {g cap : Nat} {ls : List Lf} (h : OwnL B w g cap ls) {k : Nat} (hk : k < ls.length) :
    w.cell? ⟨g, k * 2, none⟩ = some (.float .f32 ls[k].1) ∧ w.cell? ⟨g, k * 2 + 1, none⟩ = some (.bool ls[k].2) :=
  ⟨by rw [World.ownsRow.cellAt h (k * 2) (by omega)]; exact lfs_0 ls k hk, by rw [World.ownsRow.cellAt h (k * 2 + 1) (by omega)]; exact lfs_1 ls k hk⟩
theorem OwnL.frozen {B : Nat} {w : World} {g cap : Nat} {ls : List Lf} (h : OwnL B w g cap ls) (j : Nat) : w.frozen? ⟨g, j, none⟩ = false := World.ownsRow.frozenAt h j
theorem OwnL.put {B : Nat} {w : World} {g cap : Nat} {ls : List Lf} (h : OwnL B w g cap ls) (k : Nat) (x : Lf) :
    OwnL B ((w.setCell ⟨g, k * 2, none⟩ (.float .f32 x.1)).setCell ⟨g, k * 2 + 1, none⟩ (.bool x.2)) g cap (ls.set k x) := by
  have h1 := (World.ownsRow.stored (World.ownsRow.stored h (k * 2) (.float .f32 x.1)).1 (k * 2 + 1) (.bool x.2)).1
  rw [lfs_set] at h1
  unfold OwnL
  rw [List.length_set]
  exact h1
theorem OwnL.swap {B : Nat} {w : World} {g cap : Nat} {ls : List Lf} (h : OwnL B w g cap ls) {i j : Nat} (hi : i < ls.length) (hj : j < ls.length) :
    OwnL B ((((w.setCell ⟨g, i * 2, none⟩ (.float .f32 ls[j].1)).setCell ⟨g, i * 2 + 1, none⟩ (.bool ls[j].2)).setCell ⟨g, j * 2, none⟩ (.float .f32 ls[i].1)).setCell ⟨g, j * 2 + 1, none⟩ (.bool ls[i].2)) g cap (swp2 ls i j) := by
  rw [swp2_eq hi hj]
  exact (h.put i ls[j]).put j ls[i]
theorem OwnL.drewN {B : Nat} {w : World} {g cap : Nat} {ls : List Lf} (h : OwnL B w g cap ls) (n : Nat) : OwnL B (w.drewN n) g cap ls := h.ext (Ext.drewN _ _)

/-- What an exchange leaves: the list's own block is written, no other. -/
theorem grown_four (w : World) (g a b c d : Nat) (u v x y : Value) : w.grownBy ((((w.setCell ⟨g, a, none⟩ u).setCell ⟨g, b, none⟩ v).setCell ⟨g, c, none⟩ x).setCell ⟨g, d, none⟩ y) (some g) :=
  (((grownBy_setCell w g a u).trans (grownBy_setCell _ g b v)).trans (grownBy_setCell _ g c x)).trans (grownBy_setCell _ g d y)
theorem grown_drewN (w : World) (n : Nat) (row : Option Nat) : w.grownBy (w.drewN n) row := ⟨rfl, rfl, rfl, Nat.le_refl _, fun _ _ _ => rfl⟩
theorem grown_of_ext {w w' : World} (h : Ext w w') (row : Option Nat) : w.grownBy w' row := ⟨h.os, h.tape, h.output, h.size, fun k hk _ => h.block k hk⟩
end Go.Proofs.Ytlbmjeennpccmaa
