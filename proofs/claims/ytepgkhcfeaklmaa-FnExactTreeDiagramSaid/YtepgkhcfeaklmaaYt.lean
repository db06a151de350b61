
/- VoteSystem, both sides. No condition. -/
import Derived.Test.YtepgkhcfeaklmaaYs
namespace Go.Proofs.Ytepgkhcfeaklmaa
open Go Go.RowKit Go.ChangeShapes Go.WideShapes Go.ChangeAt

attribute [local irreducible] LX

theorem pop_whole : ∀ v : Fin 11, pop (2 ^ v.val - 1) = v.val := by decide +kernel
theorem vote_has {p v : Nat} (hp : p ≤ 10) (h1 : 1 ≤ v) (hv : v ≤ p) : 0 < (voteL p v).length := by
  refine List.length_pos_of_mem (a := 2 ^ v - 1) (List.mem_filter.2 ⟨List.mem_range.2 ?_, ?_⟩)
  · have : 2 ^ v ≤ 2 ^ p := Nat.pow_le_pow_right (by decide) hv
    have : 0 < 2 ^ v := Nat.pow_pos (by decide)
    omega
  · rw [decide_eq_true_eq]; exact pop_whole ⟨v, by omega⟩
def voteOk (p v : Int) : Bool := inB p 1 10 && inB v 1 p
def voteO (p v : Int) : Option (Int × List Int) := if voteOk p v then sysO p (ups (voteL p.toNat v.toNat)) else none


/-- A box of the call's own that holds a system. -/
def OwB (w : World) (b : Nat) (p : Int) (v : Value) : Prop := w.ownsRow b 33 2 (.slice (some ⟨b, 0, none⟩) 1 1) 1 [.int .i64 p, v]
theorem OwB.new (w : World) (p : Int) (v : Value) : OwB (w.alloc (.cells #[.int .i64 p, v] 33)) w.heap.size p v :=
  World.ownsRow_lit w #[.int .i64 p, v] 1 (Nat.le_refl _) (by decide) rfl
theorem OwB.two {w : World} {b : Nat} {p : Int} {v : Value} (h : OwB w b p v) : w.cell? ⟨b, 0, none⟩ = some (.int .i64 p) ∧ w.cell? ⟨b, 1, none⟩ = some v ∧ w.frozen? ⟨b, 0, none⟩ = false ∧ w.frozen? ⟨b, 1, none⟩ = false ∧ b < w.heap.size :=
  ⟨World.ownsRow.cellAt h 0 (by decide), World.ownsRow.cellAt h 1 (by decide), World.ownsRow.frozenAt h 0, World.ownsRow.frozenAt h 1, (World.ownsRow.lt h b rfl).2⟩
theorem OwB.below {B : Nat} {w w' : World} {b : Nat} {p : Int} {v : Value} (h : OwB w b p v) (hx : Below B w w') (hb : b < B) : OwB w' b p v := by
  obtain ⟨hl, h⟩ := h
  refine ⟨hl, ?_⟩
  rcases h with h' | ⟨g, cap, cur, e, h1, h2, h3⟩
  · exact .inl h'
  · refine .inr ⟨g, cap, cur, e, h1, ?_, h3⟩
    cases e
    rw [hx.block b hb]; exact h2
theorem OwB.ext {w w' : World} {b : Nat} {p : Int} {v : Value} (h : OwB w b p v) (hx : Ext w w') : OwB w' b p v := h.below hx h.two.2.2.2.2
theorem OwB.set {w : World} {b : Nat} {p : Int} {v u : Value} (h : OwB w b p v) : OwB (w.setCell ⟨b, 1, none⟩ u) b p u := (World.ownsRow.stored h 1 u).1
theorem own_shape {w : World} {B : Nat} {e : TypeId} {v : Value} {n : Nat} {xs : List Value} (h : w.ownsRow B e 1 v n xs) : ∃ a c, v = .slice a n c := by
  obtain ⟨hl, h⟩ := h
  rcases h with ⟨h', h2⟩ | ⟨g, cap, cur, e, h1, h2, h3⟩
  · exact ⟨none, 0, by rw [h']; rw [h2]⟩
  · exact ⟨_, _, e⟩
theorem vote_range (p v k : Nat) (hv : 1 ≤ v) : (List.range k).filter (fun s => decide (1 ≤ s) && decide (pop s = v)) = (List.range k).filter (fun s => decide (pop s = v)) := by
  apply List.filter_congr
  intro s _
  by_cases h : pop s = v
  · have : s ≠ 0 := fun e => by subst e; rw [pop_zero] at h; omega
    simp [h]; omega
  · simp [h]

end Go.Proofs.Ytepgkhcfeaklmaa
