/- A step that makes a box, in a region that draws its order. No condition. -/
import Derived.Test.YtnlnjhbckfcmfaaRg
namespace Go.Proofs.Ytnlnjhbckfcmfaa
open Go Go.RowKit

/-- A block of the region's own. -/
def NewB (w0 : World) (zs : List Value) (t : TypeId) (v : Value) (w : World) : Prop := ∃ b, v = .pointer (some ⟨b, 0, none⟩) ∧ w0.heap.size ≤ b ∧ w.heap[b]? = some (.cells zs.toArray t (0, 0))
theorem NewB.st (w0 : World) (zs : List Value) (t : TypeId) (v : Value) : St (NewB w0 zs t v) := fun w w' ⟨b, h1, h2, h3⟩ hx => by
  have hlt := (Array.getElem?_eq_some_iff.1 h3).1
  exact ⟨b, h1, h2, by rw [hx.block b hlt]; exact h3⟩
theorem NewB.cell {w0 w : World} {zs : List Value} {t : TypeId} {b : Nat} (h : NewB w0 zs t (.pointer (some ⟨b, 0, none⟩)) w) (j : Nat) : w.cell? ⟨b, j, none⟩ = zs[j]? := by
  obtain ⟨b', e, _, h3⟩ := h
  simp at e; subst e
  rw [cell_of_row w b j zs.toArray t (0, 0) h3]; simp
theorem NewB.frozen {w0 w : World} {zs : List Value} {t : TypeId} {b : Nat} (h : NewB w0 zs t (.pointer (some ⟨b, 0, none⟩)) w) (j : Nat) : w.frozen? ⟨b, j, none⟩ = false := by
  obtain ⟨b', e, _, h3⟩ := h
  simp at e; subst e
  exact frozen_of_row w b j zs.toArray t h3

section
variable {P : Program} {ops : Array Oper} {w0 : World} {SC : Nat → Value → Prop} {AC : Nat → Value → World → Prop}
theorem LX_alloc (zs : List Value) (t : TypeId) {Q : Act → World → Prop} {i : Nat} {o : Oper} {rest : List Oper} {Γ : Tmp → World → Prop} {a : Act} (hw : Region.wanted o (yielded ops a.tmps) = true) (hc : isCallB o = false)
    (hY : ∀ w, Ext w0 w → (execOp a.eval o).run P w = .ok (.value (.pointer (some ⟨w.heap.size, 0, none⟩))) (w.alloc (.cells zs.toArray t)))
    (hn : ∀ b, w0.heap.size ≤ b → LX P ops w0 SC AC Q (i + 1) rest (upC Γ o.dst (NewB w0 zs t (.pointer (some ⟨b, 0, none⟩)))) (a.put o.dst (.pointer (some ⟨b, 0, none⟩)))) : LX P ops w0 SC AC Q i (o :: rest) Γ a := by
  unfold LX opR
  rw [if_pos hw, if_neg (by simp [hc])]
  refine ⟨fun v => ∃ b, v = .pointer (some ⟨b, 0, none⟩) ∧ w0.heap.size ≤ b, fun v => NewB w0 zs t v, NewB.st w0 zs t, fun w hx _ => ?_, ?_⟩
  · rw [hY w hx]
    exact ⟨Ext.alloc _ _, ⟨_, rfl, hx.size⟩, _, rfl, hx.size, heap_alloc_new w _⟩
  · rintro _ ⟨b, rfl, hb⟩
    exact hn b hb
end
end Go.Proofs.Ytnlnjhbckfcmfaa
