
/- A step that makes a box, in a region that draws its order. No condition. -/
import Derived.Test.YtgmdoboeenpjpaaRg
import Derived.Test.YtgmdoboeenpjpaaE
namespace Go.Proofs.Ytgmdoboeenpjpaa
open Go Go.RowKit

/-- A block of the region's own. -/
def NewB (w0 : World) (zs : List Value) (t : TypeId) (v : Value) (w : World) : Prop := ∃ b, v = .pointer (some ⟨b, 0, none⟩) ∧ w0.heap.size ≤ b ∧ w.heap[b]? = some (.cells zs.toArray t (0, 0))
theorem NewB.st (w0 : World) (zs : List Value) (t : TypeId) (v : Value) : St (NewB w0 zs t v) := fun w w' ⟨b, h1, h2, h3⟩ hx => by
  have hlt := (Array.getElem?_eq_some_iff.1 h3).1
  exact ⟨b, h1, h2, by rw [hx.block b hlt]; exact h3⟩
theorem NewB.cell {w0 w : World} {zs : List Value} {t : TypeId} {b : Nat} (h : NewB w0 zs t (.pointer (some ⟨b, 0, none⟩)) w) (j : Nat) : w.cell? ⟨b, j, none⟩ = zs[j]? := by
  obtain ⟨b', e, _, h3⟩ := h
  simp at e; subst e
  rw [cell_of_row w b j zs.toArray t (0, 0) h3]; simp
theorem NewB.frozen {w0 w : World} {zs : List Value} {t : TypeId} {b : Nat} (h : NewB w0 zs t (.pointer (some ⟨b, 0, none⟩)) w) (j : Nat) : w.frozen? ⟨b, j, none⟩ = false := by
  obtain ⟨b', e, _, h3⟩ := h
  simp at e; subst e
  exact frozen_of_row w b j zs.toArray t h3

/-- A slice of the region's own. -/
def NewS (w0 : World) (zs : List Value) (t : TypeId) (n : Nat) (v : Value) (w : World) : Prop := ∃ b, v = .slice (some ⟨b, 0, none⟩) n n ∧ w0.heap.size ≤ b ∧ w.heap[b]? = some (.cells zs.toArray t (0, 0))
theorem NewS.st (w0 : World) (zs : List Value) (t : TypeId) (n : Nat) (v : Value) : St (NewS w0 zs t n v) := fun w w' ⟨b, h1, h2, h3⟩ hx => by
  have hlt := (Array.getElem?_eq_some_iff.1 h3).1
  exact ⟨b, h1, h2, by rw [hx.block b hlt]; exact h3⟩
theorem NewS.bx {w0 w : World} {zs : List Value} {t : TypeId} {n b : Nat} (h : NewS w0 zs t n (.slice (some ⟨b, 0, none⟩) n n) w) : Bx w b zs := by
  obtain ⟨b', e, _, h3⟩ := h
  simp at e; subst e
  exact ⟨(Array.getElem?_eq_some_iff.1 h3).1, fun j _ => by rw [cell_of_row w b j zs.toArray t (0, 0) h3]; simp⟩

section
variable {P : Program} {ops : Array Oper} {w0 : World} {SC : Nat → Value → Prop} {AC : Nat → Value → World → Prop}
theorem LX_alloc (zs : List Value) (t : TypeId) {Q : Act → World → Prop} {i : Nat} {o : Oper} {rest : List Oper} {Γ : Tmp → World → Prop} {a : Act} (hw : Region.wanted o (yielded ops a.tmps) = true) (hc : isCallB o = false)
    (hY : ∀ w, Ext w0 w → (execOp a.eval o).run P w = .ok (.value (.pointer (some ⟨w.heap.size, 0, none⟩))) (w.alloc (.cells zs.toArray t)))
    (hn : ∀ b, w0.heap.size ≤ b → LX P ops w0 SC AC Q (i + 1) rest (upC Γ o.dst (NewB w0 zs t (.pointer (some ⟨b, 0, none⟩)))) (a.put o.dst (.pointer (some ⟨b, 0, none⟩)))) : LX P ops w0 SC AC Q i (o :: rest) Γ a := by
  unfold LX opR
  rw [if_pos hw, if_neg (by simp [hc])]
  refine ⟨fun v => ∃ b, v = .pointer (some ⟨b, 0, none⟩) ∧ w0.heap.size ≤ b, fun v => NewB w0 zs t v, NewB.st w0 zs t, fun w hx _ => ?_, ?_⟩
  · rw [hY w hx]
    exact ⟨Ext.alloc _ _, ⟨_, rfl, hx.size⟩, _, rfl, hx.size, heap_alloc_new w _⟩
  · rintro _ ⟨b, rfl, hb⟩
    exact hn b hb
theorem LX_build (zs : List Value) (t : TypeId) (n : Nat) {Q : Act → World → Prop} {i : Nat} {o : Oper} {rest : List Oper} {Γ : Tmp → World → Prop} {a : Act} (hw : Region.wanted o (yielded ops a.tmps) = true) (hc : isCallB o = false)
    (hY : ∀ w, Ext w0 w → (execOp a.eval o).run P w = .ok (.value (.slice (some ⟨w.heap.size, 0, none⟩) n n)) (w.alloc (.cells zs.toArray t)))
    (hn : ∀ b, w0.heap.size ≤ b → LX P ops w0 SC AC Q (i + 1) rest (upC Γ o.dst (NewS w0 zs t n (.slice (some ⟨b, 0, none⟩) n n))) (a.put o.dst (.slice (some ⟨b, 0, none⟩) n n))) : LX P ops w0 SC AC Q i (o :: rest) Γ a := by
  unfold LX opR
  rw [if_pos hw, if_neg (by simp [hc])]
  refine ⟨fun v => ∃ b, v = .slice (some ⟨b, 0, none⟩) n n ∧ w0.heap.size ≤ b, fun v => NewS w0 zs t n v, NewS.st w0 zs t n, fun w hx _ => ?_, ?_⟩
  · rw [hY w hx]
    exact ⟨Ext.alloc _ _, ⟨_, rfl, hx.size⟩, _, rfl, hx.size, heap_alloc_new w _⟩
  · rintro _ ⟨b, rfl, hb⟩
    exact hn b hb
end
/-- A row of one type is no block of another. -/
theorem own_ne {w : World} {base n g cap B : Nat} {e t : TypeId} {xs : List Value} {cs : Array Value} (h : w.ownsRow base e 1 (.slice (some ⟨g, 0, none⟩) n cap) n xs) (hB : w.heap[B]? = some (.cells cs t (0, 0))) (ht : e ≠ t) : g ≠ B := by
  rintro rfl
  rcases h.2 with ⟨h', _⟩ | ⟨g', cap', cur, h', _, hg, _⟩
  · simp at h'
  · simp only [Value.slice.injEq, Option.some.injEq, Addr.mk.injEq, and_true, true_and] at h'
    obtain ⟨rfl, rfl⟩ := h'
    rw [hg] at hB
    simp at hB
    exact ht hB.2

/-- append of one element to a slice of the call's own: no other block turns. -/
theorem wpList_pushB {P : Program} {ops : Array Oper} {rest : List Oper} {o : Oper} {a : Act} {w : World} {Q : Exit → Act → World → Prop} {s x : Operand} {t e : TypeId} {z u : Value} {bytes : Nat} {base n : Nat} {v : Value} {xs : List Value} {blk c : Nat}
    (hinfo : (P.info? e).map (fun i => (i.zero, i.size, i.bytes)) = some (some z, 1, bytes)) (hz : z.cells.size = 1) (ht : P.underlying t = some (.slice e))
    (hgd : o.guard = none) (ho : o.op = .call { callee := .builtin .append, args := #[s, x], argTypes := #[t, t] })
    (hs : a.eval s = v) (hown : w.ownsRow base e 1 v n xs) (hx : a.eval x = .slice (some ⟨blk, 0, none⟩) 1 c) (hu : w.cell? ⟨blk, 0, none⟩ = some u) (hu1 : u.oneCell' = true)
    (hn : n + 1 ≤ 8796093022208) (hb16 : bytes ≤ 16) (hbase : base ≤ w.heap.size)
    (h : ∀ g cap w', base ≤ g → w'.ownsRow base e 1 (.slice (some ⟨g, 0, none⟩) (n + 1) cap) (n + 1) (xs ++ [u]) → (∀ W, Below base W w → Below base W w') → w.heap.size ≤ w'.heap.size → (∀ k, k < w.heap.size → some k ≠ v.ownBlock → w'.heap[k]? = w.heap[k]?) →
      wpList P ops Q rest (a.put o.dst (.slice (some ⟨g, 0, none⟩) (n + 1) cap)) w') : wpList P ops Q (o :: rest) a w := by
  obtain ⟨i, hi, h1, h2, h3⟩ := info_parts hinfo
  refine wpList_append_own w hgd s x t ho base e i z 1 bytes ht hi h1 h2 h3 hz (by omega) v n xs hs hown ⟨blk, 0, none⟩ 1 c [u] hx rfl ?_ ?_ ?_ ?_ hbase ?_
  · intro j u' hj
    cases j with
    | zero => simp at hj; subst hj; simpa [Addr.add] using hu
    | succ j => simp at hj
  · intro u' hu'; simp at hu'; subst hu'; exact hu1
  · simp only [maxLen]; omega
  · have : (n + 1) * bytes ≤ 8796093022208 * 16 := Nat.mul_le_mul hn hb16
    omega
  · intro v' w' hown' hg hh
    obtain ⟨g, cap, rfl, hbg, _⟩ := own_head hown' (by omega)
    exact h g cap w' hbg hown' (fun W hW => hW.grown hg hbase fun k hk => (hown.lt k hk).1) hg.size fun k hk hne => hg.block k hk hne
end Go.Proofs.Ytgmdoboeenpjpaa
