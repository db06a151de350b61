
/- Marks in lists of gates, and the walk of an exact law over a tree that hands back a list of ints. Condition: what is marked are cells of the law's own. -/
import Derived.Test.YtgmdoboeenpjpaaFF
import Derived.Test.YtgmdoboeenpjpaaYG
namespace Go.Proofs.Ytgmdoboeenpjpaa
open Go Go.RowKit Go.ChangeShapes Go.WideShapes Go.ChangeAt

/-- A slice whose cells are ints that may be written, in a block between B and z. -/
def WrI (B z : Nat) (w : World) (v : Value) : Prop := ∃ a n c, v = .slice a n c ∧ n ≤ 1048576 ∧ (n = 0 ∨ ∃ g, a = some ⟨g, 0, none⟩ ∧ B ≤ g ∧ g < z ∧ ∀ j, j < n → (∃ x, w.cell? ⟨g, j, none⟩ = some (.int .i64 x)) ∧ w.frozen? ⟨g, j, none⟩ = false)
/-- Cells that hold ints have been written, in blocks between B and z. -/
structure MkR (B z : Nat) (w w' : World) : Prop where
  below : Below B w w'
  kept : KeptFrom z w w'
  cell : ∀ a v, w.cell? a = some v → w.frozen? a = false → ∃ v', w'.cell? a = some v' ∧ w'.frozen? a = false ∧ (((∃ x, v = .int .i64 x) ∧ ∃ y, v' = .int .i64 y) ∨ v' = v)
theorem MkR.refl (B z : Nat) (w : World) : MkR B z w w := ⟨Below.refl _ _, fun _ _ _ => rfl, fun a v h hf => ⟨v, h, hf, .inr rfl⟩⟩
theorem MkR.trans {B z : Nat} {a b c : World} (h : MkR B z a b) (k : MkR B z b c) : MkR B z a c := by
  refine ⟨Below.trans h.below k.below, fun j h1 h2 => (k.kept j h1 (Nat.lt_of_lt_of_le h2 h.below.size)).trans (h.kept j h1 h2), fun ad v hc hf => ?_⟩
  obtain ⟨v1, c1, f1, d1⟩ := h.cell ad v hc hf
  obtain ⟨v2, c2, f2, d2⟩ := k.cell ad v1 c1 f1
  refine ⟨v2, c2, f2, ?_⟩
  rcases d1 with ⟨hx, y, rfl⟩ | rfl
  · rcases d2 with ⟨-, hy⟩ | rfl
    · exact .inl ⟨hx, hy⟩
    · exact .inl ⟨hx, y, rfl⟩
  · exact d2
theorem MkR.set {B z g j : Nat} {w : World} {x : Int} (y : Int) (hg : B ≤ g) (hz : g < z) (hc : w.cell? ⟨g, j, none⟩ = some (.int .i64 x)) : MkR B z w (w.setCell ⟨g, j, none⟩ (.int .i64 y)) := by
  refine ⟨Below.setCell (Below.refl _ _) hg _, fun b h1 h2 => Below.heap_setCell _ _ _ b (by show b ≠ g; omega), fun a v h hf => ?_⟩
  have hf' : (w.setCell ⟨g, j, none⟩ (.int .i64 y)).frozen? a = false := by rw [World.frozen?_setCell]; exact hf
  by_cases e : a = ⟨g, j, none⟩
  · subst e
    rw [hc] at h
    cases h
    exact ⟨_, World.cell?_setCell_same' _ _ _ (by rw [hc]; rfl), hf', .inl ⟨⟨_, rfl⟩, _, rfl⟩⟩
  · exact ⟨v, (World.cell?_setCell_other _ _ _ _ (fun h => e h.symm)).trans h, hf', .inr rfl⟩
theorem WrI.mk {B z : Nat} {w w' : World} {v : Value} (h : WrI B z w v) (m : MkR B z w w') : WrI B z w' v := by
  obtain ⟨a, n, c, rfl, hn, h⟩ := h
  refine ⟨a, n, c, rfl, hn, ?_⟩
  rcases h with h | ⟨g, rfl, h1, h2, h3⟩
  · exact .inl h
  · refine .inr ⟨g, rfl, h1, h2, fun j hj => ?_⟩
    obtain ⟨⟨x, hx⟩, hf⟩ := h3 j hj
    obtain ⟨v', hc, hf', hd⟩ := m.cell _ _ hx hf
    rcases hd with ⟨-, y, rfl⟩ | rfl
    · exact ⟨⟨y, hc⟩, hf'⟩
    · exact ⟨⟨x, hc⟩, hf'⟩
theorem WrI.ext {B z : Nat} {w w' : World} {v : Value} (h : WrI B z w v) (hz : z ≤ w.heap.size) (hx : Ext w w') : WrI B z w' v := by
  obtain ⟨a, n, c, rfl, hn, h⟩ := h
  refine ⟨a, n, c, rfl, hn, ?_⟩
  rcases h with h | ⟨g, rfl, h1, h2, h3⟩
  · exact .inl h
  · refine .inr ⟨g, rfl, h1, h2, fun j hj => ?_⟩
    obtain ⟨⟨x, hx'⟩, hf⟩ := h3 j hj
    have hg : g < w.heap.size := by omega
    exact ⟨⟨x, (Below.cell hx (p := ⟨g, j, none⟩) hg).trans hx'⟩, (Below.frozen hx (p := ⟨g, j, none⟩) hg).trans hf⟩


/-- Gates of the law's own: their cells may be written. -/
def GateW (B z : Nat) (w : World) (b n : Nat) : Prop := B ≤ b ∧ b < z ∧ ∀ i, i < n → ∃ x y kv, (w.cell? ⟨b, i * 3, none⟩ = some (.int .i64 x) ∧ w.frozen? ⟨b, i * 3, none⟩ = false) ∧
  (w.cell? ⟨b, i * 3 + 1, none⟩ = some (.int .i64 y) ∧ w.frozen? ⟨b, i * 3 + 1, none⟩ = false) ∧ (w.cell? ⟨b, i * 3 + 2, none⟩ = some kv ∧ w.frozen? ⟨b, i * 3 + 2, none⟩ = false) ∧ WrI B z w kv
theorem GateW.mk {B z b n : Nat} {w w' : World} (h : GateW B z w b n) (m : MkR B z w w') : GateW B z w' b n := by
  obtain ⟨h1, h2, h3⟩ := h
  refine ⟨h1, h2, fun i hi => ?_⟩
  obtain ⟨x, y, kv, ⟨c0, f0⟩, ⟨c1, f1⟩, ⟨c2, f2⟩, hk⟩ := h3 i hi
  obtain ⟨v0, d0, g0, e0⟩ := m.cell _ _ c0 f0
  obtain ⟨v1, d1, g1, e1⟩ := m.cell _ _ c1 f1
  obtain ⟨v2, d2, g2, e2⟩ := m.cell _ _ c2 f2
  obtain ⟨x', rfl⟩ : ∃ y, v0 = .int .i64 y := by
    rcases e0 with ⟨-, y, rfl⟩ | rfl
    · exact ⟨y, rfl⟩
    · exact ⟨x, rfl⟩
  obtain ⟨y', rfl⟩ : ∃ y, v1 = .int .i64 y := by
    rcases e1 with ⟨-, y, rfl⟩ | rfl
    · exact ⟨y, rfl⟩
    · exact ⟨_, rfl⟩
  obtain rfl : v2 = kv := by
    rcases e2 with ⟨⟨q, rfl⟩, -⟩ | rfl
    · obtain ⟨a, n, c, e, -⟩ := hk
      cases e
    · rfl
  exact ⟨x', y', v2, ⟨d0, g0⟩, ⟨d1, g1⟩, ⟨d2, g2⟩, hk.mk m⟩
theorem GateW.ext {B z b n : Nat} {w w' : World} (h : GateW B z w b n) (hz : z ≤ w.heap.size) (hx : Ext w w') : GateW B z w' b n := by
  obtain ⟨h1, h2, h3⟩ := h
  have hb : b < w.heap.size := by omega
  refine ⟨h1, h2, fun i hi => ?_⟩
  obtain ⟨x, y, kv, ⟨c0, f0⟩, ⟨c1, f1⟩, ⟨c2, f2⟩, hk⟩ := h3 i hi
  exact ⟨x, y, kv, ⟨(Below.cell hx (p := ⟨b, _, none⟩) hb).trans c0, (Below.frozen hx (p := ⟨b, _, none⟩) hb).trans f0⟩, ⟨(Below.cell hx (p := ⟨b, _, none⟩) hb).trans c1, (Below.frozen hx (p := ⟨b, _, none⟩) hb).trans f1⟩,
    ⟨(Below.cell hx (p := ⟨b, _, none⟩) hb).trans c2, (Below.frozen hx (p := ⟨b, _, none⟩) hb).trans f2⟩, hk.ext hz hx⟩
theorem OwnG.gateW {B b n : Nat} {w : World} {ns : List Gt} (h : OwnG B w b n ns) (hk : ∀ g ∈ ns, g.kids.length ≤ 1048576) : GateW B w.heap.size w b n := by
  obtain ⟨rfl, own, hks⟩ := h
  refine ⟨(own.lt b rfl).1, (own.lt b rfl).2, fun i hi => ?_⟩
  obtain ⟨b', o', e, -, k0, k1, k2⟩ := (OwnG.rd ⟨rfl, own, hks⟩).at hi
  cases e
  rw [Nat.zero_add] at k0 k1 k2
  refine ⟨ns[i].kind, ns[i].votes, ns[i].kv, ⟨k0, own.frozenAt _⟩, ⟨k1, own.frozenAt _⟩, ⟨k2, own.frozenAt _⟩, ?_⟩
  · have hm := List.getElem_mem hi
    obtain ⟨⟨ok, -⟩, -⟩ := hks _ hm
    have hn := hk _ hm
    have ok' := ok
    rcases ok.2 with ⟨e, h2⟩ | ⟨g, cap, cur, e, h1, h2, h3⟩
    · rw [e]
      exact ⟨none, 0, 0, rfl, by decide, .inl rfl⟩
    · rw [e] at ok' ⊢
      refine ⟨_, _, _, rfl, hn, .inr ⟨g, rfl, h1, (ok'.lt g rfl).2, fun j hj => ⟨⟨ns[i].kids[j], ?_⟩, ok'.frozenAt j⟩⟩⟩
      rw [ok'.cellAt j (by omega), List.getElem?_map, List.getElem?_eq_getElem hj]; rfl


theorem OwZ.keptFrom {B T z : Nat} {w w' : World} {v : Value} {zs : List Int} (h : OwZ B T w v zs) (k : KeptFrom z w w') (hz : z ≤ B) : OwZ B T w' v zs := by
  rcases h with h | ⟨g, cap, rfl, hT, hl, h⟩
  · exact .inl h
  · refine .inr ⟨g, cap, rfl, hT, hl, ?_⟩
    rcases h with h' | ⟨g', cap', cur, e, h1, h2, h3⟩
    · exact .inl h'
    · refine .inr ⟨g', cap', cur, e, h1, ?_, h3⟩
      have hg : g' < w.heap.size := (Array.getElem?_eq_some_iff.1 h2).1
      rw [k g' (by omega) hg]; exact h2

end Go.Proofs.Ytgmdoboeenpjpaa
