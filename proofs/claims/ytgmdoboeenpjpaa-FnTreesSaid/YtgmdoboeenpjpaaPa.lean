
/- Lists of systems: how they read, and the laws' functions that measure, copy and compare them. No condition. -/
import Derived.Test.YtgmdoboeenpjpaaRows
import Derived.Test.YtgmdoboeenpjpaaA
import Derived.Test.YtgmdoboeenpjpaaSG
import Derived.Test.YtgmdoboeenpjpaaYG
import Derived.Outline
namespace Go.Proofs.Ytgmdoboeenpjpaa
open Go Go.RowKit Go.ChangeShapes Go.WideShapes Go.ChangeAt

attribute [local irreducible] LX

/-- A system in a list: its parts, its paths (the slice's value and what it holds). -/
structure Sy where
  parts : Int
  kv : Value
  zs : List Int
def Sy.row (g : Sy) : List Value := [.int .i64 g.parts, g.kv]
def Sy.ok (w : World) (g : Sy) : Prop := RdI w g.kv g.zs
def Sy.dat (g : Sy) : Int × List Int := (g.parts, g.zs)
def RdSy (w : World) (v : Value) (gs : List Sy) : Prop := Rd 2 w v gs.length (gs.map Sy.row).flatten ∧ ∀ g ∈ gs, g.ok w
theorem Sy.ok.ext {w w' : World} {g : Sy} (h : g.ok w) (hb : Ext w w') : g.ok w' := RdI.ext h hb
theorem RdSy.ext {w w' : World} {v : Value} {gs : List Sy} (h : RdSy w v gs) (hb : Ext w w') : RdSy w' v gs := ⟨h.1.ext hb, fun g hg => (h.2 g hg).ext hb⟩
theorem RdSy.at {w : World} {a : Option Addr} {cap n : Nat} {gs : List Sy} (h : RdSy w (.slice a n cap) gs) {i : Nat} (hi : i < gs.length) :
    ∃ b off, a = some ⟨b, off, none⟩ ∧ b < w.heap.size ∧ w.cell? ⟨b, off + i * 2, none⟩ = some (.int .i64 gs[i].parts) ∧ w.cell? ⟨b, off + i * 2 + 1, none⟩ = some gs[i].kv := by
  have hn : n = gs.length := by obtain ⟨⟨_, _, _, h2, _⟩, _⟩ := h; cases h2; rfl
  subst hn
  obtain ⟨b, off, h1, h2, h3⟩ := Rd.pos h.1 (by omega : 0 < gs.length * 2)
  have g := fun j (hj : j < 2) => (h3 (i * 2 + j) (by omega)).trans (flat_get Sy.row (fun _ => rfl) gs i j hi hj)
  refine ⟨b, off, h1, h2, ?_, ?_⟩
  · exact g 0 (by omega)
  · have := g 1 (by omega); rw [← Nat.add_assoc] at this; exact this

section
variable {H : Type} {enc : TypeId × Value → H} {P : Program} {w : World} {base : Nat} {held : Bool}
def ArgSyss (w : World) (v : Value) : Prop := ∃ (a : Option Addr) (len cap : Nat) (gs : List Sy), v = .slice a len cap ∧ RdSy w (.slice a len cap) gs
variable {r : Reach} {b0 : Nat} {t e : TypeId} {v : Value} {d : DataW H} {p : List MemPlace}
open Go.Deep in
theorem argSyss {e1 : TypeId} {f0 f1 : Field} (ht : P.underlying t = some (.slice e)) (hs : P.underlying e = some (.struct #[f0, f1])) (hone : Go.Deep.oneCellFields P #[f0, f1] = true) (hC : P.cellsOf e = 2)
    (h0 : P.underlying f0.type = some (.int .i64)) (h1 : P.underlying f1.type = some (.slice e1)) (he : P.underlying e1 = some (.int .i64)) (hk : P.cellsOf e1 = 1)
    (hv : Value.okWide P w r b0 t v) (h : DataW.Trod enc P w base (fun _ => true) held t v d p) : ArgSyss w v := by
  obtain ⟨a, len, cap, rfl⟩ := okWide_slice ht hv
  obtain ⟨fuel, hf⟩ := h
  obtain ⟨a', len', cap', xs, e0, hr, hl, hrow⟩ := trod_rows ht hC (by omega) hf
  obtain ⟨gs, rfl, hg⟩ := rows_of Sy.row (Sy.ok w) xs fun r hm => by
    obtain ⟨hlen, n, y, hy⟩ := hrow r hm
    obtain ⟨y0, y1, n', _, _, g0, g1⟩ := trod_struct2 hs hy
    obtain ⟨c0, c1, rfl⟩ : ∃ a b, r = [a, b] := by
      match r, hlen with
      | [a, b], _ => exact ⟨a, b, rfl⟩
    obtain ⟨o0, k0⟩ := Go.Deep.hone_of hone 0 f0 rfl
    obtain ⟨o1, k1⟩ := Go.Deep.hone_of hone 1 f1 rfl
    have g0' : DataW.trod enc P w base (fun _ => true) held n' f0.type [c0] = some y0 := by simpa [o0, k0] using g0
    have g1' : DataW.trod enc P w base (fun _ => true) held n' f1.type [c1] = some y1 := by simpa [o1, k1] using g1
    obtain ⟨z0, q0, _, w0⟩ := DataW.trod_int h0 g0'
    obtain ⟨a2, l2, cp2, zs, rfl, hri, hz⟩ := trod_ints h1 he hk g1'
    simp at q0; subst q0
    exact ⟨⟨z0, .slice a2 l2 cp2, zs⟩, rfl, hri⟩
  simp only [List.length_map] at hl
  subst hl
  exact ⟨a', gs.length, cap', gs, e0, hr, hg⟩
end


theorem made_rows2 (a b : Value) (n : Nat) : (madeCells #[a, b] (n * 2)).toList = ((List.replicate n ()).map fun _ => [a, b]).flatten := by
  induction n with
  | zero => simp [madeCells]
  | succ n ih =>
    have e : (madeCells #[a, b] ((n + 1) * 2)).toList = (madeCells #[a, b] (n * 2)).toList ++ [a, b] := by
      apply List.ext_getElem?
      intro j
      by_cases h1 : j < n * 2
      · rw [List.getElem?_append_left (by simpa [madeCells] using h1)]
        simp [madeCells, h1, show j < (n + 1) * 2 by omega]
      · rw [List.getElem?_append_right (by simpa [madeCells] using h1)]
        have hs : (madeCells #[a, b] (n * 2)).toList.length = n * 2 := by simp [madeCells]
        rw [hs]
        by_cases h2 : j < (n + 1) * 2
        · obtain h | h : j = n * 2 ∨ j = n * 2 + 1 := by omega
          all_goals
            subst h
            simp [madeCells, h2]
            try omega
        · rw [List.getElem?_eq_none (by simp [madeCells]; omega), List.getElem?_eq_none (by simp; omega)]
    rw [e, ih, List.replicate_succ', List.map_append, List.flatten_append]
    rfl
theorem set_row2 {A B : List Value} {x y a b : Value} {i : Nat} (h : A.length = i) : ((A ++ [x, y] ++ B).set i a).set (i + 1) b = A ++ [a, b] ++ B := by
  subst h
  rw [List.append_assoc, List.set_append_right _ _ (by omega), List.set_append_right _ _ (by omega)]
  simp


end Go.Proofs.Ytgmdoboeenpjpaa
