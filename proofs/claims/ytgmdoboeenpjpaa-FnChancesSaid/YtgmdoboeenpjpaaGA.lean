
/- How lists of structs read as data: gates, lives, systems; and lists of bytes. No condition. -/
import Derived.Test.YtgmdoboeenpjpaaRead
import Derived.Deep.Strs
import Derived.Test.YtgmdoboeenpjpaaRows
import Derived.Test.YtgmdoboeenpjpaaA
import Derived.Outline
namespace Go.Proofs.Ytgmdoboeenpjpaa
open Go Go.RowKit Go.ChangeShapes Go.WideShapes Go.ChangeAt

/-- A gate: its kind, its votes, its kids (the slice's value and what it holds). -/
structure Gt where
  kind : Int
  votes : Int
  kv : Value
  kids : List Int
def Gt.row (g : Gt) : List Value := [.int .i64 g.kind, .int .i64 g.votes, g.kv]
def Gt.ok (w : World) (g : Gt) : Prop := RdI w g.kv g.kids ∧ (Lit.int .i64 g.kind).wf = true ∧ (Lit.int .i64 g.votes).wf = true ∧ ∀ z ∈ g.kids, (Lit.int .i64 z).wf = true
def RdG (w : World) (v : Value) (gs : List Gt) : Prop := Rd 3 w v gs.length (gs.map Gt.row).flatten ∧ ∀ g ∈ gs, g.ok w
theorem Gt.ok.ext {w w' : World} {g : Gt} (h : g.ok w) (hb : Ext w w') : g.ok w' := ⟨h.1.ext hb, h.2⟩
theorem RdG.ext {w w' : World} {v : Value} {gs : List Gt} (h : RdG w v gs) (hb : Ext w w') : RdG w' v gs := ⟨h.1.ext hb, fun g hg => (h.2 g hg).ext hb⟩

/-- A cell of a list of rows of k cells. -/
theorem flat_get {α : Type} (f : α → List Value) {k : Nat} (hk : ∀ x, (f x).length = k) : ∀ (xs : List α) (i j : Nat), (h : i < xs.length) → j < k → ((xs.map f).flatten)[i * k + j]? = (f xs[i])[j]?
  | [], i, j, h, _ => absurd h (Nat.not_lt_zero _)
  | x :: xs, 0, j, _, hj => by
    rw [List.map_cons, List.flatten_cons, List.getElem?_append_left (by rw [hk]; omega)]
    simp
  | x :: xs, i + 1, j, h, hj => by
    have e : (i + 1) * k = i * k + k := Nat.succ_mul i k
    rw [List.map_cons, List.flatten_cons, List.getElem?_append_right (by rw [hk]; omega), hk, show (i + 1) * k + j - k = i * k + j by omega]
    exact flat_get f hk xs i j (by simpa using h) hj

theorem RdG.at {w : World} {a : Option Addr} {cap n : Nat} {gs : List Gt} (h : RdG w (.slice a n cap) gs) {i : Nat} (hi : i < gs.length) :
    ∃ b off, a = some ⟨b, off, none⟩ ∧ b < w.heap.size ∧ w.cell? ⟨b, off + i * 3, none⟩ = some (.int .i64 gs[i].kind) ∧ w.cell? ⟨b, off + i * 3 + 1, none⟩ = some (.int .i64 gs[i].votes) ∧ w.cell? ⟨b, off + i * 3 + 2, none⟩ = some gs[i].kv := by
  have hn : n = gs.length := by obtain ⟨⟨_, _, _, h2, _⟩, _⟩ := h; cases h2; rfl
  subst hn
  obtain ⟨b, off, h1, h2, h3⟩ := Rd.pos h.1 (by omega : 0 < gs.length * 3)
  have g := fun j (hj : j < 3) => (h3 (i * 3 + j) (by omega)).trans (flat_get Gt.row (fun _ => rfl) gs i j hi hj)
  refine ⟨b, off, h1, h2, ?_, ?_, ?_⟩
  · exact g 0 (by omega)
  · have := g 1 (by omega); rw [← Nat.add_assoc] at this; exact this
  · have := g 2 (by omega); rw [← Nat.add_assoc] at this; exact this

section
variable {H : Type} {enc : TypeId × Value → H} {P : Program} {w : World} {base : Nat} {held : Bool}
theorem rows_of {α : Type} (f : α → List Value) (p : α → Prop) : ∀ xs : List (List Value), (∀ r ∈ xs, ∃ z, r = f z ∧ p z) → ∃ zs : List α, xs = zs.map f ∧ ∀ z ∈ zs, p z
  | [], _ => ⟨[], rfl, by simp⟩
  | r :: xs, h => by
    obtain ⟨z, rfl, hz⟩ := h r (by simp)
    obtain ⟨zs, rfl, hp⟩ := rows_of f p xs fun r' hr' => h r' (by simp [hr'])
    exact ⟨z :: zs, rfl, fun y hy => by
      rcases List.mem_cons.1 hy with rfl | hy
      · exact hz
      · exact hp y hy⟩

def ArgGates (w : World) (v : Value) : Prop := ∃ (a : Option Addr) (len cap : Nat) (gs : List Gt), v = .slice a len cap ∧ RdG w (.slice a len cap) gs
variable {r : Reach} {b0 : Nat} {t e : TypeId} {v : Value} {d : DataW H} {p : List MemPlace}
theorem argGates {e1 : TypeId} {f0 f1 f2 : Field} (ht : P.underlying t = some (.slice e)) (hs : P.underlying e = some (.struct #[f0, f1, f2])) (hone : Go.Deep.oneCellFields P #[f0, f1, f2] = true) (hC : P.cellsOf e = 3)
    (h0 : P.underlying f0.type = some (.int .i64)) (h1 : P.underlying f1.type = some (.int .i64)) (h2 : P.underlying f2.type = some (.slice e1)) (he : P.underlying e1 = some (.int .i64)) (hk : P.cellsOf e1 = 1)
    (hv : Value.okWide P w r b0 t v) (h : DataW.Trod enc P w base (fun _ => true) held t v d p) : ArgGates w v := by
  obtain ⟨a, len, cap, rfl⟩ := okWide_slice ht hv
  obtain ⟨fuel, hf⟩ := h
  obtain ⟨a', len', cap', xs, e0, hr, hl, hrow⟩ := trod_rows ht hC (by omega) hf
  obtain ⟨gs, rfl, hg⟩ := rows_of Gt.row (Gt.ok w) xs fun r hm => by
    obtain ⟨hlen, n, y, hy⟩ := hrow r hm
    obtain ⟨y0, y1, y2, n', _, _, g0, g1, g2⟩ := Go.Deep.trod_struct3 hs hy
    obtain ⟨c0, c1, c2, rfl⟩ : ∃ a b c, r = [a, b, c] := by
      match r, hlen with
      | [a, b, c], _ => exact ⟨a, b, c, rfl⟩
    obtain ⟨o0, k0⟩ := Go.Deep.hone_of hone 0 f0 rfl
    obtain ⟨o1, k1⟩ := Go.Deep.hone_of hone 1 f1 rfl
    obtain ⟨o2, k2⟩ := Go.Deep.hone_of hone 2 f2 rfl
    have g0' : DataW.trod enc P w base (fun _ => true) held n' f0.type [c0] = some y0 := by simpa [o0, k0] using g0
    have g1' : DataW.trod enc P w base (fun _ => true) held n' f1.type [c1] = some y1 := by simpa [o1, k1] using g1
    have g2' : DataW.trod enc P w base (fun _ => true) held n' f2.type [c2] = some y2 := by simpa [o2, k2] using g2
    obtain ⟨z0, q0, _, w0⟩ := DataW.trod_int h0 g0'
    obtain ⟨z1, q1, _, w1⟩ := DataW.trod_int h1 g1'
    obtain ⟨a2, l2, cp2, zs, rfl, hri, hz⟩ := trod_ints h2 he hk g2'
    simp at q0 q1; subst q0; subst q1
    exact ⟨⟨z0, z1, .slice a2 l2 cp2, zs⟩, rfl, hri, w0, w1, hz⟩
  simp only [List.length_map] at hl
  subst hl
  exact ⟨a', gs.length, cap', gs, e0, hr, hg⟩
end
end Go.Proofs.Ytgmdoboeenpjpaa
/- Contracts of the laws' functions that measure, copy and compare lists of gates. No condition. -/
namespace Go.Proofs.Ytgmdoboeenpjpaa
open Go Go.RowKit Go.ChangeShapes Go.WideShapes Go.ChangeAt


theorem own_ext' {B : Nat} {e : TypeId} {k : Nat} {v : Value} {n : Nat} {xs : List Value} {w w' : World} (h : w.ownsRow B e k v n xs) (hb : Ext w w') : w'.ownsRow B e k v n xs :=
  h.kept (row := none) ⟨hb.os, hb.tape, hb.output, hb.size, fun j hj _ => hb.block j hj⟩ (by cases hv : v.ownBlock <;> simp)

/-! ### Rows of three cells that are made anew -/
theorem rows_len {α : Type} (f : α → List Value) {k : Nat} (hk : ∀ x, (f x).length = k) : ∀ xs : List α, (xs.map f).flatten.length = xs.length * k
  | [] => by simp
  | x :: xs => by rw [List.map_cons, List.flatten_cons, List.length_append, hk, rows_len f hk xs, List.length_cons, Nat.succ_mul]; omega
theorem made_rows3 (a b c : Value) (n : Nat) : (madeCells #[a, b, c] (n * 3)).toList = ((List.replicate n ()).map fun _ => [a, b, c]).flatten := by
  induction n with
  | zero => simp [madeCells]
  | succ n ih =>
    have e : (madeCells #[a, b, c] ((n + 1) * 3)).toList = (madeCells #[a, b, c] (n * 3)).toList ++ [a, b, c] := by
      apply List.ext_getElem?
      intro j
      by_cases h1 : j < n * 3
      · rw [List.getElem?_append_left (by simpa [madeCells] using h1)]
        simp [madeCells, h1, show j < (n + 1) * 3 by omega]
      · rw [List.getElem?_append_right (by simpa [madeCells] using h1)]
        have hs : (madeCells #[a, b, c] (n * 3)).toList.length = n * 3 := by simp [madeCells]
        rw [hs]
        by_cases h2 : j < (n + 1) * 3
        · obtain h | h | h : j = n * 3 ∨ j = n * 3 + 1 ∨ j = n * 3 + 2 := by omega
          all_goals
            subst h
            simp [madeCells, h2]
            try omega
        · rw [List.getElem?_eq_none (by simp [madeCells]; omega), List.getElem?_eq_none (by simp; omega)]
    rw [e, ih, List.replicate_succ', List.map_append, List.flatten_append]
    rfl
theorem set_row3 {A B : List Value} {x y z a b c : Value} {i : Nat} (h : A.length = i) : (((A ++ [x, y, z] ++ B).set i a).set (i + 1) b).set (i + 2) c = A ++ [a, b, c] ++ B := by
  subst h
  rw [List.append_assoc, List.set_append_right _ _ (by omega), List.set_append_right _ _ (by omega), List.set_append_right _ _ (by omega)]
  simp




end Go.Proofs.Ytgmdoboeenpjpaa
