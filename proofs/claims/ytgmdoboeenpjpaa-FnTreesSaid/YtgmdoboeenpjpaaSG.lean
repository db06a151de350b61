
/- FnExactSameSystem returns true for every input and changes nothing that was there. No condition. -/
import Derived.Test.YtgmdoboeenpjpaaRows
import Derived.Test.YtgmdoboeenpjpaaRead
import Derived.Test.YtgmdoboeenpjpaaA
import Derived.Test.YtgmdoboeenpjpaaRg
import Derived.Outline
import Derived.Deep.Strs
namespace Go.Proofs.Ytgmdoboeenpjpaa
open Go Go.RowKit Go.ChangeShapes Go.WideShapes Go.ChangeAt

def SysV (p : Int) (zs : List Int) (v : Value) : Prop := ∃ g, v = .agg #[.int .i64 p, .slice (some ⟨g, 0, none⟩) zs.length zs.length]
def SysW (p : Int) (zs : List Int) (v : Value) (w : World) : Prop := ∃ g, v = .agg #[.int .i64 p, .slice (some ⟨g, 0, none⟩) zs.length zs.length] ∧ RdI w (.slice (some ⟨g, 0, none⟩) zs.length zs.length) zs
theorem SysW.st (p : Int) (zs : List Int) (v : Value) : St (SysW p zs v) := fun _ _ ⟨g, h1, h2⟩ hx => ⟨g, h1, h2.ext hx⟩

theorem SysW.rd {p : Int} {zs : List Int} {a : Option Addr} {n : Nat} {w : World} (h : SysW p zs (.agg #[.int .i64 p, .slice a n n]) w) : RdI w (.slice a n n) zs := by
  obtain ⟨g, e, hr⟩ := h
  simp at e
  obtain ⟨rfl, rfl, _⟩ := e
  exact hr


end Go.Proofs.Ytgmdoboeenpjpaa
/- How lists of structs read as data: gates, lives, systems; and lists of bytes. No condition. -/
namespace Go.Proofs.Ytgmdoboeenpjpaa
open Go Go.RowKit Go.ChangeShapes Go.WideShapes Go.ChangeAt

/-- A gate: its kind, its votes, its kids (the slice's value and what it holds). -/
structure Gt where
  kind : Int
  votes : Int
  kv : Value
  kids : List Int
def Gt.row (g : Gt) : List Value := [.int .i64 g.kind, .int .i64 g.votes, g.kv]
def Gt.ok (w : World) (g : Gt) : Prop := RdI w g.kv g.kids ∧ (Lit.int .i64 g.kind).wf = true ∧ (Lit.int .i64 g.votes).wf = true ∧ ∀ z ∈ g.kids, (Lit.int .i64 z).wf = true
def RdG (w : World) (v : Value) (gs : List Gt) : Prop := Rd 3 w v gs.length (gs.map Gt.row).flatten ∧ ∀ g ∈ gs, g.ok w
theorem Gt.ok.ext {w w' : World} {g : Gt} (h : g.ok w) (hb : Ext w w') : g.ok w' := ⟨h.1.ext hb, h.2⟩
theorem RdG.ext {w w' : World} {v : Value} {gs : List Gt} (h : RdG w v gs) (hb : Ext w w') : RdG w' v gs := ⟨h.1.ext hb, fun g hg => (h.2 g hg).ext hb⟩

/-- A cell of a list of rows of k cells. -/
theorem flat_get {α : Type} (f : α → List Value) {k : Nat} (hk : ∀ x, (f x).length = k) : ∀ (xs : List α) (i j : Nat), (h : i < xs.length) → j < k → ((xs.map f).flatten)[i * k + j]? = (f xs[i])[j]?
  | [], i, j, h, _ => absurd h (Nat.not_lt_zero _)
  | x :: xs, 0, j, _, hj => by
    rw [List.map_cons, List.flatten_cons, List.getElem?_append_left (by rw [hk]; omega)]
    simp
  | x :: xs, i + 1, j, h, hj => by
    have e : (i + 1) * k = i * k + k := Nat.succ_mul i k
    rw [List.map_cons, List.flatten_cons, List.getElem?_append_right (by rw [hk]; omega), hk, show (i + 1) * k + j - k = i * k + j by omega]
    exact flat_get f hk xs i j (by simpa using h) hj

theorem RdG.at {w : World} {a : Option Addr} {cap n : Nat} {gs : List Gt} (h : RdG w (.slice a n cap) gs) {i : Nat} (hi : i < gs.length) :
    ∃ b off, a = some ⟨b, off, none⟩ ∧ b < w.heap.size ∧ w.cell? ⟨b, off + i * 3, none⟩ = some (.int .i64 gs[i].kind) ∧ w.cell? ⟨b, off + i * 3 + 1, none⟩ = some (.int .i64 gs[i].votes) ∧ w.cell? ⟨b, off + i * 3 + 2, none⟩ = some gs[i].kv := by
  have hn : n = gs.length := by obtain ⟨⟨_, _, _, h2, _⟩, _⟩ := h; cases h2; rfl
  subst hn
  obtain ⟨b, off, h1, h2, h3⟩ := Rd.pos h.1 (by omega : 0 < gs.length * 3)
  have g := fun j (hj : j < 3) => (h3 (i * 3 + j) (by omega)).trans (flat_get Gt.row (fun _ => rfl) gs i j hi hj)
  refine ⟨b, off, h1, h2, ?_, ?_, ?_⟩
  · exact g 0 (by omega)
  · have := g 1 (by omega); rw [← Nat.add_assoc] at this; exact this
  · have := g 2 (by omega); rw [← Nat.add_assoc] at this; exact this

section
variable {H : Type} {enc : TypeId × Value → H} {P : Program} {w : World} {base : Nat} {held : Bool}
theorem rows_of {α : Type} (f : α → List Value) (p : α → Prop) : ∀ xs : List (List Value), (∀ r ∈ xs, ∃ z, r = f z ∧ p z) → ∃ zs : List α, xs = zs.map f ∧ ∀ z ∈ zs, p z
  | [], _ => ⟨[], rfl, by simp⟩
  | r :: xs, h => by
    obtain ⟨z, rfl, hz⟩ := h r (by simp)
    obtain ⟨zs, rfl, hp⟩ := rows_of f p xs fun r' hr' => h r' (by simp [hr'])
    exact ⟨z :: zs, rfl, fun y hy => by
      rcases List.mem_cons.1 hy with rfl | hy
      · exact hz
      · exact hp y hy⟩

def ArgGates (w : World) (v : Value) : Prop := ∃ (a : Option Addr) (len cap : Nat) (gs : List Gt), v = .slice a len cap ∧ RdG w (.slice a len cap) gs
variable {r : Reach} {b0 : Nat} {t e : TypeId} {v : Value} {d : DataW H} {p : List MemPlace}
theorem argGates {e1 : TypeId} {f0 f1 f2 : Field} (ht : P.underlying t = some (.slice e)) (hs : P.underlying e = some (.struct #[f0, f1, f2])) (hone : Go.Deep.oneCellFields P #[f0, f1, f2] = true) (hC : P.cellsOf e = 3)
    (h0 : P.underlying f0.type = some (.int .i64)) (h1 : P.underlying f1.type = some (.int .i64)) (h2 : P.underlying f2.type = some (.slice e1)) (he : P.underlying e1 = some (.int .i64)) (hk : P.cellsOf e1 = 1)
    (hv : Value.okWide P w r b0 t v) (h : DataW.Trod enc P w base (fun _ => true) held t v d p) : ArgGates w v := by
  obtain ⟨a, len, cap, rfl⟩ := okWide_slice ht hv
  obtain ⟨fuel, hf⟩ := h
  obtain ⟨a', len', cap', xs, e0, hr, hl, hrow⟩ := trod_rows ht hC (by omega) hf
  obtain ⟨gs, rfl, hg⟩ := rows_of Gt.row (Gt.ok w) xs fun r hm => by
    obtain ⟨hlen, n, y, hy⟩ := hrow r hm
    obtain ⟨y0, y1, y2, n', _, _, g0, g1, g2⟩ := Go.Deep.trod_struct3 hs hy
    obtain ⟨c0, c1, c2, rfl⟩ : ∃ a b c, r = [a, b, c] := by
      match r, hlen with
      | [a, b, c], _ => exact ⟨a, b, c, rfl⟩
    obtain ⟨o0, k0⟩ := Go.Deep.hone_of hone 0 f0 rfl
    obtain ⟨o1, k1⟩ := Go.Deep.hone_of hone 1 f1 rfl
    obtain ⟨o2, k2⟩ := Go.Deep.hone_of hone 2 f2 rfl
    have g0' : DataW.trod enc P w base (fun _ => true) held n' f0.type [c0] = some y0 := by simpa [o0, k0] using g0
    have g1' : DataW.trod enc P w base (fun _ => true) held n' f1.type [c1] = some y1 := by simpa [o1, k1] using g1
    have g2' : DataW.trod enc P w base (fun _ => true) held n' f2.type [c2] = some y2 := by simpa [o2, k2] using g2
    obtain ⟨z0, q0, _, w0⟩ := DataW.trod_int h0 g0'
    obtain ⟨z1, q1, _, w1⟩ := DataW.trod_int h1 g1'
    obtain ⟨a2, l2, cp2, zs, rfl, hri, hz⟩ := trod_ints h2 he hk g2'
    simp at q0 q1; subst q0; subst q1
    exact ⟨⟨z0, z1, .slice a2 l2 cp2, zs⟩, rfl, hri, w0, w1, hz⟩
  simp only [List.length_map] at hl
  subst hl
  exact ⟨a', gs.length, cap', gs, e0, hr, hg⟩
end
end Go.Proofs.Ytgmdoboeenpjpaa
/- Contracts of the laws' functions that measure, copy and compare lists of gates. No condition. -/
namespace Go.Proofs.Ytgmdoboeenpjpaa
open Go Go.RowKit Go.ChangeShapes Go.WideShapes Go.ChangeAt


theorem own_ext' {B : Nat} {e : TypeId} {k : Nat} {v : Value} {n : Nat} {xs : List Value} {w w' : World} (h : w.ownsRow B e k v n xs) (hb : Ext w w') : w'.ownsRow B e k v n xs :=
  h.kept (row := none) ⟨hb.os, hb.tape, hb.output, hb.size, fun j hj _ => hb.block j hj⟩ (by cases hv : v.ownBlock <;> simp)

/-! ### Rows of three cells that are made anew -/
theorem rows_len {α : Type} (f : α → List Value) {k : Nat} (hk : ∀ x, (f x).length = k) : ∀ xs : List α, (xs.map f).flatten.length = xs.length * k
  | [] => by simp
  | x :: xs => by rw [List.map_cons, List.flatten_cons, List.length_append, hk, rows_len f hk xs, List.length_cons, Nat.succ_mul]; omega
theorem made_rows3 (a b c : Value) (n : Nat) : (madeCells #[a, b, c] (n * 3)).toList = ((List.replicate n ()).map fun _ => [a, b, c]).flatten := by
  induction n with
  | zero => simp [madeCells]
  | succ n ih =>
    have e : (madeCells #[a, b, c] ((n + 1) * 3)).toList = (madeCells #[a, b, c] (n * 3)).toList ++ [a, b, c] := by
      apply List.ext_getElem?
      intro j
      by_cases h1 : j < n * 3
      · rw [List.getElem?_append_left (by simpa [madeCells] using h1)]
        simp [madeCells, h1, show j < (n + 1) * 3 by omega]
      · rw [List.getElem?_append_right (by simpa [madeCells] using h1)]
        have hs : (madeCells #[a, b, c] (n * 3)).toList.length = n * 3 := by simp [madeCells]
        rw [hs]
        by_cases h2 : j < (n + 1) * 3
        · obtain h | h | h : j = n * 3 ∨ j = n * 3 + 1 ∨ j = n * 3 + 2 := by omega
          all_goals
            subst h
            simp [madeCells, h2]
            try omega
        · rw [List.getElem?_eq_none (by simp [madeCells]; omega), List.getElem?_eq_none (by simp; omega)]
    rw [e, ih, List.replicate_succ', List.map_append, List.flatten_append]
    rfl
theorem set_row3 {A B : List Value} {x y z a b c : Value} {i : Nat} (h : A.length = i) : (((A ++ [x, y, z] ++ B).set i a).set (i + 1) b).set (i + 2) c = A ++ [a, b, c] ++ B := by
  subst h
  rw [List.append_assoc, List.set_append_right _ _ (by omega), List.set_append_right _ _ (by omega), List.set_append_right _ _ (by omega)]
  simp


theorem infoGate : (Try.prog.info? 90).map (fun i => (i.zero, i.size, i.bytes)) = some (some (.agg #[.int .i64 0, .int .i64 0, .slice none 0 0]), 3, 40) := by kernel_rfl
def Gt.dat (g : Gt) : Int × Int × List Int := (g.kind, g.votes, g.kids)
def zeroG : List Value := [.int .i64 0, .int .i64 0, .slice none 0 0]
/-- The rows of what is copied, and the rest. -/
def rowsG (ns : List Gt) (m : Nat) : List Value := (ns.map Gt.row).flatten ++ ((List.replicate m ()).map fun _ => zeroG).flatten
theorem rowsG_set (ns : List Gt) (m : Nat) (g : Gt) : (((rowsG ns (m + 1)).set (ns.length * 3) (.int .i64 g.kind)).set (ns.length * 3 + 1) (.int .i64 g.votes)).set (ns.length * 3 + 2) g.kv = rowsG (ns ++ [g]) m := by
  unfold rowsG
  rw [List.replicate_succ, List.map_cons, List.flatten_cons, ← List.append_assoc]
  show (((_ ++ [Value.int .i64 0, .int .i64 0, .slice none 0 0] ++ _).set _ _).set _ _).set _ _ = _
  rw [set_row3 (rows_len Gt.row (fun _ => rfl) ns), List.map_append, List.flatten_append]
  simp [Gt.row]
theorem rowsG_at (ns : List Gt) (m : Nat) : (rowsG ns (m + 1))[ns.length * 3]? = some (.int .i64 0) ∧ (rowsG ns (m + 1))[ns.length * 3 + 1]? = some (.int .i64 0) ∧ (rowsG ns (m + 1))[ns.length * 3 + 2]? = some (.slice none 0 0) := by
  have hl := rows_len Gt.row (k := 3) (fun _ => rfl) ns
  unfold rowsG
  rw [List.replicate_succ, List.map_cons, List.flatten_cons]
  refine ⟨?_, ?_, ?_⟩ <;> rw [List.getElem?_append_right (by omega), hl] <;> simp [zeroG]
/-- A list of gates of the call's own. -/
def KidsO (B b : Nat) (w : World) (g : Gt) : Prop := (w.ownsRow B 2 1 g.kv g.kids.length (g.kids.map (Value.int .i64)) ∧ g.kv.ownBlock ≠ some b) ∧ (Lit.int .i64 g.kind).wf = true ∧ (Lit.int .i64 g.votes).wf = true ∧ ∀ z ∈ g.kids, (Lit.int .i64 z).wf = true
def OwnG (B : Nat) (w : World) (b n : Nat) (ns : List Gt) : Prop := ns.length = n ∧ w.ownsRow B 90 3 (.slice (some ⟨b, 0, none⟩) n n) n (ns.map Gt.row).flatten ∧ ∀ g ∈ ns, KidsO B b w g
theorem KidsO.ext {B b : Nat} {w w' : World} {g : Gt} (h : KidsO B b w g) (hx : Ext w w') : KidsO B b w' g := ⟨⟨own_ext' h.1.1 hx, h.1.2⟩, h.2⟩
theorem KidsO.set {B b j : Nat} {w : World} {g : Gt} {u : Value} (h : KidsO B b w g) : KidsO B b (w.setCell ⟨b, j, none⟩ u) g := ⟨⟨ownsRow_setCell_other h.1.1 h.1.2 u, h.1.2⟩, h.2⟩
theorem OwnG.ext {B b n : Nat} {w w' : World} {ns : List Gt} (h : OwnG B w b n ns) (hx : Ext w w') : OwnG B w' b n ns := ⟨h.1, own_ext' h.2.1 hx, fun g hg => (h.2.2 g hg).ext hx⟩
theorem KidsO.ok {B b : Nat} {w : World} {g : Gt} (h : KidsO B b w g) : g.ok w := ⟨by have := own_rd h.1.1; exact this, h.2⟩
theorem OwnG.rd {B b n : Nat} {w : World} {ns : List Gt} (h : OwnG B w b n ns) : RdG w (.slice (some ⟨b, 0, none⟩) n n) ns := by
  obtain ⟨rfl, h1, h2⟩ := h
  exact ⟨own_rd h1, fun g hg => (h2 g hg).ok⟩



end Go.Proofs.Ytgmdoboeenpjpaa
