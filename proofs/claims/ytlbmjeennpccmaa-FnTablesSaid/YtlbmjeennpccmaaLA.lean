
/- How an argument that is a list of lives reads as data. No condition. -/
import Derived.Test.YtlbmjeennpccmaaRead
import Derived.Deep.Strs
import Derived.Test.YtlbmjeennpccmaaLf
namespace Go.Proofs.Ytlbmjeennpccmaa
open Go Go.RowKit Go.ChangeShapes Go.WideShapes Go.ChangeAt

def ArgLives (w : World) (v : Value) : Prop := ∃ (a : Option Addr) (len cap : Nat) (ls : List Lf), v = .slice a len cap ∧ RdL w (.slice a len cap) ls

theorem rowsL_of (p : Lf → Prop) : ∀ xs : List (List Value), (∀ r ∈ xs, ∃ z, r = lfC z ∧ p z) → ∃ zs : List Lf, xs.flatten = lfs zs ∧ zs.length = xs.length ∧ ∀ z ∈ zs, p z
  | [], _ => ⟨[], rfl, rfl, by simp⟩
  | r :: xs, h => by
    obtain ⟨z, rfl, hz⟩ := h r (by simp)
    obtain ⟨zs, e, hl, hp⟩ := rowsL_of p xs fun r' hr' => h r' (by simp [hr'])
    exact ⟨z :: zs, by rw [List.flatten_cons, e]; rfl, by simp [hl], fun y hy => by
      rcases List.mem_cons.1 hy with rfl | hy
      · exact hz
      · exact hp y hy⟩

section
variable {H : Type} {enc : TypeId × Value → H} {P : Program} {w : World} {base : Nat} {held : Bool}
variable {r : Reach} {b0 : Nat} {t e : TypeId} {v : Value} {d : DataW H} {p : List MemPlace}
theorem argLives {f0 f1 : Field} (ht : P.underlying t = some (.slice e)) (hs : P.underlying e = some (.struct #[f0, f1])) (hone : Go.Deep.oneCellFields P #[f0, f1] = true) (hC : P.cellsOf e = 2)
    (h0 : P.underlying f0.type = some (.float .f32)) (h1 : P.underlying f1.type = some .bool)
    (hv : Value.okWide P w r b0 t v) (h : DataW.Trod enc P w base (fun _ => true) held t v d p) : ArgLives w v := by
  obtain ⟨a, len, cap, rfl⟩ := okWide_slice ht hv
  obtain ⟨fuel, hf⟩ := h
  obtain ⟨a', len', cap', xs, e0, hr, hl, hrow⟩ := trod_rows ht hC (by omega) hf
  obtain ⟨ls, e1, e2, e3⟩ := rowsL_of (fun x => x.1 < 4294967296) xs fun r hm => by
    obtain ⟨hlen, n, y, hy⟩ := hrow r hm
    obtain ⟨y0, y1, n', _, _, g0, g1⟩ := trod_struct2 hs hy
    obtain ⟨c0, c1, rfl⟩ : ∃ a b, r = [a, b] := by
      match r, hlen with
      | [a, b], _ => exact ⟨a, b, rfl⟩
    obtain ⟨o0, k0⟩ := Go.Deep.hone_of hone 0 f0 rfl
    obtain ⟨o1, k1⟩ := Go.Deep.hone_of hone 1 f1 rfl
    have g0' : DataW.trod enc P w base (fun _ => true) held n' f0.type [c0] = some y0 := by simpa [o0, k0] using g0
    have g1' : DataW.trod enc P w base (fun _ => true) held n' f1.type [c1] = some y1 := by simpa [o1, k1] using g1
    obtain ⟨z0, rfl, w0⟩ := trod_float1 h0 g0'
    obtain ⟨z1, q1, _⟩ := DataW.trod_bool h1 g1'
    simp at q1; subst q1
    exact ⟨(z0, z1), rfl, wf_f32 w0⟩
  rw [e1] at hr
  have : len' = ls.length := by rw [e2, hl]
  subst this
  exact ⟨a', ls.length, cap', ls, e0, hr, e3⟩
end
end Go.Proofs.Ytlbmjeennpccmaa
