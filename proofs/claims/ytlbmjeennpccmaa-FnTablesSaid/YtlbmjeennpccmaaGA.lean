
/- Contracts of the laws' functions that measure, copy and compare lists of gates. No condition. -/
import Derived.Test.YtlbmjeennpccmaaRows
import Derived.Test.YtlbmjeennpccmaaA
import Derived.Test.YtlbmjeennpccmaaG
import Derived.Outline
namespace Go.Proofs.Ytlbmjeennpccmaa
open Go Go.RowKit Go.ChangeShapes Go.WideShapes Go.ChangeAt


theorem own_ext' {B : Nat} {e : TypeId} {k : Nat} {v : Value} {n : Nat} {xs : List Value} {w w' : World} (h : w.ownsRow B e k v n xs) (hb : Ext w w') : w'.ownsRow B e k v n xs :=
  h.kept (row := none) ⟨hb.os, hb.tape, hb.output, hb.size, fun j hj _ => hb.block j hj⟩ (by cases hv : v.ownBlock <;> simp)

/-! ### Rows of three cells that are made anew -/
theorem rows_len {α : Type} (f : α → List Value) {k : Nat} (hk : ∀ x, (f x).length = k) : ∀ xs : List α, (xs.map f).flatten.length = xs.length * k
  | [] => by simp
  | x :: xs => by rw [List.map_cons, List.flatten_cons, List.length_append, hk, rows_len f hk xs, List.length_cons, Nat.succ_mul]; omega
theorem made_rows3 (a b c : Value) (n : Nat) : (madeCells #[a, b, c] (n * 3)).toList = ((List.replicate n ()).map fun _ => [a, b, c]).flatten := by
  induction n with
  | zero => simp [madeCells]
  | succ n ih =>
    have e : (madeCells #[a, b, c] ((n + 1) * 3)).toList = (madeCells #[a, b, c] (n * 3)).toList ++ [a, b, c] := by
      apply List.ext_getElem?
      intro j
      by_cases h1 : j < n * 3
      · rw [List.getElem?_append_left (by simpa [madeCells] using h1)]
        simp [madeCells, h1, show j < (n + 1) * 3 by omega]
      · rw [List.getElem?_append_right (by simpa [madeCells] using h1)]
        have hs : (madeCells #[a, b, c] (n * 3)).toList.length = n * 3 := by simp [madeCells]
        rw [hs]
        by_cases h2 : j < (n + 1) * 3
        · obtain h | h | h : j = n * 3 ∨ j = n * 3 + 1 ∨ j = n * 3 + 2 := by omega
          all_goals
            subst h
            simp [madeCells, h2]
            try omega
        · rw [List.getElem?_eq_none (by simp [madeCells]; omega), List.getElem?_eq_none (by simp; omega)]
    rw [e, ih, List.replicate_succ', List.map_append, List.flatten_append]
    rfl
theorem set_row3 {A B : List Value} {x y z a b c : Value} {i : Nat} (h : A.length = i) : (((A ++ [x, y, z] ++ B).set i a).set (i + 1) b).set (i + 2) c = A ++ [a, b, c] ++ B := by
  subst h
  rw [List.append_assoc, List.set_append_right _ _ (by omega), List.set_append_right _ _ (by omega), List.set_append_right _ _ (by omega)]
  simp




end Go.Proofs.Ytlbmjeennpccmaa
