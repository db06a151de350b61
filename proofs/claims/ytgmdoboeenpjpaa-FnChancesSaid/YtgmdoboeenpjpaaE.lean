
/- append of one element to a slice that the call itself has made. Condition: fewer than 2^43 elements. -/
import Derived.Test.YtgmdoboeenpjpaaRg
namespace Go.Proofs.Ytgmdoboeenpjpaa
open Go Go.RowKit

/-- A slice that owns an element lies at the head of a block. -/
theorem own_head {w : World} {base : Nat} {e : TypeId} {size : Nat} {v : Value} {n : Nat} {xs : List Value} (h : w.ownsRow base e size v n xs) (hn : 0 < n) :
    ∃ g cap, v = .slice (some ⟨g, 0, none⟩) n cap ∧ base ≤ g ∧ g < w.heap.size := by
  obtain ⟨_, ⟨_, h0⟩ | ⟨g, cap, cur, hv, hb, hg, _⟩⟩ := h
  · omega
  · exact ⟨g, cap, hv, hb, (Array.getElem?_eq_some_iff.1 hg).1⟩

theorem wpList_push {P : Program} {ops : Array Oper} {rest : List Oper} {o : Oper} {a : Act} {w : World} {Q : Exit → Act → World → Prop} {s x : Operand} {t e : TypeId} {z u : Value} {bytes : Nat} {base n : Nat} {v : Value} {xs : List Value} {blk c : Nat}
    (hinfo : (P.info? e).map (fun i => (i.zero, i.size, i.bytes)) = some (some z, 1, bytes)) (hz : z.cells.size = 1) (ht : P.underlying t = some (.slice e))
    (hgd : o.guard = none) (ho : o.op = .call { callee := .builtin .append, args := #[s, x], argTypes := #[t, t] })
    (hs : a.eval s = v) (hown : w.ownsRow base e 1 v n xs) (hx : a.eval x = .slice (some ⟨blk, 0, none⟩) 1 c) (hu : w.cell? ⟨blk, 0, none⟩ = some u) (hu1 : u.oneCell' = true)
    (hn : n + 1 ≤ 8796093022208) (hb16 : bytes ≤ 16) (hbase : base ≤ w.heap.size)
    (h : ∀ g cap w', base ≤ g → w'.ownsRow base e 1 (.slice (some ⟨g, 0, none⟩) (n + 1) cap) (n + 1) (xs ++ [u]) → (∀ W, Below base W w → Below base W w') → w.heap.size ≤ w'.heap.size →
      wpList P ops Q rest (a.put o.dst (.slice (some ⟨g, 0, none⟩) (n + 1) cap)) w') : wpList P ops Q (o :: rest) a w := by
  obtain ⟨i, hi, h1, h2, h3⟩ := info_parts hinfo
  refine wpList_append_own w hgd s x t ho base e i z 1 bytes ht hi h1 h2 h3 hz (by omega) v n xs hs hown ⟨blk, 0, none⟩ 1 c [u] hx rfl ?_ ?_ ?_ ?_ hbase ?_
  · intro j u' hj
    cases j with
    | zero => simp at hj; subst hj; simpa [Addr.add] using hu
    | succ j => simp at hj
  · intro u' hu'; simp at hu'; subst hu'; exact hu1
  · simp only [maxLen]; omega
  · have : (n + 1) * bytes ≤ 8796093022208 * 16 := Nat.mul_le_mul hn hb16
    omega
  · intro v' w' hown' hg _
    obtain ⟨g, cap, rfl, hbg, _⟩ := own_head hown' (by omega)
    exact h g cap w' hbg hown' (fun W hW => hW.grown hg hbase fun k hk => (hown.lt k hk).1) hg.size
end Go.Proofs.Ytgmdoboeenpjpaa
