
/- The diagram of a tree: what both sides compute, and a list to which nodes are appended. Condition: at most 4096 nodes. -/
import Derived.Test.YtepgkhcfeaklmaaZ2
import Derived.Test.YtepgkhcfeaklmaaE
namespace Go.Proofs.Ytepgkhcfeaklmaa
open Go Go.RowKit Go.ChangeShapes Go.WideShapes Go.ChangeAt

/-- The number of a node, which is put behind the others if it is not there. -/
def nodeP (t : Nd) (L : List Nd) : Int × List Nd := if t ∈ L then ((L.idxOf t : Nat), L) else ((L.length : Nat), L ++ [t])
/-- The node of a place, and of what has failed before. -/
def tellP (f : Nat → Bool) : Nat → Nat → Nat → List Nd → Int × List Nd
  | 0, _, set, L => (if f set then -2 else -1, L)
  | k + 1, place, set, L =>
    if (tellP f k (place + 1) set L).1 = (tellP f k (place + 1) (set + 2 ^ place) (tellP f k (place + 1) set L).2).1
    then ((tellP f k (place + 1) set L).1, (tellP f k (place + 1) (set + 2 ^ place) (tellP f k (place + 1) set L).2).2)
    else nodeP ((place : Int), (tellP f k (place + 1) set L).1, (tellP f k (place + 1) (set + 2 ^ place) (tellP f k (place + 1) set L).2).1) (tellP f k (place + 1) (set + 2 ^ place) (tellP f k (place + 1) set L).2).2
theorem nodeP_len (t : Nd) (L : List Nd) : (nodeP t L).2.length ≤ L.length + 1 ∧ L.length ≤ (nodeP t L).2.length := by
  unfold nodeP; split <;> simp
theorem nodeP_val (t : Nd) (L : List Nd) : 0 ≤ (nodeP t L).1 ∧ (nodeP t L).1 < (nodeP t L).2.length := by
  unfold nodeP; split
  · rename_i h
    have := List.idxOf_lt_length_of_mem h
    simp; omega
  · simp; omega
theorem tellP_len (f : Nat → Bool) : ∀ k place set L, (tellP f k place set L).2.length + 1 ≤ L.length + 2 ^ k ∧ L.length ≤ (tellP f k place set L).2.length
  | 0, _, _, L => by simp [tellP]
  | k + 1, place, set, L => by
    have h1 := tellP_len f k (place + 1) set L
    have h2 := tellP_len f k (place + 1) (set + 2 ^ place) (tellP f k (place + 1) set L).2
    have hp : 2 ^ (k + 1) = 2 ^ k + 2 ^ k := by rw [Nat.pow_succ]; omega
    unfold tellP
    split
    · simp only; omega
    · have h3 := nodeP_len ((place : Int), (tellP f k (place + 1) set L).1, (tellP f k (place + 1) (set + 2 ^ place) (tellP f k (place + 1) set L).2).1) (tellP f k (place + 1) (set + 2 ^ place) (tellP f k (place + 1) set L).2).2
      omega
theorem tellP_val (f : Nat → Bool) : ∀ k place set L, -2 ≤ (tellP f k place set L).1 ∧ (tellP f k place set L).1 < (tellP f k place set L).2.length
  | 0, _, set, L => by
    unfold tellP
    cases f set <;> simp <;> omega
  | k + 1, place, set, L => by
    have h1 := tellP_val f k (place + 1) set L
    have h2 := tellP_len f k (place + 1) (set + 2 ^ place) (tellP f k (place + 1) set L).2
    unfold tellP
    split
    · simp only; omega
    · have h3 := nodeP_val ((place : Int), (tellP f k (place + 1) set L).1, (tellP f k (place + 1) (set + 2 ^ place) (tellP f k (place + 1) set L).2).1) (tellP f k (place + 1) (set + 2 ^ place) (tellP f k (place + 1) set L).2).2
      omega
/-- The nodes one behind the other. -/
def flatN (L : List Nd) : List Int := L.flatMap fun t => [t.1, t.2.1, t.2.2]
theorem flatN_len : ∀ L : List Nd, (flatN L).length = 3 * L.length
  | [] => rfl
  | t :: L => by
    have := flatN_len L
    rw [show flatN (t :: L) = t.1 :: t.2.1 :: t.2.2 :: flatN L from rfl]
    simp only [List.length_cons]; omega
theorem flatN_append (L : List Nd) (t : Nd) : flatN (L ++ [t]) = flatN L ++ [t.1, t.2.1, t.2.2] := by simp [flatN]
theorem flatN_at : ∀ (L : List Nd) (i : Nat) (h : i < L.length), (flatN L)[3 * i]? = some L[i].1 ∧ (flatN L)[3 * i + 1]? = some L[i].2.1 ∧ (flatN L)[3 * i + 2]? = some L[i].2.2
  | [], i, h => absurd h (Nat.not_lt_zero _)
  | t :: L, 0, _ => ⟨rfl, rfl, rfl⟩
  | t :: L, i + 1, h => by
    have := flatN_at L i (by simpa using h)
    have e : flatN (t :: L) = t.1 :: t.2.1 :: t.2.2 :: flatN L := rfl
    rw [e, show 3 * (i + 1) = 3 * i + 3 by omega, show 3 * i + 3 + 1 = 3 * i + 1 + 3 by omega, show 3 * i + 3 + 2 = 3 * i + 2 + 3 by omega]
    simpa using this
/-- The list of the nodes: the empty one that was there at first, or one of the call's own. -/
def OutN (B : Nat) (w : World) (v : Value) (L : List Nd) : Prop :=
  (L = [] ∧ ∃ g0, v = .slice (some ⟨g0, 0, none⟩) 0 0) ∨ ((v = .slice none 0 0 ↔ L = []) ∧ w.ownsRow B 2 1 v (3 * L.length) ((flatN L).map (Value.int .i64)))
theorem OutN.below {B : Nat} {w w' : World} {v : Value} {L : List Nd} (h : OutN B w v L) (hx : ∀ b, B ≤ b → b < w.heap.size → w'.heap[b]? = w.heap[b]?) : OutN B w' v L := by
  rcases h with h | ⟨h1, hl, h⟩
  · exact .inl h
  · refine .inr ⟨h1, hl, ?_⟩
    rcases h with h' | ⟨g', cap', cur, e, h1, h2, h3⟩
    · exact .inl h'
    · refine .inr ⟨g', cap', cur, e, h1, ?_, h3⟩
      rw [hx g' h1 (Array.getElem?_eq_some_iff.1 h2).1]; exact h2
theorem OutN.ext {B : Nat} {w w' : World} {v : Value} {L : List Nd} (h : OutN B w v L) (hx : Ext w w') : OutN B w' v L := h.below fun b _ hb => hx.block b hb
/-- **Three ints are appended.** -/
theorem wpList_push3 {ops : Array Oper} {rest : List Oper} {o : Oper} {a : Act} {w : World} {Q : Exit → Act → World → Prop} {s x : Operand} {B : Nat} {v : Value} {L : List Nd} {t : Nd} {blk c : Nat}
    (hgd : o.guard = none) (ho : o.op = .call { callee := .builtin .append, args := #[s, x], argTypes := #[22, 22] })
    (hs : a.eval s = v) (hO : OutN B w v L) (hx : a.eval x = .slice (some ⟨blk, 0, none⟩) 3 c) (c0 : w.cell? ⟨blk, 0, none⟩ = some (.int .i64 t.1)) (c1 : w.cell? ⟨blk, 1, none⟩ = some (.int .i64 t.2.1)) (c2 : w.cell? ⟨blk, 2, none⟩ = some (.int .i64 t.2.2))
    (hB : B ≤ w.heap.size) (hl : L.length ≤ 4096)
    (h : ∀ g cap w', OutN B w' (.slice (some ⟨g, 0, none⟩) (3 * (L ++ [t]).length) cap) (L ++ [t]) → B ≤ g → Below B w w' → wpList Try.prog ops Q rest (a.put o.dst (.slice (some ⟨g, 0, none⟩) (3 * (L ++ [t]).length) cap)) w') : wpList Try.prog ops Q (o :: rest) a w := by
  obtain ⟨i, hi, h1, h2, h3⟩ := info_parts infoI64
  have hne : ¬ (L ++ [t]) = [] := by simp
  have hcell : ∀ j u, [Value.int .i64 t.1, .int .i64 t.2.1, .int .i64 t.2.2][j]? = some u → w.cell? ((⟨blk, 0, none⟩ : Addr).add j) = some u := by
    intro j u hj
    match j, hj with
    | 0, hj => simp at hj; subst hj; simpa [Addr.add] using c0
    | 1, hj => simp at hj; subst hj; simpa [Addr.add] using c1
    | 2, hj => simp at hj; subst hj; simpa [Addr.add] using c2
    | j + 3, hj => simp at hj
  have hone : ∀ u ∈ [Value.int .i64 t.1, .int .i64 t.2.1, .int .i64 t.2.2], u.oneCell' = true := by
    intro u hu
    simp at hu
    rcases hu with rfl | rfl | rfl <;> rfl
  rcases hO with ⟨rfl, g0, rfl⟩ | ⟨hnil, own⟩
  · refine wpList_append_grows w hgd s x 22 ho 2 i (.int .i64 0) 1 8 Try.underlying22 hi h1 h2 h3 rfl (by omega) (some ⟨g0, 0, none⟩) 0 0 [] hs (fun h => by cases h) rfl (fun b hb j u hj => by simp at hj) ⟨blk, 0, none⟩ 3 c _ hx rfl hcell hone (by omega) (by simp only [maxLen]; omega) (by omega) ?_
    intro v' w' own hg
    rw [Nat.zero_add] at own
    obtain ⟨g, cap, rfl, hbg, _⟩ := own_head own (by omega)
    exact h g cap w' (.inr ⟨by simp, World.ownsRow.mono own hB⟩) (Nat.le_trans hB hbg) ((Below.refl _ _).grown hg (by omega) (fun _ h => by cases h))
  · refine wpList_append_own w hgd s x 22 ho B 2 i (.int .i64 0) 1 8 Try.underlying22 hi h1 h2 h3 rfl (by omega) v (3 * L.length) _ hs own ⟨blk, 0, none⟩ 3 c _ hx rfl hcell hone (by simp only [maxLen]; omega) (by omega) hB ?_
    intro v' w' own' hg _
    obtain ⟨g, cap, rfl, hbg, _⟩ := own_head own' (by omega)
    have e : 3 * L.length + 3 = 3 * (L ++ [t]).length := by rw [List.length_append]; simp; omega
    rw [e] at own' ⊢
    refine h g cap w' (.inr ⟨⟨fun e => by (try cases e), fun e => absurd e hne⟩, ?_⟩) hbg ((Below.refl _ _).grown hg hB fun k hk => (own.lt k hk).1)
    rw [flatN_append, List.map_append]
    exact own'
end Go.Proofs.Ytepgkhcfeaklmaa
