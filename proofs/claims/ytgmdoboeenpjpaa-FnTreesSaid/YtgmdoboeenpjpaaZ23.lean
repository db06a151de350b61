
/- A map of the call's own from three ints to a number: it holds the nodes of a list, each by its place. Condition: 64-bit ints. -/
import Derived.Test.YtgmdoboeenpjpaaZy
import Derived.Maps.Own
import Derived.Maps.OwnOps
import Derived.Maps.Views
import Derived.Test.YtgmdoboeenpjpaaEM
namespace Go.Proofs.Ytgmdoboeenpjpaa
open Go Go.RowKit Go.ChangeShapes Go.WideShapes Go.ChangeAt

theorem wf_small {z : Int} (h0 : -1024 ≤ z) (h1 : z ≤ 1048576) : (Lit.int .i64 z).wf = true := by
  simp [Lit.wf, IntKind.min, IntKind.max, IntKind.signed, IntKind.bits]; omega
abbrev Nd := Int × Int × Int
def ndV (t : Nd) : Value := .agg #[.int .i64 t.1, .int .i64 t.2.1, .int .i64 t.2.2]
def ndWf (t : Nd) : Prop := (Lit.int .i64 t.1).wf = true ∧ (Lit.int .i64 t.2.1).wf = true ∧ (Lit.int .i64 t.2.2).wf = true
theorem laidN : laidOutB Try.prog = true := by kernel_rfl
theorem wideN : (match Try.prog.underlying 96 with | some (.array _ _) | some (.struct _) => true | _ => false) = true := by rw [Try.underlying96]
theorem rowN : (96 : TypeId) < Try.prog.types.size := of_decide_eq_true (by kernel_rfl)
set_option maxRecDepth 100000 in
theorem keyedN : Maps.Keyed Try.prog 96 := Maps.Keyed.of_law (deep_law_laid laidN (m := 2) (by omega) rowN (by kernel_rfl) wideN)
theorem keyTN : Try.prog.keyType 96 = true := by kernel_rfl
theorem cellsN : Try.prog.cellsOf 96 = 3 := by kernel_rfl
theorem cells1 : Try.prog.cellsOf 2 = 1 := by kernel_rfl
theorem sizeN : ∃ n, Try.prog.types.size = n + 1 := Nat.exists_eq_succ_of_ne_zero (Nat.ne_of_gt (Nat.lt_of_le_of_lt (Nat.zero_le _) rowN))
theorem keyN {t : Nd} (h : ndWf t) : ∃ kl, keyOf Try.prog 96 (ndV t) = some kl := by
  obtain ⟨n, hn⟩ := sizeN
  obtain ⟨h1, h2, h3⟩ := h
  unfold keyOf
  rw [Try.underlying96, hn]
  have hf : (Value.agg #[.int .i64 t.1, .int .i64 t.2.1, .int .i64 t.2.2]).formed Try.prog 96 = true := by simp [Value.formed, Try.underlying96, cellsN]
  simp [keyTN, hf, ndV, Value.cells, Program.keyLits, Try.underlying96, Try.underlying2, cellsN, cells1, List.range_succ, h1, h2, h3]
theorem key_injN {s t : Nd} {kl : Lit} (hs : keyOf Try.prog 96 (ndV s) = some kl) (ht : keyOf Try.prog 96 (ndV t) = some kl) : s = t := by
  have h := keyedN.inj hs ht
  obtain ⟨a, b, c⟩ := s
  obtain ⟨x, y, z⟩ := t
  simp [ndV] at h
  obtain ⟨rfl, rfl, rfl⟩ := h
  rfl

/-- Block b is a map that holds the nodes of a list, each by its place. -/
def MapN (w : World) (b : Nat) (L : List Nd) : Prop := (∀ t ∈ L, ndWf t) ∧ ∃ D : DataW Unit, w.ownsMap Try.prog 96 (plainElem Try.prog 2) b L.length D ∧ Maps.IsMap D ∧
  (match D with | .map es => es.length | _ => 0) = L.length ∧
  (∀ t kl, keyOf Try.prog 96 (ndV t) = some kl → t ∉ L → ∀ z, D.atKey kl z = z) ∧
  (∀ i (h : i < L.length) kl, keyOf Try.prog 96 (ndV L[i]) = some kl → ∀ z, D.atKey kl z = .lit (.int .i64 (i : Int)))
theorem MapN.made (w : World) : MapN (w.alloc (.map #[] 0)) w.heap.size [] :=
  ⟨(fun t h => by cases h), .map [], World.ownsMap_made w _ _ _, Maps.isMap_empty, rfl, fun _ _ _ _ _ => rfl, fun i h => absurd h (Nat.not_lt_zero _)⟩
theorem MapN.kept {w w' : World} {b : Nat} {L : List Nd} {row : Option Nat} (h : MapN w b L) (hg : w.grownBy w' row) (hne : some b ≠ row) : MapN w' b L := by
  obtain ⟨hw, D, h1, h2⟩ := h
  exact ⟨hw, D, h1.kept hg hne, h2⟩
theorem MapN.ext {w w' : World} {b : Nat} {L : List Nd} (h : MapN w b L) (hx : Ext w w') : MapN w' b L :=
  h.kept (row := none) ⟨hx.os, hx.tape, hx.output, hx.size, fun j hj _ => hx.block j hj⟩ (by simp)
theorem MapN.lt {w : World} {b : Nat} {L : List Nd} (h : MapN w b L) : b < w.heap.size := by
  obtain ⟨-, D, h1, -⟩ := h
  exact h1.lt
theorem MapN.set {w : World} {b g j : Nat} {L : List Nd} (h : MapN w b L) (hne : b ≠ g) (v : Value) : MapN (w.setCell ⟨g, j, none⟩ v) b L :=
  h.kept (grownBy_setCell w g j v) (fun e => hne (Option.some.inj e))
theorem lit_ne {x y : Int} (h : x ≠ y) : (DataW.lit (.int .i64 x) : DataW Unit) ≠ .lit (.int .i64 y) := fun e => by cases e; exact h rfl
/-- The map's size. -/
theorem MapN.len {w : World} {b : Nat} {L : List Nd} (h : MapN w b L) : ∃ es clock, w.heap[b]? = some (.map es clock) ∧ es.size = L.length := by
  obtain ⟨-, D, ⟨es, clock, hb, F, hs, rfl⟩, -, hl, -⟩ := h
  refine ⟨es, clock, hb, ?_⟩
  rw [← hl]
  simp only [length_sorted, List.length_map, Array.length_toList]
theorem MapN.look_no {w : World} {b : Nat} {L : List Nd} (h : MapN w b L) {t : Nd} (ht : ndWf t) (hn : t ∉ L) : (Instr.lookup 94 (.map (some b)) (ndV t) true).run Try.prog w = .ok (.tuple #[.int .i64 0, .bool false]) w := by
  obtain ⟨-, D, ⟨es, clock, hb, F, hs, rfl⟩, -, -, h1, -⟩ := h
  obtain ⟨kl, hkl⟩ := keyN ht
  have hz : (zeroValue 2).run Try.prog w = .ok (.int .i64 0) w := by simp [go_sem]
  rcases Maps.fit_look true keyedN Try.underlying94 hz hb F hkl with ⟨hrun, -, -⟩ | ⟨e0, y, -, -, -, -, hat, -⟩
  · exact hrun
  · have h2 := (h1 t kl hkl hn (.lit (.int .i64 0))).symm.trans (hat _)
    have h3 := (h1 t kl hkl hn (.lit (.int .i64 1))).symm.trans (hat _)
    exact absurd (h2.trans h3.symm) (lit_ne (by decide))
theorem MapN.look_at {w : World} {b : Nat} {L : List Nd} (h : MapN w b L) {i : Nat} (hi : i < L.length) : (Instr.lookup 94 (.map (some b)) (ndV L[i]) true).run Try.prog w = .ok (.tuple #[.int .i64 i, .bool true]) w := by
  obtain ⟨hw, D, ⟨es, clock, hb, F, hs, rfl⟩, -, -, -, h1⟩ := h
  obtain ⟨kl, hkl⟩ := keyN (hw _ (List.getElem_mem hi))
  have hz : (zeroValue 2).run Try.prog w = .ok (.int .i64 0) w := by simp [go_sem]
  rcases Maps.fit_look true keyedN Try.underlying94 hz hb F hkl with ⟨-, -, hat⟩ | ⟨e0, y, -, -, hrun, hR, hat, -⟩
  · have h2 := (hat (.lit (.int .i64 ((i : Int) + 1)))).symm.trans (h1 i hi kl hkl _)
    exact absurd h2 (lit_ne (by omega))
  · obtain ⟨a, e1, e2, -⟩ := plainElem_int_inv Try.underlying2 hR
    have h2 := (hat (.lit (.int .i64 0))).symm.trans (h1 i hi kl hkl _)
    rw [e2] at h2
    have h3 : a = (i : Int) := by
      by_cases e : a = (i : Int)
      · exact e
      · exact absurd h2 (lit_ne e)
    rw [hrun, e1, h3]; rfl
theorem MapN.put {w : World} {b : Nat} {L : List Nd} (h : MapN w b L) {t : Nd} (ht : ndWf t) (hn : t ∉ L) (hl : L.length ≤ 4096) :
    ∃ w', (Instr.mapUpdate 94 (.map (some b)) (ndV t) (.int .i64 L.length)).run Try.prog w = .ok () w' ∧ MapN w' b (L ++ [t]) ∧ w.grownBy w' (some b) := by
  obtain ⟨hw, D, h1, h2, h3, h4, h5⟩ := h
  obtain ⟨kl, hkl⟩ := keyN ht
  have hwf : (Lit.int .i64 (L.length : Int)).wf = true := wf_small (by omega) (by omega)
  obtain ⟨w', hrun, own, hg⟩ := h1.update keyedN Try.underlying94 (by unfold maxLen; omega) hkl (plainElem_int Try.underlying2 hwf)
  refine ⟨w', hrun, ⟨?_, D.put kl (.lit (.int .i64 L.length)), ?_, h2.put _ _, ?_, ?_, ?_⟩, hg⟩
  · intro s hs
    rcases List.mem_append.1 hs with hs | hs
    · exact hw s hs
    · simp only [List.mem_singleton] at hs
      subst hs; exact ht
  · rw [List.length_append]; exact own
  · have hh := Maps.has_false_of_atKey (h4 t kl hkl hn)
    obtain ⟨es, rfl⟩ := h2
    show (DataW.insert (kl, _) (es.filter fun p => !p.1.sameKey kl)).length = _
    rw [length_insert, List.filter_eq_self.2 (fun p hp => by simpa using (List.any_eq_false.1 hh) p hp), List.length_append]
    have h3' : es.length = L.length := h3
    rw [h3']; rfl
  · intro s ks hks hs z
    rw [List.mem_append, List.mem_singleton, not_or] at hs
    rw [Maps.atKey_put_other (fun e => hs.2 (by subst e; exact key_injN hks hkl))]
    exact h4 s ks hks hs.1 z
  · intro i hi ks hks z
    by_cases e : i < L.length
    · rw [List.getElem_append_left e] at hks
      have hne : ks ≠ kl := fun he => by
        subst he
        exact hn (by rw [← key_injN hks hkl]; exact List.getElem_mem e)
      rw [Maps.atKey_put_other hne]
      exact h5 i e ks hks z
    · have he : i = L.length := by rw [List.length_append] at hi; simp at hi; omega
      subst he
      rw [List.getElem_append_right (Nat.le_refl _)] at hks
      simp only [Nat.sub_self, List.getElem_cons_zero] at hks
      have e2 : ks = kl := Option.some.inj (hks.symm.trans hkl)
      subst e2
      exact Maps.atKey_put_same h2 (keyedN.key hkl) _ _
end Go.Proofs.Ytgmdoboeenpjpaa
/- The diagram of a tree: what both sides compute, and a list to which nodes are appended. Condition: at most 4096 nodes. -/
namespace Go.Proofs.Ytgmdoboeenpjpaa
open Go Go.RowKit Go.ChangeShapes Go.WideShapes Go.ChangeAt

/-- The number of a node, which is put behind the others if it is not there. -/
def nodeP (t : Nd) (L : List Nd) : Int × List Nd := if t ∈ L then ((L.idxOf t : Nat), L) else ((L.length : Nat), L ++ [t])
/-- The node of a place, and of what has failed before. -/
def tellP (f : Nat → Bool) : Nat → Nat → Nat → List Nd → Int × List Nd
  | 0, _, set, L => (if f set then -2 else -1, L)
  | k + 1, place, set, L =>
    if (tellP f k (place + 1) set L).1 = (tellP f k (place + 1) (set + 2 ^ place) (tellP f k (place + 1) set L).2).1
    then ((tellP f k (place + 1) set L).1, (tellP f k (place + 1) (set + 2 ^ place) (tellP f k (place + 1) set L).2).2)
    else nodeP ((place : Int), (tellP f k (place + 1) set L).1, (tellP f k (place + 1) (set + 2 ^ place) (tellP f k (place + 1) set L).2).1) (tellP f k (place + 1) (set + 2 ^ place) (tellP f k (place + 1) set L).2).2
theorem nodeP_len (t : Nd) (L : List Nd) : (nodeP t L).2.length ≤ L.length + 1 ∧ L.length ≤ (nodeP t L).2.length := by
  unfold nodeP; split <;> simp
theorem nodeP_val (t : Nd) (L : List Nd) : 0 ≤ (nodeP t L).1 ∧ (nodeP t L).1 < (nodeP t L).2.length := by
  unfold nodeP; split
  · rename_i h
    have := List.idxOf_lt_length_of_mem h
    simp; omega
  · simp; omega
theorem tellP_len (f : Nat → Bool) : ∀ k place set L, (tellP f k place set L).2.length + 1 ≤ L.length + 2 ^ k ∧ L.length ≤ (tellP f k place set L).2.length
  | 0, _, _, L => by simp [tellP]
  | k + 1, place, set, L => by
    have h1 := tellP_len f k (place + 1) set L
    have h2 := tellP_len f k (place + 1) (set + 2 ^ place) (tellP f k (place + 1) set L).2
    have hp : 2 ^ (k + 1) = 2 ^ k + 2 ^ k := by rw [Nat.pow_succ]; omega
    unfold tellP
    split
    · simp only; omega
    · have h3 := nodeP_len ((place : Int), (tellP f k (place + 1) set L).1, (tellP f k (place + 1) (set + 2 ^ place) (tellP f k (place + 1) set L).2).1) (tellP f k (place + 1) (set + 2 ^ place) (tellP f k (place + 1) set L).2).2
      omega
theorem tellP_val (f : Nat → Bool) : ∀ k place set L, -2 ≤ (tellP f k place set L).1 ∧ (tellP f k place set L).1 < (tellP f k place set L).2.length
  | 0, _, set, L => by
    unfold tellP
    cases f set <;> simp <;> omega
  | k + 1, place, set, L => by
    have h1 := tellP_val f k (place + 1) set L
    have h2 := tellP_len f k (place + 1) (set + 2 ^ place) (tellP f k (place + 1) set L).2
    unfold tellP
    split
    · simp only; omega
    · have h3 := nodeP_val ((place : Int), (tellP f k (place + 1) set L).1, (tellP f k (place + 1) (set + 2 ^ place) (tellP f k (place + 1) set L).2).1) (tellP f k (place + 1) (set + 2 ^ place) (tellP f k (place + 1) set L).2).2
      omega
/-- The nodes one behind the other. -/
def flatN (L : List Nd) : List Int := L.flatMap fun t => [t.1, t.2.1, t.2.2]
theorem flatN_len : ∀ L : List Nd, (flatN L).length = 3 * L.length
  | [] => rfl
  | t :: L => by
    have := flatN_len L
    rw [show flatN (t :: L) = t.1 :: t.2.1 :: t.2.2 :: flatN L from rfl]
    simp only [List.length_cons]; omega
theorem flatN_append (L : List Nd) (t : Nd) : flatN (L ++ [t]) = flatN L ++ [t.1, t.2.1, t.2.2] := by simp [flatN]
theorem flatN_at : ∀ (L : List Nd) (i : Nat) (h : i < L.length), (flatN L)[3 * i]? = some L[i].1 ∧ (flatN L)[3 * i + 1]? = some L[i].2.1 ∧ (flatN L)[3 * i + 2]? = some L[i].2.2
  | [], i, h => absurd h (Nat.not_lt_zero _)
  | t :: L, 0, _ => ⟨rfl, rfl, rfl⟩
  | t :: L, i + 1, h => by
    have := flatN_at L i (by simpa using h)
    have e : flatN (t :: L) = t.1 :: t.2.1 :: t.2.2 :: flatN L := rfl
    rw [e, show 3 * (i + 1) = 3 * i + 3 by omega, show 3 * i + 3 + 1 = 3 * i + 1 + 3 by omega, show 3 * i + 3 + 2 = 3 * i + 2 + 3 by omega]
    simpa using this
/-- The list of the nodes: the empty one that was there at first, or one of the call's own. -/
def OutN (B : Nat) (w : World) (v : Value) (L : List Nd) : Prop :=
  (L = [] ∧ ∃ g0, v = .slice (some ⟨g0, 0, none⟩) 0 0) ∨ ((v = .slice none 0 0 ↔ L = []) ∧ w.ownsRow B 2 1 v (3 * L.length) ((flatN L).map (Value.int .i64)))
theorem OutN.below {B : Nat} {w w' : World} {v : Value} {L : List Nd} (h : OutN B w v L) (hx : ∀ b, B ≤ b → b < w.heap.size → w'.heap[b]? = w.heap[b]?) : OutN B w' v L := by
  rcases h with h | ⟨h1, hl, h⟩
  · exact .inl h
  · refine .inr ⟨h1, hl, ?_⟩
    rcases h with h' | ⟨g', cap', cur, e, h1, h2, h3⟩
    · exact .inl h'
    · refine .inr ⟨g', cap', cur, e, h1, ?_, h3⟩
      rw [hx g' h1 (Array.getElem?_eq_some_iff.1 h2).1]; exact h2
theorem OutN.ext {B : Nat} {w w' : World} {v : Value} {L : List Nd} (h : OutN B w v L) (hx : Ext w w') : OutN B w' v L := h.below fun b _ hb => hx.block b hb
/-- **Three ints are appended.** -/
theorem wpList_push3 {ops : Array Oper} {rest : List Oper} {o : Oper} {a : Act} {w : World} {Q : Exit → Act → World → Prop} {s x : Operand} {B : Nat} {v : Value} {L : List Nd} {t : Nd} {blk c : Nat}
    (hgd : o.guard = none) (ho : o.op = .call { callee := .builtin .append, args := #[s, x], argTypes := #[25, 25] })
    (hs : a.eval s = v) (hO : OutN B w v L) (hx : a.eval x = .slice (some ⟨blk, 0, none⟩) 3 c) (c0 : w.cell? ⟨blk, 0, none⟩ = some (.int .i64 t.1)) (c1 : w.cell? ⟨blk, 1, none⟩ = some (.int .i64 t.2.1)) (c2 : w.cell? ⟨blk, 2, none⟩ = some (.int .i64 t.2.2))
    (hB : B ≤ w.heap.size) (hl : L.length ≤ 4096)
    (h : ∀ g cap w', OutN B w' (.slice (some ⟨g, 0, none⟩) (3 * (L ++ [t]).length) cap) (L ++ [t]) → B ≤ g → Below B w w' → wpList Try.prog ops Q rest (a.put o.dst (.slice (some ⟨g, 0, none⟩) (3 * (L ++ [t]).length) cap)) w') : wpList Try.prog ops Q (o :: rest) a w := by
  obtain ⟨i, hi, h1, h2, h3⟩ := info_parts infoI64
  have hne : ¬ (L ++ [t]) = [] := by simp
  have hcell : ∀ j u, [Value.int .i64 t.1, .int .i64 t.2.1, .int .i64 t.2.2][j]? = some u → w.cell? ((⟨blk, 0, none⟩ : Addr).add j) = some u := by
    intro j u hj
    match j, hj with
    | 0, hj => simp at hj; subst hj; simpa [Addr.add] using c0
    | 1, hj => simp at hj; subst hj; simpa [Addr.add] using c1
    | 2, hj => simp at hj; subst hj; simpa [Addr.add] using c2
    | j + 3, hj => simp at hj
  have hone : ∀ u ∈ [Value.int .i64 t.1, .int .i64 t.2.1, .int .i64 t.2.2], u.oneCell' = true := by
    intro u hu
    simp at hu
    rcases hu with rfl | rfl | rfl <;> rfl
  rcases hO with ⟨rfl, g0, rfl⟩ | ⟨hnil, own⟩
  · refine wpList_append_grows w hgd s x 25 ho 2 i (.int .i64 0) 1 8 Try.underlying25 hi h1 h2 h3 rfl (by omega) (some ⟨g0, 0, none⟩) 0 0 [] hs (fun h => by cases h) rfl (fun b hb j u hj => by simp at hj) ⟨blk, 0, none⟩ 3 c _ hx rfl hcell hone (by omega) (by simp only [maxLen]; omega) (by omega) ?_
    intro v' w' own hg
    rw [Nat.zero_add] at own
    obtain ⟨g, cap, rfl, hbg, _⟩ := own_head own (by omega)
    exact h g cap w' (.inr ⟨by simp, World.ownsRow.mono own hB⟩) (Nat.le_trans hB hbg) ((Below.refl _ _).grown hg (by omega) (fun _ h => by cases h))
  · refine wpList_append_own w hgd s x 25 ho B 2 i (.int .i64 0) 1 8 Try.underlying25 hi h1 h2 h3 rfl (by omega) v (3 * L.length) _ hs own ⟨blk, 0, none⟩ 3 c _ hx rfl hcell hone (by simp only [maxLen]; omega) (by omega) hB ?_
    intro v' w' own' hg _
    obtain ⟨g, cap, rfl, hbg, _⟩ := own_head own' (by omega)
    have e : 3 * L.length + 3 = 3 * (L ++ [t]).length := by rw [List.length_append]; simp; omega
    rw [e] at own' ⊢
    refine h g cap w' (.inr ⟨⟨fun e => by (try cases e), fun e => absurd e hne⟩, ?_⟩) hbg ((Below.refl _ _).grown hg hB fun k hk => (own.lt k hk).1)
    rw [flatN_append, List.map_append]
    exact own'
end Go.Proofs.Ytgmdoboeenpjpaa
