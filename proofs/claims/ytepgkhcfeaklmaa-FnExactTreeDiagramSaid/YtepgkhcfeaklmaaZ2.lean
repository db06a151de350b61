
/- A map of the call's own from three ints to a number: it holds the nodes of a list, each by its place. Condition: 64-bit ints. -/
import Derived.Test.YtepgkhcfeaklmaaZy
import Derived.Maps.Own
import Derived.Maps.OwnOps
import Derived.Maps.Views
namespace Go.Proofs.Ytepgkhcfeaklmaa
open Go Go.RowKit Go.ChangeShapes Go.WideShapes Go.ChangeAt

theorem wf_small {z : Int} (h0 : -1024 ≤ z) (h1 : z ≤ 1048576) : (Lit.int .i64 z).wf = true := by
  simp [Lit.wf, IntKind.min, IntKind.max, IntKind.signed, IntKind.bits]; omega
abbrev Nd := Int × Int × Int
def ndV (t : Nd) : Value := .agg #[.int .i64 t.1, .int .i64 t.2.1, .int .i64 t.2.2]
def ndWf (t : Nd) : Prop := (Lit.int .i64 t.1).wf = true ∧ (Lit.int .i64 t.2.1).wf = true ∧ (Lit.int .i64 t.2.2).wf = true
theorem laidN : laidOutB Try.prog = true := by kernel_rfl
theorem wideN : (match Try.prog.underlying 102 with | some (.array _ _) | some (.struct _) => true | _ => false) = true := by rw [Try.underlying102]
theorem rowN : (102 : TypeId) < Try.prog.types.size := of_decide_eq_true (by kernel_rfl)
set_option maxRecDepth 100000 in
theorem keyedN : Maps.Keyed Try.prog 102 := Maps.Keyed.of_law (deep_law_laid laidN (m := 2) (by omega) rowN (by kernel_rfl) wideN)
theorem keyTN : Try.prog.keyType 102 = true := by kernel_rfl
theorem cellsN : Try.prog.cellsOf 102 = 3 := by kernel_rfl
theorem cells1 : Try.prog.cellsOf 2 = 1 := by kernel_rfl
theorem sizeN : ∃ n, Try.prog.types.size = n + 1 := Nat.exists_eq_succ_of_ne_zero (Nat.ne_of_gt (Nat.lt_of_le_of_lt (Nat.zero_le _) rowN))
theorem keyN {t : Nd} (h : ndWf t) : ∃ kl, keyOf Try.prog 102 (ndV t) = some kl := by
  obtain ⟨n, hn⟩ := sizeN
  obtain ⟨h1, h2, h3⟩ := h
  unfold keyOf
  rw [Try.underlying102, hn]
  have hf : (Value.agg #[.int .i64 t.1, .int .i64 t.2.1, .int .i64 t.2.2]).formed Try.prog 102 = true := by simp [Value.formed, Try.underlying102, cellsN]
  simp [keyTN, hf, ndV, Value.cells, Program.keyLits, Try.underlying102, Try.underlying2, cellsN, cells1, List.range_succ, h1, h2, h3]
theorem key_injN {s t : Nd} {kl : Lit} (hs : keyOf Try.prog 102 (ndV s) = some kl) (ht : keyOf Try.prog 102 (ndV t) = some kl) : s = t := by
  have h := keyedN.inj hs ht
  obtain ⟨a, b, c⟩ := s
  obtain ⟨x, y, z⟩ := t
  simp [ndV] at h
  obtain ⟨rfl, rfl, rfl⟩ := h
  rfl

/-- Block b is a map that holds the nodes of a list, each by its place. -/
def MapN (w : World) (b : Nat) (L : List Nd) : Prop := (∀ t ∈ L, ndWf t) ∧ ∃ D : DataW Unit, w.ownsMap Try.prog 102 (plainElem Try.prog 2) b L.length D ∧ Maps.IsMap D ∧
  (match D with | .map es => es.length | _ => 0) = L.length ∧
  (∀ t kl, keyOf Try.prog 102 (ndV t) = some kl → t ∉ L → ∀ z, D.atKey kl z = z) ∧
  (∀ i (h : i < L.length) kl, keyOf Try.prog 102 (ndV L[i]) = some kl → ∀ z, D.atKey kl z = .lit (.int .i64 (i : Int)))
theorem MapN.made (w : World) : MapN (w.alloc (.map #[] 0)) w.heap.size [] :=
  ⟨(fun t h => by cases h), .map [], World.ownsMap_made w _ _ _, Maps.isMap_empty, rfl, fun _ _ _ _ _ => rfl, fun i h => absurd h (Nat.not_lt_zero _)⟩
theorem MapN.kept {w w' : World} {b : Nat} {L : List Nd} {row : Option Nat} (h : MapN w b L) (hg : w.grownBy w' row) (hne : some b ≠ row) : MapN w' b L := by
  obtain ⟨hw, D, h1, h2⟩ := h
  exact ⟨hw, D, h1.kept hg hne, h2⟩
theorem MapN.ext {w w' : World} {b : Nat} {L : List Nd} (h : MapN w b L) (hx : Ext w w') : MapN w' b L :=
  h.kept (row := none) ⟨hx.os, hx.tape, hx.output, hx.size, fun j hj _ => hx.block j hj⟩ (by simp)
theorem MapN.lt {w : World} {b : Nat} {L : List Nd} (h : MapN w b L) : b < w.heap.size := by
  obtain ⟨-, D, h1, -⟩ := h
  exact h1.lt
theorem MapN.set {w : World} {b g j : Nat} {L : List Nd} (h : MapN w b L) (hne : b ≠ g) (v : Value) : MapN (w.setCell ⟨g, j, none⟩ v) b L :=
  h.kept (grownBy_setCell w g j v) (fun e => hne (Option.some.inj e))
theorem lit_ne {x y : Int} (h : x ≠ y) : (DataW.lit (.int .i64 x) : DataW Unit) ≠ .lit (.int .i64 y) := fun e => by cases e; exact h rfl
/-- The map's size. -/
theorem MapN.len {w : World} {b : Nat} {L : List Nd} (h : MapN w b L) : ∃ es clock, w.heap[b]? = some (.map es clock) ∧ es.size = L.length := by
  obtain ⟨-, D, ⟨es, clock, hb, F, hs, rfl⟩, -, hl, -⟩ := h
  refine ⟨es, clock, hb, ?_⟩
  rw [← hl]
  simp only [length_sorted, List.length_map, Array.length_toList]
theorem MapN.look_no {w : World} {b : Nat} {L : List Nd} (h : MapN w b L) {t : Nd} (ht : ndWf t) (hn : t ∉ L) : (Instr.lookup 99 (.map (some b)) (ndV t) true).run Try.prog w = .ok (.tuple #[.int .i64 0, .bool false]) w := by
  obtain ⟨-, D, ⟨es, clock, hb, F, hs, rfl⟩, -, -, h1, -⟩ := h
  obtain ⟨kl, hkl⟩ := keyN ht
  have hz : (zeroValue 2).run Try.prog w = .ok (.int .i64 0) w := by simp [go_sem]
  rcases Maps.fit_look true keyedN Try.underlying99 hz hb F hkl with ⟨hrun, -, -⟩ | ⟨e0, y, -, -, -, -, hat, -⟩
  · exact hrun
  · have h2 := (h1 t kl hkl hn (.lit (.int .i64 0))).symm.trans (hat _)
    have h3 := (h1 t kl hkl hn (.lit (.int .i64 1))).symm.trans (hat _)
    exact absurd (h2.trans h3.symm) (lit_ne (by decide))
theorem MapN.look_at {w : World} {b : Nat} {L : List Nd} (h : MapN w b L) {i : Nat} (hi : i < L.length) : (Instr.lookup 99 (.map (some b)) (ndV L[i]) true).run Try.prog w = .ok (.tuple #[.int .i64 i, .bool true]) w := by
  obtain ⟨hw, D, ⟨es, clock, hb, F, hs, rfl⟩, -, -, -, h1⟩ := h
  obtain ⟨kl, hkl⟩ := keyN (hw _ (List.getElem_mem hi))
  have hz : (zeroValue 2).run Try.prog w = .ok (.int .i64 0) w := by simp [go_sem]
  rcases Maps.fit_look true keyedN Try.underlying99 hz hb F hkl with ⟨-, -, hat⟩ | ⟨e0, y, -, -, hrun, hR, hat, -⟩
  · have h2 := (hat (.lit (.int .i64 ((i : Int) + 1)))).symm.trans (h1 i hi kl hkl _)
    exact absurd h2 (lit_ne (by omega))
  · obtain ⟨a, e1, e2, -⟩ := plainElem_int_inv Try.underlying2 hR
    have h2 := (hat (.lit (.int .i64 0))).symm.trans (h1 i hi kl hkl _)
    rw [e2] at h2
    have h3 : a = (i : Int) := by
      by_cases e : a = (i : Int)
      · exact e
      · exact absurd h2 (lit_ne e)
    rw [hrun, e1, h3]; rfl
theorem MapN.put {w : World} {b : Nat} {L : List Nd} (h : MapN w b L) {t : Nd} (ht : ndWf t) (hn : t ∉ L) (hl : L.length ≤ 4096) :
    ∃ w', (Instr.mapUpdate 99 (.map (some b)) (ndV t) (.int .i64 L.length)).run Try.prog w = .ok () w' ∧ MapN w' b (L ++ [t]) ∧ w.grownBy w' (some b) := by
  obtain ⟨hw, D, h1, h2, h3, h4, h5⟩ := h
  obtain ⟨kl, hkl⟩ := keyN ht
  have hwf : (Lit.int .i64 (L.length : Int)).wf = true := wf_small (by omega) (by omega)
  obtain ⟨w', hrun, own, hg⟩ := h1.update keyedN Try.underlying99 (by unfold maxLen; omega) hkl (plainElem_int Try.underlying2 hwf)
  refine ⟨w', hrun, ⟨?_, D.put kl (.lit (.int .i64 L.length)), ?_, h2.put _ _, ?_, ?_, ?_⟩, hg⟩
  · intro s hs
    rcases List.mem_append.1 hs with hs | hs
    · exact hw s hs
    · simp only [List.mem_singleton] at hs
      subst hs; exact ht
  · rw [List.length_append]; exact own
  · have hh := Maps.has_false_of_atKey (h4 t kl hkl hn)
    obtain ⟨es, rfl⟩ := h2
    show (DataW.insert (kl, _) (es.filter fun p => !p.1.sameKey kl)).length = _
    rw [length_insert, List.filter_eq_self.2 (fun p hp => by simpa using (List.any_eq_false.1 hh) p hp), List.length_append]
    have h3' : es.length = L.length := h3
    rw [h3']; rfl
  · intro s ks hks hs z
    rw [List.mem_append, List.mem_singleton, not_or] at hs
    rw [Maps.atKey_put_other (fun e => hs.2 (by subst e; exact key_injN hks hkl))]
    exact h4 s ks hks hs.1 z
  · intro i hi ks hks z
    by_cases e : i < L.length
    · rw [List.getElem_append_left e] at hks
      have hne : ks ≠ kl := fun he => by
        subst he
        exact hn (by rw [← key_injN hks hkl]; exact List.getElem_mem e)
      rw [Maps.atKey_put_other hne]
      exact h5 i e ks hks z
    · have he : i = L.length := by rw [List.length_append] at hi; simp at hi; omega
      subst he
      rw [List.getElem_append_right (Nat.le_refl _)] at hks
      simp only [Nat.sub_self, List.getElem_cons_zero] at hks
      have e2 : ks = kl := Option.some.inj (hks.symm.trans hkl)
      subst e2
      exact Maps.atKey_put_same h2 (keyedN.key hkl) _ _
end Go.Proofs.Ytepgkhcfeaklmaa
