
/- Split spares: the greatest need first, and all are given. Condition: means whose needs are numbers, the less the more spares there are. -/
import Derived.Test.YtlbmjeennpccmaaSq
namespace Go.Proofs.Ytlbmjeennpccmaa
open Go Go.RowKit Go.ChangeShapes Go.WideShapes Go.ChangeAt

theorem spX_needU {M o : List Nat} {i : Nat} : spX M o i = needU (M.getD i 0) (o.getD i 0) := rfl
theorem spBest_max {M o : List Nat} {n : Nat} (hn : ∀ i, i < n → numB (spX M o i) = true) : ∀ j, 1 ≤ j → j ≤ n →
    ((spBest M o j).2 = spX M o (spBest M o j).1 ∧ (spBest M o j).1 < j) ∧ ∀ i, i < j → valF (spX M o i) ≤ valF (spBest M o j).2
  | 0, h, _ => absurd h (by omega)
  | j + 1, _, hj => by
    by_cases h0 : j = 0
    · subst h0
      rw [spBest_yes (.inl rfl)]
      exact ⟨⟨rfl, by simp⟩, fun i hi => by obtain rfl : i = 0 := by omega
                                            exact Int.le_refl _⟩
    · obtain ⟨⟨e1, l1⟩, m1⟩ := spBest_max hn j (by omega) (by omega)
      have hnb : numB (spBest M o j).2 = true := by rw [e1]; exact hn _ (by omega)
      have hg := gtr_val (hn j (by omega)) hnb
      by_cases hlt : valF (spBest M o j).2 < valF (spX M o j)
      · rw [decide_eq_true hlt] at hg
        rw [spBest_yes (.inr hg)]
        refine ⟨⟨rfl, by simp⟩, fun i hi => ?_⟩
        by_cases hij : i = j
        · subst hij; exact Int.le_refl _
        · have := m1 i (by omega); simp only; omega
      · rw [decide_eq_false hlt] at hg
        rw [spBest_no h0 hg]
        refine ⟨⟨e1, by omega⟩, fun i hi => ?_⟩
        by_cases hij : i = j
        · subst hij; omega
        · exact m1 i (by omega)

/-- The needs of a mean, told by numbers that do not rise. -/
def Fine (m : Nat) : Prop := ∀ k, k ≤ 32 → numB (needU m k) = true ∧ fcmp .gtr .f32 (needU m (k + 1)) (needU m k) = false
theorem fine_mB {a : Nat} (ha : a < 16) : Fine (mB a) := fun k hk => ((mB_ok ha).2.2 k hk).2
theorem fine_anti {m : Nat} (h : Fine m) : ∀ d k, k + d ≤ 32 → valF (needU m (k + d)) ≤ valF (needU m k)
  | 0, k, _ => Int.le_refl _
  | d + 1, k, hk => by
    have ih := fine_anti h d k (by omega)
    have h1 := (h (k + d) (by omega)).2
    rw [gtr_val (h (k + d + 1) (by omega)).1 (h (k + d) (by omega)).1, decide_eq_false_iff_not] at h1
    show valF (needU m (k + d + 1)) ≤ _
    omega
theorem getD_set_same {l : List Nat} {i v : Nat} (h : i < l.length) : (l.set i v).getD i 0 = v := by
  rw [List.getD_eq_getElem?_getD, List.getElem?_set, if_pos rfl, if_pos h]; rfl
theorem getD_set_other {l : List Nat} {i j v : Nat} (h : i ≠ j) : (l.set i v).getD j 0 = l.getD j 0 := by
  rw [List.getD_eq_getElem?_getD, List.getElem?_set, if_neg h, ← List.getD_eq_getElem?_getD]
theorem split_fair {M : List Nat} (hM : ∀ i, i < M.length → Fine (M.getD i 0)) (h1 : 1 ≤ M.length) : ∀ t, t ≤ 32 → ∀ i j, i < M.length → j < M.length → 1 ≤ (spState M t).getD j 0 →
    valF (needU (M.getD i 0) ((spState M t).getD i 0)) ≤ valF (needU (M.getD j 0) ((spState M t).getD j 0 - 1))
  | 0, _, i, j, hi, hj, h => by
    have := spState_le M 0 j
    omega
  | t + 1, ht, i, j, hi, hj, h => by
    have ih := split_fair hM h1 t (by omega)
    have hle := spState_le M t
    have hlen := spState_len M t
    have hnum : ∀ i, i < M.length → numB (spX M (spState M t) i) = true := fun i hi => (hM i hi _ (by have := hle i; omega)).1
    obtain ⟨⟨e1, l1⟩, m1⟩ := spBest_max hnum M.length h1 (Nat.le_refl _)
    generalize hb : (spBest M (spState M t) M.length).1 = b at *
    have hst : spState M (t + 1) = (spState M t).set b ((spState M t).getD b 0 + 1) := by
      conv => lhs; unfold spState
      rw [hb]
    rw [hst] at h ⊢
    generalize spState M t = o at *
    have hup : valF (needU (M.getD i 0) ((o.set b (o.getD b 0 + 1)).getD i 0)) ≤ valF (needU (M.getD i 0) (o.getD i 0)) := by
      by_cases hib : b = i
      · subst hib
        rw [getD_set_same (by omega)]
        exact fine_anti (hM b hi) 1 _ (by have := hle b; omega)
      · rw [getD_set_other hib]; exact Int.le_refl _
    refine Int.le_trans hup ?_
    by_cases hjb : b = j
    · subst hjb
      rw [getD_set_same (by omega), Nat.add_sub_cancel]
      have := m1 i hi
      rw [e1, spX_needU, spX_needU] at this
      exact this
    · rw [getD_set_other hjb] at h ⊢
      exact ih i j hi hj h
theorem sum_set {l : List Nat} {i : Nat} (h : i < l.length) : (l.set i (l.getD i 0 + 1)).sum = l.sum + 1 := by
  induction l generalizing i with
  | nil => simp at h
  | cons x l ih =>
    cases i with
    | zero => simp; omega
    | succ i =>
      simp only [List.set_cons_succ, List.sum_cons, List.getD_cons_succ]
      rw [ih (by simpa using h)]; omega
theorem split_sum {M : List Nat} (h1 : 1 ≤ M.length) : ∀ t, (spState M t).sum = t
  | 0 => by simp [spState]
  | t + 1 => by
    have hb := spBest_lt M (spState M t) M.length
    have hlen := spState_len M t
    unfold spState
    rw [sum_set (by omega), split_sum h1 t]
end Go.Proofs.Ytlbmjeennpccmaa
