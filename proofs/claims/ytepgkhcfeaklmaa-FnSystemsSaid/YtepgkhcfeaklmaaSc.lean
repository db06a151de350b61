
/- What the law on systems says, in plain Lean: cuts meet all paths, cuts of cuts are paths, counts are exact. No program in sight. -/
import Derived.Test.YtepgkhcfeaklmaaYy
import Derived.Test.YtepgkhcfeaklmaaYv
import Derived.Test.YtepgkhcfeaklmaaYp
import Derived.Test.YtepgkhcfeaklmaaZj
namespace Go.Proofs.Ytepgkhcfeaklmaa
open Go

theorem cut_meets {p : Nat} {ns : List Nat} (hp : p ≤ 10) (hlt : ∀ n ∈ ns, n < 2 ^ p) {c n : Nat} (hc : c ∈ cutsS p ns) (hn : n ∈ ns) : c &&& n ≠ 0 := by
  intro e
  unfold cutsS at hc
  rw [List.mem_filter, List.mem_range, Bool.and_eq_true] at hc
  obtain ⟨hcl, -, h2⟩ := hc
  unfold cutS at h2
  rw [Bool.and_eq_true] at h2
  have h3 := h2.1
  unfold cutB at h3
  rw [Bool.not_eq_true'] at h3
  have h4 : worksB ns (2 ^ p - 1 - c) = true := worksB_iff.2 ⟨n, hn, hasB_bits.2 fun i hi => by
    rw [testBit_compl (by omega) hcl]
    have h5 := congrArg (fun x => Nat.testBit x i) e
    simp only [Nat.testBit_and, hi, Bool.and_true, Nat.zero_testBit] at h5
    have h6 : i < p := by
      refine Classical.byContradiction fun h => ?_
      rw [Nat.testBit_lt_two_pow (Nat.lt_of_lt_of_le (hlt n hn) (Nat.pow_le_pow_right (by decide) (by omega)))] at hi
      cases hi
    rw [h5, decide_eq_true h6]; rfl⟩
  rw [h4] at h3
  cases h3
theorem cuts_some {p : Nat} {ns : List Nat} (h : SysN p ns) : 1 ≤ (cutsS p ns).length := by
  have hw := h.whole
  have hp := h.p10
  rw [← cuts_same (by omega) hw]
  have hm : 2 ^ p - 1 ∈ (List.range (2 ^ p)).filter (cutB p ns) := by
    rw [List.mem_filter, List.mem_range]
    refine ⟨by have : 0 < 2 ^ p := Nat.pow_pos (by decide)
               omega, ?_⟩
    unfold cutB
    rw [Nat.sub_self, h.none]; rfl
  obtain ⟨q, hq, -⟩ := minL_below hm
  exact List.length_pos_of_mem (a := q) hq
theorem cutsS_lt {p : Nat} {ns : List Nat} {c : Nat} (hc : c ∈ cutsS p ns) : 1 ≤ c ∧ c < 2 ^ p := by
  unfold cutsS at hc
  rw [List.mem_filter, List.mem_range, Bool.and_eq_true, decide_eq_true_eq] at hc
  exact ⟨hc.2.1, hc.1⟩
/-- Cuts of cuts are paths. -/
theorem cuts_cuts {p : Nat} {ns : List Nat} (h : SysN p ns) (ha : ns.Pairwise (· < ·)) (han : anti ns = true) : cutsS p (cutsS p ns) = ns := by
  have hp := h.p10
  have hps := pow_small (p := p) (by omega)
  have hw := h.whole
  have e1 : cutsI p ns = cutsS p ns := cuts_same (by omega) hw
  have hcutw : ∀ t, t < 2 ^ p → worksB (cutsS p ns) t = cutB p ns t := fun t ht => by
    rw [Bool.eq_iff_iff, worksB_iff, ← e1]
    constructor
    · rintro ⟨q, hq, hh⟩
      unfold cutsI at hq
      rw [mem_minL, List.mem_filter, List.mem_range] at hq
      obtain ⟨⟨hq1, hq2⟩, -⟩ := hq
      unfold cutB at hq2 ⊢
      rw [Bool.not_eq_true'] at hq2 ⊢
      cases hwt : worksB ns (2 ^ p - 1 - t)
      · rfl
      · have h9 : hasB (2 ^ p - 1 - q) (2 ^ p - 1 - t) = true := hasB_bits.2 fun i hi => by
          rw [testBit_compl (by omega) ht, Bool.and_eq_true, decide_eq_true_eq, Bool.not_eq_true'] at hi
          rw [testBit_compl (by omega) hq1, decide_eq_true hi.1, Bool.true_and, Bool.not_eq_true']
          cases e : q.testBit i
          · rfl
          · rw [hasB_bits.1 hh i e] at hi; cases hi.2
        rw [worksB_mono h9 hwt] at hq2
        cases hq2
    · intro hc
      obtain ⟨q, hq, hh⟩ := minL_below (List.mem_filter.2 ⟨List.mem_range.2 ht, hc⟩)
      exact ⟨q, hq, hh⟩
  have h0 : 0 < 2 ^ p := Nat.pow_pos (by decide)
  have hfull : worksB (cutsS p ns) (2 ^ p - 1) = true := by
    rw [hcutw _ (by omega)]
    unfold cutB
    rw [Nat.sub_self, h.none]; rfl
  rw [← cuts_same (by omega) hfull]
  unfold cutsI
  have e2 : (List.range (2 ^ p)).filter (cutB p (cutsS p ns)) = (List.range (2 ^ p)).filter (worksB ns) := by
    apply List.filter_congr
    intro s hs
    rw [List.mem_range] at hs
    unfold cutB
    rw [hcutw _ (by omega)]
    unfold cutB
    rw [Bool.not_not, show 2 ^ p - 1 - (2 ^ p - 1 - s) = s by omega]
  rw [e2]
  refine asc_ext (minL_asc (asc_filter (asc_range _))) ha fun s => ?_
  rw [mem_minL, List.mem_filter, List.mem_range]
  have han' := anti_iff.1 han
  constructor
  · rintro ⟨⟨hs, hws⟩, hmin⟩
    obtain ⟨q, hq, hh⟩ := worksB_iff.1 hws
    have hq2 : q ∈ (List.range (2 ^ p)).filter (worksB ns) := List.mem_filter.2 ⟨List.mem_range.2 (h.lt q hq), worksB_iff.2 ⟨q, hq, hasB_refl q⟩⟩
    rw [← hmin q hq2 hh]; exact hq
  · intro hs
    refine ⟨⟨h.lt s hs, worksB_iff.2 ⟨s, hs, hasB_refl s⟩⟩, fun q hq hh => ?_⟩
    obtain ⟨n, hn, hqn⟩ := worksB_iff.1 (List.mem_filter.1 hq).2
    have e : n = s := han' s hs n hn (hasB_trans hh hqn)
    subst e
    exact hasB_anti hqn hh |>.symm ▸ rfl

/-- A part without which a set does not work. -/
def tB (ns : List Nat) (i s : Nat) : Bool := s.testBit i && (worksB ns s && !worksB ns (s - 2 ^ i))
def tC (ns : List Nat) (i k : Nat) : Int := (((List.range k).filter (tB ns i)).length : Nat)
/-- The turns of the parts: of the first j parts with k + 1 sets, of the others with k. -/
def trJ (p : Nat) (ns : List Nat) (k j : Nat) : List Int := (List.range p).map fun i => if i < j then tC ns i (k + 1) else tC ns i k
theorem trJ_len (p : Nat) (ns : List Nat) (k j : Nat) : (trJ p ns k j).length = p := by simp [trJ]
theorem trJ_get (p : Nat) (ns : List Nat) (k j i : Nat) (h : i < p) : (trJ p ns k j)[i]'(by rw [trJ_len]; exact h) = if i < j then tC ns i (k + 1) else tC ns i k := by simp [trJ]
theorem tC_succ (ns : List Nat) (i k : Nat) : tC ns i (k + 1) = tC ns i k + if tB ns i k then 1 else 0 := by
  unfold tC
  rw [List.range_succ, List.filter_append, List.length_append]
  cases h : tB ns i k <;> simp [h]
theorem trJ_next (p : Nat) (ns : List Nat) (k : Nat) : trJ p ns k p = trJ p ns (k + 1) 0 := by
  apply List.ext_getElem
  · rw [trJ_len, trJ_len]
  · intro i h1 h2
    rw [trJ_len] at h1
    rw [trJ_get _ _ _ _ _ h1, trJ_get _ _ _ _ _ h1, if_pos h1, if_neg (Nat.not_lt_zero _)]
theorem trJ_no {p : Nat} {ns : List Nat} {k j : Nat} (h : tB ns j k = false) : trJ p ns k (j + 1) = trJ p ns k j := by
  apply List.ext_getElem
  · rw [trJ_len, trJ_len]
  · intro i h1 h2
    rw [trJ_len] at h1
    rw [trJ_get _ _ _ _ _ h1, trJ_get _ _ _ _ _ h1]
    by_cases e : i = j
    · subst e
      rw [if_pos (Nat.lt_succ_self _), if_neg (Nat.lt_irrefl _), tC_succ, h]; simp
    · by_cases e2 : i < j
      · rw [if_pos (by omega), if_pos e2]
      · rw [if_neg (by omega), if_neg e2]
theorem trJ_yes {p : Nat} {ns : List Nat} {k j : Nat} (hj : j < p) (h : tB ns j k = true) : trJ p ns k (j + 1) = (trJ p ns k j).set j (tC ns j k + 1) := by
  apply List.ext_getElem
  · rw [List.length_set, trJ_len, trJ_len]
  · intro i h1 h2
    rw [trJ_len] at h1
    rw [trJ_get _ _ _ _ _ h1, List.getElem_set]
    by_cases e : j = i
    · subst e
      rw [if_pos rfl, if_pos (Nat.lt_succ_self _), tC_succ, h]; simp
    · rw [if_neg e, trJ_get _ _ _ _ _ h1]
      by_cases e2 : i < j
      · rw [if_pos (by omega), if_pos e2]
      · rw [if_neg (by omega), if_neg e2]
theorem trJ_at (p : Nat) (ns : List Nat) (k j : Nat) (h : j < p) : (trJ p ns k j)[j]'(by rw [trJ_len]; exact h) = tC ns j k := by rw [trJ_get _ _ _ _ _ h, if_neg (Nat.lt_irrefl _)]
theorem tC_small (ns : List Nat) (i k : Nat) : 0 ≤ tC ns i k ∧ tC ns i k ≤ k := by
  have h2 := List.length_filter_le (tB ns i) (List.range k)
  rw [List.length_range] at h2
  unfold tC
  omega
theorem trJ_zero (p : Nat) (ns : List Nat) : trJ p ns 0 0 = List.replicate p 0 := by
  apply List.ext_getElem
  · rw [trJ_len]; simp
  · intro i h1 h2
    rw [trJ_len] at h1
    rw [trJ_get _ _ _ _ _ h1]; simp [tC]
/-- The turns are the swings. -/
theorem turns_swings {p : Nat} {ns : List Nat} (hp : p ≤ 10) : trJ p ns (2 ^ p) 0 = swL p ns := by
  have hps := pow_small (p := p) (by omega)
  apply List.ext_getElem
  · rw [trJ_len, swL_len]
  · intro i h1 h2
    rw [trJ_len] at h1
    rw [trJ_get _ _ _ _ _ h1, if_neg (Nat.not_lt_zero _)]
    have e : (swL p ns)[i] = swC p ns i := by simp [swL]
    rw [e]
    unfold tC swC
    have h3 : ((List.range (2 ^ p)).filter (swB ns i)).map (· + 2 ^ i) = (List.range (2 ^ p)).filter (tB ns i) := by
      refine asc_ext ?_ (asc_filter (asc_range _)) fun x => ?_
      · exact List.Pairwise.map _ (fun a b h => by omega) (asc_filter (asc_range _))
      · rw [List.mem_map, List.mem_filter, List.mem_range]
        constructor
        · rintro ⟨s, hs, rfl⟩
          rw [List.mem_filter, List.mem_range] at hs
          obtain ⟨hs, hw⟩ := hs
          unfold swB at hw
          rw [Bool.and_eq_true, Bool.and_eq_true, Bool.not_eq_true', Bool.not_eq_true'] at hw
          obtain ⟨⟨b1, b2⟩, b3⟩ := hw
          have e1 := or_bit b1
          refine ⟨?_, ?_⟩
          · rw [← e1]
            exact Nat.or_lt_two_pow hs (Nat.pow_lt_pow_right (by decide) h1)
          · unfold tB
            rw [b3, Nat.add_sub_cancel, b2]
            rw [← e1, Nat.testBit_or, Nat.testBit_two_pow]; simp
        · rintro ⟨hx, hw⟩
          unfold tB at hw
          rw [Bool.and_eq_true, Bool.and_eq_true, Bool.not_eq_true'] at hw
          obtain ⟨b1, b2, b3⟩ := hw
          have hge : 2 ^ i ≤ x := Nat.ge_two_pow_of_testBit b1
          refine ⟨x - 2 ^ i, ?_, by omega⟩
          rw [List.mem_filter, List.mem_range]
          refine ⟨Nat.lt_of_le_of_lt (Nat.sub_le _ _) hx, ?_⟩
          unfold swB
          rw [testBit_drop (by omega) b1, show x - 2 ^ i + 2 ^ i = x by omega, b2, b3]
          simp
    rw [← h3, List.length_map]

/-- How many of the first j parts a set has. -/
def szJ (s j : Nat) : Nat := ((List.range j).filter fun i => s.testBit i).length
theorem szJ_succ (s j : Nat) : szJ s (j + 1) = szJ s j + if s.testBit j then 1 else 0 := by
  unfold szJ
  rw [List.range_succ, List.filter_append, List.length_append]
  cases h : s.testBit j <;> simp [h]
theorem szJ_le (s j : Nat) : szJ s j ≤ j := by
  have := List.length_filter_le (fun i => s.testBit i) (List.range j)
  rw [List.length_range] at this
  exact this
theorem popF_sz : ∀ (k s : Nat), popF k s = szJ s k
  | 0, s => rfl
  | k + 1, s => by
    have e : popF (k + 1) s = s % 2 + popF k (s / 2) := rfl
    rw [e, popF_sz k (s / 2)]
    unfold szJ
    rw [List.range_succ_eq_map, List.filter_cons, List.filter_map, Function.comp_def]
    have h1 : (fun i => s.testBit (i + 1)) = fun i => (s / 2).testBit i := by
      funext i; rw [Nat.testBit_succ]
    simp only [h1]
    have h2 : s.testBit 0 = decide (s % 2 = 1) := Nat.testBit_zero s
    rw [h2]
    rcases Nat.mod_two_eq_zero_or_one s with h | h
    · rw [h]; simp
    · rw [h]; simp; omega
theorem pop_sz {p s : Nat} (hp : p ≤ 10) (hs : s < 2 ^ p) : pop s = szJ s p := by
  rw [← popF_sz]
  exact popF_more p 64 s hs (by omega)
end Go.Proofs.Ytepgkhcfeaklmaa
