
/- Plain facts for FnSpares: how many spares serve enough, and that all numbers are finite. No condition. -/
import Derived.Test.YtlbmjeennpccmaaSw
namespace Go.Proofs.Ytlbmjeennpccmaa
open Go Go.RowKit

theorem fin_numB {x : Nat} (h : numB x = true) : finB x = true := by
  obtain ⟨s, m, e, hr⟩ := numB_get h
  have hz : ∃ j, (FloatKind.f32).format.read (cn .f32 0) = .number false 0 j := ⟨-149, by decide +kernel⟩
  have hsub : ∃ g, fop .sub .f32 x x = (FloatKind.f32).format.word g 0 := by
    unfold fop floatBits Ieee.Format.sub
    rw [hr]
    simp only [Ieee.Datum.opposite, Ieee.Datum.sum]
    have h0 : Ieee.signed s m (e - min e e).toNat + Ieee.signed (!s) m (e - min e e).toNat = 0 := by
      unfold Ieee.signed; cases s <;> simp <;> omega
    rw [h0]
    exact ⟨_, rfl⟩
  obtain ⟨g, hg⟩ := hsub
  unfold finB fcmp
  rw [hg]
  obtain ⟨j, hz⟩ := hz
  unfold Ieee.Format.order
  rw [read_zero, hz]
  simp only [Ieee.Datum.order]
  have h0 : ∀ s a, Ieee.signed s 0 a = 0 := fun s a => by unfold Ieee.signed; cases s <;> simp
  rw [h0, h0]
  rfl
theorem lss_geq {x y : Nat} (hx : numB x = true) (hy : numB y = true) : fcmp .lss .f32 x y = !fcmp .geq .f32 x y := by
  obtain ⟨s, m, i, h1⟩ := numB_get hx
  obtain ⟨t, n, j, h2⟩ := numB_get hy
  obtain ⟨c, hc⟩ := order_some (k := .f32) (p := x) (q := y) (by unfold isN; rw [h1]; rfl) (by unfold isN; rw [h2]; rfl)
  unfold fcmp
  rw [hc]
  cases c <;> rfl
theorem svA_all : ((List.range 16).all fun b => shareB (svA b) && numB (svA b) && (cn .f32 (svA b) == svA b)) = true := by decide +kernel
theorem svA_ok {b : Nat} (h : b < 16) : shareB (svA b) = true ∧ numB (svA b) = true := by
  have h0 := svA_all
  rw [List.all_eq_true] at h0
  have h1 := h0 b (List.mem_range.2 h)
  rw [Bool.and_eq_true, Bool.and_eq_true] at h1
  exact h1.1
theorem lA_all : ((List.range 24).all fun a => leastB (mA a)) = true := by decide +kernel
theorem lB_all : ((List.range 16).all fun a => leastB (mB a)) = true := by decide +kernel
theorem leastB_one : leastB (cn .f32 1065353216) = true := by decide +kernel
theorem one_cn : cn .f32 1065353216 = 1065353216 := by decide +kernel
theorem mA_least {a : Nat} (h : a < 24) : leastB (mA a) = true := by have h0 := lA_all; rw [List.all_eq_true] at h0; exact h0 a (List.mem_range.2 h)
theorem mB_least {a : Nat} (h : a < 16) : leastB (mB a) = true := by have h0 := lB_all; rw [List.all_eq_true] at h0; exact h0 a (List.mem_range.2 h)
/-- So many spares serve enough, and no fewer. -/
theorem sf_found {a b : Nat} (ha : a < 24) (hb : b < 16) : ∃ k, k ≤ 32 ∧ sfRes (mA a) (svA b) = some k ∧ fcmp .lss .f32 (needS (mA a) k) (svA b) = false ∧ ∀ q, q + 1 = k → fcmp .geq .f32 (needS (mA a) q) (svA b) = false := by
  obtain ⟨h1, h2, h3⟩ := mA_ok ha
  have h32 := (h3 32 (by omega)).2.2.1 rfl b hb
  have hs : servB (mA a) (svA b) 32 = true := h32
  cases hf : sfIdx (mA a) (svA b) 33 with
  | none =>
    unfold sfIdx at hf
    rw [List.find?_eq_none] at hf
    exact absurd hs (hf 32 (List.mem_range.2 (by omega)))
  | some k =>
    have hr : sfRes (mA a) (svA b) = some k := by unfold sfRes; rw [h1, (svA_ok hb).1]; exact hf
    unfold sfIdx at hf
    rw [List.find?_eq_some_iff_getElem] at hf
    obtain ⟨hp, i, hi, hik, hlt⟩ := hf
    simp only [List.getElem_range] at hik
    subst hik
    have hi' : i < 33 := by simpa using hi
    refine ⟨i, by omega, hr, ?_, fun q hq => ?_⟩
    · rw [lss_geq (h3 i (by omega)).1 (svA_ok hb).2]
      have : fcmp .geq .f32 (needS (mA a) i) (svA b) = true := hp
      rw [this]; rfl
    · have := hlt q (by omega)
      simp only [List.getElem_range, Bool.not_eq_true'] at this
      exact this
theorem st_mA {a k : Nat} (ha : a < 24) (hk : k ≤ 32) : stO (mA a) (k : Int) (cn .f32 1065353216) = some (needS (mA a) k) := by
  obtain ⟨h1, h2, h3⟩ := mA_ok ha
  unfold stO stOk
  rw [leastB_one, one_cn, h2, h1, mA_least ha, inB_true (by omega) (by omega)]
  simp only [Bool.and_self, if_true, Int.toNat_natCast]
  unfold finO
  show (if finB (needS (mA a) k) = true then some (needS (mA a) k) else none) = _
  rw [if_pos (fin_numB (h3 k hk).1)]
theorem st_mB {a k : Nat} (ha : a < 16) (hk : k ≤ 32) : stO (mB a) (k : Int) (cn .f32 1065353216) = some (needS (mB a) k) := by
  obtain ⟨h1, h2, h3⟩ := mB_ok ha
  unfold stO stOk
  rw [leastB_one, one_cn, h2, h1, mB_least ha, inB_true (by omega) (by omega)]
  simp only [Bool.and_self, if_true, Int.toNat_natCast]
  unfold finO
  show (if finB (needS (mB a) k) = true then some (needS (mB a) k) else none) = _
  rw [if_pos (fin_numB (h3 k hk).1)]
/-- The means that a code chooses. -/
def meansL (zs : List Int) (n : Nat) : List Nat := (List.range n).map fun i => mB (at8 zs i 16)
theorem meansL_len (zs : List Int) (n : Nat) : (meansL zs n).length = n := by simp [meansL]
theorem meansL_succ (zs : List Int) (n : Nat) : meansL zs (n + 1) = meansL zs n ++ [mB (at8 zs n 16)] := by simp [meansL, List.range_succ]
theorem meansL_at {zs : List Int} {n i : Nat} (h : i < n) : (meansL zs n).getD i 0 = mB (at8 zs i 16) := by simp [meansL, List.getD_eq_getElem?_getD, h]
theorem meansL_all (zs : List Int) (n : Nat) : (meansL zs n).all meanB = true := by
  rw [List.all_eq_true]
  intro x hx
  unfold meansL at hx
  rw [List.mem_map] at hx
  obtain ⟨i, _, rfl⟩ := hx
  exact (mB_ok (at8_lt (by omega))).1
/-- No place is served so much worse that it should have had another one's spare. -/
theorem split_not {zs : List Int} {n t i j p : Nat} (hn : 1 ≤ n) (ht : t ≤ 32) (hi : i < n) (hj : j < n) (hp : p + 1 = (spState (meansL zs n) t).getD j 0) :
    fcmp .gtr .f32 (needU (mB (at8 zs i 16)) ((spState (meansL zs n) t).getD i 0)) (needU (mB (at8 zs j 16)) p) = false := by
  have hf : ∀ i, i < (meansL zs n).length → Fine ((meansL zs n).getD i 0) := fun i hi => by
    rw [meansL_at (by rw [meansL_len] at hi; exact hi)]; exact fine_mB (at8_lt (by omega))
  have h := split_fair hf (by rw [meansL_len]; exact hn) t ht i j (by rw [meansL_len]; exact hi) (by rw [meansL_len]; exact hj) (by omega)
  rw [meansL_at hi, meansL_at hj] at h
  have e : (spState (meansL zs n) t).getD j 0 - 1 = p := by omega
  rw [e] at h
  have hle := spState_le (meansL zs n) t
  have hi1 := hle i
  have hj1 := hle j
  rw [gtr_val (fine_mB (at8_lt (by omega)) _ (by omega)).1 (fine_mB (at8_lt (by omega)) _ (by omega)).1, decide_eq_false_iff_not]
  omega
theorem take_sum_le : ∀ (l : List Nat) (k : Nat), (l.take k).sum ≤ l.sum
  | [], k => by simp
  | x :: l, 0 => by simp
  | x :: l, k + 1 => by have := take_sum_le l k; simp only [List.take_succ_cons, List.sum_cons]; omega
theorem take_sum_succ (l : List Nat) (k : Nat) : (l.take (k + 1)).sum = (l.take k).sum + l.getD k 0 := by
  rw [List.take_add_one, List.sum_append, List.getD_eq_getElem?_getD]
  cases l[k]? <;> simp
/-- The spares of n means that a code chooses. -/
def splO (zs : List Int) (n t : Nat) : List Nat := spState (meansL zs n) t
theorem splO_len (zs : List Int) (n t : Nat) : (splO zs n t).length = n := by unfold splO; rw [spState_len, meansL_len]
theorem splO_sum {zs : List Int} {n t : Nat} (h : 1 ≤ n) : (splO zs n t).sum = t := split_sum (by rw [meansL_len]; exact h) t
theorem splO_le (zs : List Int) (n t i : Nat) : (splO zs n t).getD i 0 ≤ t := spState_le _ _ _
theorem splO_spO {zs : List Int} {n t : Nat} (h1 : 1 ≤ n) (h2 : n ≤ 8) (h3 : t ≤ 32) : spO (meansL zs n) (t : Int) = some ((splO zs n t).map fun (z : Nat) => (z : Int)) :=
  spO_yes (by rw [meansL_len]; exact ⟨h1, h2⟩) (meansL_all _ _) (inB_true (by omega) (by omega))
end Go.Proofs.Ytlbmjeennpccmaa
