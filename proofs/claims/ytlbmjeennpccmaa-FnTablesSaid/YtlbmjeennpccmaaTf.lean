
/- The sums of LogRankOf: plain facts. Condition: valid lives. -/
import Derived.Test.YtlbmjeennpccmaaTb
import Derived.Test.YtlbmjeennpccmaaLv
namespace Go.Proofs.Ytlbmjeennpccmaa
open Go Go.RowKit

theorem timesK_mem {os : List Lf} : ∀ k, ∀ t ∈ timesK os k, ∃ x ∈ os, x.2 = true ∧ x.1 = t := by
  intro k
  induction k with
  | zero => intro t ht; simp [timesK] at ht
  | succ k ih =>
    by_cases hk : k < os.length
    · rw [timesK_succ hk]
      unfold timeStep
      split
      · rename_i h
        intro t ht
        rcases List.mem_append.1 ht with ht | ht
        · exact ih t ht
        · obtain rfl := List.mem_singleton.1 ht
          exact ⟨_, List.getElem_mem hk, h.1, rfl⟩
      · exact ih
    · have e : timesK os (k + 1) = timesK os k := by unfold timesK; rw [List.take_of_length_le (by omega), List.take_of_length_le (by omega)]
      rw [e]; exact ih
theorem timesL_mem {ls : List Lf} {t : Nat} (h : t ∈ timesL ls) : ∃ x ∈ ls, x.2 = true ∧ x.1 = t := by
  obtain ⟨x, hx, h1, h2⟩ := timesK_mem _ t h
  exact ⟨x, (ordL_perm ls).mem_iff.1 hx, h1, h2⟩
theorem eql_self {t : Nat} (h : posW t) : fcmp .eql .f32 (cn .f32 t) (cn .f32 t) = true := by
  rw [fcmp_cn]
  unfold fcmp
  simp only [order_self .f32 t h.num]
  rfl
theorem fell_pos {ls : List Lf} {t : Nat} (hok : AllOk ls) (h : t ∈ timesL ls) : 1 ≤ cntB (fellB t) ls := by
  obtain ⟨x, hx, h1, rfl⟩ := timesL_mem h
  refine List.countP_pos_iff.2 ⟨x, hx, ?_⟩
  unfold fellB
  rw [h1, eql_self (hok x hx)]; rfl
theorem cntB_left (p : Lf → Bool) (a b : List Lf) : cntB p a ≤ cntB p (a ++ b) := by unfold cntB; rw [List.countP_append]; omega

/-! ### Shares -/
def bp7B (b : Nat) : Bool := match (FloatKind.f32).format.read b with
  | .number s m e => (m == 0 || (decide (e ≤ 7) && decide (m ≤ 2 ^ (7 - e).toNat))) && (m == 0 || !s)
  | _ => false
theorem bp7B_bp {b : Nat} (h : bp7B b = true) : Bp .f32 b 7 := by
  unfold bp7B at h
  split at h
  · rename_i s m e he
    simp only [Bool.and_eq_true, Bool.or_eq_true, beq_iff_eq, decide_eq_true_eq, Bool.not_eq_true'] at h
    exact ⟨s, m, e, he, h.1, h.2⟩
  · cases h
theorem one1_ofI : one1 = ofI 1 := by decide +kernel
theorem ofI7_all : ((List.range 97).all fun a => bp7B (ofI (a : Int))) = true := by decide +kernel
theorem ofI_bp {a : Nat} (h : a ≤ 96) : Bp .f32 (ofI (a : Int)) 7 := by
  have h0 := ofI7_all
  rw [List.all_eq_true] at h0
  exact bp7B_bp (h0 a (List.mem_range.2 (by omega)))
theorem share_all : ((List.range 97).all fun b => (List.range (b + 1)).all fun a => b == 0 || (bp0B (fop .quo .f32 (ofI (a : Int)) (ofI (b : Int))) && bp0B (fop .sub .f32 one1 (fop .quo .f32 (ofI (a : Int)) (ofI (b : Int)))))) = true := by decide +kernel
theorem share_bp {a b : Nat} (h : a ≤ b) (h1 : 1 ≤ b) (hb : b ≤ 96) : Bp .f32 (fop .quo .f32 (ofI (a : Int)) (ofI (b : Int))) 0 ∧ Bp .f32 (fop .sub .f32 one1 (fop .quo .f32 (ofI (a : Int)) (ofI (b : Int)))) 0 := by
  have h0 := share_all
  rw [List.all_eq_true] at h0
  have h2 := h0 b (List.mem_range.2 (by omega))
  rw [List.all_eq_true] at h2
  have h3 := h2 a (List.mem_range.2 (by omega))
  rw [Bool.or_eq_true, Bool.and_eq_true] at h3
  rcases h3 with h3 | h3
  · rw [beq_iff_eq] at h3; omega
  · exact ⟨bp0B_bp h3.1, bp0B_bp h3.2⟩

/-! ### The sums -/
def lrX (d a r : Nat) : Nat :=
  fop .mul .f32 (fop .mul .f32 (fop .mul .f32 (ofI (d : Int)) (fop .quo .f32 (ofI (a : Int)) (ofI (r : Int)))) (fop .sub .f32 one1 (fop .quo .f32 (ofI (a : Int)) (ofI (r : Int))))) (fop .quo .f32 (ofI ((r - d : Nat) : Int)) (ofI ((r - 1 : Nat) : Int)))
def lrS (a b : List Lf) (s t : Nat) : Nat :=
  fop .add .f32 s (fop .sub .f32 (ofI (cntB (fellB t) a)) (fop .quo .f32 (ofI ((cntB (fellB t) (a ++ b) * cntB (riskB t) a : Nat) : Int)) (ofI (cntB (riskB t) (a ++ b)))))
def lrW (a b : List Lf) (s t : Nat) : Nat := if cntB (riskB t) (a ++ b) = 1 then s else fop .add .f32 s (lrX (cntB (fellB t) (a ++ b)) (cntB (riskB t) a) (cntB (riskB t) (a ++ b)))
def lrSum (a b : List Lf) (k : Nat) : Nat := accK (lrS a b) (cn .f32 0) (timesL (a ++ b)) k
def lrWide (a b : List Lf) (k : Nat) : Nat := accK (lrW a b) (cn .f32 0) (timesL (a ++ b)) k
def lrZ (a b : List Lf) (n : Nat) : Option Nat := if fcmp .gtr .f32 (lrWide a b n) (cn .f32 0) then finO (fop .quo .f32 (fop .mul .f32 (lrSum a b n) (lrSum a b n)) (lrWide a b n)) else none
def lrO (a b : List Lf) : Option Nat := if livesB a && livesB b then lrZ a b (timesL (a ++ b)).length else none
theorem lrX_bp {d a r : Nat} (h1 : 1 ≤ d) (hd : d ≤ r) (ha : a ≤ r) (h2 : r ≠ 1) (hr : r ≤ 96) : Bp .f32 (lrX d a r) 7 := by
  obtain ⟨s1, s2⟩ := share_bp ha (by omega) hr
  obtain ⟨s3, _⟩ := share_bp (a := r - d) (b := r - 1) (by omega) (by omega) (by omega)
  have m1 := bp_mul (ofI_bp (show d ≤ 96 by omega)) s1 (inF32 (by decide) (by decide))
  have m2 := bp_mul m1 s2 (inF32 (by decide) (by decide))
  exact bp_mul m2 s3 (inF32 (by decide) (by decide))
theorem lrWide_bp {a b : List Lf} (ha : a.length ≤ 48) (hb : b.length ≤ 48) (hok : AllOk (a ++ b)) : ∀ k, k ≤ (timesL (a ++ b)).length → Bp .f32 (lrWide a b k) (7 + k)
  | 0, _ => ⟨false, 0, -149, by show (FloatKind.f32).format.read (cn .f32 0) = _; decide +kernel, .inl rfl, .inl rfl⟩
  | k + 1, h => by
    have ht := timesL_len (a ++ b)
    have hl : (a ++ b).length ≤ 96 := by rw [List.length_append]; omega
    have h0 : k < (timesL (a ++ b)).length := by omega
    have e : lrWide a b (k + 1) = lrW a b (lrWide a b k) (timesL (a ++ b))[k] := accK_succ h0
    rw [e]
    have ih := lrWide_bp ha hb hok k (by omega)
    have hm := List.getElem_mem h0
    generalize (timesL (a ++ b))[k] = t at *
    unfold lrW
    split
    · exact ih.mono (by omega)
    · rename_i h1
      have hr : cntB (riskB t) (a ++ b) ≤ (a ++ b).length := List.countP_le_length
      have h2 := (lrX_bp (fell_pos hok hm) (fell_risk t (a ++ b)) (cntB_left (riskB t) a b) h1 (by omega)).mono (d := 7 + (k : Int)) (by omega)
      have := bp_add ih h2 (inF32 (by omega) (by omega))
      exact this.mono (by omega)
theorem lrWide_fin {a b : List Lf} (ha : a.length ≤ 48) (hb : b.length ≤ 48) (hok : AllOk (a ++ b)) : finB (lrWide a b (timesL (a ++ b)).length) = true := finB_num (lrWide_bp ha hb hok _ (Nat.le_refl _))
theorem lives_append {a b : List Lf} (ha : livesB a = true) (hb : livesB b = true) (h1 : ∀ x ∈ a, x.1 < 4294967296) (h2 : ∀ x ∈ b, x.1 < 4294967296) : AllOk (a ++ b) := fun x hx => by
  rcases List.mem_append.1 hx with h | h
  · exact livesB_ok ha h1 x h
  · exact livesB_ok hb h2 x h
end Go.Proofs.Ytlbmjeennpccmaa
