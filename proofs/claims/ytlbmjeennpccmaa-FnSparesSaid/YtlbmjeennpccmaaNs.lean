
/- How likely needs are: what the program and the reference compute is one list, of finite numbers. No condition. -/
import Derived.Test.YtlbmjeennpccmaaEx
import Derived.Test.YtlbmjeennpccmaaCB
namespace Go.Proofs.Ytlbmjeennpccmaa
open Go Go.RowKit Go.ChangeShapes Go.WideShapes Go.ChangeAt

def needStep (m p : Nat) (k : Nat) : Nat := fop .quo .f32 (fop .mul .f32 p m) (ofI (k : Int))
/-- The first k + 1 shares. -/
def needL (m : Nat) : Nat → List Nat
  | 0 => [expF (fop .sub .f32 (cn .f32 0) m)]
  | k + 1 => needL m k ++ [needStep m ((needL m k).getD k 0) (k + 1)]
theorem needL_len (m : Nat) : ∀ k, (needL m k).length = k + 1
  | 0 => rfl
  | k + 1 => by simp [needL, needL_len m k]
theorem needL_get (m : Nat) : ∀ k j, j ≤ k → (needL m k).getD j 0 = (needL m j).getD j 0
  | 0, j, h => by obtain rfl : j = 0 := by omega
                  rfl
  | k + 1, j, h => by
    by_cases hj : j = k + 1
    · subst hj; rfl
    · have hl := needL_len m k
      rw [needL, List.getD_eq_getElem?_getD, List.getElem?_append_left (by omega), ← List.getD_eq_getElem?_getD]
      exact needL_get m k j (by omega)
/-- Powers of two that are not less. -/
def cB : Nat → Int
  | 0 => 0
  | k + 1 => cB k + 6 - ((k + 1).log2 : Int) + 1
def chkD (d : Ieee.Datum) (L : Int) : Bool := match d with
  | .number false n j => n != 0 && decide (L ≤ n.log2 + j)
  | _ => false
theorem chkD_get {d : Ieee.Datum} {L : Int} (h : chkD d L = true) : ∃ n j, d = .number false n j ∧ GeP n j L := by
  unfold chkD at h
  split at h
  · rename_i n j
    simp only [Bool.and_eq_true, bne_iff_ne, ne_eq, decide_eq_true_eq] at h
    exact ⟨n, j, rfl, h.1, h.2⟩
  · cases h
def ofChk (k : Nat) : Bool := chkD ((FloatKind.f32).format.read (ofI ((k + 1 : Nat) : Int))) ((k + 1).log2 : Int)
theorem ofChk_all : (List.range 32).all ofChk = true := by decide +kernel
theorem ofI_ge (k : Nat) (hk : k < 32) : ∃ n j, (FloatKind.f32).format.read (ofI ((k + 1 : Nat) : Int)) = .number false n j ∧ GeP n j ((k + 1).log2 : Int) := by
  have h := ofChk_all
  rw [List.all_eq_true] at h
  exact chkD_get (h k (List.mem_range.2 hk))
theorem cB_le (k : Nat) (hk : k ≤ 32) : -126 ≤ cB k ∧ cB k + 6 ≤ 127 := by
  have h : (List.range 33).all (fun k => decide (-126 ≤ cB k) && decide (cB k + 6 ≤ 127)) = true := by decide +kernel
  rw [List.all_eq_true] at h
  have h1 := h k (List.mem_range.2 (by omega))
  rw [Bool.and_eq_true, decide_eq_true_eq, decide_eq_true_eq] at h1
  exact h1
theorem cB_succ (k : Nat) : cB (k + 1) = cB k + 6 - ((k + 1).log2 : Int) + 1 := rfl
theorem need_0 (m : Nat) : (needL m 0).getD 0 0 = expF (fop .sub .f32 (cn .f32 0) m) := by rw [needL, List.getD_cons_zero]
theorem need_bp {m : Nat} (hm : meanB m = true) : ∀ k, k ≤ 32 → Bp .f32 ((needL m k).getD k 0) (cB k)
  | 0, _ => by
    rw [need_0]
    exact expF_bp (neg_mean (mean_bp hm) (inF32 (by decide) (by decide)))
  | k + 1, h => by
    have ih := need_bp hm k (by omega)
    have b0 := cB_le k (by omega)
    have b1 := cB_le (k + 1) h
    obtain ⟨n, j, h1, h2⟩ := ofI_ge k (by omega)
    have h3 := bp_mul ih (mean_bp hm) (inF32 (by omega) (by omega))
    have hs := cB_succ k
    have h4 := bp_div h3 h1 h2 (inF32 (by omega) (by omega))
    rw [← hs] at h4
    have e : (needL m (k + 1)).getD (k + 1) 0 = needStep m ((needL m k).getD k 0) (k + 1) := by
      rw [needL, List.getD_eq_getElem?_getD, List.getElem?_append_right (by rw [needL_len]; omega), needL_len]; simp
    rw [e]
    exact h4
theorem need_fin {m : Nat} (hm : meanB m = true) (k : Nat) (hk : k ≤ 32) : finAll (needL m k) = true := by
  unfold finAll
  rw [List.all_eq_true]
  intro x hx
  obtain ⟨j, hj, rfl⟩ := List.getElem_of_mem hx
  rw [needL_len] at hj
  have e : (needL m k)[j]'(by rw [needL_len]; exact hj) = (needL m k).getD j 0 := by simp [needL_len, hj]
  rw [e, needL_get m k j (by omega)]
  exact finB_num (need_bp hm j (by omega))

theorem isMean_any (b : Nat) (w : World) : Calls Try.prog 61 #[.float .f32 b] w fun e w' => e = .returned (.bool (meanB (cn .f32 b))) ∧ w = w' := by
  cases h : fcmp .geq .f32 (cn .f32 b) (cn .f32 0)
  all_goals
    have H := Lib.hid h
    go_enter Try.func61, Try.ntmps61
    go_wp2_with (refine wpList_fcmp rfl rfl rfl rfl rfl (by first | with_reducible assumption | exact rfl) ?_)
    go_ret
    exact ⟨ret_bool (by unfold meanB; rw [H.out]; rfl), rfl⟩
theorem isMean_eq {b : Nat} {c : Bool} (h : meanB (cn .f32 b) = c) (w : World) : Calls Try.prog 61 #[.float .f32 b] w fun e w' => e = .returned (.bool c) ∧ w = w' := by subst h; exact isMean_any b w

/-- A list of numbers of the call's own. -/
def OwnF (xs : List Nat) (B : Nat) (w : World) (v : Value) : Prop :=
  ∃ (g cap : Nat) (os : List Nat), v = .slice (some ⟨g, 0, none⟩) os.length cap ∧ os.map (cn .f32) = xs ∧ (∀ b ∈ os, b < 4294967296) ∧ w.ownsRow B 24 1 (.slice (some ⟨g, 0, none⟩) os.length cap) os.length (os.map (Value.float .f32))
def needO (m : Nat) (c : Int) : Option (List Nat) := if meanB m && inB c 0 32 then some (needL m c.toNat) else none


end Go.Proofs.Ytlbmjeennpccmaa
