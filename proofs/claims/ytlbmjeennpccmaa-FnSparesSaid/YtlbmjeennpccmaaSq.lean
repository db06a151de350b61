
/- What needs come to for the means that FnSpares can choose: told by reckoning. No condition. -/
import Derived.Test.YtlbmjeennpccmaaSp
import Derived.Test.YtlbmjeennpccmaaSf
namespace Go.Proofs.Ytlbmjeennpccmaa
open Go Go.RowKit Go.ChangeShapes Go.WideShapes Go.ChangeAt

/-- Reckon a number before it is used. -/
def frc {α : Type} (x : Nat) (f : Nat → α) : α := Nat.casesOn (motive := fun _ => α) x (f 0) (fun n => f (n + 1))
theorem frc_eq {α : Type} (x : Nat) (f : Nat → α) : frc x f = f x := by cases x <;> rfl
def numB (b : Nat) : Bool := match (FloatKind.f32).format.read b with
  | .number _ _ _ => true
  | _ => false
theorem numB_get {b : Nat} (h : numB b = true) : ∃ s m e, (FloatKind.f32).format.read b = .number s m e := by
  unfold numB at h
  generalize hd : (FloatKind.f32).format.read b = d at h
  cases d with
  | number s m e => exact ⟨s, m, e, rfl⟩
  | infinity s => cases h
  | nan s f => cases h

def mA (a : Nat) : Nat := fop .quo .f32 (ofI (a : Int)) 1082130432
def mB (a : Nat) : Nat := fop .quo .f32 (ofI (a : Int)) 1073741824
def svA (b : Nat) : Nat := fop .quo .f32 (ofI (b : Int)) 1098907648
/-- The sum in 64 bits. -/
def sum64 (m : Nat) : Nat → Nat
  | 0 => fop .add .f64 0 (wide ((needL m 0).getD 0 0))
  | k + 1 => fop .add .f64 (sum64 m k) (wide ((needL m (k + 1)).getD (k + 1) 0))
/-- The two differences, one of which is the gap. -/
def gapA (x y : Nat) : Nat := fop .sub .f64 (wide x) (wide y)
def gapOk (x y : Nat) : Bool := !(fcmp .gtr .f64 (gapA x y) 4562254508917369340) && !(fcmp .gtr .f64 (gapA y x) 4562254508917369340) && !(isN .f64 (gapA x y)) && !(isN .f64 (gapA y x))

def chkA (m : Nat) : Nat → Nat → Nat → Nat → Nat → Bool
  | 0, _, _, _, _ => true
  | fuel + 1, k, p, S, T =>
    numB S && (decide (23 < k) || !(fcmp .gtr .f64 T 4607186922399644778)) && (decide (k ≠ 32) || (List.range 16).all fun b => fcmp .geq .f32 S (svA b)) &&
    frc (needStep m p (k + 1)) fun p' => (decide (22 < k) || gapOk (fop .mul .f32 p' (ofI ((k + 1 : Nat) : Int))) (fop .mul .f32 p m)) && frc (fop .add .f32 S p') fun S' => frc (fop .add .f64 T (wide p')) fun T' => chkA m fuel (k + 1) p' S' T'
def chkA0 (m : Nat) : Bool := meanB m && (fop .mul .f32 m 1065353216 == m) && frc (expF (fop .sub .f32 (cn .f32 0) m)) fun p => frc (fop .add .f32 (cn .f32 0) p) fun S => frc (fop .add .f64 0 (wide p)) fun T => chkA m 33 0 p S T
theorem chkA_all : (List.range 24).all (fun a => frc (mA a) chkA0) = true := by decide +kernel

def chkB (m : Nat) : Nat → Nat → Nat → Nat → Nat → Bool
  | 0, _, _, _, _ => true
  | fuel + 1, k, p, S, u =>
    numB S && numB u &&
    frc (needStep m p (k + 1)) fun p' => frc (fop .add .f32 S p') fun S' => frc (fop .sub .f32 sp1 S') fun u' => !(fcmp .gtr .f32 u' u) && chkB m fuel (k + 1) p' S' u'
def chkB0 (m : Nat) : Bool := meanB m && (fop .mul .f32 m 1065353216 == m) && frc (expF (fop .sub .f32 (cn .f32 0) m)) fun p => frc (fop .add .f32 (cn .f32 0) p) fun S => frc (fop .sub .f32 sp1 S) fun u => chkB m 33 0 p S u
theorem chkB_all : (List.range 16).all (fun a => frc (mB a) chkB0) = true := by decide +kernel

def needS (m k : Nat) : Nat := sumF (cn .f32 0) (needL m k)
def needP (m k : Nat) : Nat := (needL m k).getD k 0
theorem needP_succ (m k : Nat) : needP m (k + 1) = needStep m (needP m k) (k + 1) := by
  unfold needP
  rw [needL, List.getD_eq_getElem?_getD, List.getElem?_append_right (by rw [needL_len]; omega), needL_len]; simp
theorem needS_succ (m k : Nat) : needS m (k + 1) = fop .add .f32 (needS m k) (needP m (k + 1)) := by
  rw [needP_succ]
  unfold needS
  rw [needL]
  unfold sumF
  rw [List.foldl_append]
  rfl
theorem needP_0 (m : Nat) : needP m 0 = expF (fop .sub .f32 (cn .f32 0) m) := need_0 m
theorem sumF_one (s x : Nat) : sumF s [x] = fop .add .f32 s x := rfl
theorem needL_0 (m : Nat) : needL m 0 = [expF (fop .sub .f32 (cn .f32 0) m)] := rfl
theorem needS_0 (m : Nat) : needS m 0 = fop .add .f32 (cn .f32 0) (needP m 0) := by rw [needP_0]; unfold needS; rw [needL_0, sumF_one]
theorem sum64_succ (m k : Nat) : sum64 m (k + 1) = fop .add .f64 (sum64 m k) (wide (needP m (k + 1))) := rfl

theorem chkA_get (m : Nat) : ∀ fuel k, chkA m fuel k (needP m k) (needS m k) (sum64 m k) = true → ∀ j, k ≤ j → j < k + fuel →
    numB (needS m j) = true ∧ (j ≤ 23 → fcmp .gtr .f64 (sum64 m j) 4607186922399644778 = false) ∧ (j = 32 → ∀ b, b < 16 → fcmp .geq .f32 (needS m j) (svA b) = true) ∧
      (j ≤ 22 → gapOk (fop .mul .f32 (needP m (j + 1)) (ofI ((j + 1 : Nat) : Int))) (fop .mul .f32 (needP m j) m) = true)
  | 0, k, _, j, h1, h2 => absurd h2 (by omega)
  | fuel + 1, k, h, j, h1, h2 => by
    unfold chkA at h
    rw [frc_eq, frc_eq, frc_eq, ← needP_succ, ← needS_succ, ← sum64_succ] at h
    simp only [Bool.and_eq_true, Bool.or_eq_true, decide_eq_true_eq, Bool.not_eq_true', List.all_eq_true, List.mem_range] at h
    obtain ⟨⟨⟨g1, g2⟩, g3⟩, g4, g5⟩ := h
    by_cases hj : j = k
    · subst hj
      refine ⟨g1, fun h => g2.resolve_left (by omega), fun h => g3.resolve_left (by omega), fun h => g4.resolve_left (by omega)⟩
    · exact chkA_get m fuel (k + 1) g5 j (by omega) (by omega)
theorem mA_ok {a : Nat} (ha : a < 24) : meanB (mA a) = true ∧ fop .mul .f32 (mA a) 1065353216 = mA a ∧ ∀ j, j ≤ 32 →
    numB (needS (mA a) j) = true ∧ (j ≤ 23 → fcmp .gtr .f64 (sum64 (mA a) j) 4607186922399644778 = false) ∧ (j = 32 → ∀ b, b < 16 → fcmp .geq .f32 (needS (mA a) j) (svA b) = true) ∧
      (j ≤ 22 → gapOk (fop .mul .f32 (needP (mA a) (j + 1)) (ofI ((j + 1 : Nat) : Int))) (fop .mul .f32 (needP (mA a) j) (mA a)) = true) := by
  have h := chkA_all
  rw [List.all_eq_true] at h
  have h1 := h a (List.mem_range.2 ha)
  rw [frc_eq] at h1
  generalize mA a = m at *
  unfold chkA0 at h1
  rw [frc_eq, frc_eq, frc_eq] at h1
  simp only [Bool.and_eq_true, beq_iff_eq] at h1
  obtain ⟨⟨g1, g2⟩, g3⟩ := h1
  refine ⟨g1, g2, fun j hj => chkA_get m 33 0 ?_ j (by omega) (by omega)⟩
  rw [needS_0, needP_0]
  unfold sum64
  rw [need_0]
  exact g3
def needU (m k : Nat) : Nat := fop .sub .f32 sp1 (needS m k)
theorem chkB_get (m : Nat) : ∀ fuel k, chkB m fuel k (needP m k) (needS m k) (needU m k) = true → ∀ j, k ≤ j → j < k + fuel →
    numB (needS m j) = true ∧ numB (needU m j) = true ∧ fcmp .gtr .f32 (needU m (j + 1)) (needU m j) = false
  | 0, k, _, j, h1, h2 => absurd h2 (by omega)
  | fuel + 1, k, h, j, h1, h2 => by
    unfold chkB at h
    rw [frc_eq, frc_eq, frc_eq, ← needP_succ, ← needS_succ] at h
    simp only [Bool.and_eq_true, Bool.not_eq_true'] at h
    obtain ⟨⟨g1, g2⟩, g3, g4⟩ := h
    by_cases hj : j = k
    · subst hj
      exact ⟨g1, g2, g3⟩
    · exact chkB_get m fuel (k + 1) g4 j (by omega) (by omega)
theorem mB_ok {a : Nat} (ha : a < 16) : meanB (mB a) = true ∧ fop .mul .f32 (mB a) 1065353216 = mB a ∧ ∀ j, j ≤ 32 → numB (needS (mB a) j) = true ∧ numB (needU (mB a) j) = true ∧ fcmp .gtr .f32 (needU (mB a) (j + 1)) (needU (mB a) j) = false := by
  have h := chkB_all
  rw [List.all_eq_true] at h
  have h1 := h a (List.mem_range.2 ha)
  rw [frc_eq] at h1
  generalize mB a = m at *
  unfold chkB0 at h1
  rw [frc_eq, frc_eq, frc_eq] at h1
  simp only [Bool.and_eq_true, beq_iff_eq] at h1
  obtain ⟨⟨g1, g2⟩, g3⟩ := h1
  refine ⟨g1, g2, fun j hj => chkB_get m 33 0 ?_ j (by omega) (by omega)⟩
  unfold needU
  rw [needS_0, needP_0]
  exact g3

/-! ### The order of numbers -/
def valF (b : Nat) : Int := match (FloatKind.f32).format.read b with
  | .number s m e => Ieee.signed s m (e + 149).toNat
  | _ => 0
theorem signed_scale (s : Bool) (m a d : Nat) : Ieee.signed s m (a + d) = Ieee.signed s m a * 2 ^ d := by
  unfold Ieee.signed
  rw [Nat.shiftLeft_eq, Nat.shiftLeft_eq, Nat.pow_add, ← Nat.mul_assoc]
  cases s <;> simp
  rw [Int.neg_mul]
theorem gtr_val {x y : Nat} (hx : numB x = true) (hy : numB y = true) : fcmp .gtr .f32 x y = decide (valF y < valF x) := by
  obtain ⟨s, m, i, h1⟩ := numB_get hx
  obtain ⟨t, n, j, h2⟩ := numB_get hy
  obtain ⟨_, i0, _⟩ := single_read (show Ieee.single.read x = .number s m i from h1)
  obtain ⟨_, j0, _⟩ := single_read (show Ieee.single.read y = .number t n j from h2)
  have vx : valF x = Ieee.signed s m (i + 149).toNat := by unfold valF; rw [h1]
  have vy : valF y = Ieee.signed t n (j + 149).toNat := by unfold valF; rw [h2]
  unfold fcmp Ieee.Format.order
  rw [h1, h2]
  simp only [Ieee.Datum.order]
  generalize hb : min i j = base
  have ex : (i + 149).toNat = (i - base).toNat + (base + 149).toNat := by omega
  have ey : (j + 149).toNat = (j - base).toNat + (base + 149).toNat := by omega
  rw [vx, vy, ex, ey, signed_scale, signed_scale]
  generalize Ieee.signed s m (i - base).toNat = A
  generalize Ieee.signed t n (j - base).toNat = B
  have hp : (0 : Int) < 2 ^ (base + 149).toNat := by
    have := Nat.pow_pos (n := (base + 149).toNat) (show 0 < 2 by omega)
    exact_mod_cast this
  have hiff : (B * 2 ^ (base + 149).toNat < A * 2 ^ (base + 149).toNat) ↔ B < A := Int.mul_lt_mul_right hp
  rw [show decide (B * 2 ^ (base + 149).toNat < A * 2 ^ (base + 149).toNat) = decide (B < A) from by simp only [hiff]]
  have e : compare A B = compareOfLessAndEq A B := rfl
  rw [e]
  unfold compareOfLessAndEq
  by_cases h : A < B
  · rw [if_pos h]; simp; omega
  · rw [if_neg h]
    by_cases h' : A = B
    · rw [if_pos h']; simp; omega
    · rw [if_neg h']; simp; omega
end Go.Proofs.Ytlbmjeennpccmaa
