
/- Means as the program tells them. Plain. Conditions: in the theorems. -/
import Derived.Test.YtmcnfapdghoenaaPA2
import Derived.Test.YtmcnfapdghoenaaM1
import Derived.Test.YtmcnfapdghoenaaM2
import Derived.Test.YtmcnfapdghoenaaM3
import Derived.Test.YtmcnfapdghoenaaM4
import Derived.Test.YtmcnfapdghoenaaM5
import Derived.Test.YtmcnfapdghoenaaM6
import Derived.Test.YtmcnfapdghoenaaM7
import Derived.Test.YtmcnfapdghoenaaM8
import Derived.Test.YtmcnfapdghoenaaM9
import Derived.Test.YtmcnfapdghoenaaMa
import Derived.Test.YtmcnfapdghoenaaMb
import Derived.Test.YtmcnfapdghoenaaMc
namespace Go.Proofs.Ytmcnfapdghoenaa
open Go Go.RowKit

attribute [local irreducible] tw EX expX logF EN fL nodeL LO idx s0 s1 s2 s3
theorem falls1 {m : Nat} (h2 : 2 ≤ m) (hm : m ≤ 12) : Falls (s1 m) := by
  have : m = 2 ∨ m = 3 ∨ m = 4 ∨ m = 5 ∨ m = 6 ∨ m = 7 ∨ m = 8 ∨ m = 9 ∨ m = 10 ∨ m = 11 ∨ m = 12 := by omega
  rcases this with rfl | rfl | rfl | rfl | rfl | rfl | rfl | rfl | rfl | rfl | rfl
  · exact falls_of (s1_le 2) chk1_2
  · exact falls_of (s1_le 3) chk1_3
  · exact falls_of (s1_le 4) chk1_4
  · exact falls_of (s1_le 5) chk1_5
  · exact falls_of (s1_le 6) chk1_6
  · exact falls_of (s1_le 7) chk1_7
  · exact falls_of (s1_le 8) chk1_8
  · exact falls_of (s1_le 9) chk1_9
  · exact falls_of (s1_le 10) chk1_10
  · exact falls_of (s1_le 11) chk1_11
  · exact falls_of (s1_le 12) chk1_12
theorem falls2 {m : Nat} (h2 : 2 ≤ m) (hm : m ≤ 12) : Falls (s2 m) := by
  have : m = 2 ∨ m = 3 ∨ m = 4 ∨ m = 5 ∨ m = 6 ∨ m = 7 ∨ m = 8 ∨ m = 9 ∨ m = 10 ∨ m = 11 ∨ m = 12 := by omega
  rcases this with rfl | rfl | rfl | rfl | rfl | rfl | rfl | rfl | rfl | rfl | rfl
  · exact falls_of (s2_le 2) chk2_2
  · exact falls_of (s2_le 3) chk2_3
  · exact falls_of (s2_le 4) chk2_4
  · exact falls_of (s2_le 5) chk2_5
  · exact falls_of (s2_le 6) chk2_6
  · exact falls_of (s2_le 7) chk2_7
  · exact falls_of (s2_le 8) chk2_8
  · exact falls_of (s2_le 9) chk2_9
  · exact falls_of (s2_le 10) chk2_10
  · exact falls_of (s2_le 11) chk2_11
  · exact falls_of (s2_le 12) chk2_12
theorem near_any {k m : Nat} (hk : k < 4) (h2 : 2 ≤ m) (hm : m ≤ 12) : ∃ f, Falls f ∧ ∀ x n b, Xn x n b → Near f (survF k m x) (idx n b) := by
  have hk4 : k = 0 ∨ k = 1 ∨ k = 2 ∨ k = 3 := by omega
  rcases hk4 with rfl | rfl | rfl | rfl
  · exact ⟨s0, falls_of s0_le chk0, fun x n b h => near0 h⟩
  · exact ⟨s1 m, falls1 h2 hm, fun x n b h => near1 h (shp_of h2 hm)⟩
  · exact ⟨s2 m, falls2 h2 hm, fun x n b h => near2 h (shp_of h2 hm)⟩
  · exact ⟨s3, falls_of s3_le chk3, fun x n b h => near3 h⟩
/-- The survivors of a step. -/
def SF (k m b q i : Nat) : Nat := survF k m (fop .quo .f32 (TF q i) (cF b))
theorem SF_v {k m b q i : Nat} (hk : k < 4) (h2 : 2 ≤ m) (hm : m ≤ 12) (b1 : 1 ≤ b) (hb : b < 33) (q1 : 1 ≤ q) (hq : q < 47) (hi : i < 32) : SurvV (k : Int) (yF m) (cF b) (TF q i) (SF k m b q i) ∧ Num .f32 (SF k m b q i) := by
  obtain ⟨hx, hf⟩ := xn_of q1 hq hi b1 hb
  obtain ⟨nx, -, x1, x2, -, -, -, -⟩ := hx.nodes
  obtain ⟨l, L, nl⟩ := log_of nx x1 (by grind)
  obtain ⟨i1, i2⟩ := L.in
  have l2 := ln_top L (by grind) x2
  obtain ⟨a, b, -, -⟩ := surv_v (l := l) hk h2 hm hf ⟨nx, hf.2, by grind, by grind, nl, i1, i2, (ml_in hm i1 l2).2⟩
  exact ⟨a, b⟩
def QF (k m b q i : Nat) : Nat := fop .mul .f32 (SF k m b q i) (hF q)
theorem meanV_of {k m b q : Nat} (hk : k < 4) (h2 : 2 ≤ m) (hm : m ≤ 12) (b1 : 1 ≤ b) (hb : b < 33) (q1 : 1 ≤ q) (hq : q < 47) (f : Nat → Nat) (hN : ∀ i, i < 32 → Near f (SF k m b q i) (idx ((2 * i + 1) * q) b)) :
    MeanV (k : Int) (yF m) (cF b) (tF q) (hF q) 32 aF (TF q) (SF k m b q) (QF k m b q) (meanF (SF k m b q) (hF q)) := by
  obtain ⟨fh, nh, vh⟩ := hF_v hq
  have hM := fun i (hi : i ≤ 32) => mean_near (S := SF k m b q) nh vh (show q ≤ 46 by omega) i hi fun j hj => ⟨(hN j (by omega)).1, (hN j (by omega)).2.1, (hN j (by omega)).2.2.1⟩
  have qR : (q : Rat) ≤ 46 := by exact_mod_cast (show q ≤ 46 by omega)
  have q0 : (0 : Rat) ≤ (q : Rat) := Rat.natCast_nonneg
  have hQ := fun i (hi : i < 32) => mul_pos (A := 2) (B := 1) (hN i hi).1 nh (hN i hi).2.1 (by have := (hN i hi).2.2.1; grind) (by rw [vh]; grind) (by rw [vh]; grind) (by decide +kernel) (by decide +kernel)
  refine ⟨fh, rfl, fun i hi => (aF_v (by omega)).1, fun i hi => (TF_v hq hi).1, fun i hi => ⟨(TF_v hq hi).2.1, ?_⟩, fun i hi => (SF_v hk h2 hm b1 hb q1 hq hi).1, fun i hi => (hN i hi).1, fun i hi => fopV_of rfl (hN i hi).1 nh (hQ i hi).1, fun i hi => fopV_of rfl (hM i (by omega)).1.1 (hQ i hi).1 (hM (i + 1) (by omega)).1.1⟩
  rw [(TF_v hq hi).2.2]
  have : (0 : Rat) ≤ (((2 * i + 1) * q : Nat) : Rat) := Rat.natCast_nonneg
  grind
/-- The mean up to a time. -/
def mF (k m b q : Nat) : Nat := meanF (SF k m b q) (hF q) 32
theorem means_v {k m b a q : Nat} (hk : k < 4) (h2 : 2 ≤ m) (hm : m ≤ 12) (b1 : 1 ≤ b) (hb : b < 33) (a1 : 1 ≤ a) (ha : a ≤ 30) (haq : a < q) (hq : q < 47) :
    MeanV (k : Int) (yF m) (cF b) (tF a) (hF a) 32 aF (TF a) (SF k m b a) (QF k m b a) (meanF (SF k m b a) (hF a)) ∧ MeanV (k : Int) (yF m) (cF b) (tF q) (hF q) 32 aF (TF q) (SF k m b q) (QF k m b q) (meanF (SF k m b q) (hF q)) ∧
    fv .f32 (mF k m b a) ≤ fv .f32 (mF k m b q) + 499 / 10000 ∧ 0 ≤ fv .f32 (mF k m b a) ∧ fv .f32 (mF k m b a) ≤ (a : Rat) / 8 + 9 / 10000 ∧ Num .f32 (mF k m b a) ∧ Num .f32 (mF k m b q) ∧ 0 ≤ fv .f32 (mF k m b q) ∧ fv .f32 (mF k m b q) ≤ 10 := by
  obtain ⟨f, hf, hn⟩ := near_any hk h2 hm
  have hNa := fun i (hi : i < 32) => hn _ _ _ (xn_of a1 (show a < 47 by omega) hi b1 hb).1
  have hNq := fun i (hi : i < 32) => hn _ _ _ (xn_of (show 1 ≤ q by omega) hq hi b1 hb).1
  obtain ⟨-, na, va⟩ := hF_v (show a < 47 by omega)
  obtain ⟨-, nq, vq⟩ := hF_v hq
  refine ⟨meanV_of hk h2 hm b1 hb a1 (by omega) f hNa, meanV_of hk h2 hm b1 hb (by omega) hq f hNq, ?_⟩
  exact means_grow hf b1 (by omega) a1 ha haq (by omega) na va nq vq hNa hNq
end Go.Proofs.Ytmcnfapdghoenaa
