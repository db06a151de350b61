
/- The time that a share survives leads back to the share. Plain. Conditions: in the theorems. -/
import Derived.Test.YtmcnfapdghoenaaPA2
import Derived.Test.YtmcnfapdghoenaaN1
import Derived.Test.YtmcnfapdghoenaaN2
import Derived.Test.YtmcnfapdghoenaaN3
import Derived.Test.YtmcnfapdghoenaaN4
import Derived.Test.YtmcnfapdghoenaaN5
import Derived.Test.YtmcnfapdghoenaaN6
namespace Go.Proofs.Ytmcnfapdghoenaa
open Go Go.RowKit

attribute [local irreducible] tw EX expX logF EN fL nodeL LO
theorem t1_any {m : Nat} (h2 : 2 ≤ m) (hm : m ≤ 12) : rB (t1B m) 15 = true := by
  have : m = 2 ∨ m = 3 ∨ m = 4 ∨ m = 5 ∨ m = 6 ∨ m = 7 ∨ m = 8 ∨ m = 9 ∨ m = 10 ∨ m = 11 ∨ m = 12 := by omega
  rcases this with rfl | rfl | rfl | rfl | rfl | rfl | rfl | rfl | rfl | rfl | rfl
  · exact t1_2
  · exact t1_3
  · exact t1_4
  · exact t1_5
  · exact t1_6
  · exact t1_7
  · exact t1_8
  · exact t1_9
  · exact t1_10
  · exact t1_11
  · exact t1_12
theorem t2_any {m : Nat} (h2 : 2 ≤ m) (hm : m ≤ 12) : rB (t2B m) 15 = true := by
  have : m = 2 ∨ m = 3 ∨ m = 4 ∨ m = 5 ∨ m = 6 ∨ m = 7 ∨ m = 8 ∨ m = 9 ∨ m = 10 ∨ m = 11 ∨ m = 12 := by omega
  rcases this with rfl | rfl | rfl | rfl | rfl | rfl | rfl | rfl | rfl | rfl | rfl
  · exact t2_2
  · exact t2_3
  · exact t2_4
  · exact t2_5
  · exact t2_6
  · exact t2_7
  · exact t2_8
  · exact t2_9
  · exact t2_10
  · exact t2_11
  · exact t2_12
def x0F (k m j : Nat) : Nat := match k with
  | 0 => lF j
  | 1 => x1F m j
  | 2 => x2F m j
  | _ => fop .sub .f32 1065353216 (shF j)
/-- Near a share. -/
def Sh (s j : Nat) : Prop := Num .f32 s ∧ fv .f32 s ≤ (j : Rat) / 16 + 1 / 5000 ∧ (j : Rat) / 16 ≤ fv .f32 s + 1 / 5000
theorem shB_v {s j : Nat} (h : shB s j = true) : Sh s j := by
  unfold shB at h
  simp only [Bool.and_eq_true, decide_eq_true_eq] at h
  exact ⟨num_of h.1.1, h.1.2, h.2⟩
theorem xB_v {x : Nat} (h : xB x = true) : Num .f32 x ∧ 1 / 10000 ≤ fv .f32 x ∧ fv .f32 x ≤ 250 := by
  unfold xB at h
  simp only [Bool.and_eq_true, decide_eq_true_eq] at h
  exact ⟨num_of h.1.1, h.1.2, h.2⟩
theorem shF_all : ∀ j : Nat, j < 16 → (opB .quo (floatOfInt .f32 (j : Int)) 1098907648 (shF j) && decide (fv .f32 (shF j) = (j : Rat) / 16) && opB .sub 1065353216 (shF j) (fop .sub .f32 1065353216 (shF j)) && decide (fv .f32 (fop .sub .f32 1065353216 (shF j)) = ((16 - j : Nat) : Rat) / 16)) = true := by decide +kernel
theorem shF_v {j : Nat} (h : j < 16) : FopV .quo .f32 (floatOfInt .f32 (j : Int)) 1098907648 (shF j) ∧ Num .f32 (shF j) ∧ fv .f32 (shF j) = (j : Rat) / 16 ∧ FopV .sub .f32 1065353216 (shF j) (fop .sub .f32 1065353216 (shF j)) ∧ Num .f32 (fop .sub .f32 1065353216 (shF j)) ∧ fv .f32 (fop .sub .f32 1065353216 (shF j)) = ((16 - j : Nat) : Rat) / 16 := by
  have := shF_all j h
  simp only [Bool.and_eq_true, decide_eq_true_eq] at this
  obtain ⟨⟨⟨a, b⟩, c⟩, d⟩ := this
  exact ⟨(opB_v a).1, (opB_v a).2, b, (opB_v c).1, (opB_v c).2, d⟩
/-! ### The logarithm of a share -/
theorem lF_v {j : Nat} (j1 : 1 ≤ j) (hj : j ≤ 15) : Num .f32 (logF (shF j)) ∧ FopV .sub .f32 0 (logF (shF j)) (lF j) ∧ Num .f32 (lF j) ∧ 1 / 10000 ≤ fv .f32 (lF j) ∧ fv .f32 (lF j) ≤ 23 / 2 ∧ Sh (s0F (lF j)) j := by
  have t0 := rB_at 15 t0_all j j1 hj
  unfold t0B at t0
  simp only [Bool.and_eq_true] at t0
  obtain ⟨n, x1, x2⟩ := xB_v t0.1
  obtain ⟨-, ns, vs, -, -, -⟩ := shF_v (show j < 16 by omega)
  have jr : (1 : Rat) ≤ (j : Rat) := by exact_mod_cast j1
  have jr2 : (j : Rat) ≤ 15 := by exact_mod_cast hj
  obtain ⟨l, L, nl⟩ := log_of ns (by rw [vs]; grind) (by rw [vs]; grind)
  obtain ⟨l1, l2⟩ := L.in
  obtain ⟨z1, z2⟩ := zeroF_val
  have h100 := tw100
  obtain ⟨w1, w2, w3, w4⟩ := u32j
  obtain ⟨n0, nl1, nu1⟩ := nl
  obtain ⟨⟨m, p, q⟩, -⟩ := (wr_sub z1 n0).nr (A := 11) (by rw [z2]; grind) (by rw [z2]; grind) (by grind)
  rw [z2] at p q
  have p' : fv .f32 (lF j) ≤ 0 - fv .f32 (logF (shF j)) + (uu .f32 * 11 + eta .f32) := p
  exact ⟨n0, fopV_of rfl z1 n0 m, n, x1, by grind, shB_v t0.2⟩
/-- One by a shape. -/
theorem zF_v {m : Nat} (h2 : 2 ≤ m) (hm : m ≤ 12) : FopV .quo .f32 1065353216 (yF m) (zF m) ∧ Num .f32 (zF m) ∧ 0 ≤ fv .f32 (zF m) ∧ fv .f32 (zF m) ≤ 201 / 100 ∧ (6 ≤ m → fv .f32 (zF m) ≤ 67 / 100) := by
  obtain ⟨ny, ey, -, -⟩ := shp_of h2 hm
  obtain ⟨o1, o2⟩ := oneB_val
  have m0 : (2 : Rat) ≤ (m : Rat) := by exact_mod_cast h2
  have m1 : (m : Rat) ≤ 12 := by exact_mod_cast hm
  obtain ⟨X, hX⟩ : ∃ X : Rat, X * ((m : Rat) / 4) = 1 := ⟨((m : Rat) / 4)⁻¹, Rat.inv_mul_cancel _ (by grind)⟩
  have x1 : 1 / 3 ≤ X := by
    by_cases hc : 1 / 3 ≤ X
    · exact hc
    · have := Rat.mul_pos (show 0 < 1 / 3 - X by grind) (show 0 < (m : Rat) / 4 by grind); grind
  have x2 := jmul_le m0 (show 0 ≤ X by grind)
  obtain ⟨n, l, u⟩ := quo_rel (p := oneB) (q := yF m) (X := X) o1 ny o2 ey (by grind) hX (by grind) (by grind)
  refine ⟨fopV_of rfl o1 ny n, n, ?_, ?_, fun h6 => ?_⟩
  · show 0 ≤ fv .f32 (fop .quo .f32 oneB (yF m)); grind
  · show fv .f32 (fop .quo .f32 oneB (yF m)) ≤ _; grind
  · have m6 : (6 : Rat) ≤ (m : Rat) := by exact_mod_cast h6
    have x3 := jmul_le m6 (show 0 ≤ X by grind)
    show fv .f32 (fop .quo .f32 oneB (yF m)) ≤ _; grind
/-- The odds of a share. -/
theorem oF_v {j : Nat} (j1 : 1 ≤ j) (hj : j ≤ 15) : FopV .quo .f32 (fop .sub .f32 1065353216 (shF j)) (shF j) (oF j) ∧ Num .f32 (oF j) ∧ 1 / 100 ≤ fv .f32 (oF j) ∧ fv .f32 (oF j) ≤ 151 / 10 := by
  obtain ⟨-, ns, vs, -, nd, vd⟩ := shF_v (show j < 16 by omega)
  have jr : (1 : Rat) ≤ (j : Rat) := by exact_mod_cast j1
  have jr2 : (j : Rat) ≤ 15 := by exact_mod_cast hj
  have e16 : ((16 - j : Nat) : Rat) = 16 - (j : Rat) := by
    have : ((16 - j + j : Nat) : Rat) = 16 := by rw [Nat.sub_add_cancel (by omega)]; rfl
    rw [Rat.natCast_add] at this; grind
  rw [e16] at vd
  obtain ⟨X, hX⟩ : ∃ X : Rat, X * ((j : Rat) / 16) = (16 - (j : Rat)) / 16 := ⟨(16 - (j : Rat)) / 16 * ((j : Rat) / 16)⁻¹, by rw [Rat.mul_assoc, Rat.inv_mul_cancel _ (by grind)]; grind⟩
  have x1 : 1 / 15 ≤ X := by
    by_cases hc : 1 / 15 ≤ X
    · exact hc
    · have := Rat.mul_pos (show 0 < 1 / 15 - X by grind) (show 0 < (j : Rat) / 16 by grind); grind
  have x2 := jmul_le jr (show 0 ≤ X by grind)
  obtain ⟨n, l, u⟩ := quo_rel (X := X) nd ns vd vs (by grind) hX (by grind) (by grind)
  have e : oF j = fop .quo .f32 (fop .sub .f32 1065353216 (shF j)) (shF j) := rfl
  rw [e]
  exact ⟨fopV_of rfl nd ns n, n, by grind, by grind⟩
end Go.Proofs.Ytmcnfapdghoenaa
/- The time that a share survives leads back to the share: the whole. Plain. Conditions: in the theorems. -/
namespace Go.Proofs.Ytmcnfapdghoenaa
open Go Go.RowKit

attribute [local irreducible] tw expX logF EN fL nodeL LO
theorem EX_19 : EX (19 / 10) ≤ 7 := by unfold EX; decide +kernel
theorem EX_m3 : EX (-3) ≤ 1 / 20 := by unfold EX; decide +kernel
attribute [local irreducible] EX
section
attribute [local semireducible] nodeL LO
theorem nodeL_2303 : (nodeL 2303 : Rat) - (LO : Rat) + 40 ≤ 277 / 100 * TR := by decide +kernel
end
theorem vN_2303 : vN 2303 * 16 = 255 := by
  have h : vN 2303 = ((255 : Nat) : Rat) * tw (-4) := by unfold vN; rfl
  have h2 := tw_m4
  have c : ((255 : Nat) : Rat) = 255 := rfl
  rw [h, c]; grind
theorem ln_16 {v l : Rat} (h : LnOf v l) (h0 : 0 < v) (h1 : v ≤ 31 / 2) : l ≤ 28 / 10 := by
  obtain ⟨r, hr, a, -⟩ := node_ln (j := 2303) (by decide)
  have v32 := vN_2303
  have nt := nodeL_2303
  have hr2 : r ≤ 277 / 100 := by_TR (by grind)
  have := h.le hr h0 (vN_pos _) (d := 0) (by decide +kernel) (by decide +kernel) (by grind)
  grind
/-- A power of 1 by a shape: how great. -/
theorem zpow_top {m x : Nat} {l : Rat} (h2 : 2 ≤ m) (hm : m ≤ 12) (nl : Nr .f32 (logF x) l (1 / 1000000)) (l1 : -10 ≤ l) (l2 : l ≤ 28 / 10) : fv .f32 (zF m) * l ≤ 79 / 10 ∧ (6 ≤ m → fv .f32 (powF (zF m) x) ≤ 71 / 10) := by
  obtain ⟨-, nz, z0, z1, z6⟩ := zF_v h2 hm
  have top := EX_19
  have hz : fv .f32 (zF m) * l ≤ 79 / 10 := by
    have a := jmul_le l2 z0
    grind
  refine ⟨hz, fun h6 => ?_⟩
  have z7 := z6 h6
  obtain ⟨-, pl, -, p0, -⟩ := pow_near nz (by grind) (by grind) nl l1 (by grind) hz
  have a := jmul_le l2 z0
  have lo : -30 ≤ fv .f32 (zF m) * l := (z_near nz (by grind) (by grind) nl l1 (by grind)).2
  have b := (EX_mono (x := fv .f32 (zF m) * l) (y := 19 / 10) (by grind) (by grind) (by decide +kernel)).2
  grind
/-- The time by the scale. -/
theorem x0_v {k m j : Nat} (hk : k < 4) (h2 : 2 ≤ m) (hm : m ≤ 12) (j1 : 1 ≤ j) (hj : j ≤ 15) :
    Num .f32 (x0F k m j) ∧ 1 / 10000 ≤ fv .f32 (x0F k m j) ∧ fv .f32 (x0F k m j) ≤ 250 ∧ (6 ≤ m ∨ k = 0 ∨ k = 3 → fv .f32 (x0F k m j) ≤ 114 / 10) ∧ (k ≠ 3 → Sh (survF k m (x0F k m j)) j) ∧ (k = 3 → fv .f32 (x0F k m j) = ((16 - j : Nat) : Rat) / 16) ∧
    ∀ c t, FopV .mul .f32 c (x0F k m j) t → TimeV (k : Int) (yF m) c (shF j) t := by
  obtain ⟨n0, f0, nl, x1, x2, sh⟩ := lF_v j1 hj
  obtain ⟨-, ns, vs, fd, nd, vd⟩ := shF_v (show j < 16 by omega)
  obtain ⟨fz, nz, z0, z1, z6⟩ := zF_v h2 hm
  obtain ⟨fo, no, ol, ou⟩ := oF_v j1 hj
  have jr : (1 : Rat) ≤ (j : Rat) := by exact_mod_cast j1
  have jr2 : (j : Rat) ≤ 15 := by exact_mod_cast hj
  have e16 : ((16 - j : Nat) : Rat) = 16 - (j : Rat) := by
    have : ((16 - j + j : Nat) : Rat) = 16 := by rw [Nat.sub_add_cancel (by omega)]; rfl
    rw [Rat.natCast_add] at this; grind
  have hk4 : k = 0 ∨ k = 1 ∨ k = 2 ∨ k = 3 := by omega
  rcases hk4 with rfl | rfl | rfl | rfl
  · have e : x0F 0 m j = lF j := rfl
    have l11 : fv .f32 (lF j) ≤ 114 / 10 := by
      obtain ⟨l, L, nl'⟩ := log_of ns (by rw [vs]; grind) (by rw [vs]; grind)
      obtain ⟨a1, a2⟩ := L.in
      obtain ⟨zz1, zz2⟩ := zeroF_val
      have h100 := tw100
      obtain ⟨w1, w2, w3, w4⟩ := u32j
      obtain ⟨n0, nl1, nu1⟩ := nl'
      obtain ⟨⟨mm, p, q⟩, -⟩ := (wr_sub zz1 n0).nr (A := 11) (by rw [zz2]; grind) (by rw [zz2]; grind) (by grind)
      rw [zz2] at p q
      have p' : fv .f32 (lF j) ≤ 0 - fv .f32 (logF (shF j)) + (uu .f32 * 11 + eta .f32) := p
      grind
    rw [e]
    exact ⟨nl, x1, by grind, fun _ => l11, fun _ => sh, fun h => by omega, fun c t ht => ⟨_, _, _, rfl, n0, f0, ht, .inl ⟨rfl, rfl⟩⟩⟩
  · have t1 := rB_at 15 (t1_any h2 hm) j j1 hj
    have t1' : (xB (x1F m j) && shB (s1F (yF m) (x1F m j)) j) = true := t1
    rw [Bool.and_eq_true] at t1'
    obtain ⟨n, a1, a2⟩ := xB_v t1'.1
    obtain ⟨l, L, nl'⟩ := log_of nl (by grind) (by grind)
    obtain ⟨i1, -⟩ := L.in
    have i2 := ln_16 L (by grind) (by grind)
    obtain ⟨hz, h6⟩ := zpow_top h2 hm nl' i1 i2
    obtain ⟨pv, -, -, -⟩ := pow_v nz (by grind) (by grind) nl (by grind) nl' i1 (by grind) hz
    have e : x0F 1 m j = powF (zF m) (lF j) := rfl
    have e1 : x1F m j = powF (zF m) (lF j) := rfl
    rw [e1] at n a1 a2
    rw [e]
    exact ⟨n, a1, a2, fun h => by have := h6 (by omega); grind, fun _ => shB_v t1'.2, fun h => by omega, fun c t ht => ⟨_, _, _, rfl, n0, f0, ht, .inr (.inl ⟨rfl, _, nl, fz, pv⟩)⟩⟩
  · have t1 := rB_at 15 (t2_any h2 hm) j j1 hj
    have t1' : (xB (x2F m j) && shB (s2F (yF m) (x2F m j)) j) = true := t1
    rw [Bool.and_eq_true] at t1'
    obtain ⟨n, a1, a2⟩ := xB_v t1'.1
    obtain ⟨l, L, nl'⟩ := log_of no (by grind) (by grind)
    obtain ⟨i1, -⟩ := L.in
    have i2 := ln_16 L (by grind) (by grind)
    obtain ⟨hz, h6⟩ := zpow_top h2 hm nl' i1 i2
    obtain ⟨pv, -, -, -⟩ := pow_v nz (by grind) (by grind) no (by grind) nl' i1 (by grind) hz
    have e : x0F 2 m j = powF (zF m) (oF j) := rfl
    have e1 : x2F m j = powF (zF m) (oF j) := rfl
    rw [e1] at n a1 a2
    rw [e]
    exact ⟨n, a1, a2, fun h => by have := h6 (by omega); grind, fun _ => shB_v t1'.2, fun h => by omega, fun c t ht => ⟨_, _, _, rfl, n0, f0, ht, .inr (.inr (.inl ⟨rfl, _, _, _, fd, fo, no, fz, pv⟩))⟩⟩
  · have e : x0F 3 m j = fop .sub .f32 1065353216 (shF j) := rfl
    rw [e]
    rw [e16] at vd
    exact ⟨nd, by rw [vd]; grind, by rw [vd]; grind, fun _ => by rw [vd]; grind, fun h => absurd rfl h, fun _ => by rw [e16]; exact vd, fun c t ht => ⟨_, _, _, rfl, n0, f0, ht, .inr (.inr (.inr ⟨rfl, fd⟩))⟩⟩
/-- The scale times it, by the scale. -/
theorem x1_v {x b : Nat} (n : Num .f32 x) (x0 : 1 / 10000 ≤ fv .f32 x) (x1 : fv .f32 x ≤ 250) (b1 : 1 ≤ b) (hb : b < 33) :
    FopV .mul .f32 (cF b) x (fop .mul .f32 (cF b) x) ∧ Num .f32 (fop .mul .f32 (cF b) x) ∧ 0 ≤ fv .f32 (fop .mul .f32 (cF b) x) ∧ FopV .quo .f32 (fop .mul .f32 (cF b) x) (cF b) (fop .quo .f32 (fop .mul .f32 (cF b) x) (cF b)) ∧ Num .f32 (fop .quo .f32 (fop .mul .f32 (cF b) x) (cF b)) ∧
    fv .f32 (fop .quo .f32 (fop .mul .f32 (cF b) x) (cF b)) ≤ fv .f32 x * (1 + 1 / 5000000) ∧ fv .f32 x ≤ fv .f32 (fop .quo .f32 (fop .mul .f32 (cF b) x) (cF b)) * (1 + 1 / 5000000) := by
  obtain ⟨-, nc, vc⟩ := cF_v hb
  have b0 : (1 : Rat) ≤ (b : Rat) := by exact_mod_cast b1
  have b2 : (b : Rat) ≤ 32 := by exact_mod_cast (show b ≤ 32 by omega)
  have h100 := tw100
  obtain ⟨w1, w2, w3, w4⟩ := u32j
  have c1 : 1 / 2 ≤ fv .f32 (cF b) := by rw [vc]; grind
  have c2 : fv .f32 (cF b) ≤ 16 := by rw [vc]; grind
  clear vc b0 b2
  generalize cF b = c at *
  have p0 := Rat.mul_le_mul_of_nonneg_right c1 (show 0 ≤ fv .f32 x by grind)
  have p1 := Rat.mul_le_mul_of_nonneg_right c2 (show 0 ≤ fv .f32 x by grind)
  obtain ⟨⟨m, l, u⟩, -⟩ := (wr_mul nc n).nr (A := fv .f32 c * fv .f32 x) Rat.le_refl (by grind) (by grind)
  rw [uu32] at l u
  obtain ⟨X, hX⟩ : ∃ X : Rat, X * fv .f32 c = fv .f32 (fop .mul .f32 c x) := ⟨fv .f32 (fop .mul .f32 c x) * (fv .f32 c)⁻¹, by rw [Rat.mul_assoc, Rat.inv_mul_cancel _ (by grind)]; grind⟩
  -- X is x, nearly
  have hc : 0 < fv .f32 c := by grind
  have e1 : X ≤ fv .f32 x * (1 + 1 / 16700000) := by
    by_cases h : X ≤ fv .f32 x * (1 + 1 / 16700000)
    · exact h
    · have := Rat.mul_pos (show 0 < X - fv .f32 x * (1 + 1 / 16700000) by grind) hc
      have k : (X - fv .f32 x * (1 + 1 / 16700000)) * fv .f32 c = X * fv .f32 c - fv .f32 c * fv .f32 x * (1 + 1 / 16700000) := by grind
      rw [k, hX] at this
      generalize fv .f32 c * fv .f32 x = Y at *
      grind
  have e2 : fv .f32 x ≤ X + fv .f32 x / 16700000 := by
    by_cases h : fv .f32 x ≤ X + fv .f32 x / 16700000
    · exact h
    · have := Rat.mul_pos (show 0 < fv .f32 x - (X + fv .f32 x / 16700000) by grind) hc
      have k : (fv .f32 x - (X + fv .f32 x / 16700000)) * fv .f32 c = fv .f32 c * fv .f32 x - X * fv .f32 c - fv .f32 c * fv .f32 x / 16700000 := by grind
      rw [k, hX] at this
      generalize fv .f32 c * fv .f32 x = Y at *
      grind
  obtain ⟨n2, l2, u2⟩ := quo_rel (X := X) m nc rfl rfl (by grind) hX (by grind) (by grind)
  refine ⟨fopV_of rfl nc n m, m, by grind, fopV_of rfl m nc n2, n2, by grind, by grind⟩
end Go.Proofs.Ytmcnfapdghoenaa
/- The survivors at the time of a share are that share, nearly. Plain. Conditions: in the theorem. -/
namespace Go.Proofs.Ytmcnfapdghoenaa
open Go Go.RowKit

attribute [local irreducible] tw EX expX logF EN fL nodeL LO
theorem s1_near2 {y x : Nat} {l : Rat} (ny : Num .f32 y) (y1 : 0 ≤ fv .f32 y) (y2 : fv .f32 y ≤ 3) (nl : Nr .f32 (logF x) l (1 / 1000000)) (l1 : -10 ≤ l) (l2 : l ≤ 6) (hz : fv .f32 y * l ≤ 79 / 10) (hp : EX (fv .f32 y * l) ≤ 4) :
    Nr .f32 (s1F y x) (EN (EX (fv .f32 y * l))) (1 / 14000) := by
  obtain ⟨⟨zn, zl, zu⟩, z30⟩ := z_near ny (by grind) y2 nl l1 l2
  obtain ⟨-, ps, -, -, -, -⟩ := pow_z zn (by grind) (by grind)
  obtain ⟨pn, pl, pu, p0, p3⟩ := pow_near ny (by grind) y2 nl l1 l2 hz
  generalize EX (fv .f32 y * l) = p at *
  obtain ⟨vn, v0, vl, vu⟩ := neg_near (p := 0) (A := fv .f32 (powF y x)) pn ps Rat.le_refl (by grind)
  have e := expX_near vn v0
  unfold s1F
  generalize fv .f32 (fop .sub .f32 0 (powF y x)) = w at *
  generalize fv .f32 (powF y x) = P at *
  obtain ⟨en, el, eu⟩ := e
  by_cases hc : -w ≤ p
  · obtain ⟨a, b⟩ := EN_fall (a := -w) (b := p) (by grind) hc
    exact ⟨en, by grind, by grind⟩
  · obtain ⟨a, b⟩ := EN_fall (a := p) (b := -w) p0 (by grind)
    exact ⟨en, by grind, by grind⟩
theorem EN_3 : EN 3 ≤ 1 / 20 := by
  have e : EN 3 = EX (-3) := by unfold EN; rw [if_pos (by decide +kernel)]
  rw [e]; exact EX_m3
/-- Two steps. -/
theorem sens1b {z z' : Rat} (h : z ≤ z' + 31 / 10000000) (z1 : -150 ≤ z) (z2 : z ≤ 79 / 10) (y1 : -150 ≤ z') (y2 : z' ≤ 79 / 10) : EN (EX z') ≤ EN (EX z) + 1 / 5000 := by
  have a := sens1 (z := z' + 1 / 600000) (z' := z') (d := 1 / 600000) (by grind) (by decide +kernel) (by decide +kernel) (by grind) (by grind) (by grind) (by grind)
  have b := sens1 (z := z) (z' := z' + 1 / 600000) (d := 1 / 600000) (by grind) (by decide +kernel) (by decide +kernel) (by grind) (by grind) (by grind) (by grind)
  grind
theorem sens2b {z z' : Rat} (h : z ≤ z' + 31 / 10000000) (z1 : -150 ≤ z) (z2 : z ≤ 79 / 10) (y1 : -150 ≤ z') (y2 : z' ≤ 79 / 10) : (1 + EX z')⁻¹ ≤ (1 + EX z)⁻¹ + 1 / 5000 := by
  have a := sens2 (z := z' + 1 / 600000) (z' := z') (d := 1 / 600000) (by grind) (by decide +kernel) (by decide +kernel) (by grind) (by grind) (by grind) (by grind)
  have b := sens2 (z := z) (z' := z' + 1 / 600000) (d := 1 / 600000) (by grind) (by decide +kernel) (by decide +kernel) (by grind) (by grind) (by grind) (by grind)
  grind
/-- The logarithm of what is not above 250, and lower for great shapes. -/
theorem xt_x {k m x : Nat} (hm : m ≤ 12) (n : Num .f32 x) (hb : x < 4294967296) (x0 : 1 / 16384 ≤ fv .f32 x) (x1 : fv .f32 x ≤ 251) (h6 : 6 ≤ m ∨ k = 0 ∨ k = 3 → fv .f32 x ≤ 23 / 2) : ∃ l, Xt x m l ∧ LnOf (fv .f32 x) l := by
  obtain ⟨l, L, nl⟩ := log_of n x0 (by grind)
  obtain ⟨i1, i2⟩ := L.in
  refine ⟨l, ⟨n, hb, by grind, by grind, nl, i1, i2, ?_⟩, L⟩
  have m0 : (0 : Rat) ≤ (m : Rat) := Rat.natCast_nonneg
  have m1 : (m : Rat) ≤ 12 := by exact_mod_cast hm
  by_cases h : 6 ≤ m ∨ k = 0 ∨ k = 3
  · have l2 := ln_top L (by grind) (h6 h)
    have := jmul_le l2 (show 0 ≤ (m : Rat) / 4 by grind)
    grind
  · have m5 : (m : Rat) ≤ 5 := by exact_mod_cast (show m ≤ 5 by omega)
    have := jmul_le i2 (show 0 ≤ (m : Rat) / 4 by grind)
    grind
theorem back_v {k m b j : Nat} (hk : k < 4) (h2 : 2 ≤ m) (hm : m ≤ 12) (b1 : 1 ≤ b) (hb : b < 33) (j1 : 1 ≤ j) (hj : j ≤ 15) :
    ∃ t s, TimeV (k : Int) (yF m) (cF b) (shF j) t ∧ Num .f32 t ∧ t < 4294967296 ∧ 0 ≤ fv .f32 t ∧ SurvV (k : Int) (yF m) (cF b) t s ∧ Num .f32 s ∧ fv .f32 s ≤ (j : Rat) / 16 + 9 / 10000 ∧ (j : Rat) / 16 ≤ fv .f32 s + 9 / 10000 := by
  obtain ⟨n, x0, x1, x6, hs, h3, hT⟩ := x0_v hk h2 hm j1 hj
  obtain ⟨f1, nt, t0, f2, n', u1, u2⟩ := x1_v n x0 x1 b1 hb
  have hxb : x0F k m j < 4294967296 ∨ True := .inr trivial
  obtain ⟨y1, y2⟩ := (shp_of h2 hm).in
  obtain ⟨ny, ey, -, -⟩ := shp_of h2 hm
  obtain ⟨l', X', L'⟩ := xt_x (k := k) hm n' f2.2 (by grind) (by grind) (fun h => by have := x6 h; grind)
  obtain ⟨sv, sn, s0, -⟩ := surv_v hk h2 hm f2 X'
  refine ⟨_, _, hT _ _ f1, nt, f1.2, t0, sv, sn, ?_⟩
  have jr : (1 : Rat) ≤ (j : Rat) := by exact_mod_cast j1
  have jr2 : (j : Rat) ≤ 15 := by exact_mod_cast hj
  generalize fop .quo .f32 (fop .mul .f32 (cF b) (x0F k m j)) (cF b) = x' at *
  clear hT f1 nt t0 f2 sv hxb
  have hk4 : k = 0 ∨ k = 1 ∨ k = 2 ∨ k = 3 := by omega
  by_cases k3 : k = 3
  · subst k3
    obtain ⟨⟨-, l, u⟩, -⟩ := s3_near n' (by grind)
    have e16 : ((16 - j : Nat) : Rat) = 16 - (j : Rat) := by
      have : ((16 - j + j : Nat) : Rat) = 16 := by rw [Nat.sub_add_cancel (by omega)]; rfl
      rw [Rat.natCast_add] at this; grind
    have e := h3 rfl
    rw [e16] at e
    have hS : S3 (fv .f32 x') = 1 - fv .f32 x' := by unfold S3; rw [if_pos (by grind)]
    rw [hS] at l u
    show fv .f32 (s3F x') ≤ _ ∧ _ ≤ fv .f32 (s3F x') + _
    constructor <;> grind
  · obtain ⟨-, q1, q2⟩ := hs k3
    -- the logarithms lie near
    obtain ⟨l, L, nl⟩ := log_of n (by grind) (by grind)
    obtain ⟨i1, i2⟩ := L.in
    have d1 := L'.le L (by grind) (by grind) (d := 1 / 5000000) (by decide +kernel) (by decide +kernel) u1
    have d2 := L.le L' (by grind) (by grind) (d := 1 / 5000000) (by decide +kernel) (by decide +kernel) u2
    have m0 : (0 : Rat) ≤ (m : Rat) := Rat.natCast_nonneg
    have m1 : (m : Rat) ≤ 12 := by exact_mod_cast hm
    have c1 := jmul_le d1 (show 0 ≤ (m : Rat) / 4 by grind)
    have c2 := jmul_le d2 (show 0 ≤ (m : Rat) / 4 by grind)
    have hz' := X'.hz
    have hz : (m : Rat) / 4 * l ≤ 79 / 10 := by
      by_cases h : 6 ≤ m ∨ k = 0 ∨ k = 3
      · have l2 := ln_top L (by grind) (by have := x6 h; grind)
        have := jmul_le l2 (show 0 ≤ (m : Rat) / 4 by grind)
        grind
      · have m5 : (m : Rat) ≤ 5 := by exact_mod_cast (show m ≤ 5 by omega)
        have := jmul_le i2 (show 0 ≤ (m : Rat) / 4 by grind)
        grind
    have lo := jmul_le i1 (show 0 ≤ (m : Rat) / 4 by grind)
    have lo' := jmul_le X'.l1 (show 0 ≤ (m : Rat) / 4 by grind)
    rcases hk4 with rfl | rfl | rfl | rfl
    · have x11 := x6 (.inr (.inl rfl))
      obtain ⟨-, a1, a2⟩ := s0_near n (by grind) (by grind)
      obtain ⟨-, b1, b2⟩ := s0_near n' (by grind) (by grind)
      have q1' : fv .f32 (s0F (x0F 0 m j)) ≤ (j : Rat) / 16 + 1 / 5000 := q1
      have q2' : (j : Rat) / 16 ≤ fv .f32 (s0F (x0F 0 m j)) + 1 / 5000 := q2
      show fv .f32 (s0F x') ≤ _ ∧ _ ≤ fv .f32 (s0F x') + _
      by_cases hc : fv .f32 (x0F 0 m j) ≤ fv .f32 x'
      · obtain ⟨p, q⟩ := EN_fall (a := fv .f32 (x0F 0 m j)) (b := fv .f32 x') (by grind) hc
        constructor <;> grind
      · obtain ⟨p, q⟩ := EN_fall (a := fv .f32 x') (b := fv .f32 (x0F 0 m j)) (by grind) (by grind)
        constructor <;> grind
    · have q1' : fv .f32 (s1F (yF m) (x0F 1 m j)) ≤ (j : Rat) / 16 + 1 / 5000 := q1
      have q2' : (j : Rat) / 16 ≤ fv .f32 (s1F (yF m) (x0F 1 m j)) + 1 / 5000 := q2
      show fv .f32 (s1F (yF m) x') ≤ _ ∧ _ ≤ fv .f32 (s1F (yF m) x') + _
      obtain ⟨⟨-, r1, r2⟩, p0⟩ := s1_near ny (by grind) y2 nl i1 i2 (by rw [ey]; exact hz)
      rw [ey] at r1 r2 p0
      have e3 := EN_3
      have hp : EX ((m : Rat) / 4 * l) ≤ 3 := by
        by_cases hc : EX ((m : Rat) / 4 * l) ≤ 3
        · exact hc
        · have := (EN_fall (a := 3) (b := EX ((m : Rat) / 4 * l)) (by decide +kernel) (by grind)).1
          grind
      have hp' : EX ((m : Rat) / 4 * l') ≤ 4 := by
        have := (EX_close (x := (m : Rat) / 4 * l') (y := (m : Rat) / 4 * l) (d := 31 / 10000000) (by grind) (by grind) (by grind) (by grind) (by grind) (by grind) (by decide +kernel)).1
        grind
      obtain ⟨-, r1, r2⟩ := s1_near2 ny (by grind) y2 nl i1 i2 (by rw [ey]; exact hz) (by rw [ey]; grind)
      obtain ⟨-, g1, g2⟩ := s1_near2 ny (by grind) y2 X'.nl X'.l1 X'.l2 (by rw [ey]; exact hz') (by rw [ey]; exact hp')
      rw [ey] at r1 r2 g1 g2
      have v1 := sens1b (z := (m : Rat) / 4 * l) (z' := (m : Rat) / 4 * l') (by grind) (by grind) hz (by grind) hz'
      have v2 := sens1b (z := (m : Rat) / 4 * l') (z' := (m : Rat) / 4 * l) (by grind) (by grind) hz' (by grind) hz
      constructor <;> grind
    · have q1' : fv .f32 (s2F (yF m) (x0F 2 m j)) ≤ (j : Rat) / 16 + 1 / 5000 := q1
      have q2' : (j : Rat) / 16 ≤ fv .f32 (s2F (yF m) (x0F 2 m j)) + 1 / 5000 := q2
      show fv .f32 (s2F (yF m) x') ≤ _ ∧ _ ≤ fv .f32 (s2F (yF m) x') + _
      obtain ⟨⟨-, r1, r2⟩, -, p0⟩ := s2_near ny (by grind) y2 nl i1 i2 (by rw [ey]; exact hz)
      obtain ⟨⟨-, g1, g2⟩, -, -⟩ := s2_near ny (by grind) y2 X'.nl X'.l1 X'.l2 (by rw [ey]; exact hz')
      rw [ey] at r1 r2 g1 g2
      have v1 := sens2b (z := (m : Rat) / 4 * l) (z' := (m : Rat) / 4 * l') (by grind) (by grind) hz (by grind) hz'
      have v2 := sens2b (z := (m : Rat) / 4 * l') (z' := (m : Rat) / 4 * l) (by grind) (by grind) hz' (by grind) hz
      constructor <;> grind
    · exact absurd rfl k3
end Go.Proofs.Ytmcnfapdghoenaa
