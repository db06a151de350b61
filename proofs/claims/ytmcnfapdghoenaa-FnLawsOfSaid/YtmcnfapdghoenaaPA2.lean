
/- Quotients of times and scales; survivors as the program tells them. Plain. Conditions: in the theorems. -/
import Derived.Test.YtmcnfapdghoenaaP1
import Derived.Test.YtmcnfapdghoenaaO8
import Derived.Test.YtmcnfapdghoenaaJj
namespace Go.Proofs.Ytmcnfapdghoenaa
open Go Go.RowKit

attribute [local irreducible] tw EX expX logF EN fL nodeL LO
/-- A quotient, by its size. -/
theorem quo_rel {p q : Nat} {P Q X : Rat} (np : Num .f32 p) (nq : Num .f32 q) (hp : fv .f32 p = P) (hq : fv .f32 q = Q) (q1 : 1 / 1000 ≤ Q) (hX : X * Q = P) (x1 : 1 / 100000 ≤ X) (x2 : X ≤ 100000) :
    Num .f32 (fop .quo .f32 p q) ∧ fv .f32 (fop .quo .f32 p q) ≤ X + X / 8000000 ∧ X ≤ fv .f32 (fop .quo .f32 p q) + X / 8000000 := by
  obtain ⟨V, hW, hs, hV⟩ := wr_div np nq (by rw [hq]; grind)
  have e : fv .f32 p / fv .f32 q = X := by
    rw [hp, hq, ← hX, Rat.div_def, Rat.mul_assoc, Rat.mul_inv_cancel _ (by grind)]; grind
  rw [e] at hs hV
  obtain ⟨v1, v2⟩ := hV X Rat.le_refl (by grind)
  have h100 := tw100
  obtain ⟨w1, w2, w3, w4⟩ := u32j
  rw [uu32] at v1 v2
  obtain ⟨⟨m, l, u⟩, -⟩ := hW.nr (A := X + 1 / 16777216 * X) (by grind) (by grind) (by grind)
  rw [uu32] at l u
  exact ⟨m, by grind, by grind⟩
/-- The quotient of a step's time and a scale. -/
theorem xn_of {q i b : Nat} (q1 : 1 ≤ q) (hq : q < 47) (hi : i < 32) (b1 : 1 ≤ b) (hb : b < 33) : Xn (fop .quo .f32 (TF q i) (cF b)) ((2 * i + 1) * q) b ∧ FopV .quo .f32 (TF q i) (cF b) (fop .quo .f32 (TF q i) (cF b)) := by
  obtain ⟨-, n1, v1⟩ := TF_v hq hi
  obtain ⟨-, n2, v2⟩ := cF_v hb
  have n0 : 1 ≤ (2 * i + 1) * q := Nat.mul_le_mul (show 1 ≤ 2 * i + 1 by omega) q1
  have n9 : (2 * i + 1) * q ≤ 2898 := Nat.mul_le_mul (show 2 * i + 1 ≤ 63 by omega) (show q ≤ 46 by omega)
  generalize (2 * i + 1) * q = n at *
  have b0 : (1 : Rat) ≤ (b : Rat) := by exact_mod_cast b1
  have b2 : (b : Rat) ≤ 32 := by exact_mod_cast (show b ≤ 32 by omega)
  have nR : (1 : Rat) ≤ (n : Rat) := by exact_mod_cast n0
  have nR2 : (n : Rat) ≤ 2898 := by exact_mod_cast n9
  obtain ⟨X, hX⟩ : ∃ X : Rat, X * (256 * (b : Rat)) = (n : Rat) := ⟨(n : Rat) * (256 * (b : Rat))⁻¹, by rw [Rat.mul_assoc, Rat.inv_mul_cancel _ (by grind)]; grind⟩
  have xlo := Xn.low (x := 0) b1 (show b ≤ 32 * n by omega) hX
  have xhi : X ≤ 2898 := by
    have := jmul_le b0 (show 0 ≤ X by grind)
    grind
  obtain ⟨nx, l, u⟩ := quo_rel (X := X) n1 n2 v1 v2 (by grind) (by grind) (by grind) (by grind)
  exact ⟨⟨nx, b1, by omega, n9, X, hX, l, u⟩, fopV_of rfl n1 n2 nx⟩
/-- What is from 0 to 1 is written so. -/
theorem wr_01 {b : Nat} {V : Rat} (h : Wr .f32 b V) (h0 : 0 ≤ V) (h1 : V ≤ 1) : fv .f32 b ≤ 1 := by
  obtain ⟨s, m, p, rfl, hv⟩ := h
  rw [dv_num] at hv
  have tp := tw_pos p
  have m0 : (0 : Rat) ≤ (m : Rat) := Rat.natCast_nonneg
  have hm : m = 0 ∨ s = false := by
    cases s
    · exact .inr rfl
    · left
      by_cases hm : m = 0
      · exact hm
      · have h2 : (1 : Rat) ≤ (m : Rat) := by exact_mod_cast (show 1 ≤ m by omega)
        have := Rat.mul_le_mul_of_nonneg_right h2 (Rat.le_of_lt tp)
        simp only [if_true] at hv
        grind
  have hl : LeP m p 0 := by
    refine leP_c ?_
    rw [tw_zero]
    rcases hm with rfl | rfl
    · have : ((0 : Nat) : Rat) = 0 := rfl
      rw [this, Rat.zero_mul]; decide +kernel
    · simp only [Bool.false_eq_true, if_false] at hv
      grind
  exact (bp_write hl hm (inF32 (by decide) (by decide))).val.2.2
/-- What a time by scale meets. -/
structure Xt (x m : Nat) (l : Rat) : Prop where
  n : Num .f32 x
  lt : x < 4294967296
  x0 : 1 / 100000 ≤ fv .f32 x
  x1 : fv .f32 x ≤ 256
  nl : Nr .f32 (logF x) l (1 / 1000000)
  l1 : -10 ≤ l
  l2 : l ≤ 6
  hz : (m : Rat) / 4 * l ≤ 79 / 10
def survF (k m x : Nat) : Nat := match k with
  | 0 => s0F x
  | 1 => s1F (yF m) x
  | 2 => s2F (yF m) x
  | _ => s3F x
theorem shp_of {m : Nat} (h2 : 2 ≤ m) (hm : m ≤ 12) : Shp (yF m) m := ⟨(yF_v (by omega)).2.1, (yF_v (by omega)).2.2, h2, hm⟩
/-- Powers. -/
theorem pow_v {z x : Nat} {l : Rat} (nz : Num .f32 z) (z1 : -3 ≤ fv .f32 z) (z2 : fv .f32 z ≤ 3) (n : Num .f32 x) (x0 : 0 < fv .f32 x) (nl : Nr .f32 (logF x) l (1 / 1000000)) (l1 : -10 ≤ l) (l2 : l ≤ 6) (hz : fv .f32 z * l ≤ 79 / 10) :
    PowV z x (powF z x) ∧ Num .f32 (powF z x) ∧ 0 ≤ fv .f32 (powF z x) ∧ fv .f32 (powF z x) ≤ 3400 := by
  obtain ⟨⟨zn, zl, zu⟩, z30⟩ := z_near nz z1 z2 nl l1 l2
  obtain ⟨pn, ps, pl, pu, p0, p3⟩ := pow_z zn (by grind) (by grind)
  obtain ⟨y1, y2⟩ := zeroF_val
  obtain ⟨d1, d2⟩ := c200_val
  refine ⟨.inr ⟨by rw [fcmp_cn, eql_val n y1, y2]; exact decide_eq_false (by grind), logF x, _, rfl, nl.1, fopV_of rfl nz nl.1 zn, zn, by grind, ?_⟩, pn, ps, by grind⟩
  unfold powF
  have : ¬ fv .f32 (fop .mul .f32 z (logF x)) < -200 := by grind
  generalize fop .mul .f32 z (logF x) = v at *
  unfold expX
  rw [lss_val zn d1, d2, decide_eq_false this, if_neg Bool.false_ne_true]
theorem surv_v {k m c t x : Nat} {l : Rat} (hk : k < 4) (h2 : 2 ≤ m) (hm : m ≤ 12) (hx : FopV .quo .f32 t c x) (h : Xt x m l) :
    SurvV (k : Int) (yF m) c t (survF k m x) ∧ Num .f32 (survF k m x) ∧ 0 ≤ fv .f32 (survF k m x) ∧ (k ≠ 2 → fv .f32 (survF k m x) ≤ 1) := by
  obtain ⟨y1, y2⟩ := (shp_of h2 hm).in
  obtain ⟨ny, ey, -, -⟩ := shp_of h2 hm
  obtain ⟨o1, o2⟩ := oneB_val
  obtain ⟨z1, z2⟩ := zeroF_val
  have hx0 : 0 < fv .f32 x := by have := h.x0; grind
  obtain ⟨pv, pn, p0, p1⟩ := pow_v ny (by grind) y2 h.n hx0 h.nl h.l1 h.l2 (by rw [ey]; exact h.hz)
  have h100 := tw100
  have hk4 : k = 0 ∨ k = 1 ∨ k = 2 ∨ k = 3 := by omega
  rcases hk4 with rfl | rfl | rfl | rfl
  · obtain ⟨vn, v0, -, -⟩ := neg_near (p := 0) (A := 256) h.n (by grind) h.x1 (by decide +kernel)
    obtain ⟨a, b, c⟩ := expX_01 vn v0
    exact ⟨⟨x, hx, h.n, .inl ⟨rfl, _, fopV_of rfl z1 h.n vn, vn, by grind, rfl⟩⟩, a, b, fun _ => c⟩
  · obtain ⟨vn, v0, -, -⟩ := neg_near (p := 0) (A := 3400) pn p0 p1 (by decide +kernel)
    obtain ⟨a, b, c⟩ := expX_01 vn v0
    exact ⟨⟨x, hx, h.n, .inr (.inl ⟨rfl, _, _, pv, fopV_of rfl z1 pn vn, vn, by grind, rfl⟩)⟩, a, b, fun _ => c⟩
  · obtain ⟨⟨sn, -, -⟩, s0, -⟩ := s2_near ny (by grind) y2 h.nl h.l1 h.l2 (by rw [ey]; exact h.hz)
    obtain ⟨⟨qn, -, -⟩, -⟩ := (wr_add o1 pn).nr (A := 4000) (by rw [o2]; grind) (by rw [o2]; grind) (by grind)
    exact ⟨⟨x, hx, h.n, .inr (.inr (.inl ⟨rfl, _, _, pv, fopV_of rfl o1 pn qn, fopV_of rfl o1 qn sn⟩))⟩, sn, s0, fun e => absurd rfl e⟩
  · obtain ⟨⟨sn, sl, -⟩, s0⟩ := s3_near h.n (by grind)
    have g : fcmp .gtr .f32 (cn .f32 x) (cn .f32 1065353216) = decide (1 < fv .f32 x) := by rw [fcmp_cn]; have := gtrF_val h.n o1; rw [o2] at this; exact this
    by_cases hc : 1 < fv .f32 x
    · have e : survF 3 m x = 0 := by
        show s3F x = 0
        unfold s3F; rw [gtrF_val h.n o1, o2, decide_eq_true hc, if_pos rfl]
      rw [e]
      exact ⟨⟨x, hx, h.n, .inr (.inr (.inr ⟨rfl, .inl ⟨by rw [g]; exact decide_eq_true hc, rfl⟩⟩))⟩, z1, by rw [z2]; grind, fun _ => by rw [z2]; decide +kernel⟩
    · have e : survF 3 m x = fop .sub .f32 oneB x := by
        show s3F x = _
        unfold s3F; rw [gtrF_val h.n o1, o2, decide_eq_false hc, if_neg Bool.false_ne_true]
      have e3 : s3F x = fop .sub .f32 oneB x := e
      rw [e3] at sn s0 sl
      rw [e]
      refine ⟨⟨x, hx, h.n, .inr (.inr (.inr ⟨rfl, .inr ⟨by rw [g]; exact decide_eq_false hc, fopV_of rfl o1 h.n sn⟩⟩))⟩, sn, s0, fun _ => ?_⟩
      exact wr_01 (wr_sub o1 h.n) (by rw [o2]; grind) (by rw [o2]; grind)
/-! ### A time of the law by its scale -/
/-- x is a/(4 b), nearly. -/
def Xa (x a b : Nat) : Prop := Num .f32 x ∧ x < 4294967296 ∧ 1 ≤ a ∧ a ≤ 46 ∧ 1 ≤ b ∧ b ≤ 32 ∧ ∃ X : Rat, X * (4 * (b : Rat)) = (a : Rat) ∧ fv .f32 x ≤ X + X / 8000000 ∧ X ≤ fv .f32 x + X / 8000000 ∧ 1 / 128 ≤ X ∧ X ≤ 23 / 2
theorem xa_of {a b : Nat} (a1 : 1 ≤ a) (ha : a < 47) (b1 : 1 ≤ b) (hb : b < 33) : Xa (fop .quo .f32 (tF a) (cF b)) a b ∧ FopV .quo .f32 (tF a) (cF b) (fop .quo .f32 (tF a) (cF b)) := by
  obtain ⟨-, n1, v1⟩ := tF_v ha
  obtain ⟨-, n2, v2⟩ := cF_v hb
  have b0 : (1 : Rat) ≤ (b : Rat) := by exact_mod_cast b1
  have b2 : (b : Rat) ≤ 32 := by exact_mod_cast (show b ≤ 32 by omega)
  have nR : (1 : Rat) ≤ (a : Rat) := by exact_mod_cast a1
  have nR2 : (a : Rat) ≤ 46 := by exact_mod_cast (show a ≤ 46 by omega)
  obtain ⟨X, hX⟩ : ∃ X : Rat, X * (4 * (b : Rat)) = (a : Rat) := ⟨(a : Rat) * (4 * (b : Rat))⁻¹, by rw [Rat.mul_assoc, Rat.inv_mul_cancel _ (by grind)]; grind⟩
  have xlo : 1 / 128 ≤ X := by
    by_cases hc : 1 / 128 ≤ X
    · exact hc
    · have := Rat.mul_pos (show 0 < 1 / 128 - X by grind) (show 0 < (b : Rat) by grind)
      grind
  have xhi : X ≤ 23 / 2 := by
    have := jmul_le b0 (show 0 ≤ X by grind)
    grind
  obtain ⟨nx, l, u⟩ := quo_rel (X := X) n1 n2 v1 v2 (by grind) (by grind) (by grind) (by grind)
  have hf := fopV_of rfl n1 n2 nx
  exact ⟨⟨nx, hf.2, a1, by omega, b1, by omega, X, hX, l, u, xlo, xhi⟩, hf⟩
theorem vN_896 : vN 896 * 128 = 1 := by
  have h : vN 896 = ((128 : Nat) : Rat) * tw (-14) := by unfold vN; rfl
  have h2 : tw (-14) * 16384 = 1 := tw_neg 14
  have c : ((128 : Nat) : Rat) = 128 := rfl
  rw [h, c]; grind
section
attribute [local semireducible] nodeL LO
theorem nodeL_896 : -48521 / 10000 * TR ≤ (nodeL 896 : Rat) - (LO : Rat) - 40 := by decide +kernel
end
/-- Its logarithm. -/
theorem Xa.log {x a b : Nat} (h : Xa x a b) : ∃ l, LnOf (fv .f32 x) l ∧ Nr .f32 (logF x) l (1 / 1000000) ∧ -48522 / 10000 ≤ l ∧ l ≤ 49 / 20 ∧ 1 / 129 ≤ fv .f32 x ∧ fv .f32 x ≤ 12 := by
  obtain ⟨n, -, -, -, -, -, X, hX, e1, e2, xlo, xhi⟩ := h
  obtain ⟨l, L, nl⟩ := log_of n (by grind) (by grind)
  refine ⟨l, L, nl, ?_, ?_, by grind, by grind⟩
  · obtain ⟨r, hr, -, b⟩ := node_ln (j := 896) (by decide)
    have v8 := vN_896
    have nt := nodeL_896
    have hr2 : -48521 / 10000 ≤ r := by_TR (by grind)
    have := hr.le L (vN_pos _) (by grind) (d := 1 / 7000000) (by decide +kernel) (by decide +kernel) (by grind)
    grind
  · obtain ⟨r, hr, a, -⟩ := node_ln (j := 2232) (by decide)
    have v32 := vN_2232
    have nt := nodeL_top
    have hr2 : r ≤ 244236 / 100000 := by_TR (by grind)
    have := L.le hr (by grind) (by rw [v32]; decide +kernel) (d := 1 / 7000000) (by decide +kernel) (by decide +kernel) (by rw [v32]; grind)
    grind
theorem Xa.xt {x a b m : Nat} (h : Xa x a b) (hm : m ≤ 12) : ∃ l, Xt x m l ∧ LnOf (fv .f32 x) l ∧ -48522 / 10000 ≤ l ∧ l ≤ 49 / 20 := by
  obtain ⟨l, L, nl, l1, l2, x1, x2⟩ := h.log
  exact ⟨l, ⟨h.1, h.2.1, by grind, by grind, nl, by grind, by grind, (ml_in hm (by grind) l2).2⟩, L, l1, l2⟩
theorem EX_low : 476 / 1000000000 ≤ EX (-145569 / 10000) := by
  unfold EX; decide +kernel
/-- Survivors of kind 2 are not above 1. -/
theorem s2_one {x a b m : Nat} (h : Xa x a b) (h2 : 2 ≤ m) (hm : m ≤ 12) : fv .f32 (s2F (yF m) x) ≤ 1 := by
  obtain ⟨l, X, L, l1, l2⟩ := h.xt hm
  obtain ⟨y1, y2⟩ := (shp_of h2 hm).in
  obtain ⟨ny, ey, -, -⟩ := shp_of h2 hm
  obtain ⟨⟨zn, zl, zu⟩, z30⟩ := z_near ny (by grind) y2 X.nl X.l1 X.l2
  have hz := X.hz
  rw [← ey] at hz
  have hlow : -145567 / 10000 ≤ fv .f32 (yF m) * l := by
    have a1 := jmul_le l1 (show 0 ≤ fv .f32 (yF m) by grind)
    grind
  obtain ⟨pn, ps, pl, pu, p0, p3⟩ := pow_z zn (by grind) (by grind)
  have el := EX_low
  have em := (EX_mono (x := -145569 / 10000) (y := fv .f32 (fop .mul .f32 (yF m) (logF x))) (by decide +kernel) (by grind) (by grind)).2
  obtain ⟨⟨sn, sl, su⟩, s0, i0, i1⟩ := inv_near pn rfl ps (by grind)
  show fv .f32 (fop .quo .f32 oneB (fop .add .f32 oneB (powF (yF m) x))) ≤ 1
  generalize EX (fv .f32 (fop .mul .f32 (yF m) (logF x))) = E at *
  generalize fv .f32 (powF (yF m) x) = P at *
  have hP : 4 / 10000000 ≤ P := by grind
  have hi : (1 + P)⁻¹ * (1 + P) = 1 := Rat.inv_mul_cancel _ (by grind)
  by_cases hc : P ≤ 1 / 10
  · have hb : (1 + P)⁻¹ ≤ 1 - P + P * P := by
      have k := jmul_nn (jmul_nn (show 0 ≤ P by grind) (show 0 ≤ P by grind)) (show 0 ≤ P by grind)
      have k2 := jmul_le (show 1 ≤ (1 + P) * (1 - P + P * P) by grind) (Rat.le_of_lt i0)
      have k3 : (1 + P)⁻¹ * ((1 + P) * (1 - P + P * P)) = 1 - P + P * P := by rw [← Rat.mul_assoc, hi]; grind
      grind
    have k4 := jmul_le hc (show 0 ≤ P by grind)
    grind
  · have k := jmul_le (show 11 / 10 ≤ 1 + P by grind) (Rat.le_of_lt i0)
    grind
/-- All survivors at a time of the law. -/
theorem surv_a {k m a b : Nat} (hk : k < 4) (h2 : 2 ≤ m) (hm : m ≤ 12) (a1 : 1 ≤ a) (ha : a < 47) (b1 : 1 ≤ b) (hb : b < 33) :
    SurvV (k : Int) (yF m) (cF b) (tF a) (survF k m (fop .quo .f32 (tF a) (cF b))) ∧ Num .f32 (survF k m (fop .quo .f32 (tF a) (cF b))) ∧ 0 ≤ fv .f32 (survF k m (fop .quo .f32 (tF a) (cF b))) ∧ fv .f32 (survF k m (fop .quo .f32 (tF a) (cF b))) ≤ 1 := by
  obtain ⟨hx, hf⟩ := xa_of a1 ha b1 hb
  obtain ⟨l, X, -, -, -⟩ := hx.xt hm
  obtain ⟨r1, r2, r3, r4⟩ := surv_v hk h2 hm hf X
  refine ⟨r1, r2, r3, ?_⟩
  by_cases h : k = 2
  · subst h; exact s2_one hx h2 hm
  · exact r4 h
end Go.Proofs.Ytmcnfapdghoenaa
/- Survivors fall; hazards. Plain. Conditions: in the theorems. -/
namespace Go.Proofs.Ytmcnfapdghoenaa
open Go Go.RowKit

attribute [local irreducible] tw EX expX logF EN fL nodeL LO
theorem fall_a {k m a q b x x' : Nat} (hk : k < 4) (h2 : 2 ≤ m) (hm : m ≤ 12) (h : Xa x a b) (h' : Xa x' q b) (ha : a ≤ 30) (hq : a < q) :
    fv .f32 (survF k m x') ≤ fv .f32 (survF k m x) + 95 / 10000000 := by
  obtain ⟨l, X, L, i1, i2⟩ := h.xt hm
  obtain ⟨l', X', L', j1, j2⟩ := h'.xt hm
  obtain ⟨y1, y2⟩ := (shp_of h2 hm).in
  obtain ⟨ny, ey, -, -⟩ := shp_of h2 hm
  obtain ⟨nx, -, a1, -, b1, -, Z, hZ, e1, e2, z1, z2⟩ := h
  obtain ⟨nx', -, -, -, -, -, Z', hZ', e1', e2', z1', z2'⟩ := h'
  have b0 : (1 : Rat) ≤ (b : Rat) := by exact_mod_cast b1
  have aR : (a : Rat) ≤ 30 := by exact_mod_cast ha
  have qR : (a : Rat) + 1 ≤ (q : Rat) := by
    have : ((a + 1 : Nat) : Rat) ≤ (q : Rat) := by exact_mod_cast hq
    rw [Rat.natCast_add] at this; exact this
  have hr : Z * (31 / 30) ≤ Z' := by
    by_cases hc : Z * (31 / 30) ≤ Z'
    · exact hc
    · have := Rat.mul_pos (show 0 < Z * (31 / 30) - Z' by grind) (show 0 < 4 * (b : Rat) by grind)
      grind
  have hl := L.lt L' (by grind) (by grind) (by grind)
  have hz := X'.hz
  rw [← ey] at hz
  have hk4 : k = 0 ∨ k = 1 ∨ k = 2 ∨ k = 3 := by omega
  rcases hk4 with rfl | rfl | rfl | rfl
  · obtain ⟨-, l1, u1⟩ := s0_near nx (by grind) (by grind)
    obtain ⟨-, l2, u2⟩ := s0_near nx' (by grind) (by grind)
    have := (EN_fall (a := fv .f32 x) (b := fv .f32 x') (by grind) (by grind)).1
    show fv .f32 (s0F x') ≤ fv .f32 (s0F x) + _
    grind
  · have := s1_fall ny y1 y2 X.nl X.l1 X.l2 X'.nl X'.l1 X'.l2 hl hz
    show fv .f32 (s1F (yF m) x') ≤ fv .f32 (s1F (yF m) x) + _
    grind
  · have := s2_fall ny y1 y2 X.nl X.l1 X.l2 X'.nl X'.l1 X'.l2 hl hz
    show fv .f32 (s2F (yF m) x') ≤ fv .f32 (s2F (yF m) x) + _
    grind
  · obtain ⟨⟨-, l1, u1⟩, -⟩ := s3_near nx (by grind)
    obtain ⟨⟨-, l2, u2⟩, -⟩ := s3_near nx' (by grind)
    have : S3 (fv .f32 x') ≤ S3 (fv .f32 x) := by unfold S3; split <;> split <;> grind
    show fv .f32 (s3F x') ≤ fv .f32 (s3F x) + _
    grind
/-! ### Products and quotients of what is not below nothing -/
theorem quo_pos {p q : Nat} {A : Rat} (np : Num .f32 p) (nq : Num .f32 q) (p0 : 0 ≤ fv .f32 p) (p1 : fv .f32 p ≤ A) (q1 : 1 / 16 ≤ fv .f32 q) (a1 : 1 ≤ A) (a2 : A ≤ 1000000) :
    Num .f32 (fop .quo .f32 p q) ∧ 0 ≤ fv .f32 (fop .quo .f32 p q) ∧ fv .f32 (fop .quo .f32 p q) ≤ 17 * A := by
  obtain ⟨V, hW, hs, hV⟩ := wr_div np nq (by grind)
  obtain ⟨X, hX⟩ : ∃ X : Rat, X = fv .f32 p / fv .f32 q := ⟨_, rfl⟩
  have e : X * fv .f32 q = fv .f32 p := by rw [hX, Rat.div_mul_cancel (by grind)]
  rw [← hX] at hs hV
  have x0 : 0 ≤ X := by
    by_cases hc : 0 ≤ X
    · exact hc
    · have := Rat.mul_pos (show 0 < -X by grind) (show 0 < fv .f32 q by grind); grind
  have x1 : X ≤ 16 * A := by
    have := jmul_le q1 x0
    grind
  obtain ⟨v1, v2⟩ := hV (16 * A) x1 (by grind)
  have v0 := hs.1 x0
  have h100 := tw100
  obtain ⟨w1, w2, w3, w4⟩ := u32j
  have w5 := Rat.mul_le_mul_of_nonneg_right w1 (show 0 ≤ 16 * A by grind)
  have w6 := Rat.mul_le_mul_of_nonneg_right w1 (show 0 ≤ 33 / 2 * A by grind)
  obtain ⟨⟨m, l, u⟩, s1, -⟩ := hW.nr (A := 33 / 2 * A) (by grind) (by grind) (by grind)
  exact ⟨m, s1 v0, by grind⟩
theorem mul_pos {p q : Nat} {A B : Rat} (np : Num .f32 p) (nq : Num .f32 q) (p0 : 0 ≤ fv .f32 p) (p1 : fv .f32 p ≤ A) (q0 : 0 ≤ fv .f32 q) (q1 : fv .f32 q ≤ B) (hA : A * B ≤ 10000000) (hB : 0 ≤ B) :
    Num .f32 (fop .mul .f32 p q) ∧ 0 ≤ fv .f32 (fop .mul .f32 p q) ∧ fv .f32 (fop .mul .f32 p q) ≤ A * B + 1 := by
  have h0 := jmul_nn p0 q0
  have h1 := jmul_le q1 p0
  have h2 := Rat.mul_le_mul_of_nonneg_right p1 hB
  have h100 := tw100
  obtain ⟨w1, w2, w3, w4⟩ := u32j
  have w5 := Rat.mul_le_mul_of_nonneg_right w1 (show 0 ≤ A * B by grind)
  obtain ⟨⟨m, l, u⟩, s1, -⟩ := (wr_mul np nq).nr (A := A * B) (by grind) (by grind) (by grind)
  refine ⟨m, s1 h0, ?_⟩
  generalize A * B = C at *
  generalize fv .f32 p * fv .f32 q = D at *
  grind
/-- The hazard at a time of the law. -/
theorem haz_a {k m a b : Nat} (hk : k < 4) (h2 : 2 ≤ m) (hm : m ≤ 12) (a1 : 1 ≤ a) (ha : a < 47) (b1 : 1 ≤ b) (hb : b < 33) :
    ∃ o, HzO (k : Int) (yF m) (cF b) (tF a) o ∧ (∀ h, o = some h → Num .f32 h ∧ 0 ≤ fv .f32 h ∧ fv .f32 h ≤ 3000000) ∧ (o = none → k = 3 ∧ fv .f32 (cF b) ≤ fv .f32 (tF a)) := by
  obtain ⟨hx, hf⟩ := xa_of a1 ha b1 hb
  obtain ⟨l, X, L, i1, i2⟩ := hx.xt hm
  obtain ⟨y1, y2⟩ := (shp_of h2 hm).in
  obtain ⟨ny, ey, -, -⟩ := shp_of h2 hm
  obtain ⟨-, nt, vt⟩ := tF_v ha
  obtain ⟨-, nc, vc⟩ := cF_v hb
  obtain ⟨o1, o2⟩ := oneB_val
  obtain ⟨z1, z2⟩ := zeroF_val
  have b0 : (1 : Rat) ≤ (b : Rat) := by exact_mod_cast b1
  have b2 : (b : Rat) ≤ 32 := by exact_mod_cast (show b ≤ 32 by omega)
  have a0 : (1 : Rat) ≤ (a : Rat) := by exact_mod_cast a1
  have a2 : (a : Rat) ≤ 46 := by exact_mod_cast (show a ≤ 46 by omega)
  have h100 := tw100
  obtain ⟨w1, w2, w3, w4⟩ := u32j
  have hx0 : 0 < fv .f32 (fop .quo .f32 (tF a) (cF b)) := by have := X.x0; grind
  have gt0 : fcmp .gtr .f32 (cn .f32 (tF a)) (cn .f32 0) = true := by rw [fcmp_cn, gtrF_val nt z1, z2]; exact decide_eq_true (by grind)
  -- what kinds 1 and 2 share
  obtain ⟨an, an0, an1⟩ := quo_pos (p := yF m) (q := cF b) (A := 3) ny nc (by grind) y2 (by grind) (by decide +kernel) (by decide +kernel)
  obtain ⟨⟨zn, zl, zu⟩, -⟩ := (wr_sub ny o1).nr (A := 2) (by rw [o2]; grind) (by rw [o2]; grind) (by grind)
  rw [o2] at zl zu
  have hzl : fv .f32 (fop .sub .f32 (yF m) oneB) * l ≤ 79 / 10 := by
    by_cases hz0 : 0 ≤ fv .f32 (fop .sub .f32 (yF m) oneB)
    · have := jmul_le i2 hz0; grind
    · have := jmul_le (show -l ≤ 5 by grind) (show 0 ≤ -fv .f32 (fop .sub .f32 (yF m) oneB) by grind); grind
  obtain ⟨pv, pn, p0, p1⟩ := pow_v (z := fop .sub .f32 (yF m) oneB) zn (by grind) (by grind) X.n hx0 X.nl X.l1 X.l2 hzl
  obtain ⟨gn, g0, g1⟩ := mul_pos (p := fop .quo .f32 (yF m) (cF b)) (q := powF (fop .sub .f32 (yF m) oneB) (fop .quo .f32 (tF a) (cF b))) (A := 51) (B := 3400) an pn an0 (by grind) p0 p1 (by decide +kernel) (by decide +kernel)
  have hk4 : k = 0 ∨ k = 1 ∨ k = 2 ∨ k = 3 := by omega
  rcases hk4 with rfl | rfl | rfl | rfl
  · obtain ⟨n, n0, n1⟩ := quo_pos (p := oneB) (q := cF b) (A := 1) o1 nc (by rw [o2]; decide +kernel) (by rw [o2]; decide +kernel) (by grind) (by decide +kernel) (by decide +kernel)
    exact ⟨some (fop .quo .f32 oneB (cF b)), ⟨⟨_, hf, X.n, .inl ⟨rfl, fopV_of rfl o1 nc n⟩⟩, n⟩, fun h e => by cases e; exact ⟨n, n0, Rat.le_trans n1 (by decide +kernel)⟩, fun e => by cases e⟩
  · exact ⟨some _, ⟨⟨_, hf, X.n, .inr (.inl ⟨rfl, gt0, _, _, _, fopV_of rfl ny nc an, fopV_of rfl ny o1 zn, pv, fopV_of rfl an pn gn⟩)⟩, gn⟩, fun h e => by cases e; exact ⟨gn, g0, by grind⟩, fun e => by cases e⟩
  · obtain ⟨rv, rn, r0, r1⟩ := pow_v (z := yF m) ny (by grind) y2 X.n hx0 X.nl X.l1 X.l2 (by rw [ey]; exact X.hz)
    obtain ⟨⟨qn, ql, qu⟩, -⟩ := (wr_add o1 rn).nr (A := 4000) (by rw [o2]; grind) (by rw [o2]; grind) (by grind)
    rw [o2] at ql qu
    obtain ⟨n, n0, n1⟩ := quo_pos (A := 173401) gn qn g0 (by grind) (by grind) (by decide +kernel) (by decide +kernel)
    refine ⟨some _, ⟨⟨_, hf, X.n, .inr (.inr (.inl ⟨rfl, gt0, _, _, _, _, _, _, fopV_of rfl ny nc an, fopV_of rfl ny o1 zn, pv, fopV_of rfl an pn gn, rv, fopV_of rfl o1 rn qn, fopV_of rfl gn qn n⟩))⟩, n⟩, fun h e => by cases e; exact ⟨n, n0, Rat.le_trans n1 (by decide +kernel)⟩, fun e => by cases e⟩
  · obtain ⟨⟨dn, dl, du⟩, s1, s2⟩ := (wr_sub nc nt).nr (A := 32) (by grind) (by grind) (by grind)
    have gd : fcmp .gtr .f32 (cn .f32 (fop .sub .f32 (cF b) (tF a))) (cn .f32 0) = decide (0 < fv .f32 (fop .sub .f32 (cF b) (tF a))) := by rw [fcmp_cn, gtrF_val dn z1, z2]
    by_cases hc : fv .f32 (cF b) ≤ fv .f32 (tF a)
    · have := s2 (by grind)
      exact ⟨none, ⟨rfl, _, _, hf, fopV_of rfl nc nt dn, by rw [gd]; exact decide_eq_false (by grind)⟩, fun h e => (by cases e), fun _ => ⟨rfl, hc⟩⟩
    · have h8 : 1 / 8 ≤ fv .f32 (cF b) - fv .f32 (tF a) := by
        rw [vc, vt] at hc ⊢
        have h1 : (a : Rat) < 4 * (b : Rat) := by grind
        have h2 : ((a : Nat) : Rat) < ((4 * b : Nat) : Rat) := by rw [Rat.natCast_mul]; exact h1
        have h3 : a < 4 * b := by exact_mod_cast h2
        have h4 : ((a + 1 : Nat) : Rat) ≤ ((4 * b : Nat) : Rat) := by exact_mod_cast h3
        rw [Rat.natCast_add, Rat.natCast_mul] at h4
        have c1 : ((1 : Nat) : Rat) = 1 := rfl
        have c4 : ((4 : Nat) : Rat) = 4 := rfl
        rw [c1, c4] at h4
        grind
      obtain ⟨n, n0, n1⟩ := quo_pos (p := oneB) (q := fop .sub .f32 (cF b) (tF a)) (A := 1) o1 dn (by rw [o2]; decide +kernel) (by rw [o2]; decide +kernel) (by grind) (by decide +kernel) (by decide +kernel)
      exact ⟨some _, ⟨⟨_, hf, X.n, .inr (.inr (.inr ⟨rfl, _, fopV_of rfl nc nt dn, by rw [gd]; exact decide_eq_true (by grind), fopV_of rfl o1 dn n⟩))⟩, n⟩, fun h e => by cases e; exact ⟨n, n0, Rat.le_trans n1 (by decide +kernel)⟩, fun e => by cases e⟩
end Go.Proofs.Ytmcnfapdghoenaa
