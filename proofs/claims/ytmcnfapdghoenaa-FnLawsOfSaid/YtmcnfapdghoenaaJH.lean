
/- Survivors in floats between entries of the tables. Plain. Conditions: in the theorems. -/
import Derived.Test.YtmcnfapdghoenaaJG
namespace Go.Proofs.Ytmcnfapdghoenaa
open Go Go.RowKit

attribute [local irreducible] tw EX eN eP EN nodeL LO k1 k2
/-! ### Kinds 0 and 3 at nodes -/
def S3 (v : Rat) : Rat := if v ≤ 1 then 1 - v else 0
theorem tw_50 : tw 50 = wR := by
  have := tw_nat 50
  rw [show ((50 : Nat) : Int) = 50 from rfl] at this
  rw [this]; rfl
theorem tw_m4 : tw (-4) * 16 = 1 := tw_neg 4
theorem tw_m5 : tw (-5) * 32 = 1 := tw_neg 5
theorem tw_m21 : tw (-21) * 2097152 = 1 := tw_neg 21
theorem vN_big {j : Nat} (hj : j < 2304) : vN j ≤ 16 := by
  unfold vN
  have h1 : ((128 + j % 128 : Nat) : Rat) ≤ 255 := by exact_mod_cast (show 128 + j % 128 ≤ 255 by omega)
  have h0 : (0 : Rat) ≤ ((128 + j % 128 : Nat) : Rat) := Rat.natCast_nonneg
  have h2 := tw_mono (show ((j / 128 : Nat) : Int) - 21 ≤ -4 by omega)
  have h3 := jmul_le h2 h0
  have h4 := tw_m4
  have h5 := Rat.mul_le_mul_of_nonneg_right h1 (Rat.le_of_lt (tw_pos (-4)))
  grind
theorem vN_top {j : Nat} (hj : j ≤ 2230) : vN j ≤ 23 / 2 := by
  unfold vN
  have h0 : (0 : Rat) ≤ ((128 + j % 128 : Nat) : Rat) := Rat.natCast_nonneg
  by_cases h : j / 128 ≤ 16
  · have h1 : ((128 + j % 128 : Nat) : Rat) ≤ 255 := by exact_mod_cast (show 128 + j % 128 ≤ 255 by omega)
    have h2 := tw_mono (show ((j / 128 : Nat) : Int) - 21 ≤ -5 by omega)
    have h3 := jmul_le h2 h0
    have h4 := tw_m5
    have h5 := Rat.mul_le_mul_of_nonneg_right h1 (Rat.le_of_lt (tw_pos (-5)))
    grind
  · have h1 : ((128 + j % 128 : Nat) : Rat) ≤ 182 := by exact_mod_cast (show 128 + j % 128 ≤ 182 by omega)
    have h2 := tw_mono (show ((j / 128 : Nat) : Int) - 21 ≤ -4 by omega)
    have h3 := jmul_le h2 h0
    have h4 := tw_m4
    have h5 := Rat.mul_le_mul_of_nonneg_right h1 (Rat.le_of_lt (tw_pos (-4)))
    grind
theorem shl_R (a k : Nat) : ((Nat.shiftLeft a k : Nat) : Rat) = (a : Rat) * tw (k : Int) := by
  have : Nat.shiftLeft a k = a * 2 ^ k := Nat.shiftLeft_eq a k
  rw [this, Rat.natCast_mul, tw_nat]
theorem s0_at {j : Nat} (hj : j < 2304) : (s0 j : Rat) ≤ EN (vN j) * KR + 3 ∧ EN (vN j) * KR ≤ (s0 j : Rat) + 3 := by
  have e : ((Nat.shiftLeft (Nat.add 128 (Nat.mod j 128)) (Nat.add (Nat.div j 128) 29) : Nat) : Rat) = vN j * wR := by
    rw [shl_R, ← tw_50]
    show ((128 + j % 128 : Nat) : Rat) * tw ((j / 128 + 29 : Nat) : Int) = _
    unfold vN
    rw [Rat.mul_assoc, ← tw_add]
    congr 2; omega
  have p := vN_pos j
  have b := vN_big hj
  have w := wR_pos
  unfold s0
  exact k1_at (by rw [e]; grind) (by rw [e]; grind) (by grind) (by grind)
theorem s3_at (j : Nat) : (s3 j : Rat) ≤ S3 (vN j) * KR + 2 ∧ S3 (vN j) * KR ≤ (s3 j : Rat) + 2 := by
  obtain ⟨N, hN⟩ : ∃ N, N = Nat.shiftLeft (Nat.add 128 (Nat.mod j 128)) (Nat.div j 128) := ⟨_, rfl⟩
  have e : (N : Rat) = vN j * 2097152 := by
    rw [hN, shl_R]
    show ((128 + j % 128 : Nat) : Rat) * tw ((j / 128 : Nat) : Int) = _
    unfold vN
    have h := tw_m21
    have : tw ((j / 128 : Nat) : Int) * tw (-21) = tw (((j / 128 : Nat) : Int) - 21) := by rw [← tw_add]; congr 1
    rw [← this]
    grind
  have es : s3 j = 1048576 - N / 2 := by
    show 1048576 - (Nat.shiftLeft (Nat.add 128 (Nat.mod j 128)) (Nat.div j 128)) >>> 1 = _
    rw [← hN, Nat.shiftRight_eq_div_pow]
  rw [es]
  clear es
  have p := vN_pos j
  generalize vN j = v at *
  rw [KRv]
  unfold S3
  obtain ⟨f1, f2⟩ := floor_near (a := N) (show 0 < 2 by decide)
  have c2 : ((2 : Nat) : Rat) = 2 := rfl
  rw [c2] at f1 f2
  by_cases h : N / 2 ≤ 1048576
  · have h1 : ((1048576 - N / 2 + N / 2 : Nat) : Rat) = 1048576 := by rw [Nat.sub_add_cancel h]; rfl
    rw [Rat.natCast_add] at h1
    have h2 : ((N / 2 : Nat) : Rat) ≤ ((1048576 : Nat) : Rat) := by exact_mod_cast h
    have c3 : ((1048576 : Nat) : Rat) = 1048576 := rfl
    rw [c3] at h2
    generalize ((1048576 - N / 2 : Nat) : Rat) = A at *
    generalize ((N / 2 : Nat) : Rat) = B at *
    split <;> constructor <;> grind
  · have h1 : 1048576 - N / 2 = 0 := by omega
    have h2 : ((1048576 : Nat) : Rat) ≤ ((N / 2 : Nat) : Rat) := by exact_mod_cast (show 1048576 ≤ N / 2 by omega)
    have c3 : ((1048576 : Nat) : Rat) = 1048576 := rfl
    have c0 : ((0 : Nat) : Rat) = 0 := rfl
    rw [c3] at h2
    rw [h1, c0]
    generalize ((N / 2 : Nat) : Rat) = B at *
    split <;> constructor <;> grind
/-! ### Numbers near one another -/
theorem sens1 {z z' d : Rat} (h : z ≤ z' + d) (d0 : 0 ≤ d) (d1 : d ≤ 1 / 400000) (z1 : -200 ≤ z) (z2 : z ≤ 8) (y1 : -200 ≤ z') (y2 : z' ≤ 8) : EN (EX z') ≤ EN (EX z) + 1 / 10000 := by
  have p0 := EX_nn z1 z2
  have q0 := EX_nn y1 y2
  by_cases hc : z ≤ z'
  · have a := (EX_mono z1 hc y2).2
    have b := (EN_fall p0 a).1
    grind
  · have a := (EX_mono y1 (show z' ≤ z by grind) z2).2
    have b := (EN_fall q0 a).2
    by_cases h0 : z ≤ 0
    · have c := EX_lip y1 (show z' ≤ z by grind) h0
      grind
    · have c := EX_lip2 y1 (show z' ≤ z by grind) (by grind) z2
      have k := jmul_le (show z - z' ≤ 1 / 400000 by grind) (show 0 ≤ 5 / 4 * EX z by grind)
      by_cases h2 : EX z ≤ 22
      · grind
      · obtain ⟨u, -⟩ := EN_in p0
        obtain ⟨-, v⟩ := EN_small (show 20 ≤ EX z' by grind)
        grind
theorem sens2 {z z' d : Rat} (h : z ≤ z' + d) (d0 : 0 ≤ d) (d1 : d ≤ 1 / 400000) (z1 : -200 ≤ z) (z2 : z ≤ 8) (y1 : -200 ≤ z') (y2 : z' ≤ 8) : (1 + EX z')⁻¹ ≤ (1 + EX z)⁻¹ + 1 / 10000 := by
  have p0 := EX_nn z1 z2
  have q0 := EX_nn y1 y2
  by_cases hc : z ≤ z'
  · have a := (EX_mono z1 hc y2).2
    have b := (inv_fall p0 a).1
    grind
  · have a := (EX_mono y1 (show z' ≤ z by grind) z2).2
    obtain ⟨-, b⟩ := inv_fall q0 a
    obtain ⟨i1, i2⟩ := inv_in (show 1 ≤ 1 + EX z by grind)
    obtain ⟨j1, j2⟩ := inv_in (show 1 ≤ 1 + EX z' by grind)
    have iz : (1 + EX z) * (1 + EX z)⁻¹ = 1 := Rat.mul_inv_cancel _ (by grind)
    have c : EX z - EX z' ≤ 5 / 4 * (1 / 400000) * (1 + EX z) := by
      by_cases h0 : z ≤ 0
      · have c := EX_lip y1 (show z' ≤ z by grind) h0
        grind
      · have c := EX_lip2 y1 (show z' ≤ z by grind) (by grind) z2
        have k := jmul_le (show z - z' ≤ 1 / 400000 by grind) (show 0 ≤ 5 / 4 * EX z by grind)
        grind
    have k1 := Rat.mul_le_mul_of_nonneg_right c (jmul_nn (Rat.le_of_lt j1) (Rat.le_of_lt i1))
    have k2 : 5 / 4 * (1 / 400000) * (1 + EX z) * ((1 + EX z')⁻¹ * (1 + EX z)⁻¹) = 5 / 4 * (1 / 400000) * (1 + EX z')⁻¹ := by
      have : 5 / 4 * (1 / 400000) * (1 + EX z) * ((1 + EX z')⁻¹ * (1 + EX z)⁻¹) = 5 / 4 * (1 / 400000) * (1 + EX z')⁻¹ * ((1 + EX z) * (1 + EX z)⁻¹) := by grind
      rw [this, iz]; grind
    have k3 : (EX z - EX z') * ((1 + EX z')⁻¹ * (1 + EX z)⁻¹) = (EX z - EX z') * (1 + EX z')⁻¹ * (1 + EX z)⁻¹ := by grind
    grind
/-! ### Bounds told as the walks want them -/
theorem leP_c {m : Nat} {p c : Int} (h : (m : Rat) * tw p ≤ tw c) : LeP m p c := by
  by_cases hm : m = 0
  · exact .inl hm
  · right
    have h0 : 1 ≤ m := by omega
    have h1 : (1 : Rat) ≤ (m : Rat) := by exact_mod_cast h0
    have h2 := Rat.mul_le_mul_of_nonneg_right h1 (Rat.le_of_lt (tw_pos p))
    have h3 : p ≤ c := tw_le (by grind)
    refine ⟨h3, ?_⟩
    rw [tw_split h3] at h
    have h4 := Rat.le_of_mul_le_mul_right h (tw_pos p)
    exact_mod_cast h4
theorem tw_6 : tw 6 = 64 := by
  have := tw_nat 6
  rw [show ((6 : Nat) : Int) = 6 from rfl] at this
  rw [this]; rfl
theorem bn_of {v : Nat} (n : Num .f32 v) (h : fv .f32 v ≤ 0) (h2 : -64 ≤ fv .f32 v) : Bn .f32 v 6 := by
  obtain ⟨s, m, e, hr⟩ := n
  have hv := fv_eq hr
  have tp := tw_pos e
  have m0 : (0 : Rat) ≤ (m : Rat) := Rat.natCast_nonneg
  refine ⟨s, m, e, hr, ?_, ?_⟩
  · cases s
    · left
      simp only [Bool.false_eq_true, if_false] at hv
      by_cases hm : m = 0
      · exact hm
      · have h1 : (1 : Rat) ≤ (m : Rat) := by exact_mod_cast (show 1 ≤ m by omega)
        have := Rat.mul_le_mul_of_nonneg_right h1 (Rat.le_of_lt tp)
        grind
    · refine leP_c ?_
      simp only [if_true] at hv
      rw [tw_6]; grind
  · cases s
    · left
      simp only [Bool.false_eq_true, if_false] at hv
      by_cases hm : m = 0
      · exact hm
      · have h1 : (1 : Rat) ≤ (m : Rat) := by exact_mod_cast (show 1 ≤ m by omega)
        have := Rat.mul_le_mul_of_nonneg_right h1 (Rat.le_of_lt tp)
        grind
    · exact .inr rfl
theorem expX_01 {v : Nat} (n : Num .f32 v) (h : fv .f32 v ≤ 0) : Num .f32 (expX v) ∧ 0 ≤ fv .f32 (expX v) ∧ fv .f32 (expX v) ≤ 1 := expX_in n h (bn_of n h)
end Go.Proofs.Ytmcnfapdghoenaa
/- Each survivor in floats lies between two entries of its table. Plain. Conditions: in the theorems. -/
namespace Go.Proofs.Ytmcnfapdghoenaa
open Go Go.RowKit

attribute [local irreducible] tw EX eN eP EN nodeL LO k1 k2 idx vN s0 s1 s2 s3 fL
def Near (f : Nat → Nat) (S j : Nat) : Prop := Num .f32 S ∧ 0 ≤ fv .f32 S ∧ fv .f32 S ≤ 1 + 1 / 50000 ∧ fv .f32 S * KR ≤ (f j : Rat) + 460 ∧ (f (j + 1) : Rat) ≤ fv .f32 S * KR + 460
/-- x is n/(256 b), but for the last bit. -/
def Xn (x n b : Nat) : Prop := Num .f32 x ∧ 1 ≤ b ∧ b ≤ 32 * n ∧ n ≤ 2898 ∧ ∃ X : Rat, X * (256 * (b : Rat)) = (n : Rat) ∧ fv .f32 x ≤ X + X / 8000000 ∧ X ≤ fv .f32 x + X / 8000000
theorem Xn.low {x n b : Nat} {X : Rat} (hb : 1 ≤ b) (hn : b ≤ 32 * n) (hx : X * (256 * (b : Rat)) = (n : Rat)) : 1 / 8192 ≤ X := by
  have b0 : (0 : Rat) < (b : Rat) := by exact_mod_cast (show 0 < b by omega)
  have h : (b : Rat) ≤ ((32 * n : Nat) : Rat) := by exact_mod_cast hn
  rw [Rat.natCast_mul] at h
  have c : ((32 : Nat) : Rat) = 32 := rfl
  rw [c, ← hx] at h
  by_cases hc : 1 / 8192 ≤ X
  · exact hc
  · have := Rat.mul_pos (show 0 < 1 / 8192 - X by grind) b0
    grind
/-- What lies about x. -/
theorem Xn.nodes {x n b : Nat} (h : Xn x n b) : Num .f32 x ∧ idx n b + 1 ≤ 2230 ∧ 1 / 16384 ≤ fv .f32 x ∧ fv .f32 x ≤ 23 / 2 ∧ 0 < vN (idx n b) ∧ vN (idx n b) ≤ fv .f32 x * (1 + 1 / 7500000) ∧ fv .f32 x ≤ vN (idx n b + 1) * (1 + 1 / 7500000) ∧ vN (idx n b + 1) ≤ 23 / 2 := by
  obtain ⟨nx, hb, hn, h2, X, hX, e1, e2⟩ := h
  have lo := Xn.low (x := x) hb hn hX
  have ii := idx_le hb hn h2
  obtain ⟨a, c⟩ := x_node hb hn hX
  have p := vN_pos (idx n b)
  have b1 : (1 : Rat) ≤ (b : Rat) := by exact_mod_cast hb
  have up := jmul_le b1 (show 0 ≤ X by grind)
  have n1 : (n : Rat) ≤ 2898 := by exact_mod_cast h2
  have t := vN_top (show idx n b + 1 ≤ 2230 by omega)
  exact ⟨nx, by omega, by grind, by grind, p, by grind, by grind, t⟩
/-! ### Logarithms -/
theorem vN_2232 : vN 2232 = 23 / 2 := by
  have h : vN 2232 = ((184 : Nat) : Rat) * tw (-4) := by unfold vN; rfl
  rw [h]
  have := tw_m4
  have c : ((184 : Nat) : Rat) = 184 := rfl
  rw [c]; grind
section
attribute [local semireducible] nodeL LO
theorem nodeL_top : (nodeL 2232 : Rat) - (LO : Rat) + 40 ≤ 244236 / 100000 * TR := by decide +kernel
end
theorem ln_top {v l : Rat} (h : LnOf v l) (h0 : 0 < v) (h1 : v ≤ 23 / 2) : l ≤ 49 / 20 := by
  obtain ⟨r, hr, a, -⟩ := node_ln (j := 2232) (by decide)
  have v32 := vN_2232
  have nt := nodeL_top
  have hr2 : r ≤ 244236 / 100000 := by_TR (by grind)
  have := h.le hr h0 (by rw [v32]; decide +kernel) (d := 0) (by decide +kernel) (by decide +kernel) (by rw [v32]; grind)
  grind
/-- A shape times a logarithm. -/
theorem ml_in {m : Nat} {l : Rat} (hm : m ≤ 12) (h1 : -10 ≤ l) (h2 : l ≤ 49 / 20) : -30 ≤ (m : Rat) / 4 * l ∧ (m : Rat) / 4 * l ≤ 79 / 10 := by
  have m0 : (0 : Rat) ≤ (m : Rat) := Rat.natCast_nonneg
  have m1 : (m : Rat) ≤ 12 := by exact_mod_cast hm
  have a := jmul_le h1 (show 0 ≤ (m : Rat) / 4 by grind)
  have b := jmul_le h2 (show 0 ≤ (m : Rat) / 4 by grind)
  constructor <;> grind
theorem ml_le {m : Nat} {l r : Rat} (hm : m ≤ 12) (h : l ≤ r + 5 * (1 / 7500000) + 1 / 200000000) : (m : Rat) / 4 * l ≤ (m : Rat) / 4 * r + 1 / 400000 := by
  have m0 : (0 : Rat) ≤ (m : Rat) := Rat.natCast_nonneg
  have m1 : (m : Rat) ≤ 12 := by exact_mod_cast hm
  have a := jmul_le h (show 0 ≤ (m : Rat) / 4 by grind)
  grind
/-- The logarithms of x and of the two nodes about it. -/
theorem Xn.logs {x n b : Nat} (h : Xn x n b) : ∃ l l0 l1, Nr .f32 (logF x) l (1 / 1000000) ∧ -10 ≤ l ∧ l ≤ 49 / 20 ∧ -10 ≤ l0 ∧ l0 ≤ 49 / 20 ∧ -10 ≤ l1 ∧ l1 ≤ 49 / 20 ∧
    l0 ≤ l + 5 * (1 / 7500000) + 1 / 200000000 ∧ l ≤ l1 + 5 * (1 / 7500000) + 1 / 200000000 ∧
    (l0 * TR ≤ (nodeL (idx n b) : Rat) - (LO : Rat) + 40 ∧ (nodeL (idx n b) : Rat) - (LO : Rat) ≤ l0 * TR + 40) ∧ (l1 * TR ≤ (nodeL (idx n b + 1) : Rat) - (LO : Rat) + 40 ∧ (nodeL (idx n b + 1) : Rat) - (LO : Rat) ≤ l1 * TR + 40) := by
  obtain ⟨nx, hj, x1, x2, v0, va, vb, vt⟩ := h.nodes
  obtain ⟨l, L, nl⟩ := log_of nx x1 (by grind)
  obtain ⟨l0, L0, a0, b0⟩ := node_ln (j := idx n b) (by omega)
  obtain ⟨l1, L1, a1, b1⟩ := node_ln (j := idx n b + 1) (by omega)
  have w := vN_pos (idx n b + 1)
  have t0 := vN_top (show idx n b ≤ 2230 by omega)
  exact ⟨l, l0, l1, nl, L.in.1, ln_top L (by grind) x2, L0.in.1, ln_top L0 v0 t0, L1.in.1, ln_top L1 w vt,
    L0.le L v0 (by grind) (by decide +kernel) (by decide +kernel) va, L.le L1 (by grind) w (by decide +kernel) (by decide +kernel) vb, ⟨a0, b0⟩, ⟨a1, b1⟩⟩
/-- A shape. -/
def Shp (y m : Nat) : Prop := Num .f32 y ∧ fv .f32 y = (m : Rat) / 4 ∧ 2 ≤ m ∧ m ≤ 12
theorem Shp.in {y m : Nat} (h : Shp y m) : 1 / 2 ≤ fv .f32 y ∧ fv .f32 y ≤ 3 := by
  obtain ⟨-, e, a, b⟩ := h
  have m0 : (2 : Rat) ≤ (m : Rat) := by exact_mod_cast a
  have m1 : (m : Rat) ≤ 12 := by exact_mod_cast b
  rw [e]; constructor <;> grind
/-! ### Kind 1 -/
theorem near1 {x y n b m : Nat} (h : Xn x n b) (hy : Shp y m) : Near (s1 m) (s1F y x) (idx n b) := by
  obtain ⟨l, l0, l1, nl, i1, i2, i3, i4, i5, i6, j1, j2, ⟨a0, b0⟩, ⟨a1, b1⟩⟩ := h.logs
  obtain ⟨y1, y2⟩ := hy.in
  obtain ⟨ny, ey, m2, m12⟩ := hy
  obtain ⟨q1, q2⟩ := ml_in m12 i1 i2
  obtain ⟨q3, q4⟩ := ml_in m12 i3 i4
  obtain ⟨q5, q6⟩ := ml_in m12 i5 i6
  have k0 := ml_le m12 j1
  have k1 := ml_le m12 j2
  obtain ⟨⟨sn, sl, su⟩, p0⟩ := s1_near ny (by grind) y2 nl i1 (by grind) (by rw [ey]; exact q2)
  rw [ey] at sl su p0
  obtain ⟨e1, e2⟩ := s1_at m12 a0 b0 i3 q4
  obtain ⟨e3, e4⟩ := s1_at m12 a1 b1 i5 q6
  have f0 := sens1 k0 (by decide +kernel) (by decide +kernel) (by grind) (by grind) (by grind) (by grind)
  have f1 := sens1 k1 (by decide +kernel) (by decide +kernel) (by grind) (by grind) (by grind) (by grind)
  -- its sign
  have sg : 0 ≤ fv .f32 (s1F y x) ∧ fv .f32 (s1F y x) ≤ 1 := by
    obtain ⟨⟨zn, zl, zu⟩, z30⟩ := z_near ny (by grind) y2 nl i1 (by grind)
    rw [ey] at zl zu
    obtain ⟨-, ps, -, -, -, -⟩ := pow_z zn (by grind) (by grind)
    obtain ⟨pn, pl, pu, p0, p3⟩ := pow_near ny (by grind) y2 nl i1 (by grind) (by rw [ey]; exact q2)
    obtain ⟨vn, v0, vl, vu⟩ := neg_near (p := 0) (A := fv .f32 (powF y x)) pn ps Rat.le_refl (by grind)
    exact (expX_01 vn v0).2
  obtain ⟨sg, en⟩ := sg
  rw [KRv] at *
  exact ⟨sn, sg, by grind, by rw [KRv]; grind, by rw [KRv]; grind⟩
/-! ### Kind 2 -/
theorem near2 {x y n b m : Nat} (h : Xn x n b) (hy : Shp y m) : Near (s2 m) (s2F y x) (idx n b) := by
  obtain ⟨l, l0, l1, nl, i1, i2, i3, i4, i5, i6, j1, j2, ⟨a0, b0⟩, ⟨a1, b1⟩⟩ := h.logs
  obtain ⟨y1, y2⟩ := hy.in
  obtain ⟨ny, ey, m2, m12⟩ := hy
  obtain ⟨q1, q2⟩ := ml_in m12 i1 i2
  obtain ⟨q3, q4⟩ := ml_in m12 i3 i4
  obtain ⟨q5, q6⟩ := ml_in m12 i5 i6
  have k0 := ml_le m12 j1
  have k1 := ml_le m12 j2
  obtain ⟨⟨sn, sl, su⟩, sg, p0⟩ := s2_near ny (by grind) y2 nl i1 (by grind) (by rw [ey]; exact q2)
  rw [ey] at sl su p0
  obtain ⟨e1, e2⟩ := s2_at m12 a0 b0 i3 q4
  obtain ⟨e3, e4⟩ := s2_at m12 a1 b1 i5 q6
  have f0 := sens2 k0 (by decide +kernel) (by decide +kernel) (by grind) (by grind) (by grind) (by grind)
  have f1 := sens2 k1 (by decide +kernel) (by decide +kernel) (by grind) (by grind) (by grind) (by grind)
  obtain ⟨-, en⟩ := inv_in (show 1 ≤ 1 + EX ((m : Rat) / 4 * l) by grind)
  rw [KRv] at *
  exact ⟨sn, sg, by grind, by rw [KRv]; grind, by rw [KRv]; grind⟩
/-! ### Kind 0 -/
theorem near0 {x n b : Nat} (h : Xn x n b) : Near s0 (s0F x) (idx n b) := by
  obtain ⟨nx, hj, x1, x2, v0, va, vb, vt⟩ := h.nodes
  obtain ⟨sn, sl, su⟩ := s0_near nx (by grind) (by grind)
  obtain ⟨e1, e2⟩ := s0_at (j := idx n b) (by omega)
  obtain ⟨e3, e4⟩ := s0_at (j := idx n b + 1) (by omega)
  have w := vN_pos (idx n b + 1)
  have t0 := vN_top (show idx n b ≤ 2230 by omega)
  have sg : 0 ≤ fv .f32 (s0F x) ∧ fv .f32 (s0F x) ≤ 1 := by
    obtain ⟨vn, v0, vl, vu⟩ := neg_near (p := 0) (A := 16) nx (by grind) (by grind) (by decide +kernel)
    exact (expX_01 vn v0).2
  obtain ⟨sg, en⟩ := sg
  have f0 : EN (fv .f32 x) ≤ EN (vN (idx n b)) + 1 / 100000 := by
    by_cases hc : vN (idx n b) ≤ fv .f32 x
    · have := (EN_fall (by grind) hc).1; grind
    · have := (EN_fall (a := fv .f32 x) (b := vN (idx n b)) (by grind) (by grind)).2; grind
  have f1 : EN (vN (idx n b + 1)) ≤ EN (fv .f32 x) + 1 / 100000 := by
    by_cases hc : fv .f32 x ≤ vN (idx n b + 1)
    · have := (EN_fall (by grind) hc).1; grind
    · have := (EN_fall (a := vN (idx n b + 1)) (b := fv .f32 x) (by grind) (by grind)).2; grind
  rw [KRv] at *
  exact ⟨sn, sg, by grind, by rw [KRv]; grind, by rw [KRv]; grind⟩
/-! ### Kind 3 -/
def s3F (x : Nat) : Nat := if fcmp .gtr .f32 x oneB then 0 else fop .sub .f32 oneB x
theorem s3_near {x : Nat} (n : Num .f32 x) (h0 : 0 ≤ fv .f32 x) : Nr .f32 (s3F x) (S3 (fv .f32 x)) (1 / 10000000) ∧ 0 ≤ fv .f32 (s3F x) := by
  obtain ⟨o1, o2⟩ := oneB_val
  unfold s3F S3
  rw [gtrF_val n o1, o2]
  by_cases hc : 1 < fv .f32 x
  · rw [decide_eq_true hc, if_pos rfl, if_neg (by grind)]
    obtain ⟨z1, z2⟩ := zeroF_val
    exact ⟨⟨z1, by rw [z2]; decide +kernel, by rw [z2]; decide +kernel⟩, by rw [z2]; decide +kernel⟩
  · rw [decide_eq_false hc, if_neg Bool.false_ne_true, if_pos (by grind)]
    have h100 := tw100
    obtain ⟨w1, w2, w3, w4⟩ := u32j
    obtain ⟨⟨m, l, u⟩, s1, s2⟩ := (wr_sub o1 n).nr (A := 1) (by rw [o2]; grind) (by rw [o2]; grind) (by grind)
    rw [o2] at l u s1
    exact ⟨⟨m, by grind, by grind⟩, s1 (by grind)⟩
theorem near3 {x n b : Nat} (h : Xn x n b) : Near s3 (s3F x) (idx n b) := by
  obtain ⟨nx, hj, x1, x2, v0, va, vb, vt⟩ := h.nodes
  obtain ⟨⟨sn, sl, su⟩, sg⟩ := s3_near nx (by grind)
  obtain ⟨e1, e2⟩ := s3_at (idx n b)
  obtain ⟨e3, e4⟩ := s3_at (idx n b + 1)
  have w := vN_pos (idx n b + 1)
  have t0 := vN_top (show idx n b ≤ 2230 by omega)
  have f0 : S3 (fv .f32 x) ≤ S3 (vN (idx n b)) + 1 / 100000 := by unfold S3; split <;> split <;> grind
  have f1 : S3 (vN (idx n b + 1)) ≤ S3 (fv .f32 x) + 1 / 100000 := by unfold S3; split <;> split <;> grind
  have f2 : S3 (fv .f32 x) ≤ 1 := by unfold S3; split <;> grind
  rw [KRv] at *
  exact ⟨sn, sg, by grind, by rw [KRv]; grind, by rw [KRv]; grind⟩
end Go.Proofs.Ytmcnfapdghoenaa
