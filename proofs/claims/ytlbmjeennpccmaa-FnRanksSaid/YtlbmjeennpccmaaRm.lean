
/- FnRanks returns true for every input and changes nothing that was there. No condition. -/
import Derived.Test.YtlbmjeennpccmaaRj
import Derived.Test.YtlbmjeennpccmaaRc
import Derived.Test.YtlbmjeennpccmaaRd
import Derived.Test.YtlbmjeennpccmaaTg
namespace Go.Proofs.Ytlbmjeennpccmaa
open Go Go.RowKit Go.ChangeShapes Go.WideShapes Go.ChangeAt

attribute [local irreducible] LX tw
theorem hT_above : ((List.range 24).all fun k => aboveB (cn .f32 (hT k))) = true := by decide +kernel
theorem Drawn.lives {ls : List Lf} (h : Drawn ls) (h1 : 1 ≤ ls.length) (h2 : ls.length ≤ 48) : livesB ls = true := by
  unfold livesB
  rw [decide_eq_true h1, decide_eq_true h2, Bool.true_and, Bool.true_and, List.all_eq_true]
  intro x hx
  obtain ⟨k, hk, e⟩ := h x hx
  have h0 := hT_above
  rw [List.all_eq_true] at h0
  have h3 := h0 k (List.mem_range.2 hk)
  unfold timeB
  rw [e]; exact h3
theorem tw_at (n : Nat) {G : Rat} (hG : ((2 ^ n : Nat) : Rat) = G) : tw (-(n : Int)) * G = 1 := by rw [← hG]; exact tw_neg n
theorem c001_val : Num .f64 4562254508917369340 ∧ 9 / 10000 ≤ fv .f64 4562254508917369340 := by
  have h : (FloatKind.f64).format.read 4562254508917369340 = .number false 4611686018427388 (-62) := by decide +kernel
  refine ⟨⟨_, _, _, h⟩, ?_⟩
  rw [fv_eq h]
  have h1 : tw (-62) * 4611686018427387904 = 1 := tw_at 62 rfl
  have h2 : ((4611686018427388 : Nat) : Rat) = 4611686018427388 := rfl
  simp only [Bool.false_eq_true, if_false, h2]
  grind
theorem c01_val : Num .f64 4576918229304087675 ∧ 99999 / 10000000 ≤ fv .f64 4576918229304087675 ∧ fv .f64 4576918229304087675 ≤ 1 / 50 := by
  have h : (FloatKind.f64).format.read 4576918229304087675 = .number false 5764607523034235 (-59) := by decide +kernel
  refine ⟨⟨_, _, _, h⟩, ?_⟩
  rw [fv_eq h]
  have h1 : tw (-59) * 576460752303423488 = 1 := tw_at 59 rfl
  have h2 : ((5764607523034235 : Nat) : Rat) = 5764607523034235 := rfl
  simp only [Bool.false_eq_true, if_false, h2]
  constructor <;> grind
theorem one64_val : Num .f64 4607182418800017408 ∧ fv .f64 4607182418800017408 = 1 := by
  have h : (FloatKind.f64).format.read 4607182418800017408 = .number false 4503599627370496 (-52) := by decide +kernel
  refine ⟨⟨_, _, _, h⟩, ?_⟩
  rw [fv_eq h]
  have h1 : tw (-52) * 4503599627370496 = 1 := tw_at 52 rfl
  have h2 : ((4503599627370496 : Nat) : Rat) = 4503599627370496 := rfl
  simp only [Bool.false_eq_true, if_false, h2]
  grind
/-- One hundredth of one more than a number. -/
theorem hundredth {x : Nat} (hx : Num .f32 x) (h0 : 0 ≤ fv .f32 x) (h1 : fv .f32 x ≤ 2000000) :
    Num .f64 (fop .mul .f64 4576918229304087675 (fop .add .f64 4607182418800017408 (wide x))) ∧ 99 / 10000 * (1 + fv .f32 x) ≤ fv .f64 (fop .mul .f64 4576918229304087675 (fop .add .f64 4607182418800017408 (wide x))) := by
  obtain ⟨u1, v1⟩ := wide_val hx
  obtain ⟨o1, o2⟩ := one64_val
  obtain ⟨c1, c2, c3⟩ := c01_val
  obtain ⟨hu0, hu⟩ := u64
  obtain ⟨he0, he⟩ := e64
  have h100 := tw100
  obtain ⟨⟨n1, p1, q1⟩, -⟩ := add_near (A := 4000000) o1 u1 (by rw [o2, v1]; grind) (by rw [o2, v1]; grind) (by grind)
  rw [o2, v1] at p1 q1
  generalize fop .add .f64 4607182418800017408 (wide x) = b at *
  generalize fv .f32 x = X at *
  have hb0 : 0 ≤ fv .f64 b := by grind
  have hb1 : fv .f64 b ≤ 3000000 := by grind
  have g1 := Rat.mul_le_mul_of_nonneg_right c2 hb0
  have g2 := Rat.mul_le_mul_of_nonneg_right c3 hb0
  obtain ⟨⟨n2, p2, q2⟩, -⟩ := mul_near (A := 100000) c1 n1 (by grind) (by grind) (by grind)
  refine ⟨n2, ?_⟩
  generalize fv .f64 4576918229304087675 * fv .f64 b = y at *
  grind
theorem one_more {x : Nat} (hx : Num .f32 x) (h0 : 0 ≤ fv .f32 x) (h1 : fv .f32 x ≤ 2000000) : Num .f64 (fop .add .f64 4607182418800017408 (wide x)) := by
  obtain ⟨u1, v1⟩ := wide_val hx
  obtain ⟨o1, o2⟩ := one64_val
  have h100 := tw100
  obtain ⟨⟨n1, _, _⟩, -⟩ := add_near (A := 4000000) o1 u1 (by rw [o2, v1]; grind) (by rw [o2, v1]; grind) (by grind)
  exact n1
/-- The gap of two numbers, not above D. -/
theorem r8Gap_num (x y : Nat) (D : Rat) (w : World) (hx : Num .f32 x) (hy : Num .f32 y) (h1 : fv .f32 x - fv .f32 y ≤ D) (h2 : fv .f32 y - fv .f32 x ≤ D) (hD : D ≤ 1000000000) :
    Calls Try.prog 24 #[.float .f32 x, .float .f32 y] w fun e w' => ∃ z, e = .returned (.float .f64 z) ∧ (Num .f64 z ∧ fv .f64 z ≤ D + 1 / 1000000) ∧ Ext w w' := by
  obtain ⟨u1, v1⟩ := wide_val hx
  obtain ⟨u2, v2⟩ := wide_val hy
  obtain ⟨hu0, hu⟩ := u64
  obtain ⟨he0, he⟩ := e64
  have h100 := tw100
  obtain ⟨⟨m1, p1, q1⟩, -⟩ := (wr_sub u1 u2).nr (A := 1000000000) (by rw [v1, v2]; grind) (by rw [v1, v2]; grind) (by grind)
  obtain ⟨⟨m2, p2, q2⟩, -⟩ := (wr_sub u2 u1).nr (A := 1000000000) (by rw [v1, v2]; grind) (by rw [v1, v2]; grind) (by grind)
  have b1 : fv .f64 (fop .sub .f64 (wide x) (wide y)) ≤ D + 1 / 1000000 := by rw [v1, v2] at p1; grind
  have b2 : fv .f64 (fop .sub .f64 (wide y) (wide x)) ≤ D + 1 / 1000000 := by rw [v1, v2] at p2; grind
  have B1 := Lib.hid b1
  have B2 := Lib.hid b2
  have M1 := Lib.hid m1
  have M2 := Lib.hid m2
  have C1 : Hid (cn .f32 x = x) := hx.cn
  have C2 : Hid (cn .f32 y = y) := hy.cn
  have W1 := Lib.hid u1
  have W2 := Lib.hid u2
  clear p1 q1 p2 q2 b1 b2 m1 m2 h100 hu hu0 he he0 h1 h2 hD u1 u2 v1 v2
  have wa : (Try.prog.underlying 24).isSome = true := by kernel_rfl
  go_enter Try.func24, Try.ntmps24
  go_wp2_with (first | (refine wpList_fop rfl rfl rfl rfl rfl ?_; intro fb nf hfb hfl; replace hfb := Lib.hid hfb; replace hfl := Lib.hid hfl) | (refine wpList_wide wa Try.underlying30 rfl rfl rfl ?_; intro zb zn hzb hzl; clear hzl; replace hzb := Lib.hid hzb))
  rename_i z1 n1 e1 z2 n2 e2 f1 m1 k1 l1 z3 n3 e3 x1 x2
  have a1 : f1 = fop .sub .f64 (wide x) (wide y) := bits_of (by rw [k1.out, e1.out, e2.out, C1.out, C2.out]) M1.out.notN
  have a2 : fb = fop .sub .f64 (wide y) (wide x) := bits_of (by rw [hfb.out, e3.out, hzb.out, C1.out, C2.out]) M2.out.notN
  clear k1 hfb
  subst a1
  subst a2
  obtain ⟨r, hr, he⟩ := max_float #[30, 30] 30 M1.out.notN M2.out.notN
  rw [he]
  replace hr := Lib.hid hr
  clear he
  simp [go_sem, Oper.upon, Result.andThen]
  go_wp2_with fail
  go_ret
  refine ⟨r, rfl, ?_, Ext.drewN _ _⟩
  rcases hr.out with h | h
  · rw [h]; exact ⟨M1.out, B1.out⟩
  · rw [h]; exact ⟨M2.out, B2.out⟩
theorem r8Gap_zero (x : Nat) (w : World) (hx : Num .f32 x) (h0 : 0 ≤ fv .f32 x) (h1 : fv .f32 x ≤ 1 / 10000) :
    Calls Try.prog 24 #[.float .f32 x, .float .f32 0] w fun e w' => ∃ z, e = .returned (.float .f64 z) ∧ fcmp .lss .f64 (cn .f64 z) (cn .f64 4562254508917369340) = true ∧ Ext w w' := by
  have z0 : Num .f32 0 ∧ fv .f32 0 = 0 := by have h := zero_val; rw [show cn .f32 0 = 0 from by decide +kernel] at h; exact h
  refine (r8Gap_num x 0 (1 / 10000) w hx z0.1 (by rw [z0.2]; grind) (by rw [z0.2]; grind) (by grind)).mono ?_
  rintro e w' ⟨z, rfl, ⟨nz, hz⟩, X⟩
  refine ⟨z, rfl, ?_, X⟩
  obtain ⟨c1, c2⟩ := c001_val
  rw [nz.cn, c1.cn, lss_val nz c1, decide_eq_true_eq]
  grind
theorem r8Gap_pair (x y : Nat) (w : World) (hx : Num .f32 x) (hy : Num .f32 y) (x0 : 0 ≤ fv .f32 x) (x1 : fv .f32 x ≤ 2000000) (y0 : 0 ≤ fv .f32 y) (d1 : fv .f32 y ≤ fv .f32 x + 9 / 1000 * (1 + fv .f32 x)) (d2 : fv .f32 x ≤ fv .f32 y + 9 / 1000 * (1 + fv .f32 y)) :
    Calls Try.prog 24 #[.float .f32 x, .float .f32 y] w fun e w' => ∃ z, e = .returned (.float .f64 z) ∧ fcmp .gtr .f64 (cn .f64 z) (cn .f64 (fop .mul .f64 4576918229304087675 (fop .add .f64 4607182418800017408 (wide x)))) = false ∧ Ext w w' := by
  refine (r8Gap_num x y (91 / 10000 * (1 + fv .f32 x)) w hx hy (by grind) (by grind) (by grind)).mono ?_
  rintro e w' ⟨z, rfl, ⟨nz, hz⟩, X⟩
  refine ⟨z, rfl, ?_, X⟩
  obtain ⟨c1, c2⟩ := hundredth hx x0 x1
  rw [nz.cn, c1.cn, gtrF_val nz c1, decide_eq_false_iff_not]
  grind
theorem chs_all : ((List.range 13).all fun n => (List.range (n + 1)).all fun k => (List.range (k + 1)).all fun i => decide (chs n k i ≤ 1000)) = true := by decide +kernel
theorem chs_le {n k i : Nat} (hn : n ≤ 12) (hk : k ≤ n) (hi : i ≤ k) : chs n k i ≤ 1000 := by
  have h := chs_all
  rw [List.all_eq_true] at h
  have h1 := h n (List.mem_range.2 (by omega))
  rw [List.all_eq_true] at h1
  have h2 := h1 k (List.mem_range.2 (by omega))
  rw [List.all_eq_true] at h2
  exact of_decide_eq_true (h2 i (List.mem_range.2 (by omega)))
theorem mostK_le {n k : Nat} (hn : n ≤ 12) (hk : k ≤ n) : mostK n k ≤ 300 := by
  have h1 : k * (2 * n - k + 1) ≤ 12 * 25 := Nat.mul_le_mul (by omega) (by omega)
  have h2 : k * (k + 1) ≤ 12 * 13 := Nat.mul_le_mul (by omega) (by omega)
  unfold mostK; omega
theorem r8Long_eq {v1 v2 : Value} {xs ys : List Int} {c : Bool} (h : decide (48 < xs.length ∨ 48 < ys.length) = c) (w : World) (r1 : RdY w v1 xs) (r2 : RdY w v2 ys) :
    Calls Try.prog 21 #[v1, v2] w fun e w' => e = .returned (.bool c) ∧ w = w' := by subst h; exact r8Long_any v1 v2 xs ys w r1 r2
set_option maxRecDepth 100000 in
set_option maxHeartbeats 8000000 in
theorem fnRanks_law (v1 v2 : Value) (xs ys : List Int) (w : World) (r1 : RdY w v1 xs) (r2 : RdY w v2 ys) :
    Calls Try.prog 7 #[v1, v2] w fun e w' => e = .returned (.bool true) ∧ Ext w w' := by
  have r1' := r1
  have r2' := r2
  obtain ⟨⟨-, a1, c1, rfl, -, -, -, -⟩, -⟩ := r1
  obtain ⟨⟨-, a2, c2, rfl, -, -, -, -⟩, -⟩ := r2
  cases hlong : decide (48 < xs.length ∨ 48 < ys.length)
  · have HL := Lib.hid hlong
    have hxl : xs.length ≤ 48 ∧ ys.length ≤ 48 := by rw [decide_eq_false_iff_not] at hlong; omega
    clear hlong
    have hat : ∀ k n : Nat, 2 ≤ n → n ≤ 1000 → k ≤ 1000 → ∃ z : Nat, z < n ∧ ∀ w, RdY w (.slice a2 ys.length c2) ys → Calls Try.prog 22 #[.slice a2 ys.length c2, .int .i64 k, .int .i64 n] w fun e w' => e = .returned (.int .i64 (z : Nat)) ∧ w = w' :=
      fun k n h1 h2 h3 => ⟨at8 ys k n, at8_lt (by omega), fun w r => r8At_any _ ys k n w r h1 h2 h3⟩
    obtain ⟨n1, hn1, k1⟩ := hat 40 8 (by decide) (by decide) (by decide)
    obtain ⟨n2, hn2, k2⟩ := hat 41 8 (by decide) (by decide) (by decide)
    obtain ⟨z, hz, k3⟩ := hat 42 12 (by decide) (by decide) (by decide)
    obtain ⟨sz, hsz⟩ : ∃ sz, sz = z + 1 := ⟨_, rfl⟩
    obtain ⟨k, hk, k4⟩ := hat 43 (sz + 1) (by omega) (by omega) (by decide)
    have hszc : ((sz + 1 : Nat) : Int) = (sz : Int) + 1 := by omega
    rw [hszc] at k4
    have q3 : IntKind.i64.wrap (1 + (z : Int)) = (sz : Int) := by rw [IntWalk.i64_in _ (by omega)]; omega
    have b3 : 1 ≤ sz ∧ sz ≤ 12 := by omega
    have b4 : k ≤ sz := by omega
    clear hsz hszc hk
    obtain ⟨t, ht, k5⟩ := hat 44 80 (by decide) (by decide) (by decide)
    have K1 := Lib.hid k1
    have K2 := Lib.hid k2
    have K3 := Lib.hid k3
    have K4 := Lib.hid k4
    have K5 := Lib.hid k5
    have HRL := Lib.hid (fun n v zs w r hl hn => r8Lives_any n v zs w r hl hn)
    obtain ⟨m1, hm1⟩ : ∃ m1, m1 = n1 + 1 := ⟨_, rfl⟩
    obtain ⟨m2, hm2⟩ : ∃ m2, m2 = n2 + 1 := ⟨_, rfl⟩
    have q1 : IntKind.i64.wrap (1 + (n1 : Int)) = (m1 : Int) := by rw [IntWalk.i64_in _ (by omega)]; omega
    have q2 : IntKind.i64.wrap (1 + (n2 : Int)) = (m2 : Int) := by rw [IntWalk.i64_in _ (by omega)]; omega
    have b1 : 1 ≤ m1 ∧ m1 ≤ 8 := by omega
    have b2 : 1 ≤ m2 ∧ m2 ≤ 8 := by omega
    clear hm1 hm2
    clear hat k1 k2 k3 k4 k5
    have wa : (Try.prog.underlying 24).isSome = true := by kernel_rfl
    go_enter Try.func7, Try.ntmps7
    go_wp2_with fail
    refine (r8Long_eq HL.out _ r1' r2').mono ?_
    rintro e w1 ⟨rfl, rfl⟩
    go_wp2_with fail
    refine (K1.out _ r2').mono ?_
    rintro e w1 ⟨rfl, rfl⟩
    go_wp2_with fail
    refine (HRL.out m1 _ xs _ r1' (by omega) (by omega)).mono ?_
    rintro e w1 ⟨g1, p1, la, rfl, hla, X, own, hda⟩
    have RA : RdL w1 (.slice (some ⟨g1, 0, none⟩) la.length p1) la := own.rd hda.lt
    rw [hla] at RA
    have HDA := Lib.hid hda
    clear own hda q1
    go_wp2_with fail
    refine (K2.out _ (r2'.ext X)).mono ?_
    rintro e w2 ⟨rfl, rfl⟩
    go_wp2_with fail
    refine (HRL.out m2 _ ys _ (r2'.ext X) (by omega) (by omega)).mono ?_
    rintro e w2 ⟨g2, p2, lb, rfl, hlb, X2, own, hdb⟩
    have RB : RdL w2 (.slice (some ⟨g2, 0, none⟩) lb.length p2) lb := own.rd hdb.lt
    rw [hlb] at RB
    have HDB := Lib.hid hdb
    replace RA := RA.ext X2
    replace X := X.trans X2
    clear own hdb q2 X2
    go_wp2_with fail
    have HVA := Lib.hid (HDA.out.lives (by omega) (by omega))
    have HVB := Lib.hid (HDB.out.lives (by omega) (by omega))
    have hx0 := rsum_all la lb
    have hx1 := rsum_least la lb
    have hx2 := rsum_le la lb
    have hx3 := rsum_le lb la
    rw [hla, hlb] at hx0 hx2 hx3
    rw [hla] at hx1
    have hx4 : m1 * (1 + 2 * (m1 + m2)) ≤ 8 * 33 := Nat.mul_le_mul (by omega) (by omega)
    have hx5 : m2 * (1 + 2 * (m2 + m1)) ≤ 8 * 33 := Nat.mul_le_mul (by omega) (by omega)
    have hx6 : m1 * (m1 + 1) ≤ 8 * 9 := Nat.mul_le_mul (by omega) (by omega)
    have hx7 : (m1 + m2) * (m1 + m2 + 1) ≤ 16 * 17 := Nat.mul_le_mul (by omega) (by omega)
    refine (rankSumOf_any _ _ la lb _ RA RB HVA.out HVB.out).mono ?_
    rintro e w3 ⟨rfl, X3⟩
    replace RA := RA.ext X3
    replace RB := RB.ext X3
    replace X := X.trans X3
    generalize rsum la lb = sx at *
    clear X3
    go_wp2_with fail
    refine (rankSumOf_any _ _ lb la _ RB RA HVB.out HVA.out).mono ?_
    rintro e w4 ⟨rfl, X3⟩
    replace RA := RA.ext X3
    replace RB := RB.ext X3
    replace X := X.trans X3
    generalize rsum lb la = sy at *
    clear X3
    obtain ⟨M, hM⟩ : ∃ M, M = m1 + m2 := ⟨_, rfl⟩
    obtain ⟨N, hN⟩ : ∃ N, N = (m1 + m2) * (m1 + m2 + 1) := ⟨_, rfl⟩
    obtain ⟨L, hL⟩ : ∃ L, L = m1 * (m1 + 1) := ⟨_, rfl⟩
    have s1 : IntKind.i64.wrap ((m1 : Int) + (m2 : Int)) = (M : Int) := by rw [IntWalk.i64_in _ (by omega)]; omega
    have s2 : IntKind.i64.wrap ((M : Int) * ((M : Int) + 1)) = (N : Int) := by
      have e : (M : Int) * ((M : Int) + 1) = ((M * (M + 1) : Nat) : Int) := (Int.natCast_mul M (M + 1)).symm
      have e2 : M * (M + 1) = N := by rw [hN, hM]
      rw [e, e2, IntWalk.i64_in _ (by omega)]
    have s3 : IntKind.i64.wrap ((m1 : Int) * ((m1 : Int) + 1)) = (L : Int) := by
      have e : (m1 : Int) * ((m1 : Int) + 1) = ((m1 * (m1 + 1) : Nat) : Int) := (Int.natCast_mul m1 (m1 + 1)).symm
      rw [e, ← hL, IntWalk.i64_in _ (by omega)]
    have s4 : IntKind.i64.wrap ((sx : Int) + (sy : Int)) = (N : Int) := by rw [IntWalk.i64_in _ (by omega)]; omega
    have s5 : ¬ (sx : Int) < (L : Int) := by omega
    have s6 : M ≤ 16 := by omega
    clear hx0 hx1 hx2 hx3 hx4 hx5 hx6 hx7 hM hN hL
    go_wp2_with fail
    refine (K3.out _ (r2'.ext X)).mono ?_
    rintro e w5 ⟨rfl, rfl⟩
    go_wp2_with fail
    refine (K4.out _ (r2'.ext X)).mono ?_
    rintro e w5 ⟨rfl, rfl⟩
    go_wp2_with fail
    refine (K5.out _ (r2'.ext X)).mono ?_
    rintro e w5 ⟨rfl, rfl⟩
    clear s1 s2 s3 s4 s5 s6 q3
    obtain ⟨rk1, rk2⟩ := rk_ok (n := sz) (k := k) (t := t) b3.1 b3.2 b4 ht
    have hmK := mostK_le b3.2 b4
    have hB : k * (2 * sz - k + 1) ≤ 12 * 25 := Nat.mul_le_mul (by omega) (by omega)
    have hD : k * (k + 1) ≤ 12 * 13 := Nat.mul_le_mul (by omega) (by omega)
    have hF : mostK sz k = k * (2 * sz - k + 1) / 2 + k * (k + 1) / 2 := rfl
    have w1 : IntKind.i64.wrap ((k : Int) * (2 * (sz : Int) - (k : Int) + 1)) = ((k * (2 * sz - k + 1) : Nat) : Int) := by
      have e : (2 * (sz : Int) - (k : Int) + 1) = ((2 * sz - k + 1 : Nat) : Int) := by omega
      rw [e]
      have e2 : (k : Int) * ((2 * sz - k + 1 : Nat) : Int) = ((k * (2 * sz - k + 1) : Nat) : Int) := (Int.natCast_mul k _).symm
      rw [e2, IntWalk.i64_in _ (by omega)]
    have w2 : IntKind.i64.wrap ((k : Int) * ((k : Int) + 1)) = ((k * (k + 1) : Nat) : Int) := by
      have e2 : (k : Int) * ((k : Int) + 1) = ((k * (k + 1) : Nat) : Int) := (Int.natCast_mul k (k + 1)).symm
      rw [e2, IntWalk.i64_in _ (by omega)]
    generalize k * (2 * sz - k + 1) = B at *
    generalize k * (k + 1) = D at *
    have w3 : (B : Int).tdiv 2 = ((B / 2 : Nat) : Int) := rfl
    have w4 : (D : Int).tdiv 2 = ((D / 2 : Nat) : Int) := rfl
    have w5' : B / 2 ≤ 200 := by omega
    have w6' : D / 2 ≤ 200 := by omega
    generalize B / 2 = B2 at *
    generalize D / 2 = D2 at *
    have w7 : IntKind.i64.wrap ((B2 : Int) + (D2 : Int)) = ((mostK sz k : Nat) : Int) := by rw [IntWalk.i64_in _ (by omega)]; omega
    have hs79 : t < 80 := ht
    have HRK2 := Lib.hid rk2
    have HRK1 := Lib.hid rk1
    clear hF rk1 rk2 hB hD
    generalize mostK sz k = F at *
    go_wp2_with fail
    refine (rankSumCount_any sz k (t : Int) _ b3.1 b3.2 b4 (by omega) (by omega)).mono ?_
    rintro e w5 ⟨rfl, X5⟩
    replace RA := RA.ext X5
    replace RB := RB.ext X5
    replace X := X.trans X5
    clear X5
    go_wp2_with fail
    refine (rankSumCount_any sz k ((F : Int) - (t : Int) - 1) _ b3.1 b3.2 b4 (by omega) (by omega)).mono ?_
    rintro e w6 ⟨rfl, X5⟩
    replace RA := RA.ext X5
    replace RB := RB.ext X5
    replace X := X.trans X5
    have hr1 := HRK1.out
    have hr2 := HRK2.out
    have hcb := chs_le (n := sz) (k := k) (i := k) b3.2 b4 (Nat.le_refl _)
    have HCS : Hid (∀ j, chs sz k (j + 1) = chs sz k j * (sz - k + (j + 1)) / (j + 1)) := fun j => rfl
    have HCB : Hid (∀ j, j ≤ k → chs sz k j ≤ 1000) := fun j hj => chs_le b3.2 b4 hj
    have HC0 : Hid (chs sz k 0 = 1) := rfl
    generalize rowFew sz k (mostN sz + 1) (t : Int) = f1 at *
    generalize rowFew sz k (mostN sz + 1) ((F : Int) - (t : Int) - 1) = f2 at *
    generalize rowSum sz k (mostN sz + 1) = rs at *
    rw [hr1] at *
    clear X5 HRK1 HRK2 hr1
    generalize chs sz k = ch at *
    clear w1 w2 w3 w4 w7
    go_wp2_with fail
    go_loopw [23, 22] (fun i c wq => ∃ (p j : Nat), p = j + 1 ∧ j ≤ k ∧ i = .int .i64 p ∧ c = .int .i64 ((ch j : Nat) : Int) ∧ wq = w6) (fun i _ _ => k + 1 - (intOf i).toNat)
    case atStart => exact ⟨1, 0, rfl, Nat.zero_le _, rfl, by rw [HC0.out]; rfl, rfl⟩
    case round =>
      obtain ⟨p, j, hp, hj, rfl, rfl, rfl⟩ := hrel
      by_cases hlt : p ≤ k
      · have h1 := HCB.out j (by omega)
        have h2 := HCS.out j
        have h3 : ch j * (sz - k + (j + 1)) ≤ 1000 * 13 := Nat.mul_le_mul h1 (by omega)
        have s1 : IntKind.i64.wrap (((ch j : Nat) : Int) * ((sz : Int) - (k : Int) + (p : Int))) = ((ch j * (sz - k + (j + 1)) : Nat) : Int) := by
          have e : ((sz : Int) - (k : Int) + (p : Int)) = ((sz - k + (j + 1) : Nat) : Int) := by omega
          rw [e]
          have e2 : ((ch j : Nat) : Int) * ((sz - k + (j + 1) : Nat) : Int) = ((ch j * (sz - k + (j + 1)) : Nat) : Int) := (Int.natCast_mul _ _).symm
          rw [e2, IntWalk.i64_in _ (by omega)]
        have s2 : ((ch j * (sz - k + (j + 1)) : Nat) : Int).tdiv (p : Int) = ((ch p : Nat) : Int) := by rw [hp, h2]; rfl
        generalize ch j * (sz - k + (j + 1)) = V at *
        have s3 := HCB.out p hlt
        have s4 : 1 ≤ p := by omega
        have HP := Lib.hid hp
        clear h2 hp
        go_wp2_with fail
        exact ⟨⟨p + 1, p, rfl, hlt, by go_num, rfl, by first | rfl | trivial⟩, by simp [intOf]; omega⟩
      · have hjk : j = k := by omega
        rw [hjk]
        have hck := HCB.out k (Nat.le_refl _)
        have s1 : IntKind.i64.wrap ((f1 : Int) + (f2 : Int)) = ((ch k : Nat) : Int) := by rw [IntWalk.i64_in _ (by omega)]; omega
        have s2 : ¬ (p : Int) ≤ (k : Int) := by omega
        have s3 : ¬ (f1 : Int) < 0 := by omega
        clear hp hj hlt hjk HCS HCB HC0
        generalize ch k = ck at *
        go_wp2_with fail
        clear s1 s2 s3
        have hself := lr_pair HDA.out HDA.out (by omega) (by omega) HVA.out HVA.out
        have HSELF := Lib.hid hself
        clear hself
        rcases lr_pair HDA.out HDB.out (by omega) (by omega) HVA.out HVB.out with ⟨o1, o2⟩ | ⟨x, y, o1, o2, nx, ny, x0, x1, y0, d1, d2, -⟩
        · have H1 := implLogRankOf_any _ _ la lb _ RA RB
          rw [o1] at H1
          refine H1.mono ?_
          rintro e w7 ⟨X7, rfl⟩
          replace RA := RA.ext X7
          replace RB := RB.ext X7
          replace X := X.trans X7
          go_wp2_with fail
          have H2 := implLogRankOf_any _ _ lb la _ RB RA
          rw [o2] at H2
          refine H2.mono ?_
          clear H1 H2
          rintro e w8 ⟨X8, rfl⟩
          replace RA := RA.ext X8
          replace X := X.trans X8
          clear o1 o2 RB X7 X8
          go_wp2_with (first | (refine wpList_fcmp rfl rfl rfl rfl rfl (by first | with_reducible assumption | exact rfl) ?_))
          have H3 := implLogRankOf_any _ _ la la _ RA RA
          rcases HSELF.out with ⟨o1, -⟩ | ⟨x, -, o1, -, nx, -, x0, -, -, -, -, x1⟩
          · rw [o1] at H3
            refine H3.mono ?_
            clear H3
            rintro e w9 ⟨X9, rfl⟩
            replace X := X.trans X9
            clear o1 X9
            go_wp2_with (first | (refine wpList_fcmp rfl rfl rfl rfl rfl (by first | with_reducible assumption | exact rfl) ?_))
            go_ret
            exact ⟨rfl, X⟩
          · rw [o1] at H3
            refine H3.mono ?_
            clear H3
            rintro e w9 ⟨X9, xb, rfl, hxb, hxl⟩
            obtain rfl : xb = x := bits_of hxb nx.notN
            replace X := X.trans X9
            have hx1 := x1 (by first | rfl | trivial)
            have HG := Lib.hid (fun W => r8Gap_zero xb W nx x0 hx1)
            clear o1 X9 hxb x1 hx1 nx x0
            go_wp2_with fail
            refine (HG.out _).mono ?_
            rintro e w10 ⟨z, rfl, hq, X10⟩
            replace X := X.trans X10
            clear X10 HG
            go_wp2_with (first | (refine wpList_fcmp rfl rfl rfl rfl rfl (by first | with_reducible assumption | exact rfl) ?_))
            go_ret
            exact ⟨rfl, X⟩
        · have H1 := implLogRankOf_any _ _ la lb _ RA RB
          rw [o1] at H1
          refine H1.mono ?_
          rintro e w7 ⟨X7, xb, rfl, hxb, hxl⟩
          obtain rfl : xb = x := bits_of hxb nx.notN
          replace RA := RA.ext X7
          replace RB := RB.ext X7
          replace X := X.trans X7
          go_wp2_with fail
          have H2 := implLogRankOf_any _ _ lb la _ RB RA
          rw [o2] at H2
          refine H2.mono ?_
          clear H1 H2
          rintro e w8 ⟨X8, yb, rfl, hyb, hyl⟩
          obtain rfl : yb = y := bits_of hyb ny.notN
          replace RA := RA.ext X8
          replace X := X.trans X8
          have q1 : fcmp .lss .f32 (cn .f32 xb) (cn .f32 0) = false := by
            obtain ⟨z1, z2⟩ := zero_val
            rw [nx.cn, lss_val nx z1, z2, decide_eq_false_iff_not]
            exact Rat.not_lt.2 x0
          have HG := Lib.hid (fun W => r8Gap_pair xb yb W nx ny x0 x1 y0 d1 d2)
          have HM := Lib.hid (hundredth nx x0 x1).1
          have HAD := Lib.hid (one_more nx x0 x1)
          have HW : Hid (Num .f64 (wide xb)) := (wide_val nx).1
          have HC : Hid (cn .f32 xb = xb) := nx.cn
          clear o1 o2 RB X7 X8 hxb hyb x0 x1 y0 d1 d2
          go_wp2_with (first | (refine wpList_fcmp rfl rfl rfl rfl rfl (by first | with_reducible assumption | exact rfl) ?_))
          refine (HG.out _).mono ?_
          rintro e w9 ⟨z, rfl, hq, X9⟩
          replace RA := RA.ext X9
          replace X := X.trans X9
          clear X9 HG
          have C1 : Hid (cn .f64 4607182418800017408 = 4607182418800017408) := by show _ = _; decide +kernel
          have C2 : Hid (cn .f64 4576918229304087675 = 4576918229304087675) := by show _ = _; decide +kernel
          have CW : Hid (cn .f64 (wide xb) = wide xb) := HW.out.cn
          have HA : Hid (isN .f64 (fop .add .f64 4607182418800017408 (wide xb)) = false) := HAD.out.notN
          have CA : Hid (cn .f64 (fop .add .f64 4607182418800017408 (wide xb)) = fop .add .f64 4607182418800017408 (wide xb)) := HAD.out.cn
          go_wp2_with (first
            | (refine wpList_wide wa Try.underlying30 rfl rfl rfl ?_; intro zb zn hzb hzl; clear hzl; rw [HC.out] at hzb; replace hzb := bits_of hzb HW.out.notN; subst hzb)
            | (refine wpList_fop rfl rfl rfl rfl rfl ?_; intro b nb hb hl; rw [C1.out, CW.out] at hb; replace hb := bits_of hb HA.out; subst hb; clear hl)
            | (refine wpList_fop rfl rfl rfl rfl rfl ?_; intro b2 nb2 hb hl; rw [C2.out, CA.out] at hb; replace hb := bits_of hb HM.out.notN; subst hb; clear hl)
            | (refine wpList_fcmp rfl rfl rfl rfl rfl (by first | with_reducible assumption | exact rfl) ?_))
          replace RA := RA.ext (Ext.drewN _ (zn + nb + nb2))
          replace X := X.trans (Ext.drewN _ (zn + nb + nb2))
          clear hq C1 C2 CW HA CA HAD HM HW HC q1
          have H3 := implLogRankOf_any _ _ la la _ RA RA
          rcases HSELF.out with ⟨o1, -⟩ | ⟨x, -, o1, -, nx, -, x0, -, -, -, -, x1⟩
          · rw [o1] at H3
            refine H3.mono ?_
            clear H3
            rintro e w9 ⟨X9, rfl⟩
            replace X := X.trans X9
            clear o1 X9
            go_wp2_with (first | (refine wpList_fcmp rfl rfl rfl rfl rfl (by first | with_reducible assumption | exact rfl) ?_))
            go_ret
            exact ⟨rfl, X⟩
          · rw [o1] at H3
            refine H3.mono ?_
            clear H3
            rintro e w9 ⟨X9, xb, rfl, hxb, hxl⟩
            obtain rfl : xb = x := bits_of hxb nx.notN
            replace X := X.trans X9
            have hx1 := x1 (by first | rfl | trivial)
            have HG := Lib.hid (fun W => r8Gap_zero xb W nx x0 hx1)
            clear o1 X9 hxb x1 hx1 nx x0
            go_wp2_with fail
            refine (HG.out _).mono ?_
            rintro e w10 ⟨z, rfl, hq, X10⟩
            replace X := X.trans X10
            clear X10 HG
            go_wp2_with (first | (refine wpList_fcmp rfl rfl rfl rfl rfl (by first | with_reducible assumption | exact rfl) ?_))
            go_ret
            exact ⟨rfl, X⟩
  · have HL := Lib.hid hlong
    clear hlong
    go_enter Try.func7, Try.ntmps7
    go_wp2_with fail
    refine (r8Long_eq HL.out _ r1' r2').mono ?_
    rintro e w1 ⟨rfl, rfl⟩
    go_wp2_with fail
    go_ret
    exact ⟨rfl, Ext.refl _⟩
theorem fnRanks_walk (v1 v2 : Value) (w : World) (h1 : ArgBytes w v1) (h2 : ArgBytes w v2) :
    Calls Try.prog 7 #[v1, v2] w fun e w' => e = .returned (.bool true) ∧ Ext w w' := by
  obtain ⟨a, n, cap, xs, rfl, r⟩ := h1
  obtain ⟨a2, n2, cap2, ys, rfl, r2⟩ := h2
  exact fnRanks_law _ _ xs ys w r r2
theorem fnRanks_own : ownKnob Try.prog.godebug = none := by kernel_rfl
theorem fnRanks_laid : laidOutB Try.prog = true := by kernel_rfl

set_option maxRecDepth 100000 in
theorem fnRanks_lifted (os : Os) (started : os.Started) (H : Type) (enc : TypeId × Value → H) :
    ReturnsInHanded {} Try.checked os 7 .any (Rows.fnRanksSpec.pre6 enc Try.prog Try.f7 Rows.fnRanksRow.domain false) (Rows.fnRanksSpec.post enc Try.prog Try.f7 false true false false) := by
  refine returnsInHanded_of_change (C := Try.checked) fnRanks_own started (by kernel_rfl) Try.func7
    (ChangeSpec.witness6 (enc := enc) (C := Try.checked) false ⟨#[], #[.slice none 0 0, .slice none 0 0], []⟩ 8 (by kernel_rfl) (by kernel_rfl) (by kernel_rfl) (by kernel_rfl)) ?_
  intro W base args ds gs before hval0 hW hcnd _
  have hval : ∀ (j : Nat) t v, Try.f7.params[j]? = some t → args[j]? = some v → Value.okWide Try.prog W .any base t v := hval0
  have hW' := hW
  obtain ⟨p, q, hA0, hV, rfl, hfz, hnd⟩ := hW
  have hA : DataW.TrodAll enc Try.prog W 0 (fun _ => true) true Try.f7.params.toList args.toList ds p := hA0
  rw [Try.params7] at hA hval
  obtain ⟨v0, vs0, d0, ds0, p0, q0, hargs, rfl, rfl, h0, r0⟩ := trodAll_cons hA
  obtain ⟨v1, vs1, d1, ds1, p1, q1, rfl, rfl, rfl, h1, r1⟩ := trodAll_cons r0
  obtain ⟨rfl, rfl, rfl⟩ := trodAll_nil r1
  obtain rfl : args = #[v0, v1] := by cases args; simp_all
  obtain ⟨rfl, rfl⟩ := trodVars_none hV
  have lt0 : ∀ x ∈ p0, x.block < W.heap.size := by obtain ⟨m, hm⟩ := h0; exact DataW.trod_lt m _ _ _ hm
  have w0 := argBytes Try.underlying40 Try.underlying5 (by kernel_rfl) (hval 0 40 v0 rfl rfl) h0
  have lt1 : ∀ x ∈ p1, x.block < W.heap.size := by obtain ⟨m, hm⟩ := h1; exact DataW.trod_lt m _ _ _ hm
  have w1 := argBytes Try.underlying40 Try.underlying5 (by kernel_rfl) (hval 1 40 v1 rfl rfl) h1
  clear hA0 hval0
  refine (fnRanks_walk v0 v1 W w0 w1).mono fun e W' ⟨he, bel⟩ => ?_
  subst he
  exact ⟨_, rfl, _, _, _, [], _, [], hW', trodAll_mk1 (shut_bool Try.underlying4 _), (trodAll_cons_mk (Below.trod fnRanks_laid (by kernel_rfl) (of_decide_eq_true (by kernel_rfl)) h0 bel lt0) (trodAll_cons_mk (Below.trod fnRanks_laid (by kernel_rfl) (of_decide_eq_true (by kernel_rfl)) h1 bel lt1) trodAll_mk0)), rfl, bel.below.frame _, fun h => by cases h⟩

theorem fnRanks_over : Rows.fnRanksRow.holds Try.pinned (OpenSpec.ofChange Rows.fnRanksSpec) :=
  OpenClaim.holds_of_wide 7 Try.f7 rfl rfl rfl rfl rfl rfl rfl ⟨rfl, rfl, rfl, rfl, rfl⟩ rfl rfl rfl rfl rfl (by kernel_rfl) Try.func7 (by kernel_rfl)
    (of_decide_eq_true (by kernel_rfl)) (by unfold Func.isWrapper; first | (rw [if_pos (by decide +kernel)]; kernel_rfl) | (rw [if_neg (by decide +kernel)]; exact ⟨rfl, rfl⟩))
    (fun os started H enc _ => fnRanks_lifted os started H enc)

/-- The statement. -/
theorem fnRanks_holds : Rows.FnRanksSaid := fnRanks_over

end Go.Proofs.Ytlbmjeennpccmaa
