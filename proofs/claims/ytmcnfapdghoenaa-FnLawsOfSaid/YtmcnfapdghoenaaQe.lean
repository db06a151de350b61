
/- FnLawsOf returns true for every input and changes nothing that was there. No condition. -/
import Derived.Test.YtmcnfapdghoenaaQB
namespace Go.Proofs.Ytmcnfapdghoenaa
open Go Go.RowKit Go.ChangeShapes Go.WideShapes Go.ChangeAt

attribute [local irreducible] LX tw EX expX logF EN fL nodeL LO eN sumN OC sumG survF meanF yF cF tF shF
theorem r8Long_eq {v1 v2 : Value} {xs ys : List Int} {c : Bool} (h : decide (48 < xs.length ∨ 48 < ys.length) = c) (w : World) (r1 : RdY w v1 xs) (r2 : RdY w v2 ys) :
    Calls Try.prog 4 #[v1, v2] w fun e w' => e = .returned (.bool c) ∧ w = w' := by subst h; exact r8Long_any v1 v2 xs ys w r1 r2
/-- The first facts of a law that is drawn. -/
theorem first_f {k m b a d : Nat} (hk : k < 4) (h2 : 2 ≤ m) (hm : m ≤ 12) (b1 : 1 ≤ b) (hb : b ≤ 32) (a1 : 1 ≤ a) (ha : a ≤ 30) (d1 : 1 ≤ d) (hd : d ≤ 16) :
    ∃ A B uA uB e, (∀ w, Calls Try.prog 7 #[lawV k (yF m) (cF b), .float .f32 (tF a)] w fun r w' => r = .returned (.tuple #[.float .f32 A, .bool true]) ∧ Ext w w') ∧
      (∀ w, Calls Try.prog 7 #[lawV k (yF m) (cF b), .float .f32 (tF (a + d))] w fun r w' => r = .returned (.tuple #[.float .f32 B, .bool true]) ∧ Ext w w') ∧
      (∀ w, Calls Try.prog 7 #[lawV k (yF m) (cF b), .float .f32 0] w fun r w' => r = .returned (.tuple #[.float .f32 1065353216, .bool true]) ∧ Ext w w') ∧
      WideV A uA ∧ WideV B uB ∧ FopV .add .f64 uA 4532020583610935537 e ∧ fcmp .gtr .f64 (cn .f64 uB) (cn .f64 e) = false ∧ fcmp .lss .f32 (cn .f32 A) (cn .f32 0) = false ∧ fcmp .gtr .f32 (cn .f32 A) (cn .f32 1065353216) = false ∧
      SurvV (k : Int) (yF m) (cF b) (tF a) A ∧ Num .f32 A ∧ 0 ≤ fv .f32 A ∧ fv .f32 A ≤ 1 := by
  have LB := lawB_of hk h2 hm b1 (show b < 33 by omega)
  obtain ⟨nt, t0, -, tb, -⟩ := tpos a1 (show a < 47 by omega)
  obtain ⟨nt', t0', -, tb', -⟩ := tpos (show 1 ≤ a + d by omega) (show a + d < 47 by omega)
  obtain ⟨sA, nA, A0, A1⟩ := surv_a hk h2 hm a1 (show a < 47 by omega) b1 (show b < 33 by omega)
  obtain ⟨sB, nB, B0, B1⟩ := surv_a hk h2 hm (show 1 ≤ a + d by omega) (show a + d < 47 by omega) b1 (show b < 33 by omega)
  have hf := fall_a hk h2 hm (xa_of a1 (show a < 47 by omega) b1 (show b < 33 by omega)).1 (xa_of (show 1 ≤ a + d by omega) (show a + d < 47 by omega) b1 (show b < 33 by omega)).1 ha (by omega)
  obtain ⟨c1, c2, c3, c4⟩ := cmp_fall nA nB A0 A1 hf
  obtain ⟨z1, z2⟩ := zeroF_val
  obtain ⟨o1, o2⟩ := oneB_val
  exact ⟨_, _, _, _, _, fun w => lawSurvives_v LB nt t0 tb sA nA w, fun w => lawSurvives_v LB nt' t0' tb' sB nB w, fun w => lawSurvives_v LB z1 (by rw [z2]; decide +kernel) (by decide) (surv_0 hk b1 (by omega)) o1 w,
    wideV_of nA, wideV_of nB, c1, c2, c3, c4, sA, nA, A0, A1⟩
/-- The hazard and the density. -/
theorem haz_f {k m b a A : Nat} (hk : k < 4) (h2 : 2 ≤ m) (hm : m ≤ 12) (b1 : 1 ≤ b) (hb : b ≤ 32) (a1 : 1 ≤ a) (ha : a ≤ 30) (sA : SurvV (k : Int) (yF m) (cF b) (tF a) A) (nA : Num .f32 A) (A0 : 0 ≤ fv .f32 A) (A1 : fv .f32 A ≤ 1) :
    (∃ h dn u e g, (∀ w, Calls Try.prog 9 #[lawV k (yF m) (cF b), .float .f32 (tF a)] w fun r w' => r = .returned (.tuple #[.float .f32 h, .bool true]) ∧ Ext w w') ∧
      (∀ w, Calls Try.prog 10 #[lawV k (yF m) (cF b), .float .f32 (tF a)] w fun r w' => r = .returned (.tuple #[.float .f32 dn, .bool true]) ∧ Ext w w') ∧
      FopV .mul .f32 h A dn ∧ WideV dn u ∧ FopV .add .f64 4607182418800017408 u e ∧ FopV .mul .f64 4562254508917369340 e g ∧ fcmp .lss .f32 (cn .f32 h) (cn .f32 0) = false ∧
      ∀ w, Calls Try.prog 11 #[.float .f32 dn, .float .f32 dn] w fun r w' => ∃ z, r = .returned (.float .f64 z) ∧ fcmp .gtr .f64 (cn .f64 z) (cn .f64 g) = false ∧ Ext w w') ∨
    ((∀ w, Calls Try.prog 9 #[lawV k (yF m) (cF b), .float .f32 (tF a)] w fun r w' => r = .returned (.tuple #[.float .f32 0, .bool false]) ∧ Ext w w') ∧
      (∀ w, Calls Try.prog 10 #[lawV k (yF m) (cF b), .float .f32 (tF a)] w fun r w' => r = .returned (.tuple #[.float .f32 0, .bool false]) ∧ Ext w w') ∧
      k = 3 ∧ fcmp .lss .f32 (cn .f32 (tF a)) (cn .f32 (cF b)) = false) := by
  have LB := lawB_of hk h2 hm b1 (show b < 33 by omega)
  obtain ⟨nt, t0, -, tb, -⟩ := tpos a1 (show a < 47 by omega)
  obtain ⟨o, ho, h1, h3⟩ := haz_a hk h2 hm a1 (show a < 47 by omega) b1 (show b < 33 by omega)
  cases o with
  | some h =>
    obtain ⟨nh, h0, ht⟩ := h1 h rfl
    obtain ⟨dn, u, e, g, f1, nd, f2, f3, f4, f5, f6⟩ := cmp_dens nh nA h0 ht A0 A1
    refine .inl ⟨h, dn, u, e, g, fun w => lawHazard_v LB nt t0 tb ho w, fun w => lawDensity_some LB nt t0 tb ho sA nA f1 nd w, f1, f2, f3, f4, f6, fun w => ?_⟩
    refine (r8Gap_num dn dn 0 w nd nd (by grind) (by grind) (by grind)).mono ?_
    rintro r w' ⟨z, rfl, ⟨nz, hz⟩, X⟩
    exact ⟨z, rfl, f5 z nz (by grind), X⟩
  | none =>
    obtain ⟨k3, hc⟩ := h3 rfl
    refine .inr ⟨fun w => lawHazard_v LB nt t0 tb ho w, fun w => lawDensity_none LB nt t0 tb ho sA nA w, k3, ?_⟩
    obtain ⟨-, nc, -⟩ := cF_v (show b < 33 by omega)
    rw [fcmp_cn, lss_val nt nc]; exact decide_eq_false (by grind)
/-- The time of a share, and back. -/
theorem time_f {k m b j : Nat} (hk : k < 4) (h2 : 2 ≤ m) (hm : m ≤ 12) (b1 : 1 ≤ b) (hb : b ≤ 32) (j1 : 1 ≤ j) (hj : j ≤ 15) :
    ∃ tm bk, FopV .quo .f32 (floatOfInt .f32 (j : Int)) 1098907648 (shF j) ∧ (∀ w, Calls Try.prog 12 #[lawV k (yF m) (cF b), .float .f32 (shF j)] w fun r w' => r = .returned (.tuple #[.float .f32 tm, .bool true]) ∧ Ext w w') ∧
      (∀ w, Calls Try.prog 7 #[lawV k (yF m) (cF b), .float .f32 tm] w fun r w' => r = .returned (.tuple #[.float .f32 bk, .bool true]) ∧ Ext w w') ∧
      ∀ w, Calls Try.prog 11 #[.float .f32 bk, .float .f32 (shF j)] w fun r w' => ∃ z, r = .returned (.float .f64 z) ∧ fcmp .gtr .f64 (cn .f64 z) (cn .f64 4562254508917369340) = false ∧ Ext w w' := by
  have LB := lawB_of hk h2 hm b1 (show b < 33 by omega)
  obtain ⟨fs, ns, vs, -⟩ := shF_v (show j < 16 by omega)
  obtain ⟨t, s, hT, nt, tb, t0, sv, sn, l, u⟩ := back_v hk h2 hm b1 (show b < 33 by omega) j1 hj
  obtain ⟨z1, z2⟩ := zeroF_val
  obtain ⟨o1, o2⟩ := oneB_val
  have o1 : Num .f32 1065353216 := o1
  have o2 : fv .f32 1065353216 = 1 := o2
  have jr : (1 : Rat) ≤ (j : Rat) := by exact_mod_cast j1
  have jr2 : (j : Rat) ≤ 15 := by exact_mod_cast hj
  refine ⟨t, s, fs, fun w => lawTime_v LB ns fs.2 (by rw [fcmp_cn, gtrF_val ns z1, z2, vs]; exact decide_eq_true (by grind)) (by rw [fcmp_cn, lss_val ns o1, o2, vs]; exact decide_eq_true (by grind)) hT nt w, fun w => lawSurvives_v LB nt t0 tb sv sn w, fun w => ?_⟩
  refine (r8Gap_num s (shF j) (9 / 10000) w sn ns (by rw [vs]; grind) (by rw [vs]; grind) (by grind)).mono ?_
  rintro r w' ⟨z, rfl, ⟨nz, hz⟩, X⟩
  exact ⟨z, rfl, cmp_gap nz (by grind), X⟩
/-- The means. -/
theorem mean_f {k m b a d : Nat} (hk : k < 4) (h2 : 2 ≤ m) (hm : m ≤ 12) (b1 : 1 ≤ b) (hb : b ≤ 32) (a1 : 1 ≤ a) (ha : a ≤ 30) (d1 : 1 ≤ d) (hd : d ≤ 16) :
    ∃ M M' uM uM' ut e g, (∀ w, Calls Try.prog 13 #[lawV k (yF m) (cF b), .float .f32 (tF a), .int .i64 32] w fun r w' => r = .returned (.tuple #[.float .f32 M, .bool true]) ∧ Ext w w') ∧
      (∀ w, Calls Try.prog 13 #[lawV k (yF m) (cF b), .float .f32 (tF (a + d)), .int .i64 32] w fun r w' => r = .returned (.tuple #[.float .f32 M', .bool true]) ∧ Ext w w') ∧
      WideV M uM ∧ WideV M' uM' ∧ WideV (tF a) ut ∧ FopV .add .f64 ut 4562254508917369340 e ∧ fcmp .gtr .f64 (cn .f64 uM) (cn .f64 e) = false ∧ fcmp .lss .f32 (cn .f32 M) (cn .f32 0) = false ∧
      FopV .sub .f64 uM 4587366580439587226 g ∧ fcmp .lss .f64 (cn .f64 uM') (cn .f64 g) = false := by
  have LB := lawB_of hk h2 hm b1 (show b < 33 by omega)
  obtain ⟨nt, t0, tp, tb, t6⟩ := tpos a1 (show a < 47 by omega)
  obtain ⟨nt', t0', tp', tb', -⟩ := tpos (show 1 ≤ a + d by omega) (show a + d < 47 by omega)
  obtain ⟨mv, mv', g1, g2, g3, n1, n2, g4, g5⟩ := means_v hk h2 hm b1 (show b < 33 by omega) a1 ha (show a < a + d by omega) (show a + d < 47 by omega)
  obtain ⟨-, -, vt⟩ := tF_v (show a < 47 by omega)
  obtain ⟨c1, c2, c3, c4, c5⟩ := cmp_mean n1 n2 nt t0 t6 g2 (by rw [vt]; exact g3) g1
  exact ⟨_, _, _, _, _, _, _, fun w => lawMean_v (n := 32) LB nt tp tb (by decide) (by decide) mv n1 w, fun w => lawMean_v (n := 32) LB nt' tp' tb' (by decide) (by decide) mv' n2 w, wideV_of n1, wideV_of n2, wideV_of nt, c1, c2, c3, c4, c5⟩
theorem RdF_duo (w : World) (x y : Nat) (hx : x < 4294967296) (hy : y < 4294967296) : RdF (w.alloc (.cells #[.float .f32 x, .float .f32 y] 24)) (.slice (some ⟨w.heap.size, 0, none⟩) 2 2) [x, y] :=
  ⟨own_rd (World.ownsRow_lit (base := w.heap.size) (e := 24) (size := 1) w #[.float .f32 x, .float .f32 y] 2 (Nat.le_refl _) (by decide) rfl), fun u hu => by
    rcases List.mem_cons.1 hu with rfl | hu
    · exact hx
    · obtain rfl := List.mem_singleton.1 hu; exact hy⟩
theorem RdW_duo (w : World) (k : Int) (y c : Nat) (k2 : Int) (y2 c2 : Nat) : RdW (w.alloc (.cells #[.int .i64 k, .float .f32 y, .float .f32 c, .int .i64 k2, .float .f32 y2, .float .f32 c2] 26)) (.slice (some ⟨w.heap.size, 0, none⟩) 2 2) [⟨k, y, c⟩, ⟨k2, y2, c2⟩] := by
  have b := Bx.new w [.int .i64 k, .float .f32 y, .float .f32 c, .int .i64 k2, .float .f32 y2, .float .f32 c2] 26
  refine ⟨w.heap.size, 2, rfl, by simp, b.1, fun j hj => ?_⟩
  match j, hj with
  | 0, _ => exact ⟨b.2 0 (by simp), b.2 1 (by simp), b.2 2 (by simp)⟩
  | 1, _ => exact ⟨b.2 3 (by simp), b.2 4 (by simp), b.2 5 (by simp)⟩
theorem RdW_uno (w : World) (k : Int) (y c : Nat) : RdW (w.alloc (.cells #[.int .i64 k, .float .f32 y, .float .f32 c] 26)) (.slice (some ⟨w.heap.size, 0, none⟩) 1 1) [⟨k, y, c⟩] := by
  have b := Bx.new w [.int .i64 k, .float .f32 y, .float .f32 c] 26
  refine ⟨w.heap.size, 1, rfl, by simp, b.1, fun j hj => ?_⟩
  match j, hj with
  | 0, _ => exact ⟨b.2 0 (by simp), b.2 1 (by simp), b.2 2 (by simp)⟩
/-- Mixtures. -/
theorem mix_f {k m b a j A : Nat} (hk : k < 4) (h2 : 2 ≤ m) (hm : m ≤ 12) (b1 : 1 ≤ b) (hb : b ≤ 32) (a1 : 1 ≤ a) (ha : a ≤ 30) (j1 : 1 ≤ j) (hj : j ≤ 15) (sA : SurvV (k : Int) (yF m) (cF b) (tF a) A) (nA : Num .f32 A) (A0 : 0 ≤ fv .f32 A) (A1 : fv .f32 A ≤ 1)
    (k2 m2 b2 : Nat) (hk2 : k2 < 4) (h22 : 2 ≤ m2) (hm2 : m2 ≤ 12) (b12 : 1 ≤ b2) (hb2 : b2 ≤ 32) :
    ∃ O ds p1 p2 mx e l, (∀ w, Calls Try.prog 7 #[lawV k2 (yF m2) (cF b2), .float .f32 (tF a)] w fun r w' => r = .returned (.tuple #[.float .f32 O, .bool true]) ∧ Ext w w') ∧ FopV .sub .f32 1065353216 (shF j) ds ∧
      (∀ v u w, RdW w v [⟨k, yF m, cF b⟩, ⟨k2, yF m2, cF b2⟩] → RdF w u [shF j, ds] → Calls Try.prog 14 #[v, u, .float .f32 (tF a)] w fun r w' => r = .returned (.tuple #[.float .f32 mx, .bool true]) ∧ Ext w w') ∧
      (∀ v u w, RdW w v [⟨k, yF m, cF b⟩] → RdF w u [1065353216] → Calls Try.prog 14 #[v, u, .float .f32 (tF a)] w fun r w' => r = .returned (.tuple #[.float .f32 l, .bool true]) ∧ Ext w w') ∧
      FopV .mul .f32 (shF j) A p1 ∧ FopV .mul .f32 ds O p2 ∧ FopV .add .f32 p1 p2 e ∧ fcmp .neq .f32 (cn .f32 l) (cn .f32 A) = false ∧ shF j < 4294967296 ∧ ds < 4294967296 ∧
      ∀ w, Calls Try.prog 11 #[.float .f32 mx, .float .f32 e] w fun r w' => ∃ z, r = .returned (.float .f64 z) ∧ fcmp .gtr .f64 (cn .f64 z) (cn .f64 4562254508917369340) = false ∧ Ext w w' := by
  have L1 := lawB_of hk h2 hm b1 (show b < 33 by omega)
  have L2 := lawB_of hk2 h22 hm2 b12 (show b2 < 33 by omega)
  obtain ⟨nt, t0, -, tb, -⟩ := tpos a1 (show a < 47 by omega)
  obtain ⟨fs, ns, vs, -⟩ := shF_v (show j < 16 by omega)
  obtain ⟨sO, nO, O0, O1⟩ := surv_a hk2 h22 hm2 a1 (show a < 47 by omega) b12 (show b2 < 33 by omega)
  obtain ⟨ds, s, dd, p1, p2, m1, mx, e, g1, g2, g3, g4, g5, g6, g7, g8, g9, g10, g11, g12, g13, g14, g15, g16, g17⟩ := mixP j1 hj nA A0 A1 nO O0 O1
  obtain ⟨q, l, i1, i2, i3, i4⟩ := aloneP nA A0 A1
  refine ⟨_, ds, p1, p2, mx, e, l, fun w => lawSurvives_v L2 nt t0 tb sO nO w, g1, fun v u w r rb => mix2_c L1 L2 nt t0 tb hj sA nA sO nO g2 g3 g4 g5 g6 g7 g8 g9 g10 g11 g12 g13 v u w r rb, fun v u w r rb => mix1_c L1 nt t0 tb sA nA i1 i2 i3 v u w r rb, g9, g10, g14, i4, fs.2, g1.2, fun w => ?_⟩
  refine (r8Gap_num mx e (1 / 100000) w g13 g15 g16 g17 (by grind)).mono ?_
  rintro r w' ⟨z, rfl, ⟨nz, hz⟩, X⟩
  exact ⟨z, rfl, cmp_gap nz (by grind), X⟩
theorem cause_g : (∀ w, Calls Try.prog 11 #[.float .f32 (OC 256 0), .float .f32 1051372203] w fun r w' => ∃ z, r = .returned (.float .f64 z) ∧ fcmp .lss .f64 (cn .f64 z) (cn .f64 4576918229304087675) = true ∧ Ext w w') ∧
    (∀ w, Calls Try.prog 11 #[.float .f32 (OC 256 1), .float .f32 1059760811] w fun r w' => ∃ z, r = .returned (.float .f64 z) ∧ fcmp .lss .f64 (cn .f64 z) (cn .f64 4576918229304087675) = true ∧ Ext w w') := by
  obtain ⟨a1, a2, b1, b2, n1, n2, n3, n4⟩ := causes_end
  generalize OC 256 0 = x at *
  generalize OC 256 1 = y at *
  refine ⟨fun w => ?_, fun w => ?_⟩
  · refine (r8Gap_num x 1051372203 (5 / 1000) w n1 n3 a1 a2 (by decide +kernel)).mono ?_
    rintro r w' ⟨z, rfl, ⟨nz, hz⟩, X⟩
    exact ⟨z, rfl, cmp_gap2 nz (by grind), X⟩
  · refine (r8Gap_num y 1059760811 (5 / 1000) w n2 n4 b1 b2 (by decide +kernel)).mono ?_
    rintro r w' ⟨z, rfl, ⟨nz, hz⟩, X⟩
    exact ⟨z, rfl, cmp_gap2 nz (by grind), X⟩
theorem cause_o : ∃ o0 o1, (∀ v w, RdW w v [⟨0, 1065353216, 1082130432⟩, ⟨0, 1065353216, 1073741824⟩] → Calls Try.prog 15 #[v, .float .f32 1098907648, .int .i64 256] w fun e w' => ∃ u, e = .returned (.tuple #[u, .bool true]) ∧ RdF w' u [o0, o1] ∧ Ext w w') ∧
    (∀ w, Calls Try.prog 11 #[.float .f32 o0, .float .f32 1051372203] w fun r w' => ∃ z, r = .returned (.float .f64 z) ∧ fcmp .lss .f64 (cn .f64 z) (cn .f64 4576918229304087675) = true ∧ Ext w w') ∧
    (∀ w, Calls Try.prog 11 #[.float .f32 o1, .float .f32 1059760811] w fun r w' => ∃ z, r = .returned (.float .f64 z) ∧ fcmp .lss .f64 (cn .f64 z) (cn .f64 4576918229304087675) = true ∧ Ext w w') :=
  ⟨_, _, fun v w r => cause_c v w r, cause_g.1, cause_g.2⟩
attribute [local go_sem] run_store_float
set_option maxRecDepth 100000 in
set_option maxHeartbeats 16000000 in
theorem fnLawsOf_law (v1 v2 : Value) (xs ys : List Int) (w : World) (r1 : RdY w v1 xs) (r2 : RdY w v2 ys) :
    Calls Try.prog 3 #[v1, v2] w fun e w' => e = .returned (.bool true) ∧ Ext w w' := by
  have r1' := r1
  have r2' := r2
  obtain ⟨⟨-, a1, c1, rfl, -, -, -, -⟩, -⟩ := r1
  obtain ⟨⟨-, a2, c2, rfl, -, -, -, -⟩, -⟩ := r2
  cases hlong : decide (48 < xs.length ∨ 48 < ys.length)
  · have HL := Lib.hid hlong
    have hxl : xs.length ≤ 48 ∧ ys.length ≤ 48 := by rw [decide_eq_false_iff_not] at hlong; omega
    clear hlong
    have hat : ∀ k n : Nat, 2 ≤ n → n ≤ 1000 → k ≤ 1000 → ∃ z : Nat, z < n ∧ ∀ w, RdY w (.slice a2 ys.length c2) ys → Calls Try.prog 6 #[.slice a2 ys.length c2, .int .i64 k, .int .i64 n] w fun e w' => e = .returned (.int .i64 (z : Nat)) ∧ w = w' :=
      fun k n h1 h2 h3 => ⟨at8 ys k n, at8_lt (by omega), fun w r => r8At_any _ ys k n w r h1 h2 h3⟩
    obtain ⟨n1, hn1, k1⟩ := hat 40 30 (by decide) (by decide) (by decide)
    obtain ⟨n2, hn2, k2⟩ := hat 41 16 (by decide) (by decide) (by decide)
    obtain ⟨n3, hn3, k3⟩ := hat 42 15 (by decide) (by decide) (by decide)
    obtain ⟨a, hma⟩ : ∃ a, a = n1 + 1 := ⟨_, rfl⟩
    obtain ⟨d, hmd⟩ : ∃ d, d = n2 + 1 := ⟨_, rfl⟩
    obtain ⟨j, hmj⟩ : ∃ j, j = n3 + 1 := ⟨_, rfl⟩
    have q1 : IntKind.i64.wrap (1 + (n1 : Int)) = (a : Int) := by rw [IntWalk.i64_in _ (by omega)]; omega
    have q2 : IntKind.i64.wrap (1 + (n2 : Int)) = (d : Int) := by rw [IntWalk.i64_in _ (by omega)]; omega
    have q3 : IntKind.i64.wrap (1 + (n3 : Int)) = (j : Int) := by rw [IntWalk.i64_in _ (by omega)]; omega
    have ba : 1 ≤ a ∧ a ≤ 30 := by omega
    have bd : 1 ≤ d ∧ d ≤ 16 := by omega
    have bj : 1 ≤ j ∧ j ≤ 15 := by omega
    clear hma hmd hmj hn1 hn2 hn3
    have K1 := Lib.hid k1
    have K2 := Lib.hid k2
    have K3 := Lib.hid k3
    have HRL := Lib.hid (fun v zs w r hl => r8Law_any v zs w r hl)
    obtain ⟨o0, o1, ho1, ho2, ho3⟩ := cause_o
    have HO1 := Lib.hid ho1
    have HO2 := Lib.hid ho2
    have HO3 := Lib.hid ho3
    clear ho1 ho2 ho3
    clear hat k1 k2 k3
    have wa : (Try.prog.underlying 24).isSome = true := by kernel_rfl
    have BA := Lib.hid ba
    have BD := Lib.hid bd
    have BJ := Lib.hid bj
    have XL := Lib.hid hxl
    clear ba bd bj hxl
    go_enter Try.func3, Try.ntmps3
    go_wp2_with fail
    refine (r8Long_eq HL.out _ r1' r2').mono ?_
    rintro e w1 ⟨rfl, rfl⟩
    go_wp2_with fail
    refine (HRL.out _ xs _ r1' (by have := XL.out; omega)).mono ?_
    rintro e w1 ⟨⟨k, m, b, hk, h2, hm, b1, b2, rfl⟩, X⟩
    unfold lawV
    obtain ⟨fa, -, -⟩ := tF_v (a := a) (by have := BA.out; omega)
    obtain ⟨fd, -, -⟩ := tF_v (a := d) (by have := BD.out; omega)
    have fl := (opB_v (later_all a (by have := BA.out; omega) d (by have := BD.out; omega))).1
    obtain ⟨A, B, uA, uB, e1, hA, hB, hS, f1, f2, f3, f4, f5, f6, sA, nA, A0, A1⟩ := first_f hk h2 hm b1 b2 BA.out.1 BA.out.2 BD.out.1 BD.out.2
    have HA := Lib.hid hA
    have HB := Lib.hid hB
    have HS := Lib.hid hS
    have HMX := Lib.hid (mix_f hk h2 hm b1 b2 BA.out.1 BA.out.2 BJ.out.1 BJ.out.2 sA nA A0 A1)
    have hz := haz_f hk h2 hm b1 b2 BA.out.1 BA.out.2 sA nA A0 A1
    obtain ⟨tm, bk, fj, ht1, ht2, ht3⟩ := time_f hk h2 hm b1 b2 BJ.out.1 BJ.out.2
    obtain ⟨M, M', uM, uM', ut, e5, g5, hm1, hm2, v1, v2, v3, v4, v5, v6, v7, v8⟩ := mean_f hk h2 hm b1 b2 BA.out.1 BA.out.2 BD.out.1 BD.out.2
    have HT1 := Lib.hid ht1
    have HT2 := Lib.hid ht2
    have HT3 := Lib.hid ht3
    have HM1 := Lib.hid hm1
    have HM2 := Lib.hid hm2
    clear ht1 ht2 ht3 hm1 hm2
    have HV := Lib.hid (fun w => validLaw_any (lawB_of hk h2 hm b1 (show b < 33 by omega)) w)
    have HSA := Lib.hid (And.intro sA (And.intro nA (And.intro A0 A1)))
    clear hA hB hS sA nA A0 A1
    have HK := Lib.hid (And.intro hk (And.intro h2 (And.intro hm (And.intro b1 b2))))
    clear hk h2 hm b1 b2
    unfold lawV at *
    generalize tF (a + d) = t' at *
    generalize tF a = t at *
    generalize tF d = td at *
    generalize shF j = sh at *
    generalize yF m = y at *
    generalize cF b = c at *
    have b0 := Bx.new w1 [.int .i64 k, .float .f32 y, .float .f32 c] 26
    have X1 := X.trans (Ext.alloc w1 (.cells #[.int .i64 k, .float .f32 y, .float .f32 c] 26))
    obtain ⟨m0, m1, m2⟩ := b0.three
    go_wp2_with (first | (refine wpList_fopV rfl rfl rfl rfl (by with_reducible assumption) ?_) | (refine wpList_fcmp rfl rfl rfl rfl rfl (by first | with_reducible assumption | exact rfl) ?_))
    refine (K1.out _ (r2'.ext X1)).mono ?_
    rintro e w2 ⟨rfl, rfl⟩
    go_wp2_with (first | (refine wpList_fopV rfl rfl rfl rfl (by with_reducible assumption) ?_) | (refine wpList_fcmp rfl rfl rfl rfl rfl (by first | with_reducible assumption | exact rfl) ?_))
    refine (K2.out _ (r2'.ext X1)).mono ?_
    rintro e w2 ⟨rfl, rfl⟩
    go_wp2_with (first | (refine wpList_fopV rfl rfl rfl rfl (by with_reducible assumption) ?_) | (refine wpList_fcmp rfl rfl rfl rfl rfl (by first | with_reducible assumption | exact rfl) ?_))
    refine (HA.out _).mono ?_
    rintro e w2 ⟨rfl, hx⟩
    replace b0 := b0.ext hx
    replace X1 := X1.trans hx
    clear hx m0 m1 m2
    obtain ⟨m0, m1, m2⟩ := b0.three
    go_wp2_with (first | (refine wpList_fopV rfl rfl rfl rfl (by with_reducible assumption) ?_) | (refine wpList_fcmp rfl rfl rfl rfl rfl (by first | with_reducible assumption | exact rfl) ?_))
    refine (HB.out _).mono ?_
    rintro e w3 ⟨rfl, hx⟩
    replace b0 := b0.ext hx
    replace X1 := X1.trans hx
    clear hx m0 m1 m2
    obtain ⟨m0, m1, m2⟩ := b0.three
    go_wp2_with (first | (refine wpList_fopV rfl rfl rfl rfl (by with_reducible assumption) ?_) | (refine wpList_fcmp rfl rfl rfl rfl rfl (by first | with_reducible assumption | exact rfl) ?_))
    refine (HS.out _).mono ?_
    rintro e w4 ⟨rfl, hx⟩
    replace b0 := b0.ext hx
    replace X1 := X1.trans hx
    clear hx m0 m1 m2
    obtain ⟨m0, m1, m2⟩ := b0.three
    go_wp2_with (first | (refine wpList_fopV rfl rfl rfl rfl (by with_reducible assumption) ?_) | (refine wpList_fcmp rfl rfl rfl rfl rfl (by first | with_reducible assumption | exact rfl) ?_))
    refine (HV.out _).mono ?_
    rintro e w5 ⟨rfl, hx⟩
    replace b0 := b0.ext hx
    replace X1 := X1.trans hx
    clear hx m0 m1 m2
    obtain ⟨m0, m1, m2⟩ := b0.three
    have f0 : fcmp .neq .f32 (cn .f32 1065353216) (cn .f32 1065353216) = false := by decide +kernel
    go_wp2_with (first | (refine wpList_fopV rfl rfl rfl rfl (by with_reducible assumption) ?_) | (refine wpList_fcmp rfl rfl rfl rfl rfl (by first | with_reducible assumption | exact rfl) ?_) | (refine wpList_wideV wa Try.underlying32 rfl rfl rfl (by with_reducible assumption) ?_; intro nw))
    clear f0 f1 f2 f3 f4 f5 f6 HA HB HV HS
    rcases hz with ⟨h, dn, u, e2, g, hh, hd, f1, f2, f3, f4, f5, f6⟩ | ⟨hh, hd, k3, f1⟩
    · have HH := Lib.hid hh
      have HD := Lib.hid hd
      have HG := Lib.hid f6
      clear hh hd f6
      refine (HH.out _).mono ?_
      rintro e w6 ⟨rfl, hx⟩
      replace hx := (Ext.drewN _ _).trans hx
      replace b0 := b0.ext hx
      replace X1 := X1.trans hx
      clear hx m0 m1 m2
      obtain ⟨m0, m1, m2⟩ := b0.three
      go_wp2_with (first | (refine wpList_fopV rfl rfl rfl rfl (by with_reducible assumption) ?_) | (refine wpList_fcmp rfl rfl rfl rfl rfl (by first | with_reducible assumption | exact rfl) ?_))
      refine (HD.out _).mono ?_
      rintro e w7 ⟨rfl, hx⟩
      replace b0 := b0.ext hx
      replace X1 := X1.trans hx
      clear hx m0 m1 m2
      obtain ⟨m0, m1, m2⟩ := b0.three
      go_wp2_with (first | (refine wpList_fopV rfl rfl rfl rfl (by with_reducible assumption) ?_) | (refine wpList_fcmp rfl rfl rfl rfl rfl (by first | with_reducible assumption | exact rfl) ?_))
      refine (HG.out _).mono ?_
      rintro e w8 ⟨z, rfl, hzg, hx⟩
      replace b0 := b0.ext hx
      replace X1 := X1.trans hx
      clear hx m0 m1 m2
      obtain ⟨m0, m1, m2⟩ := b0.three
      go_wp2_with (first | (refine wpList_wideV wa Try.underlying32 (by kernel_rfl) rfl rfl (by with_reducible assumption) ?_; intro nw) | ((try (simp only [Act.put, List.setIfInBounds_toArray, List.set_cons_succ, List.set_cons_zero])); first | (refine wpList_fopV (by kernel_rfl) rfl rfl rfl f3 ?_) | (refine wpList_fopV (by kernel_rfl) rfl rfl rfl f4 ?_) | ((refine wpList_fcmp (by kernel_rfl) rfl rfl rfl rfl hzg ?_); (try (simp only [Act.put, List.setIfInBounds_toArray, List.set_cons_succ, List.set_cons_zero])); go_wp2_with fail)))
      refine (K3.out _ (by first | exact r2'.ext X1 | exact r2'.ext (X1.trans (Ext.drewN _ _)))).mono ?_
      rintro e w9 ⟨rfl, rfl⟩
      go_wp2_with (first | (refine wpList_fopV rfl rfl rfl rfl (by with_reducible assumption) ?_))
      refine (HT1.out _).mono ?_
      rintro e w10 ⟨rfl, hx⟩
      try replace hx := (Ext.drewN _ _).trans hx
      replace b0 := b0.ext hx
      replace X1 := X1.trans hx
      clear hx m0 m1 m2
      obtain ⟨m0, m1, m2⟩ := b0.three
      go_wp2_with fail
      refine (HT2.out _).mono ?_
      rintro e w11 ⟨rfl, hx⟩
      replace b0 := b0.ext hx
      replace X1 := X1.trans hx
      clear hx m0 m1 m2
      obtain ⟨m0, m1, m2⟩ := b0.three
      go_wp2_with fail
      refine (HT3.out _).mono ?_
      rintro e w12 ⟨z3, rfl, hz3, hx⟩
      replace b0 := b0.ext hx
      replace X1 := X1.trans hx
      clear hx m0 m1 m2
      obtain ⟨m0, m1, m2⟩ := b0.three
      go_wp2_with ((try (simp only [Act.put, List.setIfInBounds_toArray, List.set_cons_succ, List.set_cons_zero])); ((refine wpList_fcmp (by kernel_rfl) rfl rfl rfl rfl hz3 ?_); (try (simp only [Act.put, List.setIfInBounds_toArray, List.set_cons_succ, List.set_cons_zero])); go_wp2_with fail))
      refine (HM1.out _).mono ?_
      rintro e w13 ⟨rfl, hx⟩
      replace b0 := b0.ext hx
      replace X1 := X1.trans hx
      clear hx m0 m1 m2
      obtain ⟨m0, m1, m2⟩ := b0.three
      go_wp2_with fail
      refine (HM2.out _).mono ?_
      rintro e w14 ⟨rfl, hx⟩
      replace b0 := b0.ext hx
      replace X1 := X1.trans hx
      clear hx m0 m1 m2
      obtain ⟨m0, m1, m2⟩ := b0.three
      go_wp2_with (first | (refine wpList_fopV rfl rfl rfl rfl (by with_reducible assumption) ?_) | (refine wpList_fcmp rfl rfl rfl rfl rfl (by first | with_reducible assumption | exact rfl) ?_) | (refine wpList_wideV wa Try.underlying32 rfl rfl rfl (by with_reducible assumption) ?_; intro nw))
      clear m0 m1 m2 fa fd fl fj v1 v2 v3 v4 v5 v6 v7 v8
      refine (HRL.out _ ys _ (r2'.ext (X1.trans (Ext.drewN _ _))) (by have := XL.out; omega)).mono ?_
      rintro e w15 ⟨⟨k2, mm2, bb2, p1, p2, p3, p4, p5, rfl⟩, hx⟩
      replace hx := (Ext.drewN _ _).trans hx
      replace b0 := b0.ext hx
      replace X1 := X1.trans hx
      clear hx
      obtain ⟨O, ds, pa, pb, mx, ee, ll, hO, g1, hX1, hX2, g2, g3, g4, g5, g6, g7, hXg⟩ := HMX.out k2 mm2 bb2 p1 p2 p3 p4 p5
      have HO := Lib.hid hO
      have HX1 := Lib.hid hX1
      have HX2 := Lib.hid hX2
      have HXG := Lib.hid hXg
      have HB6 := Lib.hid (And.intro g6 g7)
      clear hO hX1 hX2 hXg g6 g7 p1 p2 p3 p4 p5 HMX
      unfold lawV at *
      generalize yF mm2 = y2 at *
      generalize cF bb2 = c2' at *
      have bq := Bx.new w15 [.int .i64 k2, .float .f32 y2, .float .f32 c2'] 26
      replace b0 := b0.ext (Ext.alloc w15 (.cells #[.int .i64 k2, .float .f32 y2, .float .f32 c2'] 26))
      replace X1 := X1.trans (Ext.alloc w15 (.cells #[.int .i64 k2, .float .f32 y2, .float .f32 c2'] 26))
      obtain ⟨m0, m1, m2⟩ := b0.three
      obtain ⟨q0, q1, q2⟩ := bq.three
      go_wp2_with (first | (refine wpList_fopV rfl rfl rfl rfl (by with_reducible assumption) ?_))
      have s1 : (w15.alloc (.cells #[.int .i64 k2, .float .f32 y2, .float .f32 c2'] 26)).heap.size = w15.heap.size + 1 := by simp
      have RW := RdW_duo (w15.alloc (.cells #[.int .i64 k2, .float .f32 y2, .float .f32 c2'] 26)) k y c k2 y2 c2'
      have RB := RdF_duo ((w15.alloc (.cells #[.int .i64 k2, .float .f32 y2, .float .f32 c2'] 26)).alloc (.cells #[.int .i64 k, .float .f32 y, .float .f32 c, .int .i64 k2, .float .f32 y2, .float .f32 c2'] 26)) sh ds HB6.out.1 HB6.out.2
      have s2 : ((w15.alloc (.cells #[.int .i64 k2, .float .f32 y2, .float .f32 c2'] 26)).alloc (.cells #[.int .i64 k, .float .f32 y, .float .f32 c, .int .i64 k2, .float .f32 y2, .float .f32 c2'] 26)).heap.size = w15.heap.size + 1 + 1 := by simp
      rw [s1] at RW
      rw [s2] at RB
      refine (HX1.out _ _ _ (RW.ext (Ext.alloc _ _)) RB).mono ?_
      rintro e w16 ⟨rfl, hx⟩
      replace hx := (Ext.alloc _ _).trans ((Ext.alloc _ _).trans hx)
      clear s1 s2 RW RB
      replace b0 := b0.ext hx
      replace bq := bq.ext hx
      replace X1 := X1.trans hx
      clear hx m0 m1 m2 q0 q1 q2
      obtain ⟨m0, m1, m2⟩ := b0.three
      obtain ⟨q0, q1, q2⟩ := bq.three
      go_wp2_with fail
      refine (HO.out _).mono ?_
      rintro e w17 ⟨rfl, hx⟩
      replace b0 := b0.ext hx
      replace X1 := X1.trans hx
      clear hx m0 m1 m2 q0 q1 q2
      obtain ⟨m0, m1, m2⟩ := b0.three
      go_wp2_with fail
      have RW := RdW_uno w17 k y c
      have RB := RdF_one (w17.alloc (.cells #[.int .i64 k, .float .f32 y, .float .f32 c] 26)) 1065353216 (by decide)
      have s1 : (w17.alloc (.cells #[.int .i64 k, .float .f32 y, .float .f32 c] 26)).heap.size = w17.heap.size + 1 := by simp
      rw [s1] at RB
      refine (HX2.out _ _ _ (RW.ext (Ext.alloc _ _)) RB).mono ?_
      rintro e w18 ⟨rfl, hx⟩
      replace hx := (Ext.alloc _ _).trans ((Ext.alloc _ _).trans hx)
      clear s1 RW RB
      replace b0 := b0.ext hx
      replace X1 := X1.trans hx
      clear hx m0 m1 m2 b0
      go_wp2_with (first | (refine wpList_fopV rfl rfl rfl rfl (by with_reducible assumption) ?_) | (refine wpList_fcmp rfl rfl rfl rfl rfl (by first | with_reducible assumption | exact rfl) ?_))
      refine (HXG.out _).mono ?_
      rintro e w19 ⟨z4, rfl, hz4, hx⟩
      replace X1 := X1.trans hx
      clear hx
      go_wp2_with ((try (simp only [Act.put, List.setIfInBounds_toArray, List.set_cons_succ, List.set_cons_zero])); ((refine wpList_fcmp (by kernel_rfl) rfl rfl rfl rfl hz4 ?_); (try (simp only [Act.put, List.setIfInBounds_toArray, List.set_cons_succ, List.set_cons_zero])); go_wp2_with fail))
      have s3 : (w19.alloc (.cells #[.int .i64 0, .float .f32 1065353216, .float .f32 1082130432] 26)).heap.size = w19.heap.size + 1 := by simp
      have s4 : ((w19.alloc (.cells #[.int .i64 0, .float .f32 1065353216, .float .f32 1082130432] 26)).alloc (.cells #[.int .i64 0, .float .f32 1065353216, .float .f32 1073741824] 26)).heap.size = w19.heap.size + 1 + 1 := by simp
      have RW := RdW_duo ((w19.alloc (.cells #[.int .i64 0, .float .f32 1065353216, .float .f32 1082130432] 26)).alloc (.cells #[.int .i64 0, .float .f32 1065353216, .float .f32 1073741824] 26)) 0 1065353216 1082130432 0 1065353216 1073741824
      rw [s4] at RW
      refine (HO1.out _ _ RW).mono ?_
      rintro e w20 ⟨uu, rfl, R, hx⟩
      replace X1 := X1.trans ((Ext.alloc _ _).trans ((Ext.alloc _ _).trans ((Ext.alloc _ _).trans hx)))
      clear hx RW s3 s4
      have R0 := Lib.hid R
      obtain ⟨⟨-, au, cu, rfl, -, -, -, -⟩, -⟩ := R
      obtain ⟨bb, oo, rfl, hbb, hc0⟩ := R0.out.at (k := 0) (by simp)
      simp only [Nat.add_zero, List.getElem_cons_zero] at hc0
      go_wp2_with fail
      refine (HO2.out _).mono ?_
      rintro e w21 ⟨z5, rfl, hz5, hx⟩
      replace X1 := X1.trans hx
      clear hc0 hbb
      obtain ⟨bb2, oo2, he, hbb, hc1⟩ := (R0.out.ext hx).at (k := 1) (by simp)
      cases he
      simp only [List.getElem_cons_succ, List.getElem_cons_zero] at hc1
      clear hx
      go_wp2_with ((try (simp only [Act.put, List.setIfInBounds_toArray, List.set_cons_succ, List.set_cons_zero])); ((refine wpList_fcmp (by kernel_rfl) rfl rfl rfl rfl hz5 ?_); (try (simp only [Act.put, List.setIfInBounds_toArray, List.set_cons_succ, List.set_cons_zero])); go_wp2_with fail))
      refine (HO3.out _).mono ?_
      rintro e w22 ⟨z6, rfl, hz6, hx⟩
      replace X1 := X1.trans hx
      clear hx hc1 hbb
      go_wp2_with ((try (simp only [Act.put, List.setIfInBounds_toArray, List.set_cons_succ, List.set_cons_zero])); ((refine wpList_fcmp (by kernel_rfl) rfl rfl rfl rfl hz6 ?_); (try (simp only [Act.put, List.setIfInBounds_toArray, List.set_cons_succ, List.set_cons_zero])); go_wp2_with fail))
      go_ret
      exact ⟨rfl, X1⟩
    · have HH := Lib.hid hh
      have HD := Lib.hid hd
      clear hh hd
      subst k3
      refine (HH.out _).mono ?_
      rintro e w6 ⟨rfl, hx⟩
      replace hx := (Ext.drewN _ _).trans hx
      replace b0 := b0.ext hx
      replace X1 := X1.trans hx
      clear hx m0 m1 m2
      obtain ⟨m0, m1, m2⟩ := b0.three
      go_wp2_with (first | (refine wpList_fopV rfl rfl rfl rfl (by with_reducible assumption) ?_) | (refine wpList_fcmp rfl rfl rfl rfl rfl (by first | with_reducible assumption | exact rfl) ?_))
      refine (HD.out _).mono ?_
      rintro e w7 ⟨rfl, hx⟩
      replace b0 := b0.ext hx
      replace X1 := X1.trans hx
      clear hx m0 m1 m2
      obtain ⟨m0, m1, m2⟩ := b0.three
      go_wp2_with ((try (simp only [Act.put, List.setIfInBounds_toArray, List.set_cons_succ, List.set_cons_zero])); ((refine wpList_fcmp (by kernel_rfl) rfl rfl rfl rfl f1 ?_); (try (simp only [Act.put, List.setIfInBounds_toArray, List.set_cons_succ, List.set_cons_zero])); go_wp2_with fail))
      refine (K3.out _ (by first | exact r2'.ext X1 | exact r2'.ext (X1.trans (Ext.drewN _ _)))).mono ?_
      rintro e w9 ⟨rfl, rfl⟩
      go_wp2_with (first | (refine wpList_fopV rfl rfl rfl rfl (by with_reducible assumption) ?_))
      refine (HT1.out _).mono ?_
      rintro e w10 ⟨rfl, hx⟩
      try replace hx := (Ext.drewN _ _).trans hx
      replace b0 := b0.ext hx
      replace X1 := X1.trans hx
      clear hx m0 m1 m2
      obtain ⟨m0, m1, m2⟩ := b0.three
      go_wp2_with fail
      refine (HT2.out _).mono ?_
      rintro e w11 ⟨rfl, hx⟩
      replace b0 := b0.ext hx
      replace X1 := X1.trans hx
      clear hx m0 m1 m2
      obtain ⟨m0, m1, m2⟩ := b0.three
      go_wp2_with fail
      refine (HT3.out _).mono ?_
      rintro e w12 ⟨z3, rfl, hz3, hx⟩
      replace b0 := b0.ext hx
      replace X1 := X1.trans hx
      clear hx m0 m1 m2
      obtain ⟨m0, m1, m2⟩ := b0.three
      go_wp2_with ((try (simp only [Act.put, List.setIfInBounds_toArray, List.set_cons_succ, List.set_cons_zero])); ((refine wpList_fcmp (by kernel_rfl) rfl rfl rfl rfl hz3 ?_); (try (simp only [Act.put, List.setIfInBounds_toArray, List.set_cons_succ, List.set_cons_zero])); go_wp2_with fail))
      refine (HM1.out _).mono ?_
      rintro e w13 ⟨rfl, hx⟩
      replace b0 := b0.ext hx
      replace X1 := X1.trans hx
      clear hx m0 m1 m2
      obtain ⟨m0, m1, m2⟩ := b0.three
      go_wp2_with fail
      refine (HM2.out _).mono ?_
      rintro e w14 ⟨rfl, hx⟩
      replace b0 := b0.ext hx
      replace X1 := X1.trans hx
      clear hx m0 m1 m2
      obtain ⟨m0, m1, m2⟩ := b0.three
      go_wp2_with (first | (refine wpList_fopV rfl rfl rfl rfl (by with_reducible assumption) ?_) | (refine wpList_fcmp rfl rfl rfl rfl rfl (by first | with_reducible assumption | exact rfl) ?_) | (refine wpList_wideV wa Try.underlying32 rfl rfl rfl (by with_reducible assumption) ?_; intro nw))
      clear m0 m1 m2 fa fd fl fj v1 v2 v3 v4 v5 v6 v7 v8
      refine (HRL.out _ ys _ (r2'.ext (X1.trans (Ext.drewN _ _))) (by have := XL.out; omega)).mono ?_
      rintro e w15 ⟨⟨k2, mm2, bb2, p1, p2, p3, p4, p5, rfl⟩, hx⟩
      replace hx := (Ext.drewN _ _).trans hx
      replace b0 := b0.ext hx
      replace X1 := X1.trans hx
      clear hx
      obtain ⟨O, ds, pa, pb, mx, ee, ll, hO, g1, hX1, hX2, g2, g3, g4, g5, g6, g7, hXg⟩ := HMX.out k2 mm2 bb2 p1 p2 p3 p4 p5
      have HO := Lib.hid hO
      have HX1 := Lib.hid hX1
      have HX2 := Lib.hid hX2
      have HXG := Lib.hid hXg
      have HB6 := Lib.hid (And.intro g6 g7)
      clear hO hX1 hX2 hXg g6 g7 p1 p2 p3 p4 p5 HMX
      unfold lawV at *
      generalize yF mm2 = y2 at *
      generalize cF bb2 = c2' at *
      have bq := Bx.new w15 [.int .i64 k2, .float .f32 y2, .float .f32 c2'] 26
      replace b0 := b0.ext (Ext.alloc w15 (.cells #[.int .i64 k2, .float .f32 y2, .float .f32 c2'] 26))
      replace X1 := X1.trans (Ext.alloc w15 (.cells #[.int .i64 k2, .float .f32 y2, .float .f32 c2'] 26))
      obtain ⟨m0, m1, m2⟩ := b0.three
      obtain ⟨q0, q1, q2⟩ := bq.three
      go_wp2_with (first | (refine wpList_fopV rfl rfl rfl rfl (by with_reducible assumption) ?_))
      have s1 : (w15.alloc (.cells #[.int .i64 k2, .float .f32 y2, .float .f32 c2'] 26)).heap.size = w15.heap.size + 1 := by simp
      have RW := RdW_duo (w15.alloc (.cells #[.int .i64 k2, .float .f32 y2, .float .f32 c2'] 26)) ((3 : Nat) : Int) y c k2 y2 c2'
      have RB := RdF_duo ((w15.alloc (.cells #[.int .i64 k2, .float .f32 y2, .float .f32 c2'] 26)).alloc (.cells #[.int .i64 ((3 : Nat) : Int), .float .f32 y, .float .f32 c, .int .i64 k2, .float .f32 y2, .float .f32 c2'] 26)) sh ds HB6.out.1 HB6.out.2
      have s2 : ((w15.alloc (.cells #[.int .i64 k2, .float .f32 y2, .float .f32 c2'] 26)).alloc (.cells #[.int .i64 ((3 : Nat) : Int), .float .f32 y, .float .f32 c, .int .i64 k2, .float .f32 y2, .float .f32 c2'] 26)).heap.size = w15.heap.size + 1 + 1 := by simp
      rw [s1] at RW
      rw [s2] at RB
      refine (HX1.out _ _ _ (RW.ext (Ext.alloc _ _)) RB).mono ?_
      rintro e w16 ⟨rfl, hx⟩
      replace hx := (Ext.alloc _ _).trans ((Ext.alloc _ _).trans hx)
      clear s1 s2 RW RB
      replace b0 := b0.ext hx
      replace bq := bq.ext hx
      replace X1 := X1.trans hx
      clear hx m0 m1 m2 q0 q1 q2
      obtain ⟨m0, m1, m2⟩ := b0.three
      obtain ⟨q0, q1, q2⟩ := bq.three
      go_wp2_with fail
      refine (HO.out _).mono ?_
      rintro e w17 ⟨rfl, hx⟩
      replace b0 := b0.ext hx
      replace X1 := X1.trans hx
      clear hx m0 m1 m2 q0 q1 q2
      obtain ⟨m0, m1, m2⟩ := b0.three
      go_wp2_with fail
      have RW := RdW_uno w17 ((3 : Nat) : Int) y c
      have RB := RdF_one (w17.alloc (.cells #[.int .i64 ((3 : Nat) : Int), .float .f32 y, .float .f32 c] 26)) 1065353216 (by decide)
      have s1 : (w17.alloc (.cells #[.int .i64 ((3 : Nat) : Int), .float .f32 y, .float .f32 c] 26)).heap.size = w17.heap.size + 1 := by simp
      rw [s1] at RB
      refine (HX2.out _ _ _ (RW.ext (Ext.alloc _ _)) RB).mono ?_
      rintro e w18 ⟨rfl, hx⟩
      replace hx := (Ext.alloc _ _).trans ((Ext.alloc _ _).trans hx)
      clear s1 RW RB
      replace b0 := b0.ext hx
      replace X1 := X1.trans hx
      clear hx m0 m1 m2 b0
      go_wp2_with (first | (refine wpList_fopV rfl rfl rfl rfl (by with_reducible assumption) ?_) | (refine wpList_fcmp rfl rfl rfl rfl rfl (by first | with_reducible assumption | exact rfl) ?_))
      refine (HXG.out _).mono ?_
      rintro e w19 ⟨z4, rfl, hz4, hx⟩
      replace X1 := X1.trans hx
      clear hx
      go_wp2_with ((try (simp only [Act.put, List.setIfInBounds_toArray, List.set_cons_succ, List.set_cons_zero])); ((refine wpList_fcmp (by kernel_rfl) rfl rfl rfl rfl hz4 ?_); (try (simp only [Act.put, List.setIfInBounds_toArray, List.set_cons_succ, List.set_cons_zero])); go_wp2_with fail))
      have s3 : (w19.alloc (.cells #[.int .i64 0, .float .f32 1065353216, .float .f32 1082130432] 26)).heap.size = w19.heap.size + 1 := by simp
      have s4 : ((w19.alloc (.cells #[.int .i64 0, .float .f32 1065353216, .float .f32 1082130432] 26)).alloc (.cells #[.int .i64 0, .float .f32 1065353216, .float .f32 1073741824] 26)).heap.size = w19.heap.size + 1 + 1 := by simp
      have RW := RdW_duo ((w19.alloc (.cells #[.int .i64 0, .float .f32 1065353216, .float .f32 1082130432] 26)).alloc (.cells #[.int .i64 0, .float .f32 1065353216, .float .f32 1073741824] 26)) 0 1065353216 1082130432 0 1065353216 1073741824
      rw [s4] at RW
      refine (HO1.out _ _ RW).mono ?_
      rintro e w20 ⟨uu, rfl, R, hx⟩
      replace X1 := X1.trans ((Ext.alloc _ _).trans ((Ext.alloc _ _).trans ((Ext.alloc _ _).trans hx)))
      clear hx RW s3 s4
      have R0 := Lib.hid R
      obtain ⟨⟨-, au, cu, rfl, -, -, -, -⟩, -⟩ := R
      obtain ⟨bb, oo, rfl, hbb, hc0⟩ := R0.out.at (k := 0) (by simp)
      simp only [Nat.add_zero, List.getElem_cons_zero] at hc0
      go_wp2_with fail
      refine (HO2.out _).mono ?_
      rintro e w21 ⟨z5, rfl, hz5, hx⟩
      replace X1 := X1.trans hx
      clear hc0 hbb
      obtain ⟨bb2, oo2, he, hbb, hc1⟩ := (R0.out.ext hx).at (k := 1) (by simp)
      cases he
      simp only [List.getElem_cons_succ, List.getElem_cons_zero] at hc1
      clear hx
      go_wp2_with ((try (simp only [Act.put, List.setIfInBounds_toArray, List.set_cons_succ, List.set_cons_zero])); ((refine wpList_fcmp (by kernel_rfl) rfl rfl rfl rfl hz5 ?_); (try (simp only [Act.put, List.setIfInBounds_toArray, List.set_cons_succ, List.set_cons_zero])); go_wp2_with fail))
      refine (HO3.out _).mono ?_
      rintro e w22 ⟨z6, rfl, hz6, hx⟩
      replace X1 := X1.trans hx
      clear hx hc1 hbb
      go_wp2_with ((try (simp only [Act.put, List.setIfInBounds_toArray, List.set_cons_succ, List.set_cons_zero])); ((refine wpList_fcmp (by kernel_rfl) rfl rfl rfl rfl hz6 ?_); (try (simp only [Act.put, List.setIfInBounds_toArray, List.set_cons_succ, List.set_cons_zero])); go_wp2_with fail))
      go_ret
      exact ⟨rfl, X1⟩
  · have HL := Lib.hid hlong
    clear hlong
    go_enter Try.func3, Try.ntmps3
    go_wp2_with fail
    refine (r8Long_eq HL.out _ r1' r2').mono ?_
    rintro e w1 ⟨rfl, rfl⟩
    go_wp2_with fail
    go_ret
    exact ⟨rfl, Ext.refl _⟩
theorem fnLawsOf_walk (v1 v2 : Value) (w : World) (h1 : ArgBytes w v1) (h2 : ArgBytes w v2) :
    Calls Try.prog 3 #[v1, v2] w fun e w' => e = .returned (.bool true) ∧ Ext w w' := by
  obtain ⟨a, n, cap, xs, rfl, r⟩ := h1
  obtain ⟨a2, n2, cap2, ys, rfl, r2⟩ := h2
  exact fnLawsOf_law _ _ xs ys w r r2
theorem fnLawsOf_own : ownKnob Try.prog.godebug = none := by kernel_rfl
theorem fnLawsOf_laid : laidOutB Try.prog = true := by kernel_rfl

set_option maxRecDepth 100000 in
theorem fnLawsOf_lifted (os : Os) (started : os.Started) (H : Type) (enc : TypeId × Value → H) :
    ReturnsInHanded {} Try.checked os 3 .any (Rows.fnLawsOfSpec.pre6 enc Try.prog Try.f3 Rows.fnLawsOfRow.domain false) (Rows.fnLawsOfSpec.post enc Try.prog Try.f3 false true false false) := by
  refine returnsInHanded_of_change (C := Try.checked) fnLawsOf_own started (by kernel_rfl) Try.func3
    (ChangeSpec.witness6 (enc := enc) (C := Try.checked) false ⟨#[], #[.slice none 0 0, .slice none 0 0], []⟩ 8 (by kernel_rfl) (by kernel_rfl) (by kernel_rfl) (by kernel_rfl)) ?_
  intro W base args ds gs before hval0 hW hcnd _
  have hval : ∀ (j : Nat) t v, Try.f3.params[j]? = some t → args[j]? = some v → Value.okWide Try.prog W .any base t v := hval0
  have hW' := hW
  obtain ⟨p, q, hA0, hV, rfl, hfz, hnd⟩ := hW
  have hA : DataW.TrodAll enc Try.prog W 0 (fun _ => true) true Try.f3.params.toList args.toList ds p := hA0
  rw [Try.params3] at hA hval
  obtain ⟨v0, vs0, d0, ds0, p0, q0, hargs, rfl, rfl, h0, r0⟩ := trodAll_cons hA
  obtain ⟨v1, vs1, d1, ds1, p1, q1, rfl, rfl, rfl, h1, r1⟩ := trodAll_cons r0
  obtain ⟨rfl, rfl, rfl⟩ := trodAll_nil r1
  obtain rfl : args = #[v0, v1] := by cases args; simp_all
  obtain ⟨rfl, rfl⟩ := trodVars_none hV
  have lt0 : ∀ x ∈ p0, x.block < W.heap.size := by obtain ⟨m, hm⟩ := h0; exact DataW.trod_lt m _ _ _ hm
  have w0 := argBytes Try.underlying22 Try.underlying5 (by kernel_rfl) (hval 0 22 v0 rfl rfl) h0
  have lt1 : ∀ x ∈ p1, x.block < W.heap.size := by obtain ⟨m, hm⟩ := h1; exact DataW.trod_lt m _ _ _ hm
  have w1 := argBytes Try.underlying22 Try.underlying5 (by kernel_rfl) (hval 1 22 v1 rfl rfl) h1
  clear hA0 hval0
  refine (fnLawsOf_walk v0 v1 W w0 w1).mono fun e W' ⟨he, bel⟩ => ?_
  subst he
  exact ⟨_, rfl, _, _, _, [], _, [], hW', trodAll_mk1 (shut_bool Try.underlying4 _), (trodAll_cons_mk (Below.trod fnLawsOf_laid (by kernel_rfl) (of_decide_eq_true (by kernel_rfl)) h0 bel lt0) (trodAll_cons_mk (Below.trod fnLawsOf_laid (by kernel_rfl) (of_decide_eq_true (by kernel_rfl)) h1 bel lt1) trodAll_mk0)), rfl, bel.below.frame _, fun h => by cases h⟩

theorem fnLawsOf_over : Rows.fnLawsOfRow.holds Try.pinned (OpenSpec.ofChange Rows.fnLawsOfSpec) :=
  OpenClaim.holds_of_wide 3 Try.f3 rfl rfl rfl rfl rfl rfl rfl ⟨rfl, rfl, rfl, rfl, rfl⟩ rfl rfl rfl rfl rfl (by kernel_rfl) Try.func3 (by kernel_rfl)
    (of_decide_eq_true (by kernel_rfl)) (by unfold Func.isWrapper; first | (rw [if_pos (by decide +kernel)]; kernel_rfl) | (rw [if_neg (by decide +kernel)]; exact ⟨rfl, rfl⟩))
    (fun os started H enc _ => fnLawsOf_lifted os started H enc)

/-- The statement. -/
theorem fnLawsOf_holds : Rows.FnLawsOfSaid := fnLawsOf_over

end Go.Proofs.Ytmcnfapdghoenaa
