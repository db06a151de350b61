
/- The logarithm: what the program and the reference compute of a number above zero, in double precision. Condition: a number from 2^-149 to 2^128. -/
import Derived.Test.YtlbmjeennpccmaaTi
import Derived.Test.YtlbmjeennpccmaaEx
namespace Go.Proofs.Ytlbmjeennpccmaa
open Go Go.RowKit Go.ChangeShapes Go.WideShapes Go.ChangeAt

theorem cn_15 : cn .f64 4609434218613702656 = c15 := by decide +kernel
theorem cn_075 : cn .f64 4604930618986332160 = c075 := by decide +kernel
theorem cn_twoD : cn .f64 4611686018427387904 = twoD := by decide +kernel
theorem cn_oneL : cn .f64 4607182418800017408 = oneD := by decide +kernel
theorem cn_ln2 : cn .f64 4604418534313441775 = ln2D := by decide +kernel
theorem ofD_zero : ofD 0 = 0 := by decide +kernel
theorem ofD_25 : ofD 25 = 4627730092099895296 := by decide +kernel
theorem ba_cn {b : Nat} {c : Int} (h : Ba .f64 b c) : cn .f64 b = b := cn_of_not h.notN
theorem HvOk.cn {y j : Nat} (h : HvOk y j) : cn .f64 (hvD y j) = hvD y j := cn_of_not h.2.2.notN
theorem TwOk.cn {y j : Nat} (h : TwOk y j) : cn .f64 (twD y j) = twD y j := cn_of_not h.2.2.notN

theorem isInf_one (y : Nat) (c : Bool) (h : fcmp .gtr .f64 (cn .f64 y) (cn .f64 9218868437227405311) = c) (w : World) : Calls Try.prog 107 #[.float .f64 y, .int .i64 1] w fun e w' => e = .returned (.bool c) ∧ w = w' := by
  go_enter Try.func107, Try.ntmps107
  go_wp2_with (refine wpList_fcmp rfl rfl rfl rfl rfl (by first | with_reducible assumption | exact rfl) ?_)
  go_ret
  exact ⟨rfl, rfl⟩
set_option maxRecDepth 100000 in
set_option maxHeartbeats 4000000 in
theorem l01LogWide_num (y : Nat) (w : World) (hy : Bg .f64 y (-149) 128) :
    Calls Try.prog 93 #[.float .f64 y] w fun e w' => e = .returned (.float .f64 (logW y)) ∧ Ext w w' := by
  have hcy : cn .f64 y = y := cn_of_not hy.notN
  have q1 : fcmp .neq .f64 (cn .f64 y) (cn .f64 y) = false := by rw [neq_self]; exact hy.notN
  have hz : (FloatKind.f64).format.read (cn .f64 0) = .number false 0 (-1074) := by decide +kernel
  have hM : (FloatKind.f64).format.read (cn .f64 9218868437227405311) = .number false 9007199254740991 971 := by decide +kernel
  obtain ⟨m, e, hr, hl, hg⟩ := hy
  have q2 : fcmp .lss .f64 (cn .f64 y) (cn .f64 0) = false := by rw [hcy, lss_pos hr hz rfl, decide_eq_false_iff_not]; simp
  have q3 : fcmp .eql .f64 (cn .f64 y) (cn .f64 0) = false := by
    rw [hcy]
    unfold fcmp
    rw [order_pos hr hz rfl]
    have h0 : m * 2 ^ (e - min e (-1074)).toNat ≠ 0 := Nat.mul_ne_zero hg.1 (Nat.pos_iff_ne_zero.1 (Nat.pow_pos (by omega)))
    simp only [Nat.zero_mul, Nat.not_lt_zero, if_false, if_neg h0]
    rfl
  have q4 : fcmp .gtr .f64 (cn .f64 y) (cn .f64 9218868437227405311) = false := by
    rw [hcy]
    refine gtr_pos hr hM (b := min e 971) rfl ?_
    have h1 := scale_le hl (show min e 971 ≤ e by omega) (by have := hl.log hg.1; omega)
    refine Nat.le_trans h1 ?_
    by_cases he : e ≤ 128
    · have : (2 : Nat) ^ (128 - min e 971).toNat ≤ 1 * 2 ^ ((971 : Int) - min e 971).toNat := by rw [Nat.one_mul]; exact Nat.pow_le_pow_right (by omega) (by omega)
      exact Nat.le_trans this (Nat.mul_le_mul_right _ (by decide))
    · have := hl.log hg.1; omega
  have HY : Hid (Bg .f64 y (-149) 128) := ⟨m, e, hr, hl, hg⟩
  clear hz hM hr hl hg hcy
  go_enter Try.func93, Try.ntmps93
  go_wp2_with (first | (refine wpList_fcmp rfl rfl rfl rfl rfl (by first | with_reducible assumption | exact rfl) ?_) | (refine wpList_fop rfl rfl rfl rfl rfl ?_; intro fb nf hfb hfl; replace hfb := Lib.hid hfb; replace hfl := Lib.hid hfl))
  refine (isInf_one y false q4 _).mono ?_
  rintro e w1 ⟨rfl, rfl⟩
  clear q1 q2 q3 q4
  go_wp2_with (first | (refine wpList_fcmp rfl rfl rfl rfl rfl (by first | with_reducible assumption | exact rfl) ?_) | (refine wpList_fop rfl rfl rfl rfl rfl ?_; intro fb nf hfb hfl; replace hfb := Lib.hid hfb; replace hfl := Lib.hid hfl))
  go_loopw [0, 3] (fun x i wr => ∃ j, x = .float .f64 (hvD y j) ∧ i = .int .i64 j ∧ HvOk y j ∧ Ext w wr) (fun _ i _ => 200 - (intOf i).toNat)
  case atStart => exact ⟨0, rfl, rfl, hv_start HY.out, Ext.refl _⟩
  case round =>
    obtain ⟨j, rfl, rfl, hj, X⟩ := hrel
    have hj8 := hj.1
    cases q : fcmp .geq .f64 (hvD y j) c15
    · obtain ⟨hn1, hbg⟩ := hv_out hj q
      have HN1 := Lib.hid hn1
      have HBG := Lib.hid hbg
      have q' : fcmp .geq .f64 (cn .f64 (hvD y j)) (cn .f64 4609434218613702656) = false := by rw [hj.cn, cn_15]; exact q
      clear hn1 hbg hj q
      go_wp2_with (first | (refine wpList_fcmp rfl rfl rfl rfl rfl (by first | with_reducible assumption | exact rfl) ?_) | (refine wpList_fop rfl rfl rfl rfl rfl ?_; intro fb nf hfb hfl; replace hfb := Lib.hid hfb; replace hfl := Lib.hid hfl))
      clear q'
      simp only [Act.put, List.setIfInBounds_toArray, List.set_cons_succ, List.set_cons_zero]
      go_loopw [0, 3] (fun x i wr => ∃ n, x = .float .f64 (twD (hvD y j) n) ∧ i = .int .i64 ((j : Int) - (n : Int)) ∧ TwOk (hvD y j) n ∧ Ext w wr) (fun _ i _ => (intOf i + 400).toNat)
      case atStart => exact ⟨0, rfl, by go_num, tw_start HBG.out, X⟩
      case round =>
        obtain ⟨n, rfl, rfl, hn, X2⟩ := hrel
        have hn8 := hn.1
        cases q : fcmp .lss .f64 (twD (hvD y j) n) c075
        · have hn2 := tw_out hn q
          have HN2 := Lib.hid hn2
          have HFB := Lib.hid (lgFin_ba hn.2.2 (e := (j : Int) - (n : Int)) (by omega) (by omega))
          have HBT : Hid (Bg .f64 (twD (hvD y j) n) (-149 + (n : Int)) 1) := hn.2.2
          have q' : fcmp .lss .f64 (cn .f64 (twD (hvD y j) n)) (cn .f64 4604930618986332160) = false := by rw [hn.cn, cn_075]; exact q
          have HW : Hid (logW y = lgFin (twD (hvD y j) n) ((j : Int) - (n : Int))) := by
            show _ = _
            unfold logW lgE
            rw [HN1.out, HN2.out]
          have HTC : Hid (cn .f64 (twD (hvD y j) n) = twD (hvD y j) n) := hn.cn
          clear hn2 hn q HN1 HN2 HBG
          generalize twD (hvD y j) n = t at *
          go_wp2_with (first | (refine wpList_fcmp rfl rfl rfl rfl rfl (by first | with_reducible assumption | exact rfl) ?_) | (refine wpList_fop rfl rfl rfl rfl rfl ?_; intro fb nf hfb hfl; replace hfb := Lib.hid hfb; replace hfl := Lib.hid hfl))
          rename_i b1 m1 e1 l1 b2 m2 e2 l2 b3 m3 e3 l3 K0 a0
          obtain ⟨S, hS⟩ : ∃ S, S = fop .quo .f64 (fop .sub .f64 t oneD) (fop .add .f64 t oneD) := ⟨_, rfl⟩
          have HS : Hid (cn .f64 b3 = S) := by
            show _ = _; rw [e3.out, e2.out, e1.out, HTC.out, cn_oneL, hS]
          have HU : Hid (cn .f64 fb = fop .mul .f64 S S) := by show _ = _; rw [hfb.out, HS.out]
          have HW2 : Hid (logW y = fop .add .f64 (fop .mul .f64 twoD (fop .mul .f64 S (lgQ (fop .mul .f64 S S) 13))) (fop .mul .f64 (ofD ((j : Int) - (n : Int))) ln2D)) := by show _ = _; rw [HW.out, hS]; rfl
          have HFB2 : Hid (isN .f64 (logW y) = false) := by show _ = _; rw [HW.out]; exact HFB.out.notN
          clear hS HW HFB e1 e2 e3 hfb l1 l2 l3 hfl HTC q' HBT
          generalize fop .mul .f64 S S = U at *
          go_loopw [6, 7] (fun q k wq => ∃ (i b : Nat), i ≤ 13 ∧ q = .float .f64 b ∧ k = .int .i64 (25 - 2 * (i : Int)) ∧ Hid (cn .f64 b = lgQ U i) ∧ Ext w wq) (fun _ k _ => (intOf k + 10).toNat)
          case atStart => exact ⟨0, 0, by omega, rfl, by go_num, rfl, X2.trans (Ext.drewN _ _)⟩
          case round =>
            obtain ⟨i, b, hi, rfl, rfl, HB, X3⟩ := hrel
            by_cases hlt : i < 13
            · have hge : (25 - 2 * (i : Int)) ≥ 1 := by omega
              go_wp2_with (first | (refine wpList_fcmp rfl rfl rfl rfl rfl (by first | with_reducible assumption | exact rfl) ?_) | (refine wpList_fop rfl rfl rfl rfl rfl ?_; intro fb nf hfb hfl; replace hfb := Lib.hid hfb; replace hfl := Lib.hid hfl))
              rename_i c1 k1 f1 g1 c2 k2 f2 g2
              have HN : Hid (cn .f64 fb = lgQ U (i + 1)) := by
                show _ = _
                rw [hfb.out, f2.out, f1.out, HB.out, HU.out, cn_oneL]
                show fop .add .f64 (fop .quo .f64 oneD (cn .f64 (ofD _))) _ = _
                rw [cn_ofD]; rfl
              go_roundw
              case rel => exact ⟨i + 1, fb, by omega, rfl, by go_num, HN, X3.trans (Ext.drewN _ _)⟩
              case measure => simp [intOf]; omega
            · obtain rfl : i = 13 := by omega
              have hge : ¬ (25 - 2 * ((13 : Nat) : Int)) ≥ 1 := by omega
              go_wp2_with (first | (refine wpList_fcmp rfl rfl rfl rfl rfl (by first | with_reducible assumption | exact rfl) ?_) | (refine wpList_fop rfl rfl rfl rfl rfl ?_; intro fb nf hfb hfl; replace hfb := Lib.hid hfb; replace hfl := Lib.hid hfl))
              rename_i c1 k1 f1 g1 c2 k2 f2 g2 c3 k3 f3 g3
              have HN : Hid (fb = logW y) := by
                refine bits_of ?_ HFB2.out
                rw [hfb.out, f3.out, f2.out, f1.out, HB.out, HS.out, cn_twoD, cn_ln2, HW2.out]
                show fop .add .f64 _ (fop .mul .f64 (cn .f64 (ofD _)) _) = _
                rw [cn_ofD]
              go_ret
              exact ⟨by rw [HN.out]; rfl, X3.trans (Ext.drewN _ _)⟩
        · have q' : fcmp .lss .f64 (cn .f64 (twD (hvD y j) n)) (cn .f64 4604930618986332160) = true := by rw [hn.cn, cn_075]; exact q
          have hn' := tw_on hn q
          have hn9 := hn'.1
          have HT := Lib.hid hn'
          have HTC : Hid (cn .f64 (twD (hvD y j) n) = twD (hvD y j) n) := hn.cn
          have HF : Hid (twD (hvD y j) (n + 1) = fop .mul .f64 (twD (hvD y j) n) twoD) := rfl
          clear hn hn' q
          go_wp2_with (first | (refine wpList_fcmp rfl rfl rfl rfl rfl (by first | with_reducible assumption | exact rfl) ?_) | (refine wpList_fop rfl rfl rfl rfl rfl ?_; intro fb nf hfb hfl; replace hfb := Lib.hid hfb; replace hfl := Lib.hid hfl))
          have hfe : fb = twD (hvD y j) (n + 1) := bits_of (by rw [hfb.out, HTC.out, cn_twoD, HF.out]) HT.out.2.2.notN
          go_roundw
          case rel => exact ⟨n + 1, by rw [hfe], by go_num, HT.out, X2.trans (Ext.drewN _ _)⟩
          case measure => simp [intOf]; omega
    · have q' : fcmp .geq .f64 (cn .f64 (hvD y j)) (cn .f64 4609434218613702656) = true := by rw [hj.cn, cn_15]; exact q
      have hj' := hv_on hj q
      have hj9 := hj'.1
      have HT := Lib.hid hj'
      have HTC : Hid (cn .f64 (hvD y j) = hvD y j) := hj.cn
      have HF : Hid (hvD y (j + 1) = fop .quo .f64 (hvD y j) twoD) := rfl
      clear hj hj' q
      go_wp2_with (first | (refine wpList_fcmp rfl rfl rfl rfl rfl (by first | with_reducible assumption | exact rfl) ?_) | (refine wpList_fop rfl rfl rfl rfl rfl ?_; intro fb nf hfb hfl; replace hfb := Lib.hid hfb; replace hfl := Lib.hid hfl))
      have hfe : fb = hvD y (j + 1) := bits_of (by rw [hfb.out, HTC.out, cn_twoD, HF.out]) HT.out.2.2.notN
      go_roundw
      case rel => exact ⟨j + 1, by rw [hfe], by go_num, HT.out, X.trans (Ext.drewN _ _)⟩
      case measure => simp [intOf]; omega
set_option maxRecDepth 100000 in
set_option maxHeartbeats 4000000 in
theorem naturalLog_any (y : Nat) (w : World) (hy : Bg .f64 y (-149) 128) :
    Calls Try.prog 99 #[.float .f64 y] w fun e w' => e = .returned (.float .f64 (logW y)) ∧ Ext w w' := by
  have HY := Lib.hid hy
  clear hy
  go_enter Try.func99, Try.ntmps99
  go_wp2_with (first | (refine wpList_fcmp rfl rfl rfl rfl rfl (by first | with_reducible assumption | exact rfl) ?_) | (refine wpList_fop rfl rfl rfl rfl rfl ?_; intro fb nf hfb hfl; replace hfb := Lib.hid hfb; replace hfl := Lib.hid hfl))
  go_loopw [0, 3] (fun x i wr => ∃ j, x = .float .f64 (hvD y j) ∧ i = .float .f64 (ofD j) ∧ HvOk y j ∧ Ext w wr) (fun _ i _ => 200 - (intD i).toNat)
  case atStart => exact ⟨0, rfl, by show Value.float .f64 0 = .float .f64 (ofD 0); rw [ofD_zero], hv_start HY.out, Ext.refl _⟩
  case round =>
    obtain ⟨j, rfl, rfl, hj, X⟩ := hrel
    have hj8 := hj.1
    cases q : fcmp .geq .f64 (hvD y j) c15
    · obtain ⟨hn1, hbg⟩ := hv_out hj q
      have HN1 := Lib.hid hn1
      have HBG := Lib.hid hbg
      have q' : fcmp .geq .f64 (cn .f64 (hvD y j)) (cn .f64 4609434218613702656) = false := by rw [hj.cn, cn_15]; exact q
      clear hn1 hbg hj q
      go_wp2_with (first | (refine wpList_fcmp rfl rfl rfl rfl rfl (by first | with_reducible assumption | exact rfl) ?_) | (refine wpList_fop rfl rfl rfl rfl rfl ?_; intro fb nf hfb hfl; replace hfb := Lib.hid hfb; replace hfl := Lib.hid hfl))
      clear q'
      simp only [Act.put, List.setIfInBounds_toArray, List.set_cons_succ, List.set_cons_zero]
      go_loopw [0, 3] (fun x i wr => ∃ n, x = .float .f64 (twD (hvD y j) n) ∧ i = .float .f64 (ofD ((j : Int) - (n : Int))) ∧ TwOk (hvD y j) n ∧ Ext w wr) (fun _ i _ => (intD i + 400).toNat)
      case atStart => exact ⟨0, rfl, by rw [show (j : Int) - ((0 : Nat) : Int) = j by omega], tw_start HBG.out, X⟩
      case round =>
        obtain ⟨n, rfl, rfl, hn, X2⟩ := hrel
        have hn8 := hn.1
        cases q : fcmp .lss .f64 (twD (hvD y j) n) c075
        · have hn2 := tw_out hn q
          have HN2 := Lib.hid hn2
          have HFB := Lib.hid (lgFin_ba hn.2.2 (e := (j : Int) - (n : Int)) (by omega) (by omega))
          have HBT : Hid (Bg .f64 (twD (hvD y j) n) (-149 + (n : Int)) 1) := hn.2.2
          have q' : fcmp .lss .f64 (cn .f64 (twD (hvD y j) n)) (cn .f64 4604930618986332160) = false := by rw [hn.cn, cn_075]; exact q
          have HW : Hid (logW y = lgFin (twD (hvD y j) n) ((j : Int) - (n : Int))) := by
            show _ = _
            unfold logW lgE
            rw [HN1.out, HN2.out]
          have HTC : Hid (cn .f64 (twD (hvD y j) n) = twD (hvD y j) n) := hn.cn
          clear hn2 hn q HN1 HN2 HBG
          generalize twD (hvD y j) n = t at *
          go_wp2_with (first | (refine wpList_fcmp rfl rfl rfl rfl rfl (by first | with_reducible assumption | exact rfl) ?_) | (refine wpList_fop rfl rfl rfl rfl rfl ?_; intro fb nf hfb hfl; replace hfb := Lib.hid hfb; replace hfl := Lib.hid hfl))
          rename_i b1 m1 e1 l1 b2 m2 e2 l2 b3 m3 e3 l3 K0 a0
          obtain ⟨S, hS⟩ : ∃ S, S = fop .quo .f64 (fop .sub .f64 t oneD) (fop .add .f64 t oneD) := ⟨_, rfl⟩
          have HS : Hid (cn .f64 b3 = S) := by
            show _ = _; rw [e3.out, e2.out, e1.out, HTC.out, cn_oneL, hS]
          have HU : Hid (cn .f64 fb = fop .mul .f64 S S) := by show _ = _; rw [hfb.out, HS.out]
          have HW2 : Hid (logW y = fop .add .f64 (fop .mul .f64 twoD (fop .mul .f64 S (lgQ (fop .mul .f64 S S) 13))) (fop .mul .f64 (ofD ((j : Int) - (n : Int))) ln2D)) := by show _ = _; rw [HW.out, hS]; rfl
          have HFB2 : Hid (isN .f64 (logW y) = false) := by show _ = _; rw [HW.out]; exact HFB.out.notN
          clear hS HW HFB e1 e2 e3 hfb l1 l2 l3 hfl HTC q' HBT
          generalize fop .mul .f64 S S = U at *
          go_loopw [6, 7] (fun q k wq => ∃ (i b : Nat), i ≤ 13 ∧ q = .float .f64 b ∧ k = .float .f64 (ofD (25 - 2 * (i : Int))) ∧ Hid (cn .f64 b = lgQ U i) ∧ Ext w wq) (fun _ k _ => (intD k + 10).toNat)
          case atStart => exact ⟨0, 0, by omega, rfl, by show Value.float .f64 4627730092099895296 = .float .f64 (ofD 25); rw [ofD_25], rfl, X2.trans (Ext.drewN _ _)⟩
          case round =>
            obtain ⟨i, b, hi, rfl, rfl, HB, X3⟩ := hrel
            by_cases hlt : i < 13
            · have q5 : fcmp .geq .f64 (cn .f64 (ofD (25 - 2 * (i : Int)))) (cn .f64 4607182418800017408) = true := by rw [cn_ofD, cn_oneL]; exact (inv_at hlt).2.1
              go_wp2_with (first | (refine wpList_fcmp rfl rfl rfl rfl rfl (by first | with_reducible assumption | exact rfl) ?_) | (refine wpList_fop rfl rfl rfl rfl rfl ?_; intro fb nf hfb hfl; replace hfb := Lib.hid hfb; replace hfl := Lib.hid hfl))
              rename_i c1 k1 f1 g1 c2 k2 f2 g2 c3 k3 f3 g3
              have HN : Hid (cn .f64 c3 = lgQ U (i + 1)) := by
                show _ = _
                rw [f3.out, f2.out, f1.out, HB.out, HU.out, cn_oneL, cn_ofD]; rfl
              have hce : fb = ofD (25 - 2 * ((i + 1 : Nat) : Int)) := bits_of (by rw [hfb.out, cn_ofD, cn_twoD]; exact (inv_at hlt).2.2) (ofD_num _)
              have HM1 : Hid (intD (.float .f64 fb) = 25 - 2 * ((i + 1 : Nat) : Int)) := by show _ = _; rw [hce]; exact toI_ofD (by omega) (by omega)
              have HM2 : Hid (intD (.float .f64 (ofD (25 - 2 * (i : Int)))) = 25 - 2 * (i : Int)) := by show _ = _; exact toI_ofD (by omega) (by omega)
              go_roundw
              case rel => exact ⟨i + 1, c3, by omega, rfl, by rw [hce], HN, X3.trans (Ext.drewN _ _)⟩
              case measure => show (intD (.float .f64 fb) + 10).toNat < (intD (.float .f64 (ofD (25 - 2 * (i : Int)))) + 10).toNat; rw [HM1.out, HM2.out]; omega
            · obtain rfl : i = 13 := by omega
              have q5 : fcmp .geq .f64 (cn .f64 (ofD (25 - 2 * ((13 : Nat) : Int)))) (cn .f64 4607182418800017408) = false := by rw [cn_ofD, cn_oneL]; exact inv_end
              go_wp2_with (first | (refine wpList_fcmp rfl rfl rfl rfl rfl (by first | with_reducible assumption | exact rfl) ?_) | (refine wpList_fop rfl rfl rfl rfl rfl ?_; intro fb nf hfb hfl; replace hfb := Lib.hid hfb; replace hfl := Lib.hid hfl))
              rename_i c1 k1 f1 g1 c2 k2 f2 g2 c3 k3 f3 g3
              have HN : Hid (fb = logW y) := by
                refine bits_of ?_ HFB2.out
                rw [hfb.out, f3.out, f2.out, f1.out, HB.out, HS.out, cn_twoD, cn_ln2, cn_ofD, HW2.out]
              go_ret
              exact ⟨by rw [HN.out]; rfl, X3.trans (Ext.drewN _ _)⟩
        · have q' : fcmp .lss .f64 (cn .f64 (twD (hvD y j) n)) (cn .f64 4604930618986332160) = true := by rw [hn.cn, cn_075]; exact q
          have hn' := tw_on hn q
          have hn9 := hn'.1
          have HT := Lib.hid hn'
          have HTC : Hid (cn .f64 (twD (hvD y j) n) = twD (hvD y j) n) := hn.cn
          have HF : Hid (twD (hvD y j) (n + 1) = fop .mul .f64 (twD (hvD y j) n) twoD) := rfl
          clear hn hn' q
          go_wp2_with (first | (refine wpList_fcmp rfl rfl rfl rfl rfl (by first | with_reducible assumption | exact rfl) ?_) | (refine wpList_fop rfl rfl rfl rfl rfl ?_; intro fb nf hfb hfl; replace hfb := Lib.hid hfb; replace hfl := Lib.hid hfl))
          rename_i c1 k1 f1 g1
          have hfe : c1 = twD (hvD y j) (n + 1) := bits_of (by rw [f1.out, HTC.out, cn_twoD, HF.out]) HT.out.2.2.notN
          have hce : fb = ofD ((j : Int) - ((n + 1 : Nat) : Int)) := bits_of (by rw [hfb.out, cn_ofD, cn_oneL, ofD_sub (by omega) (by omega)]; congr 1; omega) (ofD_num _)
          have HM1 : Hid (intD (.float .f64 fb) = (j : Int) - ((n + 1 : Nat) : Int)) := by show _ = _; rw [hce]; exact toI_ofD (by omega) (by omega)
          have HM2 : Hid (intD (.float .f64 (ofD ((j : Int) - (n : Int)))) = (j : Int) - (n : Int)) := by show _ = _; exact toI_ofD (by omega) (by omega)
          go_roundw
          case rel => exact ⟨n + 1, by rw [hfe], by rw [hce], HT.out, X2.trans (Ext.drewN _ _)⟩
          case measure => show (intD (.float .f64 fb) + 400).toNat < (intD (.float .f64 (ofD ((j : Int) - (n : Int)))) + 400).toNat; rw [HM1.out, HM2.out]; omega
    · have q' : fcmp .geq .f64 (cn .f64 (hvD y j)) (cn .f64 4609434218613702656) = true := by rw [hj.cn, cn_15]; exact q
      have hj' := hv_on hj q
      have hj9 := hj'.1
      have HT := Lib.hid hj'
      have HTC : Hid (cn .f64 (hvD y j) = hvD y j) := hj.cn
      have HF : Hid (hvD y (j + 1) = fop .quo .f64 (hvD y j) twoD) := rfl
      clear hj hj' q
      go_wp2_with (first | (refine wpList_fcmp rfl rfl rfl rfl rfl (by first | with_reducible assumption | exact rfl) ?_) | (refine wpList_fop rfl rfl rfl rfl rfl ?_; intro fb nf hfb hfl; replace hfb := Lib.hid hfb; replace hfl := Lib.hid hfl))
      rename_i c1 k1 f1 g1
      have hfe : c1 = hvD y (j + 1) := bits_of (by rw [f1.out, HTC.out, cn_twoD, HF.out]) HT.out.2.2.notN
      have hce : fb = ofD ((j + 1 : Nat) : Int) := bits_of (by rw [hfb.out, cn_ofD, cn_oneL, ofD_add (by omega) (by omega)]; rfl) (ofD_num _)
      have HM1 : Hid (intD (.float .f64 fb) = ((j + 1 : Nat) : Int)) := by show _ = _; rw [hce]; exact toI_ofD (by omega) (by omega)
      have HM2 : Hid (intD (.float .f64 (ofD (j : Int))) = (j : Int)) := by show _ = _; exact toI_ofD (by omega) (by omega)
      go_roundw
      case rel => exact ⟨j + 1, by rw [hfe], by rw [hce], HT.out, X.trans (Ext.drewN _ _)⟩
      case measure => show 200 - (intD (.float .f64 fb)).toNat < 200 - (intD (.float .f64 (ofD (j : Int)))).toNat; rw [HM1.out, HM2.out]; omega
end Go.Proofs.Ytlbmjeennpccmaa
