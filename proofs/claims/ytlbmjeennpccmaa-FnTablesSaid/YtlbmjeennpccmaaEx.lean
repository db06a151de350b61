
/- Contracts of the exponential function of the reference and of the program. Condition: a number from -64 to 0. -/
import Derived.Test.YtlbmjeennpccmaaFU
import Derived.Test.YtlbmjeennpccmaaD
import Derived.Test.YtlbmjeennpccmaaSN
namespace Go.Proofs.Ytlbmjeennpccmaa
open Go Go.RowKit Go.ChangeShapes Go.WideShapes Go.ChangeAt

section
variable {P : Program} {ops : Array Oper} {Q : Exit → Act → World → Prop} {o : Oper} {rest : List Oper} {a : Act} {w : World}
theorem wpList_narrow {src dst : TypeId} {x : Operand} {p r : Nat} (hs : (P.underlying src).isSome = true) (hd : P.underlying dst = some (.float .f32)) (hw : Region.wanted o (yielded ops a.tmps) = true) (hop : o.op = .convert src dst x)
    (hx : a.eval x = .float .f64 p) (hr : floatToFloatBits .f64 p .f32 = some r) (hK : wpList P ops Q rest (a.put o.dst (.float .f32 r)) w) : wpList P ops Q (o :: rest) a w := by
  have hrun := run_convert_float_float (P := P) w src dst .f64 .f32 p r hs hd hr
  unfold wpList
  rw [if_pos hw]
  left
  unfold Oper.wp
  simp [execOp, hop, hx, hrun, Result.andThen]
  exact hK
end

theorem cn_fkD (k : Nat) : cn .f64 (fkD k) = fkD k := by
  unfold fkD floatOfInt FloatKind.nearest FloatKind.encode
  exact cn_of_not (isN_write .f64 rfl)
theorem cn_oneD : cn .f64 oneD = oneD := cn_of_not one_bp.notN
theorem fk_geq : ∀ k, 1 ≤ k → k ≤ 12 → fcmp .geq .f64 (fkD k) oneD = true := by
  intro k h1 h2
  have : k = 1 ∨ k = 2 ∨ k = 3 ∨ k = 4 ∨ k = 5 ∨ k = 6 ∨ k = 7 ∨ k = 8 ∨ k = 9 ∨ k = 10 ∨ k = 11 ∨ k = 12 := by omega
  rcases this with h | h | h | h | h | h | h | h | h | h | h | h <;> subst h <;> decide +kernel
theorem fk_geq0 : fcmp .geq .f64 (fkD 0) oneD = false := by decide +kernel
theorem fk_sub : ∀ k, 1 ≤ k → k ≤ 12 → fop .sub .f64 (fkD k) oneD = fkD (k - 1) := by
  intro k h1 h2
  have : k = 1 ∨ k = 2 ∨ k = 3 ∨ k = 4 ∨ k = 5 ∨ k = 6 ∨ k = 7 ∨ k = 8 ∨ k = 9 ∨ k = 10 ∨ k = 11 ∨ k = 12 := by omega
  rcases this with h | h | h | h | h | h | h | h | h | h | h | h <;> subst h <;> decide +kernel
/-- The bits are those of the number, if this is none of the NaNs. -/
theorem bits_of {k : FloatKind} {b r : Nat} (h : cn k b = r) (hr : isN k r = false) : b = r := by
  rw [← h, isN_cn] at hr
  rw [← h, cn_of_not hr]
theorem cnW {x y : Nat} (hx : Bn .f32 x 6) (hy : cn .f64 y = wide x) : Bn .f64 (cn .f64 y) 6 := by rw [hy]; exact wide_bn hx (inF64 (by decide) (by decide))


theorem expF_eq (x : Nat) : expF x = narrowF (expW x) := rfl
theorem expF_bits {x : Nat} (hx : Bn .f32 x 6) : floatToFloatBits .f64 (expW x) .f32 = some (expF x) := by
  rw [expF_eq]; exact (narrow_bp (expW_bp hx) (inF32 (by decide) (by decide))).2

/-- How many steps are left. -/
def expMes (v : Value) : Nat := match v with
  | .float _ c => ((List.range 13).findIdx? fun k => fkD k == cn .f64 c).getD 0
  | _ => 0
theorem expMes_fk {c k : Nat} (h : cn .f64 c = fkD k) (hk : k ≤ 12) : expMes (.float .f64 c) = k := by
  show ((List.range 13).findIdx? fun k => fkD k == cn .f64 c).getD 0 = k
  rw [h]
  have : k = 0 ∨ k = 1 ∨ k = 2 ∨ k = 3 ∨ k = 4 ∨ k = 5 ∨ k = 6 ∨ k = 7 ∨ k = 8 ∨ k = 9 ∨ k = 10 ∨ k = 11 ∨ k = 12 := by omega
  rcases this with h | h | h | h | h | h | h | h | h | h | h | h | h <;> subst h <;> decide +kernel
set_option maxRecDepth 100000 in
set_option maxHeartbeats 1000000 in
theorem expNumber_any (x : Nat) (w : World) (hx : Bn .f32 x 6) :
    Calls Try.prog 63 #[.float .f32 x] w fun e w' => e = .returned (.float .f32 (expF x)) ∧ Ext w w' := by
  have wa : (Try.prog.underlying 24).isSome = true := by kernel_rfl
  have wb : (Try.prog.underlying 30).isSome = true := by kernel_rfl
  have hcx : cn .f32 x = x := cn_of_not hx.notN
  have q2 : fcmp .gtr .f32 (cn .f32 x) (cn .f32 1128792064) = false := by rw [hcx]; exact gtr_no hx (n := 13107200) (j := -16) (by decide +kernel)
  have q3 : fcmp .lss .f32 (cn .f32 x) (cn .f32 3276275712) = false := by rw [hcx]; exact lss_no hx (n := 13107200) (j := -16) (b := 7) (by decide +kernel) ⟨by decide, by decide +kernel⟩ (by decide)
  have HX := Lib.hid hx
  have HC := Lib.hid hcx
  clear hx hcx
  go_enter Try.func63, Try.ntmps63
  go_wp2_with (first | (refine wpList_fcmp rfl rfl rfl rfl rfl (by first | with_reducible assumption | exact rfl) ?_) | (refine wpList_fop rfl rfl rfl rfl rfl ?_; intro fb nf hfb hfl; replace hfb := Lib.hid hfb; replace hfl := Lib.hid hfl) | (refine wpList_wide wa Try.underlying30 rfl rfl rfl ?_; intro zb zn hzb hzl; clear hzl; replace hzb := Lib.hid hzb))
  have ht : Hid (cn .f64 fb = expT x) := by show _ = _; rw [hfb.out, hzb.out, HC.out]; rfl
  clear q2 q3 hfb hfl
  go_loopw [4, 5] (fun p i wr => ∃ (j b c : Nat), j ≤ 12 ∧ i = .float .f64 c ∧ Hid (cn .f64 c = fkD (12 - j)) ∧ p = .float .f64 b ∧ Hid (cn .f64 b = expHorner (expT x) j) ∧ Ext w wr) (fun _ i _ => expMes i)
  case atStart => exact ⟨0, 4607182418800017408, 4622945017495814144, by omega, rfl, by show _ = _; decide +kernel, rfl, cn_oneD, Ext.drewN _ _⟩
  case round =>
    obtain ⟨j, b, c, hj, rfl, Hc, rfl, Hb, X⟩ := hrel
    by_cases hlt : j < 12
    · have q1 : fcmp .geq .f64 (cn .f64 c) (cn .f64 4607182418800017408) = true := by rw [Hc.out]; exact fk_geq _ (by omega) (by omega)
      go_wp2_with (first | (refine wpList_fcmp rfl rfl rfl rfl rfl (by first | with_reducible assumption | exact rfl) ?_) | (refine wpList_fop rfl rfl rfl rfl rfl ?_; intro fb nf hfb hfl; replace hfb := Lib.hid hfb; replace hfl := Lib.hid hfl))
      rename_i a1 n1 e1 l1 a2 n2 e2 l2 a3 n3 e3 l3
      have hk : Hid (cn .f64 a3 = expHorner (expT x) (j + 1)) := by
        show _ = _
        rw [e3.out, e2.out, e1.out, ht.out, Hb.out, Hc.out]
        show fop .add .f64 (cn .f64 oneD) _ = expStep _ _ (12 - j)
        rw [cn_oneD]
        rfl
      have hm : Hid (cn .f64 fb = fkD (12 - (j + 1))) := by
        show _ = _
        rw [hfb.out, Hc.out]
        show fop .sub .f64 _ (cn .f64 oneD) = _
        rw [cn_oneD, fk_sub _ (by omega) (by omega)]
        congr 1
      have M1 : Hid (expMes (.float .f64 c) = 12 - j) := expMes_fk Hc.out (by omega)
      have M2 : Hid (expMes (.float .f64 fb) = 12 - (j + 1)) := expMes_fk hm.out (by omega)
      go_roundw
      case rel => exact ⟨j + 1, a3, fb, by omega, rfl, hm, rfl, hk, X.trans (Ext.drewN _ _)⟩
      case measure =>
        show expMes (.float .f64 fb) < expMes (.float .f64 c)
        rw [M1.out, M2.out]; omega
    · have hj12 : j = 12 := by omega
      have Hb12 : Hid (cn .f64 b = expHorner (expT x) 12) := by subst hj12; exact Hb
      have q1 : fcmp .geq .f64 (cn .f64 c) (cn .f64 4607182418800017408) = false := by rw [Hc.out, hj12]; exact fk_geq0
      clear hlt hj Hb hj12
      go_wp2_with (first | (refine wpList_fcmp rfl rfl rfl rfl rfl (by first | with_reducible assumption | exact rfl) ?_) | (refine wpList_fop rfl rfl rfl rfl rfl ?_; intro fb nf hfb hfl; replace hfb := Lib.hid hfb; replace hfl := Lib.hid hfl))
      clear q1
      go_loopw [4, 27] (fun p i wq => ∃ (i' b' : Nat), i' ≤ 8 ∧ i = .int .i64 i' ∧ p = .float .f64 b' ∧ Hid (cn .f64 b' = expSq (expHorner (expT x) 12) i') ∧ Ext w wq) (fun _ i _ => 8 - (intOf i).toNat)
      case atStart => exact ⟨0, b, by omega, rfl, rfl, Hb12, X⟩
      case round =>
        obtain ⟨i', b', hi, rfl, rfl, Hb', X'⟩ := hrel
        by_cases hlt2 : i' < 8
        · go_wp2_with (first | (refine wpList_fcmp rfl rfl rfl rfl rfl (by first | with_reducible assumption | exact rfl) ?_) | (refine wpList_fop rfl rfl rfl rfl rfl ?_; intro fb nf hfb hfl; replace hfb := Lib.hid hfb; replace hfl := Lib.hid hfl))
          go_roundw
          case rel =>
            refine ⟨i' + 1, fb, by omega, by go_num, rfl, ?_, X'.trans (Ext.drewN _ _)⟩
            show _ = _
            rw [hfb.out, Hb'.out]; rfl
          case measure => simp [intOf]; omega
        · have hi8 : i' = 8 := by omega
          have hb8 : b' = expW x := bits_of (by rw [Hb'.out, hi8]; rfl) (expW_bp HX.out).notN
          have hnr : floatToFloatBits .f64 b' .f32 = some (expF x) := by rw [hb8]; exact expF_bits HX.out
          have HNR := Lib.hid hnr
          clear hnr hb8 hi8
          go_wp2_with (first | (refine wpList_fcmp rfl rfl rfl rfl rfl (by first | with_reducible assumption | exact rfl) ?_) | (refine wpList_fop rfl rfl rfl rfl rfl ?_; intro fb nf hfb hfl; replace hfb := Lib.hid hfb; replace hfl := Lib.hid hfl) | (refine wpList_narrow wb Try.underlying24 rfl rfl rfl HNR.out ?_))
          go_ret
          exact ⟨rfl, X'⟩
end Go.Proofs.Ytlbmjeennpccmaa
