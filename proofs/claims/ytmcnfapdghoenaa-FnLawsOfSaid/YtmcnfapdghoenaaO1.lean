
/- Rules for floats whose results are told; contracts: what laws are valid. Conditions: in the theorems. -/
import Derived.Test.YtmcnfapdghoenaaTK
import Derived.Test.YtmcnfapdghoenaaJH
namespace Go.Proofs.Ytmcnfapdghoenaa
open Go Go.RowKit Go.ChangeShapes Go.WideShapes Go.ChangeAt

/-- An operation gives V, a number. -/
def FopV (op : BinOp) (k : FloatKind) (p q V : Nat) : Prop := floatBits op k p q = some V ∧ V < 2 ^ k.format.width
theorem FopV.run {op : BinOp} {k : FloatKind} {p q V : Nat} (h : FopV op k p q V) (P : Program) : ∀ (t : TypeId) (w : World), (binOp op t (.float k p) (.float k q)).run P w = .ok (.float k V) w :=
  fun t w => run_float_arith w op t k p q V h.1
theorem fopV_of {op : BinOp} {k : FloatKind} {p q : Nat} (har : (op == .add || op == .sub || op == .mul || op == .quo) = true) (hp : Num k p) (hq : Num k q) (h : Num k (fop op k p q)) : FopV op k p q (fop op k p q) := by
  have hn := h.notN
  unfold fop at hn ⊢
  unfold FopV
  cases hf : floatBits op k p q with
  | none =>
    rw [hf] at hn
    exfalso
    revert hn
    show isN k (nanW k) = false → False
    cases k <;> decide +kernel
  | some r =>
    refine ⟨rfl, ?_⟩
    have h1 := floatBits_wf hf
    cases k
    · have h2 : r < 2 ^ 32 := by simpa [Lit.wf] using h1
      exact h2
    · have h2 : r < 2 ^ 64 := by simpa [Lit.wf] using h1
      exact h2
theorem wpList_fopV {P : Program} {ops : Array Oper} {Q : Exit → Act → World → Prop} {o : Oper} {rest : List Oper} {a : Act} {w : World} {op : BinOp} {t t' : TypeId} {x y : Operand} {k : FloatKind} {p q V : Nat} (hw : Region.wanted o (yielded ops a.tmps) = true) (hop : o.op = .binOp op t x y t')
    (hx : a.eval x = .float k p) (hy : a.eval y = .float k q) (h : FopV op k p q V) (hK : wpList P ops Q rest (a.put o.dst (.float k V)) w) : wpList P ops Q (o :: rest) a w := by
  have hrun := h.run P t w
  unfold wpList
  rw [if_pos hw]
  left
  unfold Oper.wp
  simp [execOp, hop, hx, hy, eqGuard_at_float, hrun, Result.andThen]
  exact hK
/-- A law in a box. -/
def lawV (k : Int) (y c : Nat) : Value := .agg #[.int .i64 k, .float .f32 y, .float .f32 c]
/-- A law that is valid. -/
structure LawB (k : Int) (y c : Nat) : Prop where
  k0 : 0 ≤ k
  k3 : k ≤ 3
  y1 : fcmp .geq .f32 (cn .f32 y) (cn .f32 981668463) = true
  y2 : fcmp .leq .f32 (cn .f32 y) (cn .f32 1148846080) = true
  c1 : fcmp .geq .f32 (cn .f32 c) (cn .f32 981668463) = true
  c2 : fcmp .leq .f32 (cn .f32 c) (cn .f32 1148846080) = true
  yb : y < 4294967296
  cb : c < 4294967296
theorem within_ok {n lo hi : Int} (h1 : lo ≤ n) (h2 : n ≤ hi) (w : World) : Calls Try.prog 21 #[.int .i64 n, .int .i64 lo, .int .i64 hi] w fun e w' => e = .returned (.bool true) ∧ w = w' := within_eq (inB_true h1 h2) w
set_option maxHeartbeats 1000000 in
theorem validLaw_any {k : Int} {y c : Nat} (h : LawB k y c) (w : World) :
    Calls Try.prog 8 #[lawV k y c] w fun e w' => e = .returned (.bool true) ∧ Ext w w' := by
  have H := Lib.hid h
  have r1 := h.y1
  have r2 := h.y2
  have r3 := h.c1
  have r4 := h.c2
  clear h
  unfold lawV
  go_enter Try.func8, Try.ntmps8
  go_wp2_with (refine wpList_fcmp rfl rfl rfl rfl rfl (by first | with_reducible assumption | exact rfl) ?_)
  refine (within_ok H.out.k0 H.out.k3 _).mono ?_
  rintro e w1 ⟨rfl, rfl⟩
  go_wp2_with (refine wpList_fcmp rfl rfl rfl rfl rfl (by first | with_reducible assumption | exact rfl) ?_)
  go_ret
  exact ⟨rfl, Ext.alloc _ _⟩
attribute [local irreducible] tw EX
set_option maxRecDepth 100000 in
set_option maxHeartbeats 1000000 in
theorem expNumber_num (x : Nat) (w : World) (hx : Num .f32 x) (h1 : -200 ≤ fv .f32 x) (h2 : fv .f32 x ≤ 8) :
    Calls Try.prog 32 #[.float .f32 x] w fun e w' => e = .returned (.float .f32 (expF x)) ∧ Ext w w' := by
  have wa : (Try.prog.underlying 24).isSome = true := by kernel_rfl
  have wb : (Try.prog.underlying 32).isSome = true := by kernel_rfl
  have hcx : cn .f32 x = x := hx.cn
  have c2 : Num .f32 1128792064 ∧ fv .f32 1128792064 = 200 := by
    have h : 1128792064 = floatOfInt .f32 200 := by decide +kernel
    obtain ⟨a, b⟩ := ofInt_val .f32 (z := 200) (by decide)
    rw [← h] at a b
    exact ⟨a, b⟩
  obtain ⟨d1, d2⟩ := c200_val
  have q2 : fcmp .gtr .f32 (cn .f32 x) (cn .f32 1128792064) = false := by rw [fcmp_cn, gtrF_val hx c2.1, c2.2]; exact decide_eq_false (by grind)
  have q3 : fcmp .lss .f32 (cn .f32 x) (cn .f32 3276275712) = false := by rw [fcmp_cn, lss_val hx d1, d2]; exact decide_eq_false (by grind)
  have hW : isN .f64 (expW x) = false ∧ floatToFloatBits .f64 (expW x) .f32 = some (expF x) := by
    have h100 := tw100
    by_cases hz : fv .f32 x ≤ 0
    · obtain ⟨⟨m, l, u⟩, a, b⟩ := exp_neg hx h1 hz
      exact ⟨m.notN, (narrow_val (A := 2) m (by grind) (by grind) (by grind)).2.2⟩
    · obtain ⟨⟨m, l, u⟩, a, b⟩ := exp_pos hx (by grind) h2
      exact ⟨m.notN, (narrow_val (A := 9000) m (by grind) (by grind) (by grind)).2.2⟩
  have HW := Lib.hid hW
  clear c2 d1 d2 h1 h2 hW
  have HC := Lib.hid hcx
  clear hx hcx
  go_enter Try.func32, Try.ntmps32
  go_wp2_with (first | (refine wpList_fcmp rfl rfl rfl rfl rfl (by first | with_reducible assumption | exact rfl) ?_) | (refine wpList_fop rfl rfl rfl rfl rfl ?_; intro fb nf hfb hfl; replace hfb := Lib.hid hfb; replace hfl := Lib.hid hfl) | (refine wpList_wide wa Try.underlying32 rfl rfl rfl ?_; intro zb zn hzb hzl; clear hzl; replace hzb := Lib.hid hzb))
  have ht : Hid (cn .f64 fb = expT x) := by show _ = _; rw [hfb.out, hzb.out, HC.out]; rfl
  clear q2 q3 hfb hfl
  go_loopw [4, 5] (fun p i wr => ∃ (j b c : Nat), j ≤ 12 ∧ i = .float .f64 c ∧ Hid (cn .f64 c = fkD (12 - j)) ∧ p = .float .f64 b ∧ Hid (cn .f64 b = expHorner (expT x) j) ∧ Ext w wr) (fun _ i _ => expMes i)
  case atStart => exact ⟨0, 4607182418800017408, 4622945017495814144, by omega, rfl, by show _ = _; decide +kernel, rfl, cn_oneD, Ext.drewN _ _⟩
  case round =>
    obtain ⟨j, b, c, hj, rfl, Hc, rfl, Hb, X⟩ := hrel
    by_cases hlt : j < 12
    · have q1 : fcmp .geq .f64 (cn .f64 c) (cn .f64 4607182418800017408) = true := by rw [Hc.out]; exact fk_geq _ (by omega) (by omega)
      go_wp2_with (first | (refine wpList_fcmp rfl rfl rfl rfl rfl (by first | with_reducible assumption | exact rfl) ?_) | (refine wpList_fop rfl rfl rfl rfl rfl ?_; intro fb nf hfb hfl; replace hfb := Lib.hid hfb; replace hfl := Lib.hid hfl))
      rename_i a1 n1 e1 l1 a2 n2 e2 l2 a3 n3 e3 l3
      have hk : Hid (cn .f64 a3 = expHorner (expT x) (j + 1)) := by
        show _ = _
        rw [e3.out, e2.out, e1.out, ht.out, Hb.out, Hc.out]
        show fop .add .f64 (cn .f64 oneD) _ = expStep _ _ (12 - j)
        rw [cn_oneD]
        rfl
      have hm : Hid (cn .f64 fb = fkD (12 - (j + 1))) := by
        show _ = _
        rw [hfb.out, Hc.out]
        show fop .sub .f64 _ (cn .f64 oneD) = _
        rw [cn_oneD, fk_sub _ (by omega) (by omega)]
        congr 1
      have M1 : Hid (expMes (.float .f64 c) = 12 - j) := expMes_fk Hc.out (by omega)
      have M2 : Hid (expMes (.float .f64 fb) = 12 - (j + 1)) := expMes_fk hm.out (by omega)
      go_roundw
      case rel => exact ⟨j + 1, a3, fb, by omega, rfl, hm, rfl, hk, X.trans (Ext.drewN _ _)⟩
      case measure =>
        show expMes (.float .f64 fb) < expMes (.float .f64 c)
        rw [M1.out, M2.out]; omega
    · have hj12 : j = 12 := by omega
      have Hb12 : Hid (cn .f64 b = expHorner (expT x) 12) := by subst hj12; exact Hb
      have q1 : fcmp .geq .f64 (cn .f64 c) (cn .f64 4607182418800017408) = false := by rw [Hc.out, hj12]; exact fk_geq0
      clear hlt hj Hb hj12
      go_wp2_with (first | (refine wpList_fcmp rfl rfl rfl rfl rfl (by first | with_reducible assumption | exact rfl) ?_) | (refine wpList_fop rfl rfl rfl rfl rfl ?_; intro fb nf hfb hfl; replace hfb := Lib.hid hfb; replace hfl := Lib.hid hfl))
      clear q1
      go_loopw [4, 27] (fun p i wq => ∃ (i' b' : Nat), i' ≤ 8 ∧ i = .int .i64 i' ∧ p = .float .f64 b' ∧ Hid (cn .f64 b' = expSq (expHorner (expT x) 12) i') ∧ Ext w wq) (fun _ i _ => 8 - (intOf i).toNat)
      case atStart => exact ⟨0, b, by omega, rfl, rfl, Hb12, X⟩
      case round =>
        obtain ⟨i', b', hi, rfl, rfl, Hb', X'⟩ := hrel
        by_cases hlt2 : i' < 8
        · go_wp2_with (first | (refine wpList_fcmp rfl rfl rfl rfl rfl (by first | with_reducible assumption | exact rfl) ?_) | (refine wpList_fop rfl rfl rfl rfl rfl ?_; intro fb nf hfb hfl; replace hfb := Lib.hid hfb; replace hfl := Lib.hid hfl))
          go_roundw
          case rel =>
            refine ⟨i' + 1, fb, by omega, by go_num, rfl, ?_, X'.trans (Ext.drewN _ _)⟩
            show _ = _
            rw [hfb.out, Hb'.out]; rfl
          case measure => simp [intOf]; omega
        · have hi8 : i' = 8 := by omega
          have hb8 : b' = expW x := bits_of (by rw [Hb'.out, hi8]; rfl) HW.out.1
          have hnr : floatToFloatBits .f64 b' .f32 = some (expF x) := by rw [hb8]; exact HW.out.2
          have HNR := Lib.hid hnr
          clear hnr hb8 hi8
          go_wp2_with (first | (refine wpList_fcmp rfl rfl rfl rfl rfl (by first | with_reducible assumption | exact rfl) ?_) | (refine wpList_fop rfl rfl rfl rfl rfl ?_; intro fb nf hfb hfl; replace hfb := Lib.hid hfb; replace hfl := Lib.hid hfl) | (refine wpList_narrow wb Try.underlying24 rfl rfl rfl HNR.out ?_))
          go_ret
          exact ⟨rfl, X'⟩
theorem expNumber_low (x : Nat) (w : World) (hx : Num .f32 x) (h1 : fv .f32 x < -200) :
    Calls Try.prog 32 #[.float .f32 x] w fun e w' => e = .returned (.float .f32 0) ∧ Ext w w' := by
  have c2 : Num .f32 1128792064 ∧ fv .f32 1128792064 = 200 := by
    have h : 1128792064 = floatOfInt .f32 200 := by decide +kernel
    obtain ⟨a, b⟩ := ofInt_val .f32 (z := 200) (by decide)
    rw [← h] at a b
    exact ⟨a, b⟩
  obtain ⟨d1, d2⟩ := c200_val
  have q2 : fcmp .gtr .f32 (cn .f32 x) (cn .f32 1128792064) = false := by rw [fcmp_cn, gtrF_val hx c2.1, c2.2]; exact decide_eq_false (by grind)
  have q3 : fcmp .lss .f32 (cn .f32 x) (cn .f32 3276275712) = true := by rw [fcmp_cn, lss_val hx d1, d2]; exact decide_eq_true (by grind)
  clear c2 d1 d2 h1 hx
  go_enter Try.func32, Try.ntmps32
  go_wp2_with (refine wpList_fcmp rfl rfl rfl rfl rfl (by first | with_reducible assumption | exact rfl) ?_)
  go_ret
  exact ⟨rfl, Ext.refl _⟩
theorem expNumber_x {x p : Nat} (w : World) (hx : Num .f32 x) (h2 : fv .f32 x ≤ 8) (hp : expX x = p) :
    Calls Try.prog 32 #[.float .f32 x] w fun e w' => e = .returned (.float .f32 p) ∧ Ext w w' := by
  obtain ⟨d1, d2⟩ := c200_val
  subst hp
  by_cases h : fv .f32 x < -200
  · have e : expX x = 0 := by unfold expX; rw [lss_val hx d1, d2, decide_eq_true h, if_pos rfl]
    rw [e]; exact expNumber_low x w hx h
  · have e : expX x = expF x := by unfold expX; rw [lss_val hx d1, d2, decide_eq_false h, if_neg Bool.false_ne_true]
    rw [e]; exact expNumber_num x w hx (by grind) h2
end Go.Proofs.Ytmcnfapdghoenaa
