
/- The square root in single precision: what the program and the reference compute. Condition: a number from 0 to 2^48. -/
import Derived.Test.YtlbmjeennpccmaaTb
import Derived.Laws.Externs
import Derived.Test.YtlbmjeennpccmaaLy
import Derived.Test.YtlbmjeennpccmaaLA
import Derived.Test.YtlbmjeennpccmaaRh
namespace Go.Proofs.Ytlbmjeennpccmaa
open Go Go.RowKit Go.ChangeShapes Go.WideShapes Go.ChangeAt

theorem run_sqrt {x r : Nat} (h : (FloatKind.f64).format.sqrt x = some r) (w : World) : (callFunc 104 #[.float .f64 x]).run Try.prog w = .ok (.value (.float .f64 r)) w := by
  rw [run_callFunc_extern (e := Extern.MathSqrt.sqrt) Try.func104 (by kernel_rfl) (by kernel_rfl) (by kernel_rfl) (by kernel_rfl)]
  have e1 : (Extern.MathSqrt.sqrt #[.float .f64 x]).run Try.prog w = .ok (.float .f64 r) w := by
    change Sem.run Try.prog (match (FloatKind.f64).format.sqrt x with
      | some r => (pure (Value.float FloatKind.f64 r) : Sem Value)
      | none => do pure (Value.float FloatKind.f64 (← choose (.nanBits .f64 x x)))) w = _
    rw [h]; rfl
  rw [e1]; rfl
theorem mathSqrt_any {x r : Nat} (h : (FloatKind.f64).format.sqrt x = some r) (w : World) : Calls Try.prog 87 #[.float .f64 x] w fun e w' => e = .returned (.float .f64 r) ∧ w = w' := by
  have hrun := run_sqrt h
  clear h
  go_enter Try.func87, Try.ntmps87
  go_wp2_with fail
  go_ret
  exact ⟨rfl, rfl⟩

theorem rootNumber_any (x : Nat) (w : World) (hx : Bp .f32 x 48) :
    Calls Try.prog 59 #[.float .f32 x] w fun e w' => e = .returned (.float .f32 (rootF x)) ∧ Ext w w' := by
  have wa : (Try.prog.underlying 24).isSome = true := by kernel_rfl
  have wb : (Try.prog.underlying 30).isSome = true := by kernel_rfl
  have HC : Hid (cn .f32 x = x) := cn_of_not hx.notN
  have HW : Hid (isN .f64 (wide x) = false) := (wide_bp hx (inF64 (by decide) (by decide))).notN
  have HS := Lib.hid (rootW_eq hx).1
  have HB := Lib.hid (rootF_bits hx)
  clear hx
  go_enter Try.func59, Try.ntmps59
  go_wp2_with (refine wpList_wide wa Try.underlying30 rfl rfl rfl ?_; intro zb zn hzb hzl; clear hzl; replace hzb := Lib.hid hzb)
  obtain rfl : zb = wide x := bits_of (by rw [hzb.out, HC.out]) HW.out
  refine (mathSqrt_any HS.out _).mono ?_
  rintro e w1 ⟨rfl, rfl⟩
  go_wp2_with (refine wpList_narrow wb Try.underlying24 rfl rfl rfl HB.out ?_)
  go_ret
  exact ⟨rfl, Ext.drewN _ _⟩
theorem l01Narrow_to (W r : Nat) (h : floatToFloatBits .f64 W .f32 = some r) (w : World) : Calls Try.prog 86 #[.float .f64 W] w fun e w' => e = .returned (.float .f32 r) ∧ w = w' := by
  have wb : (Try.prog.underlying 30).isSome = true := by kernel_rfl
  have HZ := Lib.hid h
  clear h
  go_enter Try.func86, Try.ntmps86
  go_wp2_with (refine wpList_narrow wb Try.underlying24 rfl rfl rfl HZ.out ?_)
  go_ret
  exact ⟨rfl, rfl⟩
theorem l01Sqrt_any (x : Nat) (w : World) (hx : Bp .f32 x 48) :
    Calls Try.prog 56 #[.float .f32 x] w fun e w' => e = .returned (.float .f32 (rootF x)) ∧ Ext w w' := by
  have wa : (Try.prog.underlying 24).isSome = true := by kernel_rfl
  have HC : Hid (cn .f32 x = x) := cn_of_not hx.notN
  have HW : Hid (isN .f64 (wide x) = false) := (wide_bp hx (inF64 (by decide) (by decide))).notN
  have HS := Lib.hid (rootW_eq hx).1
  have HB := Lib.hid (rootF_bits hx)
  clear hx
  go_enter Try.func56, Try.ntmps56
  go_wp2_with (refine wpList_wide wa Try.underlying30 rfl rfl rfl ?_; intro zb zn hzb hzl; clear hzl; replace hzb := Lib.hid hzb)
  obtain rfl : zb = wide x := bits_of (by rw [hzb.out, HC.out]) HW.out
  refine (mathSqrt_any HS.out _).mono ?_
  rintro e w1 ⟨rfl, rfl⟩
  go_wp2_with fail
  refine (l01Narrow_to (rootW x) (rootF x) HB.out _).mono ?_
  rintro e w2 ⟨rfl, rfl⟩
  go_wp2_with fail
  go_ret
  exact ⟨rfl, Ext.drewN _ _⟩
end Go.Proofs.Ytlbmjeennpccmaa
/- FnExactSurvivorSpreads returns true for every input and changes nothing that was there. No condition. -/
namespace Go.Proofs.Ytlbmjeennpccmaa
open Go Go.RowKit Go.ChangeShapes Go.WideShapes Go.ChangeAt

attribute [local go_sem] run_store_float
attribute [local irreducible] LX
theorem ofI_nat (n : Nat) : cn .f32 (floatOfInt .f32 (n : Int)) = ofI (n : Int) := cn_ofI _

set_option maxRecDepth 100000 in
set_option maxHeartbeats 8000000 in
theorem implSurvivorSpreads_any (v : Value) (ls : List Lf) (w : World) (r : RdL w v ls) : Calls Try.prog 16 #[v] w (FlPost (spO ls) w) := by
  cases h : livesB ls
  · have H : Hid (spO ls = none) := by show _ = _; unfold spO; rw [h]; rfl
    have HA := Lib.hid (areLives_any v ls w r)
    rw [h] at HA
    clear h
    obtain ⟨⟨_, a1, c1, rfl, p1, p2, _, _⟩, _⟩ := r
    go_enter Try.func16, Try.ntmps16
    go_wp2_with fail
    refine HA.out.mono ?_
    rintro e w1 ⟨rfl, X⟩
    go_wp2_with fail
    go_ret2
    rw [H.out]
    exact ⟨X, rfl⟩
  · have HO : Hid (spO ls = if finAll (spL ls (spK ls)) then some (spL ls (spK ls)) else none) := by show _ = _; unfold spO; rw [h, Bool.true_and]
    have HV := Lib.hid (areLives_any v ls w r)
    have hl := livesB_len h
    have hok := livesB_ok h r.2
    have hz : ls.length ≤ 1048576 := by omega
    have HF := Lib.hid (fun W r => failures_any v ls W r hl.1 hz hok)
    have HSV := Lib.hid (fun W r => survivors_any v ls W r hl.1 hz hok)
    have HA := Lib.hid (fun W r t => at_any v ls t W r hz)
    have HTR := Lib.hid (fun (W : World) (B g cap : Nat) => times_rd (w := W) (B := B) (g := g) (cap := cap) hok)
    have H48 := Lib.hid (fun k (hk : k ≤ spK ls) => spS_48 hl.2 hk)
    have HY : Hid (∀ k (h : k < (timesL ls).length), k ≤ spK ls → spB ls ((timesL ls)[k]) = true → k + 1 ≤ spK ls) := fun k h hk => spK_yes hk h
    have HN : Hid (∀ k (h : k < (timesL ls).length), k ≤ spK ls → spB ls ((timesL ls)[k]) = false → spK ls = k) := fun k h hk => spK_no hk h
    have HE : Hid (spK ls ≤ (timesL ls).length) := spK_le ls
    have HAC : Hid (∀ k (h : k < (timesL ls).length), spS ls (k + 1) = fop .add .f32 (spS ls k) (spQ ls ((timesL ls)[k]))) := fun k h => accK_succ h
    have HSL : Hid ((survL ls).length = (timesL ls).length) := scanK_len _ _ _ _
    have HC : Hid (∀ t, cntB (riskB t) ls ≤ 48) := fun t => Nat.le_trans List.countP_le_length hl.2
    have hlen := timesL_len ls
    have r' := r
    rw [h] at HV
    clear h hok hl
    obtain ⟨⟨-, a1, c1, rfl, -, -, -, -⟩, -⟩ := r
    go_enter Try.func16, Try.ntmps16
    go_wp2_with fail
    refine HV.out.mono ?_
    rintro e w0 ⟨rfl, X0⟩
    go_wp2_with fail
    refine (HSV.out _ ((r'.ext X0).ext (Ext.alloc _ _))).mono ?_
    rintro e w1 ⟨vt, rfl, ⟨gt, capt, os, rfl, hos, hob, otab⟩, X1⟩
    go_wp2_with fail
    refine (HF.out _ (((r'.ext X0).ext (Ext.alloc _ _)).ext X1)).mono ?_
    rintro e w2 ⟨g, cap, rfl, own, XF⟩
    have X : Ext w0 w2 := (Ext.alloc _ _).trans (X1.trans XF)
    have R := HTR.out _ _ _ _ own
    have o0 : w2.ownsRow w0.heap.size 24 1 (.slice (some ⟨w0.heap.size, 0, none⟩) 0 0) 0 [] := own_ext (World.ownsRow_lit (base := w0.heap.size) (e := 24) (size := 1) w0 #[] 0 (Nat.le_refl _) (by decide) rfl) (X1.trans XF)
    replace otab := own_ext otab XF
    have hol : os.length = (timesL ls).length := by have := congrArg List.length hos; rw [List.length_map, HSL.out] at this; exact this
    have HOS := Lib.hid hos
    clear hos hob HSL
    generalize timesL ls = T at *
    clear HF HTR own X1 XF HV HSV
    go_wp2_with fail
    go_loopw [20, 6, 4] (fun i s o wr => ∃ (k sb g2 cap2 : Nat) (us : List Nat), k ≤ T.length ∧ i = .int .i64 k ∧ s = .float .f32 sb ∧ o = .slice (some ⟨g2, 0, none⟩) k cap2 ∧ us.length = k ∧ Hid (cn .f32 sb = spS ls k) ∧ Hid (k ≤ spK ls) ∧ Hid (us.map (cn .f32) = spL ls k) ∧ Hid (∀ b ∈ us, b < 4294967296) ∧
        OutF w0.heap.size w2.heap.size wr g2 cap2 k (us.map (Value.float .f32)) ∧ Ext w2 wr) (fun i _ _ _ => T.length - (intOf i).toNat)
    case atStart => exact ⟨0, 0, _, _, [], Nat.zero_le _, rfl, rfl, rfl, rfl, rfl, Nat.zero_le _, rfl, (by show ∀ _ ∈ _, _; simp), .inl ⟨rfl, rfl, rfl, rfl⟩, Ext.refl _⟩
    case round =>
      obtain ⟨k, sb, g2, cap2, us, hk, rfl, rfl, rfl, hul, HS, HK, HU, HB, own, X2⟩ := hrel
      by_cases hlt : k < T.length
      · obtain ⟨b1, o1, hbo, hb1, hc1⟩ := (R.ext X2).at hlt
        obtain ⟨rfl, rfl⟩ : g = b1 ∧ 0 = o1 := by simpa using hbo
        rw [Nat.zero_add] at hc1
        replace HY := Lib.hid (HY.out k hlt HK.out)
        replace HN := Lib.hid (HN.out k hlt HK.out)
        replace HAC := Lib.hid (HAC.out k hlt)
        generalize T[k] = t at *
        have hR := HC.out t
        have hD := fell_risk t ls
        have q0 : fcmp .eql .f32 (cn .f32 (floatOfInt .f32 (cntB (fellB t) ls))) (cn .f32 (floatOfInt .f32 (cntB (riskB t) ls))) = decide (cntB (fellB t) ls = cntB (riskB t) ls) := by
          rw [ofI_nat, ofI_nat]; exact eqlI (by omega) (by omega)
        have HQ : Hid (spQ ls t = fop .quo .f32 (cn .f32 (floatOfInt .f32 (cntB (fellB t) ls))) (fop .mul .f32 (cn .f32 (floatOfInt .f32 (cntB (riskB t) ls))) (fop .sub .f32 (cn .f32 (floatOfInt .f32 (cntB (riskB t) ls))) (cn .f32 (floatOfInt .f32 (cntB (fellB t) ls)))))) := by
          show _ = _
          rw [ofI_nat, ofI_nat, subI (by omega) (by omega), ← Int.ofNat_sub hD, mulI (by omega) (by omega)]; rfl
        have HAT := Lib.hid (fun W r => HA.out W r t)
        cases hq : decide (cntB (fellB t) ls = cntB (riskB t) ls)
        · have HK2 := Lib.hid (HY.out (by unfold spB; rw [hq]; rfl))
          rw [hq] at q0
          clear hq HY HN hR hD
          generalize floatOfInt .f32 (cntB (fellB t) ls) = fa at *
          generalize floatOfInt .f32 (cntB (riskB t) ls) = ra at *
          have ownz := own_ext otab X2
          have hcu := World.ownsRow.cellAt ownz k (by omega)
          have hgl := (World.ownsRow.lt ownz gt rfl).2
          rw [List.getElem?_map, List.getElem?_eq_getElem (by omega)] at hcu
          simp only [Option.map_some] at hcu
          have HUU : Hid (cn .f32 (os[k]'(by omega)) = (survL ls).getD k 0) := by
            show _ = _; rw [← HOS.out]; simp [show k < os.length by omega]
          generalize os[k]'(by omega) = u at *
          clear hbo ownz
          go_wp2_with fail
          refine (HAT.out _ (((r'.ext X0).ext X).ext X2)).mono ?_
          rintro e w3 ⟨rfl, hx⟩
          replace hcu := (Below.cell hx (p := ⟨gt, k, none⟩) hgl).trans hcu
          replace hgl := Nat.lt_of_lt_of_le hgl hx.size
          replace X2 := X2.trans hx
          replace own := own.ext hx
          clear hx hc1 hb1
          go_wp2_with (first | (refine wpList_fcmp rfl rfl rfl rfl rfl (by first | with_reducible assumption | exact rfl) ?_) | (refine wpList_fop rfl rfl rfl rfl rfl ?_; intro fb nf hfb hfl; replace hfb := Lib.hid hfb; replace hfl := Lib.hid hfl))
          rename_i b1 n1 e1 l1 b2 n2 e2 l2 b3 n3 e3 l3
          have N1 : Hid (cn .f32 fb = spS ls (k + 1)) := by
            show _ = _; rw [HAC.out, hfb.out, e3.out, e2.out, e1.out, HS.out, HQ.out]
          obtain rfl : fb = spS ls (k + 1) := bits_of N1.out (H48.out _ HK2.out).notN
          have HRT := Lib.hid (fun W => rootNumber_any (spS ls (k + 1)) W (H48.out _ HK2.out))
          have HXE : Hid (spX ls k = fop .mul .f32 ((survL ls).getD k 0) (rootF (spS ls (k + 1)))) := rfl
          have HSC := Lib.hid (spL_succ ls k)
          have HRN : Hid (cn .f32 (rootF (spS ls (k + 1))) = rootF (spS ls (k + 1))) := cn_of_not (narrow_bp (rootW_eq (H48.out _ HK2.out)).2 (inF32 (by decide) (by decide))).1.notN
          clear hfb hfl e1 l1 e2 l2 e3 l3 HAC HQ HAT q0
          refine wp_region_rel 9 (fun _ v => v = .float .f32 (rootF (spS ls (k + 1)))) (fun _ _ _ => True) (by kernel_rfl) (by kernel_rfl) (by kernel_rfl) ?_
          dsimp only [List.take, List.drop, List.length]
          refine LX_det (.slice (some ⟨g2, 0, none⟩) k cap2) (by kernel_rfl) rfl (fun w' hx _ => ?_) ?_
          · go_simp
          refine LX_det (.slice (some ⟨gt, 0, none⟩) T.length capt) (by kernel_rfl) rfl (fun w' hx _ => ?_) ?_
          · go_simp
          refine LX_det (.int .i64 k) (by kernel_rfl) rfl (fun w' hx _ => ?_) ?_
          · go_simp
          refine LX_det (.pointer (some ⟨gt, k, none⟩)) (by kernel_rfl) rfl (fun w' hx _ => ?_) ?_
          · go_simp
          refine LX_det (.float .f32 u) (by kernel_rfl) rfl (fun w' hx _ => ?_) ?_
          · have m0 := (Below.cell hx (p := ⟨gt, k, none⟩) hgl).trans hcu
            go_simp
          refine LX_det (.float .f32 (spS ls (k + 1))) (by kernel_rfl) rfl (fun w' hx _ => ?_) ?_
          · go_simp
          refine LX_call (by kernel_rfl) rfl (fun _ => St.top) (fun w' hx _ => ?_) ?_
          · go_simp
            refine UponC.enter ((HRT.out w').mono ?_)
            rintro e w'' ⟨rfl, hx'⟩
            exact ⟨_, rfl, hx', rfl, trivial⟩
          rintro _ rfl
          simp only [Act.put, List.setIfInBounds_toArray, List.set_cons_succ, List.set_cons_zero]
          refine LX_fop (by kernel_rfl) rfl rfl rfl rfl ?_
          intro f1 hf1 hl1
          replace hf1 := Lib.hid hf1
          replace hl1 := Lib.hid hl1
          refine LX_build [.float .f32 f1] 24 1 (by kernel_rfl) rfl (fun w' hx => ?_) ?_
          · go_simp
          intro B8 hB8
          refine LX_nil fun w6 hx hg => ?_
          have hNw := ((hg 51).2 rfl : NewS _ _ _ _ _ _).bx
          clear hg
          replace hx := (Ext.drewN _ _).trans hx
          replace own := own.ext hx
          replace X2 := X2.trans hx
          clear hx
          have M1 : Hid (cn .f32 f1 = spX ls k) := by show _ = _; rw [hf1.out, HUU.out, HRN.out, HXE.out]
          rcases own with ⟨rfl, rfl, rfl, hv⟩ | ⟨hk0, own⟩
          · have hu0 : us = [] := List.eq_nil_of_length_eq_zero hul
            subst hu0
            clear hv
            simp only [Act.put, List.setIfInBounds_toArray, List.set_cons_succ, List.set_cons_zero]
            refine wpList_push0 infoF32 rfl Try.underlying33 rfl rfl rfl rfl hNw.one rfl (by decide) ?_
            intro g3 cap3 w4 own3 hx3
            simp only [Act.put, List.setIfInBounds_toArray, List.set_cons_succ, List.set_cons_zero]
            have N2 : Hid (([] ++ [f1]).map (cn .f32) = spL ls (0 + 1)) := by
              show _ = _; rw [List.map_append, HU.out, HSC.out, List.map_cons, M1.out]; rfl
            have N3 : Hid (∀ b ∈ [] ++ [f1], b < 4294967296) := by
              show ∀ _ ∈ _, _
              intro x hx
              rcases List.mem_append.1 hx with h | h
              · exact HB.out x h
              · obtain rfl := List.mem_singleton.1 h; exact hl1.out
            go_wp2_with fail
            go_roundw
            case rel => exact ⟨1, spS ls (0 + 1), g3, cap3, [] ++ [f1], by omega, by go_num, rfl, rfl, rfl, N1, HK2, N2, N3, .inr ⟨by omega, World.ownsRow.mono own3 X2.size⟩, X2.trans hx3⟩
            case measure => simp [intOf]; omega
          · simp only [Act.put, List.setIfInBounds_toArray, List.set_cons_succ, List.set_cons_zero]
            refine wpList_push infoF32 rfl Try.underlying33 rfl rfl rfl own rfl hNw.one rfl (by omega) (by decide) X2.size ?_
            intro g3 cap3 w4 hg3 own3 bel3 sz3
            simp only [Act.put, List.setIfInBounds_toArray, List.set_cons_succ, List.set_cons_zero]
            have N2 : Hid ((us ++ [f1]).map (cn .f32) = spL ls (k + 1)) := by
              show _ = _; rw [List.map_append, HU.out, HSC.out, List.map_cons, M1.out]; rfl
            have N3 : Hid (∀ b ∈ us ++ [f1], b < 4294967296) := by
              show ∀ _ ∈ _, _
              intro x hx
              rcases List.mem_append.1 hx with h | h
              · exact HB.out x h
              · obtain rfl := List.mem_singleton.1 h; exact hl1.out
            go_wp2_with fail
            go_roundw
            case rel => exact ⟨k + 1, spS ls (k + 1), g3, cap3, us ++ [f1], by omega, by go_num, rfl, rfl, by simp [hul], N1, HK2, N2, N3, .inr ⟨by omega, by rw [List.map_append]; exact own3⟩, bel3 _ X2⟩
            case measure => simp [intOf]; omega
        · have hKe := HN.out (by unfold spB; rw [hq]; rfl)
          rw [hq] at q0
          clear hq HY HN hR hD
          generalize floatOfInt .f32 (cntB (fellB t) ls) = fa at *
          generalize floatOfInt .f32 (cntB (riskB t) ls) = ra at *
          clear hbo HAC HQ
          replace hKe := Lib.hid hKe
          go_wp2_with fail
          refine (HAT.out _ (((r'.ext X0).ext X).ext X2)).mono ?_
          rintro e w3 ⟨rfl, hx⟩
          replace X2 := X2.trans hx
          replace own := own.ext hx
          clear hx hc1 hb1 HAT HA H48 HC R HK HS otab
          go_wp2_with (first | (refine wpList_fcmp rfl rfl rfl rfl rfl (by first | with_reducible assumption | exact rfl) ?_) | (refine wpList_fop rfl rfl rfl rfl rfl ?_; intro fb nf hfb hfl; replace hfb := Lib.hid hfb; replace hfl := Lib.hid hfl))
          replace hKe := hKe.out
          have hKk := Lib.hid hKe
          have hU := HU.out
          have hB := HB.out
          have hul' := Lib.hid hul
          have R : RdF w3 (.slice (some ⟨g2, 0, none⟩) us.length cap2) us := by
            rw [hul]
            rcases own with ⟨h1, h2, h3, h4⟩ | ⟨_, own⟩
            · subst h1 h2 h3
              have hu0 : us = [] := List.eq_nil_of_length_eq_zero hul
              subst hu0
              exact ⟨own_rd (own_ext o0 X2), hB⟩
            · exact ⟨by rw [hul]; exact own_rd own, hB⟩
          clear hKe
          refine (ifAll_any _ us _ (by have := hul'.out; rw [this] at R; exact R)).mono ?_
          rintro e w6 ⟨rfl, X6⟩
          rw [hU]
          have hO := HO.out
          rw [hKk.out] at hO
          cases hf : finAll (spL ls k)
          · have HN : Hid (spO ls = none) := by show _ = _; rw [hO, hf]; rfl
            clear hO hf hU hKk
            unfold orNil
            go_wp2_with fail
            go_ret2
            rw [HN.out]
            exact ⟨(X0.trans (X.trans X2)).trans X6, rfl⟩
          · have HN : Hid (spO ls = some (spL ls k)) := by show _ = _; rw [hO, hf]; rfl
            have hU2 := Lib.hid hU
            clear hO hf hU hKk
            unfold orNil
            go_wp2_with fail
            go_ret2
            rw [HN.out]
            have hul := hul'.out
            rcases own with ⟨h1, rfl, rfl, hv⟩ | ⟨_, own⟩
            · refine ⟨(X0.trans (X.trans X2)).trans X6, w0.heap.size, 0, us, by rw [hul]; rfl, hU2.out, hB, ?_⟩
              rw [hul, h1, hv]; exact World.ownsRow.mono (own_ext o0 (X2.trans X6)) X0.size
            · exact ⟨(X0.trans (X.trans X2)).trans X6, g2, cap2, us, by rw [hul]; rfl, hU2.out, hB, by rw [hul]; exact World.ownsRow.mono (own_ext own X6) (X0.trans X).size⟩
      · have hKe : spK ls = k := by have := HK.out; have := HE.out; omega
        have hKk := Lib.hid hKe
        have hU := HU.out
        have hB := HB.out
        have hul' := Lib.hid hul
        have R : RdF wr (.slice (some ⟨g2, 0, none⟩) us.length cap2) us := by
          rw [hul]
          rcases own with ⟨h1, h2, h3, h4⟩ | ⟨_, own⟩
          · subst h1 h2 h3
            have hu0 : us = [] := List.eq_nil_of_length_eq_zero hul
            subst hu0
            exact ⟨own_rd (own_ext o0 X2), hB⟩
          · exact ⟨by rw [hul]; exact own_rd own, hB⟩
        clear hKe
        go_wp2_with fail
        refine (ifAll_any _ us _ (by have := hul'.out; rw [this] at R; exact R)).mono ?_
        rintro e w6 ⟨rfl, X6⟩
        rw [hU]
        have hO := HO.out
        rw [hKk.out] at hO
        cases hf : finAll (spL ls k)
        · have HN : Hid (spO ls = none) := by show _ = _; rw [hO, hf]; rfl
          clear hO hf hU hKk
          unfold orNil
          go_wp2_with fail
          go_ret2
          rw [HN.out]
          exact ⟨(X0.trans (X.trans X2)).trans X6, rfl⟩
        · have HN : Hid (spO ls = some (spL ls k)) := by show _ = _; rw [hO, hf]; rfl
          have hU2 := Lib.hid hU
          clear hO hf hU hKk
          unfold orNil
          go_wp2_with fail
          go_ret2
          rw [HN.out]
          have hul := hul'.out
          rcases own with ⟨h1, rfl, rfl, hv⟩ | ⟨_, own⟩
          · refine ⟨(X0.trans (X.trans X2)).trans X6, w0.heap.size, 0, us, by rw [hul]; rfl, hU2.out, hB, ?_⟩
            rw [hul, h1, hv]; exact World.ownsRow.mono (own_ext o0 (X2.trans X6)) X0.size
          · exact ⟨(X0.trans (X.trans X2)).trans X6, g2, cap2, us, by rw [hul]; rfl, hU2.out, hB, by rw [hul]; exact World.ownsRow.mono (own_ext own X6) (X0.trans X).size⟩

set_option maxRecDepth 100000 in
set_option maxHeartbeats 8000000 in
theorem specSurvivorSpreads_any (v : Value) (ls : List Lf) (w : World) (r : RdL w v ls) : Calls Try.prog 15 #[v] w (FlPost (spO ls) w) := by
  cases h : livesB ls
  · have H : Hid (spO ls = none) := by show _ = _; unfold spO; rw [h]; rfl
    have HA := Lib.hid (l02Lives_any v ls w r)
    rw [h] at HA
    clear h
    obtain ⟨⟨_, a1, c1, rfl, p1, p2, _, _⟩, _⟩ := r
    go_enter Try.func15, Try.ntmps15
    go_wp2_with fail
    refine HA.out.mono ?_
    rintro e w1 ⟨rfl, X⟩
    go_wp2_with fail
    go_ret2
    rw [H.out]
    exact ⟨X, rfl⟩
  · have HO : Hid (spO ls = if finAll (spL ls (spK ls)) then some (spL ls (spK ls)) else none) := by show _ = _; unfold spO; rw [h, Bool.true_and]
    have HV := Lib.hid (l02Lives_any v ls w r)
    have hl := livesB_len h
    have hok := livesB_ok h r.2
    have hz : ls.length ≤ 1048576 := by omega
    have HF := Lib.hid (fun W r => l02Times_any v ls W r hl.1 hz hok)
    have HSV := Lib.hid (fun W r => l02Table_any v ls W r hl.1 hz hok)
    have HA1 := Lib.hid (fun W r t => l02Fell_any v ls t W r hz)
    have HA2 := Lib.hid (fun W r t => l02Risk_any v ls t W r hz)
    have HTR := Lib.hid (fun (W : World) (B g cap : Nat) => times_rd (w := W) (B := B) (g := g) (cap := cap) hok)
    have H48 := Lib.hid (fun k (hk : k ≤ spK ls) => spS_48 hl.2 hk)
    have HY : Hid (∀ k (h : k < (timesL ls).length), k ≤ spK ls → spB ls ((timesL ls)[k]) = true → k + 1 ≤ spK ls) := fun k h hk => spK_yes hk h
    have HN : Hid (∀ k (h : k < (timesL ls).length), k ≤ spK ls → spB ls ((timesL ls)[k]) = false → spK ls = k) := fun k h hk => spK_no hk h
    have HE : Hid (spK ls ≤ (timesL ls).length) := spK_le ls
    have HAC : Hid (∀ k (h : k < (timesL ls).length), spS ls (k + 1) = fop .add .f32 (spS ls k) (spQ ls ((timesL ls)[k]))) := fun k h => accK_succ h
    have HSL : Hid ((survL ls).length = (timesL ls).length) := scanK_len _ _ _ _
    have HC : Hid (∀ t, cntB (riskB t) ls ≤ 48) := fun t => Nat.le_trans List.countP_le_length hl.2
    have hlen := timesL_len ls
    have r' := r
    rw [h] at HV
    clear h hok hl
    obtain ⟨⟨-, a1, c1, rfl, -, -, -, -⟩, -⟩ := r
    go_enter Try.func15, Try.ntmps15
    go_wp2_with fail
    refine HV.out.mono ?_
    rintro e w0 ⟨rfl, X0⟩
    go_wp2_with fail
    refine (HF.out _ (r'.ext X0)).mono ?_
    rintro e w1 ⟨g, cap, rfl, own, X1⟩
    go_wp2_with fail
    refine (HSV.out _ ((r'.ext X0).ext X1)).mono ?_
    rintro e w2 ⟨vt, rfl, ⟨gt, capt, os, rfl, hos, hob, otab⟩, XF⟩
    have X : Ext w0 w2 := X1.trans XF
    replace own := own_ext own XF
    have R := HTR.out _ _ _ _ own
    have hol : os.length = (timesL ls).length := by have := congrArg List.length hos; rw [List.length_map, HSL.out] at this; exact this
    have HOS := Lib.hid hos
    clear hos hob HSL
    generalize timesL ls = T at *
    clear HF HTR own X1 XF HV HSV
    go_wp2_with fail
    go_loopw [8, 7, 6] (fun i s o wr => ∃ (k sb g2 cap2 : Nat) (us : List Nat), k ≤ T.length ∧ i = .int .i64 k ∧ s = .float .f32 sb ∧ o = .slice (some ⟨g2, 0, none⟩) k cap2 ∧ us.length = k ∧ Hid (cn .f32 sb = spS ls k) ∧ Hid (k ≤ spK ls) ∧ Hid (us.map (cn .f32) = spL ls k) ∧ Hid (∀ b ∈ us, b < 4294967296) ∧
        wr.ownsRow w2.heap.size 24 1 (.slice (some ⟨g2, 0, none⟩) k cap2) k (us.map (Value.float .f32)) ∧ Ext w2 wr) (fun i _ _ _ => T.length - (intOf i).toNat)
    case atStart => exact ⟨0, 0, _, _, [], Nat.zero_le _, rfl, rfl, rfl, rfl, rfl, Nat.zero_le _, rfl, (by show ∀ _ ∈ _, _; simp), World.ownsRow_lit w2 #[] 0 (Nat.le_refl _) (by decide) rfl, Ext.alloc _ _⟩
    case round =>
      obtain ⟨k, sb, g2, cap2, us, hk, rfl, rfl, rfl, hul, HS, HK, HU, HB, own, X2⟩ := hrel
      by_cases hlt : k < T.length
      · obtain ⟨b1, o1, hbo, hb1, hc1⟩ := (R.ext X2).at hlt
        obtain ⟨rfl, rfl⟩ : g = b1 ∧ 0 = o1 := by simpa using hbo
        rw [Nat.zero_add] at hc1
        replace HY := Lib.hid (HY.out k hlt HK.out)
        replace HN := Lib.hid (HN.out k hlt HK.out)
        replace HAC := Lib.hid (HAC.out k hlt)
        generalize T[k] = t at *
        have hR := HC.out t
        have hD := fell_risk t ls
        have HQ : Hid (spQ ls t = fop .quo .f32 (cn .f32 (floatOfInt .f32 (cntB (fellB t) ls))) (cn .f32 (floatOfInt .f32 ((cntB (riskB t) ls * (cntB (riskB t) ls - cntB (fellB t) ls) : Nat) : Int)))) := by
          show _ = _
          rw [ofI_nat, ofI_nat]; rfl
        have HYN : Hid (spB ls t = !decide (cntB (fellB t) ls = cntB (riskB t) ls)) := rfl
        have HAT1 := Lib.hid (fun W r => HA1.out W r t)
        have HAT2 := Lib.hid (fun W r => HA2.out W r t)
        clear hbo
        generalize cntB (fellB t) ls = D at *
        generalize cntB (riskB t) ls = N at *
        have s1 : IntKind.i64.wrap ((N : Int) - (D : Int)) = ((N - D : Nat) : Int) := by rw [IntWalk.i64_in ((N : Int) - (D : Int)) (by omega)]; omega
        have s2 : IntKind.i64.wrap ((N : Int) * ((N - D : Nat) : Int)) = ((N * (N - D) : Nat) : Int) := by
          have h1 : N * (N - D) ≤ 48 * 48 := Nat.mul_le_mul hR (by omega)
          have e : ((N : Int) * ((N - D : Nat) : Int)) = ((N * (N - D) : Nat) : Int) := by push_cast; rfl
          rw [e, IntWalk.i64_in _ (by omega)]
        generalize N * (N - D) = P at *
        generalize N - D = E at *
        by_cases hq : D = N
        · have hKe := HN.out (by rw [HYN.out, hq]; simp)
          replace hKe := Lib.hid hKe
          clear HY HN HAC HQ HYN s1 s2
          go_wp2_with fail
          refine (HAT1.out _ (((r'.ext X0).ext X).ext X2)).mono ?_
          rintro e w3 ⟨rfl, rfl⟩
          go_wp2_with fail
          refine (HAT2.out _ (((r'.ext X0).ext X).ext X2)).mono ?_
          rintro e w4 ⟨rfl, rfl⟩
          clear hc1 hb1 HAT1 HAT2 HA1 HA2 H48 HC R HK HS otab
          go_wp2_with (first | (refine wpList_fcmp rfl rfl rfl rfl rfl (by first | with_reducible assumption | exact rfl) ?_) | (refine wpList_fop rfl rfl rfl rfl rfl ?_; intro fb nf hfb hfl; replace hfb := Lib.hid hfb; replace hfl := Lib.hid hfl))
          replace hKe := hKe.out
          have hKk := Lib.hid hKe
          have hU := HU.out
          have hB := HB.out
          have hul' := Lib.hid hul
          have R : RdF wr (.slice (some ⟨g2, 0, none⟩) us.length cap2) us := ⟨by rw [hul]; exact own_rd own, hB⟩
          clear hKe
          refine (l02List_any _ us _ (by have := hul'.out; rw [this] at R; exact R)).mono ?_
          rintro e w6 ⟨rfl, X6⟩
          rw [hU]
          have hO := HO.out
          rw [hKk.out] at hO
          cases hf : finAll (spL ls k)
          · have HN : Hid (spO ls = none) := by show _ = _; rw [hO, hf]; rfl
            clear hO hf hU hKk
            unfold orNil
            go_wp2_with fail
            go_ret2
            rw [HN.out]
            exact ⟨(X0.trans (X.trans X2)).trans X6, rfl⟩
          · have HN : Hid (spO ls = some (spL ls k)) := by show _ = _; rw [hO, hf]; rfl
            have hU2 := Lib.hid hU
            clear hO hf hU hKk
            unfold orNil
            go_wp2_with fail
            go_ret2
            rw [HN.out]
            have hul := hul'.out
            exact ⟨(X0.trans (X.trans X2)).trans X6, g2, cap2, us, by rw [hul]; rfl, hU2.out, hB, by rw [hul]; exact World.ownsRow.mono (own_ext own X6) (X0.trans X).size⟩
        · have HK2 := Lib.hid (HY.out (by rw [HYN.out]; simpa using hq))
          have q0 : ((D : Int) == (N : Int)) = false := by rw [beq_eq_false_iff_ne]; omega
          clear HY HN HYN hR hD
          have ownz := own_ext otab X2
          have hcu := World.ownsRow.cellAt ownz k (by omega)
          have hgl := (World.ownsRow.lt ownz gt rfl).2
          rw [List.getElem?_map, List.getElem?_eq_getElem (by omega)] at hcu
          simp only [Option.map_some] at hcu
          have HUU : Hid (cn .f32 (os[k]'(by omega)) = (survL ls).getD k 0) := by
            show _ = _; rw [← HOS.out]; simp [show k < os.length by omega]
          generalize os[k]'(by omega) = u at *
          clear ownz
          go_wp2_with fail
          refine (HAT1.out _ (((r'.ext X0).ext X).ext X2)).mono ?_
          rintro e w3 ⟨rfl, rfl⟩
          go_wp2_with fail
          refine (HAT2.out _ (((r'.ext X0).ext X).ext X2)).mono ?_
          rintro e w4 ⟨rfl, rfl⟩
          clear hc1 hb1
          go_wp2_with (first | (refine wpList_fcmp rfl rfl rfl rfl rfl (by first | with_reducible assumption | exact rfl) ?_) | (refine wpList_fop rfl rfl rfl rfl rfl ?_; intro fb nf hfb hfl; replace hfb := Lib.hid hfb; replace hfl := Lib.hid hfl))
          rename_i b1 n1 e1 l1
          have N1 : Hid (cn .f32 fb = spS ls (k + 1)) := by
            show _ = _; rw [HAC.out, hfb.out, e1.out, HS.out, HQ.out]
          obtain rfl : fb = spS ls (k + 1) := bits_of N1.out (H48.out _ HK2.out).notN
          have HRT := Lib.hid (fun W => l01Sqrt_any (spS ls (k + 1)) W (H48.out _ HK2.out))
          have HXE : Hid (spX ls k = fop .mul .f32 ((survL ls).getD k 0) (rootF (spS ls (k + 1)))) := rfl
          have HSC := Lib.hid (spL_succ ls k)
          have HRN : Hid (cn .f32 (rootF (spS ls (k + 1))) = rootF (spS ls (k + 1))) := cn_of_not (narrow_bp (rootW_eq (H48.out _ HK2.out)).2 (inF32 (by decide) (by decide))).1.notN
          clear hfb hfl e1 l1 HAC HQ HAT1 HAT2 q0
          refine wp_region_rel 9 (fun _ v => v = .float .f32 (rootF (spS ls (k + 1)))) (fun _ _ _ => True) (by kernel_rfl) (by kernel_rfl) (by kernel_rfl) ?_
          dsimp only [List.take, List.drop, List.length]
          refine LX_det (.slice (some ⟨g2, 0, none⟩) k cap2) (by kernel_rfl) rfl (fun w' hx _ => ?_) ?_
          · go_simp
          refine LX_det (.slice (some ⟨gt, 0, none⟩) T.length capt) (by kernel_rfl) rfl (fun w' hx _ => ?_) ?_
          · go_simp
          refine LX_det (.int .i64 k) (by kernel_rfl) rfl (fun w' hx _ => ?_) ?_
          · go_simp
          refine LX_det (.pointer (some ⟨gt, k, none⟩)) (by kernel_rfl) rfl (fun w' hx _ => ?_) ?_
          · go_simp
          refine LX_det (.float .f32 u) (by kernel_rfl) rfl (fun w' hx _ => ?_) ?_
          · have m0 := (Below.cell hx (p := ⟨gt, k, none⟩) hgl).trans hcu
            go_simp
          refine LX_det (.float .f32 (spS ls (k + 1))) (by kernel_rfl) rfl (fun w' hx _ => ?_) ?_
          · go_simp
          refine LX_call (by kernel_rfl) rfl (fun _ => St.top) (fun w' hx _ => ?_) ?_
          · go_simp
            refine UponC.enter ((HRT.out w').mono ?_)
            rintro e w'' ⟨rfl, hx'⟩
            exact ⟨_, rfl, hx', rfl, trivial⟩
          rintro _ rfl
          simp only [Act.put, List.setIfInBounds_toArray, List.set_cons_succ, List.set_cons_zero]
          refine LX_fop (by kernel_rfl) rfl rfl rfl rfl ?_
          intro f1 hf1 hl1
          replace hf1 := Lib.hid hf1
          replace hl1 := Lib.hid hl1
          refine LX_build [.float .f32 f1] 24 1 (by kernel_rfl) rfl (fun w' hx => ?_) ?_
          · go_simp
          intro B8 hB8
          refine LX_nil fun w6 hx hg => ?_
          have hNw := ((hg 59).2 rfl : NewS _ _ _ _ _ _).bx
          clear hg
          replace hx := (Ext.drewN _ _).trans hx
          replace own := own_ext own hx
          replace X2 := X2.trans hx
          clear hx
          have M1 : Hid (cn .f32 f1 = spX ls k) := by show _ = _; rw [hf1.out, HUU.out, HRN.out, HXE.out]
          simp only [Act.put, List.setIfInBounds_toArray, List.set_cons_succ, List.set_cons_zero]
          refine wpList_push infoF32 rfl Try.underlying33 rfl rfl rfl own rfl hNw.one rfl (by omega) (by decide) X2.size ?_
          intro g3 cap3 w4 hg3 own3 bel3 sz3
          simp only [Act.put, List.setIfInBounds_toArray, List.set_cons_succ, List.set_cons_zero]
          have N2 : Hid ((us ++ [f1]).map (cn .f32) = spL ls (k + 1)) := by
            show _ = _; rw [List.map_append, HU.out, HSC.out, List.map_cons, M1.out]; rfl
          have N3 : Hid (∀ b ∈ us ++ [f1], b < 4294967296) := by
            show ∀ _ ∈ _, _
            intro x hx
            rcases List.mem_append.1 hx with h | h
            · exact HB.out x h
            · obtain rfl := List.mem_singleton.1 h; exact hl1.out
          go_wp2_with fail
          go_roundw
          case rel => exact ⟨k + 1, spS ls (k + 1), g3, cap3, us ++ [f1], by omega, by go_num, rfl, rfl, by simp [hul], N1, HK2, N2, N3, by rw [List.map_append]; exact own3, bel3 _ X2⟩
          case measure => simp [intOf]; omega
      · have hKe : spK ls = k := by have := HK.out; have := HE.out; omega
        have hKk := Lib.hid hKe
        have hU := HU.out
        have hB := HB.out
        have hul' := Lib.hid hul
        have R : RdF wr (.slice (some ⟨g2, 0, none⟩) us.length cap2) us := ⟨by rw [hul]; exact own_rd own, hB⟩
        clear hKe
        go_wp2_with fail
        refine (l02List_any _ us _ (by have := hul'.out; rw [this] at R; exact R)).mono ?_
        rintro e w6 ⟨rfl, X6⟩
        rw [hU]
        have hO := HO.out
        rw [hKk.out] at hO
        cases hf : finAll (spL ls k)
        · have HN : Hid (spO ls = none) := by show _ = _; rw [hO, hf]; rfl
          clear hO hf hU hKk
          unfold orNil
          go_wp2_with fail
          go_ret2
          rw [HN.out]
          exact ⟨(X0.trans (X.trans X2)).trans X6, rfl⟩
        · have HN : Hid (spO ls = some (spL ls k)) := by show _ = _; rw [hO, hf]; rfl
          have hU2 := Lib.hid hU
          clear hO hf hU hKk
          unfold orNil
          go_wp2_with fail
          go_ret2
          rw [HN.out]
          have hul := hul'.out
          exact ⟨(X0.trans (X.trans X2)).trans X6, g2, cap2, us, by rw [hul]; rfl, hU2.out, hB, by rw [hul]; exact World.ownsRow.mono (own_ext own X6) (X0.trans X).size⟩

set_option maxRecDepth 100000 in
set_option maxHeartbeats 4000000 in
theorem FnExactSurvivorSpreads_law (v : Value) (ls : List Lf) (o : Option (List Nat)) (w : World) (r : RdL w v ls)
    (hs : ∀ w v, RdL w v ls → Calls Try.prog 15 #[v] w (FlPost o w)) (hi : ∀ w v, RdL w v ls → Calls Try.prog 16 #[v] w (FlPost o w)) (hlen : (o.getD []).length ≤ 1048576) :
    Calls Try.prog 4 #[v] w fun e w' => e = .returned (.bool true) ∧ Ext w w' := by
  have HS := Lib.hid hs
  have HI := Lib.hid hi
  have r' := r
  obtain ⟨⟨-, a1, c1, rfl, p1, p2, -, -⟩, -⟩ := r
  have p3 : ls.length ≤ maxLen := Nat.le_trans p1 p2
  clear hs hi p1 p2
  by_cases hn : ls.length ≤ 1048576
  · go_enter Try.func4, Try.ntmps4
    go_wp2_with fail
    refine (szLifeS_any _ _ _ _ _ p3 (by decide) (by decide)).mono ?_
    rintro e w0 ⟨rfl, rfl⟩
    rw [if_neg (by omega)]
    have hge : ¬ (1048576 : Int) - ls.length < 0 := by omega
    go_wp2_with fail
    refine (toLifeS_any _ ls _ r' hn).mono ?_
    rintro e w1 ⟨g1, rfl, X1, own1⟩
    have r1 : RdL w1 (.slice (some ⟨g1, 0, none⟩) ls.length ls.length) ls := own1.rd r'.2
    clear own1
    go_wp2_with fail
    refine (HS.out _ _ r1).mono ?_
    intro e w2 h2
    obtain ⟨vs, rfl, os, X2⟩ := postF_own h2
    clear h2 r1
    generalize hZ : o.getD [] = zs at *
    have X02 : Ext w w2 := X1.trans X2
    go_wp2_with fail
    refine (toLifeS_any _ ls _ (r'.ext X02) hn).mono ?_
    rintro e w3 ⟨g3, rfl, X3, own3⟩
    have hx0 : RdL w3 (.slice (some ⟨g3, 0, none⟩) ls.length ls.length) ls := own3.rd r'.2
    have hg3 := own3.lt
    go_wp2_with fail
    refine (HI.out _ _ hx0).mono ?_
    intro e w4 h4
    obtain ⟨vi, rfl, oi, X4⟩ := postF_own h4
    rw [hZ] at oi
    clear h4
    have Y4 : Ext w2 w4 := Ext.trans X3 X4
    have hz3 : w3.heap.size ≤ w4.heap.size := X4.size
    have hs2 := X02.size
    have own4 := own3.ext X4
    clear own3 hx0
    go_wp2_with fail
    refine (eqF_eq oi (os.ext Y4)).mono ?_
    rintro e w5 ⟨rfl, X5⟩
    replace oi := oi.ext X5; replace own4 := own4.ext X5; replace Y4 := Ext.trans Y4 X5; replace hz3 := Nat.le_trans hz3 X5.size
    clear X5 X4
    go_wp2_with fail
    refine (toLifeS_any _ ls _ (r'.ext (X02.trans Y4)) hn).mono ?_
    rintro e w6 ⟨g6, rfl, X6, own6⟩
    have r6 : RdL w6 (.slice (some ⟨g6, 0, none⟩) ls.length ls.length) ls := own6.rd r'.2
    replace oi := oi.ext X6; replace own4 := own4.ext X6; replace Y4 := Ext.trans Y4 X6; replace hz3 := Nat.le_trans hz3 X6.size
    clear X6 own6
    go_wp2_with fail
    refine (eqLifeS_any _ _ ls ls _ (own4.rd r'.2) r6 rfl).mono ?_
    rintro e w7 ⟨rfl, X7⟩
    replace oi := oi.ext X7; replace own4 := own4.ext X7; replace Y4 := Ext.trans Y4 X7; replace hz3 := Nat.le_trans hz3 X7.size
    clear X7 r6
    go_wp2_with fail
    refine (markL_g 1 g3 ls.length w2.heap.size ls _ own4 (by decide) (by decide) hn).mono ?_
    rintro e w8 ⟨rfl, G8, -⟩
    replace oi := oi.grown G8 hg3.2; replace Y4 := Below.trans Y4 (grown_ext G8 hg3.1 Y4.size); replace hz3 := Nat.le_trans hz3 G8.size
    clear own4 G8
    go_wp2_with fail
    refine (eqF_eq oi (os.ext Y4)).mono ?_
    rintro e w9 ⟨rfl, X9⟩
    replace oi := oi.ext X9; replace Y4 := Ext.trans Y4 X9; replace hz3 := Nat.le_trans hz3 X9.size
    clear X9
    have hb3 := hz3
    go_wp2_with fail
    refine (markF_own 1 _ _ _ _ oi hb3 (by decide) (by decide) hlen).mono ?_
    rintro e w10 ⟨rfl, G10, oi2⟩
    replace Y4 := Below.trans Y4 (G10.mono X3.size)
    clear G10 oi hb3
    go_wp2_with fail
    refine (heldF_any 1 _ zs.length _ oi2 (by decide) (by decide) hlen).mono ?_
    rintro e w11 ⟨rfl, rfl⟩
    go_wp2_with fail
    refine (toLifeS_any _ ls _ (r'.ext (X02.trans Y4)) hn).mono ?_
    rintro e w12 ⟨g12, rfl, X12, own12⟩
    have r12 : RdL w12 (.slice (some ⟨g12, 0, none⟩) ls.length ls.length) ls := own12.rd r'.2
    replace oi2 := oi2.ext X12; replace Y4 := Ext.trans Y4 X12
    clear X12 own12
    go_wp2_with fail
    refine (HI.out _ _ r12).mono ?_
    intro e w13 h13
    obtain ⟨vh, rfl, oh, X13⟩ := postF_own h13
    rw [hZ] at oh
    replace oi2 := oi2.ext X13; replace Y4 := Ext.trans Y4 X13
    clear h13 X13
    go_wp2_with fail
    refine (eqF_eq oh (os.ext Y4)).mono ?_
    rintro e w14 ⟨rfl, X14⟩
    replace oi2 := oi2.ext X14; replace Y4 := Ext.trans Y4 X14
    clear X14
    go_wp2_with fail
    refine (heldF_any 1 _ zs.length _ oi2 (by decide) (by decide) hlen).mono ?_
    rintro e w15 ⟨rfl, rfl⟩
    go_wp2_with fail
    go_ret
    exact ⟨rfl, X02.trans Y4⟩
  · go_enter Try.func4, Try.ntmps4
    go_wp2_with fail
    refine (szLifeS_any _ _ _ _ _ p3 (by decide) (by decide)).mono ?_
    rintro e w0 ⟨rfl, rfl⟩
    rw [if_pos (by omega)]
    go_wp2_with fail
    go_ret
    exact ⟨rfl, Ext.refl _⟩

theorem survivorSpreads_walk (v : Value) (w : World) (h : ArgLives w v) :
    Calls Try.prog 4 #[v] w fun e w' => e = .returned (.bool true) ∧ Ext w w' := by
  obtain ⟨a, n, cap, ls, rfl, r⟩ := h
  refine FnExactSurvivorSpreads_law _ ls (spO ls) w r (fun w v r => specSurvivorSpreads_any v ls w r) (fun w v r => implSurvivorSpreads_any v ls w r) ?_
  unfold spO
  split
  · rename_i h; rw [Option.getD_some, spL_len]; rw [Bool.and_eq_true] at h; have := livesB_len h.1; have := timesL_len ls; have := spK_le ls; omega
  · simp
theorem fnExactSurvivorSpreads_own : ownKnob Try.prog.godebug = none := by kernel_rfl
theorem fnExactSurvivorSpreads_laid : laidOutB Try.prog = true := by kernel_rfl

set_option maxRecDepth 100000 in
theorem fnExactSurvivorSpreads_lifted (os : Os) (started : os.Started) (H : Type) (enc : TypeId × Value → H) :
    ReturnsInHanded {} Try.checked os 4 .any (Rows.fnExactSurvivorSpreadsSpec.pre6 enc Try.prog Try.f4 Rows.fnExactSurvivorSpreadsRow.domain false) (Rows.fnExactSurvivorSpreadsSpec.post enc Try.prog Try.f4 false true false false) := by
  refine returnsInHanded_of_change (C := Try.checked) fnExactSurvivorSpreads_own started (by kernel_rfl) Try.func4
    (ChangeSpec.witness6 (enc := enc) (C := Try.checked) false ⟨#[], #[.slice none 0 0], []⟩ 8 (by kernel_rfl) (by kernel_rfl) (by kernel_rfl) (by kernel_rfl)) ?_
  intro W base args ds gs before hval0 hW hcnd _
  have hval : ∀ (j : Nat) t v, Try.f4.params[j]? = some t → args[j]? = some v → Value.okWide Try.prog W .any base t v := hval0
  have hW' := hW
  obtain ⟨p, q, hA0, hV, rfl, hfz, hnd⟩ := hW
  have hA : DataW.TrodAll enc Try.prog W 0 (fun _ => true) true Try.f4.params.toList args.toList ds p := hA0
  rw [Try.params4] at hA hval
  obtain ⟨v0, vs0, d0, ds0, p0, q0, hargs, rfl, rfl, h0, r0⟩ := trodAll_cons hA
  obtain ⟨rfl, rfl, rfl⟩ := trodAll_nil r0
  obtain rfl : args = #[v0] := by cases args; simp_all
  obtain ⟨rfl, rfl⟩ := trodVars_none hV
  have lt0 : ∀ x ∈ p0, x.block < W.heap.size := by obtain ⟨m, hm⟩ := h0; exact DataW.trod_lt m _ _ _ hm
  have w0 := argLives Try.underlying22 Try.underlying69 (by kernel_rfl) (by kernel_rfl) Try.underlying24 Try.underlying4 (hval 0 22 v0 rfl rfl) h0
  clear hA0 hval0
  refine (survivorSpreads_walk v0 W w0).mono fun e W' ⟨he, bel⟩ => ?_
  subst he
  exact ⟨_, rfl, _, _, _, [], _, [], hW', trodAll_mk1 (shut_bool Try.underlying4 _), (trodAll_cons_mk (Below.trod fnExactSurvivorSpreads_laid (by kernel_rfl) (of_decide_eq_true (by kernel_rfl)) h0 bel lt0) trodAll_mk0), rfl, bel.below.frame _, fun h => by cases h⟩

theorem fnExactSurvivorSpreads_over : Rows.fnExactSurvivorSpreadsRow.holds Try.pinned (OpenSpec.ofChange Rows.fnExactSurvivorSpreadsSpec) :=
  OpenClaim.holds_of_wide 4 Try.f4 rfl rfl rfl rfl rfl rfl rfl ⟨rfl, rfl, rfl, rfl, rfl⟩ rfl rfl rfl rfl rfl (by kernel_rfl) Try.func4 (by kernel_rfl)
    (of_decide_eq_true (by kernel_rfl)) (by unfold Func.isWrapper; first | (rw [if_pos (by decide +kernel)]; kernel_rfl) | (rw [if_neg (by decide +kernel)]; exact ⟨rfl, rfl⟩))
    (fun os started H enc _ => fnExactSurvivorSpreads_lifted os started H enc)

/-- The statement. -/
theorem fnExactSurvivorSpreads_holds : Rows.FnExactSurvivorSpreadsSaid := fnExactSurvivorSpreads_over

end Go.Proofs.Ytlbmjeennpccmaa
