
/- FnJoined returns true for every input and changes nothing that was there. No condition. -/
import Derived.Test.YtgmdoboeenpjpaaRows
import Derived.Test.YtgmdoboeenpjpaaK3
import Derived.Test.YtgmdoboeenpjpaaK4
namespace Go.Proofs.Ytgmdoboeenpjpaa
open Go Go.RowKit Go.ChangeShapes Go.WideShapes Go.ChangeAt

attribute [local irreducible] LX tw pop cntL
attribute [local go_sem] run_store_float
set_option maxRecDepth 100000 in
set_option maxHeartbeats 16000000 in
theorem joRestB : joinedA.b := by
  intro w
  dsimp only
  intro a1 c1 xs a2 c2 ys r1 r2 hx20 hy20 x P hPw hP1 hP4 y Q hQw hQ1 hQ4 S hSw hS w2 ga ca A W3 bA w4 gb cb B W5 bB w6 gc cc C w7 gd cd D HKC HK1 LC LB w8 ar nr cr W9 bC w10 R' ar' nr' cr' W11 bC' w12 ge ce W13 bE w14 w15 zx N1 N6 zy N2 N7 N8 N9 zu zv N4 G2 g2 cap2 w16 g3 cap3 w17 w18 i2 i3 zn nb w19 z1 w20 bxE rE X hv32 i4 i5 lE EE HCO rF
  have wa : (Try.prog.underlying 31).isSome = true := by kernel_rfl
  have wb : (Try.prog.underlying 38).isSome = true := by kernel_rfl
  delta k1f at N6 N7 N8 N9 G2
  refine wp_region_rel 13 (fun i v => match i with | 5 => ∃ t : Nat, t < 8 ∧ v = .int .i64 t | _ => ∃ g cap, v = .tuple #[.slice (some ⟨g, 0, none⟩) 2 cap, .bool true])
    (fun i v w => match i with | 7 => ShW zv v w | _ => True) (by kernel_rfl) (by kernel_rfl) (by kernel_rfl) ?_
  dsimp only [List.take, List.drop, List.length]
  refine LX_det (.agg #[.int .i64 S, .slice (some ⟨ge, 0, none⟩) LB.length ce]) (by kernel_rfl) rfl (fun w' hx _ => ?_) ?_
  · obtain ⟨m0, m1⟩ := (bxE.ext hx).two
    go_simp
  refine LX_det (.agg #[.int .i64 S, .slice (some ⟨ge, 0, none⟩) LB.length ce]) (by kernel_rfl) rfl (fun w' hx _ => ?_) ?_
  · obtain ⟨m0, m1⟩ := (bxE.ext hx).two
    go_simp
  refine LX_build [.int .i64 S, .slice (some ⟨ge, 0, none⟩) LB.length ce, .int .i64 S, .slice (some ⟨ge, 0, none⟩) LB.length ce] 27 2 (by kernel_rfl) rfl (fun w' hx => ?_) ?_
  · go_simp
  intro B2 hB2
  refine LX_det (.slice (some ⟨g3, 0, none⟩) lE cap3) (by kernel_rfl) rfl (fun w' hx _ => ?_) ?_
  · go_simp
  refine LX_det (.slice a2 ys.length c2) (by kernel_rfl) rfl (fun w' hx _ => ?_) ?_
  · go_simp
  refine LX_call (by kernel_rfl) rfl (fun _ => St.top) (fun w' hx _ => ?_) ?_
  · go_simp
    refine UponC.enter ((b10At_any _ ys 2 8 w' ((r2.ext X).ext hx) (by decide) (by decide) (by decide)).mono ?_)
    rintro e w'' ⟨t, ht, rfl, rfl⟩
    exact ⟨_, rfl, Ext.refl _, ⟨t, ht, rfl⟩, trivial⟩
  rintro _ ⟨t, ht, rfl⟩
  obtain ⟨tt, htt⟩ : ∃ tt, tt = t + 1 := ⟨_, rfl⟩
  have htw : IntKind.i64.wrap (1 + (t : Int)) = (tt : Int) := by rw [show 1 + (t : Int) = (tt : Int) by omega]; exact wrap_nat _ (by omega)
  have ht1 : 1 ≤ tt := by omega
  have ht8 : tt ≤ 8 := by omega
  clear htt ht
  simp only [Act.put, List.setIfInBounds_toArray, List.set_cons_succ, List.set_cons_zero]
  refine LX_det (.int .i64 tt) (by kernel_rfl) rfl (fun w' hx _ => ?_) ?_
  · go_simp
  refine LX_call (by kernel_rfl) rfl (ShW.st zv) (fun w' hx hg => ?_) ?_
  · have hN := two_sy ((hg 157 (by decide)).1.1.1.1.2 rfl) (rE.ext hx)
    go_simp
    refine UponC.enter ((implChancesShared_any _ _ _ EE tt (fun _ => zv) w' hN (rF.ext hx) ht1 ht8 (by simp) (fun g hg => ⟨?_, N4.out⟩)).mono ?_)
    · simp only [List.mem_cons, List.not_mem_nil, or_false, or_self] at hg
      subst hg
      exact HCO.out
    · rintro e w'' ⟨g, cap, rfl, hx', rs⟩
      exact ⟨_, rfl, hx', ⟨g, cap, rfl⟩, ⟨g, cap, rfl, rs⟩⟩
  rintro _ ⟨g9, cap9, rfl⟩
  refine LX_det (.tuple #[.slice (some ⟨g9, 0, none⟩) 2 cap9, .bool true]) (by kernel_rfl) rfl (fun w' hx _ => ?_) ?_
  · go_simp
  refine LX_det (.slice (some ⟨g9, 0, none⟩) 2 cap9) (by kernel_rfl) rfl (fun w' hx _ => ?_) ?_
  · go_simp
  refine LX_det (.bool true) (by kernel_rfl) rfl (fun w' hx _ => ?_) ?_
  · go_simp
  refine LX_det (.slice (some ⟨g9, 0, none⟩) 2 cap9) (by kernel_rfl) rfl (fun w' hx _ => ?_) ?_
  · go_simp
  refine LX_det (.bool true) (by kernel_rfl) rfl (fun w' hx _ => ?_) ?_
  · go_simp
  refine LX_nil fun w21 hx hg => ?_
  have hsh := ShW.rd ((hg 162).1.1.1.1.1.2 rfl)
  clear hg
  refine wpList_nil ?_
  simp only [Act.put, List.setIfInBounds_toArray, List.set_cons_succ, List.set_cons_zero]
  replace X := X.trans hx
  clear hx bxE rE rF HCO
  obtain ⟨b9, o9, e9, hb9, hc9⟩ := hsh.at (k := 0) (Nat.lt_of_sub_eq_succ rfl)
  cases e9
  simp only [List.getElem_cons_zero, Nat.add_zero] at hc9
  go_wp2_with fail
  refine (sameNumber_self _ hv32.out _).mono ?_
  rintro e w22 ⟨rfl, rfl⟩
  obtain ⟨fa, FA⟩ : ∃ z, Hid (fop .sub .f64 4607182418800017408 (wide zx) = z) := ⟨_, rfl⟩
  obtain ⟨fb, FB⟩ : ∃ z, Hid (fop .sub .f64 4607182418800017408 (wide zy) = z) := ⟨_, rfl⟩
  rw [FA.out] at N6 N8 N9 G2
  rw [FB.out] at N7 N8 N9 G2
  obtain ⟨fm, FM⟩ : ∃ z, Hid (fop .mul .f64 fa fb = z) := ⟨_, rfl⟩
  rw [FM.out] at N8 N9 G2
  obtain ⟨fs, FZs⟩ : ∃ z, Hid (fop .sub .f64 4607182418800017408 fm = z) := ⟨_, rfl⟩
  rw [FZs.out] at N9 G2
  obtain ⟨wx, WX⟩ : ∃ z, Hid (wide zx = z) := ⟨_, rfl⟩
  obtain ⟨wy, WY⟩ : ∃ z, Hid (wide zy = z) := ⟨_, rfl⟩
  obtain ⟨wv, WV⟩ : ∃ z, Hid (wide zv = z) := ⟨_, rfl⟩
  have NX := Lib.hid (wide_val N1.out).1
  have NY := Lib.hid (wide_val N2.out).1
  have NV := Lib.hid (wide_val N4.out).1
  rw [WX.out] at FA NX
  rw [WY.out] at FB NY
  rw [WV.out] at NV G2
  have HXC : Hid (cn .f32 zx = zx) := N1.out.cn
  have HYC : Hid (cn .f32 zy = zy) := N2.out.cn
  have HVC : Hid (cn .f32 zv = zv) := N4.out.cn
  have CA : Hid (cn .f64 fa = fa) := N6.out.cn
  have CB : Hid (cn .f64 fb = fb) := N7.out.cn
  have CM : Hid (cn .f64 fm = fm) := N8.out.cn
  have CX : Hid (cn .f64 wx = wx) := NX.out.cn
  have CY : Hid (cn .f64 wy = wy) := NY.out.cn
  go_wp2_with ((try (simp only [Act.put, List.setIfInBounds_toArray, List.set_cons_succ, List.set_cons_zero])); first
    | (refine wpList_wide wa Try.underlying38 (by kernel_rfl) rfl rfl ?_; intro zb zn hzb hzl; clear hzl; rw [HVC.out, WV.out] at hzb; replace hzb := bits_of hzb NV.out.notN; subst hzb)
    | (refine wpList_wide wa Try.underlying38 (by kernel_rfl) rfl rfl ?_; intro zb zn hzb hzl; clear hzl; rw [HXC.out, WX.out] at hzb; replace hzb := bits_of hzb NX.out.notN; subst hzb)
    | (refine wpList_wide wa Try.underlying38 (by kernel_rfl) rfl rfl ?_; intro zb zn hzb hzl; clear hzl; rw [HYC.out, WY.out] at hzb; replace hzb := bits_of hzb NY.out.notN; subst hzb)
    | (refine wpList_fop (by kernel_rfl) rfl rfl rfl rfl ?_; intro b nb hb hl; clear hl; rw [HK1.out, CX.out, FA.out] at hb; replace hb := bits_of hb N6.out.notN; subst hb)
    | (refine wpList_fop (by kernel_rfl) rfl rfl rfl rfl ?_; intro b nb hb hl; clear hl; rw [HK1.out, CY.out, FB.out] at hb; replace hb := bits_of hb N7.out.notN; subst hb)
    | (refine wpList_fop (by kernel_rfl) rfl rfl rfl rfl ?_; intro b nb hb hl; clear hl; rw [CA.out, CB.out, FM.out] at hb; replace hb := bits_of hb N8.out.notN; subst hb)
    | (refine wpList_fop (by kernel_rfl) rfl rfl rfl rfl ?_; intro b nb hb hl; clear hl; rw [HK1.out, CM.out, FZs.out] at hb; replace hb := bits_of hb N9.out.notN; subst hb))
  clear FA FB FM FZs WX WY WV NX NY NV HXC HYC HVC CA CB CM CX CY
  refine (G2.out _).mono ?_
  rintro e w23 ⟨z2, rfl, hz2, X2⟩
  replace X2 := (Ext.drewN _ _).trans X2
  replace X := X.trans X2
  clear X2
  replace hz2 : fcmp .gtr .f64 (cn .f64 z2) (cn .f64 4562254508917369340) = false := hz2
  go_wp2_with (first | (refine wpList_fcmp rfl rfl rfl rfl rfl (by first | with_reducible assumption | exact rfl) ?_))
  clear hz2 hc9 hb9 hsh
  -- votes
  refine (b10AtAny_any _ ys 3 P _ (r2.ext X) hP1 (by omega) (by decide)).mono ?_
  rintro e w24 ⟨v, hv, rfl, rfl⟩
  obtain ⟨V, hV⟩ : ∃ V, V = v + 1 := ⟨_, rfl⟩
  have hVw : IntKind.i64.wrap (1 + (v : Int)) = (V : Int) := by rw [show 1 + (v : Int) = (V : Int) by omega]; exact wrap_nat _ (by omega)
  have hV1 : 1 ≤ V := by omega
  have hVP : V ≤ P := by omega
  clear hV hv
  obtain ⟨zs, cs, hvo, hwc, hcl, hcs⟩ := vote_val hP1 hP4 hV1 hVP
  have HVO := Lib.hid hvo
  have HWC := Lib.hid hwc
  have HCL := Lib.hid hcl
  have HCS := Lib.hid hcs
  clear hvo hwc hcl hcs
  go_wp2_with fail
  refine (implVoteSystem_any _ _ _).mono ?_
  intro e w25 h25
  obtain ⟨gv, cv, rfl, X2, rv⟩ := ys_val h25 HVO.out
  have bxV : Bx (w25.alloc (.cells #[.int .i64 P, .slice (some ⟨gv, 0, none⟩) zs.length cv] 27)) w25.heap.size [.int .i64 P, .slice (some ⟨gv, 0, none⟩) zs.length cv] := Bx.new _ _ _
  replace rv := rv.ext (Ext.alloc w25 (.cells #[.int .i64 P, .slice (some ⟨gv, 0, none⟩) zs.length cv] 27))
  replace X2 := X2.trans (Ext.alloc w25 (.cells #[.int .i64 P, .slice (some ⟨gv, 0, none⟩) zs.length cv] 27))
  replace X := X.trans X2
  clear X2 h25 HVO
  obtain ⟨k0, k1⟩ := bxV.two
  have hblk := bxV.1
  go_wp2_with fail
  generalize hWW : w25.alloc (.cells #[.int .i64 P, .slice (some ⟨gv, 0, none⟩) zs.length cv] 27) = W26 at *
  clear hWW bxV k0 k1 hblk
  generalize w25.heap.size = bV at *
  refine (implWorkingCounts_any _ _ zs W26 rv).mono ?_
  intro e w27 h27
  obtain ⟨gw, cw, rfl, X2, rw27⟩ := zl_val h27 HWC.out
  replace X := X.trans X2
  clear X2 h27 HWC rv
  rw [HCL.out] at rw27 ⊢
  go_wp2_with fail
  have r1s : RdI (w27.alloc (.cells #[.int .i64 1] 2)) (.slice (some ⟨w27.heap.size, 0, none⟩) 1 1) [1] :=
    own_rd (World.ownsRow_lit (base := w27.heap.size) (e := 2) (size := 1) w27 #[.int .i64 1] 1 (Nat.le_refl _) (by decide) rfl)
  replace rw27 := rw27.ext (Ext.alloc w27 (.cells #[.int .i64 1] 2))
  replace X := X.trans (Ext.alloc w27 (.cells #[.int .i64 1] 2))
  generalize hWW : w27.alloc (.cells #[.int .i64 1] 2) = W28 at *
  clear hWW
  refine (specSystemOf_any _ _ [1] W28 r1s).mono ?_
  intro e w29 h29
  obtain ⟨gs, cs9, rfl, X2, rs⟩ := ys_val h29 (one_sys hP1 hP4)
  have X3 := Ext.alloc w29 (.cells #[.int .i64 P, .slice (some ⟨gs, 0, none⟩) (ups [1]).length cs9] 27)
  have bxS : Bx (w29.alloc (.cells #[.int .i64 P, .slice (some ⟨gs, 0, none⟩) (ups [1]).length cs9] 27)) w29.heap.size [.int .i64 P, .slice (some ⟨gs, 0, none⟩) (ups [1]).length cs9] := Bx.new _ _ _
  replace X2 := X2.trans X3
  replace rw27 := rw27.ext X2
  replace X := X.trans X2
  clear X2 X3 h29 rs r1s
  obtain ⟨k0, k1⟩ := bxS.two
  have hblk := bxS.1
  have hP1w : IntKind.i64.wrap ((P : Int) + 1) = (P : Int) + 1 := IntWalk.i64_in _ (by omega)
  go_wp2_with fail
  generalize hWW : w29.alloc (.cells #[.int .i64 P, .slice (some ⟨gs, 0, none⟩) (ups [1]).length cs9] 27) = W30 at *
  clear hWW bxS k0 k1 hblk
  generalize w29.heap.size = bS at *
  obtain ⟨wo, rfl⟩ : ∃ wo : World, wo = W30 := ⟨_, rfl⟩
  go_loopw [244] (fun i wq => ∃ k : Nat, k ≤ P + 1 ∧ i = .int .i64 k ∧ wq = wo) (fun i _ => P + 1 - (intOf i).toNat)
  case atStart => exact ⟨0, Nat.zero_le _, rfl, rfl⟩
  case round =>
    obtain ⟨k, hk, rfl, rfl⟩ := hrel
    by_cases hlt : k < P + 1
    · have hki : (k : Int) < (P : Int) + 1 := by omega
      have hkl : k < cs.length := by have := HCL.out; omega
      obtain ⟨bw, ow, ew, hbw, cw9⟩ := RdI.at rw27 hkl
      cases ew
      rw [Nat.zero_add] at cw9
      have hq := HCS.out k hkl
      generalize cs[k] = ck at *
      by_cases hvk : V ≤ k
      · have h1 : 0 < ck := of_decide_eq_true (hq.trans (decide_eq_true hvk))
        have h2 : (V : Int) ≤ (k : Int) := by omega
        clear hq hkl
        go_wp2_with fail
        go_roundw
        case rel => exact ⟨k + 1, by omega, by go_num, by first | rfl | trivial⟩
        case measure => simp [intOf] <;> omega
      · have h1 : ¬ 0 < ck := of_decide_eq_false (hq.trans (decide_eq_false hvk))
        have h2 : ¬ (V : Int) ≤ (k : Int) := by omega
        clear hq hkl
        go_wp2_with fail
        go_roundw
        case rel => exact ⟨k + 1, by omega, by go_num, by first | rfl | trivial⟩
        case measure => simp [intOf] <;> omega
    · have hkP : ¬ (k : Int) < (P : Int) + 1 := by omega
      clear rw27 HCS HCL hVw hV1 hVP
      go_wp2_with fail
      have rR : RdI (wr.alloc (.cells #[.int .i64 0, .int .i64 1, .int .i64 1, .int .i64 2, .int .i64 0, .int .i64 2] 2)) (.slice (some ⟨wr.heap.size, 0, none⟩) 6 6) [0, 1, 1, 2, 0, 2] :=
        own_rd (World.ownsRow_lit (base := wr.heap.size) (e := 2) (size := 1) wr #[.int .i64 0, .int .i64 1, .int .i64 1, .int .i64 2, .int .i64 0, .int .i64 2] 6 (Nat.le_refl _) (by decide) rfl)
      replace X := X.trans (Ext.alloc wr (.cells #[.int .i64 0, .int .i64 1, .int .i64 1, .int .i64 2, .int .i64 0, .int .i64 2] 2))
      generalize hWW : wr.alloc (.cells #[.int .i64 0, .int .i64 1, .int .i64 1, .int .i64 2, .int .i64 0, .int .i64 2] 2) = W32 at *
      clear hWW
      refine (implJoinedCounts_any 3 _ [0, 1, 1, 2, 0, 2] W32 rR).mono ?_
      intro e w33 h33
      obtain ⟨gj, cj, rfl, X2, rj⟩ := zl_val h33 road_val
      replace rR := rR.ext X2
      replace X := X.trans X2
      clear X2 h33
      go_wp2_with fail
      refine (implRoadSystem_any 3 _ [0, 1, 1, 2, 0, 2] w33 rR).mono ?_
      intro e w34 h34
      obtain ⟨gr, cr9, rfl, X2, rr⟩ := ys_val h34 road_sys
      have X3 := Ext.alloc w34 (.cells #[.int .i64 3, .slice (some ⟨gr, 0, none⟩) 2 cr9] 27)
      have bxR : Bx (w34.alloc (.cells #[.int .i64 3, .slice (some ⟨gr, 0, none⟩) 2 cr9] 27)) w34.heap.size [.int .i64 3, .slice (some ⟨gr, 0, none⟩) 2 cr9] := Bx.new _ _ _
      replace rr : RdI w34 (.slice (some ⟨gr, 0, none⟩) 2 cr9) [3, 4] := rr
      replace rr := rr.ext X3
      replace rj : RdI w33 (.slice (some ⟨gj, 0, none⟩) 4 cj) [0, 0, 3, 1] := rj
      replace rj := (rj.ext X2).ext X3
      replace X := (X.trans X2).trans X3
      clear X2 X3 h34 rR
      go_wp2_with fail
      have hsz : w34.heap.size + 1 = (w34.alloc (.cells #[.int .i64 3, .slice (some ⟨gr, 0, none⟩) 2 cr9] 27)).heap.size := by simp
      rw [hsz]
      generalize hWW : w34.alloc (.cells #[.int .i64 3, .slice (some ⟨gr, 0, none⟩) 2 cr9] 27) = W35 at *
      clear hWW hsz
      generalize w34.heap.size = bR at *
      have r4 : RdI (W35.alloc (.cells #[.int .i64 0, .int .i64 0, .int .i64 3, .int .i64 1] 2)) (.slice (some ⟨W35.heap.size, 0, none⟩) 4 4) [0, 0, 3, 1] :=
        own_rd (World.ownsRow_lit (base := W35.heap.size) (e := 2) (size := 1) W35 #[.int .i64 0, .int .i64 0, .int .i64 3, .int .i64 1] 4 (Nat.le_refl _) (by decide) rfl)
      refine (b10Ints_any _ _ [0, 0, 3, 1] [0, 0, 3, 1] _ (rj.ext (Ext.alloc _ _)) r4).mono ?_
      rintro e w36 ⟨rfl, X2⟩
      have hd : decide (([0, 0, 3, 1] : List Int) = [0, 0, 3, 1]) = true := rfl
      rw [hd]
      replace X2 := (Ext.alloc W35 (.cells #[.int .i64 0, .int .i64 0, .int .i64 3, .int .i64 1] 2)).trans X2
      replace rr := rr.ext X2
      replace bxR := bxR.ext X2
      replace X := X.trans X2
      clear X2 hd r4 rj
      obtain ⟨k0, k1⟩ := bxR.two
      have hblk := bxR.1
      go_wp2_with fail
      have r2' : RdI (w36.alloc (.cells #[.int .i64 3, .int .i64 4] 2)) (.slice (some ⟨w36.heap.size, 0, none⟩) 2 2) [3, 4] :=
        own_rd (World.ownsRow_lit (base := w36.heap.size) (e := 2) (size := 1) w36 #[.int .i64 3, .int .i64 4] 2 (Nat.le_refl _) (by decide) rfl)
      refine (b10Ints_any _ _ [3, 4] [3, 4] _ (rr.ext (Ext.alloc _ _)) r2').mono ?_
      rintro e w37 ⟨rfl, X2⟩
      have hd : decide (([3, 4] : List Int) = [3, 4]) = true := rfl
      rw [hd]
      replace X := X.trans ((Ext.alloc w36 (.cells #[.int .i64 3, .int .i64 4] 2)).trans X2)
      clear X2 hd r2' rr bxR k0 k1 hblk
      go_wp2_with fail
      go_ret
      exact ⟨rfl, X⟩
theorem joined_walk (v1 v2 : Value) (w : World) (h1 : ArgBytes w v1) (h2 : ArgBytes w v2) :
    Calls Try.prog 4 #[v1, v2] w fun e w' => e = .returned (.bool true) ∧ Ext w w' := joinedA.out ⟨joRestA⟩ ⟨joRestB⟩ v1 v2 w h1 h2
theorem fnJoined_own : ownKnob Try.prog.godebug = none := by kernel_rfl
theorem fnJoined_laid : laidOutB Try.prog = true := by kernel_rfl

set_option maxRecDepth 100000 in
theorem fnJoined_lifted (os : Os) (started : os.Started) (H : Type) (enc : TypeId × Value → H) :
    ReturnsInHanded {} Try.checked os 4 .any (Rows.fnJoinedSpec.pre6 enc Try.prog Try.f4 Rows.fnJoinedRow.domain false) (Rows.fnJoinedSpec.post enc Try.prog Try.f4 false true false false) := by
  refine returnsInHanded_of_change (C := Try.checked) fnJoined_own started (by kernel_rfl) Try.func4
    (ChangeSpec.witness6 (enc := enc) (C := Try.checked) false ⟨#[], #[.slice none 0 0, .slice none 0 0], []⟩ 8 (by kernel_rfl) (by kernel_rfl) (by kernel_rfl) (by kernel_rfl)) ?_
  intro W base args ds gs before hval0 hW hcnd _
  have hval : ∀ (j : Nat) t v, Try.f4.params[j]? = some t → args[j]? = some v → Value.okWide Try.prog W .any base t v := hval0
  have hW' := hW
  obtain ⟨p, q, hA0, hV, rfl, hfz, hnd⟩ := hW
  have hA : DataW.TrodAll enc Try.prog W 0 (fun _ => true) true Try.f4.params.toList args.toList ds p := hA0
  rw [Try.params4] at hA hval
  obtain ⟨v0, vs0, d0, ds0, p0, q0, hargs, rfl, rfl, h0, r0⟩ := trodAll_cons hA
  obtain ⟨v1, vs1, d1, ds1, p1, q1, rfl, rfl, rfl, h1, r1⟩ := trodAll_cons r0
  obtain ⟨rfl, rfl, rfl⟩ := trodAll_nil r1
  obtain rfl : args = #[v0, v1] := by cases args; simp_all
  obtain ⟨rfl, rfl⟩ := trodVars_none hV
  have lt0 : ∀ x ∈ p0, x.block < W.heap.size := by obtain ⟨m, hm⟩ := h0; exact DataW.trod_lt m _ _ _ hm
  have w0 := argBytes Try.underlying22 Try.underlying5 (by kernel_rfl) (hval 0 22 v0 rfl rfl) h0
  have lt1 : ∀ x ∈ p1, x.block < W.heap.size := by obtain ⟨m, hm⟩ := h1; exact DataW.trod_lt m _ _ _ hm
  have w1 := argBytes Try.underlying22 Try.underlying5 (by kernel_rfl) (hval 1 22 v1 rfl rfl) h1
  clear hA0 hval0
  refine (joined_walk v0 v1 W w0 w1).mono fun e W' ⟨he, bel⟩ => ?_
  subst he
  exact ⟨_, rfl, _, _, _, [], _, [], hW', trodAll_mk1 (shut_bool Try.underlying4 _), (trodAll_cons_mk (Below.trod fnJoined_laid (by kernel_rfl) (of_decide_eq_true (by kernel_rfl)) h0 bel lt0) (trodAll_cons_mk (Below.trod fnJoined_laid (by kernel_rfl) (of_decide_eq_true (by kernel_rfl)) h1 bel lt1) trodAll_mk0)), rfl, bel.below.frame _, fun h => by cases h⟩

theorem fnJoined_over : Rows.fnJoinedRow.holds Try.pinned (OpenSpec.ofChange Rows.fnJoinedSpec) :=
  OpenClaim.holds_of_wide 4 Try.f4 rfl rfl rfl rfl rfl rfl rfl ⟨rfl, rfl, rfl, rfl, rfl⟩ rfl rfl rfl rfl rfl (by kernel_rfl) Try.func4 (by kernel_rfl)
    (of_decide_eq_true (by kernel_rfl)) (by unfold Func.isWrapper; first | (rw [if_pos (by decide +kernel)]; kernel_rfl) | (rw [if_neg (by decide +kernel)]; exact ⟨rfl, rfl⟩))
    (fun os started H enc _ => fnJoined_lifted os started H enc)

/-- The statement. -/
theorem fnJoined_holds : Rows.FnJoinedSaid := fnJoined_over

end Go.Proofs.Ytgmdoboeenpjpaa
