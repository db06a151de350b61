
/- FnChances: a round of the first loop. No condition. -/
import Derived.Test.YtgmdoboeenpjpaaW1
namespace Go.Proofs.Ytgmdoboeenpjpaa
open Go Go.RowKit Go.ChangeShapes Go.WideShapes Go.ChangeAt

attribute [local irreducible] LX tw pop cntL
attribute [local go_sem] run_store_float
set_option maxRecDepth 100000 in
set_option maxHeartbeats 16000000 in
theorem chRound : chancesA.a := by
  intro w
  dsimp only
  intro a1 c1 xs a2 c2 ys x P w2 g cap ns W3 w3 gc cc C HCL w4 w5 w6 gd cd HXC HXW HKC lo hi ia2 ia3 ia4 ia5 zn nb ia6 ia7 wr u4 u15 u16 u17 u18 u102 u103 u104 u105 u106 u107 u108 u109 u110 u111 u112 u113 u114 u115 u116 u117 u118 u119 u120 u121 u122 u123 u124 u125 u126 u127 u128 u129 u130 u131 u132 u133 u134 u135 u136 u137 u138 u139 u140 u141 u142 u143 u144 u145 k hk Z hlt HYN HDN HCN HQ1 HMN HAN HGP hbl ia9 ia10 g2 cap2 w7 Z7 hne1 hne2 y ia11 ia12 ia13 ia14 w8 w9 Z9 hpd cd1 hpc cc1 hk5
  have wa : (Try.prog.underlying 31).isSome = true := by kernel_rfl
  have wb : (Try.prog.underlying 38).isSome = true := by kernel_rfl
  go_wp2_with fail
  refine wp_region_rel 29 (fun _ v => ∃ z, v = .float .f64 z ∧ fcmp .gtr .f64 (cn .f64 z) (cn .f64 4562254508917369340) = false) (fun _ _ _ => True) (by kernel_rfl) (by kernel_rfl) (by kernel_rfl) ?_
  dsimp only [List.take, List.drop, List.length]
  refine LX_det (.bool true) (by kernel_rfl) rfl (fun w' hx _ => ?_) ?_
  · go_simp
  refine LX_det (.bool false) (by kernel_rfl) rfl (fun w' hx _ => ?_) ?_
  · go_simp
  refine LX_det (.bool false) (by kernel_rfl) rfl (fun w' hx _ => ?_) ?_
  · go_simp
  refine LX_det (.slice (some ⟨gd, 0, none⟩) P cd) (by kernel_rfl) rfl (fun w' hx _ => ?_) ?_
  · go_simp
  refine LX_det (.int .i64 k) (by kernel_rfl) rfl (fun w' hx _ => ?_) ?_
  · go_simp
  refine LX_det (.pointer (some ⟨gd, k, none⟩)) (by kernel_rfl) rfl (fun w' hx _ => ?_) ?_
  · go_simp
  refine LX_det (.float .f32 (fop .sub .f32 (chS P ns (C.set k 1065353216)) (chS P ns (C.set k 0)))) (by kernel_rfl) rfl (fun w' hx _ => ?_) ?_
  · have m0 := (Below.cell hx (p := ⟨gd, k, none⟩) hpd).trans cd1
    go_simp
  simp only [Act.put, List.setIfInBounds_toArray, List.set_cons_succ, List.set_cons_zero]
  refine LX_fcmp (by kernel_rfl) rfl rfl rfl rfl HQ1.out ?_
  refine LX_det (.bool false) (by kernel_rfl) rfl (fun w' hx _ => ?_) ?_
  · go_simp
  refine LX_det (.bool false) (by kernel_rfl) rfl (fun w' hx _ => ?_) ?_
  · go_simp
  refine LX_det (.float .f32 (chS P ns C)) (by kernel_rfl) rfl (fun w' hx _ => ?_) ?_
  · go_simp
  simp only [Act.put, List.setIfInBounds_toArray, List.set_cons_succ, List.set_cons_zero]
  refine LX_wide (by kernel_rfl) Try.underlying38 rfl rfl rfl fun z1 hz1 hl1 => ?_
  rw [HXC.out] at hz1
  replace hz1 := bits_of hz1 HXW.out.notN
  subst hz1
  clear hl1
  refine LX_det (.float .f32 (chS P ns (C.set k 0))) (by kernel_rfl) rfl (fun w' hx _ => ?_) ?_
  · go_simp
  simp only [Act.put, List.setIfInBounds_toArray, List.set_cons_succ, List.set_cons_zero]
  refine LX_wide (by kernel_rfl) Try.underlying38 rfl rfl rfl fun z2 hz2 hl2 => ?_
  rw [HYN.out.cn] at hz2
  replace hz2 := bits_of hz2 (wide_val HYN.out).1.notN
  subst hz2
  clear hl2
  refine LX_det (.slice (some ⟨gc, 0, none⟩) P cc) (by kernel_rfl) rfl (fun w' hx _ => ?_) ?_
  · go_simp
  refine LX_det (.int .i64 k) (by kernel_rfl) rfl (fun w' hx _ => ?_) ?_
  · go_simp
  refine LX_det (.pointer (some ⟨gc, k, none⟩)) (by kernel_rfl) rfl (fun w' hx _ => ?_) ?_
  · go_simp
  refine LX_det (.float .f32 (C.getD k 0)) (by kernel_rfl) rfl (fun w' hx _ => ?_) ?_
  · have m0 := (Below.cell hx (p := ⟨gc, k, none⟩) hpc).trans cc1
    go_simp
  simp only [Act.put, List.setIfInBounds_toArray, List.set_cons_succ, List.set_cons_zero]
  refine LX_wide (by kernel_rfl) Try.underlying38 rfl rfl rfl fun z3 hz3 hl3 => ?_
  rw [HCN.out.cn] at hz3
  replace hz3 := bits_of hz3 (wide_val HCN.out).1.notN
  subst hz3
  clear hl3
  refine LX_det (.slice (some ⟨gd, 0, none⟩) P cd) (by kernel_rfl) rfl (fun w' hx _ => ?_) ?_
  · go_simp
  refine LX_det (.int .i64 k) (by kernel_rfl) rfl (fun w' hx _ => ?_) ?_
  · go_simp
  refine LX_det (.pointer (some ⟨gd, k, none⟩)) (by kernel_rfl) rfl (fun w' hx _ => ?_) ?_
  · go_simp
  refine LX_det (.float .f32 (fop .sub .f32 (chS P ns (C.set k 1065353216)) (chS P ns (C.set k 0)))) (by kernel_rfl) rfl (fun w' hx _ => ?_) ?_
  · have m0 := (Below.cell hx (p := ⟨gd, k, none⟩) hpd).trans cd1
    go_simp
  simp only [Act.put, List.setIfInBounds_toArray, List.set_cons_succ, List.set_cons_zero]
  refine LX_wide (by kernel_rfl) Try.underlying38 rfl rfl rfl fun z4 hz4 hl4 => ?_
  rw [HDN.out.cn] at hz4
  replace hz4 := bits_of hz4 (wide_val HDN.out).1.notN
  subst hz4
  clear hl4
  simp only [Act.put, List.setIfInBounds_toArray, List.set_cons_succ, List.set_cons_zero]
  refine LX_fop (by kernel_rfl) rfl rfl rfl rfl ?_
  intro f1 hf1 hl1
  clear hl1
  rw [(wide_val HCN.out).1.cn, (wide_val HDN.out).1.cn] at hf1
  replace hf1 := bits_of hf1 HMN.out.notN
  subst hf1
  simp only [Act.put, List.setIfInBounds_toArray, List.set_cons_succ, List.set_cons_zero]
  refine LX_fop (by kernel_rfl) rfl rfl rfl rfl ?_
  intro f2 hf2 hl2
  clear hl2
  rw [(wide_val HYN.out).1.cn, HMN.out.cn] at hf2
  replace hf2 := bits_of hf2 HAN.out.notN
  subst hf2
  simp only [Act.put, List.setIfInBounds_toArray, List.set_cons_succ, List.set_cons_zero]
  refine LX_call (by kernel_rfl) rfl (fun _ => St.top) (fun w' hx _ => ?_) ?_
  · go_simp
    refine UponC.enter ((HGP.out _).mono ?_)
    rintro e w'' ⟨z, rfl, hz, hx'⟩
    exact ⟨_, rfl, hx', ⟨z, rfl, hz⟩, trivial⟩
  rintro _ ⟨z, rfl, hz⟩
  simp only [Act.put, List.setIfInBounds_toArray, List.set_cons_succ, List.set_cons_zero]
  refine LX_fcmp (by kernel_rfl) rfl rfl rfl rfl hz ?_
  refine LX_det (.bool false) (by kernel_rfl) rfl (fun w' hx _ => ?_) ?_
  · go_simp
  refine LX_nil fun w10 hx _ => ?_
  refine wpList_nil ?_
  simp only [Act.put, List.setIfInBounds_toArray, List.set_cons_succ, List.set_cons_zero]
  replace Z9 := Z9.trans hx
  clear hx hz
  go_wp2_with fail
  go_roundw
  case rel => exact ⟨k + 1, by omega, by go_num, Z9⟩
  case measure => simp [intOf] <;> omega
end Go.Proofs.Ytgmdoboeenpjpaa
