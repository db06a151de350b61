
/- FnTrees returns true for every input and changes nothing that was there. No condition. -/
import Derived.Test.YtgmdoboeenpjpaaRows
import Derived.Test.YtgmdoboeenpjpaaH3
import Derived.Test.YtgmdoboeenpjpaaH4
import Derived.Test.YtgmdoboeenpjpaaH5
import Derived.Test.YtgmdoboeenpjpaaPC
namespace Go.Proofs.Ytgmdoboeenpjpaa
open Go Go.RowKit Go.ChangeShapes Go.WideShapes Go.ChangeAt

attribute [local irreducible] LX tw pop xD sD lowL failN
attribute [local go_sem] run_store_float
set_option maxRecDepth 100000 in
set_option maxHeartbeats 16000000 in
theorem trRestB : treesA.c := by
  intro w
  dsimp only
  intro a1 c1 xs a2 c2 ys r1 r2 hx20 hy20 x P hPw hP1 hP5 w2 gt ct gs HT hg20 w3 gc cc w4 gc' cc' LC w5 w6 w7 gC cC C HC HCL N h32 hNw HN hP63 ia2 wr u4 u14 u15 u16 u17 u18 u19 u77 u78 u79 u80 u81 u82 u83 u84 u85 u86 u87 u88 u89 u90 u91 u92 u93 u94 u95 u96 u97 u98 u99 u100 u101 u102 u103 u104 u105 u106 u107 u108 u109 u110 u111 u112 u113 u114 u115 u116 u117 u118 u119 u120 u121 u122 u123 u124 u125 u126 u127 u128 u129 u130 u131 u132 u133 u134 u135 u136 u137 u138 u139 u140 u141 u142 u143 u144 u145 u146 s D v sm ia4 ia5 w9 gd cd w10 gd' cd' w11 w12 zn w13 z1 rC X ia6 ia7 ia8 ia9
  have wa : (Try.prog.underlying 31).isSome = true := by kernel_rfl
  have wb : (Try.prog.underlying 38).isSome = true := by kernel_rfl
  refine (b10System_any P _ xs _ (r1.ext X) hx20 hP1 hP5).mono ?_
  rintro e v2 ⟨ga, ca, A, rfl, X2, own, hsys⟩
  have bxA : Bx (v2.alloc (.cells #[.int .i64 P, .slice (some ⟨ga, 0, none⟩) A.length ca] 27)) v2.heap.size [.int .i64 P, .slice (some ⟨ga, 0, none⟩) A.length ca] := Bx.new _ _ _
  have rA := own.rd.ext (Ext.alloc v2 (.cells #[.int .i64 P, .slice (some ⟨ga, 0, none⟩) A.length ca] 27))
  replace X2 := X2.trans (Ext.alloc v2 (.cells #[.int .i64 P, .slice (some ⟨ga, 0, none⟩) A.length ca] 27))
  replace rC := rC.ext X2
  replace X := X.trans X2
  clear X2
  have HSA := Lib.hid hsys
  clear own hsys
  go_wp2_with fail
  generalize hWW : v2.alloc (.cells #[.int .i64 P, .slice (some ⟨ga, 0, none⟩) A.length ca] 27) = v3 at *
  clear hWW
  generalize v2.heap.size = bA at *
  refine (b10System_any P _ ys v3 (r2.ext X) hy20 hP1 hP5).mono ?_
  rintro e v4 ⟨gb, cb, B, rfl, X2, own, hsys⟩
  have bxB : Bx (v4.alloc (.cells #[.int .i64 P, .slice (some ⟨gb, 0, none⟩) B.length cb] 27)) v4.heap.size [.int .i64 P, .slice (some ⟨gb, 0, none⟩) B.length cb] := Bx.new _ _ _
  have rB := own.rd.ext (Ext.alloc v4 (.cells #[.int .i64 P, .slice (some ⟨gb, 0, none⟩) B.length cb] 27))
  replace X2 := X2.trans (Ext.alloc v4 (.cells #[.int .i64 P, .slice (some ⟨gb, 0, none⟩) B.length cb] 27))
  replace rC := rC.ext X2
  replace bxA := bxA.ext X2
  replace rA := rA.ext X2
  replace X := X.trans X2
  clear X2
  have HSB := Lib.hid hsys
  clear own hsys
  have h0 : 0 < C.length := by rw [HCL.out]; omega
  have own0 : ((v4.alloc (.cells #[.int .i64 P, .slice (some ⟨gb, 0, none⟩) B.length cb] 27)).alloc (.cells #[] 31)).ownsRow (v4.heap.size + 1) 31 1 (.slice (some ⟨v4.heap.size + 1, 0, none⟩) 0 0) 0 [] := by
    have h := World.ownsRow_lit (base := (v4.alloc (.cells #[.int .i64 P, .slice (some ⟨gb, 0, none⟩) B.length cb] 27)).heap.size) (e := 31) (size := 1) (v4.alloc (.cells #[.int .i64 P, .slice (some ⟨gb, 0, none⟩) B.length cb] 27)) #[] 0 (Nat.le_refl _) (by decide) rfl
    have e : (v4.alloc (.cells #[.int .i64 P, .slice (some ⟨gb, 0, none⟩) B.length cb] 27)).heap.size = v4.heap.size + 1 := by simp
    rw [e] at h
    exact h
  go_wp2_with (at_builtin; refine wpList_copyZ infoF32 rfl (by decide) Try.underlying29 rfl rfl rfl own0 rfl (rC.1.alloc _) h0 (floatsZ_one C) (by have := HCL.out; omega) (by decide) (by simp) ?_; intro g2 cap2 v6 hg2 own2 hgr2; have X2 : Ext (v4.alloc (.cells #[.int .i64 P, .slice (some ⟨gb, 0, none⟩) B.length cb] 27)) v6 := (below_alloc (v4.alloc (.cells #[.int .i64 P, .slice (some ⟨gb, 0, none⟩) B.length cb] 27)) _).grown hgr2 (by simp) (fun k hk => by cases hk; simp); clear hgr2)
  have e5 : v4.heap.size + 1 = (v4.alloc (.cells #[.int .i64 P, .slice (some ⟨gb, 0, none⟩) B.length cb] 27)).heap.size := by simp
  rw [e5] at hg2 own2 own0 ⊢
  clear own0
  generalize (v4.alloc (.cells #[.int .i64 P, .slice (some ⟨gb, 0, none⟩) B.length cb] 27)) = v5 at *
  generalize v4.heap.size = bB at *
  clear e5
  refine (b10Shares_any P _ xs v6 (r1.ext (X.trans X2)) hx20 (by omega)).mono ?_
  rintro e v7 ⟨gd', cd', D, rfl, hDl, X3, ownD, hD⟩
  have rD : RdF v7 (.slice (some ⟨gd', 0, none⟩) D.length cd') D := ⟨own_rd ownD, hD.lt⟩
  rw [hDl] at rD ⊢
  have HD := Lib.hid hD
  have HDL := Lib.hid hDl
  have h0' : 0 < D.length := by rw [HDL.out]; omega
  replace own2 := own_ext' own2 X3
  have XZ := X2.trans X3
  have hsz7 := XZ.size
  clear ownD hD hDl X2 X3
  go_wp2_with (at_builtin; refine wpList_allZ infoF32 rfl (by decide) Try.underlying29 rfl rfl rfl own2 rfl rD.1 h0' (floatsZ_one D) (by have := HCL.out; have := HDL.out; omega) (by decide) hsz7 ?_; intro g3 cap3 v8 hg3 own3 hgr3; have X2 : Ext v5 v8 := Below.grown XZ hgr3 hsz7 (fun k hk => by cases hk; exact hg2); obtain ⟨j0, j1⟩ := (bxA.ext X2).two; have j2 := (bxA.ext X2).1; obtain ⟨j3, j4⟩ := (bxB.ext X2).two; have j5 := (bxB.ext X2).1; clear hgr3)
  have rE : RdF v8 (.slice (some ⟨g3, 0, none⟩) (C.length + D.length) cap3) (C ++ D) := ⟨by have h := own_rd own3; rw [← List.map_append] at h; rw [List.length_append]; exact h, by have := HC.out.lt; have := HD.out.lt; intro b hb; rcases List.mem_append.1 hb with hb | hb <;> solve_by_elim⟩
  replace rC := rC.ext X2
  replace bxA := bxA.ext X2
  replace rA := rA.ext X2
  replace bxB := bxB.ext X2
  replace rB := rB.ext X2
  replace X := X.trans X2
  clear X2
  clear own3 own2 rD hsz7 XZ hg2 hg3 h0 h0' j0 j1 j2 j3 j4 j5
  obtain ⟨n1, n2, n3, q1, q2⟩ := tr_ph (A := A) (B := B) hP5 HC.out HD.out HCL.out HDL.out
  have HE : Shs (C ++ D) := fun b hb => (List.mem_append.1 hb).elim (HC.out b) (HD.out b)
  have HP2 := Lib.hid (fun ka kb => ph_2 HSA.out HSB.out hP5 HE (by rw [List.length_append, HCL.out, HDL.out]; omega) ka kb)
  have HP1 := Lib.hid (fun ka => ph_1 HSA.out hP5 HC.out HCL.out ka)
  replace n3 : Num .f64 (fop .add .f64 (wide (sumP [A] C P 1 (2 ^ P))) 4562254508917369340) := n3
  replace q1 : fcmp .lss .f64 (cn .f64 (wide (sumP [A, B] (C ++ D) P 2 (3 ^ P)))) (cn .f64 (fop .add .f64 (wide (sumP [A] C P 1 (2 ^ P))) 4562254508917369340)) = true := q1
  have NX := Lib.hid n1
  have NY := Lib.hid n2
  have NZ := Lib.hid n3
  have Q1 := Lib.hid q1
  have Q2 := Lib.hid q2
  have HKC : Hid (cn .f64 4562254508917369340 = 4562254508917369340) := k001_val.1.cn
  clear n1 n2 n3 q1 q2 HE HD HDL
  generalize sumP [A, B] (C ++ D) P 2 (3 ^ P) = zx at *
  generalize sumP [A] C P 1 (2 ^ P) = zy at *
  have rS : RdSy (v8.alloc (.cells #[.int .i64 P, .slice (some ⟨ga, 0, none⟩) A.length ca, .int .i64 P, .slice (some ⟨gb, 0, none⟩) B.length cb] 27)) (.slice (some ⟨v8.heap.size, 0, none⟩) 2 2) [⟨(P : Int), .slice (some ⟨ga, 0, none⟩) A.length ca, ups A⟩, ⟨(P : Int), .slice (some ⟨gb, 0, none⟩) B.length cb, ups B⟩] :=
    ⟨own_rd (B := v8.heap.size) (e := 27) (World.ownsRow_lit v8 #[.int .i64 P, .slice (some ⟨ga, 0, none⟩) A.length ca, .int .i64 P, .slice (some ⟨gb, 0, none⟩) B.length cb] 2 (Nat.le_refl _) (by decide) rfl), fun x hx => by
      simp only [List.mem_cons, List.not_mem_nil, or_false] at hx
      rcases hx with rfl | rfl
      · exact rA.ext (Ext.alloc _ _)
      · exact rB.ext (Ext.alloc _ _)⟩
  refine (implPhasesChance_any _ _ _ _ _ rS (rE.ext (Ext.alloc _ _))).mono ?_
  intro e u1 h1
  obtain ⟨rfl, X2, hx32⟩ := nm_num2 h1 (HP2.out _ _) NX.out
  replace X2 := (Ext.alloc v8 (.cells #[.int .i64 P, .slice (some ⟨ga, 0, none⟩) A.length ca, .int .i64 P, .slice (some ⟨gb, 0, none⟩) B.length cb] 27)).trans X2
  have HX32 := Lib.hid hx32
  replace rC := rC.ext X2
  replace rE := rE.ext X2
  replace bxA := bxA.ext X2
  replace rA := rA.ext X2
  replace bxB := bxB.ext X2
  replace rB := rB.ext X2
  replace X := X.trans X2
  clear X2
  clear h1 rS hx32
  obtain ⟨j0, j1⟩ := bxA.two
  have j2 := bxA.1
  obtain ⟨j3, j4⟩ := bxB.two
  have j5 := bxB.1
  go_wp2_with fail
  have rS : RdSy (u1.alloc (.cells #[.int .i64 P, .slice (some ⟨ga, 0, none⟩) A.length ca, .int .i64 P, .slice (some ⟨gb, 0, none⟩) B.length cb] 27)) (.slice (some ⟨u1.heap.size, 0, none⟩) 2 2) [⟨(P : Int), .slice (some ⟨ga, 0, none⟩) A.length ca, ups A⟩, ⟨(P : Int), .slice (some ⟨gb, 0, none⟩) B.length cb, ups B⟩] :=
    ⟨own_rd (B := u1.heap.size) (e := 27) (World.ownsRow_lit u1 #[.int .i64 P, .slice (some ⟨ga, 0, none⟩) A.length ca, .int .i64 P, .slice (some ⟨gb, 0, none⟩) B.length cb] 2 (Nat.le_refl _) (by decide) rfl), fun x hx => by
      simp only [List.mem_cons, List.not_mem_nil, or_false] at hx
      rcases hx with rfl | rfl
      · exact rA.ext (Ext.alloc _ _)
      · exact rB.ext (Ext.alloc _ _)⟩
  refine (specPhasesChance_any _ _ _ _ _ rS (rE.ext (Ext.alloc _ _))).mono ?_
  intro e u2 h2
  obtain ⟨rfl, X2, -⟩ := nm_num2 h2 (HP2.out _ _) NX.out
  replace X2 := (Ext.alloc u1 (.cells #[.int .i64 P, .slice (some ⟨ga, 0, none⟩) A.length ca, .int .i64 P, .slice (some ⟨gb, 0, none⟩) B.length cb] 27)).trans X2
  replace rC := rC.ext X2
  replace bxA := bxA.ext X2
  replace rA := rA.ext X2
  replace X := X.trans X2
  clear X2
  clear h2 rS j0 j1 j2 j3 j4 j5 rE bxB rB
  obtain ⟨j0, j1⟩ := bxA.two
  have j2 := bxA.1
  go_wp2_with fail
  have rS : RdSy (u2.alloc (.cells #[.int .i64 P, .slice (some ⟨ga, 0, none⟩) A.length ca] 27)) (.slice (some ⟨u2.heap.size, 0, none⟩) 1 1) [⟨(P : Int), .slice (some ⟨ga, 0, none⟩) A.length ca, ups A⟩] :=
    ⟨own_rd (B := u2.heap.size) (e := 27) (World.ownsRow_lit u2 #[.int .i64 P, .slice (some ⟨ga, 0, none⟩) A.length ca] 1 (Nat.le_refl _) (by decide) rfl), fun x hx => by obtain rfl := List.mem_singleton.1 hx; exact rA.ext (Ext.alloc _ _)⟩
  refine (implPhasesChance_any _ _ _ _ _ rS (rC.ext (Ext.alloc _ _))).mono ?_
  intro e u3 h3
  obtain ⟨rfl, X2⟩ := nm_num h3 (HP1.out _) NY.out
  replace X := X.trans ((Ext.alloc u2 (.cells #[.int .i64 P, .slice (some ⟨ga, 0, none⟩) A.length ca] 27)).trans X2)
  clear X2 h3 rS j0 j1 j2 rC bxA rA HP1 HP2
  go_wp2_with fail
  refine (sameNumber_self _ HX32.out _).mono ?_
  rintro e u4' ⟨rfl, rfl⟩
  have q1 := Q1.out
  have q2 := Q2.out
  clear HX32
  go_wp2_with ((try (simp only [Act.put, List.setIfInBounds_toArray, List.set_cons_succ, List.set_cons_zero])); first
    | (refine wpList_wide wa Try.underlying38 (by kernel_rfl) rfl rfl ?_; intro zb zn hzb hzl; clear hzl; rw [NX.out.cn] at hzb; replace hzb := bits_of hzb (wide_val NX.out).1.notN; subst hzb)
    | (refine wpList_wide wa Try.underlying38 (by kernel_rfl) rfl rfl ?_; intro zb zn hzb hzl; clear hzl; rw [NY.out.cn] at hzb; replace hzb := bits_of hzb (wide_val NY.out).1.notN; subst hzb)
    | (refine wpList_fop (by kernel_rfl) rfl rfl rfl rfl ?_; intro b nb hb hl; clear hl; rw [(wide_val NY.out).1.cn, HKC.out] at hb; replace hb := bits_of hb NZ.out.notN; subst hb)
    | (refine wpList_fcmp (by kernel_rfl) rfl rfl rfl rfl q1 ?_)
    | (refine wpList_fcmp (by kernel_rfl) rfl rfl rfl rfl q2 ?_))
  go_ret
  exact ⟨rfl, X.trans (Ext.drewN _ _)⟩
theorem trees_walk (v1 v2 : Value) (w : World) (h1 : ArgBytes w v1) (h2 : ArgBytes w v2) :
    Calls Try.prog 5 #[v1, v2] w fun e w' => e = .returned (.bool true) ∧ Ext w w' := treesA.out ⟨trRound⟩ ⟨trRestA⟩ ⟨trRestB⟩ v1 v2 w h1 h2
theorem fnTrees_own : ownKnob Try.prog.godebug = none := by kernel_rfl
theorem fnTrees_laid : laidOutB Try.prog = true := by kernel_rfl

set_option maxRecDepth 100000 in
theorem fnTrees_lifted (os : Os) (started : os.Started) (H : Type) (enc : TypeId × Value → H) :
    ReturnsInHanded {} Try.checked os 5 .any (Rows.fnTreesSpec.pre6 enc Try.prog Try.f5 Rows.fnTreesRow.domain false) (Rows.fnTreesSpec.post enc Try.prog Try.f5 false true false false) := by
  refine returnsInHanded_of_change (C := Try.checked) fnTrees_own started (by kernel_rfl) Try.func5
    (ChangeSpec.witness6 (enc := enc) (C := Try.checked) false ⟨#[], #[.slice none 0 0, .slice none 0 0], []⟩ 8 (by kernel_rfl) (by kernel_rfl) (by kernel_rfl) (by kernel_rfl)) ?_
  intro W base args ds gs before hval0 hW hcnd _
  have hval : ∀ (j : Nat) t v, Try.f5.params[j]? = some t → args[j]? = some v → Value.okWide Try.prog W .any base t v := hval0
  have hW' := hW
  obtain ⟨p, q, hA0, hV, rfl, hfz, hnd⟩ := hW
  have hA : DataW.TrodAll enc Try.prog W 0 (fun _ => true) true Try.f5.params.toList args.toList ds p := hA0
  rw [Try.params5] at hA hval
  obtain ⟨v0, vs0, d0, ds0, p0, q0, hargs, rfl, rfl, h0, r0⟩ := trodAll_cons hA
  obtain ⟨v1, vs1, d1, ds1, p1, q1, rfl, rfl, rfl, h1, r1⟩ := trodAll_cons r0
  obtain ⟨rfl, rfl, rfl⟩ := trodAll_nil r1
  obtain rfl : args = #[v0, v1] := by cases args; simp_all
  obtain ⟨rfl, rfl⟩ := trodVars_none hV
  have lt0 : ∀ x ∈ p0, x.block < W.heap.size := by obtain ⟨m, hm⟩ := h0; exact DataW.trod_lt m _ _ _ hm
  have w0 := argBytes Try.underlying22 Try.underlying5 (by kernel_rfl) (hval 0 22 v0 rfl rfl) h0
  have lt1 : ∀ x ∈ p1, x.block < W.heap.size := by obtain ⟨m, hm⟩ := h1; exact DataW.trod_lt m _ _ _ hm
  have w1 := argBytes Try.underlying22 Try.underlying5 (by kernel_rfl) (hval 1 22 v1 rfl rfl) h1
  clear hA0 hval0
  refine (trees_walk v0 v1 W w0 w1).mono fun e W' ⟨he, bel⟩ => ?_
  subst he
  exact ⟨_, rfl, _, _, _, [], _, [], hW', trodAll_mk1 (shut_bool Try.underlying4 _), (trodAll_cons_mk (Below.trod fnTrees_laid (by kernel_rfl) (of_decide_eq_true (by kernel_rfl)) h0 bel lt0) (trodAll_cons_mk (Below.trod fnTrees_laid (by kernel_rfl) (of_decide_eq_true (by kernel_rfl)) h1 bel lt1) trodAll_mk0)), rfl, bel.below.frame _, fun h => by cases h⟩

theorem fnTrees_over : Rows.fnTreesRow.holds Try.pinned (OpenSpec.ofChange Rows.fnTreesSpec) :=
  OpenClaim.holds_of_wide 5 Try.f5 rfl rfl rfl rfl rfl rfl rfl ⟨rfl, rfl, rfl, rfl, rfl⟩ rfl rfl rfl rfl rfl (by kernel_rfl) Try.func5 (by kernel_rfl)
    (of_decide_eq_true (by kernel_rfl)) (by unfold Func.isWrapper; first | (rw [if_pos (by decide +kernel)]; kernel_rfl) | (rw [if_neg (by decide +kernel)]; exact ⟨rfl, rfl⟩))
    (fun os started H enc _ => fnTrees_lifted os started H enc)

/-- The statement. -/
theorem fnTrees_holds : Rows.FnTreesSaid := fnTrees_over

end Go.Proofs.Ytgmdoboeenpjpaa
