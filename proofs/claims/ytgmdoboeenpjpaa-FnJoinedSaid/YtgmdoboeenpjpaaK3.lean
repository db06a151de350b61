
/- FnJoined: from the start to where the beside system's chance is asked. No condition. -/
import Derived.Test.YtgmdoboeenpjpaaRows
import Derived.Test.YtgmdoboeenpjpaaKA
namespace Go.Proofs.Ytgmdoboeenpjpaa
open Go Go.RowKit Go.ChangeShapes Go.WideShapes Go.ChangeAt

attribute [local irreducible] LX tw pop cntL
attribute [local go_sem] run_store_float
/-- What is left to prove, as it stands. -/
structure KeptJ (R : Prop) : Prop where
  out : R
/-- What is left, in two parts. -/
structure Kept2J (G : Prop) where
  a : Prop
  b : Prop
  out : KeptJ a → KeptJ b → G
set_option maxRecDepth 100000 in
set_option maxHeartbeats 16000000 in
def joinedA : Kept2J (∀ (v1 v2 : Value) (w : World), ArgBytes w v1 → ArgBytes w v2 →
    Calls Try.prog 4 #[v1, v2] w fun e w' => e = .returned (.bool true) ∧ Ext w w') := by
  apply Kept2J.mk
  case out =>
  intro hrest1 hrest2 v1 v2 w h1 h2
  obtain ⟨a1, l1, c1, xs, rfl, r1⟩ := h1
  obtain ⟨a2, l2, c2, ys, rfl, r2⟩ := h2
  have hl1 : l1 = xs.length := by obtain ⟨⟨_, _, _, e, _⟩, _⟩ := r1; cases e; rfl
  have hl2 : l2 = ys.length := by obtain ⟨⟨_, _, _, e, _⟩, _⟩ := r2; cases e; rfl
  subst hl1 hl2
  by_cases hlong : 1048576 < xs.length ∨ 1048576 < ys.length
  · have HL := Lib.hid (b10Long_any _ _ xs ys w r1 r2)
    rw [decide_eq_true hlong] at HL
    clear hlong
    go_enter Try.func4, Try.ntmps4
    go_wp2_with fail
    refine HL.out.mono ?_
    rintro e w1 ⟨rfl, rfl⟩
    go_wp2_with fail
    go_ret
    exact ⟨rfl, Ext.refl _⟩
  · have HL := Lib.hid (b10Long_any _ _ xs ys w r1 r2)
    rw [decide_eq_false hlong] at HL
    have hx20 : xs.length ≤ 1048576 := by omega
    have hy20 : ys.length ≤ 1048576 := by omega
    clear hlong
    have wa : (Try.prog.underlying 31).isSome = true := by kernel_rfl
    have wb : (Try.prog.underlying 38).isSome = true := by kernel_rfl
    go_enter Try.func4, Try.ntmps4
    go_wp2_with fail
    refine HL.out.mono ?_
    rintro e w1 ⟨rfl, rfl⟩
    go_wp2_with fail
    refine (b10At_any _ ys 0 4 w r2 (by decide) (by decide) (by decide)).mono ?_
    rintro e w1 ⟨x, hx4, rfl, rfl⟩
    obtain ⟨P, hP⟩ : ∃ P, P = x + 1 := ⟨_, rfl⟩
    have hPw : IntKind.i64.wrap (1 + (x : Int)) = (P : Int) := by rw [show 1 + (x : Int) = (P : Int) by omega]; exact wrap_nat _ (by omega)
    have hP1 : 1 ≤ P := by omega
    have hP4 : P ≤ 4 := by omega
    clear hP hx4
    go_wp2_with fail
    refine (b10At_any _ ys 1 4 w r2 (by decide) (by decide) (by decide)).mono ?_
    rintro e w1 ⟨y, hy4, rfl, rfl⟩
    obtain ⟨Q, hQ⟩ : ∃ Q, Q = y + 1 := ⟨_, rfl⟩
    have hQw : IntKind.i64.wrap (1 + (y : Int)) = (Q : Int) := by rw [show 1 + (y : Int) = (Q : Int) by omega]; exact wrap_nat _ (by omega)
    have hQ1 : 1 ≤ Q := by omega
    have hQ4 : Q ≤ 4 := by omega
    clear hQ hy4
    obtain ⟨S, hS⟩ : ∃ S, S = P + Q := ⟨_, rfl⟩
    have hSw : IntKind.i64.wrap ((P : Int) + (Q : Int)) = (S : Int) := by rw [show (P : Int) + (Q : Int) = (S : Int) by omega]; exact wrap_nat _ (by omega)
    replace hS := Lib.hid hS
    go_wp2_with fail
    -- the systems
    refine (b10System_any P _ xs w r1 hx20 hP1 (by omega)).mono ?_
    rintro e w2 ⟨ga, ca, A, rfl, X, own, hsys⟩
    have bxA : Bx (w2.alloc (.cells #[.int .i64 P, .slice (some ⟨ga, 0, none⟩) A.length ca] 27)) w2.heap.size [.int .i64 P, .slice (some ⟨ga, 0, none⟩) A.length ca] := Bx.new _ _ _
    have rA := own.rd.ext (Ext.alloc w2 (.cells #[.int .i64 P, .slice (some ⟨ga, 0, none⟩) A.length ca] 27))
    replace X := X.trans (Ext.alloc w2 (.cells #[.int .i64 P, .slice (some ⟨ga, 0, none⟩) A.length ca] 27))
    have HSA := Lib.hid hsys
    clear own hsys HL
    obtain ⟨k0, k1⟩ := bxA.two
    have hblk := bxA.1
    go_wp2_with fail
    generalize hWW : w2.alloc (.cells #[.int .i64 P, .slice (some ⟨ga, 0, none⟩) A.length ca] 27) = W3 at *
    clear hWW k0 k1 hblk
    generalize w2.heap.size = bA at *
    refine (b10System_any Q _ ys W3 (r2.ext X) hy20 hQ1 (by omega)).mono ?_
    rintro e w4 ⟨gb, cb, B, rfl, X2, own, hsys⟩
    have bxB : Bx (w4.alloc (.cells #[.int .i64 Q, .slice (some ⟨gb, 0, none⟩) B.length cb] 27)) w4.heap.size [.int .i64 Q, .slice (some ⟨gb, 0, none⟩) B.length cb] := Bx.new _ _ _
    have rB := own.rd.ext (Ext.alloc w4 (.cells #[.int .i64 Q, .slice (some ⟨gb, 0, none⟩) B.length cb] 27))
    replace X2 := X2.trans (Ext.alloc w4 (.cells #[.int .i64 Q, .slice (some ⟨gb, 0, none⟩) B.length cb] 27))
    replace bxA := bxA.ext X2
    replace rA := rA.ext X2
    replace X := X.trans X2
    have HSB := Lib.hid hsys
    clear own hsys X2
    go_wp2_with fail
    generalize hWW : w4.alloc (.cells #[.int .i64 Q, .slice (some ⟨gb, 0, none⟩) B.length cb] 27) = W5 at *
    clear hWW
    generalize w4.heap.size = bB at *
    -- the shares
    refine (b10Shares_any P _ xs W5 (r1.ext X) hx20 (by omega)).mono ?_
    rintro e w6 ⟨gc, cc, C, rfl, hCl, X2, ownC, hC⟩
    have rC : RdF w6 (.slice (some ⟨gc, 0, none⟩) C.length cc) C := ⟨own_rd ownC, hC.lt⟩
    rw [hCl] at rC ⊢
    have HC := Lib.hid hC
    have HCL := Lib.hid hCl
    replace bxA := bxA.ext X2
    replace rA := rA.ext X2
    replace bxB := bxB.ext X2
    replace rB := rB.ext X2
    replace X := X.trans X2
    clear ownC hC hCl X2
    go_wp2_with fail
    refine (b10Shares_any Q _ ys w6 (r2.ext X) hy20 (by omega)).mono ?_
    rintro e w7 ⟨gd, cd, D, rfl, hDl, X2, ownD, hD⟩
    have rD : RdF w7 (.slice (some ⟨gd, 0, none⟩) D.length cd) D := ⟨own_rd ownD, hD.lt⟩
    rw [hDl] at rD ⊢
    have HD := Lib.hid hD
    have HDL := Lib.hid hDl
    replace bxA := bxA.ext X2
    replace rA := rA.ext X2
    replace bxB := bxB.ext X2
    replace rB := rB.ext X2
    replace rC := rC.ext X2
    replace X := X.trans X2
    clear X2
    clear ownD hD hDl
    -- the facts
    have HSE := Lib.hid (be_valid HSA.out HSB.out hP4 hQ4)
    rw [← hS.out] at HSE
    have C1 := Lib.hid (chainI_two hS.out HSA.out HSB.out)
    have C2 := Lib.hid (chainS_two hS.out HSA.out HSB.out)
    have C3 := Lib.hid (beside_val hS.out HSA.out HSB.out hP4 hQ4)
    have C4 := Lib.hid (chanceS_val HSA.out (by omega) HC.out HCL.out)
    have C5 := Lib.hid (chanceS_val HSB.out (by omega) HD.out HDL.out)
    obtain ⟨⟨n1, n2, n3, n4⟩, n5, ⟨n6, n7, n8, n9⟩, n10, n11⟩ := jn_all hS.out HSA.out HSB.out hP4 hQ4 HC.out HD.out HCL.out HDL.out
    have N1 := Lib.hid n1
    have N2 := Lib.hid n2
    have N3 := Lib.hid n3
    have N4 := Lib.hid n4
    have N5 := Lib.hid n5
    have N6 := Lib.hid n6
    have N7 := Lib.hid n7
    have N8 := Lib.hid n8
    have N9 := Lib.hid n9
    have G1 := Lib.hid n10
    have G2 := Lib.hid n11
    have HKC : Hid (cn .f64 4562254508917369340 = 4562254508917369340) := k001_val.1.cn
    have HK1 : Hid (cn .f64 4607182418800017408 = 4607182418800017408) := k1_val.1.cn
    have hS8 : S ≤ 8 := by have := hS.out; omega
    have HE := Lib.hid (HC.out.app HD.out)
    have HEL : Hid ((C ++ D).length = S) := by show _ = _; rw [List.length_append, HCL.out, HDL.out, hS.out]
    have C6 := Lib.hid (chanceI_val HSE.out hS8 HE.out HEL.out)
    have HCO := Lib.hid (ch_x HSE.out HE.out HEL.out)
    clear n1 n2 n3 n4 n5 n6 n7 n8 n9 n10 n11
    have HSQ : Hid (serB P Q A B = true → sysB (S : Int) (ups (chL (2 ^ P) A B)) = true) := Lib.hid fun h => by
      rcases ser_two HSA.out HSB.out with h1 | ⟨h1, h2⟩
      · unfold serB at h; rw [h1] at h; cases h
      · rw [hS.out]; exact h2
    generalize serB P Q A B = cc1 at *
    generalize chL (2 ^ P) A B = LC at *
    generalize beL P A B = LB at *
    obtain ⟨k0, k1⟩ := bxA.two
    obtain ⟨k2, k3⟩ := bxB.two
    have hblk := bxA.1
    have hblk2 := bxB.1
    go_wp2_with fail
    -- the chain
    refine (C1.out _ _ _ rA rB).mono ?_
    rintro e w8 ⟨R, ar, nr, cr, rfl, X2, hch⟩
    have HCH := Lib.hid hch
    have bxC : Bx (w8.alloc (.cells #[.int .i64 R, .slice ar nr cr] 27)) w8.heap.size [.int .i64 R, .slice ar nr cr] := Bx.new _ _ _
    have X3 := Ext.alloc w8 (.cells #[.int .i64 R, .slice ar nr cr] 27)
    have HCH2 : Hid (cc1 = true → R = (S : Int) ∧ RdI (w8.alloc (.cells #[.int .i64 R, .slice ar nr cr] 27)) (.slice ar nr cr) (ups LC)) := Lib.hid fun h => ⟨(hch h).1, (hch h).2.1.ext X3⟩
    replace X2 := X2.trans X3
    replace bxA := bxA.ext X2
    replace rA := rA.ext X2
    replace bxB := bxB.ext X2
    replace rB := rB.ext X2
    replace rC := rC.ext X2
    replace rD := rD.ext X2
    replace X := X.trans X2
    clear X2
    clear hch HCH X3 k0 k1 k2 k3 hblk hblk2
    obtain ⟨k0, k1⟩ := bxA.two
    obtain ⟨k2, k3⟩ := bxB.two
    have hblk := bxA.1
    have hblk2 := bxB.1
    go_wp2_with fail
    generalize hWW : w8.alloc (.cells #[.int .i64 R, .slice ar nr cr] 27) = W9 at *
    clear hWW
    generalize w8.heap.size = bC at *
    refine (C2.out _ _ _ rA rB).mono ?_
    rintro e w10 ⟨R', ar', nr', cr', rfl, X2, -⟩
    replace X2 := X2.trans (Ext.alloc w10 (.cells #[.int .i64 R', .slice ar' nr' cr'] 27))
    replace HCH2 : Hid (cc1 = true → R = (S : Int) ∧ RdI (w10.alloc (.cells #[.int .i64 R', .slice ar' nr' cr'] 27)) (.slice ar nr cr) (ups LC)) := Lib.hid fun h => ⟨(HCH2.out h).1, (HCH2.out h).2.ext X2⟩
    replace bxA := bxA.ext X2
    replace rA := rA.ext X2
    replace bxB := bxB.ext X2
    replace rB := rB.ext X2
    replace rC := rC.ext X2
    replace rD := rD.ext X2
    replace bxC := bxC.ext X2
    replace X := X.trans X2
    clear X2
    clear k0 k1 k2 k3 hblk hblk2
    obtain ⟨k0, k1⟩ := bxA.two
    obtain ⟨k2, k3⟩ := bxB.two
    have hblk := bxA.1
    have hblk2 := bxB.1
    go_wp2_with fail
    generalize hWW : w10.alloc (.cells #[.int .i64 R', .slice ar' nr' cr'] 27) = W11 at *
    clear hWW
    generalize w10.heap.size = bC' at *
    refine (C3.out _ _ _ rA rB).mono ?_
    rintro e w12 ⟨ge, ce, rfl, X2, rE⟩
    have bxE : Bx (w12.alloc (.cells #[.int .i64 S, .slice (some ⟨ge, 0, none⟩) LB.length ce] 27)) w12.heap.size [.int .i64 S, .slice (some ⟨ge, 0, none⟩) LB.length ce] := Bx.new _ _ _
    have X3 := Ext.alloc w12 (.cells #[.int .i64 S, .slice (some ⟨ge, 0, none⟩) LB.length ce] 27)
    replace rE := rE.ext X3
    replace X2 := X2.trans X3
    replace HCH2 : Hid (cc1 = true → R = (S : Int) ∧ RdI (w12.alloc (.cells #[.int .i64 S, .slice (some ⟨ge, 0, none⟩) LB.length ce] 27)) (.slice ar nr cr) (ups LC)) := Lib.hid fun h => ⟨(HCH2.out h).1, (HCH2.out h).2.ext X2⟩
    replace bxA := bxA.ext X2
    replace rA := rA.ext X2
    replace bxB := bxB.ext X2
    replace rB := rB.ext X2
    replace rC := rC.ext X2
    replace rD := rD.ext X2
    replace bxC := bxC.ext X2
    replace X := X.trans X2
    clear X2
    clear X3 k0 k1 k2 k3 hblk hblk2
    obtain ⟨k0, k1⟩ := bxA.two
    have hblk := bxA.1
    go_wp2_with fail
    generalize hWW : w12.alloc (.cells #[.int .i64 S, .slice (some ⟨ge, 0, none⟩) LB.length ce] 27) = W13 at *
    clear hWW
    generalize w12.heap.size = bE at *
    -- the chances
    refine (C4.out _ _ _ rA rC).mono ?_
    rintro e w14 ⟨rfl, X2, -⟩
    replace HCH2 : Hid (cc1 = true → R = (S : Int) ∧ RdI w14 (.slice ar nr cr) (ups LC)) := Lib.hid fun h => ⟨(HCH2.out h).1, (HCH2.out h).2.ext X2⟩
    replace bxB := bxB.ext X2
    replace rB := rB.ext X2
    replace rC := rC.ext X2
    replace rD := rD.ext X2
    replace bxC := bxC.ext X2
    replace bxE := bxE.ext X2
    replace rE := rE.ext X2
    replace X := X.trans X2
    clear X2
    clear k0 k1 hblk bxA rA
    obtain ⟨k0, k1⟩ := bxB.two
    have hblk := bxB.1
    go_wp2_with fail
    refine (C5.out _ _ _ rB rD).mono ?_
    rintro e w15 ⟨rfl, X2, -⟩
    replace HCH2 : Hid (cc1 = true → R = (S : Int) ∧ RdI w15 (.slice ar nr cr) (ups LC)) := Lib.hid fun h => ⟨(HCH2.out h).1, (HCH2.out h).2.ext X2⟩
    replace rC := rC.ext X2
    replace rD := rD.ext X2
    replace bxC := bxC.ext X2
    replace bxE := bxE.ext X2
    replace rE := rE.ext X2
    replace X := X.trans X2
    clear X2
    clear k0 k1 hblk bxB rB C1 C2 C3 C4 C5
    obtain ⟨k0, k1⟩ := bxE.two
    have hblk := bxE.1
    have h0 : 0 < C.length := by rw [HCL.out]; omega
    have h0' : 0 < D.length := by rw [HDL.out]; omega
    generalize chS P A C = zx at *
    generalize chS Q B D = zy at *
    obtain ⟨zu, HZU⟩ : ∃ z, Hid (chS S LC (C ++ D) = z) := ⟨_, rfl⟩
    rw [HZU.out] at N3 G1
    generalize chS S LB (C ++ D) = zv at *
    cases cc1
    case false =>
      go_wp2_with (first
        | (at_builtin; refine wpList_copyZ infoF32 rfl (by decide) Try.underlying29 rfl rfl rfl (World.ownsRow_lit (base := w15.heap.size) (e := 31) (size := 1) w15 #[] 0 (Nat.le_refl _) (by decide) rfl) rfl (rC.1.alloc _) h0 (floatsZ_one C) (by have := HCL.out; omega) (by decide) (by simp) ?_; intro g2 cap2 w16 hg2 own2 hgr2; have Z6 : Ext w15 w16 := (below_alloc w15 _).grown hgr2 (by simp) (fun k hk => by cases hk; exact Nat.le_refl _); have rD6 := rD.ext Z6; have hsz6 := Z6.size; clear hgr2)
        | (at_builtin; refine wpList_allZ infoF32 rfl (by decide) Try.underlying29 rfl rfl rfl own2 rfl rD6.1 h0' (floatsZ_one D) (by have := HCL.out; have := HDL.out; omega) (by decide) hsz6 ?_; intro g3 cap3 w17 hg3 own3 hgr3; have X2 : Ext w15 w17 := Z6.grown hgr3 hsz6 (fun k hk => by cases hk; exact hg2); obtain ⟨j0, j1⟩ := (bxE.ext X2).two; have j2 := (bxE.ext X2).1; obtain ⟨j3, j4⟩ := (bxC.ext X2).two; have j5 := (bxC.ext X2).1; clear hgr3))
      have rF : RdF w17 (.slice (some ⟨g3, 0, none⟩) (C.length + D.length) cap3) (C ++ D) := ⟨by have h := own_rd own3; rw [← List.map_append] at h; rw [List.length_append]; exact h, HE.out.lt⟩
      replace bxE := bxE.ext X2
      replace rE := rE.ext X2
      replace X := X.trans X2
      clear own3 own2 Z6 rD6 hsz6 hg2 hg3 rC rD h0 h0' k0 k1 hblk j0 j1 j2 j3 j4 j5
      clear HCH2 HSQ bxC X2
      refine (C6.out _ _ _ rE rF).mono ?_
      rintro e w20 ⟨rfl, X2, hv32⟩
      replace bxE := bxE.ext X2
      replace rE := rE.ext X2
      replace rF := rF.ext X2
      replace X := X.trans X2
      clear X2
      replace hv32 := Lib.hid hv32
      try clear k0 k1 hblk
      clear C6 G1 N3 N5 HZU HSA HSB HC HD HCL HDL HSE hS8 HE HEL
      go_wp2_with fail
      generalize hlE : C.length + D.length = lE at *
      clear hlE
      generalize C ++ D = EE at *
      clear wa wb
      rename_i i1 i2 i3
      revert w a1 c1 xs a2 c2 ys r1 r2 hx20 hy20 i1 x P hPw hP1 hP4 y Q hQw hQ1 hQ4 S hSw hS w2 ga ca A W3 bA w4 gb cb B W5 bB w6 gc cc C w7 gd cd D HKC HK1 LC LB w8 R ar nr cr W9 bC w10 R' ar' nr' cr' W11 bC' w12 ge ce W13 bE w14 w15 zx N1 N6 zy N2 N7 N8 N9 zu zv N4 G2 g2 cap2 w16 g3 cap3 w17 w20 bxE rE X hv32 i2 i3 lE EE HCO rF
      exact hrest1.out
    case true =>
      go_wp2_with (first
        | (at_builtin; refine wpList_copyZ infoF32 rfl (by decide) Try.underlying29 rfl rfl rfl (World.ownsRow_lit (base := w15.heap.size) (e := 31) (size := 1) w15 #[] 0 (Nat.le_refl _) (by decide) rfl) rfl (rC.1.alloc _) h0 (floatsZ_one C) (by have := HCL.out; omega) (by decide) (by simp) ?_; intro g2 cap2 w16 hg2 own2 hgr2; have Z6 : Ext w15 w16 := (below_alloc w15 _).grown hgr2 (by simp) (fun k hk => by cases hk; exact Nat.le_refl _); have rD6 := rD.ext Z6; have hsz6 := Z6.size; clear hgr2)
        | (at_builtin; refine wpList_allZ infoF32 rfl (by decide) Try.underlying29 rfl rfl rfl own2 rfl rD6.1 h0' (floatsZ_one D) (by have := HCL.out; have := HDL.out; omega) (by decide) hsz6 ?_; intro g3 cap3 w17 hg3 own3 hgr3; have X2 : Ext w15 w17 := Z6.grown hgr3 hsz6 (fun k hk => by cases hk; exact hg2); obtain ⟨j0, j1⟩ := (bxE.ext X2).two; have j2 := (bxE.ext X2).1; obtain ⟨j3, j4⟩ := (bxC.ext X2).two; have j5 := (bxC.ext X2).1; clear hgr3))
      have rF : RdF w17 (.slice (some ⟨g3, 0, none⟩) (C.length + D.length) cap3) (C ++ D) := ⟨by have h := own_rd own3; rw [← List.map_append] at h; rw [List.length_append]; exact h, HE.out.lt⟩
      replace bxE := bxE.ext X2
      replace rE := rE.ext X2
      replace X := X.trans X2
      clear own3 own2 Z6 rD6 hsz6 hg2 hg3 rC rD h0 h0' k0 k1 hblk j0 j1 j2 j3 j4 j5
      have hch := HCH2.out
      have hsq := HSQ.out
      simp only [true_implies] at hch hsq
      obtain ⟨rfl, rLC⟩ := hch
      have C1 := Lib.hid (chanceI_val hsq hS8 HE.out HEL.out)
      rw [HZU.out] at C1
      replace rLC := rLC.ext X2
      replace bxC := bxC.ext X2
      clear HCH2 HSQ hsq X2
      refine (C1.out _ _ _ rLC rF).mono ?_
      rintro e w18 ⟨rfl, X2, -⟩
      replace bxC := bxC.ext X2
      replace bxE := bxE.ext X2
      replace rE := rE.ext X2
      replace rF := rF.ext X2
      replace X := X.trans X2
      clear X2
      clear C1 rLC
      obtain ⟨k0, k1⟩ := bxC.two
      have hblk := bxC.1
      go_wp2_with (first
        | (refine wpList_wide wa Try.underlying38 rfl rfl rfl ?_; intro zb zn hzb hzl; clear hzl; rw [N3.out.cn] at hzb; replace hzb := bits_of hzb (wide_val N3.out).1.notN; subst hzb)
        | (refine wpList_wide wa Try.underlying38 rfl rfl rfl ?_; intro zb zn hzb hzl; clear hzl; rw [N1.out.cn] at hzb; replace hzb := bits_of hzb (wide_val N1.out).1.notN; subst hzb)
        | (refine wpList_wide wa Try.underlying38 rfl rfl rfl ?_; intro zb zn hzb hzl; clear hzl; rw [N2.out.cn] at hzb; replace hzb := bits_of hzb (wide_val N2.out).1.notN; subst hzb)
        | (refine wpList_fop rfl rfl rfl rfl rfl ?_; intro b nb hb hl; rw [(wide_val N1.out).1.cn, (wide_val N2.out).1.cn] at hb; replace hb := bits_of hb N5.out.notN; subst hb; clear hl))
      refine (G1.out _).mono ?_
      rintro e w19 ⟨z1, rfl, hz1, X2⟩
      replace X2 := (Ext.drewN _ _).trans X2
      replace bxE := bxE.ext X2
      replace rE := rE.ext X2
      replace rF := rF.ext X2
      replace X := X.trans X2
      clear X2
      clear k0 k1 hblk bxC
      replace hz1 : fcmp .gtr .f64 (cn .f64 z1) (cn .f64 4562254508917369340) = false := hz1
      obtain ⟨k0, k1⟩ := bxE.two
      have hblk := bxE.1
      go_wp2_with (first | (refine wpList_fcmp rfl rfl rfl rfl rfl (by first | with_reducible assumption | exact rfl) ?_))
      clear hz1
      refine (C6.out _ _ _ rE rF).mono ?_
      rintro e w20 ⟨rfl, X2, hv32⟩
      replace bxE := bxE.ext X2
      replace rE := rE.ext X2
      replace rF := rF.ext X2
      replace X := X.trans X2
      clear X2
      replace hv32 := Lib.hid hv32
      try clear k0 k1 hblk
      clear C6 G1 N3 N5 HZU HSA HSB HC HD HCL HDL HSE hS8 HE HEL
      go_wp2_with fail
      generalize hlE : C.length + D.length = lE at *
      clear hlE
      generalize C ++ D = EE at *
      clear wa wb
      rename_i i1 i2 i3 i4 i5
      revert w a1 c1 xs a2 c2 ys r1 r2 hx20 hy20 i1 x P hPw hP1 hP4 y Q hQw hQ1 hQ4 S hSw hS w2 ga ca A W3 bA w4 gb cb B W5 bB w6 gc cc C w7 gd cd D HKC HK1 LC LB w8 ar nr cr W9 bC w10 R' ar' nr' cr' W11 bC' w12 ge ce W13 bE w14 w15 zx N1 N6 zy N2 N7 N8 N9 zu zv N4 G2 g2 cap2 w16 g3 cap3 w17 w18 i2 i3 zn nb w19 z1 w20 bxE rE X hv32 i4 i5 lE EE HCO rF
      exact hrest2.out
end Go.Proofs.Ytgmdoboeenpjpaa
