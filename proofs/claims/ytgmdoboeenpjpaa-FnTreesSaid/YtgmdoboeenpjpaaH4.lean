
/- FnTrees: a round of the loop over all sets. No condition. -/
import Derived.Test.YtgmdoboeenpjpaaH3
namespace Go.Proofs.Ytgmdoboeenpjpaa
open Go Go.RowKit Go.ChangeShapes Go.WideShapes Go.ChangeAt

attribute [local irreducible] LX tw pop xD sD lowL failN
attribute [local go_sem] run_store_float
theorem sD_succ (f : Nat → Bool) (C : List Nat) (p m : Nat) : sD f C p (m + 1) = if f m then fop .add .f64 (sD f C p m) (xD m C p) else sD f C p m := by rw [sD]
theorem xD_succ (s : Nat) (C : List Nat) (i : Nat) : xD s C (i + 1) = if s.testBit i then fop .mul .f64 (xD s C i) (wide (C.getD i 0)) else fop .mul .f64 (xD s C i) (fop .sub .f64 4607182418800017408 (wide (C.getD i 0))) := by rw [xD]; rfl
theorem pickD_num {p i : Nat} {C : List Nat} (h : ShR p C) (hi : i < p) : Num .f32 (C.getD i 0) ∧ Num .f64 (wide (C.getD i 0)) ∧ Num .f64 (fop .sub .f64 4607182418800017408 (wide (C.getD i 0))) := by
  obtain ⟨a, b⟩ := pickD_near h hi
  exact ⟨(h i hi).1, a.1, b.1⟩
theorem xD_zero (s : Nat) (C : List Nat) : xD s C 0 = 4607182418800017408 := by rw [xD]; rfl
set_option maxRecDepth 100000 in
set_option maxHeartbeats 16000000 in
theorem trRound : treesA.a := by
  intro w
  dsimp only
  intro a1 c1 xs a2 c2 ys x P hPw hP1 hP5 w2 gt ct gs HT hg20 w3 gc cc w4 gc' cc' LC w5 w6 w7 gC cC C rC HC HCL rT rL N HFB HAN HLL h32 HN ia2 ia3 wr u4 u14 u15 u16 u17 u18 u19 u77 u78 u79 u80 u81 u82 u83 u84 u85 u86 u87 u88 u89 u90 u91 u92 u93 u94 u95 u96 u97 u98 u99 u100 u101 u102 u103 u104 u105 u106 u107 u108 u109 u110 u111 u112 u113 u114 u115 u116 u117 u118 u119 u120 u121 u122 u123 u124 u125 u126 u127 u128 u129 u130 u131 u132 u133 u134 u135 u136 u137 u138 u139 u140 u141 u142 u143 u144 u145 u146 s hs Z hlt hsi
  have wa : (Try.prog.underlying 31).isSome = true := by kernel_rfl
  have wb : (Try.prog.underlying 38).isSome = true := by kernel_rfl
  have hNw : IntKind.i64.wrap ((2 : Int) ^ P) = (N : Int) := by
    have e : (2 : Int) ^ P = (N : Int) := by rw [HN.out, Int.natCast_pow]; rfl
    rw [e]; exact IntWalk.i64_in _ (by omega)
  have hP63 : (P : Int) < 64 := by omega
  obtain ⟨f1, f2⟩ := HFB.out s hlt
  have HFS := Lib.hid (HAN.out s hlt)
  have sh : ShR P C := HCL.out ▸ HC.out.shr
  have HS1 := Lib.hid (sD_succ (failN gs) C P s)
  have NS := Lib.hid (sD_near (f := failN gs) hP5 sh s (by rw [← HN.out]; exact hs)).1.1
  have NS1 := Lib.hid (sD_near (f := failN gs) hP5 sh (s + 1) (by rw [← HN.out]; exact hlt)).1.1
  have NX := Lib.hid (fun i (hi : i ≤ P) => (xD_near (s := s) sh i hi (by omega)).1)
  have NC := Lib.hid (fun i (hi : i < P) => pickD_num sh hi)
  have HKC : Hid (cn .f64 4607182418800017408 = 4607182418800017408) := oneD_near.1.cn
  have hs10 : s < 1024 := by omega
  have rT' := rT.ext Z
  have HFA := Lib.hid (implFailsBy_any (P : Int) (s : Int) _ gs wr rT' hg20)
  rw [f1, f2] at HFA
  obtain ⟨sq, HSQ⟩ : ∃ z, Hid (sD (failN gs) C P s = z) := ⟨_, rfl⟩
  obtain ⟨sn, HSN⟩ : ∃ z, Hid (sD (failN gs) C P (s + 1) = z) := ⟨_, rfl⟩
  rw [HSQ.out] at HS1 NS ⊢
  rw [HSN.out] at HS1 NS1
  generalize failN gs s = fB at *
  clear f1 f2 HSQ HFB HAN HT sh rT' rT
  have hlm : LC.length ≤ maxLen := by
    obtain ⟨-, _, cp, -, h3, h4, -⟩ := rL
    rw [ups_len] at h3
    exact Nat.le_trans h3 h4
  unfold maxLen at hlm
  go_wp2_with fail
  refine HFA.out.mono ?_
  rintro e w8 ⟨rfl, X2⟩
  replace rL := rL.ext (Z.trans X2)
  replace rC := rC.ext (Z.trans X2)
  replace Z := Z.trans X2
  clear X2 HFA hNw hP63
  go_wp2_with fail
  go_loopw [92, 16] (fun iv bv wq => ∃ k : Nat, k ≤ LC.length ∧ iv = .int .i64 k ∧ bv = .bool ((LC.take k).any (fun c => hasB s c)) ∧ Ext w8 wq) (fun iv _ _ => LC.length - (intOf iv).toNat)
  case atStart => exact ⟨0, Nat.zero_le _, rfl, rfl, Ext.refl _⟩
  case round =>
    obtain ⟨k, hk, rfl, rfl, Y⟩ := hrel
    by_cases hkl : k < LC.length
    · have hki : (k : Int) < (LC.length : Int) := by omega
      have HNX : Hid ((LC.take (k + 1)).any (fun c => hasB s c) = ((LC.take k).any (fun c => hasB s c) || hasB s LC[k])) := by
        show _ = _
        rw [List.take_succ_eq_append_getElem hkl, List.any_append]
        simp
      obtain ⟨b1, o1, e1, hb1, hc1⟩ := RdN_at (rL.ext Y) hkl
      cases e1
      rw [Nat.zero_add] at hc1
      have hc32 := HLL.out _ (List.getElem_mem hkl)
      generalize LC[k] = c at *
      generalize (LC.take k).any (fun c => hasB s c) = rb at *
      cases rb
      · have hand : bits .and .i64 (c : Int) (s : Int) = ((c &&& s : Nat) : Int) := bits_and c s (by omega) (by omega)
        cases hh : hasB s c
        · have hne : ¬ ((c &&& s : Nat) : Int) = (c : Int) := fun e => by
            have e' : c &&& s = c := by exact_mod_cast e
            have : hasB s c = true := by unfold hasB; rw [e']; exact beq_self_eq_true c
            rw [hh] at this; cases this
          generalize c &&& s = d at *
          go_wp2_with fail
          refine wp_region_rel 15 (fun _ _ => True) (fun _ _ _ => True) (by kernel_rfl) (by kernel_rfl) (by kernel_rfl) ?_
          dsimp only [List.take, List.drop, List.length]
          refine LX_det (.bool false) (by kernel_rfl) rfl (fun w' hx _ => ?_) ?_
          · go_simp
          refine LX_det (.bool false) (by kernel_rfl) rfl (fun w' hx _ => ?_) ?_
          · go_simp
          refine LX_det (.slice (some ⟨gc, 0, none⟩) LC.length cc) (by kernel_rfl) rfl (fun w' hx _ => ?_) ?_
          · go_simp
          refine LX_det (.int .i64 k) (by kernel_rfl) rfl (fun w' hx _ => ?_) ?_
          · go_simp
          refine LX_det (.pointer (some ⟨gc, k, none⟩)) (by kernel_rfl) rfl (fun w' hx _ => ?_) ?_
          · go_simp
          refine LX_det (.int .i64 c) (by kernel_rfl) rfl (fun w' hx _ => ?_) ?_
          · have m0 := (Below.cell hx (p := ⟨gc, k, none⟩) hb1).trans hc1
            go_simp
          refine LX_det (.int .i64 s) (by kernel_rfl) rfl (fun w' hx _ => ?_) ?_
          · go_simp
          refine LX_det (.int .i64 d) (by kernel_rfl) rfl (fun w' hx _ => ?_) ?_
          · go_simp
          refine LX_det (.slice (some ⟨gc, 0, none⟩) LC.length cc) (by kernel_rfl) rfl (fun w' hx _ => ?_) ?_
          · go_simp
          refine LX_det (.int .i64 k) (by kernel_rfl) rfl (fun w' hx _ => ?_) ?_
          · go_simp
          refine LX_det (.pointer (some ⟨gc, k, none⟩)) (by kernel_rfl) rfl (fun w' hx _ => ?_) ?_
          · go_simp
          refine LX_det (.int .i64 c) (by kernel_rfl) rfl (fun w' hx _ => ?_) ?_
          · have m0 := (Below.cell hx (p := ⟨gc, k, none⟩) hb1).trans hc1
            go_simp
          refine LX_det (.bool false) (by kernel_rfl) rfl (fun w' hx _ => ?_) ?_
          · go_simp
          refine LX_det (.bool false) (by kernel_rfl) rfl (fun w' hx _ => ?_) ?_
          · go_simp
          refine LX_det (.bool false) (by kernel_rfl) rfl (fun w' hx _ => ?_) ?_
          · go_simp
          refine LX_nil fun w10 hx _ => ?_
          refine wpList_nil ?_
          simp only [Act.put, List.setIfInBounds_toArray, List.set_cons_succ, List.set_cons_zero]
          go_wp2_with fail
          go_roundw
          case rel => exact ⟨k + 1, by omega, by go_num, by rw [HNX.out, hh]; rfl, Y.trans hx⟩
          case measure => simp [intOf]; omega
        · have he : c &&& s = c := by unfold hasB at hh; exact eq_of_beq hh
          rw [he] at hand
          clear he
          go_wp2_with fail
          refine wp_region_rel 15 (fun _ _ => True) (fun _ _ _ => True) (by kernel_rfl) (by kernel_rfl) (by kernel_rfl) ?_
          dsimp only [List.take, List.drop, List.length]
          refine LX_det (.bool false) (by kernel_rfl) rfl (fun w' hx _ => ?_) ?_
          · go_simp
          refine LX_det (.bool false) (by kernel_rfl) rfl (fun w' hx _ => ?_) ?_
          · go_simp
          refine LX_det (.slice (some ⟨gc, 0, none⟩) LC.length cc) (by kernel_rfl) rfl (fun w' hx _ => ?_) ?_
          · go_simp
          refine LX_det (.int .i64 k) (by kernel_rfl) rfl (fun w' hx _ => ?_) ?_
          · go_simp
          refine LX_det (.pointer (some ⟨gc, k, none⟩)) (by kernel_rfl) rfl (fun w' hx _ => ?_) ?_
          · go_simp
          refine LX_det (.int .i64 c) (by kernel_rfl) rfl (fun w' hx _ => ?_) ?_
          · have m0 := (Below.cell hx (p := ⟨gc, k, none⟩) hb1).trans hc1
            go_simp
          refine LX_det (.int .i64 s) (by kernel_rfl) rfl (fun w' hx _ => ?_) ?_
          · go_simp
          refine LX_det (.int .i64 c) (by kernel_rfl) rfl (fun w' hx _ => ?_) ?_
          · go_simp
          refine LX_det (.slice (some ⟨gc, 0, none⟩) LC.length cc) (by kernel_rfl) rfl (fun w' hx _ => ?_) ?_
          · go_simp
          refine LX_det (.int .i64 k) (by kernel_rfl) rfl (fun w' hx _ => ?_) ?_
          · go_simp
          refine LX_det (.pointer (some ⟨gc, k, none⟩)) (by kernel_rfl) rfl (fun w' hx _ => ?_) ?_
          · go_simp
          refine LX_det (.int .i64 c) (by kernel_rfl) rfl (fun w' hx _ => ?_) ?_
          · have m0 := (Below.cell hx (p := ⟨gc, k, none⟩) hb1).trans hc1
            go_simp
          refine LX_det (.bool true) (by kernel_rfl) rfl (fun w' hx _ => ?_) ?_
          · go_simp
          refine LX_det (.bool true) (by kernel_rfl) rfl (fun w' hx _ => ?_) ?_
          · go_simp
          refine LX_det (.bool true) (by kernel_rfl) rfl (fun w' hx _ => ?_) ?_
          · go_simp
          refine LX_nil fun w10 hx _ => ?_
          refine wpList_nil ?_
          simp only [Act.put, List.setIfInBounds_toArray, List.set_cons_succ, List.set_cons_zero]
          go_wp2_with fail
          go_roundw
          case rel => exact ⟨k + 1, by omega, by go_num, by rw [HNX.out, hh]; rfl, Y.trans hx⟩
          case measure => simp [intOf]; omega
      · go_wp2_with fail
        refine wp_region_rel 15 (fun _ _ => True) (fun _ _ _ => True) (by kernel_rfl) (by kernel_rfl) (by kernel_rfl) ?_
        dsimp only [List.take, List.drop, List.length]
        refine LX_det (.bool true) (by kernel_rfl) rfl (fun w' hx _ => ?_) ?_
        · go_simp
        refine LX_det (.bool true) (by kernel_rfl) rfl (fun w' hx _ => ?_) ?_
        · go_simp
        iterate 11 refine LX_skip (by kernel_rfl) ?_
        refine LX_det (.bool true) (by kernel_rfl) rfl (fun w' hx _ => ?_) ?_
        · go_simp
        refine LX_det (.bool true) (by kernel_rfl) rfl (fun w' hx _ => ?_) ?_
        · go_simp
        refine LX_nil fun w10 hx _ => ?_
        refine wpList_nil ?_
        simp only [Act.put, List.setIfInBounds_toArray, List.set_cons_succ, List.set_cons_zero]
        go_wp2_with fail
        go_roundw
        case rel => exact ⟨k + 1, by omega, by go_num, by rw [HNX.out]; rfl, Y.trans hx⟩
        case measure => simp [intOf]; omega
    · have hkn : k = LC.length := by omega
      rw [hkn, List.take_length, HFS.out]
      have hni : ¬ (LC.length : Int) < (LC.length : Int) := by omega
      replace rC := rC.ext Y
      replace Z := Z.trans Y
      clear hkn hkl hk Y rL HFS HLL
      have HNF : Hid (fB = false → sn = sq) := Lib.hid fun h => by have := HS1.out; rw [h, if_neg Bool.false_ne_true] at this; exact this
      have HNT : Hid (fB = true → sn = fop .add .f64 sq (xD s C P)) := Lib.hid fun h => by have := HS1.out; rw [h, if_pos rfl] at this; exact this
      cases fB
      case false =>
        have HN0 : Hid (sn = sq) := HNF.out (Eq.refl false)
        clear HNF HNT HS1
        go_wp2_with fail
        clear hni hlm
        obtain ⟨wo, rfl⟩ : ∃ wo : World, wo = wr := ⟨_, rfl⟩
        go_loopw [19, 18] (fun pv xv wq => ∃ p : Nat, p ≤ P ∧ pv = .int .i64 p ∧ xv = .float .f64 (xD s C p) ∧ Ext wo wq) (fun pv _ _ => P - (intOf pv).toNat)
        case atStart => exact ⟨0, Nat.zero_le _, rfl, by rw [xD_zero], Ext.refl _⟩
        case round =>
          obtain ⟨p, hp, rfl, rfl, Y⟩ := hrel
          by_cases hpP : p < P
          · have hpi : (p : Int) < (P : Int) := by omega
            have hj63 : (p : Int) < 64 := by omega
            have hba := bitC_and s p hs10
            have hsd0 : 0 ≤ (s : Int) / 2 ^ p := Int.ediv_nonneg (by omega) (Int.le_of_lt (Int.pow_pos (by decide)))
            obtain ⟨c0, cw1, cw2⟩ := NC.out p hpP
            have hpl : p < C.length := by rw [HCL.out]; exact hpP
            obtain ⟨b2, o2, e2, hb2, hc2⟩ := RdF.at (rC.ext Y) hpl
            cases e2
            have hcd : C[p] = C.getD p 0 := by rw [List.getD_eq_getElem?_getD, List.getElem?_eq_getElem hpl]; rfl
            rw [hcd, Nat.zero_add] at hc2
            have hxn := xD_succ s C p
            have N0 := Lib.hid (NX.out p hp)
            have N1 := Lib.hid (NX.out (p + 1) hpP)
            obtain ⟨xp, HXP⟩ : ∃ z, Hid (xD s C p = z) := ⟨_, rfl⟩
            obtain ⟨xn, HXQ⟩ : ∃ z, Hid (xD s C (p + 1) = z) := ⟨_, rfl⟩
            rw [HXP.out] at hxn N0 ⊢
            rw [HXQ.out] at hxn N1
            have HC0 := Lib.hid c0
            have HW1 := Lib.hid cw1
            have HW2 := Lib.hid cw2
            clear hcd hpl c0 cw1 cw2
            generalize C.getD p 0 = c at *
            obtain ⟨fd, HFD⟩ : ∃ z, Hid (fop .sub .f64 4607182418800017408 (wide c) = z) := ⟨_, rfl⟩
            rw [HFD.out] at HW2 hxn
            cases htb : s.testBit p
            · rw [htb, if_neg Bool.false_ne_true] at hxn hba
              have HXM := Lib.hid hxn
              clear hxn htb
              go_wp2_with ((try (simp only [Act.put, List.setIfInBounds_toArray, List.set_cons_succ, List.set_cons_zero])); first
                | (refine wpList_wide wa Try.underlying38 (by kernel_rfl) rfl rfl ?_; intro zb zn hzb hzl; clear hzl; rw [HC0.out.cn] at hzb; replace hzb := bits_of hzb (wide_val HC0.out).1.notN; subst hzb)
                | (refine wpList_fop (by kernel_rfl) rfl rfl rfl rfl ?_; intro b nb hb hl; clear hl; rw [HKC.out, HW1.out.cn, HFD.out] at hb; replace hb := bits_of hb HW2.out.notN; subst hb)
                | (refine wpList_fop (by kernel_rfl) rfl rfl rfl rfl ?_; intro b nb hb hl; clear hl; rw [N0.out.cn, HW2.out.cn, ← HXM.out] at hb; replace hb := bits_of hb N1.out.notN; subst hb))
              go_roundw
              case rel => exact ⟨p + 1, by omega, by go_num, by rw [HXQ.out], Y.trans (Ext.drewN _ _)⟩
              case measure => simp [intOf]; omega
            · rw [htb, if_pos rfl] at hxn hba
              have HXM := Lib.hid hxn
              clear hxn htb
              go_wp2_with ((try (simp only [Act.put, List.setIfInBounds_toArray, List.set_cons_succ, List.set_cons_zero])); first
                | (refine wpList_wide wa Try.underlying38 (by kernel_rfl) rfl rfl ?_; intro zb zn hzb hzl; clear hzl; rw [HC0.out.cn] at hzb; replace hzb := bits_of hzb (wide_val HC0.out).1.notN; subst hzb)
                | (refine wpList_fop (by kernel_rfl) rfl rfl rfl rfl ?_; intro b nb hb hl; clear hl; rw [N0.out.cn, HW1.out.cn, ← HXM.out] at hb; replace hb := bits_of hb N1.out.notN; subst hb)
                | fail)
              go_roundw
              case rel => exact ⟨p + 1, by omega, by go_num, by rw [HXQ.out], Y.trans (Ext.drewN _ _)⟩
              case measure => simp [intOf]; omega
          · have hpe : p = P := by omega
            have hpn : ¬ (p : Int) < (P : Int) := by omega
            rw [hpe] at hpn ⊢
            go_wp2_with fail
            go_roundw
            case rel => exact ⟨s + 1, by omega, by go_num, by rw [HSN.out, HN0.out], Z.trans Y⟩
            case measure => simp [intOf]; omega
      case true =>
        have HN0 : Hid (sn = fop .add .f64 sq (xD s C P)) := HNT.out (Eq.refl true)
        clear HNF HNT HS1
        go_wp2_with fail
        clear hni hlm
        obtain ⟨wo, rfl⟩ : ∃ wo : World, wo = wr := ⟨_, rfl⟩
        go_loopw [19, 18] (fun pv xv wq => ∃ p : Nat, p ≤ P ∧ pv = .int .i64 p ∧ xv = .float .f64 (xD s C p) ∧ Ext wo wq) (fun pv _ _ => P - (intOf pv).toNat)
        case atStart => exact ⟨0, Nat.zero_le _, rfl, by rw [xD_zero], Ext.refl _⟩
        case round =>
          obtain ⟨p, hp, rfl, rfl, Y⟩ := hrel
          by_cases hpP : p < P
          · have hpi : (p : Int) < (P : Int) := by omega
            have hj63 : (p : Int) < 64 := by omega
            have hba := bitC_and s p hs10
            have hsd0 : 0 ≤ (s : Int) / 2 ^ p := Int.ediv_nonneg (by omega) (Int.le_of_lt (Int.pow_pos (by decide)))
            obtain ⟨c0, cw1, cw2⟩ := NC.out p hpP
            have hpl : p < C.length := by rw [HCL.out]; exact hpP
            obtain ⟨b2, o2, e2, hb2, hc2⟩ := RdF.at (rC.ext Y) hpl
            cases e2
            have hcd : C[p] = C.getD p 0 := by rw [List.getD_eq_getElem?_getD, List.getElem?_eq_getElem hpl]; rfl
            rw [hcd, Nat.zero_add] at hc2
            have hxn := xD_succ s C p
            have N0 := Lib.hid (NX.out p hp)
            have N1 := Lib.hid (NX.out (p + 1) hpP)
            obtain ⟨xp, HXP⟩ : ∃ z, Hid (xD s C p = z) := ⟨_, rfl⟩
            obtain ⟨xn, HXQ⟩ : ∃ z, Hid (xD s C (p + 1) = z) := ⟨_, rfl⟩
            rw [HXP.out] at hxn N0 ⊢
            rw [HXQ.out] at hxn N1
            have HC0 := Lib.hid c0
            have HW1 := Lib.hid cw1
            have HW2 := Lib.hid cw2
            clear hcd hpl c0 cw1 cw2
            generalize C.getD p 0 = c at *
            obtain ⟨fd, HFD⟩ : ∃ z, Hid (fop .sub .f64 4607182418800017408 (wide c) = z) := ⟨_, rfl⟩
            rw [HFD.out] at HW2 hxn
            cases htb : s.testBit p
            · rw [htb, if_neg Bool.false_ne_true] at hxn hba
              have HXM := Lib.hid hxn
              clear hxn htb
              go_wp2_with ((try (simp only [Act.put, List.setIfInBounds_toArray, List.set_cons_succ, List.set_cons_zero])); first
                | (refine wpList_wide wa Try.underlying38 (by kernel_rfl) rfl rfl ?_; intro zb zn hzb hzl; clear hzl; rw [HC0.out.cn] at hzb; replace hzb := bits_of hzb (wide_val HC0.out).1.notN; subst hzb)
                | (refine wpList_fop (by kernel_rfl) rfl rfl rfl rfl ?_; intro b nb hb hl; clear hl; rw [HKC.out, HW1.out.cn, HFD.out] at hb; replace hb := bits_of hb HW2.out.notN; subst hb)
                | (refine wpList_fop (by kernel_rfl) rfl rfl rfl rfl ?_; intro b nb hb hl; clear hl; rw [N0.out.cn, HW2.out.cn, ← HXM.out] at hb; replace hb := bits_of hb N1.out.notN; subst hb))
              go_roundw
              case rel => exact ⟨p + 1, by omega, by go_num, by rw [HXQ.out], Y.trans (Ext.drewN _ _)⟩
              case measure => simp [intOf]; omega
            · rw [htb, if_pos rfl] at hxn hba
              have HXM := Lib.hid hxn
              clear hxn htb
              go_wp2_with ((try (simp only [Act.put, List.setIfInBounds_toArray, List.set_cons_succ, List.set_cons_zero])); first
                | (refine wpList_wide wa Try.underlying38 (by kernel_rfl) rfl rfl ?_; intro zb zn hzb hzl; clear hzl; rw [HC0.out.cn] at hzb; replace hzb := bits_of hzb (wide_val HC0.out).1.notN; subst hzb)
                | (refine wpList_fop (by kernel_rfl) rfl rfl rfl rfl ?_; intro b nb hb hl; clear hl; rw [N0.out.cn, HW1.out.cn, ← HXM.out] at hb; replace hb := bits_of hb N1.out.notN; subst hb)
                | fail)
              go_roundw
              case rel => exact ⟨p + 1, by omega, by go_num, by rw [HXQ.out], Y.trans (Ext.drewN _ _)⟩
              case measure => simp [intOf]; omega
          · have hpe : p = P := by omega
            have hpn : ¬ (p : Int) < (P : Int) := by omega
            rw [hpe] at hpn ⊢
            have N2 := Lib.hid (NX.out P (Nat.le_refl P))
            obtain ⟨xp, HXP⟩ : ∃ z, Hid (xD s C P = z) := ⟨_, rfl⟩
            rw [HXP.out] at HN0 N2 ⊢
            go_wp2_with ((try (simp only [Act.put, List.setIfInBounds_toArray, List.set_cons_succ, List.set_cons_zero])); first
              | (refine wpList_fop (by kernel_rfl) rfl rfl rfl rfl ?_; intro b nb hb hl; clear hl; rw [NS.out.cn, N2.out.cn, ← HN0.out] at hb; replace hb := bits_of hb NS1.out.notN; subst hb)
              | fail)
            go_roundw
            case rel => exact ⟨s + 1, by omega, by go_num, by rw [HSN.out], Z.trans (Y.trans (Ext.drewN _ _))⟩
            case measure => simp [intOf]; omega
end Go.Proofs.Ytgmdoboeenpjpaa
