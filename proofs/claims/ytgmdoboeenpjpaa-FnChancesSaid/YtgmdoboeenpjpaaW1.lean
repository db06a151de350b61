
/- FnChances returns true for every input and changes nothing that was there. No condition. -/
import Derived.Test.YtgmdoboeenpjpaaRows
import Derived.Test.YtgmdoboeenpjpaaV3
namespace Go.Proofs.Ytgmdoboeenpjpaa
open Go Go.RowKit Go.ChangeShapes Go.WideShapes Go.ChangeAt

attribute [local irreducible] LX tw pop cntL
attribute [local go_sem] run_store_float
/-- What is left to prove, as it stands. -/
structure Kept (R : Prop) : Prop where
  out : R
/-- What is left, in two parts. -/
structure Kept2 (G : Prop) where
  a : Prop
  b : Prop
  out : Kept a → Kept b → G
set_option maxRecDepth 100000 in
set_option maxHeartbeats 16000000 in
def chancesA : Kept2 (∀ (v1 v2 : Value) (w : World), ArgBytes w v1 → ArgBytes w v2 →
    Calls Try.prog 3 #[v1, v2] w fun e w' => e = .returned (.bool true) ∧ Ext w w') := by
  apply Kept2.mk
  case out =>
  intro hrest1 hrest2 v1 v2 w h1 h2
  obtain ⟨a1, l1, c1, xs, rfl, r1⟩ := h1
  obtain ⟨a2, l2, c2, ys, rfl, r2⟩ := h2
  have hl1 : l1 = xs.length := by obtain ⟨⟨_, _, _, e, _⟩, _⟩ := r1; cases e; rfl
  have hl2 : l2 = ys.length := by obtain ⟨⟨_, _, _, e, _⟩, _⟩ := r2; cases e; rfl
  subst hl1 hl2
  by_cases hlong : 1048576 < xs.length ∨ 1048576 < ys.length
  · have HL := Lib.hid (b10Long_any _ _ xs ys w r1 r2)
    rw [decide_eq_true hlong] at HL
    clear hlong
    go_enter Try.func3, Try.ntmps3
    go_wp2_with fail
    refine HL.out.mono ?_
    rintro e w1 ⟨rfl, rfl⟩
    go_wp2_with fail
    go_ret
    exact ⟨rfl, Ext.refl _⟩
  · have HL := Lib.hid (b10Long_any _ _ xs ys w r1 r2)
    rw [decide_eq_false hlong] at HL
    have hx20 : xs.length ≤ 1048576 := by omega
    have hy20 : ys.length ≤ 1048576 := by omega
    clear hlong
    have wa : (Try.prog.underlying 31).isSome = true := by kernel_rfl
    have wb : (Try.prog.underlying 38).isSome = true := by kernel_rfl
    go_enter Try.func3, Try.ntmps3
    go_wp2_with fail
    refine HL.out.mono ?_
    rintro e w1 ⟨rfl, rfl⟩
    go_wp2_with fail
    refine (b10At_any _ ys 0 5 w r2 (by decide) (by decide) (by decide)).mono ?_
    rintro e w1 ⟨x, hx5, rfl, rfl⟩
    obtain ⟨P, hP⟩ : ∃ P, P = x + 1 := ⟨_, rfl⟩
    have hPw : IntKind.i64.wrap (1 + (x : Int)) = (P : Int) := by rw [show 1 + (x : Int) = (P : Int) by omega]; exact wrap_nat _ (by omega)
    have hP1 : 1 ≤ P := by omega
    have hP5 : P ≤ 5 := by omega
    clear hP hx5
    go_wp2_with fail
    refine (b10System_any P _ xs w r1 hx20 hP1 hP5).mono ?_
    rintro e w2 ⟨g, cap, ns, rfl, X, own, hsys⟩
    have bx : Bx (w2.alloc (.cells #[.int .i64 P, .slice (some ⟨g, 0, none⟩) ns.length cap] 27)) w2.heap.size [.int .i64 P, .slice (some ⟨g, 0, none⟩) ns.length cap] := Bx.new _ _ _
    have rz := own.rd.ext (Ext.alloc w2 (.cells #[.int .i64 P, .slice (some ⟨g, 0, none⟩) ns.length cap] 27))
    replace X := X.trans (Ext.alloc w2 (.cells #[.int .i64 P, .slice (some ⟨g, 0, none⟩) ns.length cap] 27))
    have HSYS := Lib.hid hsys
    clear own hsys HL
    obtain ⟨k0, k1⟩ := bx.two
    have hblk := bx.1
    go_wp2_with fail
    generalize hWW : w2.alloc (.cells #[.int .i64 P, .slice (some ⟨g, 0, none⟩) ns.length cap] 27) = W3 at *
    clear hWW
    refine (b10Shares_any P _ ys W3 (r2.ext X) hy20 (by omega)).mono ?_
    rintro e w3 ⟨gc, cc, C, rfl, hCl, X2, ownC, hC⟩
    have rc : RdF w3 (.slice (some ⟨gc, 0, none⟩) C.length cc) C := ⟨own_rd ownC, hC.lt⟩
    rw [hCl] at rc ⊢
    have HC := Lib.hid hC
    have HG := Lib.hid (ch_good HSYS.out hP5 hC hCl)
    have C1 := Lib.hid (chanceOf_val HSYS.out hP5 hC hCl)
    have C2 := Lib.hid (chanceBounds_val HSYS.out hP5 hC hCl)
    have C3 := Lib.hid (partChances_val HSYS.out hP5 hC hCl)
    replace bx := bx.ext X2
    replace rz := rz.ext X2
    replace X := X.trans X2
    have HCL := Lib.hid hCl
    clear ownC hC hCl X2 k0 k1 hblk
    obtain ⟨k0, k1⟩ := bx.two
    have hblk := bx.1
    go_wp2_with fail
    refine (C1.out _ _ _ rz rc).mono ?_
    rintro e w4 ⟨rfl, X2⟩
    replace bx := bx.ext X2
    replace rz := rz.ext X2
    replace rc := rc.ext X2
    replace X := X.trans X2
    clear X2 k0 k1 hblk
    obtain ⟨k0, k1⟩ := bx.two
    have hblk := bx.1
    go_wp2_with fail
    refine (C2.out _ _ _ rz rc).mono ?_
    rintro e w5 ⟨rfl, X2⟩
    replace bx := bx.ext X2
    replace rz := rz.ext X2
    replace rc := rc.ext X2
    replace X := X.trans X2
    clear X2 k0 k1 hblk
    obtain ⟨k0, k1⟩ := bx.two
    have hblk := bx.1
    go_wp2_with fail
    refine (C3.out _ _ _ rz rc).mono ?_
    rintro e w6 ⟨gd, cd, rfl, X2, rd⟩
    rw [pcL_len] at rd ⊢
    replace bx := bx.ext X2
    replace rz := rz.ext X2
    replace rc := rc.ext X2
    replace X := X.trans X2
    clear X2 k0 k1 hblk C1 C2 C3
    -- the comparisons of the bounds
    obtain ⟨nx, nl, nh, nL, q1, nH, q2⟩ := HG.out.cmp
    have HXC : Hid (cn .f32 (chS P ns C) = chS P ns C) := nx.cn
    have HLC : Hid (cn .f32 (bdK negF P C (cutsS P ns)) = bdK negF P C (cutsS P ns)) := nl.cn
    have HHC : Hid (cn .f32 (fop .sub .f32 oneF (bdK id P C ns)) = fop .sub .f32 oneF (bdK id P C ns)) := nh.cn
    have HXW := Lib.hid (wide_val nx).1
    have HLW := Lib.hid (wide_val nl).1
    have HHW := Lib.hid (wide_val nh).1
    have HKC : Hid (cn .f64 4562254508917369340 = 4562254508917369340) := k001_val.1.cn
    have HNL := Lib.hid nL
    have HNH := Lib.hid nH
    clear nx nl nh nL nH
    replace q1 : fcmp .lss .f64 (cn .f64 (wide (chS P ns C))) (cn .f64 (fop .sub .f64 (wide (bdK negF P C (cutsS P ns))) 4562254508917369340)) = false := q1
    replace q2 : fcmp .gtr .f64 (cn .f64 (wide (chS P ns C))) (cn .f64 (fop .add .f64 (wide (fop .sub .f32 oneF (bdK id P C ns))) 4562254508917369340)) = false := q2
    generalize bdK negF P C (cutsS P ns) = lo at *
    generalize fop .sub .f32 oneF (bdK id P C ns) = hi at *
    go_wp2_with (first
      | (refine wpList_wide wa Try.underlying38 rfl rfl rfl ?_; intro zb zn hzb hzl; clear hzl; rw [HXC.out] at hzb; replace hzb := bits_of hzb HXW.out.notN; subst hzb)
      | (refine wpList_wide wa Try.underlying38 rfl rfl rfl ?_; intro zb zn hzb hzl; clear hzl; rw [HLC.out] at hzb; replace hzb := bits_of hzb HLW.out.notN; subst hzb)
      | (refine wpList_wide wa Try.underlying38 rfl rfl rfl ?_; intro zb zn hzb hzl; clear hzl; rw [HHC.out] at hzb; replace hzb := bits_of hzb HHW.out.notN; subst hzb)
      | (refine wpList_fop rfl rfl rfl rfl rfl ?_; intro b nb hb hl; rw [HLW.out.cn, HKC.out] at hb; replace hb := bits_of hb HNL.out.notN; subst hb; clear hl)
      | (refine wpList_fop rfl rfl rfl rfl rfl ?_; intro b nb hb hl; rw [HHW.out.cn, HKC.out] at hb; replace hb := bits_of hb HNH.out.notN; subst hb; clear hl)
      | (refine wpList_fcmp rfl rfl rfl rfl rfl (by first | with_reducible assumption | exact rfl) ?_))
    clear q1 q2 HLC HHC HLW HHW HNL HNH
    have C4 := Lib.hid (fun k => chanceOf_val (C := C.set k 0) HSYS.out hP5 (HC.out.set k zero_sh) (by rw [List.length_set]; exact HCL.out))
    go_loopw [101] (fun i wq => ∃ k : Nat, k ≤ P ∧ i = .int .i64 k ∧ Ext w6 wq) (fun i _ => P - (intOf i).toNat)
    case atStart => exact ⟨0, Nat.zero_le _, rfl, Ext.drewN _ _⟩
    case round =>
      obtain ⟨k, hk, rfl, Z⟩ := hrel
      by_cases hlt : k < P
      · have hki : (k : Int) < (P : Int) := by omega
        have h0 : 0 < C.length := by rw [HCL.out]; omega
        have hkc : k < C.length := by rw [HCL.out]; exact hlt
        have hkci : (k : Int) < (C.length : Int) := by omega
        obtain ⟨ny, nd, nc, q1, nM, nA, hgap⟩ := HG.out.cmpPart hlt
        have HYN := Lib.hid ny
        have HDN := Lib.hid nd
        have HCN := Lib.hid nc
        have HQ1 := Lib.hid q1
        have HMN := Lib.hid nM
        have HAN := Lib.hid nA
        have HGP := Lib.hid hgap
        clear ny nd nc q1 nM nA hgap
        have rcK := rc.ext Z
        have hbl := bx.1
        go_wp2_with (at_builtin; refine wpList_copyZ infoF32 rfl (by decide) Try.underlying29 rfl rfl rfl (World.ownsRow_lit (base := wr.heap.size) (e := 31) (size := 1) wr #[] 0 (Nat.le_refl _) (by decide) rfl) rfl (rcK.1.alloc _) h0 (floatsZ_one C) (by have := HCL.out; omega) (by decide) (by simp) ?_; intro g2 cap2 w7 hg2 own2 hgr2; have Z7 : Ext w6 w7 := Z.trans ((below_alloc wr _).grown hgr2 (by simp) (fun k hk => by cases hk; exact Nat.le_refl _)); have hgt := own2.lt g2 rfl; have hcc := own2.cellAt k (by have := HCL.out; omega); rw [List.getElem?_map, List.getElem?_eq_getElem (by have := HCL.out; omega)] at hcc; simp only [Option.map_some] at hcc; have hff := own2.frozenAt k; have hst := (own2.stored k (.float .f32 0)).1; rw [← List.map_set] at hst; obtain ⟨k0, k1⟩ := (bx.ext Z7).two; have hne1 : ¬ g2 = w2.heap.size := (by have := hgt.1; have := Z.size; omega); have hne2 : ¬ w2.heap.size = g2 := (fun e => hne1 e.symm); have HST := Lib.hid hst; have HZ7 : Hid (Ext w6 (w7.setCell ⟨g2, k, none⟩ (.float .f32 0))) := Z7.setCell (Nat.le_trans Z.size hgt.1) _; clear hst; try (generalize C[k]'(by have := HCL.out; omega) = y at *))
        have R3 : RdF (w7.setCell ⟨g2, k, none⟩ (.float .f32 0)) (.slice (some ⟨g2, 0, none⟩) C.length cap2) (C.set k 0) := ⟨by rw [List.length_set]; exact own_rd HST.out, (HC.out.set k zero_sh).lt⟩
        generalize hW8 : World.setCell w7 _ _ = w8 at *
        clear hW8 k0 k1 hcc hff own2 hgr2 hgt hg2
        have RZ8 := rz.ext HZ7.out
        refine (C4.out k _ _ _ RZ8 R3).mono ?_
        rintro e w9 ⟨rfl, X9⟩
        have Z9 : Ext w6 w9 := HZ7.out.trans X9
        obtain ⟨bd1, od1, ed1, hpd, cd1⟩ := (rd.ext Z9).at (k := k) (by rw [pcL_len]; exact hlt)
        cases ed1
        obtain ⟨bc1, oc1, ec1, hpc, cc1⟩ := (rc.ext Z9).at (k := k) hkc
        cases ec1
        rw [Nat.zero_add] at cd1 cc1
        have hpk : (pcL P ns C P)[k]'(by rw [pcL_len]; exact hlt) = fop .sub .f32 (chS P ns (C.set k 1065353216)) (chS P ns (C.set k 0)) := by
          have h := ch_pk (ns := ns) HC.out hlt
          rw [List.getElem?_eq_getElem (by rw [pcL_len]; exact hlt)] at h
          exact Option.some.inj h
        have hck : C[k] = C.getD k 0 := by rw [List.getD_eq_getElem?_getD, List.getElem?_eq_getElem hkc]; rfl
        rw [hpk] at cd1
        rw [hck] at cc1
        clear hpk hck
        have hk5 : k < 5 := by omega
        clear r1 r2 hx20 hy20 rz rcK RZ8 R3 HST HZ7 X9 C4 HG HC HSYS bx X hPw hP1 hP5 h0 hkc hkci hki rc rd
        clear wa wb
        rename_i ia1 ia2 ia3 ia4 ia5 ia6 ia7 ia8 ia9 ia10 ia11 ia12 ia13 ia14
        revert w a1 c1 xs a2 c2 ys ia1 x P w2 g cap ns W3 w3 gc cc C HCL w4 w5 w6 gd cd HXC HXW HKC lo hi ia2 ia3 ia4 ia5 zn nb ia6 ia7 wr u4 u15 u16 u17 u18 u102 u103 u104 u105 u106 u107 u108 u109 u110 u111 u112 u113 u114 u115 u116 u117 u118 u119 u120 u121 u122 u123 u124 u125 u126 u127 u128 u129 u130 u131 u132 u133 u134 u135 u136 u137 u138 u139 u140 u141 u142 u143 u144 u145 k hk Z hlt HYN HDN HCN HQ1 HMN HAN HGP hbl ia8 ia9 ia10 g2 cap2 w7 Z7 hne1 hne2 y ia11 ia12 ia13 ia14 w8 w9 Z9 hpd cd1 hpc cc1 hk5
        exact hrest1.out
      · have hkP : k = P := by omega
        subst hkP
        clear wa wb
        rename_i ia1 ia2 ia3 ia4 ia5 ia6 ia7
        revert w a1 c1 xs a2 c2 ys r1 r2 hx20 hy20 ia1 x w2 g cap ns W3 w3 gc cc C HC w4 w5 w6 gd cd rz X HKC lo hi ia2 ia3 ia4 ia5 zn nb ia6 ia7 wr u4 u15 u16 u17 u18 u102 u103 u104 u105 u106 u107 u108 u109 u110 u111 u112 u113 u114 u115 u116 u117 u118 u119 u120 u121 u122 u123 u124 u125 u126 u127 u128 u129 u130 u131 u132 u133 u134 u135 u136 u137 u138 u139 u140 u141 u142 u143 u144 u145 k Z hPw hP1 hP5 HSYS HG HCL rd bx rc HXC HXW C4 hk hlt
        exact hrest2.out
end Go.Proofs.Ytgmdoboeenpjpaa
