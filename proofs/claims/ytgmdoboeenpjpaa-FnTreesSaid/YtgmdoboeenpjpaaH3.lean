
/- FnTrees: to its loop over all sets, and behind it to the systems. No condition. -/
import Derived.Test.YtgmdoboeenpjpaaRows
import Derived.Test.YtgmdoboeenpjpaaH1
import Derived.Test.YtgmdoboeenpjpaaH2
namespace Go.Proofs.Ytgmdoboeenpjpaa
open Go Go.RowKit Go.ChangeShapes Go.WideShapes Go.ChangeAt

attribute [local irreducible] LX tw pop xD sD lowL failN
attribute [local go_sem] run_store_float
/-- What is left to prove, as it stands. -/
structure KeptT (R : Prop) : Prop where
  out : R
/-- What is left, in three parts. -/
structure Kept3T (G : Prop) where
  a : Prop
  b : Prop
  c : Prop
  out : KeptT a → KeptT b → KeptT c → G
set_option maxRecDepth 100000 in
set_option maxHeartbeats 64000000 in
def treesA : Kept3T (∀ (v1 v2 : Value) (w : World), ArgBytes w v1 → ArgBytes w v2 →
    Calls Try.prog 5 #[v1, v2] w fun e w' => e = .returned (.bool true) ∧ Ext w w') := by
  apply Kept3T.mk
  case out =>
  intro hrest1 hrest2 hrest3 v1 v2 w h1 h2
  obtain ⟨a1, l1, c1, xs, rfl, r1⟩ := h1
  obtain ⟨a2, l2, c2, ys, rfl, r2⟩ := h2
  have hl1 : l1 = xs.length := by obtain ⟨⟨_, _, _, e, _⟩, _⟩ := r1; cases e; rfl
  have hl2 : l2 = ys.length := by obtain ⟨⟨_, _, _, e, _⟩, _⟩ := r2; cases e; rfl
  subst hl1 hl2
  by_cases hlong : 1048576 < xs.length ∨ 1048576 < ys.length
  · have HL := Lib.hid (b10Long_any _ _ xs ys w r1 r2)
    rw [decide_eq_true hlong] at HL
    clear hlong
    go_enter Try.func5, Try.ntmps5
    go_wp2_with fail
    refine HL.out.mono ?_
    rintro e w1 ⟨rfl, rfl⟩
    go_wp2_with fail
    go_ret
    exact ⟨rfl, Ext.refl _⟩
  · have HL := Lib.hid (b10Long_any _ _ xs ys w r1 r2)
    rw [decide_eq_false hlong] at HL
    have hx20 : xs.length ≤ 1048576 := by omega
    have hy20 : ys.length ≤ 1048576 := by omega
    clear hlong
    have wa : (Try.prog.underlying 31).isSome = true := by kernel_rfl
    have wb : (Try.prog.underlying 38).isSome = true := by kernel_rfl
    go_enter Try.func5, Try.ntmps5
    go_wp2_with fail
    refine HL.out.mono ?_
    rintro e w1 ⟨rfl, rfl⟩
    clear HL
    go_wp2_with fail
    refine (b10At_any _ ys 0 5 w r2 (by decide) (by decide) (by decide)).mono ?_
    rintro e w1 ⟨x, hx5, rfl, rfl⟩
    obtain ⟨P, hP⟩ : ∃ P, P = x + 1 := ⟨_, rfl⟩
    have hPw : IntKind.i64.wrap (1 + (x : Int)) = (P : Int) := by rw [show 1 + (x : Int) = (P : Int) by omega]; exact wrap_nat _ (by omega)
    have hP1 : 1 ≤ P := by omega
    have hP5 : P ≤ 5 := by omega
    clear hP hx5
    go_wp2_with fail
    refine (b10Tree_any P _ xs w r1 hx20 hP1 hP5).mono ?_
    rintro e w2 ⟨gt, ct, gs, rfl, X, rT, ht, hg4⟩
    have HT := Lib.hid ht
    have hg20 : gs.length ≤ 1048576 := by omega
    clear ht hg4
    go_wp2_with fail
    refine (implTreeCuts_any _ _ gs w2 rT hg20).mono ?_
    intro e w3 h3
    obtain ⟨gc, cc, rfl, X2, rL⟩ := tr_zl h3 (tr_tc HT.out)
    replace rT := rT.ext X2
    replace X := X.trans X2
    clear X2
    clear h3
    go_wp2_with fail
    refine (specTreeCuts_any _ _ gs w3 rT hg20).mono ?_
    intro e w4 h4
    obtain ⟨gc', cc', rfl, X2, rL'⟩ := tr_zl h4 (tr_tc HT.out)
    replace rT := rT.ext X2
    replace rL := rL.ext X2
    replace X := X.trans X2
    clear X2
    clear h4
    have HLL := Lib.hid (fun c (h : c ∈ lowL P (failN gs)) => tr_cut h)
    have HAN := Lib.hid (fun s (hs : s < 2 ^ P) => tr_any (gs := gs) hP5 hs)
    have HFB := Lib.hid (fun s (hs : s < 2 ^ P) => tr_fb HT.out hs)
    rw [ups_len] at rL rL' ⊢
    generalize lowL P (failN gs) = LC at *
    go_wp2_with (first | (go_at_call 33; refine (implValidTree_eq HT.out _ rT hg20).mono ?_; rintro e w5 ⟨rfl, X5⟩))
    refine (b10Ints_any _ _ (ups LC) (ups LC) _ (RdI.ext rL X5) (RdI.ext rL' X5)).mono ?_
    rintro e w6 ⟨rfl, X2⟩
    rw [decide_eq_true rfl]
    replace X2 := Ext.trans X5 X2
    replace rT := rT.ext X2
    replace rL := rL.ext X2
    replace X := X.trans X2
    clear X2
    clear rL' X5
    go_wp2_with fail
    refine (b10Shares_any P _ ys w6 (r2.ext X) hy20 (by omega)).mono ?_
    rintro e w7 ⟨gC, cC, C, rfl, hCl, X2, ownC, hC⟩
    have rC : RdF w7 (.slice (some ⟨gC, 0, none⟩) C.length cC) C := ⟨own_rd ownC, hC.lt⟩
    rw [hCl] at rC ⊢
    have HC := Lib.hid hC
    have HCL := Lib.hid hCl
    replace rT := rT.ext X2
    replace rL := rL.ext X2
    replace X := X.trans X2
    clear X2
    clear ownC hC hCl
    obtain ⟨N, hN⟩ : ∃ N, N = 2 ^ P := ⟨_, rfl⟩
    have h32 : N ≤ 32 := by rw [hN]; exact two5 hP5
    have hNw : IntKind.i64.wrap ((2 : Int) ^ P) = (N : Int) := by
      have e : (2 : Int) ^ P = (N : Int) := by rw [hN, Int.natCast_pow]; rfl
      rw [e]; exact IntWalk.i64_in _ (by omega)
    have HN := Lib.hid hN
    have hP63 : (P : Int) < 64 := by omega
    rw [← hN] at HLL HAN HFB
    clear hN
    go_wp2_with fail
    go_loopw [13, 12] (fun iv sv wq => ∃ s : Nat, s ≤ N ∧ iv = .int .i64 s ∧ sv = .float .f64 (sD (failN gs) C P s) ∧ Ext w7 wq) (fun iv _ _ => N - (intOf iv).toNat)
    case atStart => exact ⟨0, Nat.zero_le _, rfl, by unfold sD; rfl, Ext.refl _⟩
    case round =>
      obtain ⟨s, hs, rfl, rfl, Z⟩ := hrel
      by_cases hlt : s < N
      · have hsi : (s : Int) < (N : Int) := by omega
        clear hrest2 hrest3 hx20 hy20 r1 r2 X hP63
        clear wa wb hNw
        rename_i ia1 ia2 ia3
        revert w a1 c1 xs a2 c2 ys ia1 x P hPw hP1 hP5 w2 gt ct gs HT hg20 w3 gc cc w4 gc' cc' LC w5 w6 w7 gC cC C rC HC HCL rT rL N HFB HAN HLL h32 HN ia2 ia3 wr u4 u14 u15 u16 u17 u18 u19 u77 u78 u79 u80 u81 u82 u83 u84 u85 u86 u87 u88 u89 u90 u91 u92 u93 u94 u95 u96 u97 u98 u99 u100 u101 u102 u103 u104 u105 u106 u107 u108 u109 u110 u111 u112 u113 u114 u115 u116 u117 u118 u119 u120 u121 u122 u123 u124 u125 u126 u127 u128 u129 u130 u131 u132 u133 u134 u135 u136 u137 u138 u139 u140 u141 u142 u143 u144 u145 u146 s hs Z hlt hsi
        exact hrest1.out
      · have hsN : s = N := by omega
        rw [hsN]
        have hni : ¬ (N : Int) < (N : Int) := by omega
        replace rT := rT.ext Z
        replace rC := rC.ext Z
        replace X := X.trans Z
        clear Z hs hlt hsN rL HLL HAN HFB
        rcases tr_td HT.out hP1 hP5 HC.out HCL.out with htd | ⟨D, v, htd, hdc, hv⟩
        · clear hrest1 hrest3
          have HTD := Lib.hid htd
          clear htd
          go_wp2_with fail
          refine (implTreeDiagram_any _ _ gs _ rT hg20).mono ?_
          intro e w9 h9
          rw [HTD.out] at h9
          obtain ⟨X2, rfl⟩ := h9
          replace rT := rT.ext X2
          replace rC := rC.ext X2
          replace X := X.trans X2
          clear X2
          clear hni
          go_wp2_with fail
          refine (specTreeDiagram_any _ _ gs _ rT hg20).mono ?_
          intro e w10 h10
          rw [HTD.out] at h10
          obtain ⟨X2, rfl⟩ := h10
          replace rC := rC.ext X2
          replace X := X.trans X2
          clear X2
          clear rT HTD
          go_wp2_with fail
          clear wa wb
          rename_i ia1 ia2 ia3 ia4 ia5 ia6 ia7 ia8 ia9
          revert w a1 c1 xs a2 c2 ys r1 r2 hx20 hy20 ia1 x P hPw hP1 hP5 w2 gt ct gs HT hg20 w3 gc cc w4 gc' cc' LC w5 w6 w7 gC cC C HC HCL N h32 hNw HN hP63 ia2 wr u4 u14 u15 u16 u17 u18 u19 u77 u78 u79 u80 u81 u82 u83 u84 u85 u86 u87 u88 u89 u90 u91 u92 u93 u94 u95 u96 u97 u98 u99 u100 u101 u102 u103 u104 u105 u106 u107 u108 u109 u110 u111 u112 u113 u114 u115 u116 u117 u118 u119 u120 u121 u122 u123 u124 u125 u126 u127 u128 u129 u130 u131 u132 u133 u134 u135 u136 u137 u138 u139 u140 u141 u142 u143 u144 u145 u146 s ia3 ia4 ia5 w9 w10 rC X ia6 ia7 ia8 ia9
          exact hrest2.out
        · clear hrest1 hrest2
          have HTD := Lib.hid htd
          have HDC := Lib.hid hdc
          have HV := Lib.hid hv
          have HGP := Lib.hid (tr_gap (f := failN gs) hP5 (HCL.out ▸ HC.out.shr) hv)
          rw [← HN.out] at HGP
          clear htd hdc hv
          generalize sD (failN gs) C P N = sm at *
          go_wp2_with fail
          refine (implTreeDiagram_any _ _ gs _ rT hg20).mono ?_
          intro e w9 h9
          obtain ⟨gd, cd, rfl, X2, rD⟩ := tr_zl h9 HTD.out
          replace rT := rT.ext X2
          replace rC := rC.ext X2
          replace X := X.trans X2
          clear X2
          clear hni h9
          go_wp2_with fail
          refine (specTreeDiagram_any _ _ gs _ rT hg20).mono ?_
          intro e w10 h10
          obtain ⟨gd', cd', rfl, X2, rD'⟩ := tr_zl h10 HTD.out
          replace rC := rC.ext X2
          replace rD := rD.ext X2
          replace X := X.trans X2
          clear X2
          clear rT HTD h10
          go_wp2_with fail
          refine (b10Ints_any _ _ D D _ rD rD').mono ?_
          rintro e w11 ⟨rfl, X2⟩
          rw [decide_eq_true rfl]
          replace rC := rC.ext X2
          replace rD := rD.ext X2
          replace X := X.trans X2
          clear X2
          clear rD'
          go_wp2_with fail
          refine (implDC_any _ _ D C _ rD rC).mono ?_
          intro e w12 h12
          obtain ⟨rfl, X2, hv32⟩ := nm_num2 h12 HDC.out HV.out.1
          replace rC := rC.ext X2
          replace X := X.trans X2
          clear X2
          clear rD h12 HDC hv32
          have HVN := Lib.hid HV.out.1
          go_wp2_with ((try (simp only [Act.put, List.setIfInBounds_toArray, List.set_cons_succ, List.set_cons_zero])); first
            | (refine wpList_wide wa Try.underlying38 (by kernel_rfl) rfl rfl ?_; intro zb zn hzb hzl; clear hzl; rw [HVN.out.cn] at hzb; replace hzb := bits_of hzb (wide_val HVN.out).1.notN; subst hzb)
            | fail)
          refine (HGP.out _).mono ?_
          rintro e w13 ⟨z1, rfl, hz1, X2⟩
          replace X2 := (Ext.drewN _ _).trans X2
          replace rC := rC.ext X2
          replace X := X.trans X2
          clear X2
          clear HV HVN HGP
          replace hz1 : fcmp .gtr .f64 (cn .f64 z1) (cn .f64 4562254508917369340) = false := hz1
          go_wp2_with (first | (refine wpList_fcmp rfl rfl rfl rfl rfl (by first | with_reducible assumption | exact rfl) ?_))
          clear hz1
          clear wa wb
          rename_i ia1 ia2 ia3 ia4 ia5 ia6 ia7 ia8 ia9
          revert w a1 c1 xs a2 c2 ys r1 r2 hx20 hy20 ia1 x P hPw hP1 hP5 w2 gt ct gs HT hg20 w3 gc cc w4 gc' cc' LC w5 w6 w7 gC cC C HC HCL N h32 hNw HN hP63 ia2 wr u4 u14 u15 u16 u17 u18 u19 u77 u78 u79 u80 u81 u82 u83 u84 u85 u86 u87 u88 u89 u90 u91 u92 u93 u94 u95 u96 u97 u98 u99 u100 u101 u102 u103 u104 u105 u106 u107 u108 u109 u110 u111 u112 u113 u114 u115 u116 u117 u118 u119 u120 u121 u122 u123 u124 u125 u126 u127 u128 u129 u130 u131 u132 u133 u134 u135 u136 u137 u138 u139 u140 u141 u142 u143 u144 u145 u146 s D v sm ia3 ia4 ia5 w9 gd cd w10 gd' cd' w11 w12 zn w13 z1 rC X ia6 ia7 ia8 ia9
          exact hrest3.out
end Go.Proofs.Ytgmdoboeenpjpaa
