
/- FnChances returns true for every input and changes nothing that was there. No condition. -/
import Derived.Test.YtgmdoboeenpjpaaW1
import Derived.Test.YtgmdoboeenpjpaaRows
import Derived.Test.YtgmdoboeenpjpaaW2
namespace Go.Proofs.Ytgmdoboeenpjpaa
open Go Go.RowKit Go.ChangeShapes Go.WideShapes Go.ChangeAt

attribute [local irreducible] LX tw pop cntL
attribute [local go_sem] run_store_float
set_option maxRecDepth 100000 in
set_option maxHeartbeats 16000000 in
theorem chRest : chancesA.b := by
  intro w
  dsimp only
  intro a1 c1 xs a2 c2 ys r1 r2 hx20 hy20 x w2 g cap ns W3 w3 gc cc C HC w4 w5 w6 gd cd rz X HKC lo hi ia2 ia3 ia4 ia5 zn nb ia6 ia7 wr u4 u15 u16 u17 u18 u102 u103 u104 u105 u106 u107 u108 u109 u110 u111 u112 u113 u114 u115 u116 u117 u118 u119 u120 u121 u122 u123 u124 u125 u126 u127 u128 u129 u130 u131 u132 u133 u134 u135 u136 u137 u138 u139 u140 u141 u142 u143 u144 u145 k Z hPw hP1 hP5 HSYS HG HCL rd bx rc HXC HXW C4 hk hlt
  have wa : (Try.prog.underlying 31).isSome = true := by kernel_rfl
  have wb : (Try.prog.underlying 38).isSome = true := by kernel_rfl
  clear C4
  have C5 := Lib.hid (chanceOf_val (C := List.replicate k 1056964608) HSYS.out hP5 (halves_shs k) (by simp))
  have C6 := Lib.hid (counts_val (ns := ns) HSYS.out)
  have C7 := Lib.hid (fun t (ht : t < 2 ^ k) => sharedShockI_val HSYS.out hP5 HC.out HCL.out ht)
  have C8 := Lib.hid (fun t (ht : t < 2 ^ k) => sharedShockS_val HSYS.out hP5 HC.out HCL.out ht)
  have C9 := Lib.hid (phaseOne_val (ns := ns) HSYS.out hP5)
  clear hk hlt
  go_wp2_with fail
  obtain ⟨wo, rfl⟩ : ∃ wo : World, wo = wr := ⟨_, rfl⟩
  have own0 : (wo.alloc (.cells #[] 31)).ownsRow wo.heap.size 31 1 (.slice (some ⟨wo.heap.size, 0, none⟩) 0 0) 0 [] := World.ownsRow_lit wo #[] 0 (Nat.le_refl _) (by decide) rfl
  go_loopw [20, 19] (fun i s wq => ∃ (j g2 cap2 : Nat), j ≤ k ∧ i = .int .i64 j ∧ s = .slice (some ⟨g2, 0, none⟩) j cap2 ∧ wq.ownsRow wo.heap.size 31 1 (.slice (some ⟨g2, 0, none⟩) j cap2) j (List.replicate j (.float .f32 1056964608)) ∧ Ext wo wq) (fun i _ _ => k - (intOf i).toNat)
  case atStart => exact ⟨0, wo.heap.size, 0, Nat.zero_le _, rfl, rfl, own0, Ext.alloc _ _⟩
  case round =>
    clear own0
    obtain ⟨j, g2, cap2, hj, rfl, rfl, own, Z2⟩ := hrel
    by_cases hlt : j < k
    · have hji : (j : Int) < (k : Int) := by omega
      go_wp2_with (at_builtin; refine wpList_push infoF32 rfl Try.underlying29 rfl rfl rfl (World.ownsRow.alloc (w := _) own _) rfl (Bx.new _ [_] _).one rfl (by omega) (by decide) (Z2.trans (Ext.alloc _ _)).size ?_; intro g7 cap7 w7 hg7 own7 bel7 sz7)
      go_roundw
      case rel => exact ⟨j + 1, g7, cap7, by omega, by go_num, rfl, by rw [List.replicate_succ']; exact own7, bel7 wo (Z2.trans (Ext.alloc _ _))⟩
      case measure => simp [intOf] <;> omega
    · have hjk : j = k := by omega
      rw [hjk] at own ⊢
      have rh : RdF wr (.slice (some ⟨g2, 0, none⟩) k cap2) (List.replicate k 1056964608) := ⟨by rw [List.length_replicate, List.map_replicate]; exact own_rd own, (halves_shs k).lt⟩
      have Z3 : Ext w6 wr := Z.trans Z2
      replace bx := bx.ext Z3
      replace rz := rz.ext Z3
      replace rc := rc.ext Z3
      replace X := X.trans Z3
      clear own Z Z2 Z3 hj hlt hjk rd
      obtain ⟨k0, k1⟩ := bx.two
      have hbl := bx.1
      go_wp2_with fail
      refine (C5.out _ _ _ rz rh).mono ?_
      rintro e w8 ⟨rfl, X2⟩
      replace bx := bx.ext X2
      replace rz := rz.ext X2
      replace rc := rc.ext X2
      replace rh := rh.ext X2
      replace X := X.trans X2
      clear X2 k0 k1 hbl C5
      obtain ⟨k0, k1⟩ := bx.two
      have hbl := bx.1
      go_wp2_with fail
      refine (C6.out _ _ rz).mono ?_
      rintro e w9 ⟨gw, cw, rfl, X2, rw9⟩
      replace bx := bx.ext X2
      replace rz := rz.ext X2
      replace rc := rc.ext X2
      replace rh := rh.ext X2
      replace X := X.trans X2
      clear X2 k0 k1 hbl C6
      have HCI := Lib.hid (cnt_in (P := k) (ns := ns) hP5)
      have HCA := Lib.hid (cnt_all (P := k) (ns := ns) hP5)
      have hcl : (cntL k ((List.range (2 ^ k)).filter (worksB ns))).length = k + 1 := cntL_len _ _
      rw [hcl] at rw9 ⊢
      generalize cntL k ((List.range (2 ^ k)).filter (worksB ns)) = LL at *
      go_wp2_with fail
      obtain ⟨wo2, rfl⟩ : ∃ wo2 : World, wo2 = w9 := ⟨_, rfl⟩
      have HPB := Lib.hid (pre_sum HCI.out)
      have HPS := Lib.hid (fun j (h : j < LL.length) => pre_succ h)
      obtain ⟨TT, hTT⟩ : ∃ TT : Nat → Int, TT = fun j => (LL.take j).sum := ⟨_, rfl⟩
      have HT0 : Hid (TT 0 = 0) := by show _ = _; rw [hTT]; rfl
      have HTB : Hid (∀ j, j ≤ k + 1 → 0 ≤ TT j ∧ TT j ≤ 1000 * j) := by intro j hj; rw [hTT]; exact HPB.out j (by rw [hcl]; exact hj)
      have HTS : Hid (∀ j (h : j < LL.length), TT (j + 1) = TT j + LL[j]) := by intro j h; rw [hTT]; exact HPS.out j h
      have HTE : Hid (TT (k + 1) = ((nW k ns : Nat) : Int)) := by show _ = _; rw [hTT, ← HCA.out]; show (LL.take (k + 1)).sum = _; rw [← hcl, List.take_length]
      have HLB : Hid (∀ j (h : j < LL.length), 0 ≤ LL[j] ∧ LL[j] ≤ 1000) := fun j h => HCI.out _ (List.getElem_mem h)
      clear HPB HPS hTT HCI HCA
      go_loopw [174, 25] (fun i s wq => ∃ (j : Nat), j ≤ k + 1 ∧ i = .int .i64 j ∧ s = .int .i64 (TT j) ∧ wq = wo2) (fun i _ _ => k + 1 - (intOf i).toNat)
      case atStart => exact ⟨0, Nat.zero_le _, rfl, by rw [HT0.out], rfl⟩
      case round =>
        obtain ⟨j, hj, rfl, rfl, rfl⟩ := hrel
        by_cases hlt : j < k + 1
        · have hji : (j : Int) < (k : Int) + 1 := by omega
          have hjl : j < LL.length := by omega
          obtain ⟨bw, ow, ew, hbw, cw9⟩ := RdI.at rw9 hjl
          cases ew
          rw [Nat.zero_add] at cw9
          have hs := HTS.out j hjl
          obtain ⟨t0, t1⟩ := HTB.out j (by omega)
          obtain ⟨t2, t3⟩ := HLB.out j hjl
          generalize LL[j] = lj at *
          have hw1 : IntKind.i64.wrap (TT j + lj) = TT (j + 1) := by rw [hs]; exact IntWalk.i64_in _ (by omega)
          replace hs := Lib.hid hs
          go_wp2_with fail
          go_roundw
          case rel => exact ⟨j + 1, by omega, by go_num, rfl, by first | rfl | trivial⟩
          case measure => simp [intOf] <;> omega
        · have hjk : j = k + 1 := by omega
          rw [hjk, HTE.out]
          clear hj hlt hjk HTB HTS HT0 HTE HLB rw9 hcl
          obtain ⟨N, hN⟩ : ∃ N, N = 2 ^ k := ⟨_, rfl⟩
          have h32 : N ≤ 32 := by rw [hN]; exact Nat.pow_le_pow_right (n := 2) (by decide) hP5
          have h2 : 2 ≤ N := by rw [hN]; exact Nat.le_self_pow (by omega) 2
          have hNw : IntKind.i64.wrap ((2 : Int) ^ k) = (N : Int) := by
            have e : (2 : Int) ^ k = (N : Int) := by rw [hN, Int.natCast_pow]; rfl
            rw [e]; exact IntWalk.i64_in _ (by omega)
          have HN := Lib.hid hN
          clear hN
          go_wp2_with fail
          refine (b10At_any _ ys 9 N wr (r2.ext X) h2 (by omega) (by decide)).mono ?_
          rintro e w10 ⟨z, hz, rfl, rfl⟩
          obtain ⟨k0, k1⟩ := bx.two
          have hbl := bx.1
          go_wp2_with fail
          refine (C7.out z (by rw [← HN.out]; exact hz) _ _ _ rz rc).mono ?_
          rintro e w11 ⟨rfl, X2, hss⟩
          have HSS := Lib.hid hss
          clear hss
          replace bx := bx.ext X2
          replace rz := rz.ext X2
          replace rc := rc.ext X2
          replace rh := rh.ext X2
          replace X := X.trans X2
          clear X2 k0 k1 hbl
          obtain ⟨k0, k1⟩ := bx.two
          have hbl := bx.1
          go_wp2_with fail
          refine (C8.out z (by rw [← HN.out]; exact hz) _ _ _ rz rc).mono ?_
          rintro e w12 ⟨rfl, X2, -⟩
          replace bx := bx.ext X2
          replace rz := rz.ext X2
          replace rc := rc.ext X2
          replace rh := rh.ext X2
          replace X := X.trans X2
          clear X2 k0 k1 hbl
          obtain ⟨k0, k1⟩ := bx.two
          have hbl := bx.1
          go_wp2_with fail
          refine (C7.out 0 (by rw [← HN.out]; omega) _ _ _ rz rc).mono ?_
          rintro e w13 ⟨rfl, X2, -⟩
          replace bx := bx.ext X2
          replace rz := rz.ext X2
          replace rh := rh.ext X2
          replace X := X.trans X2
          clear X2 k0 k1 hbl rc
          obtain ⟨k0, k1⟩ := bx.two
          have hbl := bx.1
          go_wp2_with fail
          have rl : RdSy (w13.alloc (.cells #[.int .i64 k, .slice (some ⟨g, 0, none⟩) ns.length cap] 27)) (.slice (some ⟨w13.heap.size, 0, none⟩) 1 1) [⟨(k : Int), .slice (some ⟨g, 0, none⟩) ns.length cap, ups ns⟩] :=
            ⟨own_rd (B := w13.heap.size) (e := 27) (World.ownsRow_lit w13 #[.int .i64 k, .slice (some ⟨g, 0, none⟩) ns.length cap] 1 (Nat.le_refl _) (by decide) rfl), fun x hx => by obtain rfl := List.mem_singleton.1 hx; exact rz.ext (Ext.alloc _ _)⟩
          refine (C9.out _ _ _ _ rl (rh.ext (Ext.alloc _ _))).mono ?_
          rintro e w14 ⟨rfl, X2⟩
          replace X := X.trans ((Ext.alloc _ _).trans X2)
          clear X2 k0 k1 hbl rl rz rh bx C7 C8 C9
          -- the last comparisons
          obtain ⟨nh, np⟩ := HG.out.half_num
          obtain ⟨n0, -, -⟩ := HG.out.cmpShock (t := 0)
          obtain ⟨ns1, nA, q1⟩ := HG.out.cmpShock (t := z)
          obtain ⟨nM, nI, nJ, g4⟩ := HG.out.gapHalf
          have HHN := Lib.hid nh
          have HPN := Lib.hid np
          have H0N := Lib.hid n0
          have HSN := Lib.hid ns1
          have HAN := Lib.hid nA
          have HMN := Lib.hid nM
          have HIN := Lib.hid nI
          have HJN := Lib.hid nJ
          have G1 := Lib.hid HG.out.gapNone
          have G3 := Lib.hid HG.out.gapPhase
          have G4 := Lib.hid g4
          have HQ1 := Lib.hid q1
          clear nh np n0 ns1 nA q1 nM nI nJ g4
          go_wp2_with fail
          refine (sameNumber_self _ HSS.out _).mono ?_
          rintro e w15 ⟨rfl, rfl⟩
          have q1 := HQ1.out
          have HKC2 : Hid (cn .f64 4576918229304087675 = 4576918229304087675) := k01_val.1.cn
          have HXN : Hid (Num .f32 (chS k ns C)) := HG.out.x.1.1
          replace q1 : fcmp .lss .f64 (cn .f64 (wide (ssV k ns C z 1048576000))) (cn .f64 (fop .add .f64 (wide (chS k ns C)) 4562254508917369340)) = true := q1
          go_wp2_with (first
            | (refine wpList_wide wa Try.underlying38 rfl rfl rfl ?_; intro zb zn1 hzb hzl; clear hzl; rw [H0N.out.cn] at hzb; replace hzb := bits_of hzb (wide_val H0N.out).1.notN; subst hzb)
            | (refine wpList_wide wa Try.underlying38 rfl rfl rfl ?_; intro zb zn1 hzb hzl; clear hzl; rw [HXN.out.cn] at hzb; replace hzb := bits_of hzb (wide_val HXN.out).1.notN; subst hzb))
          refine (G1.out _).mono ?_
          rintro e w16 ⟨z1, rfl, hz1, X2⟩
          replace X := X.trans ((Ext.drewN _ _).trans X2)
          clear X2
          go_wp2_with (first
            | (refine wpList_fcmp rfl rfl rfl rfl rfl (by first | with_reducible assumption | exact rfl) ?_)
            | (refine wpList_wide wa Try.underlying38 rfl rfl rfl ?_; intro zb zn1 hzb hzl; clear hzl; rw [HSN.out.cn] at hzb; replace hzb := bits_of hzb (wide_val HSN.out).1.notN; subst hzb)
            | (refine wpList_wide wa Try.underlying38 rfl rfl rfl ?_; intro zb zn1 hzb hzl; clear hzl; rw [HXN.out.cn] at hzb; replace hzb := bits_of hzb (wide_val HXN.out).1.notN; subst hzb)
            | (refine wpList_wide wa Try.underlying38 rfl rfl rfl ?_; intro zb zn1 hzb hzl; clear hzl; rw [HPN.out.cn] at hzb; replace hzb := bits_of hzb (wide_val HPN.out).1.notN; subst hzb)
            | (refine wpList_wide wa Try.underlying38 rfl rfl rfl ?_; intro zb zn1 hzb hzl; clear hzl; rw [HHN.out.cn] at hzb; replace hzb := bits_of hzb (wide_val HHN.out).1.notN; subst hzb)
            | (refine wpList_fop rfl rfl rfl rfl rfl ?_; intro b nb1 hb hl; rw [(wide_val HXN.out).1.cn, HKC.out] at hb; replace hb := bits_of hb HAN.out.notN; subst hb; clear hl))
          refine (G3.out _).mono ?_
          rintro e w17 ⟨z3, rfl, hz3, X2⟩
          replace X := X.trans ((Ext.drewN _ _).trans X2)
          clear X2 q1 hz1
          rw [← HN.out] at HMN HIN G4
          go_wp2_with (first
            | (refine wpList_fcmp rfl rfl rfl rfl rfl (by first | with_reducible assumption | exact rfl) ?_)
            | (refine wpList_wide wa Try.underlying38 rfl rfl rfl ?_; intro zb zn1 hzb hzl; clear hzl; rw [HHN.out.cn] at hzb; replace hzb := bits_of hzb (wide_val HHN.out).1.notN; subst hzb)
            | (refine wpList_fop rfl rfl rfl rfl rfl ?_; intro b nb1 hb hl; rw [(wide_val HHN.out).1.cn, HIN.out.cn] at hb; replace hb := bits_of hb HMN.out.notN; subst hb; clear hl))
          refine (G4.out _).mono ?_
          rintro e w18 ⟨z4, rfl, hz4, X2⟩
          replace X := X.trans ((Ext.drewN _ _).trans X2)
          clear X2 hz3
          replace hz4 : fcmp .lss .f64 (cn .f64 z4) (cn .f64 4576918229304087675) = true := hz4
          go_wp2_with (first | (refine wpList_fcmp rfl rfl rfl rfl rfl (by first | with_reducible assumption | exact rfl) ?_))
          go_ret
          exact ⟨rfl, X⟩
end Go.Proofs.Ytgmdoboeenpjpaa
/- FnChances returns true for every input and changes nothing that was there. No condition. -/
namespace Go.Proofs.Ytgmdoboeenpjpaa
open Go Go.RowKit Go.ChangeShapes Go.WideShapes Go.ChangeAt

theorem chances_walk (v1 v2 : Value) (w : World) (h1 : ArgBytes w v1) (h2 : ArgBytes w v2) :
    Calls Try.prog 3 #[v1, v2] w fun e w' => e = .returned (.bool true) ∧ Ext w w' := chancesA.out ⟨chRound⟩ ⟨chRest⟩ v1 v2 w h1 h2
theorem fnChances_own : ownKnob Try.prog.godebug = none := by kernel_rfl
theorem fnChances_laid : laidOutB Try.prog = true := by kernel_rfl

set_option maxRecDepth 100000 in
theorem fnChances_lifted (os : Os) (started : os.Started) (H : Type) (enc : TypeId × Value → H) :
    ReturnsInHanded {} Try.checked os 3 .any (Rows.fnChancesSpec.pre6 enc Try.prog Try.f3 Rows.fnChancesRow.domain false) (Rows.fnChancesSpec.post enc Try.prog Try.f3 false true false false) := by
  refine returnsInHanded_of_change (C := Try.checked) fnChances_own started (by kernel_rfl) Try.func3
    (ChangeSpec.witness6 (enc := enc) (C := Try.checked) false ⟨#[], #[.slice none 0 0, .slice none 0 0], []⟩ 8 (by kernel_rfl) (by kernel_rfl) (by kernel_rfl) (by kernel_rfl)) ?_
  intro W base args ds gs before hval0 hW hcnd _
  have hval : ∀ (j : Nat) t v, Try.f3.params[j]? = some t → args[j]? = some v → Value.okWide Try.prog W .any base t v := hval0
  have hW' := hW
  obtain ⟨p, q, hA0, hV, rfl, hfz, hnd⟩ := hW
  have hA : DataW.TrodAll enc Try.prog W 0 (fun _ => true) true Try.f3.params.toList args.toList ds p := hA0
  rw [Try.params3] at hA hval
  obtain ⟨v0, vs0, d0, ds0, p0, q0, hargs, rfl, rfl, h0, r0⟩ := trodAll_cons hA
  obtain ⟨v1, vs1, d1, ds1, p1, q1, rfl, rfl, rfl, h1, r1⟩ := trodAll_cons r0
  obtain ⟨rfl, rfl, rfl⟩ := trodAll_nil r1
  obtain rfl : args = #[v0, v1] := by cases args; simp_all
  obtain ⟨rfl, rfl⟩ := trodVars_none hV
  have lt0 : ∀ x ∈ p0, x.block < W.heap.size := by obtain ⟨m, hm⟩ := h0; exact DataW.trod_lt m _ _ _ hm
  have w0 := argBytes Try.underlying22 Try.underlying5 (by kernel_rfl) (hval 0 22 v0 rfl rfl) h0
  have lt1 : ∀ x ∈ p1, x.block < W.heap.size := by obtain ⟨m, hm⟩ := h1; exact DataW.trod_lt m _ _ _ hm
  have w1 := argBytes Try.underlying22 Try.underlying5 (by kernel_rfl) (hval 1 22 v1 rfl rfl) h1
  clear hA0 hval0
  refine (chances_walk v0 v1 W w0 w1).mono fun e W' ⟨he, bel⟩ => ?_
  subst he
  exact ⟨_, rfl, _, _, _, [], _, [], hW', trodAll_mk1 (shut_bool Try.underlying4 _), (trodAll_cons_mk (Below.trod fnChances_laid (by kernel_rfl) (of_decide_eq_true (by kernel_rfl)) h0 bel lt0) (trodAll_cons_mk (Below.trod fnChances_laid (by kernel_rfl) (of_decide_eq_true (by kernel_rfl)) h1 bel lt1) trodAll_mk0)), rfl, bel.below.frame _, fun h => by cases h⟩

theorem fnChances_over : Rows.fnChancesRow.holds Try.pinned (OpenSpec.ofChange Rows.fnChancesSpec) :=
  OpenClaim.holds_of_wide 3 Try.f3 rfl rfl rfl rfl rfl rfl rfl ⟨rfl, rfl, rfl, rfl, rfl⟩ rfl rfl rfl rfl rfl (by kernel_rfl) Try.func3 (by kernel_rfl)
    (of_decide_eq_true (by kernel_rfl)) (by unfold Func.isWrapper; first | (rw [if_pos (by decide +kernel)]; kernel_rfl) | (rw [if_neg (by decide +kernel)]; exact ⟨rfl, rfl⟩))
    (fun os started H enc _ => fnChances_lifted os started H enc)

/-- The statement. -/
theorem fnChances_holds : Rows.FnChancesSaid := fnChances_over

end Go.Proofs.Ytgmdoboeenpjpaa
