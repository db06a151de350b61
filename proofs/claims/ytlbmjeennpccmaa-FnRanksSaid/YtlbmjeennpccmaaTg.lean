
/- FnExactLogRankOf returns true for every input and changes nothing that was there. No condition. -/
import Derived.Test.YtlbmjeennpccmaaTe
import Derived.Test.YtlbmjeennpccmaaTf
import Derived.Test.YtlbmjeennpccmaaLs
import Derived.Test.YtlbmjeennpccmaaLA
import Derived.Test.YtlbmjeennpccmaaNm
namespace Go.Proofs.Ytlbmjeennpccmaa
open Go Go.RowKit Go.ChangeShapes Go.WideShapes Go.ChangeAt

attribute [local go_sem] run_store_float
attribute [local irreducible] LX
theorem ofI_natG (n : Nat) : cn .f32 (floatOfInt .f32 (n : Int)) = ofI (n : Int) := cn_ofI _
set_option maxRecDepth 100000 in
set_option maxHeartbeats 8000000 in
theorem implLogRankOf_any (va vb : Value) (la lb : List Lf) (w : World) (ra : RdL w va la) (rb : RdL w vb lb) : Calls Try.prog 12 #[va, vb] w (NmPost (lrO la lb) w) := by
  have HA := Lib.hid (areLives_any va la w ra)
  have HB := Lib.hid (fun W r => areLives_any vb lb W r)
  cases h : livesB la
  · have H : Hid (lrO la lb = none) := by show _ = _; unfold lrO; rw [h]; rfl
    rw [h] at HA
    clear h
    obtain ⟨⟨_, a1, c1, rfl, _, _, _, _⟩, _⟩ := ra
    obtain ⟨⟨_, a2, c2, rfl, _, _, _, _⟩, _⟩ := rb
    go_enter Try.func12, Try.ntmps12
    go_wp2_with fail
    refine HA.out.mono ?_
    rintro e w1 ⟨rfl, X⟩
    go_wp2_with fail
    go_ret2
    rw [H.out]
    exact ⟨X, rfl⟩
  cases h2 : livesB lb
  · have H : Hid (lrO la lb = none) := by show _ = _; unfold lrO; rw [h2, Bool.and_false]; rfl
    rw [h] at HA
    rw [h2] at HB
    clear h h2
    have rb' := rb
    obtain ⟨⟨_, a1, c1, rfl, _, _, _, _⟩, _⟩ := ra
    obtain ⟨⟨_, a2, c2, rfl, _, _, _, _⟩, _⟩ := rb
    go_enter Try.func12, Try.ntmps12
    go_wp2_with fail
    refine HA.out.mono ?_
    rintro e w1 ⟨rfl, X⟩
    go_wp2_with fail
    refine (HB.out _ (rb'.ext X)).mono ?_
    rintro e w2 ⟨rfl, X2⟩
    go_wp2_with fail
    go_ret2
    rw [H.out]
    exact ⟨X.trans X2, rfl⟩
  have HO : Hid (lrO la lb = lrZ la lb (timesL (la ++ lb)).length) := by show _ = _; unfold lrO; rw [h, h2]; rfl
  have hla := livesB_len h
  have hlb := livesB_len h2
  have hok := lives_append h h2 ra.2 rb.2
  have hll : (la ++ lb).length = la.length + lb.length := List.length_append
  have h32 : Hid (∀ x ∈ la ++ lb, x.1 < 4294967296) := fun x hx => (List.mem_append.1 hx).elim (ra.2 x) (rb.2 x)
  have HF := Lib.hid (fun v W r => failures_any v (la ++ lb) W r (by omega) (by omega) hok)
  have HT1 := Lib.hid (fun v W r t => at_any v la t W r (by omega))
  have HT2 := Lib.hid (fun v W r t => at_any v (la ++ lb) t W r (by omega))
  have HTR := Lib.hid (fun (W : World) (B g cap : Nat) => times_rd (w := W) (B := B) (g := g) (cap := cap) hok)
  have HWF : Hid (finB (lrWide la lb (timesL (la ++ lb)).length) = true) := lrWide_fin hla.2 hlb.2 hok
  have HP : Hid (∀ t ∈ timesL (la ++ lb), 1 ≤ cntB (fellB t) (la ++ lb)) := fun t ht => fell_pos hok ht
  have HS1 : Hid (∀ k (h : k < (timesL (la ++ lb)).length), lrSum la lb (k + 1) = lrS la lb (lrSum la lb k) ((timesL (la ++ lb))[k])) := fun k h => accK_succ h
  have HW1 : Hid (∀ k (h : k < (timesL (la ++ lb)).length), lrWide la lb (k + 1) = lrW la lb (lrWide la lb k) ((timesL (la ++ lb))[k])) := fun k h => accK_succ h
  have HC : Hid (∀ t, cntB (riskB t) (la ++ lb) ≤ 96) := fun t => Nat.le_trans List.countP_le_length (by omega)
  have hlen : (timesL (la ++ lb)).length ≤ 96 := by have := timesL_len (la ++ lb); omega
  have ra' := ra
  have rb' := rb
  rw [h] at HA
  rw [h2] at HB
  clear h h2 hok
  generalize hab : la ++ lb = ab at *
  replace hab := Lib.hid hab
  clear hll
  obtain ⟨⟨-, a1, c1, rfl, -, -, -, -⟩, -⟩ := ra
  obtain ⟨⟨-, a2, c2, rfl, -, -, -, -⟩, -⟩ := rb
  go_enter Try.func12, Try.ntmps12
  go_wp2_with fail
  refine HA.out.mono ?_
  rintro e w1 ⟨rfl, X0⟩
  go_wp2_with fail
  refine (HB.out _ (rb'.ext X0)).mono ?_
  rintro e w2 ⟨rfl, X1⟩
  replace X0 := X0.trans X1
  replace ra' := ra'.ext X0
  replace rb' := rb'.ext X0
  go_wp2_with fail
  have XA : Ext w2 (w2.alloc (.cells #[.slice a1 la.length c1, .slice a2 lb.length c2] 27)) := Ext.alloc _ _
  have BX : Bx (w2.alloc (.cells #[.slice a1 la.length c1, .slice a2 lb.length c2] 27)) w2.heap.size [.slice a1 la.length c1, .slice a2 lb.length c2] := Bx.new _ _ _
  generalize w2.alloc (.cells #[.slice a1 la.length c1, .slice a2 lb.length c2] 27) = W at *
  have HCC := concatL_eq _ _ la lb ab hab.out _ 2 W (ra'.ext XA) (rb'.ext XA) BX hla.1 hlb.1 (by omega) (by omega)
  refine HCC.mono ?_
  rintro e w3 ⟨gb, cb, rfl, ownb, X2⟩
  have X3 : Ext w2 w3 := XA.trans X2
  replace ra' := ra'.ext X3
  replace X0 := X0.trans X3
  have RB := ownb.rd h32.out
  clear X2 X3 ownb X1 rb' h32
  go_wp2_with fail
  refine (HF.out _ _ RB).mono ?_
  rintro e w4 ⟨g, cap, rfl, own, X4⟩
  have R := HTR.out _ _ _ _ own
  replace X0 := X0.trans X4
  replace ra' := ra'.ext X4
  replace RB := RB.ext X4
  clear X4 own HF HTR HA HB
  generalize timesL ab = T at *
  go_wp2_with fail
  go_loopw [31, 7, 8] (fun i s d wr => ∃ (k sb wb : Nat), k ≤ T.length ∧ i = .int .i64 k ∧ s = .float .f32 sb ∧ d = .float .f32 wb ∧ Hid (cn .f32 sb = lrSum la lb k) ∧ Hid (cn .f32 wb = lrWide la lb k) ∧ Ext w4 wr) (fun i _ _ _ => T.length - (intOf i).toNat)
  case atStart => exact ⟨0, 0, 0, Nat.zero_le _, rfl, rfl, rfl, rfl, rfl, Ext.refl _⟩
  case round =>
    obtain ⟨k, sb, wb, hk, rfl, rfl, rfl, HS, HW, X2⟩ := hrel
    by_cases hlt : k < T.length
    · obtain ⟨b1, o1, hbo, hb1, hc1⟩ := (R.ext X2).at hlt
      obtain ⟨rfl, rfl⟩ : g = b1 ∧ 0 = o1 := by simpa using hbo
      rw [Nat.zero_add] at hc1
      replace HS1 := Lib.hid (HS1.out k hlt)
      replace HW1 := Lib.hid (HW1.out k hlt)
      replace HP := Lib.hid (HP.out _ (List.getElem_mem hlt))
      generalize T[k] = t at *
      have hR := HC.out t
      have hD1 := HP.out
      have hD := fell_risk t ab
      have hA := (hab.out ▸ cntB_left (riskB t) la lb : cntB (riskB t) la ≤ cntB (riskB t) ab)
      have hdA := fell_risk t la
      have HT1' := Lib.hid (fun v W r => HT1.out v W r t)
      have HT2' := Lib.hid (fun v W r => HT2.out v W r t)
      have q0 : fcmp .eql .f32 (cn .f32 (floatOfInt .f32 (cntB (riskB t) ab))) (cn .f32 1065353216) = decide (cntB (riskB t) ab = 1) := by
        rw [ofI_natG]; show fcmp .eql .f32 _ one1 = _; rw [one1_ofI]; exact eqlI (b := 1) (by omega) (by omega)
      have HQS : Hid (lrS la lb (lrSum la lb k) t = fop .add .f32 (lrSum la lb k) (fop .sub .f32 (cn .f32 (floatOfInt .f32 (cntB (fellB t) la))) (fop .quo .f32 (fop .mul .f32 (cn .f32 (floatOfInt .f32 (cntB (fellB t) ab))) (cn .f32 (floatOfInt .f32 (cntB (riskB t) la)))) (cn .f32 (floatOfInt .f32 (cntB (riskB t) ab)))))) := by
        show _ = _
        rw [ofI_natG, ofI_natG, ofI_natG, ofI_natG, mulI (by omega) (by omega)]; unfold lrS; rw [hab.out]
      have HQW : Hid (lrX (cntB (fellB t) ab) (cntB (riskB t) la) (cntB (riskB t) ab) =
          fop .mul .f32 (fop .mul .f32 (fop .mul .f32 (cn .f32 (floatOfInt .f32 (cntB (fellB t) ab))) (fop .quo .f32 (cn .f32 (floatOfInt .f32 (cntB (riskB t) la))) (cn .f32 (floatOfInt .f32 (cntB (riskB t) ab))))) (fop .sub .f32 (cn .f32 1065353216) (fop .quo .f32 (cn .f32 (floatOfInt .f32 (cntB (riskB t) la))) (cn .f32 (floatOfInt .f32 (cntB (riskB t) ab))))))
            (fop .quo .f32 (fop .sub .f32 (cn .f32 (floatOfInt .f32 (cntB (riskB t) ab))) (cn .f32 (floatOfInt .f32 (cntB (fellB t) ab)))) (fop .sub .f32 (cn .f32 (floatOfInt .f32 (cntB (riskB t) ab))) (cn .f32 1065353216)))) := by
        show _ = _
        have e1 : cn .f32 1065353216 = ofI ((1 : Nat) : Int) := one1_ofI
        rw [ofI_natG, ofI_natG, ofI_natG, e1, subI (by omega) (by omega), subI (by omega) (by omega), ← Int.ofNat_sub hD, ← Int.ofNat_sub (show 1 ≤ cntB (riskB t) ab by omega)]
        unfold lrX; rw [one1_ofI]; rfl
      have HWW : Hid (lrW la lb (lrWide la lb k) t = if cntB (riskB t) ab = 1 then lrWide la lb k else fop .add .f32 (lrWide la lb k) (lrX (cntB (fellB t) ab) (cntB (riskB t) la) (cntB (riskB t) ab))) := by show _ = _; unfold lrW; rw [hab.out]
      clear hD1 hD hA hdA hR hbo HP HC HT1 HT2
      by_cases hq : cntB (riskB t) ab = 1
      · rw [if_pos hq] at HWW
        rw [hq] at q0
        replace q0 : fcmp .eql .f32 (cn .f32 (floatOfInt .f32 (cntB (riskB t) ab))) (cn .f32 1065353216) = true := by rw [hq]; exact q0.trans (by decide)
        clear hq HQW
        generalize floatOfInt .f32 (cntB (fellB t) la) = fda at *
        generalize floatOfInt .f32 (cntB (riskB t) la) = fra at *
        generalize floatOfInt .f32 (cntB (fellB t) ab) = fd at *
        generalize floatOfInt .f32 (cntB (riskB t) ab) = fr at *
        go_wp2_with fail
        refine (HT1'.out _ _ (ra'.ext X2)).mono ?_
        rintro e w5 ⟨rfl, hx⟩
        replace X2 := X2.trans hx
        clear hx hc1 hb1
        go_wp2_with fail
        refine (HT2'.out _ _ (RB.ext X2)).mono ?_
        rintro e w6 ⟨rfl, hx⟩
        replace X2 := X2.trans hx
        clear hx
        go_wp2_with (first | (refine wpList_fcmp rfl rfl rfl rfl rfl (by first | with_reducible assumption | exact rfl) ?_) | (refine wpList_fop rfl rfl rfl rfl rfl ?_; intro fb nf hfb hfl; replace hfb := Lib.hid hfb; replace hfl := Lib.hid hfl))
        rename_i b1 n1 e1 l1 b2 n2 e2 l2 b3 n3 e3 l3 K0 a0 h0
        have N1 : Hid (cn .f32 fb = lrSum la lb (k + 1)) := by
          show _ = _; rw [HS1.out, HQS.out, hfb.out, e3.out, e2.out, e1.out, HS.out]
        have N2 : Hid (cn .f32 wb = lrWide la lb (k + 1)) := by
          show _ = _; rw [HW1.out, HWW.out, HW.out]
        go_roundw
        case rel => exact ⟨k + 1, fb, wb, by omega, by go_num, rfl, rfl, N1, N2, X2.trans (Ext.drewN _ _)⟩
        case measure => simp [intOf]; omega
      · rw [if_neg hq] at HWW
        replace q0 : fcmp .eql .f32 (cn .f32 (floatOfInt .f32 (cntB (riskB t) ab))) (cn .f32 1065353216) = false := by rw [q0]; exact decide_eq_false hq
        clear hq
        generalize floatOfInt .f32 (cntB (fellB t) la) = fda at *
        generalize floatOfInt .f32 (cntB (riskB t) la) = fra at *
        generalize floatOfInt .f32 (cntB (fellB t) ab) = fd at *
        generalize floatOfInt .f32 (cntB (riskB t) ab) = fr at *
        go_wp2_with fail
        refine (HT1'.out _ _ (ra'.ext X2)).mono ?_
        rintro e w5 ⟨rfl, hx⟩
        replace X2 := X2.trans hx
        clear hx hc1 hb1
        go_wp2_with fail
        refine (HT2'.out _ _ (RB.ext X2)).mono ?_
        rintro e w6 ⟨rfl, hx⟩
        replace X2 := X2.trans hx
        clear hx
        go_wp2_with (first | (refine wpList_fcmp rfl rfl rfl rfl rfl (by first | with_reducible assumption | exact rfl) ?_) | (refine wpList_fop rfl rfl rfl rfl rfl ?_; intro fb nf hfb hfl; replace hfb := Lib.hid hfb; replace hfl := Lib.hid hfl))
        rename_i b1 n1 e1 l1 b2 n2 e2 l2 b3 n3 e3 l3 b4 n4 e4 l4 h0 b5 n5 e5 l5 b6 n6 e6 l6 b7 n7 e7 l7 b8 n8 e8 l8 b9 n9 e9 l9 b10 n10 e10 l10 b11 n11 e11 l11 b12 n12 e12 l12
        have N1 : Hid (cn .f32 b4 = lrSum la lb (k + 1)) := by
          show _ = _; rw [HS1.out, HQS.out, e4.out, e3.out, e2.out, e1.out, HS.out]
        have N2 : Hid (cn .f32 fb = lrWide la lb (k + 1)) := by
          show _ = _; rw [HW1.out, HWW.out, hfb.out, HW.out, e12.out, e11.out, e10.out, e9.out, e8.out, e7.out, e6.out, e5.out, HQW.out]
        go_roundw
        case rel => exact ⟨k + 1, b4, fb, by omega, by go_num, rfl, rfl, N1, N2, X2.trans (Ext.drewN _ _)⟩
        case measure => simp [intOf]; omega
    · obtain rfl : k = T.length := by omega
      have hO := HO.out
      unfold lrZ at hO
      rw [← HW.out] at hO
      cases q0 : fcmp .gtr .f32 (cn .f32 wb) (cn .f32 0)
      · rw [q0] at hO
        replace HO := Lib.hid hO
        clear hO
        go_wp2_with (first | (refine wpList_fcmp rfl rfl rfl rfl rfl (by first | with_reducible assumption | exact rfl) ?_) | (refine wpList_fop rfl rfl rfl rfl rfl ?_; intro fb nf hfb hfl; replace hfb := Lib.hid hfb; replace hfl := Lib.hid hfl))
        go_ret2
        rw [HO.out]
        exact ⟨X0.trans X2, rfl⟩
      · rw [q0, if_pos rfl, ← HS.out] at hO
        replace HO := Lib.hid hO
        clear hO
        go_wp2_with (first | (refine wpList_fcmp rfl rfl rfl rfl rfl (by first | with_reducible assumption | exact rfl) ?_) | (refine wpList_fop rfl rfl rfl rfl rfl ?_; intro fb nf hfb hfl; replace hfb := Lib.hid hfb; replace hfl := Lib.hid hfl))
        rename_i b1 n1 e1 l1 K0 a0
        have N1 : Hid (cn .f32 fb = fop .quo .f32 (fop .mul .f32 (cn .f32 sb) (cn .f32 sb)) (cn .f32 wb)) := by show _ = _; rw [hfb.out, e1.out]
        refine (ifFinite_any fb _).mono ?_
        rintro e w7 ⟨rfl, hx⟩
        replace X2 := X2.trans ((Ext.drewN _ _).trans hx)
        go_wp2_with fail
        go_ret2
        rw [HO.out, ← N1.out]
        exact nmPost_of (X0.trans X2) hfl.out

theorem wpList_allL {P : Program} {ops : Array Oper} {rest : List Oper} {o : Oper} {a : Act} {w : World} {Q : Exit → Act → World → Prop} {s x : Operand} {t e : TypeId} {z : Value} {bytes base : Nat} {v sv : Value} {la lb ab : List Lf} (hab : la ++ lb = ab)
    (hinfo : (P.info? e).map (fun i => (i.zero, i.size, i.bytes)) = some (some z, 2, bytes)) (hz : z.cells.size = 2) (ht : P.underlying t = some (.slice e))
    (hgd : o.guard = none) (ho : o.op = .call { callee := .builtin .append, args := #[s, x], argTypes := #[t, t] })
    (hs : a.eval s = v) (hown : w.ownsRow base e 2 v la.length (lfs la)) (hx : a.eval x = sv) (r : Rd 2 w sv lb.length (lfs lb)) (hm : 0 < lb.length)
    (hn : la.length + lb.length ≤ 8796093022208) (hb16 : bytes ≤ 16) (hbase : base ≤ w.heap.size)
    (h : ∀ g cap w', base ≤ g → w'.ownsRow base e 2 (.slice (some ⟨g, 0, none⟩) ab.length cap) ab.length (lfs ab) → w.grownBy w' v.ownBlock →
      wpList P ops Q rest (a.put o.dst (.slice (some ⟨g, 0, none⟩) ab.length cap)) w') : wpList P ops Q (o :: rest) a w := by
  subst hab
  refine wpList_all hinfo hz (by decide) ht hgd ho hs hown hx r hm (lfs_one lb) hn hb16 hbase fun g cap w' hg own hgr => ?_
  have e1 : la.length + lb.length = (la ++ lb).length := List.length_append.symm
  rw [e1] at own ⊢
  exact h g cap w' hg (by rw [lfs_append]; exact own) hgr
set_option maxRecDepth 100000 in
set_option maxHeartbeats 8000000 in
theorem specLogRankOf_any (va vb : Value) (la lb : List Lf) (w : World) (ra : RdL w va la) (rb : RdL w vb lb) : Calls Try.prog 10 #[va, vb] w (NmPost (lrO la lb) w) := by
  have HA := Lib.hid (l02Lives_any va la w ra)
  have HB := Lib.hid (fun W r => l02Lives_any vb lb W r)
  cases h : livesB la
  · have H : Hid (lrO la lb = none) := by show _ = _; unfold lrO; rw [h]; rfl
    rw [h] at HA
    clear h
    obtain ⟨⟨_, a1, c1, rfl, _, _, _, _⟩, _⟩ := ra
    obtain ⟨⟨_, a2, c2, rfl, _, _, _, _⟩, _⟩ := rb
    go_enter Try.func10, Try.ntmps10
    go_wp2_with fail
    refine HA.out.mono ?_
    rintro e w1 ⟨rfl, X⟩
    go_wp2_with fail
    go_ret2
    rw [H.out]
    exact ⟨X, rfl⟩
  cases h2 : livesB lb
  · have H : Hid (lrO la lb = none) := by show _ = _; unfold lrO; rw [h2, Bool.and_false]; rfl
    rw [h] at HA
    rw [h2] at HB
    clear h h2
    have rb' := rb
    obtain ⟨⟨_, a1, c1, rfl, _, _, _, _⟩, _⟩ := ra
    obtain ⟨⟨_, a2, c2, rfl, _, _, _, _⟩, _⟩ := rb
    go_enter Try.func10, Try.ntmps10
    go_wp2_with fail
    refine HA.out.mono ?_
    rintro e w1 ⟨rfl, X⟩
    go_wp2_with fail
    refine (HB.out _ (rb'.ext X)).mono ?_
    rintro e w2 ⟨rfl, X2⟩
    go_wp2_with fail
    go_ret2
    rw [H.out]
    exact ⟨X.trans X2, rfl⟩
  have HO : Hid (lrO la lb = lrZ la lb (timesL (la ++ lb)).length) := by show _ = _; unfold lrO; rw [h, h2]; rfl
  have hla := livesB_len h
  have hlb := livesB_len h2
  have hok := lives_append h h2 ra.2 rb.2
  have hll : (la ++ lb).length = la.length + lb.length := List.length_append
  have h32 : Hid (∀ x ∈ la ++ lb, x.1 < 4294967296) := fun x hx => (List.mem_append.1 hx).elim (ra.2 x) (rb.2 x)
  have HF := Lib.hid (fun v W r => l02Times_any v (la ++ lb) W r (by omega) (by omega) hok)
  have HT1 := Lib.hid (fun v W r t => l02Fell_any v la t W r (by omega))
  have HT2 := Lib.hid (fun v W r t => l02Risk_any v la t W r (by omega))
  have HT3 := Lib.hid (fun v W r t => l02Fell_any v (la ++ lb) t W r (by omega))
  have HT4 := Lib.hid (fun v W r t => l02Risk_any v (la ++ lb) t W r (by omega))
  have HTR := Lib.hid (fun (W : World) (B g cap : Nat) => times_rd (w := W) (B := B) (g := g) (cap := cap) hok)
  have HWF : Hid (finB (lrWide la lb (timesL (la ++ lb)).length) = true) := lrWide_fin hla.2 hlb.2 hok
  have HP : Hid (∀ t ∈ timesL (la ++ lb), 1 ≤ cntB (fellB t) (la ++ lb)) := fun t ht => fell_pos hok ht
  have HS1 : Hid (∀ k (h : k < (timesL (la ++ lb)).length), lrSum la lb (k + 1) = lrS la lb (lrSum la lb k) ((timesL (la ++ lb))[k])) := fun k h => accK_succ h
  have HW1 : Hid (∀ k (h : k < (timesL (la ++ lb)).length), lrWide la lb (k + 1) = lrW la lb (lrWide la lb k) ((timesL (la ++ lb))[k])) := fun k h => accK_succ h
  have HC : Hid (∀ t, cntB (riskB t) (la ++ lb) ≤ 96) := fun t => Nat.le_trans List.countP_le_length (by omega)
  have hlen : (timesL (la ++ lb)).length ≤ 96 := by have := timesL_len (la ++ lb); omega
  have ra' := ra
  have rb' := rb
  rw [h] at HA
  rw [h2] at HB
  clear h h2 hok
  generalize hab : la ++ lb = ab at *
  replace hab := Lib.hid hab
  clear hll
  obtain ⟨⟨-, a1, c1, rfl, -, -, -, -⟩, -⟩ := ra
  obtain ⟨⟨-, a2, c2, rfl, -, -, -, -⟩, -⟩ := rb
  go_enter Try.func10, Try.ntmps10
  go_wp2_with fail
  refine HA.out.mono ?_
  rintro e w1 ⟨rfl, X0⟩
  go_wp2_with fail
  refine (HB.out _ (rb'.ext X0)).mono ?_
  rintro e w2 ⟨rfl, X1⟩
  replace X0 := X0.trans X1
  replace ra' := ra'.ext X0
  replace rb' := rb'.ext X0
  go_wp2_with (first
    | (at_builtin; refine wpList_copy infoLife rfl (by decide) Try.underlying27 rfl rfl rfl (World.ownsRow_lit (base := w2.heap.size) (e := 61) (size := 2) w2 #[] 0 (Nat.le_refl _) (by decide) rfl) rfl (ra'.1.alloc _) hla.1 (lfs_one la) (by omega) (by decide) (by simp) ?_; intro g1 cap1 wc hg1 own1 hgr1; have XC : Ext w2 wc := (below_alloc w2 _).grown hgr1 (by simp) (fun k hk => by cases hk; exact Nat.le_refl _))
    | (at_builtin; refine wpList_allL hab.out infoLife rfl Try.underlying27 rfl rfl rfl own1 rfl (rb'.ext XC).1 hlb.1 (by omega) (by decide) XC.size ?_; intro g2 cap2 wd hg2 own2 hgr2))
  have X3 : Ext w2 wd := XC.grown hgr2 XC.size (fun k hk => by cases hk; exact hg1)
  have ownb : OwnL w2.heap.size wd g2 cap2 ab := own2
  replace ra' := ra'.ext X3
  replace X0 := X0.trans X3
  have RB := ownb.rd h32.out
  clear X3 ownb X1 rb' h32 own1 own2 hgr1 hgr2 XC hg1 hg2
  refine (HF.out _ _ RB).mono ?_
  rintro e w4 ⟨g, cap, rfl, own, X4⟩
  have R := HTR.out _ _ _ _ own
  replace X0 := X0.trans X4
  replace ra' := ra'.ext X4
  replace RB := RB.ext X4
  clear X4 own HF HTR HA HB
  generalize timesL ab = T at *
  go_wp2_with fail
  go_loopw [10, 8, 9] (fun i s d wr => ∃ (k sb wb : Nat), k ≤ T.length ∧ i = .int .i64 k ∧ s = .float .f32 sb ∧ d = .float .f32 wb ∧ Hid (cn .f32 sb = lrSum la lb k) ∧ Hid (cn .f32 wb = lrWide la lb k) ∧ Ext w4 wr) (fun i _ _ _ => T.length - (intOf i).toNat)
  case atStart => exact ⟨0, 0, 0, Nat.zero_le _, rfl, rfl, rfl, rfl, rfl, Ext.refl _⟩
  case round =>
    obtain ⟨k, sb, wb, hk, rfl, rfl, rfl, HS, HW, X2⟩ := hrel
    by_cases hlt : k < T.length
    · obtain ⟨b1, o1, hbo, hb1, hc1⟩ := (R.ext X2).at hlt
      obtain ⟨rfl, rfl⟩ : g = b1 ∧ 0 = o1 := by simpa using hbo
      rw [Nat.zero_add] at hc1
      replace HS1 := Lib.hid (HS1.out k hlt)
      replace HW1 := Lib.hid (HW1.out k hlt)
      replace HP := Lib.hid (HP.out _ (List.getElem_mem hlt))
      generalize T[k] = t at *
      have hR := HC.out t
      have hD1 := HP.out
      have hD := fell_risk t ab
      have hA := (hab.out ▸ cntB_left (riskB t) la lb : cntB (riskB t) la ≤ cntB (riskB t) ab)
      have hdA := fell_risk t la
      have HT1' := Lib.hid (fun v W r => HT1.out v W r t)
      have HT2' := Lib.hid (fun v W r => HT2.out v W r t)
      have HT3' := Lib.hid (fun v W r => HT3.out v W r t)
      have HT4' := Lib.hid (fun v W r => HT4.out v W r t)
      have HQS : Hid (lrS la lb (lrSum la lb k) t = fop .add .f32 (lrSum la lb k) (fop .sub .f32 (cn .f32 (floatOfInt .f32 (cntB (fellB t) la))) (fop .quo .f32 (cn .f32 (floatOfInt .f32 ((cntB (fellB t) ab * cntB (riskB t) la : Nat) : Int))) (cn .f32 (floatOfInt .f32 (cntB (riskB t) ab)))))) := by
        show _ = _
        rw [ofI_natG, ofI_natG, ofI_natG]; unfold lrS; rw [hab.out]
      have HQW : Hid (lrX (cntB (fellB t) ab) (cntB (riskB t) la) (cntB (riskB t) ab) =
          fop .mul .f32 (fop .mul .f32 (fop .mul .f32 (cn .f32 (floatOfInt .f32 (cntB (fellB t) ab))) (fop .quo .f32 (cn .f32 (floatOfInt .f32 (cntB (riskB t) la))) (cn .f32 (floatOfInt .f32 (cntB (riskB t) ab))))) (fop .sub .f32 (cn .f32 1065353216) (fop .quo .f32 (cn .f32 (floatOfInt .f32 (cntB (riskB t) la))) (cn .f32 (floatOfInt .f32 (cntB (riskB t) ab))))))
            (fop .quo .f32 (cn .f32 (floatOfInt .f32 ((cntB (riskB t) ab - cntB (fellB t) ab : Nat) : Int))) (cn .f32 (floatOfInt .f32 ((cntB (riskB t) ab - 1 : Nat) : Int))))) := by
        show _ = _
        rw [ofI_natG, ofI_natG, ofI_natG, ofI_natG, ofI_natG]
        rfl
      have HWW : Hid (lrW la lb (lrWide la lb k) t = if cntB (riskB t) ab = 1 then lrWide la lb k else fop .add .f32 (lrWide la lb k) (lrX (cntB (fellB t) ab) (cntB (riskB t) la) (cntB (riskB t) ab))) := by show _ = _; unfold lrW; rw [hab.out]
      clear hbo HP HC HT1 HT2 HT3 HT4 hdA
      generalize cntB (fellB t) la = NA at *
      generalize cntB (riskB t) la = RA at *
      generalize cntB (fellB t) ab = ND at *
      generalize cntB (riskB t) ab = NR at *
      have s1 : IntKind.i64.wrap ((ND : Int) * (RA : Int)) = ((ND * RA : Nat) : Int) := by
        have h1 : ND * RA ≤ 96 * 96 := Nat.mul_le_mul (by omega) (by omega)
        have e : ((ND : Int) * (RA : Int)) = ((ND * RA : Nat) : Int) := by push_cast; rfl
        rw [e, IntWalk.i64_in _ (by omega)]
      have s2 : IntKind.i64.wrap ((NR : Int) - (ND : Int)) = ((NR - ND : Nat) : Int) := by rw [IntWalk.i64_in ((NR : Int) - (ND : Int)) (by omega)]; omega
      have s3 : IntKind.i64.wrap ((NR : Int) - 1) = ((NR - 1 : Nat) : Int) := by rw [IntWalk.i64_in ((NR : Int) - 1) (by omega)]; omega
      generalize NR - ND = N2 at *
      generalize NR - 1 = N3 at *
      generalize ND * RA = N4 at *
      by_cases hq : NR = 1
      · rw [if_pos hq] at HWW
        have hq2 : ¬ ((NR : Int) > 1) := by omega
        clear HQW hR hD1 hD hA hq s2 s3
        go_wp2_with fail
        refine (HT3'.out _ _ (RB.ext X2)).mono ?_
        rintro e w5 ⟨rfl, rfl⟩
        go_wp2_with fail
        refine (HT4'.out _ _ (RB.ext X2)).mono ?_
        rintro e w5 ⟨rfl, rfl⟩
        go_wp2_with fail
        refine (HT2'.out _ _ (ra'.ext X2)).mono ?_
        rintro e w5 ⟨rfl, rfl⟩
        go_wp2_with fail
        refine (HT1'.out _ _ (ra'.ext X2)).mono ?_
        rintro e w5 ⟨rfl, rfl⟩
        clear hc1 hb1
        go_wp2_with (first | (refine wpList_fcmp rfl rfl rfl rfl rfl (by first | with_reducible assumption | exact rfl) ?_) | (refine wpList_fop rfl rfl rfl rfl rfl ?_; intro fb nf hfb hfl; replace hfb := Lib.hid hfb; replace hfl := Lib.hid hfl))
        rename_i b1 n1 e1 l1 b2 n2 e2 l2 h0
        have N1 : Hid (cn .f32 fb = lrSum la lb (k + 1)) := by
          show _ = _; rw [HS1.out, HQS.out, hfb.out, e2.out, e1.out, HS.out]
        have N2 : Hid (cn .f32 wb = lrWide la lb (k + 1)) := by
          show _ = _; rw [HW1.out, HWW.out, HW.out]
        go_roundw
        case rel => exact ⟨k + 1, fb, wb, by omega, by go_num, rfl, rfl, N1, N2, X2.trans (Ext.drewN _ _)⟩
        case measure => simp [intOf]; omega
      · rw [if_neg hq] at HWW
        have hq2 : (NR : Int) > 1 := by omega
        clear hR hD1 hD hA hq
        go_wp2_with fail
        refine (HT3'.out _ _ (RB.ext X2)).mono ?_
        rintro e w5 ⟨rfl, rfl⟩
        go_wp2_with fail
        refine (HT4'.out _ _ (RB.ext X2)).mono ?_
        rintro e w5 ⟨rfl, rfl⟩
        go_wp2_with fail
        refine (HT2'.out _ _ (ra'.ext X2)).mono ?_
        rintro e w5 ⟨rfl, rfl⟩
        go_wp2_with fail
        refine (HT1'.out _ _ (ra'.ext X2)).mono ?_
        rintro e w5 ⟨rfl, rfl⟩
        clear hc1 hb1
        go_wp2_with (first | (refine wpList_fcmp rfl rfl rfl rfl rfl (by first | with_reducible assumption | exact rfl) ?_) | (refine wpList_fop rfl rfl rfl rfl rfl ?_; intro fb nf hfb hfl; replace hfb := Lib.hid hfb; replace hfl := Lib.hid hfl))
        rename_i b1 n1 e1 l1 b2 n2 e2 l2 b3 n3 e3 l3 b4 n4 e4 l4 b5 n5 e5 l5 b6 n6 e6 l6 b7 n7 e7 l7 b8 n8 e8 l8 b9 n9 e9 l9
        have N1 : Hid (cn .f32 b3 = lrSum la lb (k + 1)) := by
          show _ = _; rw [HS1.out, HQS.out, e3.out, e2.out, e1.out, HS.out]
        have N2 : Hid (cn .f32 fb = lrWide la lb (k + 1)) := by
          show _ = _; rw [HW1.out, HWW.out, hfb.out, HW.out, e9.out, e8.out, e7.out, e6.out, e5.out, e4.out, HQW.out]
        go_roundw
        case rel => exact ⟨k + 1, b3, fb, by omega, by go_num, rfl, rfl, N1, N2, X2.trans (Ext.drewN _ _)⟩
        case measure => simp [intOf]; omega
    · obtain rfl : k = T.length := by omega
      have hO := HO.out
      have hfin := HWF.out
      rw [← HW.out] at hfin
      unfold lrZ at hO
      rw [← HW.out] at hO
      cases q0 : fcmp .gtr .f32 (cn .f32 wb) (cn .f32 0)
      · rw [q0] at hO
        replace HO := Lib.hid hO
        have HAB : Hid (aboveB (cn .f32 wb) = false) := by show _ = _; unfold aboveB; rw [hfin, q0]; rfl
        clear hO hfin
        go_wp2_with fail
        refine (l02Above_eq HAB.out _).mono ?_
        rintro e w5 ⟨rfl, hx⟩
        replace X2 := X2.trans hx
        go_wp2_with (first | (refine wpList_fcmp rfl rfl rfl rfl rfl (by first | with_reducible assumption | exact rfl) ?_) | (refine wpList_fop rfl rfl rfl rfl rfl ?_; intro fb nf hfb hfl; replace hfb := Lib.hid hfb; replace hfl := Lib.hid hfl))
        go_ret2
        rw [HO.out]
        exact ⟨X0.trans X2, rfl⟩
      · rw [q0, if_pos rfl, ← HS.out] at hO
        replace HO := Lib.hid hO
        have HAB : Hid (aboveB (cn .f32 wb) = true) := by show _ = _; unfold aboveB; rw [hfin, q0]; rfl
        clear hO hfin
        go_wp2_with fail
        refine (l02Above_eq HAB.out _).mono ?_
        rintro e w5 ⟨rfl, hx⟩
        replace X2 := X2.trans hx
        clear hx
        go_wp2_with (first | (refine wpList_fcmp rfl rfl rfl rfl rfl (by first | with_reducible assumption | exact rfl) ?_) | (refine wpList_fop rfl rfl rfl rfl rfl ?_; intro fb nf hfb hfl; replace hfb := Lib.hid hfb; replace hfl := Lib.hid hfl))
        rename_i b1 n1 e1 l1 K0 a0
        have N1 : Hid (cn .f32 fb = fop .quo .f32 (fop .mul .f32 (cn .f32 sb) (cn .f32 sb)) (cn .f32 wb)) := by show _ = _; rw [hfb.out, e1.out]
        refine (l02Number_any fb _).mono ?_
        rintro e w7 ⟨rfl, hx⟩
        replace X2 := X2.trans ((Ext.drewN _ _).trans hx)
        go_wp2_with fail
        go_ret2
        rw [HO.out, ← N1.out]
        exact nmPost_of (X0.trans X2) hfl.out

set_option maxRecDepth 100000 in
set_option maxHeartbeats 4000000 in
theorem FnExactLogRankOf_law (va vb : Value) (la lb : List Lf) (o : Option Nat) (w : World) (ra : RdL w va la) (rb : RdL w vb lb)
    (hs : ∀ w va vb, RdL w va la → RdL w vb lb → Calls Try.prog 10 #[va, vb] w (NmPost o w)) (hi : ∀ w va vb, RdL w va la → RdL w vb lb → Calls Try.prog 12 #[va, vb] w (NmPost o w)) :
    Calls Try.prog 3 #[va, vb] w fun e w' => e = .returned (.bool true) ∧ Ext w w' := by
  have HS := Lib.hid hs
  have HI := Lib.hid hi
  have ra' := ra
  have rb' := rb
  have wa : (Try.prog.underlying 24).isSome = true := by kernel_rfl
  obtain ⟨⟨-, a1, c1, rfl, p1, p2, -, -⟩, -⟩ := ra
  obtain ⟨⟨-, a2, c2, rfl, q1, q2, -, -⟩, -⟩ := rb
  have p3 : la.length ≤ maxLen := Nat.le_trans p1 p2
  have q3 : lb.length ≤ maxLen := Nat.le_trans q1 q2
  clear hs hi p1 p2 q1 q2
  by_cases hn : la.length ≤ 1048576
  · by_cases hm : la.length + lb.length ≤ 1048576
    · go_enter Try.func3, Try.ntmps3
      go_wp2_with fail
      refine (szLifeS_any _ _ _ _ _ p3 (by decide) (by decide)).mono ?_
      rintro e w0 ⟨rfl, rfl⟩
      rw [if_neg (by omega)]
      have hge : ¬ (1048576 : Int) - la.length < 0 := by omega
      go_wp2_with fail
      refine (szLifeS_any _ _ _ _ _ q3 (by omega) (by omega)).mono ?_
      rintro e w0 ⟨rfl, rfl⟩
      rw [if_neg (by omega)]
      have hge2 : ¬ (1048576 : Int) - la.length - lb.length < 0 := by omega
      go_wp2_with fail
      refine (toLifeS_any _ la _ ra' hn).mono ?_
      rintro e w1 ⟨g1, rfl, X1, own1⟩
      have r1 : RdL w1 (.slice (some ⟨g1, 0, none⟩) la.length la.length) la := own1.rd ra'.2
      clear own1
      go_wp2_with fail
      refine (toLifeS_any _ lb _ (rb'.ext X1) (by omega)).mono ?_
      rintro e w2 ⟨g2, rfl, X2, own2⟩
      have r2 : RdL w2 (.slice (some ⟨g2, 0, none⟩) lb.length lb.length) lb := own2.rd rb'.2
      clear own2
      go_wp2_with fail
      refine (HS.out _ _ _ (r1.ext X2) r2).mono ?_
      rintro e w3 ⟨X3, h2⟩
      obtain ⟨b, c, rfl, hb⟩ : ∃ b c, e = .returned (.tuple #[.float .f32 b, .bool c]) ∧ Hid (cn .f32 b = o.getD (cn .f32 0) ∧ c = o.isSome) := by
        cases o with
        | none => exact ⟨0, false, h2, rfl, rfl⟩
        | some x => obtain ⟨b, rfl, h, _⟩ := h2; exact ⟨b, true, rfl, h, rfl⟩
      have Y : Ext w w3 := X1.trans (X2.trans X3)
      clear h2 r1 r2 X1 X2 X3
      go_wp2_with fail
      refine (toLifeS_any _ la _ (ra'.ext Y) hn).mono ?_
      rintro e w4 ⟨g3, rfl, X4, own3⟩
      have r3 : RdL w4 (.slice (some ⟨g3, 0, none⟩) la.length la.length) la := own3.rd ra'.2
      replace Y := Y.trans X4
      clear own3 X4
      go_wp2_with fail
      refine (toLifeS_any _ lb _ (rb'.ext Y) (by omega)).mono ?_
      rintro e w5 ⟨g4, rfl, X5, own4⟩
      have r4 : RdL w5 (.slice (some ⟨g4, 0, none⟩) lb.length lb.length) lb := own4.rd rb'.2
      replace Y := Y.trans X5
      replace r3 := r3.ext X5
      clear own4 X5
      go_wp2_with fail
      refine (HI.out _ _ _ r3 r4).mono ?_
      rintro e w6 ⟨X6, h4⟩
      obtain ⟨b', c', rfl, hb'⟩ : ∃ b c, e = .returned (.tuple #[.float .f32 b, .bool c]) ∧ Hid (cn .f32 b = o.getD (cn .f32 0) ∧ c = o.isSome) := by
        cases o with
        | none => exact ⟨0, false, h4, rfl, rfl⟩
        | some x => obtain ⟨b, rfl, h, _⟩ := h4; exact ⟨b, true, rfl, h, rfl⟩
      clear h4
      have hcc : c' = c := hb'.out.2.trans hb.out.2.symm
      subst hcc
      have Hbb : Hid (cn .f32 b' = cn .f32 b) := hb'.out.1.trans hb.out.1.symm
      replace r3 := r3.ext X6
      replace r4 := r4.ext X6
      replace Y : Ext w w6 := Y.trans X6
      clear hb hb' X6
      go_wp2_with (first | (refine wpList_wide wa Try.underlying30 rfl rfl rfl ?_; intro zb zn hzb hzl; clear hzl; first | (have hsame := Lib.hid (wide_same Hbb.out hza.out hzb); clear hzb) | (have hza := Lib.hid hzb; clear hzb)))
      refine (sameFloat_any _ _ _ hsame.out).mono ?_
      rintro e w7 ⟨rfl, X7⟩
      replace X7 : Ext w6 w7 := (Ext.drewN _ _).trans X7
      replace r3 := r3.ext X7
      replace r4 := r4.ext X7
      replace Y := Y.trans X7
      clear X7
      go_wp2_with fail
      refine (toLifeS_any _ la _ (ra'.ext Y) hn).mono ?_
      rintro e w8 ⟨g6, rfl, X8, own6⟩
      have r6 : RdL w8 (.slice (some ⟨g6, 0, none⟩) la.length la.length) la := own6.rd ra'.2
      replace r3 := r3.ext X8
      replace r4 := r4.ext X8
      replace Y := Y.trans X8
      clear own6 X8
      go_wp2_with fail
      refine (eqLifeS_any _ _ la la _ r3 r6 rfl).mono ?_
      rintro e w9 ⟨rfl, X9⟩
      replace r4 := r4.ext X9
      replace Y := Y.trans X9
      clear X9 r3 r6
      go_wp2_with fail
      refine (toLifeS_any _ lb _ (rb'.ext Y) (by omega)).mono ?_
      rintro e wA ⟨g7, rfl, XA, own7⟩
      have r7 : RdL wA (.slice (some ⟨g7, 0, none⟩) lb.length lb.length) lb := own7.rd rb'.2
      replace r4 := r4.ext XA
      replace Y := Y.trans XA
      clear own7 XA
      go_wp2_with fail
      refine (eqLifeS_any _ _ lb lb _ r4 r7 rfl).mono ?_
      rintro e wB ⟨rfl, XB⟩
      go_wp2_with fail
      go_ret
      exact ⟨rfl, Y.trans XB⟩
    · go_enter Try.func3, Try.ntmps3
      go_wp2_with fail
      refine (szLifeS_any _ _ _ _ _ p3 (by decide) (by decide)).mono ?_
      rintro e w0 ⟨rfl, rfl⟩
      rw [if_neg (by omega)]
      have hge : ¬ (1048576 : Int) - la.length < 0 := by omega
      go_wp2_with fail
      refine (szLifeS_any _ _ _ _ _ q3 (by omega) (by omega)).mono ?_
      rintro e w0 ⟨rfl, rfl⟩
      rw [if_pos (by omega)]
      go_wp2_with fail
      go_ret
      exact ⟨rfl, Ext.refl _⟩
  · go_enter Try.func3, Try.ntmps3
    go_wp2_with fail
    refine (szLifeS_any _ _ _ _ _ p3 (by decide) (by decide)).mono ?_
    rintro e w0 ⟨rfl, rfl⟩
    rw [if_pos (by omega)]
    go_wp2_with fail
    go_ret
    exact ⟨rfl, Ext.refl _⟩
theorem logRank_walk (v1 v2 : Value) (w : World) (h : ArgLives w v1) (h2 : ArgLives w v2) :
    Calls Try.prog 3 #[v1, v2] w fun e w' => e = .returned (.bool true) ∧ Ext w w' := by
  obtain ⟨a, n, cap, la, rfl, r⟩ := h
  obtain ⟨a', n', cap', lb, rfl, r'⟩ := h2
  exact FnExactLogRankOf_law _ _ la lb (lrO la lb) w r r' (fun w va vb ra rb => specLogRankOf_any va vb la lb w ra rb) (fun w va vb ra rb => implLogRankOf_any va vb la lb w ra rb)
theorem fnExactLogRankOf_own : ownKnob Try.prog.godebug = none := by kernel_rfl
theorem fnExactLogRankOf_laid : laidOutB Try.prog = true := by kernel_rfl

set_option maxRecDepth 100000 in
theorem fnExactLogRankOf_lifted (os : Os) (started : os.Started) (H : Type) (enc : TypeId × Value → H) :
    ReturnsInHanded {} Try.checked os 3 .any (Rows.fnExactLogRankOfSpec.pre6 enc Try.prog Try.f3 Rows.fnExactLogRankOfRow.domain false) (Rows.fnExactLogRankOfSpec.post enc Try.prog Try.f3 false true false false) := by
  refine returnsInHanded_of_change (C := Try.checked) fnExactLogRankOf_own started (by kernel_rfl) Try.func3
    (ChangeSpec.witness6 (enc := enc) (C := Try.checked) false ⟨#[], #[.slice none 0 0, .slice none 0 0], []⟩ 8 (by kernel_rfl) (by kernel_rfl) (by kernel_rfl) (by kernel_rfl)) ?_
  intro W base args ds gs before hval0 hW hcnd _
  have hval : ∀ (j : Nat) t v, Try.f3.params[j]? = some t → args[j]? = some v → Value.okWide Try.prog W .any base t v := hval0
  have hW' := hW
  obtain ⟨p, q, hA0, hV, rfl, hfz, hnd⟩ := hW
  have hA : DataW.TrodAll enc Try.prog W 0 (fun _ => true) true Try.f3.params.toList args.toList ds p := hA0
  rw [Try.params3] at hA hval
  obtain ⟨v0, vs0, d0, ds0, p0, q0, hargs, rfl, rfl, h0, r0⟩ := trodAll_cons hA
  obtain ⟨v1, vs1, d1, ds1, p1, q1, rfl, rfl, rfl, h1, r1⟩ := trodAll_cons r0
  obtain ⟨rfl, rfl, rfl⟩ := trodAll_nil r1
  obtain rfl : args = #[v0, v1] := by cases args; simp_all
  obtain ⟨rfl, rfl⟩ := trodVars_none hV
  have lt0 : ∀ x ∈ p0, x.block < W.heap.size := by obtain ⟨m, hm⟩ := h0; exact DataW.trod_lt m _ _ _ hm
  have w0 := argLives Try.underlying22 Try.underlying69 (by kernel_rfl) (by kernel_rfl) Try.underlying24 Try.underlying4 (hval 0 22 v0 rfl rfl) h0
  have lt1 : ∀ x ∈ p1, x.block < W.heap.size := by obtain ⟨m, hm⟩ := h1; exact DataW.trod_lt m _ _ _ hm
  have w1 := argLives Try.underlying22 Try.underlying69 (by kernel_rfl) (by kernel_rfl) Try.underlying24 Try.underlying4 (hval 1 22 v1 rfl rfl) h1
  clear hA0 hval0
  refine (logRank_walk v0 v1 W w0 w1).mono fun e W' ⟨he, bel⟩ => ?_
  subst he
  exact ⟨_, rfl, _, _, _, [], _, [], hW', trodAll_mk1 (shut_bool Try.underlying4 _), (trodAll_cons_mk (Below.trod fnExactLogRankOf_laid (by kernel_rfl) (of_decide_eq_true (by kernel_rfl)) h0 bel lt0) (trodAll_cons_mk (Below.trod fnExactLogRankOf_laid (by kernel_rfl) (of_decide_eq_true (by kernel_rfl)) h1 bel lt1) trodAll_mk0)), rfl, bel.below.frame _, fun h => by cases h⟩

theorem fnExactLogRankOf_over : Rows.fnExactLogRankOfRow.holds Try.pinned (OpenSpec.ofChange Rows.fnExactLogRankOfSpec) :=
  OpenClaim.holds_of_wide 3 Try.f3 rfl rfl rfl rfl rfl rfl rfl ⟨rfl, rfl, rfl, rfl, rfl⟩ rfl rfl rfl rfl rfl (by kernel_rfl) Try.func3 (by kernel_rfl)
    (of_decide_eq_true (by kernel_rfl)) (by unfold Func.isWrapper; first | (rw [if_pos (by decide +kernel)]; kernel_rfl) | (rw [if_neg (by decide +kernel)]; exact ⟨rfl, rfl⟩))
    (fun os started H enc _ => fnExactLogRankOf_lifted os started H enc)

/-- The statement. -/
theorem fnExactLogRankOf_holds : Rows.FnExactLogRankOfSaid := fnExactLogRankOf_over

end Go.Proofs.Ytlbmjeennpccmaa
