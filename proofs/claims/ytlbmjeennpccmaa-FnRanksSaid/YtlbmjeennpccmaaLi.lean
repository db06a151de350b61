
/- The stable sort of lives: insertion. Condition: fewer than 2^20 lives, each with a time that is finite and greater than 0. -/
import Derived.Test.YtlbmjeennpccmaaLg
import Derived.Test.YtlbmjeennpccmaaLk
namespace Go.Proofs.Ytlbmjeennpccmaa
open Go Go.RowKit Go.ChangeShapes Go.WideShapes Go.ChangeAt

attribute [local go_sem] run_store_float
attribute [local irreducible] LX

/-- The program's comparison, as a value. -/
def cmpV : Value := .func (.func 96) #[] #[]
def AllOk (ls : List Lf) : Prop := ∀ x ∈ ls, okL x
theorem AllOk.perm {xs ys : List Lf} (h : AllOk xs) (p : ys.Perm xs) : AllOk ys := fun x hx => h x (p.mem_iff.1 hx)

theorem cmp_enter : ∀ args w, (callFunc 96 args).run Try.prog w = .ok (.enter 96 args) w := enterOk Try.func96 (by kernel_rfl) rfl

set_option maxRecDepth 100000 in
set_option maxHeartbeats 8000000 in
theorem insSort_any (A X Z X0 : List Lf) (a b g cap B L : Nat) (ai bi : Int) (w : World) (own : OwnL B w g cap X0) (hX : X0 = A ++ (X ++ Z)) (ha : A.length = a) (hb : a + X.length = b) (hL : X0.length = L) (hz : L ≤ 1048576) (hok : AllOk X) (hai : ai = a) (hbi : bi = b) :
    Calls Try.prog 112 #[.slice (some ⟨g, 0, none⟩) L cap, .int .i64 ai, .int .i64 bi, .func (.func 96) #[] #[]] w fun e w' => e = .returned (.tuple #[]) ∧ w.grownBy w' (some g) ∧ ∃ X', X'.Perm X ∧ Srt keyL X' ∧ OwnL B w' g cap (A ++ (X' ++ Z)) := by
  subst hai; subst hbi
  have hbL : b ≤ L := by rw [← hL, hX]; simp only [List.length_append]; omega
  have hent := cmp_enter
  have HX := Lib.hid hX
  have HOK := Lib.hid hok
  clear hX hok
  go_enter Try.func112, Try.ntmps112
  go_wp2_with fail
  go_loopw [8] (fun i wr => ∃ (k : Nat) (X' Y : List Lf), 1 ≤ k ∧ k ≤ X.length + 1 ∧ i = .int .i64 ((a : Int) + k) ∧ Hid (X'.Perm X) ∧ Hid (Srt keyL (X'.take k)) ∧ Hid (Y = A ++ (X' ++ Z)) ∧ Y.length = L ∧ w.grownBy wr (some g) ∧ OwnL B wr g cap Y) (fun i _ => b - (intOf i).toNat)
  case atStart => exact ⟨1, X, X0, by omega, by omega, rfl, List.Perm.refl _, (by show Srt _ _; cases X with | nil => exact srt_nil | cons x l => exact srt_one x), HX, hL, grownBy_refl _ _, own⟩
  case round =>
    clear own
    obtain ⟨k, X', Y, hk1, hk2, rfl, HP, HS, HY, hYL, G, own⟩ := hrel
    by_cases hlt : a + k < b
    · have hlt' : (a : Int) + k < b := by omega
      have hXl : X'.length = X.length := HP.out.length_eq
      obtain ⟨x, hx⟩ : ∃ x, x = X'[k]'(by omega) := ⟨_, rfl⟩
      have hsp : X' = X'.take k ++ x :: X'.drop (k + 1) := by
        rw [hx, ← List.drop_eq_getElem_cons (by omega), List.take_append_drop]
      obtain ⟨T, hT⟩ : ∃ T, T = X'.take k := ⟨_, rfl⟩
      obtain ⟨R, hR⟩ : ∃ R, R = X'.drop (k + 1) := ⟨_, rfl⟩
      have hTl : T.length = k := by rw [hT, List.length_take]; omega
      rw [← hT, ← hR] at hsp
      rw [← hT] at HS
      have hYe : Y = upL A T (R ++ Z) x k := by
        rw [HY.out, hsp]; unfold upL
        rw [List.take_of_length_le (by omega), List.drop_of_length_le (by omega)]; simp only [List.append_assoc, List.cons_append, List.nil_append]
      have hokx : okL x := HOK.out x (HP.out.mem_iff.1 (by rw [hx]; exact List.getElem_mem _))
      have hokT : AllOk T := fun y hy => HOK.out y (HP.out.mem_iff.1 (by rw [hsp]; exact List.mem_append_left _ hy))
      have hperm : (T ++ x :: R).Perm X := by rw [← hsp]; exact HP.out
      have HPM := Lib.hid hperm
      have HYE := Lib.hid hYe
      have HKX := Lib.hid hokx
      have HKT := Lib.hid hokT
      have HTL := Lib.hid hTl
      have HAL := Lib.hid ha
      clear hperm hYe hokx hokT hsp hx hT hR HP HY hTl hXl
      obtain ⟨wo, rfl⟩ : ∃ wo : World, wo = wr := ⟨_, rfl⟩
      go_wp2_with fail
      go_loopw [9] (fun j wr => ∃ (t p : Nat) (Y : List Lf), t ≤ k ∧ p = a + t ∧ j = .int .i64 p ∧ Hid (Y = upL A T (R ++ Z) x t) ∧ Y.length = L ∧ Hid (∀ h : t < T.length, keyL x ≤ keyL T[t]) ∧ w.grownBy wr (some g) ∧ OwnL B wr g cap Y) (fun j _ => (intOf j).toNat - a)
      case atStart => exact ⟨k, a + k, Y, Nat.le_refl _, rfl, by go_num, HYE, hYL, (fun h => by have := HTL.out; omega), G, own⟩
      case round =>
        clear own hYL G HYE
        obtain ⟨t, p, Y, ht, hpt, rfl, HYE, hYL, HB, G, own⟩ := hrel
        have hTL := HTL.out
        have hins : ∀ (_ : ∀ (_ : 0 < t), keyL (T[t - 1]'(by omega)) ≤ keyL x), ∃ Xn : List Lf, Xn.Perm X ∧ Srt keyL (Xn.take (k + 1)) ∧ Y = A ++ (Xn ++ Z) := fun h1 => by
          refine ⟨T.take t ++ x :: (T.drop t ++ R), ?_, ?_, ?_⟩
          · refine List.Perm.trans ?_ HPM.out
            have h := (upL_perm [] T [] x t).append_right R
            simp only [List.append_assoc, List.cons_append] at h
            exact h.trans ((List.perm_middle (a := x) (l₁ := T) (l₂ := R)).symm)
          · have e : (T.take t ++ x :: (T.drop t ++ R)).take (k + 1) = T.take t ++ x :: T.drop t := by
              have : T.take t ++ x :: (T.drop t ++ R) = (T.take t ++ x :: T.drop t) ++ R := by simp only [List.append_assoc, List.cons_append]
              rw [this, List.take_append_of_le_length (by rw [List.length_append, List.length_cons, List.length_take, List.length_drop]; omega), List.take_of_length_le (by rw [List.length_append, List.length_cons, List.length_take, List.length_drop]; omega)]
            rw [e]
            exact srt_ins HS.out t (by omega) h1 (fun h => HB.out h)
          · rw [HYE.out]; unfold upL; simp only [List.append_assoc, List.cons_append]
        by_cases h0 : t = 0
        · have hd : decide ((a : Int) < (p : Int)) = false := by simp; omega
          have hd2 : ¬ (a : Int) < (p : Int) := by omega
          have hd3 : p ≤ a := by omega
          obtain ⟨Xn, n1, n2, n3⟩ := hins (fun h => by omega)
          have N1 := Lib.hid n1
          have N2 := Lib.hid n2
          have N3 := Lib.hid n3
          clear hins n1 n2 n3 h0 hpt hTL
          go_wp2_with fail
          refine wp_region_rel 17 (fun _ _ => True) (fun _ _ _ => True) (by kernel_rfl) (by kernel_rfl) (by kernel_rfl) ?_
          dsimp only [List.take, List.drop, List.length]
          refine LX_det (.int .i64 p) (by kernel_rfl) rfl (fun w' hx _ => ?_) ?_
          · go_simp
          refine LX_det (.int .i64 a) (by kernel_rfl) rfl (fun w' hx _ => ?_) ?_
          · go_simp
          refine LX_det (.bool false) (by kernel_rfl) rfl (fun w' hx _ => ?_) ?_
          · go_simp
          refine LX_det (.bool false) (by kernel_rfl) rfl (fun w' hx _ => ?_) ?_
          · go_simp
          iterate 12 refine LX_skip (by kernel_rfl) ?_
          refine LX_det (.bool false) (by kernel_rfl) rfl (fun w' hx _ => ?_) ?_
          · go_simp
          refine LX_nil fun w2 hx _ => ?_
          refine wpList_nil ?_
          simp only [Act.put, List.setIfInBounds_toArray, List.set_cons_succ, List.set_cons_zero]
          go_wp2_with fail
          go_roundw
          case rel => exact ⟨k + 1, Xn, Y, by omega, by omega, by go_num, N1, N2, N3, hYL, G.trans (grown_of_ext hx _), own.ext hx⟩
          case measure => simp [intOf]; omega
        · obtain ⟨u, rfl⟩ : ∃ u, t = u + 1 := ⟨t - 1, by omega⟩
          obtain ⟨q, hq⟩ : ∃ q, q = a + u := ⟨_, rfl⟩
          obtain rfl : p = q + 1 := by omega
          have hpL : q + 1 < L := by rw [hq]; omega
          have cp := own.cells (k := q + 1) (by omega)
          have cq := own.cells (k := q) (by omega)
          have hxe : Y[q + 1]'(by omega) = x := by
            have h := HYE.out
            subst h
            unfold upL
            rw [List.getElem_append_right (by have := HAL.out; omega), List.getElem_append_right (by rw [List.length_take]; have := HAL.out; omega)]
            have : q + 1 - A.length - (T.take (u + 1)).length = 0 := by rw [List.length_take]; have := HAL.out; omega
            simp only [this, List.getElem_cons_zero]
          have hye : Y[q]'(by omega) = T[u]'(by omega) := by
            have h := HYE.out
            subst h
            unfold upL
            rw [List.getElem_append_right (by have := HAL.out; omega), List.getElem_append_left (by rw [List.length_take]; have := HAL.out; omega), List.getElem_take]
            congr 1
            have := HAL.out; omega
          have HSW := Lib.hid (fun (W : World) (o : OwnL B W g cap Y) => o.swap (i := q + 1) (j := q) (by omega) (by omega))
          have hsw2 : swp2 Y (q + 1) q = upL A T (R ++ Z) x u := by
            rw [HYE.out, hq]; exact upL_down HAL.out (by omega)
          have HL2 : Hid ((upL A T (R ++ Z) x u).length = L) := by show _ = _; rw [← hsw2, swp2_len]; exact hYL
          have hcl : ∀ W : World, OwnL B W g cap Y → (W.cell? ⟨g, (q + 1) * 2, none⟩ = some (.float .f32 (Y[q + 1]'(by omega)).1) ∧ W.cell? ⟨g, (q + 1) * 2 + 1, none⟩ = some (.bool (Y[q + 1]'(by omega)).2)) ∧
              (W.cell? ⟨g, q * 2, none⟩ = some (.float .f32 (Y[q]'(by omega)).1) ∧ W.cell? ⟨g, q * 2 + 1, none⟩ = some (.bool (Y[q]'(by omega)).2)) := fun W o => ⟨o.cells (k := q + 1) (by omega), o.cells (k := q) (by omega)⟩
          rw [hxe, hye] at hcl
          have HCL := Lib.hid hcl
          clear hcl
          rw [hxe] at cp
          rw [hye] at cq
          rw [hxe, hye, hsw2] at HSW
          have hoky : okL (T[u]'(by omega)) := HKT.out _ (List.getElem_mem _)
          have HOY := Lib.hid hoky
          have hins2 : ¬ keyL x < keyL (T[u]'(by omega)) → ∃ Xn : List Lf, Xn.Perm X ∧ Srt keyL (Xn.take (k + 1)) ∧ Y = A ++ (Xn ++ Z) := fun h => hins (fun _ => by simp only [Nat.add_sub_cancel]; omega)
          have hbnd : keyL x < keyL (T[u]'(by omega)) → ∀ h : u < T.length, keyL x ≤ keyL T[u] := fun h _ => Nat.le_of_lt h
          generalize T[u]'(by omega) = y at *
          obtain ⟨cp0, cp1⟩ := cp
          obtain ⟨cq0, cq1⟩ := cq
          have hgl := own.lt.2
          have s1 : IntKind.i64.wrap (((q + 1 : Nat) : Int) - 1) = (q : Int) := by have := IntWalk.i64_in (((q + 1 : Nat) : Int) - 1) (by omega); rw [this]; omega
          have l1 : ((q + 1 : Nat) : Int) < (L : Int) := by omega
          have l2 : (q : Int) < (L : Int) := by omega
          have l3 : (a : Int) < ((q + 1 : Nat) : Int) := by omega
          have l4 : a < q + 1 := by omega
          have HINS := Lib.hid hins2
          have HBND := Lib.hid hbnd
          have HQ := Lib.hid hq
          clear hins hins2 hbnd hoky hsw2 hxe hye hpt hTL h0 hq
          have np1 : ¬ (q + 1 = q) := by omega
          have np2 : ¬ (q = q + 1) := by omega
          generalize hP : q + 1 = P at *
          have HP' := Lib.hid hP
          clear hP
          go_wp2_with fail
          refine wp_region_rel 15 (fun _ v => v = .int .i64 (cmpL x y)) (fun _ _ _ => True) (by kernel_rfl) (by kernel_rfl) (by kernel_rfl) ?_
          dsimp only [List.take, List.drop, List.length]
          refine LX_det (.int .i64 P) (by kernel_rfl) rfl (fun w' hx _ => ?_) ?_
          · go_simp
          refine LX_det (.int .i64 a) (by kernel_rfl) rfl (fun w' hx _ => ?_) ?_
          · go_simp
          refine LX_det (.bool true) (by kernel_rfl) rfl (fun w' hx _ => ?_) ?_
          · go_simp
          refine LX_det (.bool true) (by kernel_rfl) rfl (fun w' hx _ => ?_) ?_
          · go_simp
          refine LX_det (.func (.func 96) #[] #[]) (by kernel_rfl) rfl (fun w' hx _ => ?_) ?_
          · go_simp
          refine LX_det (.slice (some ⟨g, 0, none⟩) L cap) (by kernel_rfl) rfl (fun w' hx _ => ?_) ?_
          · go_simp
          refine LX_det (.int .i64 P) (by kernel_rfl) rfl (fun w' hx _ => ?_) ?_
          · go_simp
          refine LX_det (.pointer (some ⟨g, P * 2, none⟩)) (by kernel_rfl) rfl (fun w' hx _ => ?_) ?_
          · go_simp
          refine LX_det (.agg #[.float .f32 x.1, .bool x.2]) (by kernel_rfl) rfl (fun w' hx _ => ?_) ?_
          · have m0 := (Below.cell hx (p := ⟨g, P * 2, none⟩) hgl).trans cp0; have m1 := (Below.cell hx (p := ⟨g, P * 2 + 1, none⟩) hgl).trans cp1
            go_simp
          refine LX_det (.slice (some ⟨g, 0, none⟩) L cap) (by kernel_rfl) rfl (fun w' hx _ => ?_) ?_
          · go_simp
          refine LX_det (.int .i64 P) (by kernel_rfl) rfl (fun w' hx _ => ?_) ?_
          · go_simp
          refine LX_det (.int .i64 q) (by kernel_rfl) rfl (fun w' hx _ => ?_) ?_
          · go_simp
          refine LX_det (.pointer (some ⟨g, q * 2, none⟩)) (by kernel_rfl) rfl (fun w' hx _ => ?_) ?_
          · go_simp
          refine LX_det (.agg #[.float .f32 y.1, .bool y.2]) (by kernel_rfl) rfl (fun w' hx _ => ?_) ?_
          · have m0 := (Below.cell hx (p := ⟨g, q * 2, none⟩) hgl).trans cq0; have m1 := (Below.cell hx (p := ⟨g, q * 2 + 1, none⟩) hgl).trans cq1
            go_simp
          refine LX_call (by kernel_rfl) rfl (fun _ => St.top) (fun w' hx _ => ?_) ?_
          · go_simp
            refine UponC.enter ((ordered_1 x y HKX.out HOY.out _).mono ?_)
            rintro e w'' ⟨rfl, hx'⟩
            exact ⟨_, rfl, hx', rfl, trivial⟩
          rintro _ rfl
          refine LX_nil fun w2 hx _ => ?_
          simp only [Act.put, List.setIfInBounds_toArray, List.set_cons_succ, List.set_cons_zero]
          replace own := own.ext hx
          replace G := G.trans (grown_of_ext hx (some g))
          clear hx cp0 cp1 cq0 cq1 hgl
          by_cases hk : keyL x < keyL y
          · have hneg : cmpL x y < 0 := (cmpL_neg x y).2 hk
            have HB2 := Lib.hid (HBND.out hk)
            clear hk
            generalize cmpL x y = c at *
            obtain ⟨⟨cp0, cp1⟩, cq0, cq1⟩ := HCL.out _ own
            have fa0 := own.frozen (P * 2)
            have fa1 := own.frozen (P * 2 + 1)
            have fb0 := own.frozen (q * 2)
            have fb1 := own.frozen (q * 2 + 1)
            have HSW2 := Lib.hid (HSW.out _ own)
            clear own
            obtain ⟨xa, xb⟩ := x
            obtain ⟨ya, yb⟩ := y
            simp only at cp0 cp1 cq0 cq1 HSW2
            go_wp2_with fail
            go_region
            all_goals
              go_wp2_with fail
              go_roundw
              case rel => exact ⟨u, q, _, by omega, HQ.out, by go_num, rfl, HL2.out, HB2, (G.trans (grown_four _ _ _ _ _ _ _ _ _ _)).trans (grown_drewN _ 1 _), HSW2.out.ext (Ext.drewN _ 1)⟩
              case measure => have hp9 := HP'.out; simp [intOf]; omega
          · have hneg : ¬ cmpL x y < 0 := fun h => hk ((cmpL_neg x y).1 h)
            obtain ⟨Xn, n1, n2, n3⟩ := HINS.out hk
            have N1 := Lib.hid n1
            have N2 := Lib.hid n2
            have N3 := Lib.hid n3
            clear hk n1 n2 n3
            generalize cmpL x y = c at *
            go_wp2_with fail
            go_roundw
            case rel => exact ⟨k + 1, Xn, Y, by omega, by omega, by go_num, N1, N2, N3, hYL, G, own⟩
            case measure => simp [intOf]; omega
    · go_wp2_with fail
      go_end0
      have hXl : X'.length = X.length := HP.out.length_eq
      have h := HS.out
      rw [List.take_of_length_le (by omega)] at h
      refine ⟨rfl, G, X', HP.out, h, ?_⟩
      rw [HY.out] at own; exact own
end Go.Proofs.Ytlbmjeennpccmaa
