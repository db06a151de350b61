
/- The stable sort of lives: two sorted parts are merged. Condition: fewer than 2^20 lives, each with a time that is finite and greater than 0. -/
import Derived.Test.YtlbmjeennpccmaaLi
namespace Go.Proofs.Ytlbmjeennpccmaa
open Go Go.RowKit Go.ChangeShapes Go.WideShapes Go.ChangeAt

attribute [local go_sem] run_store_float
attribute [local irreducible] LX

/-- What the merge of two sorted parts leaves. -/
def Merged (A X Y Z : List Lf) (g cap B : Nat) (w : World) (e : Ending) (w' : World) : Prop :=
  e = .returned (.tuple #[]) ∧ w.grownBy w' (some g) ∧ ∃ W, W.Perm (X ++ Y) ∧ Srt keyL W ∧ OwnL B w' g cap (A ++ (W ++ Z))

set_option maxRecDepth 100000 in
set_option maxHeartbeats 8000000 in
theorem merge_1 (A Y Z X0 : List Lf) (x : Lf) (a m b g cap B L : Nat) (w : World) (own : OwnL B w g cap X0) (hX : X0 = A ++ (x :: (Y ++ Z))) (ha : A.length = a) (hm : a + 1 = m) (hb : m + Y.length = b) (hL : X0.length = L) (hz : L ≤ 1048576)
    (hx : okL x) (hY : AllOk Y) (hs : Srt keyL Y) :
    Calls Try.prog 113 #[.slice (some ⟨g, 0, none⟩) L cap, .int .i64 a, .int .i64 m, .int .i64 b, .func (.func 96) #[] #[]] w (Merged A [x] Y Z g cap B w) := by
  have hbL : b ≤ L := by rw [← hL, hX]; simp only [List.length_append, List.length_cons]; omega
  have hent := cmp_enter
  have HXE := Lib.hid hX
  have HX := Lib.hid hx
  have HY := Lib.hid hY
  have HS := Lib.hid hs
  have HA := Lib.hid ha
  have hd0 : ((m : Int) - (a : Int) == 1) = true := by rw [beq_iff_eq]; omega
  have hx0 : ∀ W, OwnL B W g cap X0 → W.cell? ⟨g, a * 2, none⟩ = some (.float .f32 x.1) ∧ W.cell? ⟨g, a * 2 + 1, none⟩ = some (.bool x.2) := fun W o => by
    have h := o.cells (k := a) (by omega)
    have e : X0[a]'(by omega) = x := by subst hX; rw [List.getElem_append_right (by omega)]; simp [ha]
    rw [e] at h; exact h
  have hy0 : ∀ W, OwnL B W g cap X0 → ∀ j (hj : j < Y.length), W.cell? ⟨g, (m + j) * 2, none⟩ = some (.float .f32 Y[j].1) ∧ W.cell? ⟨g, (m + j) * 2 + 1, none⟩ = some (.bool Y[j].2) := fun W o j hj => by
    have h := o.cells (k := m + j) (by omega)
    have e : X0[m + j]'(by omega) = Y[j] := by
      subst hX; rw [List.getElem_append_right (by omega)]
      have e1 : m + j - A.length = j + 1 := by omega
      simp only [e1, List.getElem_cons_succ]
      rw [List.getElem_append_left hj]
    rw [e] at h; exact h
  have H0 := Lib.hid hx0
  have H1 := Lib.hid hy0
  clear hX hx hY hs hx0 hy0 ha
  obtain ⟨wo, rfl⟩ : ∃ wo : World, wo = w := ⟨_, rfl⟩
  go_enter Try.func113, Try.ntmps113
  go_wp2_with fail
  go_loopw [10, 11] (fun i j wr => ∃ (s t : Nat), s ≤ t ∧ t ≤ Y.length ∧ i = .int .i64 ((m + s : Nat) : Int) ∧ j = .int .i64 ((m + t : Nat) : Int) ∧ Hid (∀ (_ : 0 < s) (h : s ≤ Y.length), keyL (Y[s - 1]'(by omega)) ≤ keyL x) ∧ Hid (∀ h : t < Y.length, keyL x ≤ keyL Y[t]) ∧ Ext wo wr) (fun i j _ => (intOf j).toNat - (intOf i).toNat)
  case atStart => exact ⟨0, Y.length, Nat.zero_le _, Nat.le_refl _, rfl, by go_num, (fun h => absurd h (by omega)), (fun h => absurd h (by omega)), Ext.refl _⟩
  case round =>
    obtain ⟨s, t, hst, htY, rfl, rfl, HB1, HB2, X⟩ := hrel
    by_cases hlt : s < t
    · have hlt' : m + s < m + t := by omega
      obtain ⟨u, P, hus, hut, hP, hq⟩ : ∃ u P : Nat, s ≤ u ∧ u < t ∧ m + u = P ∧ ((m : Int) + (s : Int) + ((m : Int) + (t : Int))) / 2 = (P : Int) := ⟨(s + t) / 2, m + (s + t) / 2, by omega, by omega, rfl, by omega⟩
      have HQ := Lib.hid hq
      clear hq
      have hyu := H1.out wr (own.ext X) u (Nat.lt_of_lt_of_le hut htY)
      rw [hP] at hyu
      have l1 : (P : Int) < (L : Int) := by omega
      have l2 : (a : Int) < (L : Int) := by omega
      have HP := Lib.hid hP
      clear hP
      have hxu := H0.out wr (own.ext X)
      have hgl := (own.ext X).lt.2
      have hoky := Lib.hid (HY.out _ (List.getElem_mem (show u < Y.length by omega)))
      have HB1' : Hid (keyL (Y[u]'(by omega)) < keyL x → ∀ (_ : 0 < u + 1) (h : u + 1 ≤ Y.length), keyL (Y[u + 1 - 1]'(by omega)) ≤ keyL x) := fun h _ _ => by simp only [Nat.add_sub_cancel]; omega
      have HB2' : Hid (¬ keyL (Y[u]'(by omega)) < keyL x → ∀ h : u < Y.length, keyL x ≤ keyL Y[u]) := fun h _ => by omega
      generalize Y[u]'(by omega) = y at *
      obtain ⟨cy0, cy1⟩ := hyu
      obtain ⟨cx0, cx1⟩ := hxu
      have hq := HQ.out
      go_wp2_with fail
      clear hq HQ
      refine wp_region_rel 10 (fun _ v => v = .int .i64 (cmpL y x)) (fun _ _ _ => True) (by kernel_rfl) (by kernel_rfl) (by kernel_rfl) ?_
      dsimp only [List.take, List.drop, List.length]
      refine LX_det (.func (.func 96) #[] #[]) (by kernel_rfl) rfl (fun w' hx _ => ?_) ?_
      · go_simp
      refine LX_det (.slice (some ⟨g, 0, none⟩) L cap) (by kernel_rfl) rfl (fun w' hx _ => ?_) ?_
      · go_simp
      refine LX_det (.int .i64 P) (by kernel_rfl) rfl (fun w' hx _ => ?_) ?_
      · go_simp
      refine LX_det (.pointer (some ⟨g, P * 2, none⟩)) (by kernel_rfl) rfl (fun w' hx _ => ?_) ?_
      · go_simp
      refine LX_det (.agg #[.float .f32 y.1, .bool y.2]) (by kernel_rfl) rfl (fun w' hx _ => ?_) ?_
      · have m0 := (Below.cell hx (p := ⟨g, P * 2, none⟩) hgl).trans cy0; have m1 := (Below.cell hx (p := ⟨g, P * 2 + 1, none⟩) hgl).trans cy1
        go_simp
      refine LX_det (.slice (some ⟨g, 0, none⟩) L cap) (by kernel_rfl) rfl (fun w' hx _ => ?_) ?_
      · go_simp
      refine LX_det (.int .i64 a) (by kernel_rfl) rfl (fun w' hx _ => ?_) ?_
      · go_simp
      refine LX_det (.pointer (some ⟨g, a * 2, none⟩)) (by kernel_rfl) rfl (fun w' hx _ => ?_) ?_
      · go_simp
      refine LX_det (.agg #[.float .f32 x.1, .bool x.2]) (by kernel_rfl) rfl (fun w' hx _ => ?_) ?_
      · have m0 := (Below.cell hx (p := ⟨g, a * 2, none⟩) hgl).trans cx0; have m1 := (Below.cell hx (p := ⟨g, a * 2 + 1, none⟩) hgl).trans cx1
        go_simp
      refine LX_call (by kernel_rfl) rfl (fun _ => St.top) (fun w' hx _ => ?_) ?_
      · go_simp
        refine UponC.enter ((ordered_1 y x hoky.out HX.out _).mono ?_)
        rintro e w'' ⟨rfl, hx'⟩
        exact ⟨_, rfl, hx', rfl, trivial⟩
      rintro _ rfl
      refine LX_nil fun w2 hx _ => ?_
      simp only [Act.put, List.setIfInBounds_toArray, List.set_cons_succ, List.set_cons_zero]
      replace X := X.trans hx
      clear hx cy0 cy1 cx0 cx1 hgl l2
      by_cases hk : keyL y < keyL x
      · have hneg : cmpL y x < 0 := (cmpL_neg y x).2 hk
        have HN := Lib.hid (HB1'.out hk)
        clear hk
        generalize cmpL y x = c at *
        go_wp2_with fail
        go_roundw
        case rel => exact ⟨u + 1, t, by omega, htY, by have := HP.out; go_num, rfl, HN, HB2, X⟩
        case measure => have := HP.out; simp [intOf]; omega
      · have hneg : ¬ cmpL y x < 0 := fun h => hk ((cmpL_neg y x).1 h)
        have HN := Lib.hid (HB2'.out hk)
        clear hk
        generalize cmpL y x = c at *
        go_wp2_with fail
        go_roundw
        case rel => exact ⟨s, u, hus, by omega, rfl, by rw [HP.out], HB1, HN, X⟩
        case measure => have := HP.out; simp [intOf]; omega
    · obtain rfl : s = t := by omega
      have hlen : (upL A Y Z x 0).length = L := by rw [upL_0, ← HXE.out]; exact hL
      have own0 : OwnL B wr g cap (upL A Y Z x 0) := by rw [upL_0, ← HXE.out]; exact own.ext X
      have HFIN : Hid (Srt keyL (Y.take s ++ x :: Y.drop s)) := srt_ins HS.out s htY (fun h => HB1.out h htY) HB2.out
      have HLN : Hid (∀ k, (upL A Y Z x k).length = L) := fun k => by rw [upL_len]; rw [upL_len] at hlen; exact hlen
      have G0 : wo.grownBy wr (some g) := grown_of_ext X _
      clear own HB1 HB2 hlen X
      go_wp2_with fail
      obtain ⟨wz, rfl⟩ : ∃ wz : World, wz = wr := ⟨_, rfl⟩
      go_loopw [13] (fun k wr => ∃ (t p : Nat), t ≤ s ∧ p = a + t ∧ k = .int .i64 (p : Int) ∧ wo.grownBy wr (some g) ∧ OwnL B wr g cap (upL A Y Z x t)) (fun k _ => m + s - (intOf k).toNat)
      case atStart => exact ⟨0, a, Nat.zero_le _, rfl, rfl, G0, own0⟩
      case round =>
        clear own0 G0
        obtain ⟨t, p, hts, hpt, rfl, G, own⟩ := hrel
        by_cases hlt : t < s
        · have hlt1 : p + 1 < m + s := by omega
          have hlt2 : (p : Int) < ((m + s : Nat) : Int) - 1 := by omega
          have hl := HLN.out t
          have hstep := upL_step (Z := Z) (x := x) HA.out (show t < Y.length by omega)
          rw [← hpt] at hstep
          have hpL : p + 1 < L := by omega
          have hcl : ∀ W : World, OwnL B W g cap (upL A Y Z x t) → ∃ u v : Lf, (W.cell? ⟨g, p * 2, none⟩ = some (.float .f32 u.1) ∧ W.cell? ⟨g, p * 2 + 1, none⟩ = some (.bool u.2)) ∧ (W.cell? ⟨g, (p + 1) * 2, none⟩ = some (.float .f32 v.1) ∧ W.cell? ⟨g, (p + 1) * 2 + 1, none⟩ = some (.bool v.2)) ∧
              OwnL B ((((W.setCell ⟨g, p * 2, none⟩ (.float .f32 v.1)).setCell ⟨g, p * 2 + 1, none⟩ (.bool v.2)).setCell ⟨g, (p + 1) * 2, none⟩ (.float .f32 u.1)).setCell ⟨g, (p + 1) * 2 + 1, none⟩ (.bool u.2)) g cap (upL A Y Z x (t + 1)) := fun W o =>
            ⟨_, _, o.cells (k := p) (by omega), o.cells (k := p + 1) (by omega), by rw [← hstep]; exact o.swap (by omega) (by omega)⟩
          obtain ⟨u, v, ⟨cu0, cu1⟩, ⟨cv0, cv1⟩, own2⟩ := hcl wr own
          have fa0 := own.frozen (p * 2)
          have fa1 := own.frozen (p * 2 + 1)
          have fb0 := own.frozen ((p + 1) * 2)
          have fb1 := own.frozen ((p + 1) * 2 + 1)
          have HSW := Lib.hid own2
          obtain ⟨ua, ub⟩ := u
          obtain ⟨va, vb⟩ := v
          simp only at cu0 cu1 cv0 cv1 HSW
          have HPT := Lib.hid hpt
          clear hcl hstep hl own own2 hpt
          have s1 : IntKind.i64.wrap ((p : Int) + 1) = ((p + 1 : Nat) : Int) := IntWalk.i64_in _ (by omega)
          have l1 : ((p + 1 : Nat) : Int) < (L : Int) := by omega
          have l2 : (p : Int) < (L : Int) := by omega
          have np1 : ¬ (p + 1 = p) := by omega
          have np2 : ¬ (p = p + 1) := by omega
          generalize hP : p + 1 = P at *
          have HP := Lib.hid hP
          clear hP
          go_wp2_with fail
          go_region
          all_goals
            go_wp2_with fail
            go_roundw
            case rel => exact ⟨t + 1, P, by omega, by have := HPT.out; have := HP.out; omega, by go_num, (G.trans (grown_four _ _ _ _ _ _ _ _ _ _)).trans (grown_drewN _ 1 _), HSW.out.ext (Ext.drewN _ 1)⟩
            case measure => have := HP.out; simp [intOf]; omega
        · obtain rfl : t = s := by omega
          have hge : ¬ (p : Int) < ((m + t : Nat) : Int) - 1 := by omega
          clear hpt
          go_wp2_with fail
          go_end0
          refine ⟨rfl, G, Y.take t ++ x :: Y.drop t, upL_perm [] Y [] x t, HFIN.out, ?_⟩
          have e : upL A Y Z x t = A ++ ((Y.take t ++ x :: Y.drop t) ++ Z) := by unfold upL; simp only [List.append_assoc, List.cons_append]
          rw [e] at own; exact own

set_option maxRecDepth 100000 in
set_option maxHeartbeats 8000000 in
theorem merge_2 (A X Z X0 : List Lf) (y : Lf) (a m b g cap B L : Nat) (w : World) (own : OwnL B w g cap X0) (hX : X0 = A ++ (X ++ (y :: Z))) (ha : A.length = a) (hm : a + X.length = m) (hb : m + 1 = b) (hL : X0.length = L) (hz : L ≤ 1048576)
    (h2 : 2 ≤ X.length) (hy : okL y) (hXo : AllOk X) (hs : Srt keyL X) :
    Calls Try.prog 113 #[.slice (some ⟨g, 0, none⟩) L cap, .int .i64 a, .int .i64 m, .int .i64 b, .func (.func 96) #[] #[]] w (Merged A X [y] Z g cap B w) := by
  have hbL : b ≤ L := by rw [← hL, hX]; simp only [List.length_append, List.length_cons]; omega
  have hent := cmp_enter
  have hup : X0 = upL A X Z y X.length := by rw [hX]; unfold upL; rw [List.take_length, List.drop_length]; rfl
  have HUP := Lib.hid hup
  have HY := Lib.hid hy
  have HX := Lib.hid hXo
  have HS := Lib.hid hs
  have HA := Lib.hid ha
  have hd0 : ((m : Int) - (a : Int) == 1) = false := by rw [beq_eq_false_iff_ne]; omega
  have hd1 : ((b : Int) - (m : Int) == 1) = true := by rw [beq_iff_eq]; omega
  have hy0 : ∀ W, OwnL B W g cap X0 → W.cell? ⟨g, m * 2, none⟩ = some (.float .f32 y.1) ∧ W.cell? ⟨g, m * 2 + 1, none⟩ = some (.bool y.2) := fun W o => by
    have h := o.cells (k := m) (by omega)
    have e : X0[m]'(by omega) = y := by
      subst hX
      rw [List.getElem_append_right (by omega), List.getElem_append_right (by omega)]
      have e1 : m - A.length - X.length = 0 := by omega
      simp only [e1, List.getElem_cons_zero]
    rw [e] at h; exact h
  have hx0 : ∀ W, OwnL B W g cap X0 → ∀ j (hj : j < X.length), W.cell? ⟨g, (a + j) * 2, none⟩ = some (.float .f32 X[j].1) ∧ W.cell? ⟨g, (a + j) * 2 + 1, none⟩ = some (.bool X[j].2) := fun W o j hj => by
    have h := o.cells (k := a + j) (by omega)
    have e : X0[a + j]'(by omega) = X[j] := by
      subst hX; rw [List.getElem_append_right (by omega)]
      have e1 : a + j - A.length = j := by omega
      simp only [e1]
      rw [List.getElem_append_left hj]
    rw [e] at h; exact h
  have H0 := Lib.hid hy0
  have H1 := Lib.hid hx0
  clear hX hy hXo hs hx0 hy0 ha hup
  obtain ⟨wo, rfl⟩ : ∃ wo : World, wo = w := ⟨_, rfl⟩
  go_enter Try.func113, Try.ntmps113
  go_wp2_with fail
  go_loopw [14, 15] (fun i j wr => ∃ (s t : Nat), s ≤ t ∧ t ≤ X.length ∧ i = .int .i64 ((a + s : Nat) : Int) ∧ j = .int .i64 ((a + t : Nat) : Int) ∧ Hid (∀ (_ : 0 < s) (h : s ≤ X.length), keyL (X[s - 1]'(by omega)) ≤ keyL y) ∧ Hid (∀ h : t < X.length, keyL y ≤ keyL X[t]) ∧ Ext wo wr) (fun i j _ => (intOf j).toNat - (intOf i).toNat)
  case atStart => exact ⟨0, X.length, Nat.zero_le _, Nat.le_refl _, rfl, by go_num, (fun h => absurd h (by omega)), (fun h => absurd h (by omega)), Ext.refl _⟩
  case round =>
    obtain ⟨s, t, hst, htY, rfl, rfl, HB1, HB2, X1⟩ := hrel
    by_cases hlt : s < t
    · have hlt' : a + s < a + t := by omega
      obtain ⟨u, P, hus, hut, hP, hq⟩ : ∃ u P : Nat, s ≤ u ∧ u < t ∧ a + u = P ∧ ((a : Int) + (s : Int) + ((a : Int) + (t : Int))) / 2 = (P : Int) := ⟨(s + t) / 2, a + (s + t) / 2, by omega, by omega, rfl, by omega⟩
      have HQ := Lib.hid hq
      clear hq
      have hxu := H1.out wr (own.ext X1) u (Nat.lt_of_lt_of_le hut htY)
      rw [hP] at hxu
      have l1 : (P : Int) < (L : Int) := by omega
      have l2 : (m : Int) < (L : Int) := by omega
      have HP := Lib.hid hP
      clear hP
      have hyu := H0.out wr (own.ext X1)
      have hgl := (own.ext X1).lt.2
      have hokx := Lib.hid (HX.out _ (List.getElem_mem (show u < X.length by omega)))
      have HB2' : Hid (keyL y < keyL (X[u]'(by omega)) → ∀ h : u < X.length, keyL y ≤ keyL X[u]) := fun h _ => by omega
      have HB1' : Hid (¬ keyL y < keyL (X[u]'(by omega)) → ∀ (_ : 0 < u + 1) (h : u + 1 ≤ X.length), keyL (X[u + 1 - 1]'(by omega)) ≤ keyL y) := fun h _ _ => by simp only [Nat.add_sub_cancel]; omega
      generalize X[u]'(by omega) = x at *
      obtain ⟨cy0, cy1⟩ := hyu
      obtain ⟨cx0, cx1⟩ := hxu
      have hq := HQ.out
      go_wp2_with fail
      clear hq HQ
      refine wp_region_rel 10 (fun _ v => v = .int .i64 (cmpL y x)) (fun _ _ _ => True) (by kernel_rfl) (by kernel_rfl) (by kernel_rfl) ?_
      dsimp only [List.take, List.drop, List.length]
      refine LX_det (.func (.func 96) #[] #[]) (by kernel_rfl) rfl (fun w' hx _ => ?_) ?_
      · go_simp
      refine LX_det (.slice (some ⟨g, 0, none⟩) L cap) (by kernel_rfl) rfl (fun w' hx _ => ?_) ?_
      · go_simp
      refine LX_det (.int .i64 m) (by kernel_rfl) rfl (fun w' hx _ => ?_) ?_
      · go_simp
      refine LX_det (.pointer (some ⟨g, m * 2, none⟩)) (by kernel_rfl) rfl (fun w' hx _ => ?_) ?_
      · go_simp
      refine LX_det (.agg #[.float .f32 y.1, .bool y.2]) (by kernel_rfl) rfl (fun w' hx _ => ?_) ?_
      · have m0 := (Below.cell hx (p := ⟨g, m * 2, none⟩) hgl).trans cy0; have m1 := (Below.cell hx (p := ⟨g, m * 2 + 1, none⟩) hgl).trans cy1
        go_simp
      refine LX_det (.slice (some ⟨g, 0, none⟩) L cap) (by kernel_rfl) rfl (fun w' hx _ => ?_) ?_
      · go_simp
      refine LX_det (.int .i64 P) (by kernel_rfl) rfl (fun w' hx _ => ?_) ?_
      · go_simp
      refine LX_det (.pointer (some ⟨g, P * 2, none⟩)) (by kernel_rfl) rfl (fun w' hx _ => ?_) ?_
      · go_simp
      refine LX_det (.agg #[.float .f32 x.1, .bool x.2]) (by kernel_rfl) rfl (fun w' hx _ => ?_) ?_
      · have m0 := (Below.cell hx (p := ⟨g, P * 2, none⟩) hgl).trans cx0; have m1 := (Below.cell hx (p := ⟨g, P * 2 + 1, none⟩) hgl).trans cx1
        go_simp
      refine LX_call (by kernel_rfl) rfl (fun _ => St.top) (fun w' hx _ => ?_) ?_
      · go_simp
        refine UponC.enter ((ordered_1 y x HY.out hokx.out _).mono ?_)
        rintro e w'' ⟨rfl, hx'⟩
        exact ⟨_, rfl, hx', rfl, trivial⟩
      rintro _ rfl
      refine LX_nil fun w2 hx _ => ?_
      simp only [Act.put, List.setIfInBounds_toArray, List.set_cons_succ, List.set_cons_zero]
      replace X1 := X1.trans hx
      clear hx cy0 cy1 cx0 cx1 hgl l2
      by_cases hk : keyL y < keyL x
      · have hneg : cmpL y x < 0 := (cmpL_neg y x).2 hk
        have HN := Lib.hid (HB2'.out hk)
        clear hk
        generalize cmpL y x = c at *
        go_wp2_with fail
        go_roundw
        case rel => exact ⟨s, u, hus, by omega, rfl, by rw [HP.out], HB1, HN, X1⟩
        case measure => have := HP.out; simp [intOf]; omega
      · have hneg : ¬ cmpL y x < 0 := fun h => hk ((cmpL_neg y x).1 h)
        have HN := Lib.hid (HB1'.out hk)
        clear hk
        generalize cmpL y x = c at *
        go_wp2_with fail
        go_roundw
        case rel => exact ⟨u + 1, t, by omega, htY, by have := HP.out; go_num, rfl, HN, HB2, X1⟩
        case measure => have := HP.out; simp [intOf]; omega
    · obtain rfl : s = t := by omega
      have hlen : (upL A X Z y X.length).length = L := by rw [← HUP.out]; exact hL
      have own0 : OwnL B wr g cap (upL A X Z y X.length) := by rw [← HUP.out]; exact own.ext X1
      have HFIN : Hid (Srt keyL (X.take s ++ y :: X.drop s)) := srt_ins HS.out s htY (fun h => HB1.out h htY) HB2.out
      have HLN : Hid (∀ k, (upL A X Z y k).length = L) := fun k => by rw [upL_len]; rw [upL_len] at hlen; exact hlen
      have G0 : wo.grownBy wr (some g) := grown_of_ext X1 _
      clear own HB1 HB2 hlen X1
      go_wp2_with fail
      obtain ⟨wz, rfl⟩ : ∃ wz : World, wz = wr := ⟨_, rfl⟩
      go_loopw [17] (fun k wr => ∃ (t p : Nat), s ≤ t ∧ t ≤ X.length ∧ p = a + t ∧ k = .int .i64 (p : Int) ∧ wo.grownBy wr (some g) ∧ OwnL B wr g cap (upL A X Z y t)) (fun k _ => (intOf k).toNat)
      case atStart => exact ⟨X.length, m, htY, Nat.le_refl _, by omega, rfl, G0, own0⟩
      case round =>
        clear own0 G0
        obtain ⟨t, p, hts, htl, hpt, rfl, G, own⟩ := hrel
        by_cases hlt : s < t
        · obtain ⟨v, rfl⟩ : ∃ v, t = v + 1 := ⟨t - 1, by omega⟩
          obtain ⟨q, hq⟩ : ∃ q, q = a + v := ⟨_, rfl⟩
          obtain rfl : p = q + 1 := by omega
          have hlt1 : ((a + s : Nat) : Int) < ((q + 1 : Nat) : Int) := by omega
          have hlt2 : a + s < q + 1 := by omega
          have hl := HLN.out (v + 1)
          have hstep := upL_down (Z := Z) (x := y) HA.out (show v < X.length by omega)
          rw [← hq] at hstep
          have hpL : q + 1 < L := by omega
          have hcl : ∀ W : World, OwnL B W g cap (upL A X Z y (v + 1)) → ∃ u v' : Lf, (W.cell? ⟨g, (q + 1) * 2, none⟩ = some (.float .f32 u.1) ∧ W.cell? ⟨g, (q + 1) * 2 + 1, none⟩ = some (.bool u.2)) ∧ (W.cell? ⟨g, q * 2, none⟩ = some (.float .f32 v'.1) ∧ W.cell? ⟨g, q * 2 + 1, none⟩ = some (.bool v'.2)) ∧
              OwnL B ((((W.setCell ⟨g, (q + 1) * 2, none⟩ (.float .f32 v'.1)).setCell ⟨g, (q + 1) * 2 + 1, none⟩ (.bool v'.2)).setCell ⟨g, q * 2, none⟩ (.float .f32 u.1)).setCell ⟨g, q * 2 + 1, none⟩ (.bool u.2)) g cap (upL A X Z y v) := fun W o =>
            ⟨_, _, o.cells (k := q + 1) (by omega), o.cells (k := q) (by omega), by rw [← hstep]; exact o.swap (by omega) (by omega)⟩
          obtain ⟨u, v', ⟨cu0, cu1⟩, ⟨cv0, cv1⟩, own2⟩ := hcl wr own
          have fa0 := own.frozen ((q + 1) * 2)
          have fa1 := own.frozen ((q + 1) * 2 + 1)
          have fb0 := own.frozen (q * 2)
          have fb1 := own.frozen (q * 2 + 1)
          have HSW := Lib.hid own2
          obtain ⟨ua, ub⟩ := u
          obtain ⟨va, vb⟩ := v'
          simp only at cu0 cu1 cv0 cv1 HSW
          have HQ := Lib.hid hq
          clear hcl hstep hl own own2 hpt hq
          have s1 : IntKind.i64.wrap (((q + 1 : Nat) : Int) - 1) = (q : Int) := by have := IntWalk.i64_in (((q + 1 : Nat) : Int) - 1) (by omega); rw [this]; omega
          have l1 : ((q + 1 : Nat) : Int) < (L : Int) := by omega
          have l2 : (q : Int) < (L : Int) := by omega
          have np1 : ¬ (q + 1 = q) := by omega
          have np2 : ¬ (q = q + 1) := by omega
          generalize hP : q + 1 = P at *
          have HP := Lib.hid hP
          clear hP
          go_wp2_with fail
          go_region
          all_goals
            go_wp2_with fail
            go_roundw
            case rel => exact ⟨v, q, by omega, by omega, HQ.out, by have := HP.out; go_num, (G.trans (grown_four _ _ _ _ _ _ _ _ _ _)).trans (grown_drewN _ 1 _), HSW.out.ext (Ext.drewN _ 1)⟩
            case measure => have := HP.out; simp [intOf]; omega
        · obtain rfl : t = s := by omega
          have hge : ¬ ((a + t : Nat) : Int) < (p : Int) := by omega
          have hge2 : ¬ (a + t < p) := by omega
          clear hpt
          go_wp2_with fail
          go_end0
          refine ⟨rfl, G, X.take t ++ y :: X.drop t, ?_, HFIN.out, ?_⟩
          · exact (upL_perm [] X [] y t).trans (List.perm_append_comm (l₁ := [y]) (l₂ := X))
          · have e : upL A X Z y t = A ++ ((X.take t ++ y :: X.drop t) ++ Z) := by unfold upL; simp only [List.append_assoc, List.cons_append]
            rw [e] at own; exact own
end Go.Proofs.Ytlbmjeennpccmaa
