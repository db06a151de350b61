
/- The stable sort of lives: two sorted parts are merged. Condition: fewer than 2^20 lives, each with a time that is finite and greater than 0. -/
import Derived.Test.YtlbmjeennpccmaaLi
namespace Go.Proofs.Ytlbmjeennpccmaa
open Go Go.RowKit Go.ChangeShapes Go.WideShapes Go.ChangeAt

attribute [local go_sem] run_store_float
attribute [local irreducible] LX

/-- What the merge of two sorted parts leaves. -/
def Merged (A X Y Z : List Lf) (g cap B : Nat) (w : World) (e : Ending) (w' : World) : Prop :=
  e = .returned (.tuple #[]) ∧ w.grownBy w' (some g) ∧ ∃ W, W.Perm (X ++ Y) ∧ Srt keyL W ∧ OwnL B w' g cap (A ++ (W ++ Z))

set_option maxRecDepth 100000 in
set_option maxHeartbeats 8000000 in
theorem merge_1 (A Y Z X0 : List Lf) (x : Lf) (a m b g cap B L : Nat) (w : World) (own : OwnL B w g cap X0) (hX : X0 = A ++ (x :: (Y ++ Z))) (ha : A.length = a) (hm : a + 1 = m) (hb : m + Y.length = b) (hL : X0.length = L) (hz : L ≤ 1048576)
    (hx : okL x) (hY : AllOk Y) (hs : Srt keyL Y) :
    Calls Try.prog 113 #[.slice (some ⟨g, 0, none⟩) L cap, .int .i64 a, .int .i64 m, .int .i64 b, .func (.func 96) #[] #[]] w (Merged A [x] Y Z g cap B w) := by
  have hbL : b ≤ L := by rw [← hL, hX]; simp only [List.length_append, List.length_cons]; omega
  have hent := cmp_enter
  have HXE := Lib.hid hX
  have HX := Lib.hid hx
  have HY := Lib.hid hY
  have HS := Lib.hid hs
  have HA := Lib.hid ha
  have hd0 : ((m : Int) - (a : Int) == 1) = true := by rw [beq_iff_eq]; omega
  have hx0 : ∀ W, OwnL B W g cap X0 → W.cell? ⟨g, a * 2, none⟩ = some (.float .f32 x.1) ∧ W.cell? ⟨g, a * 2 + 1, none⟩ = some (.bool x.2) := fun W o => by
    have h := o.cells (k := a) (by omega)
    have e : X0[a]'(by omega) = x := by subst hX; rw [List.getElem_append_right (by omega)]; simp [ha]
    rw [e] at h; exact h
  have hy0 : ∀ W, OwnL B W g cap X0 → ∀ j (hj : j < Y.length), W.cell? ⟨g, (m + j) * 2, none⟩ = some (.float .f32 Y[j].1) ∧ W.cell? ⟨g, (m + j) * 2 + 1, none⟩ = some (.bool Y[j].2) := fun W o j hj => by
    have h := o.cells (k := m + j) (by omega)
    have e : X0[m + j]'(by omega) = Y[j] := by
      subst hX; rw [List.getElem_append_right (by omega)]
      have e1 : m + j - A.length = j + 1 := by omega
      simp only [e1, List.getElem_cons_succ]
      rw [List.getElem_append_left hj]
    rw [e] at h; exact h
  have H0 := Lib.hid hx0
  have H1 := Lib.hid hy0
  clear hX hx hY hs hx0 hy0 ha
  obtain ⟨wo, rfl⟩ : ∃ wo : World, wo = w := ⟨_, rfl⟩
  go_enter Try.func113, Try.ntmps113
  go_wp2_with fail
  go_loopw [10, 11] (fun i j wr => ∃ (s t : Nat), s ≤ t ∧ t ≤ Y.length ∧ i = .int .i64 ((m + s : Nat) : Int) ∧ j = .int .i64 ((m + t : Nat) : Int) ∧ Hid (∀ (_ : 0 < s) (h : s ≤ Y.length), keyL (Y[s - 1]'(by omega)) ≤ keyL x) ∧ Hid (∀ h : t < Y.length, keyL x ≤ keyL Y[t]) ∧ Ext wo wr) (fun i j _ => (intOf j).toNat - (intOf i).toNat)
  case atStart => exact ⟨0, Y.length, Nat.zero_le _, Nat.le_refl _, rfl, by go_num, (fun h => absurd h (by omega)), (fun h => absurd h (by omega)), Ext.refl _⟩
  case round =>
    obtain ⟨s, t, hst, htY, rfl, rfl, HB1, HB2, X⟩ := hrel
    by_cases hlt : s < t
    · have hlt' : m + s < m + t := by omega
      obtain ⟨u, P, hus, hut, hP, hq⟩ : ∃ u P : Nat, s ≤ u ∧ u < t ∧ m + u = P ∧ ((m : Int) + (s : Int) + ((m : Int) + (t : Int))) / 2 = (P : Int) := ⟨(s + t) / 2, m + (s + t) / 2, by omega, by omega, rfl, by omega⟩
      have HQ := Lib.hid hq
      clear hq
      have hyu := H1.out wr (own.ext X) u (Nat.lt_of_lt_of_le hut htY)
      rw [hP] at hyu
      have l1 : (P : Int) < (L : Int) := by omega
      have l2 : (a : Int) < (L : Int) := by omega
      have HP := Lib.hid hP
      clear hP
      have hxu := H0.out wr (own.ext X)
      have hgl := (own.ext X).lt.2
      have hoky := Lib.hid (HY.out _ (List.getElem_mem (show u < Y.length by omega)))
      have HB1' : Hid (keyL (Y[u]'(by omega)) < keyL x → ∀ (_ : 0 < u + 1) (h : u + 1 ≤ Y.length), keyL (Y[u + 1 - 1]'(by omega)) ≤ keyL x) := fun h _ _ => by simp only [Nat.add_sub_cancel]; omega
      have HB2' : Hid (¬ keyL (Y[u]'(by omega)) < keyL x → ∀ h : u < Y.length, keyL x ≤ keyL Y[u]) := fun h _ => by omega
      generalize Y[u]'(by omega) = y at *
      obtain ⟨cy0, cy1⟩ := hyu
      obtain ⟨cx0, cx1⟩ := hxu
      have hq := HQ.out
      go_wp2_with fail
      clear hq HQ
      refine wp_region_rel 10 (fun _ v => v = .int .i64 (cmpL y x)) (fun _ _ _ => True) (by kernel_rfl) (by kernel_rfl) (by kernel_rfl) ?_
      dsimp only [List.take, List.drop, List.length]
      refine LX_det (.func (.func 96) #[] #[]) (by kernel_rfl) rfl (fun w' hx _ => ?_) ?_
      · go_simp
      refine LX_det (.slice (some ⟨g, 0, none⟩) L cap) (by kernel_rfl) rfl (fun w' hx _ => ?_) ?_
      · go_simp
      refine LX_det (.int .i64 P) (by kernel_rfl) rfl (fun w' hx _ => ?_) ?_
      · go_simp
      refine LX_det (.pointer (some ⟨g, P * 2, none⟩)) (by kernel_rfl) rfl (fun w' hx _ => ?_) ?_
      · go_simp
      refine LX_det (.agg #[.float .f32 y.1, .bool y.2]) (by kernel_rfl) rfl (fun w' hx _ => ?_) ?_
      · have m0 := (Below.cell hx (p := ⟨g, P * 2, none⟩) hgl).trans cy0; have m1 := (Below.cell hx (p := ⟨g, P * 2 + 1, none⟩) hgl).trans cy1
        go_simp
      refine LX_det (.slice (some ⟨g, 0, none⟩) L cap) (by kernel_rfl) rfl (fun w' hx _ => ?_) ?_
      · go_simp
      refine LX_det (.int .i64 a) (by kernel_rfl) rfl (fun w' hx _ => ?_) ?_
      · go_simp
      refine LX_det (.pointer (some ⟨g, a * 2, none⟩)) (by kernel_rfl) rfl (fun w' hx _ => ?_) ?_
      · go_simp
      refine LX_det (.agg #[.float .f32 x.1, .bool x.2]) (by kernel_rfl) rfl (fun w' hx _ => ?_) ?_
      · have m0 := (Below.cell hx (p := ⟨g, a * 2, none⟩) hgl).trans cx0; have m1 := (Below.cell hx (p := ⟨g, a * 2 + 1, none⟩) hgl).trans cx1
        go_simp
      refine LX_call (by kernel_rfl) rfl (fun _ => St.top) (fun w' hx _ => ?_) ?_
      · go_simp
        refine UponC.enter ((ordered_1 y x hoky.out HX.out _).mono ?_)
        rintro e w'' ⟨rfl, hx'⟩
        exact ⟨_, rfl, hx', rfl, trivial⟩
      rintro _ rfl
      refine LX_nil fun w2 hx _ => ?_
      simp only [Act.put, List.setIfInBounds_toArray, List.set_cons_succ, List.set_cons_zero]
      replace X := X.trans hx
      clear hx cy0 cy1 cx0 cx1 hgl l2
      by_cases hk : keyL y < keyL x
      · have hneg : cmpL y x < 0 := (cmpL_neg y x).2 hk
        have HN := Lib.hid (HB1'.out hk)
        clear hk
        generalize cmpL y x = c at *
        go_wp2_with fail
        go_roundw
        case rel => exact ⟨u + 1, t, by omega, htY, by have := HP.out; go_num, rfl, HN, HB2, X⟩
        case measure => have := HP.out; simp [intOf]; omega
      · have hneg : ¬ cmpL y x < 0 := fun h => hk ((cmpL_neg y x).1 h)
        have HN := Lib.hid (HB2'.out hk)
        clear hk
        generalize cmpL y x = c at *
        go_wp2_with fail
        go_roundw
        case rel => exact ⟨s, u, hus, by omega, rfl, by rw [HP.out], HB1, HN, X⟩
        case measure => have := HP.out; simp [intOf]; omega
    · obtain rfl : s = t := by omega
      have hlen : (upL A Y Z x 0).length = L := by rw [upL_0, ← HXE.out]; exact hL
      have own0 : OwnL B wr g cap (upL A Y Z x 0) := by rw [upL_0, ← HXE.out]; exact own.ext X
      have HFIN : Hid (Srt keyL (Y.take s ++ x :: Y.drop s)) := srt_ins HS.out s htY (fun h => HB1.out h htY) HB2.out
      have HLN : Hid (∀ k, (upL A Y Z x k).length = L) := fun k => by rw [upL_len]; rw [upL_len] at hlen; exact hlen
      have G0 : wo.grownBy wr (some g) := grown_of_ext X _
      clear own HB1 HB2 hlen X
      go_wp2_with fail
      obtain ⟨wz, rfl⟩ : ∃ wz : World, wz = wr := ⟨_, rfl⟩
      go_loopw [13] (fun k wr => ∃ (t p : Nat), t ≤ s ∧ p = a + t ∧ k = .int .i64 (p : Int) ∧ wo.grownBy wr (some g) ∧ OwnL B wr g cap (upL A Y Z x t)) (fun k _ => m + s - (intOf k).toNat)
      case atStart => exact ⟨0, a, Nat.zero_le _, rfl, rfl, G0, own0⟩
      case round =>
        clear own0 G0
        obtain ⟨t, p, hts, hpt, rfl, G, own⟩ := hrel
        by_cases hlt : t < s
        · have hlt1 : p + 1 < m + s := by omega
          have hlt2 : (p : Int) < ((m + s : Nat) : Int) - 1 := by omega
          have hl := HLN.out t
          have hstep := upL_step (Z := Z) (x := x) HA.out (show t < Y.length by omega)
          rw [← hpt] at hstep
          have hpL : p + 1 < L := by omega
          have hcl : ∀ W : World, OwnL B W g cap (upL A Y Z x t) → ∃ u v : Lf, (W.cell? ⟨g, p * 2, none⟩ = some (.float .f32 u.1) ∧ W.cell? ⟨g, p * 2 + 1, none⟩ = some (.bool u.2)) ∧ (W.cell? ⟨g, (p + 1) * 2, none⟩ = some (.float .f32 v.1) ∧ W.cell? ⟨g, (p + 1) * 2 + 1, none⟩ = some (.bool v.2)) ∧
              OwnL B ((((W.setCell ⟨g, p * 2, none⟩ (.float .f32 v.1)).setCell ⟨g, p * 2 + 1, none⟩ (.bool v.2)).setCell ⟨g, (p + 1) * 2, none⟩ (.float .f32 u.1)).setCell ⟨g, (p + 1) * 2 + 1, none⟩ (.bool u.2)) g cap (upL A Y Z x (t + 1)) := fun W o =>
            ⟨_, _, o.cells (k := p) (by omega), o.cells (k := p + 1) (by omega), by rw [← hstep]; exact o.swap (by omega) (by omega)⟩
          obtain ⟨u, v, ⟨cu0, cu1⟩, ⟨cv0, cv1⟩, own2⟩ := hcl wr own
          have fa0 := own.frozen (p * 2)
          have fa1 := own.frozen (p * 2 + 1)
          have fb0 := own.frozen ((p + 1) * 2)
          have fb1 := own.frozen ((p + 1) * 2 + 1)
          have HSW := Lib.hid own2
          obtain ⟨ua, ub⟩ := u
          obtain ⟨va, vb⟩ := v
          simp only at cu0 cu1 cv0 cv1 HSW
          have HPT := Lib.hid hpt
          clear hcl hstep hl own own2 hpt
          have s1 : IntKind.i64.wrap ((p : Int) + 1) = ((p + 1 : Nat) : Int) := IntWalk.i64_in _ (by omega)
          have l1 : ((p + 1 : Nat) : Int) < (L : Int) := by omega
          have l2 : (p : Int) < (L : Int) := by omega
          have np1 : ¬ (p + 1 = p) := by omega
          have np2 : ¬ (p = p + 1) := by omega
          generalize hP : p + 1 = P at *
          have HP := Lib.hid hP
          clear hP
          go_wp2_with fail
          go_region
          all_goals
            go_wp2_with fail
            go_roundw
            case rel => exact ⟨t + 1, P, by omega, by have := HPT.out; have := HP.out; omega, by go_num, (G.trans (grown_four _ _ _ _ _ _ _ _ _ _)).trans (grown_drewN _ 1 _), HSW.out.ext (Ext.drewN _ 1)⟩
            case measure => have := HP.out; simp [intOf]; omega
        · obtain rfl : t = s := by omega
          have hge : ¬ (p : Int) < ((m + t : Nat) : Int) - 1 := by omega
          clear hpt
          go_wp2_with fail
          go_end0
          refine ⟨rfl, G, Y.take t ++ x :: Y.drop t, upL_perm [] Y [] x t, HFIN.out, ?_⟩
          have e : upL A Y Z x t = A ++ ((Y.take t ++ x :: Y.drop t) ++ Z) := by unfold upL; simp only [List.append_assoc, List.cons_append]
          rw [e] at own; exact own

set_option maxRecDepth 100000 in
set_option maxHeartbeats 8000000 in
theorem merge_2 (A X Z X0 : List Lf) (y : Lf) (a m b g cap B L : Nat) (w : World) (own : OwnL B w g cap X0) (hX : X0 = A ++ (X ++ (y :: Z))) (ha : A.length = a) (hm : a + X.length = m) (hb : m + 1 = b) (hL : X0.length = L) (hz : L ≤ 1048576)
    (h2 : 2 ≤ X.length) (hy : okL y) (hXo : AllOk X) (hs : Srt keyL X) :
    Calls Try.prog 113 #[.slice (some ⟨g, 0, none⟩) L cap, .int .i64 a, .int .i64 m, .int .i64 b, .func (.func 96) #[] #[]] w (Merged A X [y] Z g cap B w) := by
  have hbL : b ≤ L := by rw [← hL, hX]; simp only [List.length_append, List.length_cons]; omega
  have hent := cmp_enter
  have hup : X0 = upL A X Z y X.length := by rw [hX]; unfold upL; rw [List.take_length, List.drop_length]; rfl
  have HUP := Lib.hid hup
  have HY := Lib.hid hy
  have HX := Lib.hid hXo
  have HS := Lib.hid hs
  have HA := Lib.hid ha
  have hd0 : ((m : Int) - (a : Int) == 1) = false := by rw [beq_eq_false_iff_ne]; omega
  have hd1 : ((b : Int) - (m : Int) == 1) = true := by rw [beq_iff_eq]; omega
  have hy0 : ∀ W, OwnL B W g cap X0 → W.cell? ⟨g, m * 2, none⟩ = some (.float .f32 y.1) ∧ W.cell? ⟨g, m * 2 + 1, none⟩ = some (.bool y.2) := fun W o => by
    have h := o.cells (k := m) (by omega)
    have e : X0[m]'(by omega) = y := by
      subst hX
      rw [List.getElem_append_right (by omega), List.getElem_append_right (by omega)]
      have e1 : m - A.length - X.length = 0 := by omega
      simp only [e1, List.getElem_cons_zero]
    rw [e] at h; exact h
  have hx0 : ∀ W, OwnL B W g cap X0 → ∀ j (hj : j < X.length), W.cell? ⟨g, (a + j) * 2, none⟩ = some (.float .f32 X[j].1) ∧ W.cell? ⟨g, (a + j) * 2 + 1, none⟩ = some (.bool X[j].2) := fun W o j hj => by
    have h := o.cells (k := a + j) (by omega)
    have e : X0[a + j]'(by omega) = X[j] := by
      subst hX; rw [List.getElem_append_right (by omega)]
      have e1 : a + j - A.length = j := by omega
      simp only [e1]
      rw [List.getElem_append_left hj]
    rw [e] at h; exact h
  have H0 := Lib.hid hy0
  have H1 := Lib.hid hx0
  clear hX hy hXo hs hx0 hy0 ha hup
  obtain ⟨wo, rfl⟩ : ∃ wo : World, wo = w := ⟨_, rfl⟩
  go_enter Try.func113, Try.ntmps113
  go_wp2_with fail
  go_loopw [14, 15] (fun i j wr => ∃ (s t : Nat), s ≤ t ∧ t ≤ X.length ∧ i = .int .i64 ((a + s : Nat) : Int) ∧ j = .int .i64 ((a + t : Nat) : Int) ∧ Hid (∀ (_ : 0 < s) (h : s ≤ X.length), keyL (X[s - 1]'(by omega)) ≤ keyL y) ∧ Hid (∀ h : t < X.length, keyL y ≤ keyL X[t]) ∧ Ext wo wr) (fun i j _ => (intOf j).toNat - (intOf i).toNat)
  case atStart => exact ⟨0, X.length, Nat.zero_le _, Nat.le_refl _, rfl, by go_num, (fun h => absurd h (by omega)), (fun h => absurd h (by omega)), Ext.refl _⟩
  case round =>
    obtain ⟨s, t, hst, htY, rfl, rfl, HB1, HB2, X1⟩ := hrel
    by_cases hlt : s < t
    · have hlt' : a + s < a + t := by omega
      obtain ⟨u, P, hus, hut, hP, hq⟩ : ∃ u P : Nat, s ≤ u ∧ u < t ∧ a + u = P ∧ ((a : Int) + (s : Int) + ((a : Int) + (t : Int))) / 2 = (P : Int) := ⟨(s + t) / 2, a + (s + t) / 2, by omega, by omega, rfl, by omega⟩
      have HQ := Lib.hid hq
      clear hq
      have hxu := H1.out wr (own.ext X1) u (Nat.lt_of_lt_of_le hut htY)
      rw [hP] at hxu
      have l1 : (P : Int) < (L : Int) := by omega
      have l2 : (m : Int) < (L : Int) := by omega
      have HP := Lib.hid hP
      clear hP
      have hyu := H0.out wr (own.ext X1)
      have hgl := (own.ext X1).lt.2
      have hokx := Lib.hid (HX.out _ (List.getElem_mem (show u < X.length by omega)))
      have HB2' : Hid (keyL y < keyL (X[u]'(by omega)) → ∀ h : u < X.length, keyL y ≤ keyL X[u]) := fun h _ => by omega
      have HB1' : Hid (¬ keyL y < keyL (X[u]'(by omega)) → ∀ (_ : 0 < u + 1) (h : u + 1 ≤ X.length), keyL (X[u + 1 - 1]'(by omega)) ≤ keyL y) := fun h _ _ => by simp only [Nat.add_sub_cancel]; omega
      generalize X[u]'(by omega) = x at *
      obtain ⟨cy0, cy1⟩ := hyu
      obtain ⟨cx0, cx1⟩ := hxu
      have hq := HQ.out
      go_wp2_with fail
      clear hq HQ
      refine wp_region_rel 10 (fun _ v => v = .int .i64 (cmpL y x)) (fun _ _ _ => True) (by kernel_rfl) (by kernel_rfl) (by kernel_rfl) ?_
      dsimp only [List.take, List.drop, List.length]
      refine LX_det (.func (.func 96) #[] #[]) (by kernel_rfl) rfl (fun w' hx _ => ?_) ?_
      · go_simp
      refine LX_det (.slice (some ⟨g, 0, none⟩) L cap) (by kernel_rfl) rfl (fun w' hx _ => ?_) ?_
      · go_simp
      refine LX_det (.int .i64 m) (by kernel_rfl) rfl (fun w' hx _ => ?_) ?_
      · go_simp
      refine LX_det (.pointer (some ⟨g, m * 2, none⟩)) (by kernel_rfl) rfl (fun w' hx _ => ?_) ?_
      · go_simp
      refine LX_det (.agg #[.float .f32 y.1, .bool y.2]) (by kernel_rfl) rfl (fun w' hx _ => ?_) ?_
      · have m0 := (Below.cell hx (p := ⟨g, m * 2, none⟩) hgl).trans cy0; have m1 := (Below.cell hx (p := ⟨g, m * 2 + 1, none⟩) hgl).trans cy1
        go_simp
      refine LX_det (.slice (some ⟨g, 0, none⟩) L cap) (by kernel_rfl) rfl (fun w' hx _ => ?_) ?_
      · go_simp
      refine LX_det (.int .i64 P) (by kernel_rfl) rfl (fun w' hx _ => ?_) ?_
      · go_simp
      refine LX_det (.pointer (some ⟨g, P * 2, none⟩)) (by kernel_rfl) rfl (fun w' hx _ => ?_) ?_
      · go_simp
      refine LX_det (.agg #[.float .f32 x.1, .bool x.2]) (by kernel_rfl) rfl (fun w' hx _ => ?_) ?_
      · have m0 := (Below.cell hx (p := ⟨g, P * 2, none⟩) hgl).trans cx0; have m1 := (Below.cell hx (p := ⟨g, P * 2 + 1, none⟩) hgl).trans cx1
        go_simp
      refine LX_call (by kernel_rfl) rfl (fun _ => St.top) (fun w' hx _ => ?_) ?_
      · go_simp
        refine UponC.enter ((ordered_1 y x HY.out hokx.out _).mono ?_)
        rintro e w'' ⟨rfl, hx'⟩
        exact ⟨_, rfl, hx', rfl, trivial⟩
      rintro _ rfl
      refine LX_nil fun w2 hx _ => ?_
      simp only [Act.put, List.setIfInBounds_toArray, List.set_cons_succ, List.set_cons_zero]
      replace X1 := X1.trans hx
      clear hx cy0 cy1 cx0 cx1 hgl l2
      by_cases hk : keyL y < keyL x
      · have hneg : cmpL y x < 0 := (cmpL_neg y x).2 hk
        have HN := Lib.hid (HB2'.out hk)
        clear hk
        generalize cmpL y x = c at *
        go_wp2_with fail
        go_roundw
        case rel => exact ⟨s, u, hus, by omega, rfl, by rw [HP.out], HB1, HN, X1⟩
        case measure => have := HP.out; simp [intOf]; omega
      · have hneg : ¬ cmpL y x < 0 := fun h => hk ((cmpL_neg y x).1 h)
        have HN := Lib.hid (HB1'.out hk)
        clear hk
        generalize cmpL y x = c at *
        go_wp2_with fail
        go_roundw
        case rel => exact ⟨u + 1, t, by omega, htY, by have := HP.out; go_num, rfl, HN, HB2, X1⟩
        case measure => have := HP.out; simp [intOf]; omega
    · obtain rfl : s = t := by omega
      have hlen : (upL A X Z y X.length).length = L := by rw [← HUP.out]; exact hL
      have own0 : OwnL B wr g cap (upL A X Z y X.length) := by rw [← HUP.out]; exact own.ext X1
      have HFIN : Hid (Srt keyL (X.take s ++ y :: X.drop s)) := srt_ins HS.out s htY (fun h => HB1.out h htY) HB2.out
      have HLN : Hid (∀ k, (upL A X Z y k).length = L) := fun k => by rw [upL_len]; rw [upL_len] at hlen; exact hlen
      have G0 : wo.grownBy wr (some g) := grown_of_ext X1 _
      clear own HB1 HB2 hlen X1
      go_wp2_with fail
      obtain ⟨wz, rfl⟩ : ∃ wz : World, wz = wr := ⟨_, rfl⟩
      go_loopw [17] (fun k wr => ∃ (t p : Nat), s ≤ t ∧ t ≤ X.length ∧ p = a + t ∧ k = .int .i64 (p : Int) ∧ wo.grownBy wr (some g) ∧ OwnL B wr g cap (upL A X Z y t)) (fun k _ => (intOf k).toNat)
      case atStart => exact ⟨X.length, m, htY, Nat.le_refl _, by omega, rfl, G0, own0⟩
      case round =>
        clear own0 G0
        obtain ⟨t, p, hts, htl, hpt, rfl, G, own⟩ := hrel
        by_cases hlt : s < t
        · obtain ⟨v, rfl⟩ : ∃ v, t = v + 1 := ⟨t - 1, by omega⟩
          obtain ⟨q, hq⟩ : ∃ q, q = a + v := ⟨_, rfl⟩
          obtain rfl : p = q + 1 := by omega
          have hlt1 : ((a + s : Nat) : Int) < ((q + 1 : Nat) : Int) := by omega
          have hlt2 : a + s < q + 1 := by omega
          have hl := HLN.out (v + 1)
          have hstep := upL_down (Z := Z) (x := y) HA.out (show v < X.length by omega)
          rw [← hq] at hstep
          have hpL : q + 1 < L := by omega
          have hcl : ∀ W : World, OwnL B W g cap (upL A X Z y (v + 1)) → ∃ u v' : Lf, (W.cell? ⟨g, (q + 1) * 2, none⟩ = some (.float .f32 u.1) ∧ W.cell? ⟨g, (q + 1) * 2 + 1, none⟩ = some (.bool u.2)) ∧ (W.cell? ⟨g, q * 2, none⟩ = some (.float .f32 v'.1) ∧ W.cell? ⟨g, q * 2 + 1, none⟩ = some (.bool v'.2)) ∧
              OwnL B ((((W.setCell ⟨g, (q + 1) * 2, none⟩ (.float .f32 v'.1)).setCell ⟨g, (q + 1) * 2 + 1, none⟩ (.bool v'.2)).setCell ⟨g, q * 2, none⟩ (.float .f32 u.1)).setCell ⟨g, q * 2 + 1, none⟩ (.bool u.2)) g cap (upL A X Z y v) := fun W o =>
            ⟨_, _, o.cells (k := q + 1) (by omega), o.cells (k := q) (by omega), by rw [← hstep]; exact o.swap (by omega) (by omega)⟩
          obtain ⟨u, v', ⟨cu0, cu1⟩, ⟨cv0, cv1⟩, own2⟩ := hcl wr own
          have fa0 := own.frozen ((q + 1) * 2)
          have fa1 := own.frozen ((q + 1) * 2 + 1)
          have fb0 := own.frozen (q * 2)
          have fb1 := own.frozen (q * 2 + 1)
          have HSW := Lib.hid own2
          obtain ⟨ua, ub⟩ := u
          obtain ⟨va, vb⟩ := v'
          simp only at cu0 cu1 cv0 cv1 HSW
          have HQ := Lib.hid hq
          clear hcl hstep hl own own2 hpt hq
          have s1 : IntKind.i64.wrap (((q + 1 : Nat) : Int) - 1) = (q : Int) := by have := IntWalk.i64_in (((q + 1 : Nat) : Int) - 1) (by omega); rw [this]; omega
          have l1 : ((q + 1 : Nat) : Int) < (L : Int) := by omega
          have l2 : (q : Int) < (L : Int) := by omega
          have np1 : ¬ (q + 1 = q) := by omega
          have np2 : ¬ (q = q + 1) := by omega
          generalize hP : q + 1 = P at *
          have HP := Lib.hid hP
          clear hP
          go_wp2_with fail
          go_region
          all_goals
            go_wp2_with fail
            go_roundw
            case rel => exact ⟨v, q, by omega, by omega, HQ.out, by have := HP.out; go_num, (G.trans (grown_four _ _ _ _ _ _ _ _ _ _)).trans (grown_drewN _ 1 _), HSW.out.ext (Ext.drewN _ 1)⟩
            case measure => have := HP.out; simp [intOf]; omega
        · obtain rfl : t = s := by omega
          have hge : ¬ ((a + t : Nat) : Int) < (p : Int) := by omega
          have hge2 : ¬ (a + t < p) := by omega
          clear hpt
          go_wp2_with fail
          go_end0
          refine ⟨rfl, G, X.take t ++ y :: X.drop t, ?_, HFIN.out, ?_⟩
          · exact (upL_perm [] X [] y t).trans (List.perm_append_comm (l₁ := [y]) (l₂ := X))
          · have e : upL A X Z y t = A ++ ((X.take t ++ y :: X.drop t) ++ Z) := by unfold upL; simp only [List.append_assoc, List.cons_append]
            rw [e] at own; exact own
end Go.Proofs.Ytlbmjeennpccmaa
/- The stable sort of lives: two sorted parts are merged, whatever their lengths. Condition: fewer than 2^20 lives, each with a time that is finite and greater than 0. -/
namespace Go.Proofs.Ytlbmjeennpccmaa
open Go Go.RowKit Go.ChangeShapes Go.WideShapes Go.ChangeAt

attribute [local go_sem] run_store_float
attribute [local irreducible] LX

/-- The contract for parts of at most so many elements together. -/
def MergeOk (N : Nat) : Prop := ∀ (A X Y Z X0 : List Lf) (a m b g cap B L : Nat) (ai mi bi : Int) (w : World), X.length + Y.length ≤ N → OwnL B w g cap X0 → X0 = A ++ (X ++ (Y ++ Z)) → A.length = a → a + X.length = m → m + Y.length = b → X0.length = L → L ≤ 1048576 →
  0 < X.length → 0 < Y.length → AllOk X → AllOk Y → Srt keyL X → Srt keyL Y → ai = a → mi = m → bi = b →
  Calls Try.prog 113 #[.slice (some ⟨g, 0, none⟩) L cap, .int .i64 ai, .int .i64 mi, .int .i64 bi, .func (.func 96) #[] #[]] w (Merged A X Y Z g cap B w)

/-- What is known of the two ends of the search. -/
def CutLo (X Y : List Lf) (u s : Nat) : Prop := ∀ (_ : 0 < s) (_ : s ≤ X.length) (_ : u - s < Y.length), keyL (X[s - 1]'(by omega)) ≤ keyL Y[u - s]
def CutHi (X Y : List Lf) (u r : Nat) : Prop := ∀ (_ : 0 < u - r) (_ : u - r ≤ Y.length) (_ : r < X.length), keyL (Y[u - r - 1]'(by omega)) ≤ keyL X[r]
theorem cutLo_next {X Y : List Lf} {u t v : Nat} (hv : v < Y.length) (ht : t < X.length) (huv : t + 1 + v = u) (h : ¬ keyL Y[v] < keyL X[t]) : CutLo X Y u (t + 1) := by
  intro _ _ _
  have e1 : u - (t + 1) = v := by omega
  simp only [Nat.add_sub_cancel, e1]
  omega
theorem cutHi_next {X Y : List Lf} {u t v : Nat} (hv : v < Y.length) (ht : t < X.length) (huv : t + 1 + v = u) (h : keyL Y[v] < keyL X[t]) : CutHi X Y u t := by
  intro _ _ _
  have e1 : u - t - 1 = v := by omega
  simp only [e1]
  omega

set_option maxRecDepth 100000 in
set_option maxHeartbeats 16000000 in
theorem merge_3 (N : Nat) (ih : MergeOk N) (A X Y Z X0 : List Lf) (a m b g cap B L : Nat) (w : World) (hN : X.length + Y.length ≤ N + 1) (own : OwnL B w g cap X0) (hX0 : X0 = A ++ (X ++ (Y ++ Z))) (ha : A.length = a) (hm : a + X.length = m) (hb : m + Y.length = b) (hL : X0.length = L) (hz : L ≤ 1048576)
    (h2 : 2 ≤ X.length) (h3 : 2 ≤ Y.length) (hxo : AllOk X) (hyo : AllOk Y) (hsx : Srt keyL X) (hsy : Srt keyL Y) :
    Calls Try.prog 113 #[.slice (some ⟨g, 0, none⟩) L cap, .int .i64 a, .int .i64 m, .int .i64 b, .func (.func 96) #[] #[]] w (Merged A X Y Z g cap B w) := by
  have hbL : b ≤ L := by rw [← hL, hX0]; simp only [List.length_append]; omega
  have hent := cmp_enter
  have hd0 : ((m : Int) - (a : Int) == 1) = false := by rw [beq_eq_false_iff_ne]; omega
  have hd1 : ((b : Int) - (m : Int) == 1) = false := by rw [beq_eq_false_iff_ne]; omega
  have hx0 : ∀ W, OwnL B W g cap X0 → ∀ j (hj : j < X.length), W.cell? ⟨g, (a + j) * 2, none⟩ = some (.float .f32 X[j].1) ∧ W.cell? ⟨g, (a + j) * 2 + 1, none⟩ = some (.bool X[j].2) := fun W o j hj => by
    have h := o.cells (k := a + j) (by omega)
    have e : X0[a + j]'(by omega) = X[j] := by
      subst hX0; rw [List.getElem_append_right (by omega)]
      have e1 : a + j - A.length = j := by omega
      simp only [e1]
      rw [List.getElem_append_left hj]
    rw [e] at h; exact h
  have hy0 : ∀ W, OwnL B W g cap X0 → ∀ j (hj : j < Y.length), W.cell? ⟨g, (m + j) * 2, none⟩ = some (.float .f32 Y[j].1) ∧ W.cell? ⟨g, (m + j) * 2 + 1, none⟩ = some (.bool Y[j].2) := fun W o j hj => by
    have h := o.cells (k := m + j) (by omega)
    have e : X0[m + j]'(by omega) = Y[j] := by
      subst hX0; rw [List.getElem_append_right (by omega), List.getElem_append_right (by omega)]
      have e1 : m + j - A.length - X.length = j := by omega
      simp only [e1]
      rw [List.getElem_append_left hj]
    rw [e] at h; exact h
  have H0 := Lib.hid hx0
  have H1 := Lib.hid hy0
  have IH := Lib.hid ih
  have HX := Lib.hid hxo
  have HY := Lib.hid hyo
  have HSX := Lib.hid hsx
  have HSY := Lib.hid hsy
  have HA := Lib.hid ha
  have HX0 := Lib.hid hX0
  have HN := Lib.hid hN
  obtain ⟨M, u, hMu, hu, hq⟩ : ∃ M u : Nat, M = a + u ∧ u = (X.length + Y.length) / 2 ∧ ((a : Int) + (b : Int)) / 2 = (M : Int) := ⟨a + (X.length + Y.length) / 2, _, rfl, rfl, by omega⟩
  obtain ⟨N2, hN2, hn2⟩ : ∃ N2 : Nat, N2 = M + m ∧ (M : Int) + (m : Int) = (N2 : Int) := ⟨_, rfl, by omega⟩
  obtain ⟨N1, hN1, hn1⟩ : ∃ N1 : Nat, N1 + 1 = N2 ∧ (N2 : Int) - 1 = (N1 : Int) := ⟨N2 - 1, by omega, by omega⟩
  have hML : M ≤ L := by omega
  clear hx0 hy0 ih hxo hyo hsx hsy ha hX0 hN
  obtain ⟨s0, r0, hs0, hr0, hcut⟩ : ∃ s0 r0 : Nat, (¬ (M : Int) < (m : Int) ∧ s0 = 0 ∧ r0 = X.length ∨ (M : Int) < (m : Int) ∧ s0 + Y.length = u ∧ r0 = u) ∧ s0 ≤ r0 ∧ (r0 ≤ X.length ∧ r0 ≤ u ∧ u ≤ s0 + Y.length) := by
    by_cases h : (M : Int) < (m : Int)
    · exact ⟨u - Y.length, u, .inr ⟨h, by omega, rfl⟩, by omega, by omega, by omega, by omega⟩
    · exact ⟨0, X.length, .inl ⟨h, rfl, rfl⟩, by omega, by omega, by omega, by omega⟩
  have HB0 : Hid (CutLo X Y u s0) := fun _ _ _ => by exfalso; rcases hs0 with ⟨_, h, _⟩ | ⟨_, h, _⟩ <;> omega
  have HB1 : Hid (CutHi X Y u r0) := fun _ _ _ => by exfalso; rcases hs0 with ⟨_, _, h⟩ | ⟨_, _, h⟩ <;> omega
  obtain ⟨wo, rfl⟩ : ∃ wo : World, wo = w := ⟨_, rfl⟩
  have HQ := Lib.hid hq
  have HMU := Lib.hid hMu
  have HU := Lib.hid hu
  have HN2 := Lib.hid hN2
  have HN1 := Lib.hid hN1
  rcases hs0 with ⟨hc, hs0, hr0'⟩ | ⟨hc, hs0, hr0'⟩
  all_goals
    have HS0 := Lib.hid hs0
    have HR0 := Lib.hid hr0'
    clear hs0 hr0' hMu hu hN2 hN1
    go_enter Try.func113, Try.ntmps113
    go_wp2_with fail
    clear hq hn1
    go_loopw [20, 21] (fun i j wr => ∃ (s t : Nat), s ≤ t ∧ t ≤ X.length ∧ t ≤ u ∧ u ≤ s + Y.length ∧ i = .int .i64 ((a + s : Nat) : Int) ∧ j = .int .i64 ((a + t : Nat) : Int) ∧ Hid (CutLo X Y u s) ∧ Hid (CutHi X Y u t) ∧ Ext wo wr) (fun i j _ => (intOf j).toNat - (intOf i).toNat)
    case atStart =>
      have e1 := HS0.out
      have e2 := HR0.out
      have e3 := HMU.out
      have e4 := HN2.out
      exact ⟨s0, r0, hr0, hcut.1, hcut.2.1, hcut.2.2, by first | (rw [e1]; rfl) | (congr 1; omega), by congr 1; omega, HB0, HB1, Ext.refl _⟩
    case round =>
      clear HB0 HB1 hcut hr0
      obtain ⟨s, t, hst, htX, htu, hus, rfl, rfl, HB1, HB2, X1⟩ := hrel
      by_cases hlt : s < t
      · have hlt' : a + s < a + t := by omega
        have e3 := HMU.out
        have e4 := HN2.out
        have e5 := HN1.out
        obtain ⟨c, P, v, Q, hsc, hct, hP, huv, hQ, hq, hs1⟩ : ∃ c P v Q : Nat, s ≤ c ∧ c < t ∧ a + c = P ∧ c + 1 + v = u ∧ m + v = Q ∧ ((a : Int) + (s : Int) + ((a : Int) + (t : Int))) / 2 = (P : Int) ∧ (N1 : Int) - (P : Int) = (Q : Int) :=
          ⟨(s + t) / 2, a + (s + t) / 2, u - (s + t) / 2 - 1, m + (u - (s + t) / 2 - 1), by omega, by omega, rfl, by omega, rfl, by omega, by omega⟩
        clear e3 e4 e5
        have hcX : c < X.length := Nat.lt_of_lt_of_le hct htX
        have hvY : v < Y.length := by omega
        have HQ' := Lib.hid hq
        have HS1 := Lib.hid hs1
        clear hq hs1
        have hxu := H0.out wr (own.ext X1) c hcX
        have hyu := H1.out wr (own.ext X1) v hvY
        rw [hP] at hxu
        rw [hQ] at hyu
        have l1 : (P : Int) < (L : Int) := by omega
        have l2 : (Q : Int) < (L : Int) := by omega
        have HLO := Lib.hid (cutLo_next hvY hcX huv)
        have HHI := Lib.hid (cutHi_next hvY hcX huv)
        have hokx := Lib.hid (HX.out _ (List.getElem_mem hcX))
        have hoky := Lib.hid (HY.out _ (List.getElem_mem hvY))
        generalize X[c] = x at *
        generalize Y[v] = y at *
        have hgl := (own.ext X1).lt.2
        have HP := Lib.hid hP
        have HUV := Lib.hid huv
        have HQQ := Lib.hid hQ
        clear hP huv hQ
        obtain ⟨cy0, cy1⟩ := hyu
        obtain ⟨cx0, cx1⟩ := hxu
        have hq := HQ'.out
        go_wp2_with fail
        clear hq
        have s1 : IntKind.i64.wrap ((N1 : Int) - (P : Int)) = (Q : Int) := by rw [HS1.out]; exact IntWalk.i64_in _ (by omega)
        refine wp_region_rel 12 (fun _ v => v = .int .i64 (cmpL y x)) (fun _ _ _ => True) (by kernel_rfl) (by kernel_rfl) (by kernel_rfl) ?_
        dsimp only [List.take, List.drop, List.length]
        refine LX_det (.func (.func 96) #[] #[]) (by kernel_rfl) rfl (fun w' hx _ => ?_) ?_
        · go_simp
        refine LX_det (.slice (some ⟨g, 0, none⟩) L cap) (by kernel_rfl) rfl (fun w' hx _ => ?_) ?_
        · go_simp
        refine LX_det (.int .i64 N1) (by kernel_rfl) rfl (fun w' hx _ => ?_) ?_
        · go_simp
        refine LX_det (.int .i64 P) (by kernel_rfl) rfl (fun w' hx _ => ?_) ?_
        · go_simp
        refine LX_det (.int .i64 Q) (by kernel_rfl) rfl (fun w' hx _ => ?_) ?_
        · go_simp
        refine LX_det (.pointer (some ⟨g, Q * 2, none⟩)) (by kernel_rfl) rfl (fun w' hx _ => ?_) ?_
        · go_simp
        refine LX_det (.agg #[.float .f32 y.1, .bool y.2]) (by kernel_rfl) rfl (fun w' hx _ => ?_) ?_
        · have m0 := (Below.cell hx (p := ⟨g, Q * 2, none⟩) hgl).trans cy0; have m1 := (Below.cell hx (p := ⟨g, Q * 2 + 1, none⟩) hgl).trans cy1
          go_simp
        refine LX_det (.slice (some ⟨g, 0, none⟩) L cap) (by kernel_rfl) rfl (fun w' hx _ => ?_) ?_
        · go_simp
        refine LX_det (.int .i64 P) (by kernel_rfl) rfl (fun w' hx _ => ?_) ?_
        · go_simp
        refine LX_det (.pointer (some ⟨g, P * 2, none⟩)) (by kernel_rfl) rfl (fun w' hx _ => ?_) ?_
        · go_simp
        refine LX_det (.agg #[.float .f32 x.1, .bool x.2]) (by kernel_rfl) rfl (fun w' hx _ => ?_) ?_
        · have m0 := (Below.cell hx (p := ⟨g, P * 2, none⟩) hgl).trans cx0; have m1 := (Below.cell hx (p := ⟨g, P * 2 + 1, none⟩) hgl).trans cx1
          go_simp
        refine LX_call (by kernel_rfl) rfl (fun _ => St.top) (fun w' hx _ => ?_) ?_
        · go_simp
          refine UponC.enter ((ordered_1 y x hoky.out hokx.out _).mono ?_)
          rintro e w'' ⟨rfl, hx'⟩
          exact ⟨_, rfl, hx', rfl, trivial⟩
        rintro _ rfl
        refine LX_nil fun w2 hx _ => ?_
        simp only [Act.put, List.setIfInBounds_toArray, List.set_cons_succ, List.set_cons_zero]
        replace X1 := X1.trans hx
        clear hx cy0 cy1 cx0 cx1 hgl l2 s1
        by_cases hk : keyL y < keyL x
        · have hneg : cmpL y x < 0 := (cmpL_neg y x).2 hk
          have HN' := Lib.hid (HHI.out hk)
          clear hk
          generalize cmpL y x = d at *
          go_wp2_with fail
          go_roundw
          case rel => exact ⟨s, c, hsc, by omega, by have := HUV.out; omega, hus, rfl, by rw [HP.out], HB1, HN', X1⟩
          case measure => have := HP.out; simp [intOf]; omega
        · have hneg : ¬ cmpL y x < 0 := fun h => hk ((cmpL_neg y x).1 h)
          have HN' := Lib.hid (HLO.out hk)
          clear hk
          generalize cmpL y x = d at *
          go_wp2_with fail
          go_roundw
          case rel => exact ⟨c + 1, t, by omega, htX, htu, by omega, by have := HP.out; go_num, rfl, HN', HB2, X1⟩
          case measure => have := HP.out; simp [intOf]; omega
      · obtain rfl : s = t := by omega
        obtain ⟨e, he⟩ : ∃ e, s + e = u := ⟨u - s, by omega⟩
        have e3 := HMU.out
        have e4 := HN2.out
        have hue : u - s = e := by omega
        have heY : e ≤ Y.length := by omega
        have HLE : Hid (∀ x ∈ X.take s ++ Y.take e, ∀ y ∈ X.drop s ++ Y.drop e, keyL x ≤ keyL y) :=
          split_le HSX.out HSY.out s e (fun h1 h2 h3 => by have h := HB1.out h1 h2 (by omega); simp only [hue] at h; exact h) (fun h1 h2 h3 => by have h := HB2.out (by omega) (by omega) h3; simp only [hue] at h; exact h) htX heY
        have HT : Hid (X0 = A ++ (X.take s ++ (X.drop s ++ (Y.take e ++ (Y.drop e ++ Z))))) := by
          show _ = _; rw [HX0.out, ← List.append_assoc (X.take s), List.take_append_drop, ← List.append_assoc (Y.take e), List.take_append_drop]
        have lXt : (X.take s).length = s := by rw [List.length_take]; omega
        have lYt : (Y.take e).length = e := by rw [List.length_take]; omega
        have lXd : (X.drop s).length = X.length - s := by rw [List.length_drop]
        have lYd : (Y.drop e).length = Y.length - e := by rw [List.length_drop]
        have HPM : Hid (((X.take s ++ Y.take e) ++ (X.drop s ++ Y.drop e)).Perm (X ++ Y)) := by
          show List.Perm _ _
          have h1 : (X ++ Y) = X.take s ++ (X.drop s ++ (Y.take e ++ Y.drop e)) := by rw [List.take_append_drop, ← List.append_assoc, List.take_append_drop]
          rw [h1, List.append_assoc]
          refine List.Perm.append_left _ ?_
          rw [← List.append_assoc, ← List.append_assoc]
          exact List.Perm.append_right _ List.perm_append_comm
        have o1 : AllOk (X.take s) := fun x hx => HX.out x (List.mem_of_mem_take hx)
        have o2 : AllOk (Y.take e) := fun x hx => HY.out x (List.mem_of_mem_take hx)
        have o3 : AllOk (X.drop s) := fun x hx => HX.out x (List.mem_of_mem_drop hx)
        have o4 : AllOk (Y.drop e) := fun x hx => HY.out x (List.mem_of_mem_drop hx)
        have O1 := Lib.hid o1
        have O2 := Lib.hid o2
        have O3 := Lib.hid o3
        have O4 := Lib.hid o4
        have S1 := Lib.hid (HSX.out.take s)
        have S2 := Lib.hid (HSY.out.take e)
        have S3 := Lib.hid (HSX.out.drop s)
        have S4 := Lib.hid (HSY.out.drop e)
        generalize X.take s = Xt at *
        generalize X.drop s = Xd at *
        generalize Y.take e = Yt at *
        generalize Y.drop e = Yd at *
        have HXT := Lib.hid lXt
        have HYT := Lib.hid lYt
        have HXD := Lib.hid lXd
        have HYD := Lib.hid lYd
        have own0 := own.ext X1
        have G0 : wo.grownBy wr (some g) := grown_of_ext X1 _
        obtain ⟨S, hS⟩ : ∃ S, S = a + s := ⟨_, rfl⟩
        obtain ⟨E, hE⟩ : ∃ E, E = m + e := ⟨_, rfl⟩
        have hend : (N2 : Int) - (S : Int) = (E : Int) := by omega
        have hSm : S < m ↔ s < X.length := by omega
        have hmE : m < E ↔ 0 < e := by omega
        have haS : a < S ↔ 0 < s := by omega
        have hSM : S < M ↔ 0 < e := by omega
        have hME : M < E ↔ s < X.length := by omega
        have hEb : E < b ↔ e < Y.length := by omega
        have hEL : E ≤ L := by omega
        have hSL : S ≤ L := by omega
        have hse : 2 ≤ s + e ∧ s + e + 2 ≤ X.length + Y.length := by have := HU.out; omega
        have HSE := Lib.hid hse
        have RS : Hid (S = a + s ∧ E = m + e ∧ M = S + e ∧ E = M + (X.length - s) ∧ (S < m ↔ s < X.length) ∧ (m < E ↔ 0 < e) ∧ (a < S ↔ 0 < s) ∧ (S < M ↔ 0 < e) ∧ (M < E ↔ s < X.length) ∧ (E < b ↔ e < Y.length)) := ⟨hS, hE, by omega, by omega, hSm, hmE, haS, hSM, hME, hEb⟩
        rw [← hS]
        have hlt2 : ¬ (S : Int) < (S : Int) := by omega
        clear own X1 HB1 HB2 lXt lYt lXd lYd o1 o2 o3 o4 e3 e4 hue he hS hE hSm hmE haS hSM hME hEb hlt hse
        have HT1L : Hid ((A ++ (Xt ++ (Yt ++ (Xd ++ (Yd ++ Z))))).length = L) := by show _ = _; rw [← hL, HT.out]; simp only [List.length_append]; omega
        have HB3 : Hid (X.length + Y.length ≤ N + 1 ∧ 2 ≤ X.length ∧ 2 ≤ Y.length ∧ s ≤ X.length ∧ e ≤ Y.length ∧ 2 ≤ s + e ∧ s + e + 2 ≤ X.length + Y.length) := ⟨HN.out, h2, h3, htX, heY, HSE.out⟩
        by_cases c1 : S < m ∧ m < E
        case' pos =>
          obtain ⟨c1a, c1b⟩ := c1
          have d1 : (S : Int) < (m : Int) := by omega
          have d2 : (m : Int) < (E : Int) := by omega
          go_wp2_with fail
          refine (rotate_i (A ++ Xt) Xd Yt (Yd ++ Z) X0 S m E g cap B L _ _ _ _ _ own0 (by rw [HT.out]; simp only [List.append_assoc]) (by have := RS.out; rw [HXD.out]; omega) (by have := RS.out; rw [HYT.out]; omega) (by rw [List.length_append, HA.out, HXT.out]; exact RS.out.1.symm) (by have := RS.out; rw [HXD.out]; omega) (by have := RS.out; rw [HYT.out]; omega) hL hz rfl rfl rfl).mono ?_
          rintro e' w1 ⟨rfl, G1, own1⟩
          replace G1 := G0.trans G1
          simp only [List.append_assoc] at own1
          clear own0 G0 c1a c1b d1 d2
        case' neg =>
          have hT1 : X0 = A ++ (Xt ++ (Yt ++ (Xd ++ (Yd ++ Z)))) := by
            rw [HT.out]
            by_cases h : S < m
            · have : Yt = [] := List.eq_nil_of_length_eq_zero (by have := RS.out; rw [HYT.out]; omega)
              rw [this]; rfl
            · have : Xd = [] := List.eq_nil_of_length_eq_zero (by have := RS.out; rw [HXD.out]; omega)
              rw [this]; rfl
          obtain ⟨w1, rfl⟩ : ∃ w1 : World, w1 = wr := ⟨_, rfl⟩
          have G1 := G0
          have own1 := own0
          rw [hT1] at own1
          clear own0 G0 hT1
          rcases (by omega : ((S : Int) < (m : Int) ∧ S < m ∧ ¬ (m : Int) < (E : Int) ∧ ¬ m < E) ∨ (¬ (S : Int) < (m : Int) ∧ ¬ S < m)) with ⟨f1, f2, f3, f4⟩ | ⟨f1, f2⟩
        all_goals try (exfalso; have k1 := RS.out; have k2 := HB3.out; omega)
        all_goals
          by_cases c2 : a < S ∧ S < M
          case' pos =>
            obtain ⟨c2a, c2b⟩ := c2
            have d3 : (a : Int) < (S : Int) := by omega
            have d4 : (S : Int) < (M : Int) := by omega
            go_wp2_with fail
            refine (IH.out A Xt Yt (Xd ++ (Yd ++ Z)) _ a S M g cap B L _ _ _ _ (by have := RS.out; have := HB3.out; rw [HXT.out, HYT.out]; omega) own1 rfl HA.out (by rw [HXT.out]; exact RS.out.1.symm) (by rw [HYT.out]; exact RS.out.2.2.1.symm) HT1L.out hz (by have := RS.out; rw [HXT.out]; omega) (by have := RS.out; rw [HYT.out]; omega) O1.out O2.out S1.out S2.out rfl rfl rfl).mono ?_
            rintro e' w2 ⟨rfl, G2, W1, p1, q1, own2⟩
            replace G2 := G1.trans G2
            have P1 := Lib.hid p1
            have Q1 := Lib.hid q1
            clear own1 G1 c2a c2b d3 d4 p1 q1
          case' neg =>
            obtain ⟨W1, P1, Q1, hW1⟩ : ∃ W1 : List Lf, Hid (W1.Perm (Xt ++ Yt)) ∧ Hid (Srt keyL W1) ∧ A ++ (Xt ++ (Yt ++ (Xd ++ (Yd ++ Z)))) = A ++ (W1 ++ (Xd ++ (Yd ++ Z))) := by
              refine ⟨Xt ++ Yt, List.Perm.refl _, ?_, by simp only [List.append_assoc]⟩
              show Srt keyL _
              by_cases h : a < S
              · have : Yt = [] := List.eq_nil_of_length_eq_zero (by have := RS.out; rw [HYT.out]; omega)
                rw [this, List.append_nil]; exact S1.out
              · have : Xt = [] := List.eq_nil_of_length_eq_zero (by have := RS.out; rw [HXT.out]; omega)
                rw [this]; exact S2.out
            obtain ⟨w2, rfl⟩ : ∃ w2 : World, w2 = w1 := ⟨_, rfl⟩
            have G2 := G1
            have own2 := own1
            rw [hW1] at own2
            clear own1 G1 hW1
            rcases (by omega : ((a : Int) < (S : Int) ∧ a < S ∧ ¬ (S : Int) < (M : Int) ∧ ¬ S < M) ∨ (¬ (a : Int) < (S : Int) ∧ ¬ a < S)) with ⟨g1, g2, g3, g4⟩ | ⟨g1, g2⟩
        all_goals
          have hW1l : W1.length = s + e := by rw [P1.out.length_eq, List.length_append, HXT.out, HYT.out]
          have HW1 := Lib.hid hW1l
          have HT2L : Hid ((A ++ (W1 ++ (Xd ++ (Yd ++ Z)))).length = L) := by show _ = _; rw [← HT1L.out]; simp only [List.length_append, hW1l, HXT.out, HYT.out]; omega
          clear hW1l
          by_cases c3 : M < E ∧ E < b
          case' pos =>
            obtain ⟨c3a, c3b⟩ := c3
            have d5 : (M : Int) < (E : Int) := by omega
            have d6 : (E : Int) < (b : Int) := by omega
            go_wp2_with fail
            refine (IH.out (A ++ W1) Xd Yd Z _ M E b g cap B L _ _ _ _ (by have := RS.out; have := HB3.out; rw [HXD.out, HYD.out]; omega) own2 (by simp only [List.append_assoc]) (by have := RS.out; rw [List.length_append, HA.out, HW1.out]; omega) (by have := RS.out; rw [HXD.out]; omega) (by have := RS.out; have := HB3.out; rw [HYD.out]; omega) HT2L.out hz (by have := RS.out; have := HB3.out; rw [HXD.out]; omega) (by have := RS.out; have := HB3.out; rw [HYD.out]; omega) O3.out O4.out S3.out S4.out rfl rfl rfl).mono ?_
            rintro e' w3 ⟨rfl, G3, W2, p2, q2, own3⟩
            replace G3 := G2.trans G3
            have P2 := Lib.hid p2
            have Q2 := Lib.hid q2
            simp only [List.append_assoc] at own3
            clear own2 G2 c3a c3b d5 d6 p2 q2
          case' neg =>
            obtain ⟨W2, P2, Q2, hW2⟩ : ∃ W2 : List Lf, Hid (W2.Perm (Xd ++ Yd)) ∧ Hid (Srt keyL W2) ∧ A ++ (W1 ++ (Xd ++ (Yd ++ Z))) = A ++ (W1 ++ (W2 ++ Z)) := by
              refine ⟨Xd ++ Yd, List.Perm.refl _, ?_, by simp only [List.append_assoc]⟩
              show Srt keyL _
              by_cases h : M < E
              · have : Yd = [] := List.eq_nil_of_length_eq_zero (by have := RS.out; have := HB3.out; rw [HYD.out]; omega)
                rw [this, List.append_nil]; exact S3.out
              · have : Xd = [] := List.eq_nil_of_length_eq_zero (by have := RS.out; rw [HXD.out]; omega)
                rw [this]; exact S4.out
            obtain ⟨w3, rfl⟩ : ∃ w3 : World, w3 = w2 := ⟨_, rfl⟩
            have G3 := G2
            have own3 := own2
            rw [hW2] at own3
            clear own2 G2 hW2
            rcases (by omega : ((M : Int) < (E : Int) ∧ M < E ∧ ¬ (E : Int) < (b : Int) ∧ ¬ E < b) ∨ (¬ (M : Int) < (E : Int) ∧ ¬ M < E)) with ⟨i1, i2, i3, i4⟩ | ⟨i1, i2⟩
        all_goals
          go_wp2_with fail
          go_end0
          refine ⟨rfl, G3, W1 ++ W2, (P1.out.append P2.out).trans HPM.out, srt_app Q1.out Q2.out (Srt.perm_le HLE.out P1.out P2.out), ?_⟩
          rw [List.append_assoc]; exact own3
end Go.Proofs.Ytlbmjeennpccmaa
