/- FnExactStandbySurvives returns true for every input and changes nothing that was there. No condition. -/
import Derived.Test.YtnlnjhbckfcmfaaNL
import Derived.Test.YtnlnjhbckfcmfaaMD
namespace Go.Proofs.Ytnlnjhbckfcmfaa
open Go Go.RowKit Go.ChangeShapes Go.WideShapes Go.ChangeAt

set_option maxHeartbeats 1000000 in
theorem l04Service_any (b : Nat) (n : Nat) (w : World) (hm : meanB (cn .f32 b) = true) (hn : n ≤ 32) :
    Calls Try.prog 76 #[.float .f32 b, .int .i64 n] w fun e w' => ∃ x, e = .returned (.float .f32 x) ∧ cn .f32 x = sumF (cn .f32 0) (needL (cn .f32 b) n) ∧ x < 4294967296 ∧ Ext w w' := by
  have HM := Lib.hid hm
  clear hm
  go_enter Try.func76, Try.ntmps76
  go_wp2_with fail
  refine (l04Needs_any b n _ HM.out hn).mono ?_
  rintro e w1 ⟨_, rfl, ⟨g, cap, us, rfl, hu, hb, own⟩, X⟩
  have R : RdF w1 (.slice (some ⟨g, 0, none⟩) us.length cap) us := ⟨own_rd own, hb⟩
  have hul : us.length = n + 1 := by rw [← needL_len (cn .f32 b) n, ← hu, List.length_map]
  have hu32 : us.length ≤ 33 := by omega
  have HU := Lib.hid hu
  have HUL := Lib.hid hul
  clear hu hb own hul
  go_wp2_with fail
  go_loopw [6, 7] (fun s i wr => ∃ (k x : Nat), k ≤ us.length ∧ i = .int .i64 k ∧ s = .float .f32 x ∧ Hid (cn .f32 x = sumF (cn .f32 0) ((us.map (cn .f32)).take k)) ∧ Hid (x < 4294967296) ∧ Ext w1 wr) (fun _ i _ => us.length - (intOf i).toNat)
  case atStart => exact ⟨0, 0, Nat.zero_le _, rfl, rfl, rfl, (by show (0 : Nat) < _; decide), Ext.refl _⟩
  case round =>
    obtain ⟨k, x, hk, rfl, rfl, Hx, Hl, X2⟩ := hrel
    by_cases hlt : k < us.length
    · obtain ⟨b1, o1, hbo, hb1, hc1⟩ := (R.ext X2).at hlt
      cases hbo
      rw [Nat.zero_add] at hc1
      go_wp2_with (first | (refine wpList_fop rfl rfl rfl rfl rfl ?_; intro fb nf hfb hfl; replace hfb := Lib.hid hfb; replace hfl := Lib.hid hfl))
      go_roundw
      case rel =>
        refine ⟨k + 1, fb, by omega, by go_num, rfl, ?_, hfl, X2.trans (Ext.drewN _ _)⟩
        show _ = _
        rw [hfb.out, Hx.out, sumF_take (by simpa using hlt)]
        simp
      case measure => simp [intOf]; omega
    · go_wp2_with fail
      go_ret
      refine ⟨x, rfl, ?_, Hl.out, X.trans X2⟩
      have h := Hx.out
      rw [List.take_of_length_le (by simp; omega), HU.out] at h
      exact h

def stOk (r : Nat) (s : Int) (t : Nat) : Bool := leastB r && leastB t && meanB (fop .mul .f32 r t) && inB s 0 32
def stO (r : Nat) (s : Int) (t : Nat) : Option Nat := if stOk r s t then finO (sumF (cn .f32 0) (needL (fop .mul .f32 r t) s.toNat)) else none

set_option maxHeartbeats 2000000 in
theorem specStandby_any (r : Nat) (s : Int) (t : Nat) (w : World) :
    Calls Try.prog 54 #[.float .f32 r, .int .i64 s, .float .f32 t] w (NmPost (stO (cn .f32 r) s (cn .f32 t)) w) := by
  cases h1 : leastB (cn .f32 r)
  · have H : Hid (stO (cn .f32 r) s (cn .f32 t) = none) := by show _ = _; simp [stO, stOk, h1]
    have H1 := Lib.hid h1
    clear h1
    go_enter Try.func54, Try.ntmps54
    go_wp2_with fail
    refine (l02Least_eq H1.out _).mono ?_
    rintro e w1 ⟨rfl, X⟩
    go_wp2_with fail
    go_ret2
    rw [H.out]
    exact ⟨X, rfl⟩
  · cases h2 : leastB (cn .f32 t)
    · have H : Hid (stO (cn .f32 r) s (cn .f32 t) = none) := by show _ = _; simp [stO, stOk, h2]
      have H1 := Lib.hid h1
      have H2 := Lib.hid h2
      clear h1 h2
      go_enter Try.func54, Try.ntmps54
      go_wp2_with fail
      refine (l02Least_eq H1.out _).mono ?_
      rintro e w1 ⟨rfl, X⟩
      go_wp2_with fail
      refine (l02Least_eq H2.out _).mono ?_
      rintro e w2 ⟨rfl, hx⟩
      replace X := X.trans hx
      go_wp2_with fail
      go_ret2
      rw [H.out]
      exact ⟨X, rfl⟩
    · cases h3 : meanB (fop .mul .f32 (cn .f32 r) (cn .f32 t))
      · have H : Hid (stO (cn .f32 r) s (cn .f32 t) = none) := by show _ = _; simp [stO, stOk, h3]
        have H1 := Lib.hid h1
        have H2 := Lib.hid h2
        have H3 := Lib.hid h3
        clear h1 h2 h3
        go_enter Try.func54, Try.ntmps54
        go_wp2_with fail
        refine (l02Least_eq H1.out _).mono ?_
        rintro e w1 ⟨rfl, X⟩
        go_wp2_with fail
        refine (l02Least_eq H2.out _).mono ?_
        rintro e w2 ⟨rfl, hx⟩
        replace X := X.trans hx
        go_wp2_with (first | (refine wpList_fop rfl rfl rfl rfl rfl ?_; intro fb nf hfb hfl; replace hfb := Lib.hid hfb; replace hfl := Lib.hid hfl))
        refine (l04Mean_eq (c := false) (by rw [hfb.out]; exact H3.out) _).mono ?_
        rintro e w3 ⟨rfl, rfl⟩
        go_wp2_with fail
        go_ret2
        rw [H.out]
        exact ⟨X.trans (Ext.drewN _ _), rfl⟩
      · cases h4 : inB s 0 32
        · have H : Hid (stO (cn .f32 r) s (cn .f32 t) = none) := by show _ = _; simp [stO, stOk, h4]
          have H1 := Lib.hid h1
          have H2 := Lib.hid h2
          have H3 := Lib.hid h3
          have H4 := Lib.hid h4
          clear h1 h2 h3 h4
          go_enter Try.func54, Try.ntmps54
          go_wp2_with fail
          refine (l02Least_eq H1.out _).mono ?_
          rintro e w1 ⟨rfl, X⟩
          go_wp2_with fail
          refine (l02Least_eq H2.out _).mono ?_
          rintro e w2 ⟨rfl, hx⟩
          replace X := X.trans hx
          go_wp2_with (first | (refine wpList_fop rfl rfl rfl rfl rfl ?_; intro fb nf hfb hfl; replace hfb := Lib.hid hfb; replace hfl := Lib.hid hfl))
          refine (l04Mean_eq (c := true) (by rw [hfb.out]; exact H3.out) _).mono ?_
          rintro e w3 ⟨rfl, rfl⟩
          go_wp2_with fail
          refine (l00In_eq H4.out _).mono ?_
          rintro e w3 ⟨rfl, rfl⟩
          go_wp2_with fail
          go_ret2
          rw [H.out]
          exact ⟨X.trans (Ext.drewN _ _), rfl⟩
        · have hs0 := inB_iff.1 h4
          obtain ⟨n, rfl⟩ := Int.eq_ofNat_of_zero_le hs0.1
          have hn : n ≤ 32 := by omega
          have H : Hid (stO (cn .f32 r) n (cn .f32 t) = finO (sumF (cn .f32 0) (needL (fop .mul .f32 (cn .f32 r) (cn .f32 t)) n))) := by show _ = _; simp [stO, stOk, h1, h2, h3, h4]
          have H1 := Lib.hid h1
          have H2 := Lib.hid h2
          have H3 := Lib.hid h3
          have H4 := Lib.hid h4
          clear h1 h2 h3 h4
          go_enter Try.func54, Try.ntmps54
          go_wp2_with fail
          refine (l02Least_eq H1.out _).mono ?_
          rintro e w1 ⟨rfl, X⟩
          go_wp2_with fail
          refine (l02Least_eq H2.out _).mono ?_
          rintro e w2 ⟨rfl, hx⟩
          replace X := X.trans hx
          go_wp2_with (first | (refine wpList_fop rfl rfl rfl rfl rfl ?_; intro fb nf hfb hfl; replace hfb := Lib.hid hfb; replace hfl := Lib.hid hfl))
          refine (l04Mean_eq (c := true) (by rw [hfb.out]; exact H3.out) _).mono ?_
          rintro e w3 ⟨rfl, rfl⟩
          go_wp2_with fail
          refine (l00In_eq H4.out _).mono ?_
          rintro e w3 ⟨rfl, rfl⟩
          go_wp2_with (first | (refine wpList_fop rfl rfl rfl rfl rfl ?_; intro fb nf hfb hfl; replace hfb := Lib.hid hfb; replace hfl := Lib.hid hfl))
          refine (l04Service_any fb n _ (by rw [hfb.out]; exact H3.out) hn).mono ?_
          rintro e w4 ⟨x, rfl, hx1, hx2, hx⟩
          have HX1 : Hid (cn .f32 x = sumF (cn .f32 0) (needL (fop .mul .f32 (cn .f32 r) (cn .f32 t)) n)) := by show _ = _; rw [hx1, hfb.out]
          have HX2 := Lib.hid hx2
          clear hx1 hx2
          go_wp2_with fail
          refine (l02Number_any x _).mono ?_
          rintro e w5 ⟨rfl, hx'⟩
          go_wp2_with fail
          go_ret2
          rw [H.out, ← HX1.out]
          exact nmPost_of (X.trans ((Ext.drewN _ _).trans (hx.trans hx'))) HX2.out

theorem RdF_two (w : World) (x y : Nat) (hx : x < 4294967296) (hy : y < 4294967296) : RdF (w.alloc (.cells #[.float .f32 x, .float .f32 y] 40)) (.slice (some ⟨w.heap.size, 0, none⟩) 2 2) [x, y] :=
  ⟨own_rd (World.ownsRow_lit (base := w.heap.size) (e := 40) (size := 1) w #[.float .f32 x, .float .f32 y] 2 (Nat.le_refl _) (by decide) rfl), by intro b hb; simp at hb; rcases hb with rfl | rfl <;> assumption⟩
theorem two_least (x y : Nat) : ([x, y].map (cn .f32)).all leastB = (leastB (cn .f32 x) && leastB (cn .f32 y)) := by simp
set_option maxHeartbeats 2000000 in
theorem implStandby_any (r : Nat) (s : Int) (t : Nat) (w : World) (hr : r < 4294967296) (htt : t < 4294967296) :
    Calls Try.prog 40 #[.float .f32 r, .int .i64 s, .float .f32 t] w (NmPost (stO (cn .f32 r) s (cn .f32 t)) w) := by
  have HR := Lib.hid hr
  have HT := Lib.hid htt
  clear hr htt
  cases h1 : leastB (cn .f32 r) && leastB (cn .f32 t)
  · have H : Hid (stO (cn .f32 r) s (cn .f32 t) = none) := by show _ = _; simp only [stO, stOk, h1, Bool.false_and]; rfl
    have H1 := Lib.hid ((two_least _ _).trans h1)
    clear h1
    go_enter Try.func40, Try.ntmps40
    go_wp2_with fail
    refine (areNotLess_eq H1.out _ (RdF_two _ _ _ HR.out HT.out)).mono ?_
    rintro e w1 ⟨rfl, X⟩
    go_wp2_with fail
    go_ret2
    rw [H.out]
    exact ⟨(Ext.alloc _ _).trans X, rfl⟩
  · have H1 := Lib.hid ((two_least _ _).trans h1)
    have HO : Hid (stO (cn .f32 r) s (cn .f32 t) = (needO (fop .mul .f32 (cn .f32 r) (cn .f32 t)) s).bind fun xs => finO (sumF (cn .f32 0) xs)) := by
      show _ = _
      unfold stO stOk needO
      rw [h1, Bool.true_and]
      cases meanB (fop .mul .f32 (cn .f32 r) (cn .f32 t)) && inB s 0 32 <;> rfl
    clear h1
    go_enter Try.func40, Try.ntmps40
    go_wp2_with fail
    refine (areNotLess_eq H1.out _ (RdF_two _ _ _ HR.out HT.out)).mono ?_
    rintro e w1 ⟨rfl, X⟩
    replace X : Ext w w1 := (Ext.alloc _ _).trans X
    go_wp2_with (first | (refine wpList_fop rfl rfl rfl rfl rfl ?_; intro fb nf hfb hfl; replace hfb := Lib.hid hfb; replace hfl := Lib.hid hfl))
    refine (implNeedShares_any fb s _).mono ?_
    rw [hfb.out]
    intro e w2 h
    cases ho : needO (fop .mul .f32 (cn .f32 r) (cn .f32 t)) s with
    | none =>
      rw [ho] at h
      obtain ⟨hx, rfl⟩ := h
      have HO2 : Hid (stO (cn .f32 r) s (cn .f32 t) = none) := by show _ = _; rw [HO.out, ho]; rfl
      clear ho
      go_wp2_with fail
      go_ret2
      rw [HO2.out]
      exact ⟨X.trans ((Ext.drewN _ _).trans hx), rfl⟩
    | some xs =>
      rw [ho] at h
      obtain ⟨hx, g, cap, os, rfl, hu, hb, own⟩ := h
      have R : RdF w2 (.slice (some ⟨g, 0, none⟩) os.length cap) os := ⟨own_rd own, hb⟩
      have HO2 : Hid (stO (cn .f32 r) s (cn .f32 t) = finO (sumF (cn .f32 0) (os.map (cn .f32)))) := by show _ = _; rw [HO.out, ho, hu]; rfl
      clear ho hu hb own
      go_wp2_with fail
      refine (addUp_any _ os _ R).mono ?_
      rintro e w3 ⟨x, rfl, hx1, hx2, hx'⟩
      have HX1 := Lib.hid hx1
      have HX2 := Lib.hid hx2
      clear hx1 hx2
      go_wp2_with fail
      refine (ifFinite_any x _).mono ?_
      rintro e w4 ⟨rfl, hx''⟩
      go_wp2_with fail
      go_ret2
      rw [HO2.out, ← HX1.out]
      exact nmPost_of (X.trans ((Ext.drewN _ _).trans (hx.trans (hx'.trans hx'')))) HX2.out

set_option maxHeartbeats 4000000 in
theorem FnExactStandbySurvives_law (r : Nat) (s : Int) (t : Nat) (o : Option Nat) (hs : ∀ w, Calls Try.prog 54 #[.float .f32 r, .int .i64 s, .float .f32 t] w (NmPost o w)) (hi : ∀ w, Calls Try.prog 40 #[.float .f32 r, .int .i64 s, .float .f32 t] w (NmPost o w)) (w : World) :
    Calls Try.prog 13 #[.float .f32 r, .int .i64 s, .float .f32 t] w fun e w' => e = .returned (.bool true) ∧ Ext w w' := by
  have HS := Lib.hid hs
  have HI := Lib.hid hi
  clear hs hi
  have wa : (Try.prog.underlying 40).isSome = true := by kernel_rfl
  go_enter Try.func13, Try.ntmps13
  go_wp2_with fail
  refine (HS.out _).mono ?_
  rintro e w1 ⟨X1, h1⟩
  obtain ⟨b, c, rfl, hb⟩ : ∃ b c, e = .returned (.tuple #[.float .f32 b, .bool c]) ∧ Hid (cn .f32 b = o.getD (cn .f32 0) ∧ c = o.isSome) := by
    cases o with
    | none => exact ⟨0, false, h1, rfl, rfl⟩
    | some x => obtain ⟨b, rfl, h, _⟩ := h1; exact ⟨b, true, rfl, h, rfl⟩
  clear h1
  go_wp2_with fail
  refine (HI.out _).mono ?_
  rintro e w2 ⟨X2, h2⟩
  obtain ⟨b', c', rfl, hb'⟩ : ∃ b c, e = .returned (.tuple #[.float .f32 b, .bool c]) ∧ Hid (cn .f32 b = o.getD (cn .f32 0) ∧ c = o.isSome) := by
    cases o with
    | none => exact ⟨0, false, h2, rfl, rfl⟩
    | some x => obtain ⟨b, rfl, h, _⟩ := h2; exact ⟨b, true, rfl, h, rfl⟩
  clear h2
  have hcc : c' = c := hb'.out.2.trans hb.out.2.symm
  subst hcc
  have Hbb : Hid (cn .f32 b' = cn .f32 b) := hb'.out.1.trans hb.out.1.symm
  clear hb hb'
  go_wp2_with (first | (refine wpList_wide wa Try.underlying46 rfl rfl rfl ?_; intro zb zn hzb hzl; clear hzl; first | (have hsame := Lib.hid (wide_same Hbb.out hza.out hzb); clear hzb) | (have hza := Lib.hid hzb; clear hzb)))
  refine (sameFloat_any _ _ _ hsame.out).mono ?_
  rintro e w3 ⟨rfl, X3⟩
  go_wp2_with fail
  go_ret
  exact ⟨rfl, X1.trans (X2.trans ((Ext.drewN _ _).trans X3))⟩

theorem standby_walk (v1 v2 v3 : Value) (w : World) (h1 : ArgF32 w v1) (h2 : ArgInt w v2) (h3 : ArgF32 w v3) :
    Calls Try.prog 13 #[v1, v2, v3] w fun e w' => e = .returned (.bool true) ∧ Ext w w' := by
  obtain ⟨r, rfl, hr⟩ := h1
  obtain ⟨s, rfl, _⟩ := h2
  obtain ⟨t, rfl, ht⟩ := h3
  exact FnExactStandbySurvives_law r s t _ (fun w => specStandby_any r s t w) (fun w => implStandby_any r s t w hr ht) w

theorem fnExactStandbySurvives_own : ownKnob Try.prog.godebug = none := by kernel_rfl
theorem fnExactStandbySurvives_laid : laidOutB Try.prog = true := by kernel_rfl

set_option maxRecDepth 100000 in
theorem fnExactStandbySurvives_lifted (os : Os) (started : os.Started) (H : Type) (enc : TypeId × Value → H) :
    ReturnsInHanded {} Try.checked os 13 .any (Rows.fnExactStandbySurvivesSpec.pre6 enc Try.prog Try.f13 Rows.fnExactStandbySurvivesRow.domain false) (Rows.fnExactStandbySurvivesSpec.post enc Try.prog Try.f13 false true false false) := by
  refine returnsInHanded_of_change (C := Try.checked) fnExactStandbySurvives_own started (by kernel_rfl) Try.func13
    (ChangeSpec.witness6 (enc := enc) (C := Try.checked) false ⟨#[], #[.float .f32 0, .int .i64 0, .float .f32 0], []⟩ 8 (by kernel_rfl) (by kernel_rfl) (by kernel_rfl) (by kernel_rfl)) ?_
  intro W base args ds gs before hval0 hW hcnd _
  have hval : ∀ (j : Nat) t v, Try.f13.params[j]? = some t → args[j]? = some v → Value.okWide Try.prog W .any base t v := hval0
  have hW' := hW
  obtain ⟨p, q, hA0, hV, rfl, hfz, hnd⟩ := hW
  have hA : DataW.TrodAll enc Try.prog W 0 (fun _ => true) true Try.f13.params.toList args.toList ds p := hA0
  rw [Try.params13] at hA hval
  obtain ⟨v0, vs0, d0, ds0, p0, q0, hargs, rfl, rfl, h0, r0⟩ := trodAll_cons hA
  obtain ⟨v1, vs1, d1, ds1, p1, q1, rfl, rfl, rfl, h1, r1⟩ := trodAll_cons r0
  obtain ⟨v2, vs2, d2, ds2, p2, q2, rfl, rfl, rfl, h2, r2⟩ := trodAll_cons r1
  obtain ⟨rfl, rfl, rfl⟩ := trodAll_nil r2
  obtain rfl : args = #[v0, v1, v2] := by cases args; simp_all
  obtain ⟨rfl, rfl⟩ := trodVars_none hV
  have lt0 : ∀ x ∈ p0, x.block < W.heap.size := by obtain ⟨m, hm⟩ := h0; exact DataW.trod_lt m _ _ _ hm
  have w0 := argF32 Try.underlying40 (hval 0 40 v0 rfl rfl) h0
  have lt1 : ∀ x ∈ p1, x.block < W.heap.size := by obtain ⟨m, hm⟩ := h1; exact DataW.trod_lt m _ _ _ hm
  have w1 := argInt Try.underlying2 (hval 1 2 v1 rfl rfl) h1
  have lt2 : ∀ x ∈ p2, x.block < W.heap.size := by obtain ⟨m, hm⟩ := h2; exact DataW.trod_lt m _ _ _ hm
  have w2 := argF32 Try.underlying40 (hval 2 40 v2 rfl rfl) h2
  clear hA0 hval0
  refine (standby_walk v0 v1 v2 W w0 w1 w2).mono fun e W' ⟨he, bel⟩ => ?_
  subst he
  exact ⟨_, rfl, _, _, _, [], _, [], hW', trodAll_mk1 (shut_bool Try.underlying4 _), (trodAll_cons_mk (Below.trod fnExactStandbySurvives_laid (by kernel_rfl) (of_decide_eq_true (by kernel_rfl)) h0 bel lt0) (trodAll_cons_mk (Below.trod fnExactStandbySurvives_laid (by kernel_rfl) (of_decide_eq_true (by kernel_rfl)) h1 bel lt1) (trodAll_cons_mk (Below.trod fnExactStandbySurvives_laid (by kernel_rfl) (of_decide_eq_true (by kernel_rfl)) h2 bel lt2) trodAll_mk0))), rfl, bel.below.frame _, fun h => by cases h⟩

theorem fnExactStandbySurvives_toL {s : String} {L : List Char} (h : s = String.ofList L) : s.toList = L := by rw [h]; exact String.toList_ofList
def fnExactStandbySurvives_enterF (P : Program) : { F : List Char → Bool // P.mayEnter = F P.initOrder.toList } :=
  ⟨_, by unfold Program.mayEnter; generalize P.initOrder.toList = l; exact rfl⟩
def fnExactStandbySurvives_liftsF (P : Program) : { F : List Char → Bool // P.liftsFinal = F P.initOrder.toList } :=
  ⟨_, by unfold Program.liftsFinal Program.headLifts; generalize P.initOrder.toList = l; exact rfl⟩
def fnExactStandbySurvives_makeF (P : Program) : { F : List Char → Option Make // P.make = F P.initOrder.toList } :=
  ⟨_, by unfold Program.make; generalize P.initOrder.toList = l; exact rfl⟩
set_option maxRecDepth 100000 in
theorem fnExactStandbySurvives_enter : Try.checked.prog.mayEnter = true :=
  ((fnExactStandbySurvives_enterF Try.checked.prog).2.trans (congrArg (fnExactStandbySurvives_enterF Try.checked.prog).1 (fnExactStandbySurvives_toL (rfl : Try.checked.prog.initOrder = String.ofList _)))).trans (by kernel_rfl)
set_option maxRecDepth 100000 in
theorem fnExactStandbySurvives_lifts : Try.checked.prog.liftsFinal = false :=
  ((fnExactStandbySurvives_liftsF Try.checked.prog).2.trans (congrArg (fnExactStandbySurvives_liftsF Try.checked.prog).1 (fnExactStandbySurvives_toL (rfl : Try.checked.prog.initOrder = String.ofList _)))).trans (by kernel_rfl)
set_option maxRecDepth 100000 in
theorem fnExactStandbySurvives_make : Try.checked.prog.make = some .cut :=
  ((fnExactStandbySurvives_makeF Try.checked.prog).2.trans (congrArg (fnExactStandbySurvives_makeF Try.checked.prog).1 (fnExactStandbySurvives_toL (rfl : Try.checked.prog.initOrder = String.ofList _)))).trans (by kernel_rfl)
set_option maxRecDepth 100000 in
theorem fnExactStandbySurvives_closed : joinedFacts Try.checked.prog 13 Try.f13 Rows.fnExactStandbySurvivesSpec Rows.fnExactStandbySurvivesRow = true := by
  unfold joinedFacts
  rw [fnExactStandbySurvives_enter, fnExactStandbySurvives_lifts, fnExactStandbySurvives_make]
  decide +kernel

theorem fnExactStandbySurvives_over : Rows.fnExactStandbySurvivesRow.holds Try.pinned (OpenSpec.ofChange Rows.fnExactStandbySurvivesSpec) :=
  OpenClaim.holds_of_wide 13 Try.f13 rfl rfl rfl rfl rfl rfl rfl ⟨rfl, rfl, rfl, rfl, rfl⟩ rfl rfl rfl rfl rfl (by kernel_rfl) Try.func13 fnExactStandbySurvives_closed
    (of_decide_eq_true (by kernel_rfl)) (by unfold Func.isWrapper; first | (rw [if_pos (by decide +kernel)]; kernel_rfl) | (rw [if_neg (by decide +kernel)]; exact ⟨rfl, rfl⟩))
    (fun os started H enc _ => fnExactStandbySurvives_lifted os started H enc)

/-- The statement. -/
theorem fnExactStandbySurvives_holds : Rows.FnExactStandbySurvivesSaid := fnExactStandbySurvives_over


end Go.Proofs.Ytnlnjhbckfcmfaa
