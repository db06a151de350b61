
/- FnExactMiddleLife returns true for every input and changes nothing that was there. No condition. -/
import Derived.Test.YtkkmhckhggggaaaLy
namespace Go.Proofs.Ytkkmhckhggggaaa
open Go Go.RowKit Go.ChangeShapes Go.WideShapes Go.ChangeAt

attribute [local go_sem] run_store_float

def midB (s : Nat) : Bool := fcmp .leq .f32 s (cn .f32 1056964608)
def midO (ls : List Lf) : Option Nat := if livesB ls then ((survL ls).findIdx? midB).map fun i => (timesL ls).getD i 0 else none
theorem survL_len (ls : List Lf) : (survL ls).length = (timesL ls).length := by unfold survL; rw [scanK_len]

set_option maxRecDepth 100000 in
set_option maxHeartbeats 4000000 in
theorem specMiddleLife_any (v : Value) (ls : List Lf) (w : World) (r : RdL w v ls) : Calls Try.prog 29 #[v] w (NmPost (midO ls) w) := by
  cases h : livesB ls
  · have H : Hid (midO ls = none) := by show _ = _; unfold midO; rw [h]; rfl
    have HA := Lib.hid (l02Lives_any v ls w r)
    rw [h] at HA
    clear h
    obtain ⟨⟨_, a1, c1, rfl, p1, p2, _, _⟩, _⟩ := r
    go_enter Try.func29, Try.ntmps29
    go_wp2_with fail
    refine HA.out.mono ?_
    rintro e w1 ⟨rfl, X⟩
    go_wp2_with fail
    go_ret2
    rw [H.out]
    exact ⟨X, rfl⟩
  · have H : Hid (midO ls = ((survL ls).findIdx? midB).map fun i => (timesL ls).getD i 0) := by show _ = _; unfold midO; rw [h]; rfl
    have HV := Lib.hid (l02Lives_any v ls w r)
    have hl := livesB_len h
    have hok := livesB_ok h r.2
    have hz : ls.length ≤ 1048576 := by omega
    have HF := Lib.hid (fun W r => l02Times_any v ls W r hl.1 hz hok)
    have HT := Lib.hid (fun W r => l02Table_any v ls W r hl.1 hz hok)
    have HTR := Lib.hid (fun (W : World) (B g cap : Nat) => times_rd (w := W) (B := B) (g := g) (cap := cap) hok)
    have HTP := Lib.hid (timesL_pos hok)
    have hlen := timesL_len ls
    have hsl := survL_len ls
    have r' := r
    rw [h] at HV
    clear h hok hl
    obtain ⟨⟨-, a1, c1, rfl, -, -, -, -⟩, -⟩ := r
    go_enter Try.func29, Try.ntmps29
    go_wp2_with fail
    refine HV.out.mono ?_
    rintro e w0 ⟨rfl, X0⟩
    go_wp2_with fail
    refine (HF.out _ (r'.ext X0)).mono ?_
    rintro e w1 ⟨g, cap, rfl, own, X1⟩
    go_wp2_with fail
    refine (HT.out _ ((r'.ext X0).ext X1)).mono ?_
    rintro e w2 ⟨v2, rfl, ⟨g2, cap2, os, rfl, hos, hob, own2⟩, X2⟩
    have R := HTR.out _ _ _ _ (own_ext own X2)
    have R2 : RdF w2 (.slice (some ⟨g2, 0, none⟩) os.length cap2) os := ⟨own_rd own2, hob⟩
    have HOS := Lib.hid hos
    have hol : os.length = (timesL ls).length := by rw [← hsl, ← hos, List.length_map]
    have Y : Ext w w2 := X0.trans (X1.trans X2)
    generalize timesL ls = T at *
    generalize survL ls = S at *
    clear own own2 hob hos HF HT HTR HV hsl
    go_wp2_with fail
    go_loopw [6] (fun i wr => ∃ k : Nat, k ≤ T.length ∧ i = .int .i64 k ∧ Hid (∀ j, (h : j < k) → (h' : j < os.length) → midB (cn .f32 os[j]) = false) ∧ wr = w2) (fun i _ => T.length - (intOf i).toNat)
    case atStart => exact ⟨0, Nat.zero_le _, rfl, fun j h => absurd h (Nat.not_lt_zero _), rfl⟩
    case round =>
      obtain ⟨k, hk, rfl, HN, rfl⟩ := hrel
      by_cases hlt : k < T.length
      · obtain ⟨b1, o1, hbo, hb1, hc1⟩ := R.at hlt
        obtain ⟨rfl, rfl⟩ : g = b1 ∧ 0 = o1 := by simpa using hbo
        obtain ⟨b2, o2, hbo2, hb2, hc2⟩ := R2.at (k := k) (by omega)
        obtain ⟨rfl, rfl⟩ : g2 = b2 ∧ 0 = o2 := by simpa using hbo2
        rw [Nat.zero_add] at hc1 hc2
        clear hbo hbo2
        cases hp : fcmp .leq .f32 (cn .f32 (os[k]'(by omega))) (cn .f32 1056964608)
        · have HK : Hid (∀ j, (h : j < k + 1) → (h' : j < os.length) → midB (cn .f32 os[j]) = false) := fun j hj hj' => by
            by_cases hjk : j = k
            · subst hjk; exact hp
            · exact HN.out j (by omega) hj'
          have hk1 : k < os.length := by omega
          go_wp2_with (refine wpList_fcmp rfl rfl rfl rfl rfl (by first | with_reducible assumption | exact rfl) ?_)
          go_roundw
          case rel => exact ⟨k + 1, by omega, by go_num, HK, by first | rfl | trivial⟩
          case measure => simp [intOf]; omega
        · have HI : Hid ((S.findIdx? midB).map (fun i => T.getD i 0) = some T[k]) := by
            show _ = _
            have : S.findIdx? midB = some k := by
              rw [← HOS.out, List.findIdx?_eq_some_iff_getElem]
              refine ⟨by rw [List.length_map]; omega, by rw [List.getElem_map]; exact hp, fun j hj => ?_⟩
              rw [List.getElem_map, HN.out j hj (by omega)]; simp
            rw [this]; simp [hlt]
          have HPK := Lib.hid (HTP.out _ (List.getElem_mem hlt))
          have hk1 : k < os.length := by omega
          go_wp2_with (refine wpList_fcmp rfl rfl rfl rfl rfl (by first | with_reducible assumption | exact rfl) ?_)
          go_ret2
          rw [H.out, HI.out]
          exact ⟨Y, T[k], rfl, cn_pos HPK.out, by have := HPK.out.2; omega⟩
      · obtain rfl : k = T.length := by omega
        go_wp2_with fail
        go_ret2
        have : S.findIdx? midB = none := by
          rw [← HOS.out, List.findIdx?_eq_none_iff]
          intro x hx
          obtain ⟨b, hb, rfl⟩ := List.mem_map.1 hx
          obtain ⟨j, hj, rfl⟩ := List.getElem_of_mem hb
          exact HN.out j (by omega) hj
        rw [H.out, this]
        exact ⟨Y, rfl⟩

theorem middleLife_1 (b : Nat) (w : World) : Calls Try.prog 79 #[.float .f32 b] w fun e w' => e = .returned (.bool (midB (cn .f32 b))) ∧ Ext w w' := by
  cases h : fcmp .leq .f32 (cn .f32 b) (cn .f32 1056964608)
  all_goals
    have H := Lib.hid h
    go_enter Try.func79, Try.ntmps79
    go_wp2_with (refine wpList_fcmp rfl rfl rfl rfl rfl (by first | with_reducible assumption | exact rfl) ?_)
    go_ret
    exact ⟨ret_bool (by unfold midB; exact H.out.symm), Ext.refl _⟩
set_option maxRecDepth 100000 in
set_option maxHeartbeats 4000000 in
theorem implMiddleLife_any (v : Value) (ls : List Lf) (w : World) (r : RdL w v ls) : Calls Try.prog 30 #[v] w (NmPost (midO ls) w) := by
  cases h : livesB ls
  · have H : Hid (midO ls = none) := by show _ = _; unfold midO; rw [h]; rfl
    have HA := Lib.hid (areLives_any v ls w r)
    rw [h] at HA
    clear h
    obtain ⟨⟨_, a1, c1, rfl, p1, p2, _, _⟩, _⟩ := r
    go_enter Try.func30, Try.ntmps30
    go_wp2_with fail
    refine HA.out.mono ?_
    rintro e w1 ⟨rfl, X⟩
    go_wp2_with fail
    go_ret2
    rw [H.out]
    exact ⟨X, rfl⟩
  · have H : Hid (midO ls = ((survL ls).findIdx? midB).map fun i => (timesL ls).getD i 0) := by show _ = _; unfold midO; rw [h]; rfl
    have HV := Lib.hid (areLives_any v ls w r)
    have hl := livesB_len h
    have hok := livesB_ok h r.2
    have hz : ls.length ≤ 1048576 := by omega
    have HF := Lib.hid (fun W r => failures_any v ls W r hl.1 hz hok)
    have HT := Lib.hid (fun W r => survivors_any v ls W r hl.1 hz hok)
    have HTR := Lib.hid (fun (W : World) (B g cap : Nat) => times_rd (w := W) (B := B) (g := g) (cap := cap) hok)
    have HTP := Lib.hid (timesL_pos hok)
    have hlen := timesL_len ls
    have hsl := survL_len ls
    have r' := r
    rw [h] at HV
    clear h hok hl
    obtain ⟨⟨-, a1, c1, rfl, -, -, -, -⟩, -⟩ := r
    go_enter Try.func30, Try.ntmps30
    go_wp2_with fail
    refine HV.out.mono ?_
    rintro e w0 ⟨rfl, X0⟩
    go_wp2_with fail
    refine (HT.out _ (r'.ext X0)).mono ?_
    rintro e w1 ⟨v2, rfl, ⟨g2, cap2, os, rfl, hos, hob, own2⟩, X1⟩
    have R2 : RdF w1 (.slice (some ⟨g2, 0, none⟩) os.length cap2) os := ⟨own_rd own2, hob⟩
    clear own2 hob
    go_wp2_with fail
    refine (indexFuncF_any 79 #[] midB _ os _ R2 (enterOk Try.func79 (by kernel_rfl) rfl) (fun w' _ b _ => middleLife_1 b w')).mono ?_
    rintro e w2 ⟨rfl, X2⟩
    rw [hos]
    have Y : Ext w w2 := X0.trans (X1.trans X2)
    have HY := Lib.hid (r'.ext Y)
    cases hf : (survL ls).findIdx? midB with
    | none =>
      have hi : idxOf midB (survL ls) = -1 := by unfold idxOf; rw [hf]
      have HO : Hid (midO ls = none) := by show _ = _; rw [H.out, hf]; rfl
      rw [hi]
      clear hf hi
      go_wp2_with fail
      go_ret2
      rw [HO.out]
      exact ⟨Y, rfl⟩
    | some k =>
      have hi : idxOf midB (survL ls) = (k : Int) := by unfold idxOf; rw [hf]
      have hk : k < (timesL ls).length := by rw [← hsl]; exact (List.findIdx?_eq_some_iff_getElem.1 hf).1
      have HO : Hid (midO ls = some ((timesL ls)[k])) := by show _ = _; rw [H.out, hf]; simp [hk]
      have HPK := Lib.hid (HTP.out _ (List.getElem_mem hk))
      rw [hi]
      clear hf hi
      go_wp2_with fail
      refine (HF.out _ HY.out).mono ?_
      rintro e w3 ⟨g, cap, rfl, own, X3⟩
      have R := HTR.out _ _ _ _ own
      clear own
      obtain ⟨b1, o1, hbo, hb1, hc1⟩ := R.at hk
      obtain ⟨rfl, rfl⟩ : g = b1 ∧ 0 = o1 := by simpa using hbo
      rw [Nat.zero_add] at hc1
      generalize (timesL ls)[k] = t at *
      generalize (timesL ls).length = n at *
      clear hbo R
      go_wp2_with fail
      go_ret2
      rw [HO.out]
      exact ⟨Y.trans X3, t, rfl, cn_pos HPK.out, by have := HPK.out.2; omega⟩

set_option maxRecDepth 100000 in
set_option maxHeartbeats 4000000 in
theorem FnExactMiddleLife_law (v : Value) (ls : List Lf)  (o : Option Nat) (w : World) (r : RdL w v ls)
    (hs : ∀ w v, RdL w v ls → Calls Try.prog 29 #[v] w (NmPost o w)) (hi : ∀ w v, RdL w v ls → Calls Try.prog 30 #[v] w (NmPost o w)) :
    Calls Try.prog 5 #[v] w fun e w' => e = .returned (.bool true) ∧ Ext w w' := by
  have HS := Lib.hid hs
  have HI := Lib.hid hi
  have r' := r
  have wa : (Try.prog.underlying 36).isSome = true := by kernel_rfl
  obtain ⟨⟨-, a1, c1, rfl, p1, p2, -, -⟩, -⟩ := r
  have p3 : ls.length ≤ maxLen := Nat.le_trans p1 p2
  clear hs hi p1 p2
  by_cases hn : ls.length ≤ 1048576
  · go_enter Try.func5, Try.ntmps5
    go_wp2_with fail
    refine (szLifeS_any _ _ _ _ _ p3 (by decide) (by decide)).mono ?_
    rintro e w0 ⟨rfl, rfl⟩
    rw [if_neg (by omega)]
    have hge : ¬ (1048576 : Int) - ls.length < 0 := by omega
    go_wp2_with fail
    refine (toLifeS_any _ ls _ r' hn).mono ?_
    rintro e w1 ⟨g1, rfl, X1, own1⟩
    have r1 : RdL w1 (.slice (some ⟨g1, 0, none⟩) ls.length ls.length) ls := own1.rd r'.2
    clear own1
    go_wp2_with fail
    refine (HS.out _ _ r1).mono ?_
    rintro e w2 ⟨X2, h2⟩
    obtain ⟨b, c, rfl, hb⟩ : ∃ b c, e = .returned (.tuple #[.float .f32 b, .bool c]) ∧ Hid (cn .f32 b = o.getD (cn .f32 0) ∧ c = o.isSome) := by
      cases o with
      | none => exact ⟨0, false, h2, rfl, rfl⟩
      | some x => obtain ⟨b, rfl, h, _⟩ := h2; exact ⟨b, true, rfl, h, rfl⟩
    have X02 : Ext w w2 := X1.trans X2
    clear h2 r1
    go_wp2_with fail
    refine (toLifeS_any _ ls _ (r'.ext X02) hn).mono ?_
    rintro e w3 ⟨g3, rfl, X3, own3⟩
    have r3 : RdL w3 (.slice (some ⟨g3, 0, none⟩) ls.length ls.length) ls := own3.rd r'.2
    clear own3
    go_wp2_with fail
    refine (HI.out _ _ r3).mono ?_
    rintro e w4 ⟨X4, h4⟩
    obtain ⟨b', c', rfl, hb'⟩ : ∃ b c, e = .returned (.tuple #[.float .f32 b, .bool c]) ∧ Hid (cn .f32 b = o.getD (cn .f32 0) ∧ c = o.isSome) := by
      cases o with
      | none => exact ⟨0, false, h4, rfl, rfl⟩
      | some x => obtain ⟨b, rfl, h, _⟩ := h4; exact ⟨b, true, rfl, h, rfl⟩
    clear h4
    have hcc : c' = c := hb'.out.2.trans hb.out.2.symm
    subst hcc
    have Hbb : Hid (cn .f32 b' = cn .f32 b) := hb'.out.1.trans hb.out.1.symm
    have r4 := r3.ext X4
    have Y : Ext w w4 := X02.trans (X3.trans X4)
    clear hb hb' r3 X4
    go_wp2_with (first | (refine wpList_wide wa Try.underlying40 rfl rfl rfl ?_; intro zb zn hzb hzl; clear hzl; first | (have hsame := Lib.hid (wide_same Hbb.out hza.out hzb); clear hzb) | (have hza := Lib.hid hzb; clear hzb)))
    refine (sameFloat_any _ _ _ hsame.out).mono ?_
    rintro e w5 ⟨rfl, X5⟩
    replace X5 : Ext w4 w5 := (Ext.drewN _ _).trans X5
    replace r4 := r4.ext X5
    replace Y := Y.trans X5
    clear X5
    go_wp2_with fail
    refine (toLifeS_any _ ls _ (r'.ext Y) hn).mono ?_
    rintro e w6 ⟨g6, rfl, X6, own6⟩
    have r6 : RdL w6 (.slice (some ⟨g6, 0, none⟩) ls.length ls.length) ls := own6.rd r'.2
    replace r4 := r4.ext X6
    replace Y := Y.trans X6
    clear own6 X6
    go_wp2_with fail
    refine (eqLifeS_any _ _ ls ls _ r4 r6 rfl).mono ?_
    rintro e w7 ⟨rfl, X7⟩
    go_wp2_with fail
    go_ret
    exact ⟨rfl, Y.trans X7⟩
  · go_enter Try.func5, Try.ntmps5
    go_wp2_with fail
    refine (szLifeS_any _ _ _ _ _ p3 (by decide) (by decide)).mono ?_
    rintro e w0 ⟨rfl, rfl⟩
    rw [if_pos (by omega)]
    go_wp2_with fail
    go_ret
    exact ⟨rfl, Ext.refl _⟩

theorem middleLife_walk (v : Value) (w : World) (h : ArgLives w v) :
    Calls Try.prog 5 #[v] w fun e w' => e = .returned (.bool true) ∧ Ext w w' := by
  obtain ⟨a, n, cap, ls, rfl, r⟩ := h
  exact FnExactMiddleLife_law _ ls (midO ls) w r (fun w v r => specMiddleLife_any v ls w r) (fun w v r => implMiddleLife_any v ls w r)
theorem fnExactMiddleLife_own : ownKnob Try.prog.godebug = none := by kernel_rfl
theorem fnExactMiddleLife_laid : laidOutB Try.prog = true := by kernel_rfl

set_option maxRecDepth 100000 in
theorem fnExactMiddleLife_lifted (os : Os) (started : os.Started) (H : Type) (enc : TypeId × Value → H) :
    ReturnsInHanded {} Try.checked os 5 .any (Rows.fnExactMiddleLifeSpec.pre6 enc Try.prog Try.f5 Rows.fnExactMiddleLifeRow.domain false) (Rows.fnExactMiddleLifeSpec.post enc Try.prog Try.f5 false true false false) := by
  refine returnsInHanded_of_change (C := Try.checked) fnExactMiddleLife_own started (by kernel_rfl) Try.func5
    (ChangeSpec.witness6 (enc := enc) (C := Try.checked) false ⟨#[], #[.slice none 0 0], []⟩ 8 (by kernel_rfl) (by kernel_rfl) (by kernel_rfl) (by kernel_rfl)) ?_
  intro W base args ds gs before hval0 hW hcnd _
  have hval : ∀ (j : Nat) t v, Try.f5.params[j]? = some t → args[j]? = some v → Value.okWide Try.prog W .any base t v := hval0
  have hW' := hW
  obtain ⟨p, q, hA0, hV, rfl, hfz, hnd⟩ := hW
  have hA : DataW.TrodAll enc Try.prog W 0 (fun _ => true) true Try.f5.params.toList args.toList ds p := hA0
  rw [Try.params5] at hA hval
  obtain ⟨v0, vs0, d0, ds0, p0, q0, hargs, rfl, rfl, h0, r0⟩ := trodAll_cons hA
  obtain ⟨rfl, rfl, rfl⟩ := trodAll_nil r0
  obtain rfl : args = #[v0] := by cases args; simp_all
  obtain ⟨rfl, rfl⟩ := trodVars_none hV
  have lt0 : ∀ x ∈ p0, x.block < W.heap.size := by obtain ⟨m, hm⟩ := h0; exact DataW.trod_lt m _ _ _ hm
  have w0 := argLives Try.underlying22 Try.underlying80 (by kernel_rfl) (by kernel_rfl) Try.underlying36 Try.underlying4 (hval 0 22 v0 rfl rfl) h0
  clear hA0 hval0
  refine (middleLife_walk v0 W w0).mono fun e W' ⟨he, bel⟩ => ?_
  subst he
  exact ⟨_, rfl, _, _, _, [], _, [], hW', trodAll_mk1 (shut_bool Try.underlying4 _), (trodAll_cons_mk (Below.trod fnExactMiddleLife_laid (by kernel_rfl) (of_decide_eq_true (by kernel_rfl)) h0 bel lt0) trodAll_mk0), rfl, bel.below.frame _, fun h => by cases h⟩

theorem fnExactMiddleLife_toL {s : String} {L : List Char} (h : s = String.ofList L) : s.toList = L := by rw [h]; exact String.toList_ofList
def fnExactMiddleLife_enterF (P : Program) : { F : List Char → Bool // P.mayEnter = F P.initOrder.toList } :=
  ⟨_, by unfold Program.mayEnter; generalize P.initOrder.toList = l; exact rfl⟩
def fnExactMiddleLife_liftsF (P : Program) : { F : List Char → Bool // P.liftsFinal = F P.initOrder.toList } :=
  ⟨_, by unfold Program.liftsFinal Program.headLifts; generalize P.initOrder.toList = l; exact rfl⟩
def fnExactMiddleLife_makeF (P : Program) : { F : List Char → Option Make // P.make = F P.initOrder.toList } :=
  ⟨_, by unfold Program.make; generalize P.initOrder.toList = l; exact rfl⟩
set_option maxRecDepth 100000 in
theorem fnExactMiddleLife_enter : Try.checked.prog.mayEnter = true :=
  ((fnExactMiddleLife_enterF Try.checked.prog).2.trans (congrArg (fnExactMiddleLife_enterF Try.checked.prog).1 (fnExactMiddleLife_toL (rfl : Try.checked.prog.initOrder = String.ofList _)))).trans (by kernel_rfl)
set_option maxRecDepth 100000 in
theorem fnExactMiddleLife_lifts : Try.checked.prog.liftsFinal = false :=
  ((fnExactMiddleLife_liftsF Try.checked.prog).2.trans (congrArg (fnExactMiddleLife_liftsF Try.checked.prog).1 (fnExactMiddleLife_toL (rfl : Try.checked.prog.initOrder = String.ofList _)))).trans (by kernel_rfl)
set_option maxRecDepth 100000 in
theorem fnExactMiddleLife_make : Try.checked.prog.make = some .cut :=
  ((fnExactMiddleLife_makeF Try.checked.prog).2.trans (congrArg (fnExactMiddleLife_makeF Try.checked.prog).1 (fnExactMiddleLife_toL (rfl : Try.checked.prog.initOrder = String.ofList _)))).trans (by kernel_rfl)
set_option maxRecDepth 100000 in
theorem fnExactMiddleLife_closed : joinedFacts Try.checked.prog 5 Try.f5 Rows.fnExactMiddleLifeSpec Rows.fnExactMiddleLifeRow = true := by
  unfold joinedFacts
  rw [fnExactMiddleLife_enter, fnExactMiddleLife_lifts, fnExactMiddleLife_make]
  decide +kernel

theorem fnExactMiddleLife_over : Rows.fnExactMiddleLifeRow.holds Try.pinned (OpenSpec.ofChange Rows.fnExactMiddleLifeSpec) :=
  OpenClaim.holds_of_wide 5 Try.f5 rfl rfl rfl rfl rfl rfl rfl ⟨rfl, rfl, rfl, rfl, rfl⟩ rfl rfl rfl rfl rfl (by kernel_rfl) Try.func5 fnExactMiddleLife_closed
    (of_decide_eq_true (by kernel_rfl)) (by unfold Func.isWrapper; first | (rw [if_pos (by decide +kernel)]; kernel_rfl) | (rw [if_neg (by decide +kernel)]; exact ⟨rfl, rfl⟩))
    (fun os started H enc _ => fnExactMiddleLife_lifted os started H enc)

/-- The statement. -/
theorem fnExactMiddleLife_holds : Rows.FnExactMiddleLifeSaid := fnExactMiddleLife_over

end Go.Proofs.Ytkkmhckhggggaaa
