/- FnExactMeanDown returns true for every input and changes nothing that was there. No condition. -/
import Derived.Test.YtnlnjhbckfcmfaaCB
import Derived.Test.YtnlnjhbckfcmfaaNm
namespace Go.Proofs.Ytnlnjhbckfcmfaa
open Go Go.RowKit Go.ChangeShapes Go.WideShapes Go.ChangeAt

/-- The sum of k·x. -/
def kSum (xs : List Nat) : Nat → Nat
  | 0 => cn .f32 0
  | k + 1 => fop .add .f32 (kSum xs k) (fop .mul .f32 (cn .f32 (floatOfInt .f32 (k : Int))) (xs.getD k 0))

set_option maxHeartbeats 4000000 in
theorem specMean_any (m c : Int) (f r : Nat) (o : Option (List Nat)) (w : World) (hs : ∀ w, Calls Try.prog 42 #[.int .i64 m, .int .i64 c, .float .f32 f, .float .f32 r] w (FlPost o w)) (hlen : ∀ xs, o = some xs → xs.length ≤ 1048576) :
    Calls Try.prog 46 #[.int .i64 m, .int .i64 c, .float .f32 f, .float .f32 r] w (NmPost (o.bind fun xs => finO (kSum xs xs.length)) w) := by
  have HS := Lib.hid hs
  clear hs
  cases o with
  | none =>
    clear hlen
    go_enter Try.func46, Try.ntmps46
    go_wp2_with fail
    refine (HS.out _).mono ?_
    rintro e w1 ⟨X1, rfl⟩
    go_wp2_with fail
    go_ret2
    exact ⟨X1, rfl⟩
  | some xs =>
    have hl := hlen xs rfl
    clear hlen
    go_enter Try.func46, Try.ntmps46
    go_wp2_with fail
    refine (HS.out _).mono ?_
    rintro e w1 ⟨X1, g, cap, os, rfl, ho, hb, own⟩
    have R1 : RdF w1 (.slice (some ⟨g, 0, none⟩) os.length cap) os := ⟨own_rd own, hb⟩
    have Ho := Lib.hid ho
    have hol : os.length = xs.length := by rw [← ho, List.length_map]
    clear own hb ho
    go_wp2_with fail
    go_loopw [12, 13] (fun s i wr => ∃ (k b : Nat), k ≤ os.length ∧ i = .int .i64 k ∧ s = .float .f32 b ∧ Hid (cn .f32 b = kSum xs k) ∧ Hid (b < 4294967296) ∧ Ext w1 wr) (fun _ i _ => os.length - (intOf i).toNat)
    case atStart => exact ⟨0, 0, Nat.zero_le _, rfl, rfl, rfl, (by show (0 : Nat) < _; decide), Ext.refl _⟩
    case round =>
      obtain ⟨k, b, hk, rfl, rfl, Hb, Hl, X⟩ := hrel
      by_cases hlt : k < os.length
      · obtain ⟨b1, o1, hbo, hb1, hc1⟩ := (R1.ext X).at hlt
        cases hbo
        rw [Nat.zero_add] at hc1
        go_wp2_with (first | (refine wpList_fop rfl rfl rfl rfl rfl ?_; intro fb nf hfb hfl; replace hfb := Lib.hid hfb; replace hfl := Lib.hid hfl))
        rename_i a1 n1 e1 l1
        go_roundw
        case rel =>
          refine ⟨k + 1, fb, by omega, by go_num, rfl, ?_, hfl, X.trans (Ext.drewN _ _)⟩
          show _ = _
          rw [hfb.out, Hb.out, e1.out]
          show _ = fop .add .f32 (kSum xs k) _
          rw [← Ho.out]
          simp [hlt]
        case measure => simp [intOf]; omega
      · have hkn : k = os.length := by omega
        subst hkn
        go_wp2_with fail
        refine (l02Number_any b _).mono ?_
        rintro e w5 ⟨rfl, hx5⟩
        go_wp2_with fail
        go_ret2
        have h := nmPost_of (X1.trans (X.trans hx5)) Hl.out
        have hoo : finO (cn .f32 b) = finO (kSum xs xs.length) := by rw [Hb.out, hol]
        show NmPost (finO (kSum xs xs.length)) w _ w5
        rw [← hoo]
        exact h
set_option maxHeartbeats 4000000 in
theorem implMean_any (m c : Int) (f r : Nat) (o : Option (List Nat)) (w : World) (hs : ∀ w, Calls Try.prog 43 #[.int .i64 m, .int .i64 c, .float .f32 f, .float .f32 r] w (FlPost o w)) (hlen : ∀ xs, o = some xs → xs.length ≤ 1048576) :
    Calls Try.prog 47 #[.int .i64 m, .int .i64 c, .float .f32 f, .float .f32 r] w (NmPost (o.bind fun xs => finO (kSum xs xs.length)) w) := by
  have HS := Lib.hid hs
  clear hs
  cases o with
  | none =>
    clear hlen
    go_enter Try.func47, Try.ntmps47
    go_wp2_with fail
    refine (HS.out _).mono ?_
    rintro e w1 ⟨X1, rfl⟩
    go_wp2_with fail
    go_ret2
    exact ⟨X1, rfl⟩
  | some xs =>
    have hl := hlen xs rfl
    clear hlen
    go_enter Try.func47, Try.ntmps47
    go_wp2_with fail
    refine (HS.out _).mono ?_
    rintro e w1 ⟨X1, g, cap, os, rfl, ho, hb, own⟩
    have R1 : RdF w1 (.slice (some ⟨g, 0, none⟩) os.length cap) os := ⟨own_rd own, hb⟩
    have Ho := Lib.hid ho
    have hol : os.length = xs.length := by rw [← ho, List.length_map]
    clear own hb ho
    go_wp2_with fail
    go_loopw [12, 27] (fun s i wr => ∃ (k b : Nat), k ≤ os.length ∧ i = .int .i64 k ∧ s = .float .f32 b ∧ Hid (cn .f32 b = kSum xs k) ∧ Hid (b < 4294967296) ∧ Ext w1 wr) (fun _ i _ => os.length - (intOf i).toNat)
    case atStart => exact ⟨0, 0, Nat.zero_le _, rfl, rfl, rfl, (by show (0 : Nat) < _; decide), Ext.refl _⟩
    case round =>
      obtain ⟨k, b, hk, rfl, rfl, Hb, Hl, X⟩ := hrel
      by_cases hlt : k < os.length
      · obtain ⟨b1, o1, hbo, hb1, hc1⟩ := (R1.ext X).at hlt
        cases hbo
        rw [Nat.zero_add] at hc1
        go_wp2_with (first | (refine wpList_fop rfl rfl rfl rfl rfl ?_; intro fb nf hfb hfl; replace hfb := Lib.hid hfb; replace hfl := Lib.hid hfl))
        rename_i a1 n1 e1 l1
        go_roundw
        case rel =>
          refine ⟨k + 1, fb, by omega, by go_num, rfl, ?_, hfl, X.trans (Ext.drewN _ _)⟩
          show _ = _
          rw [hfb.out, Hb.out, e1.out]
          show _ = fop .add .f32 (kSum xs k) _
          rw [← Ho.out]
          simp [hlt]
        case measure => simp [intOf]; omega
      · have hkn : k = os.length := by omega
        subst hkn
        go_wp2_with fail
        refine (ifFinite_any b _).mono ?_
        rintro e w5 ⟨rfl, hx5⟩
        go_wp2_with fail
        go_ret2
        have h := nmPost_of (X1.trans (X.trans hx5)) Hl.out
        have hoo : finO (cn .f32 b) = finO (kSum xs xs.length) := by rw [Hb.out, hol]
        show NmPost (finO (kSum xs xs.length)) w _ w5
        rw [← hoo]
        exact h

set_option maxHeartbeats 4000000 in
theorem FnExactMeanDown_law (m c : Int) (f r : Nat) (o : Option Nat) (hs : ∀ w, Calls Try.prog 46 #[.int .i64 m, .int .i64 c, .float .f32 f, .float .f32 r] w (NmPost o w)) (hi : ∀ w, Calls Try.prog 47 #[.int .i64 m, .int .i64 c, .float .f32 f, .float .f32 r] w (NmPost o w)) (w : World) :
    Calls Try.prog 10 #[.int .i64 m, .int .i64 c, .float .f32 f, .float .f32 r] w fun e w' => e = .returned (.bool true) ∧ Ext w w' := by
  have HS := Lib.hid hs
  have HI := Lib.hid hi
  clear hs hi
  have wa : (Try.prog.underlying 40).isSome = true := by kernel_rfl
  go_enter Try.func10, Try.ntmps10
  go_wp2_with fail
  refine (HS.out _).mono ?_
  rintro e w1 ⟨X1, h1⟩
  obtain ⟨b, c, rfl, hb⟩ : ∃ b c, e = .returned (.tuple #[.float .f32 b, .bool c]) ∧ Hid (cn .f32 b = o.getD (cn .f32 0) ∧ c = o.isSome) := by
    cases o with
    | none => exact ⟨0, false, h1, rfl, rfl⟩
    | some x => obtain ⟨b, rfl, h, _⟩ := h1; exact ⟨b, true, rfl, h, rfl⟩
  clear h1
  go_wp2_with fail
  refine (HI.out _).mono ?_
  rintro e w2 ⟨X2, h2⟩
  obtain ⟨b', c', rfl, hb'⟩ : ∃ b c, e = .returned (.tuple #[.float .f32 b, .bool c]) ∧ Hid (cn .f32 b = o.getD (cn .f32 0) ∧ c = o.isSome) := by
    cases o with
    | none => exact ⟨0, false, h2, rfl, rfl⟩
    | some x => obtain ⟨b, rfl, h, _⟩ := h2; exact ⟨b, true, rfl, h, rfl⟩
  clear h2
  have hcc : c' = c := hb'.out.2.trans hb.out.2.symm
  subst hcc
  have Hbb : Hid (cn .f32 b' = cn .f32 b) := hb'.out.1.trans hb.out.1.symm
  clear hb hb'
  go_wp2_with (first | (refine wpList_wide wa Try.underlying46 rfl rfl rfl ?_; intro zb zn hzb hzl; clear hzl; first | (have hsame := Lib.hid (wide_same Hbb.out hza.out hzb); clear hzb) | (have hza := Lib.hid hzb; clear hzb)))
  refine (sameFloat_any _ _ _ hsame.out).mono ?_
  rintro e w3 ⟨rfl, X3⟩
  go_wp2_with fail
  go_ret
  exact ⟨rfl, X1.trans (X2.trans ((Ext.drewN _ _).trans X3))⟩

theorem crew_len {m c : Int} {f r : Nat} : ∀ xs, (if crewPre m c f r && finAll (crewOut m c f r) then some (crewOut m c f r) else none) = some xs → xs.length ≤ 1048576 := by
  intro xs hx
  split at hx
  · rename_i hc
    cases hx
    have : inB m 1 16 = true := by simp only [crewPre, Bool.and_eq_true] at hc; exact hc.1.1.1.1
    have := inB_iff.1 this
    unfold crewOut
    rw [List.length_map, crewL_len]
    omega
  · cases hx

theorem meanDown_walk (v1 v2 v3 v4 : Value) (w : World) (h1 : ArgInt w v1) (h2 : ArgInt w v2) (h3 : ArgF32 w v3) (h4 : ArgF32 w v4) :
    Calls Try.prog 10 #[v1, v2, v3, v4] w fun e w' => e = .returned (.bool true) ∧ Ext w w' := by
  obtain ⟨m, rfl, _⟩ := h1
  obtain ⟨c, rfl, _⟩ := h2
  obtain ⟨f, rfl, hf⟩ := h3
  obtain ⟨r, rfl, hr⟩ := h4
  exact FnExactMeanDown_law m c f r _ (fun w => specMean_any m c f r _ w (fun w => (specCrew_any m c f r w).mono fun _ _ h => flPost_crew h) crew_len)
    (fun w => implMean_any m c f r _ w (fun w => (implCrew_any m c f r w hf hr).mono fun _ _ h => flPost_crew h) crew_len) w

theorem fnExactMeanDown_own : ownKnob Try.prog.godebug = none := by kernel_rfl
theorem fnExactMeanDown_laid : laidOutB Try.prog = true := by kernel_rfl

set_option maxRecDepth 100000 in
theorem fnExactMeanDown_lifted (os : Os) (started : os.Started) (H : Type) (enc : TypeId × Value → H) :
    ReturnsInHanded {} Try.checked os 10 .any (Rows.fnExactMeanDownSpec.pre6 enc Try.prog Try.f10 Rows.fnExactMeanDownRow.domain false) (Rows.fnExactMeanDownSpec.post enc Try.prog Try.f10 false true false false) := by
  refine returnsInHanded_of_change (C := Try.checked) fnExactMeanDown_own started (by kernel_rfl) Try.func10
    (ChangeSpec.witness6 (enc := enc) (C := Try.checked) false ⟨#[], #[.int .i64 0, .int .i64 0, .float .f32 0, .float .f32 0], []⟩ 8 (by kernel_rfl) (by kernel_rfl) (by kernel_rfl) (by kernel_rfl)) ?_
  intro W base args ds gs before hval0 hW hcnd _
  have hval : ∀ (j : Nat) t v, Try.f10.params[j]? = some t → args[j]? = some v → Value.okWide Try.prog W .any base t v := hval0
  have hW' := hW
  obtain ⟨p, q, hA0, hV, rfl, hfz, hnd⟩ := hW
  have hA : DataW.TrodAll enc Try.prog W 0 (fun _ => true) true Try.f10.params.toList args.toList ds p := hA0
  rw [Try.params10] at hA hval
  obtain ⟨v0, vs0, d0, ds0, p0, q0, hargs, rfl, rfl, h0, r0⟩ := trodAll_cons hA
  obtain ⟨v1, vs1, d1, ds1, p1, q1, rfl, rfl, rfl, h1, r1⟩ := trodAll_cons r0
  obtain ⟨v2, vs2, d2, ds2, p2, q2, rfl, rfl, rfl, h2, r2⟩ := trodAll_cons r1
  obtain ⟨v3, vs3, d3, ds3, p3, q3, rfl, rfl, rfl, h3, r3⟩ := trodAll_cons r2
  obtain ⟨rfl, rfl, rfl⟩ := trodAll_nil r3
  obtain rfl : args = #[v0, v1, v2, v3] := by cases args; simp_all
  obtain ⟨rfl, rfl⟩ := trodVars_none hV
  have lt0 : ∀ x ∈ p0, x.block < W.heap.size := by obtain ⟨m, hm⟩ := h0; exact DataW.trod_lt m _ _ _ hm
  have w0 := argInt Try.underlying2 (hval 0 2 v0 rfl rfl) h0
  have lt1 : ∀ x ∈ p1, x.block < W.heap.size := by obtain ⟨m, hm⟩ := h1; exact DataW.trod_lt m _ _ _ hm
  have w1 := argInt Try.underlying2 (hval 1 2 v1 rfl rfl) h1
  have lt2 : ∀ x ∈ p2, x.block < W.heap.size := by obtain ⟨m, hm⟩ := h2; exact DataW.trod_lt m _ _ _ hm
  have w2 := argF32 Try.underlying40 (hval 2 40 v2 rfl rfl) h2
  have lt3 : ∀ x ∈ p3, x.block < W.heap.size := by obtain ⟨m, hm⟩ := h3; exact DataW.trod_lt m _ _ _ hm
  have w3 := argF32 Try.underlying40 (hval 3 40 v3 rfl rfl) h3
  clear hA0 hval0
  refine (meanDown_walk v0 v1 v2 v3 W w0 w1 w2 w3).mono fun e W' ⟨he, bel⟩ => ?_
  subst he
  exact ⟨_, rfl, _, _, _, [], _, [], hW', trodAll_mk1 (shut_bool Try.underlying4 _), (trodAll_cons_mk (Below.trod fnExactMeanDown_laid (by kernel_rfl) (of_decide_eq_true (by kernel_rfl)) h0 bel lt0) (trodAll_cons_mk (Below.trod fnExactMeanDown_laid (by kernel_rfl) (of_decide_eq_true (by kernel_rfl)) h1 bel lt1) (trodAll_cons_mk (Below.trod fnExactMeanDown_laid (by kernel_rfl) (of_decide_eq_true (by kernel_rfl)) h2 bel lt2) (trodAll_cons_mk (Below.trod fnExactMeanDown_laid (by kernel_rfl) (of_decide_eq_true (by kernel_rfl)) h3 bel lt3) trodAll_mk0)))), rfl, bel.below.frame _, fun h => by cases h⟩

theorem fnExactMeanDown_toL {s : String} {L : List Char} (h : s = String.ofList L) : s.toList = L := by rw [h]; exact String.toList_ofList
def fnExactMeanDown_enterF (P : Program) : { F : List Char → Bool // P.mayEnter = F P.initOrder.toList } :=
  ⟨_, by unfold Program.mayEnter; generalize P.initOrder.toList = l; exact rfl⟩
def fnExactMeanDown_liftsF (P : Program) : { F : List Char → Bool // P.liftsFinal = F P.initOrder.toList } :=
  ⟨_, by unfold Program.liftsFinal Program.headLifts; generalize P.initOrder.toList = l; exact rfl⟩
def fnExactMeanDown_makeF (P : Program) : { F : List Char → Option Make // P.make = F P.initOrder.toList } :=
  ⟨_, by unfold Program.make; generalize P.initOrder.toList = l; exact rfl⟩
set_option maxRecDepth 100000 in
theorem fnExactMeanDown_enter : Try.checked.prog.mayEnter = true :=
  ((fnExactMeanDown_enterF Try.checked.prog).2.trans (congrArg (fnExactMeanDown_enterF Try.checked.prog).1 (fnExactMeanDown_toL (rfl : Try.checked.prog.initOrder = String.ofList _)))).trans (by kernel_rfl)
set_option maxRecDepth 100000 in
theorem fnExactMeanDown_lifts : Try.checked.prog.liftsFinal = false :=
  ((fnExactMeanDown_liftsF Try.checked.prog).2.trans (congrArg (fnExactMeanDown_liftsF Try.checked.prog).1 (fnExactMeanDown_toL (rfl : Try.checked.prog.initOrder = String.ofList _)))).trans (by kernel_rfl)
set_option maxRecDepth 100000 in
theorem fnExactMeanDown_make : Try.checked.prog.make = some .cut :=
  ((fnExactMeanDown_makeF Try.checked.prog).2.trans (congrArg (fnExactMeanDown_makeF Try.checked.prog).1 (fnExactMeanDown_toL (rfl : Try.checked.prog.initOrder = String.ofList _)))).trans (by kernel_rfl)
set_option maxRecDepth 100000 in
theorem fnExactMeanDown_closed : joinedFacts Try.checked.prog 10 Try.f10 Rows.fnExactMeanDownSpec Rows.fnExactMeanDownRow = true := by
  unfold joinedFacts
  rw [fnExactMeanDown_enter, fnExactMeanDown_lifts, fnExactMeanDown_make]
  decide +kernel

theorem fnExactMeanDown_over : Rows.fnExactMeanDownRow.holds Try.pinned (OpenSpec.ofChange Rows.fnExactMeanDownSpec) :=
  OpenClaim.holds_of_wide 10 Try.f10 rfl rfl rfl rfl rfl rfl rfl ⟨rfl, rfl, rfl, rfl, rfl⟩ rfl rfl rfl rfl rfl (by kernel_rfl) Try.func10 fnExactMeanDown_closed
    (of_decide_eq_true (by kernel_rfl)) (by unfold Func.isWrapper; first | (rw [if_pos (by decide +kernel)]; kernel_rfl) | (rw [if_neg (by decide +kernel)]; exact ⟨rfl, rfl⟩))
    (fun os started H enc _ => fnExactMeanDown_lifted os started H enc)

/-- The statement. -/
theorem fnExactMeanDown_holds : Rows.FnExactMeanDownSaid := fnExactMeanDown_over


end Go.Proofs.Ytnlnjhbckfcmfaa
