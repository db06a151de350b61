/- FnExactNeedShares returns true for every input and changes nothing that was there. No condition. -/
import Derived.Test.YtnlnjhbckfcmfaaNi
namespace Go.Proofs.Ytnlnjhbckfcmfaa
open Go Go.RowKit Go.ChangeShapes Go.WideShapes Go.ChangeAt

set_option maxHeartbeats 4000000 in
theorem FnExactNeedShares_law (b : Nat) (c : Int) (o : Option (List Nat)) (hs : ∀ w, Calls Try.prog 53 #[.float .f32 b, .int .i64 c] w (FlPost o w)) (hi : ∀ w, Calls Try.prog 38 #[.float .f32 b, .int .i64 c] w (FlPost o w)) (hlen : ∀ xs, o = some xs → xs.length ≤ 1048576) (w : World) :
    Calls Try.prog 12 #[.float .f32 b, .int .i64 c] w fun e w' => e = .returned (.bool true) ∧ Ext w w' := by
  have HS := Lib.hid hs
  have HI := Lib.hid hi
  clear hs hi
  cases o with
  | none =>
    clear hlen
    go_enter Try.func12, Try.ntmps12
    go_wp2_with fail
    refine (HS.out _).mono ?_
    rintro e w1 ⟨X1, rfl⟩
    go_wp2_with fail
    refine (HI.out _).mono ?_
    rintro e w2 ⟨X2, rfl⟩
    go_wp2_with fail
    refine (eqFloat32S_any _ _ [] [] _ (RdF_nil _) (RdF_nil _) rfl).mono ?_
    rintro e w3 ⟨rfl, X3⟩
    go_wp2_with fail
    refine (markF_nil 1 _).mono ?_
    rintro e w4 ⟨rfl, rfl⟩
    go_wp2_with fail
    refine (heldF_any 1 _ 0 _ (RdF_nil _) (by decide) (by decide) (by decide)).mono ?_
    rintro e w4 ⟨rfl, rfl⟩
    go_wp2_with fail
    refine (HI.out _).mono ?_
    rintro e w5 ⟨X5, rfl⟩
    go_wp2_with fail
    refine (eqFloat32S_any _ _ [] [] _ (RdF_nil _) (RdF_nil _) rfl).mono ?_
    rintro e w6 ⟨rfl, X6⟩
    go_wp2_with fail
    refine (heldF_any 1 _ 0 _ (RdF_nil _) (by decide) (by decide) (by decide)).mono ?_
    rintro e w7 ⟨rfl, rfl⟩
    go_wp2_with fail
    go_ret
    exact ⟨rfl, X1.trans (X2.trans (X3.trans (X5.trans X6)))⟩
  | some xs =>
    have hl := hlen xs rfl
    clear hlen
    go_enter Try.func12, Try.ntmps12
    go_wp2_with fail
    refine (HS.out _).mono ?_
    rintro e w1 ⟨X1, g, cap, os, rfl, ho, hb, own⟩
    have R1 : RdF w1 (.slice (some ⟨g, 0, none⟩) os.length cap) os := ⟨own_rd own, hb⟩
    clear own hb
    go_wp2_with fail
    refine (HI.out _).mono ?_
    rintro e w2 ⟨X2, g2, cap2, qs, rfl, hq, hb, own2⟩
    have R2 : RdF w2 (.slice (some ⟨g2, 0, none⟩) qs.length cap2) qs := ⟨own_rd own2, hb⟩
    have hql : qs.length ≤ 1048576 := by have := congrArg List.length hq; rw [List.length_map] at this; omega
    clear hb
    have H1 : Hid (SameC qs os) := by show _ = _; rw [hq, ho]
    go_wp2_with fail
    refine (eqFloat32S_any _ _ qs os _ R2 (R1.ext X2) H1.out).mono ?_
    rintro e w3 ⟨rfl, X3⟩
    replace own2 := own_ext own2 X3
    clear R2
    go_wp2_with fail
    refine (markF_any 1 g2 qs.length cap2 w1.heap.size qs _ own2 (by decide) (by decide) hql).mono ?_
    rintro e w4 ⟨rfl, X4, own4⟩
    clear own2
    have R4 : RdF w4 (.slice (some ⟨g2, 0, none⟩) qs.length cap2) (marksF 1 qs.length) := ⟨by rw [marksF_len]; exact own_rd own4, marksF_lt _ _⟩
    have X14 : Ext w1 w4 := Below.trans (X2.trans X3) X4
    clear own4
    go_wp2_with fail
    refine (heldF_any 1 _ qs.length _ R4 (by decide) (by decide) hql).mono ?_
    rintro e w4' ⟨rfl, rfl⟩
    go_wp2_with fail
    refine (HI.out _).mono ?_
    rintro e w5 ⟨X5, g5, cap5, ps, rfl, hp, hb, own5⟩
    have R5 : RdF w5 (.slice (some ⟨g5, 0, none⟩) ps.length cap5) ps := ⟨own_rd own5, hb⟩
    have H5 : Hid (SameC ps os) := by show _ = _; rw [hp, ho]
    clear own5 hb
    go_wp2_with fail
    refine (eqFloat32S_any _ _ ps os _ R5 (R1.ext (X14.trans X5)) H5.out).mono ?_
    rintro e w6 ⟨rfl, X6⟩
    go_wp2_with fail
    refine (heldF_any 1 _ qs.length _ (R4.ext (X5.trans X6)) (by decide) (by decide) hql).mono ?_
    rintro e w7 ⟨rfl, rfl⟩
    go_wp2_with fail
    go_ret
    exact ⟨rfl, X1.trans (X14.trans (X5.trans X6))⟩

theorem needO_len {m : Nat} {c : Int} : ∀ xs, needO m c = some xs → xs.length ≤ 1048576 := by
  intro xs hx
  unfold needO at hx
  split at hx
  · rename_i hc
    cases hx
    rw [Bool.and_eq_true] at hc
    have := inB_iff.1 hc.2
    rw [needL_len]
    omega
  · cases hx

theorem needShares_walk (v1 v2 : Value) (w : World) (h1 : ArgF32 w v1) (h2 : ArgInt w v2) :
    Calls Try.prog 12 #[v1, v2] w fun e w' => e = .returned (.bool true) ∧ Ext w w' := by
  obtain ⟨b, rfl, _⟩ := h1
  obtain ⟨c, rfl, _⟩ := h2
  exact FnExactNeedShares_law b c _ (fun w => specNeedShares_any b c w) (fun w => implNeedShares_any b c w) needO_len w

theorem fnExactNeedShares_own : ownKnob Try.prog.godebug = none := by kernel_rfl
theorem fnExactNeedShares_laid : laidOutB Try.prog = true := by kernel_rfl

set_option maxRecDepth 100000 in
theorem fnExactNeedShares_lifted (os : Os) (started : os.Started) (H : Type) (enc : TypeId × Value → H) :
    ReturnsInHanded {} Try.checked os 12 .any (Rows.fnExactNeedSharesSpec.pre6 enc Try.prog Try.f12 Rows.fnExactNeedSharesRow.domain false) (Rows.fnExactNeedSharesSpec.post enc Try.prog Try.f12 false true false false) := by
  refine returnsInHanded_of_change (C := Try.checked) fnExactNeedShares_own started (by kernel_rfl) Try.func12
    (ChangeSpec.witness6 (enc := enc) (C := Try.checked) false ⟨#[], #[.float .f32 0, .int .i64 0], []⟩ 8 (by kernel_rfl) (by kernel_rfl) (by kernel_rfl) (by kernel_rfl)) ?_
  intro W base args ds gs before hval0 hW hcnd _
  have hval : ∀ (j : Nat) t v, Try.f12.params[j]? = some t → args[j]? = some v → Value.okWide Try.prog W .any base t v := hval0
  have hW' := hW
  obtain ⟨p, q, hA0, hV, rfl, hfz, hnd⟩ := hW
  have hA : DataW.TrodAll enc Try.prog W 0 (fun _ => true) true Try.f12.params.toList args.toList ds p := hA0
  rw [Try.params12] at hA hval
  obtain ⟨v0, vs0, d0, ds0, p0, q0, hargs, rfl, rfl, h0, r0⟩ := trodAll_cons hA
  obtain ⟨v1, vs1, d1, ds1, p1, q1, rfl, rfl, rfl, h1, r1⟩ := trodAll_cons r0
  obtain ⟨rfl, rfl, rfl⟩ := trodAll_nil r1
  obtain rfl : args = #[v0, v1] := by cases args; simp_all
  obtain ⟨rfl, rfl⟩ := trodVars_none hV
  have lt0 : ∀ x ∈ p0, x.block < W.heap.size := by obtain ⟨m, hm⟩ := h0; exact DataW.trod_lt m _ _ _ hm
  have w0 := argF32 Try.underlying40 (hval 0 40 v0 rfl rfl) h0
  have lt1 : ∀ x ∈ p1, x.block < W.heap.size := by obtain ⟨m, hm⟩ := h1; exact DataW.trod_lt m _ _ _ hm
  have w1 := argInt Try.underlying2 (hval 1 2 v1 rfl rfl) h1
  clear hA0 hval0
  refine (needShares_walk v0 v1 W w0 w1).mono fun e W' ⟨he, bel⟩ => ?_
  subst he
  exact ⟨_, rfl, _, _, _, [], _, [], hW', trodAll_mk1 (shut_bool Try.underlying4 _), (trodAll_cons_mk (Below.trod fnExactNeedShares_laid (by kernel_rfl) (of_decide_eq_true (by kernel_rfl)) h0 bel lt0) (trodAll_cons_mk (Below.trod fnExactNeedShares_laid (by kernel_rfl) (of_decide_eq_true (by kernel_rfl)) h1 bel lt1) trodAll_mk0)), rfl, bel.below.frame _, fun h => by cases h⟩

theorem fnExactNeedShares_toL {s : String} {L : List Char} (h : s = String.ofList L) : s.toList = L := by rw [h]; exact String.toList_ofList
def fnExactNeedShares_enterF (P : Program) : { F : List Char → Bool // P.mayEnter = F P.initOrder.toList } :=
  ⟨_, by unfold Program.mayEnter; generalize P.initOrder.toList = l; exact rfl⟩
def fnExactNeedShares_liftsF (P : Program) : { F : List Char → Bool // P.liftsFinal = F P.initOrder.toList } :=
  ⟨_, by unfold Program.liftsFinal Program.headLifts; generalize P.initOrder.toList = l; exact rfl⟩
def fnExactNeedShares_makeF (P : Program) : { F : List Char → Option Make // P.make = F P.initOrder.toList } :=
  ⟨_, by unfold Program.make; generalize P.initOrder.toList = l; exact rfl⟩
set_option maxRecDepth 100000 in
theorem fnExactNeedShares_enter : Try.checked.prog.mayEnter = true :=
  ((fnExactNeedShares_enterF Try.checked.prog).2.trans (congrArg (fnExactNeedShares_enterF Try.checked.prog).1 (fnExactNeedShares_toL (rfl : Try.checked.prog.initOrder = String.ofList _)))).trans (by kernel_rfl)
set_option maxRecDepth 100000 in
theorem fnExactNeedShares_lifts : Try.checked.prog.liftsFinal = false :=
  ((fnExactNeedShares_liftsF Try.checked.prog).2.trans (congrArg (fnExactNeedShares_liftsF Try.checked.prog).1 (fnExactNeedShares_toL (rfl : Try.checked.prog.initOrder = String.ofList _)))).trans (by kernel_rfl)
set_option maxRecDepth 100000 in
theorem fnExactNeedShares_make : Try.checked.prog.make = some .cut :=
  ((fnExactNeedShares_makeF Try.checked.prog).2.trans (congrArg (fnExactNeedShares_makeF Try.checked.prog).1 (fnExactNeedShares_toL (rfl : Try.checked.prog.initOrder = String.ofList _)))).trans (by kernel_rfl)
set_option maxRecDepth 100000 in
theorem fnExactNeedShares_closed : joinedFacts Try.checked.prog 12 Try.f12 Rows.fnExactNeedSharesSpec Rows.fnExactNeedSharesRow = true := by
  unfold joinedFacts
  rw [fnExactNeedShares_enter, fnExactNeedShares_lifts, fnExactNeedShares_make]
  decide +kernel

theorem fnExactNeedShares_over : Rows.fnExactNeedSharesRow.holds Try.pinned (OpenSpec.ofChange Rows.fnExactNeedSharesSpec) :=
  OpenClaim.holds_of_wide 12 Try.f12 rfl rfl rfl rfl rfl rfl rfl ⟨rfl, rfl, rfl, rfl, rfl⟩ rfl rfl rfl rfl rfl (by kernel_rfl) Try.func12 fnExactNeedShares_closed
    (of_decide_eq_true (by kernel_rfl)) (by unfold Func.isWrapper; first | (rw [if_pos (by decide +kernel)]; kernel_rfl) | (rw [if_neg (by decide +kernel)]; exact ⟨rfl, rfl⟩))
    (fun os started H enc _ => fnExactNeedShares_lifted os started H enc)

/-- The statement. -/
theorem fnExactNeedShares_holds : Rows.FnExactNeedSharesSaid := fnExactNeedShares_over


end Go.Proofs.Ytnlnjhbckfcmfaa
