/- FnExactCrewBalance returns true for every input and changes nothing that was there. No condition. -/
import Derived.Test.YtnlnjhbckfcmfaaCr
import Derived.Test.YtnlnjhbckfcmfaaMk
namespace Go.Proofs.Ytnlnjhbckfcmfaa
open Go Go.RowKit Go.ChangeShapes Go.WideShapes Go.ChangeAt

theorem RdF_nil (w : World) : RdF w (.slice none 0 0) [] := ⟨⟨rfl, none, 0, rfl, Nat.le_refl _, Nat.zero_le _, fun _ => rfl, fun _ h => by cases h⟩, by simp⟩

/-- A list of 32-bit numbers of the call's own and true; or nothing and false. -/
def FlPost (o : Option (List Nat)) (w : World) (e : Ending) (w' : World) : Prop :=
  Ext w w' ∧ match o with
  | some xs => ∃ (g cap : Nat) (os : List Nat), e = .returned (.tuple #[.slice (some ⟨g, 0, none⟩) os.length cap, .bool true]) ∧ os.map (cn .f32) = xs ∧ (∀ b ∈ os, b < 4294967296) ∧
      w'.ownsRow w.heap.size 40 1 (.slice (some ⟨g, 0, none⟩) os.length cap) os.length (os.map (Value.float .f32))
  | none => e = .returned (.tuple #[.slice none 0 0, .bool false])

theorem flPost_crew {m c : Int} {f r : Nat} {w w' : World} {e : Ending} (h : CrewPost m c f r w e w') : FlPost (if crewPre m c f r && finAll (crewOut m c f r) then some (crewOut m c f r) else none) w e w' := by
  obtain ⟨X, h⟩ := h
  refine ⟨X, ?_⟩
  split at h
  · rename_i hc
    rw [if_pos hc]
    exact h
  · rename_i hc
    rw [if_neg hc]
    exact h

set_option maxHeartbeats 4000000 in
theorem FnExactCrewBalance_law (m c : Int) (f r : Nat) (o : Option (List Nat)) (hs : ∀ w, Calls Try.prog 42 #[.int .i64 m, .int .i64 c, .float .f32 f, .float .f32 r] w (FlPost o w)) (hi : ∀ w, Calls Try.prog 43 #[.int .i64 m, .int .i64 c, .float .f32 f, .float .f32 r] w (FlPost o w)) (hlen : ∀ xs, o = some xs → xs.length ≤ 1048576) (w : World) :
    Calls Try.prog 9 #[.int .i64 m, .int .i64 c, .float .f32 f, .float .f32 r] w fun e w' => e = .returned (.bool true) ∧ Ext w w' := by
  have HS := Lib.hid hs
  have HI := Lib.hid hi
  clear hs hi
  cases o with
  | none =>
    clear hlen
    go_enter Try.func9, Try.ntmps9
    go_wp2_with fail
    refine (HS.out _).mono ?_
    rintro e w1 ⟨X1, rfl⟩
    go_wp2_with fail
    refine (HI.out _).mono ?_
    rintro e w2 ⟨X2, rfl⟩
    go_wp2_with fail
    refine (eqFloat32S_any _ _ [] [] _ (RdF_nil _) (RdF_nil _) rfl).mono ?_
    rintro e w3 ⟨rfl, X3⟩
    go_wp2_with fail
    refine (markF_nil 1 _).mono ?_
    rintro e w4 ⟨rfl, rfl⟩
    go_wp2_with fail
    refine (heldF_any 1 _ 0 _ (RdF_nil _) (by decide) (by decide) (by decide)).mono ?_
    rintro e w4 ⟨rfl, rfl⟩
    go_wp2_with fail
    refine (HI.out _).mono ?_
    rintro e w5 ⟨X5, rfl⟩
    go_wp2_with fail
    refine (eqFloat32S_any _ _ [] [] _ (RdF_nil _) (RdF_nil _) rfl).mono ?_
    rintro e w6 ⟨rfl, X6⟩
    go_wp2_with fail
    refine (heldF_any 1 _ 0 _ (RdF_nil _) (by decide) (by decide) (by decide)).mono ?_
    rintro e w7 ⟨rfl, rfl⟩
    go_wp2_with fail
    go_ret
    exact ⟨rfl, X1.trans (X2.trans (X3.trans (X5.trans X6)))⟩
  | some xs =>
    have hl := hlen xs rfl
    clear hlen
    go_enter Try.func9, Try.ntmps9
    go_wp2_with fail
    refine (HS.out _).mono ?_
    rintro e w1 ⟨X1, g, cap, os, rfl, ho, hb, own⟩
    have R1 : RdF w1 (.slice (some ⟨g, 0, none⟩) os.length cap) os := ⟨own_rd own, hb⟩
    clear own hb
    go_wp2_with fail
    refine (HI.out _).mono ?_
    rintro e w2 ⟨X2, g2, cap2, qs, rfl, hq, hb, own2⟩
    have R2 : RdF w2 (.slice (some ⟨g2, 0, none⟩) qs.length cap2) qs := ⟨own_rd own2, hb⟩
    have hql : qs.length ≤ 1048576 := by have := congrArg List.length hq; rw [List.length_map] at this; omega
    clear hb
    have H1 : Hid (SameC qs os) := by show _ = _; rw [hq, ho]
    go_wp2_with fail
    refine (eqFloat32S_any _ _ qs os _ R2 (R1.ext X2) H1.out).mono ?_
    rintro e w3 ⟨rfl, X3⟩
    replace own2 := own_ext own2 X3
    clear R2
    go_wp2_with fail
    refine (markF_any 1 g2 qs.length cap2 w1.heap.size qs _ own2 (by decide) (by decide) hql).mono ?_
    rintro e w4 ⟨rfl, X4, own4⟩
    clear own2
    have R4 : RdF w4 (.slice (some ⟨g2, 0, none⟩) qs.length cap2) (marksF 1 qs.length) := ⟨by rw [marksF_len]; exact own_rd own4, marksF_lt _ _⟩
    have X14 : Ext w1 w4 := Below.trans (X2.trans X3) X4
    clear own4
    go_wp2_with fail
    refine (heldF_any 1 _ qs.length _ R4 (by decide) (by decide) hql).mono ?_
    rintro e w4' ⟨rfl, rfl⟩
    go_wp2_with fail
    refine (HI.out _).mono ?_
    rintro e w5 ⟨X5, g5, cap5, ps, rfl, hp, hb, own5⟩
    have R5 : RdF w5 (.slice (some ⟨g5, 0, none⟩) ps.length cap5) ps := ⟨own_rd own5, hb⟩
    have H5 : Hid (SameC ps os) := by show _ = _; rw [hp, ho]
    clear own5 hb
    go_wp2_with fail
    refine (eqFloat32S_any _ _ ps os _ R5 (R1.ext (X14.trans X5)) H5.out).mono ?_
    rintro e w6 ⟨rfl, X6⟩
    go_wp2_with fail
    refine (heldF_any 1 _ qs.length _ (R4.ext (X5.trans X6)) (by decide) (by decide) hql).mono ?_
    rintro e w7 ⟨rfl, rfl⟩
    go_wp2_with fail
    go_ret
    exact ⟨rfl, X1.trans (X14.trans (X5.trans X6))⟩

theorem crewBalance_walk (v1 v2 v3 v4 : Value) (w : World) (h1 : ArgInt w v1) (h2 : ArgInt w v2) (h3 : ArgF32 w v3) (h4 : ArgF32 w v4) :
    Calls Try.prog 9 #[v1, v2, v3, v4] w fun e w' => e = .returned (.bool true) ∧ Ext w w' := by
  obtain ⟨m, rfl, _⟩ := h1
  obtain ⟨c, rfl, _⟩ := h2
  obtain ⟨f, rfl, hf⟩ := h3
  obtain ⟨r, rfl, hr⟩ := h4
  refine FnExactCrewBalance_law m c f r _ (fun w => (specCrew_any m c f r w).mono fun _ _ h => flPost_crew h) (fun w => (implCrew_any m c f r w hf hr).mono fun _ _ h => flPost_crew h) ?_ w
  intro xs hx
  split at hx
  · rename_i hc
    cases hx
    have : inB m 1 16 = true := by simp only [crewPre, Bool.and_eq_true] at hc; exact hc.1.1.1.1
    have := inB_iff.1 this
    unfold crewOut
    rw [List.length_map, crewL_len]
    omega
  · cases hx

theorem fnExactCrewBalance_own : ownKnob Try.prog.godebug = none := by kernel_rfl
theorem fnExactCrewBalance_laid : laidOutB Try.prog = true := by kernel_rfl

set_option maxRecDepth 100000 in
theorem fnExactCrewBalance_lifted (os : Os) (started : os.Started) (H : Type) (enc : TypeId × Value → H) :
    ReturnsInHanded {} Try.checked os 9 .any (Rows.fnExactCrewBalanceSpec.pre6 enc Try.prog Try.f9 Rows.fnExactCrewBalanceRow.domain false) (Rows.fnExactCrewBalanceSpec.post enc Try.prog Try.f9 false true false false) := by
  refine returnsInHanded_of_change (C := Try.checked) fnExactCrewBalance_own started (by kernel_rfl) Try.func9
    (ChangeSpec.witness6 (enc := enc) (C := Try.checked) false ⟨#[], #[.int .i64 0, .int .i64 0, .float .f32 0, .float .f32 0], []⟩ 8 (by kernel_rfl) (by kernel_rfl) (by kernel_rfl) (by kernel_rfl)) ?_
  intro W base args ds gs before hval0 hW hcnd _
  have hval : ∀ (j : Nat) t v, Try.f9.params[j]? = some t → args[j]? = some v → Value.okWide Try.prog W .any base t v := hval0
  have hW' := hW
  obtain ⟨p, q, hA0, hV, rfl, hfz, hnd⟩ := hW
  have hA : DataW.TrodAll enc Try.prog W 0 (fun _ => true) true Try.f9.params.toList args.toList ds p := hA0
  rw [Try.params9] at hA hval
  obtain ⟨v0, vs0, d0, ds0, p0, q0, hargs, rfl, rfl, h0, r0⟩ := trodAll_cons hA
  obtain ⟨v1, vs1, d1, ds1, p1, q1, rfl, rfl, rfl, h1, r1⟩ := trodAll_cons r0
  obtain ⟨v2, vs2, d2, ds2, p2, q2, rfl, rfl, rfl, h2, r2⟩ := trodAll_cons r1
  obtain ⟨v3, vs3, d3, ds3, p3, q3, rfl, rfl, rfl, h3, r3⟩ := trodAll_cons r2
  obtain ⟨rfl, rfl, rfl⟩ := trodAll_nil r3
  obtain rfl : args = #[v0, v1, v2, v3] := by cases args; simp_all
  obtain ⟨rfl, rfl⟩ := trodVars_none hV
  have lt0 : ∀ x ∈ p0, x.block < W.heap.size := by obtain ⟨m, hm⟩ := h0; exact DataW.trod_lt m _ _ _ hm
  have w0 := argInt Try.underlying2 (hval 0 2 v0 rfl rfl) h0
  have lt1 : ∀ x ∈ p1, x.block < W.heap.size := by obtain ⟨m, hm⟩ := h1; exact DataW.trod_lt m _ _ _ hm
  have w1 := argInt Try.underlying2 (hval 1 2 v1 rfl rfl) h1
  have lt2 : ∀ x ∈ p2, x.block < W.heap.size := by obtain ⟨m, hm⟩ := h2; exact DataW.trod_lt m _ _ _ hm
  have w2 := argF32 Try.underlying40 (hval 2 40 v2 rfl rfl) h2
  have lt3 : ∀ x ∈ p3, x.block < W.heap.size := by obtain ⟨m, hm⟩ := h3; exact DataW.trod_lt m _ _ _ hm
  have w3 := argF32 Try.underlying40 (hval 3 40 v3 rfl rfl) h3
  clear hA0 hval0
  refine (crewBalance_walk v0 v1 v2 v3 W w0 w1 w2 w3).mono fun e W' ⟨he, bel⟩ => ?_
  subst he
  exact ⟨_, rfl, _, _, _, [], _, [], hW', trodAll_mk1 (shut_bool Try.underlying4 _), (trodAll_cons_mk (Below.trod fnExactCrewBalance_laid (by kernel_rfl) (of_decide_eq_true (by kernel_rfl)) h0 bel lt0) (trodAll_cons_mk (Below.trod fnExactCrewBalance_laid (by kernel_rfl) (of_decide_eq_true (by kernel_rfl)) h1 bel lt1) (trodAll_cons_mk (Below.trod fnExactCrewBalance_laid (by kernel_rfl) (of_decide_eq_true (by kernel_rfl)) h2 bel lt2) (trodAll_cons_mk (Below.trod fnExactCrewBalance_laid (by kernel_rfl) (of_decide_eq_true (by kernel_rfl)) h3 bel lt3) trodAll_mk0)))), rfl, bel.below.frame _, fun h => by cases h⟩

theorem fnExactCrewBalance_toL {s : String} {L : List Char} (h : s = String.ofList L) : s.toList = L := by rw [h]; exact String.toList_ofList
def fnExactCrewBalance_enterF (P : Program) : { F : List Char → Bool // P.mayEnter = F P.initOrder.toList } :=
  ⟨_, by unfold Program.mayEnter; generalize P.initOrder.toList = l; exact rfl⟩
def fnExactCrewBalance_liftsF (P : Program) : { F : List Char → Bool // P.liftsFinal = F P.initOrder.toList } :=
  ⟨_, by unfold Program.liftsFinal Program.headLifts; generalize P.initOrder.toList = l; exact rfl⟩
def fnExactCrewBalance_makeF (P : Program) : { F : List Char → Option Make // P.make = F P.initOrder.toList } :=
  ⟨_, by unfold Program.make; generalize P.initOrder.toList = l; exact rfl⟩
set_option maxRecDepth 100000 in
theorem fnExactCrewBalance_enter : Try.checked.prog.mayEnter = true :=
  ((fnExactCrewBalance_enterF Try.checked.prog).2.trans (congrArg (fnExactCrewBalance_enterF Try.checked.prog).1 (fnExactCrewBalance_toL (rfl : Try.checked.prog.initOrder = String.ofList _)))).trans (by kernel_rfl)
set_option maxRecDepth 100000 in
theorem fnExactCrewBalance_lifts : Try.checked.prog.liftsFinal = false :=
  ((fnExactCrewBalance_liftsF Try.checked.prog).2.trans (congrArg (fnExactCrewBalance_liftsF Try.checked.prog).1 (fnExactCrewBalance_toL (rfl : Try.checked.prog.initOrder = String.ofList _)))).trans (by kernel_rfl)
set_option maxRecDepth 100000 in
theorem fnExactCrewBalance_make : Try.checked.prog.make = some .cut :=
  ((fnExactCrewBalance_makeF Try.checked.prog).2.trans (congrArg (fnExactCrewBalance_makeF Try.checked.prog).1 (fnExactCrewBalance_toL (rfl : Try.checked.prog.initOrder = String.ofList _)))).trans (by kernel_rfl)
set_option maxRecDepth 100000 in
theorem fnExactCrewBalance_closed : joinedFacts Try.checked.prog 9 Try.f9 Rows.fnExactCrewBalanceSpec Rows.fnExactCrewBalanceRow = true := by
  unfold joinedFacts
  rw [fnExactCrewBalance_enter, fnExactCrewBalance_lifts, fnExactCrewBalance_make]
  decide +kernel

theorem fnExactCrewBalance_over : Rows.fnExactCrewBalanceRow.holds Try.pinned (OpenSpec.ofChange Rows.fnExactCrewBalanceSpec) :=
  OpenClaim.holds_of_wide 9 Try.f9 rfl rfl rfl rfl rfl rfl rfl ⟨rfl, rfl, rfl, rfl, rfl⟩ rfl rfl rfl rfl rfl (by kernel_rfl) Try.func9 fnExactCrewBalance_closed
    (of_decide_eq_true (by kernel_rfl)) (by unfold Func.isWrapper; first | (rw [if_pos (by decide +kernel)]; kernel_rfl) | (rw [if_neg (by decide +kernel)]; exact ⟨rfl, rfl⟩))
    (fun os started H enc _ => fnExactCrewBalance_lifted os started H enc)

/-- The statement. -/
theorem fnExactCrewBalance_holds : Rows.FnExactCrewBalanceSaid := fnExactCrewBalance_over


end Go.Proofs.Ytnlnjhbckfcmfaa
