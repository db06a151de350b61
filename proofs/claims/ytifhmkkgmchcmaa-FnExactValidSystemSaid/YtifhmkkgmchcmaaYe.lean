
/- FnExactValidSystem returns true for every input and changes nothing that was there. No condition. -/
import Derived.Test.YtifhmkkgmchcmaaRows
import Derived.Test.YtifhmkkgmchcmaaSS
import Derived.Test.YtifhmkkgmchcmaaYd
namespace Go.Proofs.Ytifhmkkgmchcmaa
open Go Go.RowKit Go.ChangeShapes Go.WideShapes Go.ChangeAt

attribute [local irreducible] LX

theorem specValidSystem_any (p : Int) (v : Value) (zs : List Int) (w : World) (r : RdI w v zs) :
    Calls Try.prog 18 #[.agg #[.int .i64 p, v]] w fun e w' => e = .returned (.bool (sysB p zs)) ∧ Ext w w' := by
  have r' := r
  obtain ⟨_, a1, c1, rfl, _, _, _, _⟩ := r
  go_enter Try.func18, Try.ntmps18
  go_wp2_with fail
  refine (l03Is_sys p _ zs w.heap.size _ (Bx.new w _ _) (r'.ext (Ext.alloc _ _))).mono ?_
  rintro e w1 ⟨rfl, X⟩
  go_wp2_with fail
  go_ret
  exact ⟨rfl, (Ext.alloc _ _).trans X⟩

theorem eqSystem_same (p : Int) (v1 v2 : Value) (zs : List Int) (w : World) (r1 : RdI w v1 zs) (r2 : RdI w v2 zs) :
    Calls Try.prog 21 #[.agg #[.int .i64 p, v1], .agg #[.int .i64 p, v2]] w fun e w' => e = .returned (.bool true) ∧ Ext w w' := by
  have h := eqSystem_any p p v1 v2 zs zs w r1 r2
  have e : sysEqB p p zs zs = true := by simp [sysEqB]
  rw [e] at h
  exact h

set_option maxHeartbeats 400000 in
theorem validSystem_law (p : Int) (v1 : Value) (zs : List Int) (w : World) (r1 : RdI w v1 zs) :
    Calls Try.prog 3 #[.agg #[.int .i64 p, v1]] w fun e w' => e = .returned (.bool true) ∧ Ext w w' := by
  have r1' := r1
  obtain ⟨_, a1, c1, rfl, p1, p2, _, _⟩ := r1
  have hm1 : zs.length ≤ maxLen := by omega
  clear p1 p2
  go_enter Try.func3, Try.ntmps3
  go_wp2_with fail
  generalize hW : World.alloc w _ = W
  have X : Ext w W := hW ▸ Ext.alloc _ _
  have b1 : Bx W w.heap.size [.int .i64 p, .slice a1 zs.length c1] := hW ▸ Bx.new w _ _
  clear hW
  replace r1' := r1'.ext X
  refine (szSystem_any _ _ _ _ _ _ hm1 (by omega) (by omega)).mono ?_
  rintro e w1 ⟨rfl, hx⟩
  replace X := X.trans hx; replace b1 := b1.ext hx; replace r1' := r1'.ext hx
  clear hx W
  by_cases h : (1048576 : Int) - zs.length < 0
  · rw [if_pos h]
    go_wp2_with fail
    go_ret
    exact ⟨rfl, X⟩
  · rw [if_neg h]
    obtain ⟨c1a, c1b⟩ := b1.two
    go_wp2_with fail
    refine (toSystem_any p a1 c1 _ zs _ r1' (by omega)).mono ?_
    rintro e w2 ⟨g2, rfl, hx, r2⟩
    clear c1a c1b
    replace X := X.trans hx; replace b1 := b1.ext hx; replace r1' := r1'.ext hx
    clear hx w1
    go_wp2_with fail
    refine (specValidSystem_any p _ zs _ r2).mono ?_
    rintro e w3 ⟨rfl, hx⟩
    replace X := X.trans hx; replace b1 := b1.ext hx; replace r1' := r1'.ext hx
    clear hx r2 w2
    obtain ⟨c1a, c1b⟩ := b1.two
    go_wp2_with fail
    refine (toSystem_any p a1 c1 _ zs _ r1' (by omega)).mono ?_
    rintro e w4 ⟨g3, rfl, hx, r3⟩
    clear c1a c1b
    replace X := X.trans hx; replace b1 := b1.ext hx; replace r1' := r1'.ext hx
    clear hx w3
    obtain ⟨c1a, c1b⟩ := b1.two
    have z1 := b1.1
    go_wp2_with fail
    have b3 : Bx (w4.alloc (.cells #[.int .i64 p, .slice (some ⟨g3, 0, none⟩) zs.length zs.length] 27)) w4.heap.size [.int .i64 p, .slice (some ⟨g3, 0, none⟩) zs.length zs.length] := Bx.new _ _ _
    generalize hW : World.alloc w4 _ = W at b3
    have hx : Ext w4 W := hW ▸ Ext.alloc _ _
    clear hW c1a c1b z1
    replace X := X.trans hx; replace b1 := b1.ext hx; replace r1' := r1'.ext hx; replace r3 := r3.ext hx
    clear hx
    generalize w4.heap.size = B3 at *
    clear w4
    refine (implValidSystem_any p _ zs _ r3).mono ?_
    rintro e w6 ⟨rfl, hx⟩
    replace X := X.trans hx; replace b1 := b1.ext hx; replace r1' := r1'.ext hx; replace r3 := r3.ext hx; replace b3 := b3.ext hx
    clear hx W
    go_wp2_with fail
    refine wp_region_rel 5 (fun i v => match i with | 2 => SysV p zs v | _ => v = .bool true)
      (fun i v w => match i with | 2 => SysW p zs v w | _ => True) (by kernel_rfl) (by kernel_rfl) (by kernel_rfl) ?_
    dsimp only [List.take, List.drop, List.length]
    refine LX_det (.agg #[.int .i64 p, .slice (some ⟨g3, 0, none⟩) zs.length zs.length]) (by kernel_rfl) rfl (fun w' hx _ => ?_) ?_
    · obtain ⟨k1, k2⟩ := (b3.ext hx).two
      go_simp
    refine LX_det (.agg #[.int .i64 p, .slice a1 zs.length c1]) (by kernel_rfl) rfl (fun w' hx _ => ?_) ?_
    · obtain ⟨k1, k2⟩ := (b1.ext hx).two
      go_simp
    refine LX_call (by kernel_rfl) rfl (SysW.st p zs) (fun w' hx _ => ?_) ?_
    · go_simp
      refine UponC.enter ((toSystem_any p a1 c1 _ zs _ (r1'.ext hx) (by omega)).mono ?_)
      rintro e w'' ⟨g, rfl, hx', hr⟩
      exact ⟨_, rfl, hx', ⟨g, rfl⟩, g, rfl, hr⟩
    rintro _ ⟨g5, rfl⟩
    refine LX_call (by kernel_rfl) rfl (fun _ => St.top) (fun w' hx hg => ?_) ?_
    · have h1 := SysW.rd (show SysW p zs _ w' from (hg 24 (by decide)).2 rfl)
      clear hg
      go_simp
      refine UponC.enter ((eqSystem_same p _ _ zs _ (r3.ext hx) h1).mono ?_)
      rintro e w'' ⟨rfl, hx'⟩
      exact ⟨_, rfl, hx', rfl, trivial⟩
    rintro _ rfl
    refine LX_det (.bool false) (by kernel_rfl) rfl (fun w' hx _ => ?_) ?_
    · go_simp
    refine LX_nil fun W hx hg => ?_
    replace X := X.trans hx
    clear hx hg
    refine wpList_nil ?_
    simp only [Act.put, List.setIfInBounds_toArray, List.set_cons_succ, List.set_cons_zero]
    go_wp2_with fail
    go_ret
    exact ⟨rfl, X⟩

theorem validSystem_walk (v1 : Value) (w : World) (h1 : ArgSys w v1) :
    Calls Try.prog 3 #[v1] w fun e w' => e = .returned (.bool true) ∧ Ext w w' := by
  obtain ⟨p, a, l, c, zs, rfl, _, r1, _⟩ := h1
  exact validSystem_law p _ zs w r1

theorem fnExactValidSystem_own : ownKnob Try.prog.godebug = none := by kernel_rfl
theorem fnExactValidSystem_laid : laidOutB Try.prog = true := by kernel_rfl

set_option maxRecDepth 100000 in
theorem fnExactValidSystem_lifted (os : Os) (started : os.Started) (H : Type) (enc : TypeId × Value → H) :
    ReturnsInHanded {} Try.checked os 3 .any (Rows.fnExactValidSystemSpec.pre6 enc Try.prog Try.f3 Rows.fnExactValidSystemRow.domain false) (Rows.fnExactValidSystemSpec.post enc Try.prog Try.f3 false true false false) := by
  refine returnsInHanded_of_change (C := Try.checked) fnExactValidSystem_own started (by kernel_rfl) Try.func3
    (ChangeSpec.witness6 (enc := enc) (C := Try.checked) false ⟨#[], #[.agg #[.int .i64 0, .slice none 0 0]], []⟩ 8 (by kernel_rfl) (by kernel_rfl) (by kernel_rfl) (by kernel_rfl)) ?_
  intro W base args ds gs before hval0 hW hcnd _
  have hval : ∀ (j : Nat) t v, Try.f3.params[j]? = some t → args[j]? = some v → Value.okWide Try.prog W .any base t v := hval0
  have hW' := hW
  obtain ⟨p, q, hA0, hV, rfl, hfz, hnd⟩ := hW
  have hA : DataW.TrodAll enc Try.prog W 0 (fun _ => true) true Try.f3.params.toList args.toList ds p := hA0
  rw [Try.params3] at hA hval
  obtain ⟨v0, vs0, d0, ds0, p0, q0, hargs, rfl, rfl, h0, r0⟩ := trodAll_cons hA
  obtain ⟨rfl, rfl, rfl⟩ := trodAll_nil r0
  obtain rfl : args = #[v0] := by cases args; simp_all
  obtain ⟨rfl, rfl⟩ := trodVars_none hV
  have lt0 : ∀ x ∈ p0, x.block < W.heap.size := by obtain ⟨m, hm⟩ := h0; exact DataW.trod_lt m _ _ _ hm
  have w0 := argSys Try.underlying24 (by kernel_rfl) (by kernel_rfl) Try.underlying2 Try.underlying22 Try.underlying2 (by kernel_rfl) (hval 0 24 v0 rfl rfl) h0
  clear hA0 hval0
  refine (validSystem_walk v0 W w0).mono fun e W' ⟨he, bel⟩ => ?_
  subst he
  exact ⟨_, rfl, _, _, _, [], _, [], hW', trodAll_mk1 (shut_bool Try.underlying4 _), (trodAll_cons_mk (Below.trod fnExactValidSystem_laid (by kernel_rfl) (of_decide_eq_true (by kernel_rfl)) h0 bel lt0) trodAll_mk0), rfl, bel.below.frame _, fun h => by cases h⟩

theorem fnExactValidSystem_toL {s : String} {L : List Char} (h : s = String.ofList L) : s.toList = L := by rw [h]; exact String.toList_ofList
def fnExactValidSystem_enterF (P : Program) : { F : List Char → Bool // P.mayEnter = F P.initOrder.toList } :=
  ⟨_, by unfold Program.mayEnter; generalize P.initOrder.toList = l; exact rfl⟩
def fnExactValidSystem_liftsF (P : Program) : { F : List Char → Bool // P.liftsFinal = F P.initOrder.toList } :=
  ⟨_, by unfold Program.liftsFinal Program.headLifts; generalize P.initOrder.toList = l; exact rfl⟩
def fnExactValidSystem_makeF (P : Program) : { F : List Char → Option Make // P.make = F P.initOrder.toList } :=
  ⟨_, by unfold Program.make; generalize P.initOrder.toList = l; exact rfl⟩
set_option maxRecDepth 100000 in
theorem fnExactValidSystem_enter : Try.checked.prog.mayEnter = true :=
  ((fnExactValidSystem_enterF Try.checked.prog).2.trans (congrArg (fnExactValidSystem_enterF Try.checked.prog).1 (fnExactValidSystem_toL (rfl : Try.checked.prog.initOrder = String.ofList _)))).trans (by kernel_rfl)
set_option maxRecDepth 100000 in
theorem fnExactValidSystem_lifts : Try.checked.prog.liftsFinal = false :=
  ((fnExactValidSystem_liftsF Try.checked.prog).2.trans (congrArg (fnExactValidSystem_liftsF Try.checked.prog).1 (fnExactValidSystem_toL (rfl : Try.checked.prog.initOrder = String.ofList _)))).trans (by kernel_rfl)
set_option maxRecDepth 100000 in
theorem fnExactValidSystem_make : Try.checked.prog.make = some .cut :=
  ((fnExactValidSystem_makeF Try.checked.prog).2.trans (congrArg (fnExactValidSystem_makeF Try.checked.prog).1 (fnExactValidSystem_toL (rfl : Try.checked.prog.initOrder = String.ofList _)))).trans (by kernel_rfl)
set_option maxRecDepth 100000 in
theorem fnExactValidSystem_closed : joinedFacts Try.checked.prog 3 Try.f3 Rows.fnExactValidSystemSpec Rows.fnExactValidSystemRow = true := by
  unfold joinedFacts
  rw [fnExactValidSystem_enter, fnExactValidSystem_lifts, fnExactValidSystem_make]
  decide +kernel

theorem fnExactValidSystem_over : Rows.fnExactValidSystemRow.holds Try.pinned (OpenSpec.ofChange Rows.fnExactValidSystemSpec) :=
  OpenClaim.holds_of_wide 3 Try.f3 rfl rfl rfl rfl rfl rfl rfl ⟨rfl, rfl, rfl, rfl, rfl⟩ rfl rfl rfl rfl rfl (by kernel_rfl) Try.func3 fnExactValidSystem_closed
    (of_decide_eq_true (by kernel_rfl)) (by unfold Func.isWrapper; first | (rw [if_pos (by decide +kernel)]; kernel_rfl) | (rw [if_neg (by decide +kernel)]; exact ⟨rfl, rfl⟩))
    (fun os started H enc _ => fnExactValidSystem_lifted os started H enc)

/-- The statement. -/
theorem fnExactValidSystem_holds : Rows.FnExactValidSystemSaid := fnExactValidSystem_over

end Go.Proofs.Ytifhmkkgmchcmaa
