
/- FnExactVoteSystem returns true for every input and changes nothing that was there. No condition. -/
import Derived.Test.YtifhmkkgmchcmaaRows
import Derived.Test.YtifhmkkgmchcmaaYt
namespace Go.Proofs.Ytifhmkkgmchcmaa
open Go Go.RowKit Go.ChangeShapes Go.WideShapes Go.ChangeAt

attribute [local irreducible] LX

set_option maxRecDepth 100000 in
set_option maxHeartbeats 8000000 in
theorem FnExactVoteSystem_law (n0 : Int) (n1 : Int) (o : Option (Int × List Int)) (w : World)
    (hs : ∀ (w : World), Calls Try.prog 40 #[.int .i64 n0, .int .i64 n1] w (YsPost o w))
    (hi : ∀ (w : World), Calls Try.prog 41 #[.int .i64 n0, .int .i64 n1] w (YsPost o w))
    (hlen : (o.getD (0, [])).2.length ≤ 1048576) :
    Calls Try.prog 10 #[.int .i64 n0, .int .i64 n1] w fun e w' => e = .returned (.bool true) ∧ Ext w w' := by
  have HS0 := Lib.hid hs
  have HI0 := Lib.hid hi
  clear hs hi
  go_enter Try.func10, Try.ntmps10
  go_wp2_with fail
  have X : Ext w w := Ext.refl _
  have HS := Lib.hid (HS0.out)
  have HI := Lib.hid (HI0.out)
  clear HS0 HI0
  try (go_wp2_with fail)
  refine (HS.out _).mono ?_
  intro e w1 h4
  obtain ⟨vs, rfl, os, hx⟩ := ysPost_own h4
  clear h4 
  replace X := Ext.trans X hx
  clear hx
  generalize hP : (o.getD (0, [])).1 = P0 at *
  generalize hZ : (o.getD (0, [])).2 = zz at *
  obtain ⟨av, nv, cv, rfl⟩ := os.shape
  go_wp2_with fail
  have bw : Bx (w1.alloc (.cells #[.int .i64 P0, .slice av nv cv] 27)) w1.heap.size [.int .i64 P0, .slice av nv cv] := Bx.new _ _ _
  generalize hW : World.alloc w1 _ = WB at bw
  have hx : Ext w1 WB := hW ▸ Ext.alloc _ _
  clear hW
  replace X := Ext.trans X hx
  replace os := os.ext hx
  clear hx
  have Y : Ext WB WB := Ext.refl _
  have BW := Lib.hid (fun W (x : Ext WB W) => bw.ext x)
  clear bw
  try (go_wp2_with fail)
  refine (HI.out _).mono ?_
  intro e w2 h7
  obtain ⟨vi, rfl, oi, hx⟩ := ysPost_own h7
  clear h7
  rw [hZ] at oi
  rw [hP]
  have hB6 := Y.size
  have hz7 := hx.size
  replace Y := Ext.trans Y hx
  clear hx
  obtain ⟨ai, ni, ci, rfl⟩ := oi.shape
  obtain ⟨kw0, kw1⟩ := (BW.out _ Y).two
  have zw := (BW.out _ Y).1
  go_wp2_with fail
  have bg : Bx (w2.alloc (.cells #[.int .i64 P0, .slice ai ni ci] 27)) w2.heap.size [.int .i64 P0, .slice ai ni ci] := Bx.new _ _ _
  have hTg : w2.heap.size ≤ w2.heap.size := Nat.le_refl _
  generalize hW : World.alloc w2 _ = WG at bg
  have hx : Ext w2 WG := hW ▸ Ext.alloc _ _
  clear hW kw0 kw1 zw
  replace Y := Ext.trans Y hx
  replace oi := oi.ext hx
  replace hz7 := Nat.le_trans hz7 hx.size
  clear hx
  obtain ⟨kw0, kw1⟩ := (BW.out _ Y).two
  obtain ⟨kg0, kg1⟩ := bg.two
  try (go_wp2_with fail)
  clear kw0 kw1 kg0 kg1
  refine (eqSys_eq P0 oi.rd (os.ext Y).rd).mono ?_
  rintro e w3 ⟨rfl, hx⟩
  replace Y := Ext.trans Y hx
  replace oi := oi.ext hx
  replace hz7 := Nat.le_trans hz7 hx.size
  replace bg := bg.ext hx
  clear hx
  obtain ⟨kg0, kg1⟩ := bg.two
  go_wp2_with fail
  refine (markSys_own P0 1 _ _ _ _ _ oi hz7 (by decide) (by decide) hlen).mono ?_
  rintro e w4 ⟨rfl, G10, KF, RM⟩
  clear kg0 kg1
  replace bg := bg.kept G10.size KF hTg
  replace Y := Below.trans Y (G10.mono hB6)
  clear G10 oi KF
  obtain ⟨kg0, kg1⟩ := bg.two
  go_wp2_with fail
  refine (heldSys_own P0 1 _ _ zz.length _ _ RM (by decide) (by decide) hlen).mono ?_
  rintro e w5 ⟨rfl, hx⟩
  clear kg0 kg1
  replace Y := Ext.trans Y hx
  replace RM := RM.ext hx
  replace bg := bg.ext hx
  clear hx
  go_wp2_with fail
  refine (HI.out _).mono ?_
  intro e w6 h18
  obtain ⟨vh, rfl, oh, hx⟩ := ysPost_own h18
  rw [hZ] at oh
  rw [hP]
  clear h18 
  replace Y := Ext.trans Y hx
  replace RM := RM.ext hx
  replace bg := bg.ext hx
  clear hx
  obtain ⟨ah, nh, ch, rfl⟩ := oh.shape
  obtain ⟨kw0, kw1⟩ := (BW.out _ Y).two
  have zw := (BW.out _ Y).1
  go_wp2_with fail
  have bh : Bx (w6.alloc (.cells #[.int .i64 P0, .slice ah nh ch] 27)) w6.heap.size [.int .i64 P0, .slice ah nh ch] := Bx.new _ _ _
  generalize hW : World.alloc w6 _ = WH at bh
  have hx : Ext w6 WH := hW ▸ Ext.alloc _ _
  clear hW kw0 kw1 zw
  replace Y := Ext.trans Y hx
  replace RM := RM.ext hx
  replace bg := bg.ext hx
  replace oh := oh.ext hx
  clear hx
  obtain ⟨kw0, kw1⟩ := (BW.out _ Y).two
  obtain ⟨kg0, kg1⟩ := bh.two
  try (go_wp2_with fail)
  clear kw0 kw1 kg0 kg1
  refine (eqSys_eq P0 oh.rd (os.ext Y).rd).mono ?_
  rintro e w7 ⟨rfl, hx⟩
  replace Y := Ext.trans Y hx
  replace RM := RM.ext hx
  replace bg := bg.ext hx
  replace oh := oh.ext hx
  clear hx
  obtain ⟨kg0, kg1⟩ := bg.two
  go_wp2_with fail
  refine (heldSys_own P0 1 _ _ zz.length _ _ RM (by decide) (by decide) hlen).mono ?_
  rintro e w8 ⟨rfl, hx⟩
  clear kg0 kg1
  replace Y := Ext.trans Y hx
  replace RM := RM.ext hx
  replace bg := bg.ext hx
  replace oh := oh.ext hx
  clear hx
  go_wp2_with fail
  go_ret
  exact ⟨rfl, X.trans Y⟩


theorem voteSystem_walk (v1 v2 : Value) (w : World) (h1 : ArgInt w v1) (h2 : ArgInt w v2) :
    Calls Try.prog 10 #[v1, v2] w fun e w' => e = .returned (.bool true) ∧ Ext w w' := by
  obtain ⟨p, rfl, _⟩ := h1
  obtain ⟨v, rfl, _⟩ := h2
  refine FnExactVoteSystem_law p v (voteO p v) w (fun w => specVoteSystem_any p v w) (fun w => implVoteSystem_any p v w) ?_
  unfold voteO
  split
  · exact sysO_len _ _
  · simp

theorem fnExactVoteSystem_own : ownKnob Try.prog.godebug = none := by kernel_rfl
theorem fnExactVoteSystem_laid : laidOutB Try.prog = true := by kernel_rfl

set_option maxRecDepth 100000 in
theorem fnExactVoteSystem_lifted (os : Os) (started : os.Started) (H : Type) (enc : TypeId × Value → H) :
    ReturnsInHanded {} Try.checked os 10 .any (Rows.fnExactVoteSystemSpec.pre6 enc Try.prog Try.f10 Rows.fnExactVoteSystemRow.domain false) (Rows.fnExactVoteSystemSpec.post enc Try.prog Try.f10 false true false false) := by
  refine returnsInHanded_of_change (C := Try.checked) fnExactVoteSystem_own started (by kernel_rfl) Try.func10
    (ChangeSpec.witness6 (enc := enc) (C := Try.checked) false ⟨#[], #[.int .i64 0, .int .i64 0], []⟩ 8 (by kernel_rfl) (by kernel_rfl) (by kernel_rfl) (by kernel_rfl)) ?_
  intro W base args ds gs before hval0 hW hcnd _
  have hval : ∀ (j : Nat) t v, Try.f10.params[j]? = some t → args[j]? = some v → Value.okWide Try.prog W .any base t v := hval0
  have hW' := hW
  obtain ⟨p, q, hA0, hV, rfl, hfz, hnd⟩ := hW
  have hA : DataW.TrodAll enc Try.prog W 0 (fun _ => true) true Try.f10.params.toList args.toList ds p := hA0
  rw [Try.params10] at hA hval
  obtain ⟨v0, vs0, d0, ds0, p0, q0, hargs, rfl, rfl, h0, r0⟩ := trodAll_cons hA
  obtain ⟨v1, vs1, d1, ds1, p1, q1, rfl, rfl, rfl, h1, r1⟩ := trodAll_cons r0
  obtain ⟨rfl, rfl, rfl⟩ := trodAll_nil r1
  obtain rfl : args = #[v0, v1] := by cases args; simp_all
  obtain ⟨rfl, rfl⟩ := trodVars_none hV
  have lt0 : ∀ x ∈ p0, x.block < W.heap.size := by obtain ⟨m, hm⟩ := h0; exact DataW.trod_lt m _ _ _ hm
  have w0 := argInt Try.underlying2 (hval 0 2 v0 rfl rfl) h0
  have lt1 : ∀ x ∈ p1, x.block < W.heap.size := by obtain ⟨m, hm⟩ := h1; exact DataW.trod_lt m _ _ _ hm
  have w1 := argInt Try.underlying2 (hval 1 2 v1 rfl rfl) h1
  clear hA0 hval0
  refine (voteSystem_walk v0 v1 W w0 w1).mono fun e W' ⟨he, bel⟩ => ?_
  subst he
  exact ⟨_, rfl, _, _, _, [], _, [], hW', trodAll_mk1 (shut_bool Try.underlying4 _), (trodAll_cons_mk (Below.trod fnExactVoteSystem_laid (by kernel_rfl) (of_decide_eq_true (by kernel_rfl)) h0 bel lt0) (trodAll_cons_mk (Below.trod fnExactVoteSystem_laid (by kernel_rfl) (of_decide_eq_true (by kernel_rfl)) h1 bel lt1) trodAll_mk0)), rfl, bel.below.frame _, fun h => by cases h⟩

theorem fnExactVoteSystem_toL {s : String} {L : List Char} (h : s = String.ofList L) : s.toList = L := by rw [h]; exact String.toList_ofList
def fnExactVoteSystem_enterF (P : Program) : { F : List Char → Bool // P.mayEnter = F P.initOrder.toList } :=
  ⟨_, by unfold Program.mayEnter; generalize P.initOrder.toList = l; exact rfl⟩
def fnExactVoteSystem_liftsF (P : Program) : { F : List Char → Bool // P.liftsFinal = F P.initOrder.toList } :=
  ⟨_, by unfold Program.liftsFinal Program.headLifts; generalize P.initOrder.toList = l; exact rfl⟩
def fnExactVoteSystem_makeF (P : Program) : { F : List Char → Option Make // P.make = F P.initOrder.toList } :=
  ⟨_, by unfold Program.make; generalize P.initOrder.toList = l; exact rfl⟩
set_option maxRecDepth 100000 in
theorem fnExactVoteSystem_enter : Try.checked.prog.mayEnter = true :=
  ((fnExactVoteSystem_enterF Try.checked.prog).2.trans (congrArg (fnExactVoteSystem_enterF Try.checked.prog).1 (fnExactVoteSystem_toL (rfl : Try.checked.prog.initOrder = String.ofList _)))).trans (by kernel_rfl)
set_option maxRecDepth 100000 in
theorem fnExactVoteSystem_lifts : Try.checked.prog.liftsFinal = false :=
  ((fnExactVoteSystem_liftsF Try.checked.prog).2.trans (congrArg (fnExactVoteSystem_liftsF Try.checked.prog).1 (fnExactVoteSystem_toL (rfl : Try.checked.prog.initOrder = String.ofList _)))).trans (by kernel_rfl)
set_option maxRecDepth 100000 in
theorem fnExactVoteSystem_make : Try.checked.prog.make = some .cut :=
  ((fnExactVoteSystem_makeF Try.checked.prog).2.trans (congrArg (fnExactVoteSystem_makeF Try.checked.prog).1 (fnExactVoteSystem_toL (rfl : Try.checked.prog.initOrder = String.ofList _)))).trans (by kernel_rfl)
set_option maxRecDepth 100000 in
theorem fnExactVoteSystem_closed : joinedFacts Try.checked.prog 10 Try.f10 Rows.fnExactVoteSystemSpec Rows.fnExactVoteSystemRow = true := by
  unfold joinedFacts
  rw [fnExactVoteSystem_enter, fnExactVoteSystem_lifts, fnExactVoteSystem_make]
  decide +kernel

theorem fnExactVoteSystem_over : Rows.fnExactVoteSystemRow.holds Try.pinned (OpenSpec.ofChange Rows.fnExactVoteSystemSpec) :=
  OpenClaim.holds_of_wide 10 Try.f10 rfl rfl rfl rfl rfl rfl rfl ⟨rfl, rfl, rfl, rfl, rfl⟩ rfl rfl rfl rfl rfl (by kernel_rfl) Try.func10 fnExactVoteSystem_closed
    (of_decide_eq_true (by kernel_rfl)) (by unfold Func.isWrapper; first | (rw [if_pos (by decide +kernel)]; kernel_rfl) | (rw [if_neg (by decide +kernel)]; exact ⟨rfl, rfl⟩))
    (fun os started H enc _ => fnExactVoteSystem_lifted os started H enc)

/-- The statement. -/
theorem fnExactVoteSystem_holds : Rows.FnExactVoteSystemSaid := fnExactVoteSystem_over

end Go.Proofs.Ytifhmkkgmchcmaa
