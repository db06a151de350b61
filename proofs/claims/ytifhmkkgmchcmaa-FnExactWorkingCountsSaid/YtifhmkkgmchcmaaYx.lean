
/- FnExactWorkingCounts returns true for every input and changes nothing that was there. No condition. -/
import Derived.Test.YtifhmkkgmchcmaaRows
import Derived.Test.YtifhmkkgmchcmaaYw
namespace Go.Proofs.Ytifhmkkgmchcmaa
open Go Go.RowKit Go.ChangeShapes Go.WideShapes Go.ChangeAt

attribute [local irreducible] LX

set_option maxRecDepth 100000 in
set_option maxHeartbeats 8000000 in
theorem FnExactWorkingCounts_law (p0 : Int) (v0 : Value) (zs0 : List Int) (o : Option (List Int)) (w : World) (r0 : RdI w v0 zs0)
    (hs : zs0.length ≤ 1048576 → ∀ (w : World) (v0 : Value), RdI w v0 zs0 → Calls Try.prog 44 #[.agg #[.int .i64 p0, v0]] w (ZlPost o w))
    (hi : zs0.length ≤ 1048576 → ∀ (w : World) (v0 : Value), RdI w v0 zs0 → Calls Try.prog 45 #[.agg #[.int .i64 p0, v0]] w (ZlPost o w))
    (hlen : (o.getD []).length ≤ 1048576) :
    Calls Try.prog 12 #[.agg #[.int .i64 p0, v0]] w fun e w' => e = .returned (.bool true) ∧ Ext w w' := by
  have r0' := r0
  obtain ⟨-, a0, c0, rfl, pp0, qq0, -, -⟩ := r0
  have hm0 : zs0.length ≤ maxLen := by omega
  have hq0 : zs0.length ≤ 9223372036854775807 := by unfold maxLen at hm0; omega
  have HS0 := Lib.hid hs
  have HI0 := Lib.hid hi
  clear hs hi pp0 qq0
  go_enter Try.func12, Try.ntmps12
  go_wp2_with fail
  generalize hW : World.alloc w _ = W
  have X : Ext w W := hW ▸ Ext.alloc _ _
  have b0 : Bx W w.heap.size [.int .i64 p0, .slice a0 zs0.length c0] := hW ▸ Bx.new w _ _
  clear hW
  obtain ⟨k0, k1⟩ := b0.two
  try (go_wp2_with fail)
  refine (szSystem_any _ _ _ _ _ _ hm0 (by omega) (by omega)).mono ?_
  rintro e w1 ⟨rfl, hx⟩
  clear k0 k1
  replace X := Ext.trans X hx
  replace b0 := b0.ext hx
  clear hx
  by_cases hz0 : (1048576 : Int) - zs0.length < 0
  · rw [if_pos hz0]
    go_wp2_with fail
    go_ret
    exact ⟨rfl, X⟩
  rw [if_neg hz0]
  have hzz0 : zs0.length ≤ 1048576 := by omega
  have HS := Lib.hid (HS0.out hzz0)
  have HI := Lib.hid (HI0.out hzz0)
  clear HS0 HI0
  obtain ⟨k0, k1⟩ := b0.two
  go_wp2_with fail
  refine (toSystem_any p0 a0 c0 _ zs0 _ (r0'.ext X) hzz0).mono ?_
  rintro e w2 ⟨q0, rfl, hx, R0⟩
  clear k0 k1
  replace X := Ext.trans X hx
  replace b0 := b0.ext hx
  clear hx
  go_wp2_with fail
  refine (HS.out _ _ R0).mono ?_
  intro e w3 h4
  obtain ⟨vs, rfl, os, hx⟩ := zlPost_own h4
  clear h4 R0
  replace X := Ext.trans X hx
  replace b0 := b0.ext hx
  clear hx
  generalize hZ : o.getD [] = zz at *
  have Y : Ext w3 w3 := Ext.refl _
  have B0 := Lib.hid (fun W (x : Ext w3 W) => b0.ext x)
  clear b0
  obtain ⟨k0, k1⟩ := (B0.out _ Y).two
  try (go_wp2_with fail)
  refine (toSystem_own p0 a0 c0 _ zs0 _ (r0'.ext (X.trans Y)) hzz0).mono ?_
  rintro e w4 ⟨g0, rfl, hx, own0⟩
  clear k0 k1
  replace hx : Ext _ w4 := hx
  have hg0 := own0.lt g0 rfl
  have hB0 : w3.heap.size ≤ g0 := Nat.le_trans Y.size hg0.1
  have hs0 := hg0.2
  replace own0 := World.ownsRow.mono own0 Y.size
  clear hg0
  replace Y := Ext.trans Y hx
  clear hx
  go_wp2_with fail
  have bx0 : Bx (w4.alloc (.cells #[.int .i64 p0, .slice (some ⟨g0, 0, none⟩) zs0.length zs0.length] 27)) w4.heap.size [.int .i64 p0, .slice (some ⟨g0, 0, none⟩) zs0.length zs0.length] := Bx.new _ _ _
  have hbx0 : g0 < w4.heap.size := hs0
  have hbB0 : w3.heap.size ≤ w4.heap.size := Y.size
  generalize hW : World.alloc w4 _ = WW0 at bx0
  have hx : Ext w4 WW0 := hW ▸ Ext.alloc _ _
  clear hW
  replace Y := Ext.trans Y hx
  replace own0 := own_ext' own0 hx
  replace hs0 := Nat.lt_of_lt_of_le hs0 hx.size
  clear hx
  generalize w4.heap.size = BB0 at *
  obtain ⟨kk0, kl0⟩ := bx0.two
  try (go_wp2_with fail)
  refine (HI.out _ _ (own_rd own0)).mono ?_
  intro e w5 h7
  obtain ⟨vi, rfl, oi, hx⟩ := zlPost_own h7
  clear h7
  clear kk0 kl0
  rw [hZ] at oi
  have hB6 := Y.size
  have hz7 := hx.size
  have hlt0 := hs0
  clear hs0
  replace Y := Ext.trans Y hx
  replace own0 := own_ext' own0 hx
  replace bx0 := bx0.ext hx
  clear hx
  go_wp2_with fail
  refine (eqI_eq oi.rd (os.ext Y).rd).mono ?_
  rintro e w6 ⟨rfl, hx⟩
  replace Y := Ext.trans Y hx
  replace own0 := own_ext' own0 hx
  replace bx0 := bx0.ext hx
  replace oi := oi.ext hx
  replace hz7 := Nat.le_trans hz7 hx.size
  clear hx
  go_wp2_with fail
  refine wp_region_rel 5 (fun i v => match i with | 2 => SysV p0 zs0 v | _ => v = .bool true)
    (fun i v w => match i with | 2 => SysW p0 zs0 v w | _ => True) (by kernel_rfl) (by kernel_rfl) (by kernel_rfl) ?_
  dsimp only [List.take, List.drop, List.length]
  refine LX_det (.agg #[.int .i64 p0, .slice (some ⟨g0, 0, none⟩) zs0.length zs0.length]) (by kernel_rfl) rfl (fun w' hx _ => ?_) ?_
  · obtain ⟨k1, k2⟩ := (bx0.ext hx).two
    go_simp
  refine LX_det (.agg #[.int .i64 p0, .slice a0 zs0.length c0]) (by kernel_rfl) rfl (fun w' hx _ => ?_) ?_
  · obtain ⟨k1, k2⟩ := (B0.out _ (Y.trans hx)).two
    go_simp
  refine LX_call (by kernel_rfl) rfl (SysW.st p0 zs0) (fun w' hx _ => ?_) ?_
  · go_simp
    refine UponC.enter ((toSystem_any p0 a0 c0 _ zs0 _ (r0'.ext (X.trans (Y.trans hx))) hzz0).mono ?_)
    rintro e w'' ⟨g, rfl, hx', hr⟩
    exact ⟨_, rfl, hx', ⟨g, rfl⟩, g, rfl, hr⟩
  rintro _ ⟨gg, rfl⟩
  refine LX_call (by kernel_rfl) rfl (fun _ => St.top) (fun w' hx hg => ?_) ?_
  · have h1 := SysW.rd (show SysW p0 zs0 _ w' from (hg 43 (by decide)).2 rfl)
    clear hg
    go_simp
    refine UponC.enter ((eqSys_eq p0 (own_rd (own_ext' own0 hx)) h1).mono ?_)
    rintro e w'' ⟨rfl, hx'⟩
    exact ⟨_, rfl, hx', rfl, trivial⟩
  rintro _ rfl
  refine LX_det (.bool false) (by kernel_rfl) rfl (fun w' hx _ => ?_) ?_
  · go_simp
  refine LX_nil fun w7 hx hg => ?_
  clear hg
  replace Y := Ext.trans Y hx
  replace own0 := own_ext' own0 hx
  replace bx0 := bx0.ext hx
  replace oi := oi.ext hx
  replace hz7 := Nat.le_trans hz7 hx.size
  clear hx
  refine wpList_nil ?_
  simp only [Act.put, List.setIfInBounds_toArray, List.set_cons_succ, List.set_cons_zero]
  obtain ⟨k0, k1⟩ := bx0.two
  go_wp2_with fail
  refine (markSystem_g p0 (1) g0 zs0.length zs0.length _ zs0 _ own0 (by omega) (by omega) hzz0).mono ?_
  rintro e w8 ⟨rfl, G, -⟩
  clear k0 k1 bx0
  clear own0
  replace oi := oi.grown G hlt0
  replace Y := Below.trans Y (grown_ext G hB0 Y.size)
  replace hz7 := Nat.le_trans hz7 G.size
  clear G
  have hpos : ¬ (1 + (zs0.length : Int)) < 0 := by omega
  go_wp2_with fail
  refine (eqI_eq oi.rd (os.ext Y).rd).mono ?_
  rintro e w9 ⟨rfl, hx⟩
  replace Y := Ext.trans Y hx
  replace oi := oi.ext hx
  replace hz7 := Nat.le_trans hz7 hx.size
  clear hx
  go_wp2_with fail
  refine (markZ_own 1 _ _ _ _ _ oi hz7 (by decide) (by decide) hlen).mono ?_
  rintro e w10 ⟨rfl, G10, KF, RM⟩
  replace Y := Below.trans Y (G10.mono hB6)
  clear G10 oi KF
  go_wp2_with fail
  refine (heldZ_own 1 _ _ zz.length _ _ RM (by decide) (by decide) hlen).mono ?_
  rintro e w11 ⟨rfl, rfl⟩
  obtain ⟨k0, k1⟩ := (B0.out _ Y).two
  go_wp2_with fail
  refine (toSystem_any p0 a0 c0 _ zs0 _ (r0'.ext (X.trans Y)) hzz0).mono ?_
  rintro e w12 ⟨gr0, rfl, hx, R0⟩
  clear k0 k1
  replace Y := Ext.trans Y hx
  replace RM := RM.ext hx
  clear hx
  go_wp2_with fail
  refine (HI.out _ _ R0).mono ?_
  intro e w13 h18
  obtain ⟨vh, rfl, oh, hx⟩ := zlPost_own h18
  rw [hZ] at oh
  clear h18 R0
  replace Y := Ext.trans Y hx
  replace RM := RM.ext hx
  clear hx
  go_wp2_with fail
  refine (eqI_eq oh.rd (os.ext Y).rd).mono ?_
  rintro e w14 ⟨rfl, hx⟩
  replace Y := Ext.trans Y hx
  replace RM := RM.ext hx
  replace oh := oh.ext hx
  clear hx
  go_wp2_with fail
  refine (heldZ_own 1 _ _ zz.length _ _ RM (by decide) (by decide) hlen).mono ?_
  rintro e w15 ⟨rfl, rfl⟩
  go_wp2_with fail
  go_ret
  exact ⟨rfl, X.trans Y⟩


theorem workingCounts_walk (v1 : Value) (w : World) (h1 : ArgSys w v1) :
    Calls Try.prog 12 #[v1] w fun e w' => e = .returned (.bool true) ∧ Ext w w' := by
  obtain ⟨p, a, l, c, zs, rfl, _, r1, _⟩ := h1
  exact FnExactWorkingCounts_law p _ zs (wcO p zs) w r1 (fun _ w v r => specWorkingCounts_any p v zs w r) (fun _ w v r => implWorkingCounts_any p v zs w r) (wcO_len p zs)

theorem fnExactWorkingCounts_own : ownKnob Try.prog.godebug = none := by kernel_rfl
theorem fnExactWorkingCounts_laid : laidOutB Try.prog = true := by kernel_rfl

set_option maxRecDepth 100000 in
theorem fnExactWorkingCounts_lifted (os : Os) (started : os.Started) (H : Type) (enc : TypeId × Value → H) :
    ReturnsInHanded {} Try.checked os 12 .any (Rows.fnExactWorkingCountsSpec.pre6 enc Try.prog Try.f12 Rows.fnExactWorkingCountsRow.domain false) (Rows.fnExactWorkingCountsSpec.post enc Try.prog Try.f12 false true false false) := by
  refine returnsInHanded_of_change (C := Try.checked) fnExactWorkingCounts_own started (by kernel_rfl) Try.func12
    (ChangeSpec.witness6 (enc := enc) (C := Try.checked) false ⟨#[], #[.agg #[.int .i64 0, .slice none 0 0]], []⟩ 8 (by kernel_rfl) (by kernel_rfl) (by kernel_rfl) (by kernel_rfl)) ?_
  intro W base args ds gs before hval0 hW hcnd _
  have hval : ∀ (j : Nat) t v, Try.f12.params[j]? = some t → args[j]? = some v → Value.okWide Try.prog W .any base t v := hval0
  have hW' := hW
  obtain ⟨p, q, hA0, hV, rfl, hfz, hnd⟩ := hW
  have hA : DataW.TrodAll enc Try.prog W 0 (fun _ => true) true Try.f12.params.toList args.toList ds p := hA0
  rw [Try.params12] at hA hval
  obtain ⟨v0, vs0, d0, ds0, p0, q0, hargs, rfl, rfl, h0, r0⟩ := trodAll_cons hA
  obtain ⟨rfl, rfl, rfl⟩ := trodAll_nil r0
  obtain rfl : args = #[v0] := by cases args; simp_all
  obtain ⟨rfl, rfl⟩ := trodVars_none hV
  have lt0 : ∀ x ∈ p0, x.block < W.heap.size := by obtain ⟨m, hm⟩ := h0; exact DataW.trod_lt m _ _ _ hm
  have w0 := argSys Try.underlying24 (by kernel_rfl) (by kernel_rfl) Try.underlying2 Try.underlying22 Try.underlying2 (by kernel_rfl) (hval 0 24 v0 rfl rfl) h0
  clear hA0 hval0
  refine (workingCounts_walk v0 W w0).mono fun e W' ⟨he, bel⟩ => ?_
  subst he
  exact ⟨_, rfl, _, _, _, [], _, [], hW', trodAll_mk1 (shut_bool Try.underlying4 _), (trodAll_cons_mk (Below.trod fnExactWorkingCounts_laid (by kernel_rfl) (of_decide_eq_true (by kernel_rfl)) h0 bel lt0) trodAll_mk0), rfl, bel.below.frame _, fun h => by cases h⟩

theorem fnExactWorkingCounts_toL {s : String} {L : List Char} (h : s = String.ofList L) : s.toList = L := by rw [h]; exact String.toList_ofList
def fnExactWorkingCounts_enterF (P : Program) : { F : List Char → Bool // P.mayEnter = F P.initOrder.toList } :=
  ⟨_, by unfold Program.mayEnter; generalize P.initOrder.toList = l; exact rfl⟩
def fnExactWorkingCounts_liftsF (P : Program) : { F : List Char → Bool // P.liftsFinal = F P.initOrder.toList } :=
  ⟨_, by unfold Program.liftsFinal Program.headLifts; generalize P.initOrder.toList = l; exact rfl⟩
def fnExactWorkingCounts_makeF (P : Program) : { F : List Char → Option Make // P.make = F P.initOrder.toList } :=
  ⟨_, by unfold Program.make; generalize P.initOrder.toList = l; exact rfl⟩
set_option maxRecDepth 100000 in
theorem fnExactWorkingCounts_enter : Try.checked.prog.mayEnter = true :=
  ((fnExactWorkingCounts_enterF Try.checked.prog).2.trans (congrArg (fnExactWorkingCounts_enterF Try.checked.prog).1 (fnExactWorkingCounts_toL (rfl : Try.checked.prog.initOrder = String.ofList _)))).trans (by kernel_rfl)
set_option maxRecDepth 100000 in
theorem fnExactWorkingCounts_lifts : Try.checked.prog.liftsFinal = false :=
  ((fnExactWorkingCounts_liftsF Try.checked.prog).2.trans (congrArg (fnExactWorkingCounts_liftsF Try.checked.prog).1 (fnExactWorkingCounts_toL (rfl : Try.checked.prog.initOrder = String.ofList _)))).trans (by kernel_rfl)
set_option maxRecDepth 100000 in
theorem fnExactWorkingCounts_make : Try.checked.prog.make = some .cut :=
  ((fnExactWorkingCounts_makeF Try.checked.prog).2.trans (congrArg (fnExactWorkingCounts_makeF Try.checked.prog).1 (fnExactWorkingCounts_toL (rfl : Try.checked.prog.initOrder = String.ofList _)))).trans (by kernel_rfl)
set_option maxRecDepth 100000 in
theorem fnExactWorkingCounts_closed : joinedFacts Try.checked.prog 12 Try.f12 Rows.fnExactWorkingCountsSpec Rows.fnExactWorkingCountsRow = true := by
  unfold joinedFacts
  rw [fnExactWorkingCounts_enter, fnExactWorkingCounts_lifts, fnExactWorkingCounts_make]
  decide +kernel

theorem fnExactWorkingCounts_over : Rows.fnExactWorkingCountsRow.holds Try.pinned (OpenSpec.ofChange Rows.fnExactWorkingCountsSpec) :=
  OpenClaim.holds_of_wide 12 Try.f12 rfl rfl rfl rfl rfl rfl rfl ⟨rfl, rfl, rfl, rfl, rfl⟩ rfl rfl rfl rfl rfl (by kernel_rfl) Try.func12 fnExactWorkingCounts_closed
    (of_decide_eq_true (by kernel_rfl)) (by unfold Func.isWrapper; first | (rw [if_pos (by decide +kernel)]; kernel_rfl) | (rw [if_neg (by decide +kernel)]; exact ⟨rfl, rfl⟩))
    (fun os started H enc _ => fnExactWorkingCounts_lifted os started H enc)

/-- The statement. -/
theorem fnExactWorkingCounts_holds : Rows.FnExactWorkingCountsSaid := fnExactWorkingCounts_over

end Go.Proofs.Ytifhmkkgmchcmaa
