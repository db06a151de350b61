
/- FnExactSystemOf returns true for every input and changes nothing that was there. No condition. -/
import Derived.Test.YtifhmkkgmchcmaaRows
import Derived.Test.YtifhmkkgmchcmaaYl
namespace Go.Proofs.Ytifhmkkgmchcmaa
open Go Go.RowKit Go.ChangeShapes Go.WideShapes Go.ChangeAt

attribute [local irreducible] LX

set_option maxRecDepth 100000 in
set_option maxHeartbeats 8000000 in
theorem FnExactSystemOf_law (n0 : Int) (v1 : Value) (zs1 : List Int) (o : Option (Int × List Int)) (w : World) (r1 : RdI w v1 zs1)
    (hs : zs1.length ≤ 1048576 → ∀ (w : World) (v1 : Value), RdI w v1 zs1 → Calls Try.prog 24 #[.int .i64 n0, v1] w (YsPost o w))
    (hi : zs1.length ≤ 1048576 → ∀ (w : World) (v1 : Value), RdI w v1 zs1 → Calls Try.prog 26 #[.int .i64 n0, v1] w (YsPost o w))
    (hlen : (o.getD (0, [])).2.length ≤ 1048576) :
    Calls Try.prog 5 #[.int .i64 n0, v1] w fun e w' => e = .returned (.bool true) ∧ Ext w w' := by
  have r1' := r1
  obtain ⟨-, a1, c1, rfl, pp1, qq1, -, -⟩ := r1
  have hm1 : zs1.length ≤ maxLen := by omega
  have hq1 : zs1.length ≤ 9223372036854775807 := by unfold maxLen at hm1; omega
  have HS0 := Lib.hid hs
  have HI0 := Lib.hid hi
  clear hs hi pp1 qq1
  by_cases hz1 : ¬ zs1.length ≤ 1048576
  · go_enter Try.func5, Try.ntmps5
    go_wp2_with fail
    go_ret
    exact ⟨rfl, Ext.refl _⟩
  replace hz1 : zs1.length ≤ 1048576 := Decidable.not_not.1 hz1
  go_enter Try.func5, Try.ntmps5
  go_wp2_with fail
  have X : Ext w w := Ext.refl _
  have HS := Lib.hid (HS0.out hz1)
  have HI := Lib.hid (HI0.out hz1)
  clear HS0 HI0
  go_wp2_with fail
  refine (toInt64S_rd _ zs1 _ (r1'.ext X) hz1).mono ?_
  rintro e w1 ⟨q1, rfl, hx, R1⟩
  replace X := Ext.trans X hx
  clear hx
  go_wp2_with fail
  refine (HS.out _ _ R1).mono ?_
  intro e w2 h4
  obtain ⟨vs, rfl, os, hx⟩ := ysPost_own h4
  clear h4 R1
  replace X := Ext.trans X hx
  clear hx
  generalize hP : (o.getD (0, [])).1 = P0 at *
  generalize hZ : (o.getD (0, [])).2 = zz at *
  obtain ⟨av, nv, cv, rfl⟩ := os.shape
  go_wp2_with fail
  have bw : Bx (w2.alloc (.cells #[.int .i64 P0, .slice av nv cv] 27)) w2.heap.size [.int .i64 P0, .slice av nv cv] := Bx.new _ _ _
  generalize hW : World.alloc w2 _ = WB at bw
  have hx : Ext w2 WB := hW ▸ Ext.alloc _ _
  clear hW
  replace X := Ext.trans X hx
  replace os := os.ext hx
  clear hx
  have Y : Ext WB WB := Ext.refl _
  have BW := Lib.hid (fun W (x : Ext WB W) => bw.ext x)
  clear bw
  try (go_wp2_with fail)
  refine (toInt64S_any _ zs1.length (zs1.map (Value.int .i64)) _ (r1'.ext (X.trans Y)) (by intro x hx; obtain ⟨z, _, rfl⟩ := List.mem_map.1 hx; exact ⟨z, rfl⟩) hz1).mono ?_
  rintro e w3 ⟨g1, rfl, hx, own1⟩
  replace hx : Ext _ w3 := hx
  have hg1 := own1.lt g1 rfl
  have hB1 : WB.heap.size ≤ g1 := Nat.le_trans Y.size hg1.1
  have hs1 := hg1.2
  replace own1 := World.ownsRow.mono own1 Y.size
  clear hg1
  replace Y := Ext.trans Y hx
  clear hx
  try (go_wp2_with fail)
  refine (HI.out _ _ (own_rd own1)).mono ?_
  intro e w4 h7
  obtain ⟨vi, rfl, oi, hx⟩ := ysPost_own h7
  clear h7
  rw [hZ] at oi
  rw [hP]
  have hB6 := Y.size
  have hz7 := hx.size
  have hlt1 := hs1
  clear hs1
  replace Y := Ext.trans Y hx
  replace own1 := own_ext' own1 hx
  clear hx
  obtain ⟨ai, ni, ci, rfl⟩ := oi.shape
  obtain ⟨kw0, kw1⟩ := (BW.out _ Y).two
  have zw := (BW.out _ Y).1
  go_wp2_with fail
  have bg : Bx (w4.alloc (.cells #[.int .i64 P0, .slice ai ni ci] 27)) w4.heap.size [.int .i64 P0, .slice ai ni ci] := Bx.new _ _ _
  have hTg : w4.heap.size ≤ w4.heap.size := Nat.le_refl _
  have hgb1 : g1 < w4.heap.size := Nat.lt_of_lt_of_le hlt1 hz7
  generalize hW : World.alloc w4 _ = WG at bg
  have hx : Ext w4 WG := hW ▸ Ext.alloc _ _
  clear hW kw0 kw1 zw
  replace Y := Ext.trans Y hx
  replace own1 := own_ext' own1 hx
  replace oi := oi.ext hx
  replace hz7 := Nat.le_trans hz7 hx.size
  clear hx
  obtain ⟨kw0, kw1⟩ := (BW.out _ Y).two
  obtain ⟨kg0, kg1⟩ := bg.two
  try (go_wp2_with fail)
  clear kw0 kw1 kg0 kg1
  refine (eqSys_eq P0 oi.rd (os.ext Y).rd).mono ?_
  rintro e w5 ⟨rfl, hx⟩
  replace Y := Ext.trans Y hx
  replace own1 := own_ext' own1 hx
  replace oi := oi.ext hx
  replace hz7 := Nat.le_trans hz7 hx.size
  replace bg := bg.ext hx
  clear hx
  go_wp2_with fail
  refine (toInt64S_rd _ zs1 _ (r1'.ext (X.trans Y)) hz1).mono ?_
  rintro e w6 ⟨gq, rfl, hx, RQ⟩
  replace Y := Ext.trans Y hx
  replace own1 := own_ext' own1 hx
  replace oi := oi.ext hx
  replace hz7 := Nat.le_trans hz7 hx.size
  replace bg := bg.ext hx
  clear hx
  go_wp2_with fail
  refine (eqI_eq (own_rd own1) RQ).mono ?_
  rintro e w7 ⟨rfl, hx⟩
  clear RQ
  replace Y := Ext.trans Y hx
  replace own1 := own_ext' own1 hx
  replace oi := oi.ext hx
  replace hz7 := Nat.le_trans hz7 hx.size
  replace bg := bg.ext hx
  clear hx
  go_wp2_with fail
  refine (markI_h (1) g1 zs1.length zs1.length _ zs1 _ own1 (by omega) (by omega) hz1).mono ?_
  rintro e w8 ⟨rfl, G, -⟩
  clear own1
  replace oi := oi.grown G hlt1
  replace bg := bg.grown G (by omega)
  replace Y := Below.trans Y (grown_ext G hB1 Y.size)
  replace hz7 := Nat.le_trans hz7 G.size
  clear G
  have hpos : ¬ (1 + (zs1.length : Int)) < 0 := by omega
  obtain ⟨kw0, kw1⟩ := (BW.out _ Y).two
  obtain ⟨kg0, kg1⟩ := bg.two
  go_wp2_with fail
  clear kw0 kw1 kg0 kg1
  refine (eqSys_eq P0 oi.rd (os.ext Y).rd).mono ?_
  rintro e w9 ⟨rfl, hx⟩
  replace Y := Ext.trans Y hx
  replace oi := oi.ext hx
  replace hz7 := Nat.le_trans hz7 hx.size
  replace bg := bg.ext hx
  clear hx
  obtain ⟨kg0, kg1⟩ := bg.two
  go_wp2_with fail
  refine (markSys_own P0 1 _ _ _ _ _ oi hz7 (by decide) (by decide) hlen).mono ?_
  rintro e w10 ⟨rfl, G10, KF, RM⟩
  clear kg0 kg1
  replace bg := bg.kept G10.size KF hTg
  replace Y := Below.trans Y (G10.mono hB6)
  clear G10 oi KF
  obtain ⟨kg0, kg1⟩ := bg.two
  go_wp2_with fail
  refine (heldSys_own P0 1 _ _ zz.length _ _ RM (by decide) (by decide) hlen).mono ?_
  rintro e w11 ⟨rfl, hx⟩
  clear kg0 kg1
  replace Y := Ext.trans Y hx
  replace RM := RM.ext hx
  replace bg := bg.ext hx
  clear hx
  go_wp2_with fail
  refine (toInt64S_rd _ zs1 _ (r1'.ext (X.trans Y)) hz1).mono ?_
  rintro e w12 ⟨gr1, rfl, hx, R1⟩
  replace Y := Ext.trans Y hx
  replace RM := RM.ext hx
  replace bg := bg.ext hx
  clear hx
  go_wp2_with fail
  refine (HI.out _ _ R1).mono ?_
  intro e w13 h18
  obtain ⟨vh, rfl, oh, hx⟩ := ysPost_own h18
  rw [hZ] at oh
  rw [hP]
  clear h18 R1
  replace Y := Ext.trans Y hx
  replace RM := RM.ext hx
  replace bg := bg.ext hx
  clear hx
  obtain ⟨ah, nh, ch, rfl⟩ := oh.shape
  obtain ⟨kw0, kw1⟩ := (BW.out _ Y).two
  have zw := (BW.out _ Y).1
  go_wp2_with fail
  have bh : Bx (w13.alloc (.cells #[.int .i64 P0, .slice ah nh ch] 27)) w13.heap.size [.int .i64 P0, .slice ah nh ch] := Bx.new _ _ _
  generalize hW : World.alloc w13 _ = WH at bh
  have hx : Ext w13 WH := hW ▸ Ext.alloc _ _
  clear hW kw0 kw1 zw
  replace Y := Ext.trans Y hx
  replace RM := RM.ext hx
  replace bg := bg.ext hx
  replace oh := oh.ext hx
  clear hx
  obtain ⟨kw0, kw1⟩ := (BW.out _ Y).two
  obtain ⟨kg0, kg1⟩ := bh.two
  try (go_wp2_with fail)
  clear kw0 kw1 kg0 kg1
  refine (eqSys_eq P0 oh.rd (os.ext Y).rd).mono ?_
  rintro e w14 ⟨rfl, hx⟩
  replace Y := Ext.trans Y hx
  replace RM := RM.ext hx
  replace bg := bg.ext hx
  replace oh := oh.ext hx
  clear hx
  obtain ⟨kg0, kg1⟩ := bg.two
  go_wp2_with fail
  refine (heldSys_own P0 1 _ _ zz.length _ _ RM (by decide) (by decide) hlen).mono ?_
  rintro e w15 ⟨rfl, hx⟩
  clear kg0 kg1
  replace Y := Ext.trans Y hx
  replace RM := RM.ext hx
  replace bg := bg.ext hx
  replace oh := oh.ext hx
  clear hx
  go_wp2_with fail
  go_ret
  exact ⟨rfl, X.trans Y⟩


theorem systemOf_walk (v1 v2 : Value) (w : World) (h1 : ArgInt w v1) (h2 : ArgInts w v2) :
    Calls Try.prog 5 #[v1, v2] w fun e w' => e = .returned (.bool true) ∧ Ext w w' := by
  obtain ⟨n, rfl, _⟩ := h1
  obtain ⟨a, l, c, zs, rfl, r, _⟩ := h2
  refine FnExactSystemOf_law n _ zs (sysOfO n zs) w r (fun _ w v r => specSystemOf_any n v zs w r) (fun _ w v r => implSystemOf_any n v zs w r) ?_
  unfold sysOfO
  split
  · exact sysO_len _ _
  · simp

theorem fnExactSystemOf_own : ownKnob Try.prog.godebug = none := by kernel_rfl
theorem fnExactSystemOf_laid : laidOutB Try.prog = true := by kernel_rfl

set_option maxRecDepth 100000 in
theorem fnExactSystemOf_lifted (os : Os) (started : os.Started) (H : Type) (enc : TypeId × Value → H) :
    ReturnsInHanded {} Try.checked os 5 .any (Rows.fnExactSystemOfSpec.pre6 enc Try.prog Try.f5 Rows.fnExactSystemOfRow.domain false) (Rows.fnExactSystemOfSpec.post enc Try.prog Try.f5 false true false false) := by
  refine returnsInHanded_of_change (C := Try.checked) fnExactSystemOf_own started (by kernel_rfl) Try.func5
    (ChangeSpec.witness6 (enc := enc) (C := Try.checked) false ⟨#[], #[.int .i64 0, .slice none 0 0], []⟩ 8 (by kernel_rfl) (by kernel_rfl) (by kernel_rfl) (by kernel_rfl)) ?_
  intro W base args ds gs before hval0 hW hcnd _
  have hval : ∀ (j : Nat) t v, Try.f5.params[j]? = some t → args[j]? = some v → Value.okWide Try.prog W .any base t v := hval0
  have hW' := hW
  obtain ⟨p, q, hA0, hV, rfl, hfz, hnd⟩ := hW
  have hA : DataW.TrodAll enc Try.prog W 0 (fun _ => true) true Try.f5.params.toList args.toList ds p := hA0
  rw [Try.params5] at hA hval
  obtain ⟨v0, vs0, d0, ds0, p0, q0, hargs, rfl, rfl, h0, r0⟩ := trodAll_cons hA
  obtain ⟨v1, vs1, d1, ds1, p1, q1, rfl, rfl, rfl, h1, r1⟩ := trodAll_cons r0
  obtain ⟨rfl, rfl, rfl⟩ := trodAll_nil r1
  obtain rfl : args = #[v0, v1] := by cases args; simp_all
  obtain ⟨rfl, rfl⟩ := trodVars_none hV
  have lt0 : ∀ x ∈ p0, x.block < W.heap.size := by obtain ⟨m, hm⟩ := h0; exact DataW.trod_lt m _ _ _ hm
  have w0 := argInt Try.underlying2 (hval 0 2 v0 rfl rfl) h0
  have lt1 : ∀ x ∈ p1, x.block < W.heap.size := by obtain ⟨m, hm⟩ := h1; exact DataW.trod_lt m _ _ _ hm
  have w1 := argInts Try.underlying22 Try.underlying2 (by kernel_rfl) (hval 1 22 v1 rfl rfl) h1
  clear hA0 hval0
  refine (systemOf_walk v0 v1 W w0 w1).mono fun e W' ⟨he, bel⟩ => ?_
  subst he
  exact ⟨_, rfl, _, _, _, [], _, [], hW', trodAll_mk1 (shut_bool Try.underlying4 _), (trodAll_cons_mk (Below.trod fnExactSystemOf_laid (by kernel_rfl) (of_decide_eq_true (by kernel_rfl)) h0 bel lt0) (trodAll_cons_mk (Below.trod fnExactSystemOf_laid (by kernel_rfl) (of_decide_eq_true (by kernel_rfl)) h1 bel lt1) trodAll_mk0)), rfl, bel.below.frame _, fun h => by cases h⟩

theorem fnExactSystemOf_toL {s : String} {L : List Char} (h : s = String.ofList L) : s.toList = L := by rw [h]; exact String.toList_ofList
def fnExactSystemOf_enterF (P : Program) : { F : List Char → Bool // P.mayEnter = F P.initOrder.toList } :=
  ⟨_, by unfold Program.mayEnter; generalize P.initOrder.toList = l; exact rfl⟩
def fnExactSystemOf_liftsF (P : Program) : { F : List Char → Bool // P.liftsFinal = F P.initOrder.toList } :=
  ⟨_, by unfold Program.liftsFinal Program.headLifts; generalize P.initOrder.toList = l; exact rfl⟩
def fnExactSystemOf_makeF (P : Program) : { F : List Char → Option Make // P.make = F P.initOrder.toList } :=
  ⟨_, by unfold Program.make; generalize P.initOrder.toList = l; exact rfl⟩
set_option maxRecDepth 100000 in
theorem fnExactSystemOf_enter : Try.checked.prog.mayEnter = true :=
  ((fnExactSystemOf_enterF Try.checked.prog).2.trans (congrArg (fnExactSystemOf_enterF Try.checked.prog).1 (fnExactSystemOf_toL (rfl : Try.checked.prog.initOrder = String.ofList _)))).trans (by kernel_rfl)
set_option maxRecDepth 100000 in
theorem fnExactSystemOf_lifts : Try.checked.prog.liftsFinal = false :=
  ((fnExactSystemOf_liftsF Try.checked.prog).2.trans (congrArg (fnExactSystemOf_liftsF Try.checked.prog).1 (fnExactSystemOf_toL (rfl : Try.checked.prog.initOrder = String.ofList _)))).trans (by kernel_rfl)
set_option maxRecDepth 100000 in
theorem fnExactSystemOf_make : Try.checked.prog.make = some .cut :=
  ((fnExactSystemOf_makeF Try.checked.prog).2.trans (congrArg (fnExactSystemOf_makeF Try.checked.prog).1 (fnExactSystemOf_toL (rfl : Try.checked.prog.initOrder = String.ofList _)))).trans (by kernel_rfl)
set_option maxRecDepth 100000 in
theorem fnExactSystemOf_closed : joinedFacts Try.checked.prog 5 Try.f5 Rows.fnExactSystemOfSpec Rows.fnExactSystemOfRow = true := by
  unfold joinedFacts
  rw [fnExactSystemOf_enter, fnExactSystemOf_lifts, fnExactSystemOf_make]
  decide +kernel

theorem fnExactSystemOf_over : Rows.fnExactSystemOfRow.holds Try.pinned (OpenSpec.ofChange Rows.fnExactSystemOfSpec) :=
  OpenClaim.holds_of_wide 5 Try.f5 rfl rfl rfl rfl rfl rfl rfl ⟨rfl, rfl, rfl, rfl, rfl⟩ rfl rfl rfl rfl rfl (by kernel_rfl) Try.func5 fnExactSystemOf_closed
    (of_decide_eq_true (by kernel_rfl)) (by unfold Func.isWrapper; first | (rw [if_pos (by decide +kernel)]; kernel_rfl) | (rw [if_neg (by decide +kernel)]; exact ⟨rfl, rfl⟩))
    (fun os started H enc _ => fnExactSystemOf_lifted os started H enc)

/-- The statement. -/
theorem fnExactSystemOf_holds : Rows.FnExactSystemOfSaid := fnExactSystemOf_over

end Go.Proofs.Ytifhmkkgmchcmaa
