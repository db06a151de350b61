
/- FnExactWorksWith returns true for every input and changes nothing that was there. No condition. -/
import Derived.Test.YtifhmkkgmchcmaaRows
import Derived.Test.YtifhmkkgmchcmaaYf
import Derived.Test.YtifhmkkgmchcmaaYg
namespace Go.Proofs.Ytifhmkkgmchcmaa
open Go Go.RowKit Go.ChangeShapes Go.WideShapes Go.ChangeAt

attribute [local irreducible] LX

set_option maxRecDepth 100000 in
set_option maxHeartbeats 8000000 in
theorem FnExactWorksWith_law (p0 : Int) (v0 : Value) (zs0 : List Int) (n1 : Int) (x y : Bool) (w : World) (r0 : RdI w v0 zs0)
    (hs : zs0.length ≤ 1048576 → ∀ (w : World) (v0 : Value), RdI w v0 zs0 → Calls Try.prog 22 #[.agg #[.int .i64 p0, v0], .int .i64 n1] w (fun e w' => e = .returned (.tuple #[.bool x, .bool y]) ∧ Ext w w'))
    (hi : zs0.length ≤ 1048576 → ∀ (w : World) (v0 : Value), RdI w v0 zs0 → Calls Try.prog 23 #[.agg #[.int .i64 p0, v0], .int .i64 n1] w (fun e w' => e = .returned (.tuple #[.bool x, .bool y]) ∧ Ext w w'))
    :
    Calls Try.prog 4 #[.agg #[.int .i64 p0, v0], .int .i64 n1] w fun e w' => e = .returned (.bool true) ∧ Ext w w' := by
  have r0' := r0
  obtain ⟨-, a0, c0, rfl, pp0, qq0, -, -⟩ := r0
  have hm0 : zs0.length ≤ maxLen := by omega
  have hq0 : zs0.length ≤ 9223372036854775807 := by unfold maxLen at hm0; omega
  have HS0 := Lib.hid hs
  have HI0 := Lib.hid hi
  clear hs hi pp0 qq0
  go_enter Try.func4, Try.ntmps4
  go_wp2_with fail
  generalize hW : World.alloc w _ = W
  have X : Ext w W := hW ▸ Ext.alloc _ _
  have b0 : Bx W w.heap.size [.int .i64 p0, .slice a0 zs0.length c0] := hW ▸ Bx.new w _ _
  clear hW
  obtain ⟨k0, k1⟩ := b0.two
  try (go_wp2_with fail)
  refine (szSystem_any _ _ _ _ _ _ hm0 (by omega) (by omega)).mono ?_
  rintro e w1 ⟨rfl, hx⟩
  clear k0 k1
  replace X := Ext.trans X hx
  replace b0 := b0.ext hx
  clear hx
  by_cases hz0 : (1048576 : Int) - zs0.length < 0
  · rw [if_pos hz0]
    go_wp2_with fail
    go_ret
    exact ⟨rfl, X⟩
  rw [if_neg hz0]
  have hzz0 : zs0.length ≤ 1048576 := by omega
  have HS := Lib.hid (HS0.out hzz0)
  have HI := Lib.hid (HI0.out hzz0)
  clear HS0 HI0
  obtain ⟨k0, k1⟩ := b0.two
  go_wp2_with fail
  refine (toSystem_any p0 a0 c0 _ zs0 _ (r0'.ext X) hzz0).mono ?_
  rintro e w2 ⟨q0, rfl, hx, R0⟩
  clear k0 k1
  replace X := Ext.trans X hx
  replace b0 := b0.ext hx
  clear hx
  go_wp2_with fail
  refine (HS.out _ _ R0).mono ?_
  rintro e w3 ⟨rfl, hx⟩
  clear R0
  replace X := Ext.trans X hx
  replace b0 := b0.ext hx
  clear hx
  have Y : Ext w3 w3 := Ext.refl _
  have B0 := Lib.hid (fun W (x : Ext w3 W) => b0.ext x)
  clear b0
  obtain ⟨k0, k1⟩ := (B0.out _ Y).two
  try (go_wp2_with fail)
  refine (toSystem_own p0 a0 c0 _ zs0 _ (r0'.ext (X.trans Y)) hzz0).mono ?_
  rintro e w4 ⟨g0, rfl, hx, own0⟩
  clear k0 k1
  replace hx : Ext _ w4 := hx
  have hg0 := own0.lt g0 rfl
  have hB0 : w3.heap.size ≤ g0 := Nat.le_trans Y.size hg0.1
  have hs0 := hg0.2
  replace own0 := World.ownsRow.mono own0 Y.size
  clear hg0
  replace Y := Ext.trans Y hx
  clear hx
  go_wp2_with fail
  have bx0 : Bx (w4.alloc (.cells #[.int .i64 p0, .slice (some ⟨g0, 0, none⟩) zs0.length zs0.length] 27)) w4.heap.size [.int .i64 p0, .slice (some ⟨g0, 0, none⟩) zs0.length zs0.length] := Bx.new _ _ _
  have hbx0 : g0 < w4.heap.size := hs0
  have hbB0 : w3.heap.size ≤ w4.heap.size := Y.size
  generalize hW : World.alloc w4 _ = WW0 at bx0
  have hx : Ext w4 WW0 := hW ▸ Ext.alloc _ _
  clear hW
  replace Y := Ext.trans Y hx
  replace own0 := own_ext' own0 hx
  replace hs0 := Nat.lt_of_lt_of_le hs0 hx.size
  clear hx
  generalize w4.heap.size = BB0 at *
  obtain ⟨kk0, kl0⟩ := bx0.two
  try (go_wp2_with fail)
  refine (HI.out _ _ (own_rd own0)).mono ?_
  rintro e w5 ⟨rfl, hx⟩
  clear kk0 kl0
  replace Y := Ext.trans Y hx
  replace own0 := own_ext' own0 hx
  replace hs0 := Nat.lt_of_lt_of_le hs0 hx.size
  replace bx0 := bx0.ext hx
  clear hx
  go_wp2_with fail
  refine wp_region_rel 5 (fun i v => match i with | 2 => SysV p0 zs0 v | _ => v = .bool true)
    (fun i v w => match i with | 2 => SysW p0 zs0 v w | _ => True) (by kernel_rfl) (by kernel_rfl) (by kernel_rfl) ?_
  dsimp only [List.take, List.drop, List.length]
  refine LX_det (.agg #[.int .i64 p0, .slice (some ⟨g0, 0, none⟩) zs0.length zs0.length]) (by kernel_rfl) rfl (fun w' hx _ => ?_) ?_
  · obtain ⟨k1, k2⟩ := (bx0.ext hx).two
    go_simp
  refine LX_det (.agg #[.int .i64 p0, .slice a0 zs0.length c0]) (by kernel_rfl) rfl (fun w' hx _ => ?_) ?_
  · obtain ⟨k1, k2⟩ := (B0.out _ (Y.trans hx)).two
    go_simp
  refine LX_call (by kernel_rfl) rfl (SysW.st p0 zs0) (fun w' hx _ => ?_) ?_
  · go_simp
    refine UponC.enter ((toSystem_any p0 a0 c0 _ zs0 _ (r0'.ext (X.trans (Y.trans hx))) hzz0).mono ?_)
    rintro e w'' ⟨g, rfl, hx', hr⟩
    exact ⟨_, rfl, hx', ⟨g, rfl⟩, g, rfl, hr⟩
  rintro _ ⟨gg, rfl⟩
  refine LX_call (by kernel_rfl) rfl (fun _ => St.top) (fun w' hx hg => ?_) ?_
  · have h1 := SysW.rd (show SysW p0 zs0 _ w' from (hg 41 (by decide)).2 rfl)
    clear hg
    go_simp
    refine UponC.enter ((eqSys_eq p0 (own_rd (own_ext' own0 hx)) h1).mono ?_)
    rintro e w'' ⟨rfl, hx'⟩
    exact ⟨_, rfl, hx', rfl, trivial⟩
  rintro _ rfl
  refine LX_det (.bool false) (by kernel_rfl) rfl (fun w' hx _ => ?_) ?_
  · go_simp
  refine LX_nil fun w6 hx hg => ?_
  clear hg
  replace Y := Ext.trans Y hx
  replace own0 := own_ext' own0 hx
  replace hs0 := Nat.lt_of_lt_of_le hs0 hx.size
  replace bx0 := bx0.ext hx
  clear hx
  refine wpList_nil ?_
  simp only [Act.put, List.setIfInBounds_toArray, List.set_cons_succ, List.set_cons_zero]
  go_wp2_with fail
  go_ret
  exact ⟨rfl, X.trans Y⟩


theorem worksWith_walk (v1 v2 : Value) (w : World) (h1 : ArgSys w v1) (h2 : ArgInt w v2) :
    Calls Try.prog 4 #[v1, v2] w fun e w' => e = .returned (.bool true) ∧ Ext w w' := by
  obtain ⟨p, a, l, c, zs, rfl, _, r1, _⟩ := h1
  obtain ⟨n, rfl, _⟩ := h2
  exact FnExactWorksWith_law p _ zs n _ _ w r1 (fun _ w v r => specWorksWith_any p n v zs w r) (fun _ w v r => implWorksWith_any p n v zs w r)

theorem fnExactWorksWith_own : ownKnob Try.prog.godebug = none := by kernel_rfl
theorem fnExactWorksWith_laid : laidOutB Try.prog = true := by kernel_rfl

set_option maxRecDepth 100000 in
theorem fnExactWorksWith_lifted (os : Os) (started : os.Started) (H : Type) (enc : TypeId × Value → H) :
    ReturnsInHanded {} Try.checked os 4 .any (Rows.fnExactWorksWithSpec.pre6 enc Try.prog Try.f4 Rows.fnExactWorksWithRow.domain false) (Rows.fnExactWorksWithSpec.post enc Try.prog Try.f4 false true false false) := by
  refine returnsInHanded_of_change (C := Try.checked) fnExactWorksWith_own started (by kernel_rfl) Try.func4
    (ChangeSpec.witness6 (enc := enc) (C := Try.checked) false ⟨#[], #[.agg #[.int .i64 0, .slice none 0 0], .int .i64 0], []⟩ 8 (by kernel_rfl) (by kernel_rfl) (by kernel_rfl) (by kernel_rfl)) ?_
  intro W base args ds gs before hval0 hW hcnd _
  have hval : ∀ (j : Nat) t v, Try.f4.params[j]? = some t → args[j]? = some v → Value.okWide Try.prog W .any base t v := hval0
  have hW' := hW
  obtain ⟨p, q, hA0, hV, rfl, hfz, hnd⟩ := hW
  have hA : DataW.TrodAll enc Try.prog W 0 (fun _ => true) true Try.f4.params.toList args.toList ds p := hA0
  rw [Try.params4] at hA hval
  obtain ⟨v0, vs0, d0, ds0, p0, q0, hargs, rfl, rfl, h0, r0⟩ := trodAll_cons hA
  obtain ⟨v1, vs1, d1, ds1, p1, q1, rfl, rfl, rfl, h1, r1⟩ := trodAll_cons r0
  obtain ⟨rfl, rfl, rfl⟩ := trodAll_nil r1
  obtain rfl : args = #[v0, v1] := by cases args; simp_all
  obtain ⟨rfl, rfl⟩ := trodVars_none hV
  have lt0 : ∀ x ∈ p0, x.block < W.heap.size := by obtain ⟨m, hm⟩ := h0; exact DataW.trod_lt m _ _ _ hm
  have w0 := argSys Try.underlying24 (by kernel_rfl) (by kernel_rfl) Try.underlying2 Try.underlying22 Try.underlying2 (by kernel_rfl) (hval 0 24 v0 rfl rfl) h0
  have lt1 : ∀ x ∈ p1, x.block < W.heap.size := by obtain ⟨m, hm⟩ := h1; exact DataW.trod_lt m _ _ _ hm
  have w1 := argInt Try.underlying2 (hval 1 2 v1 rfl rfl) h1
  clear hA0 hval0
  refine (worksWith_walk v0 v1 W w0 w1).mono fun e W' ⟨he, bel⟩ => ?_
  subst he
  exact ⟨_, rfl, _, _, _, [], _, [], hW', trodAll_mk1 (shut_bool Try.underlying4 _), (trodAll_cons_mk (Below.trod fnExactWorksWith_laid (by kernel_rfl) (of_decide_eq_true (by kernel_rfl)) h0 bel lt0) (trodAll_cons_mk (Below.trod fnExactWorksWith_laid (by kernel_rfl) (of_decide_eq_true (by kernel_rfl)) h1 bel lt1) trodAll_mk0)), rfl, bel.below.frame _, fun h => by cases h⟩

theorem fnExactWorksWith_toL {s : String} {L : List Char} (h : s = String.ofList L) : s.toList = L := by rw [h]; exact String.toList_ofList
def fnExactWorksWith_enterF (P : Program) : { F : List Char → Bool // P.mayEnter = F P.initOrder.toList } :=
  ⟨_, by unfold Program.mayEnter; generalize P.initOrder.toList = l; exact rfl⟩
def fnExactWorksWith_liftsF (P : Program) : { F : List Char → Bool // P.liftsFinal = F P.initOrder.toList } :=
  ⟨_, by unfold Program.liftsFinal Program.headLifts; generalize P.initOrder.toList = l; exact rfl⟩
def fnExactWorksWith_makeF (P : Program) : { F : List Char → Option Make // P.make = F P.initOrder.toList } :=
  ⟨_, by unfold Program.make; generalize P.initOrder.toList = l; exact rfl⟩
set_option maxRecDepth 100000 in
theorem fnExactWorksWith_enter : Try.checked.prog.mayEnter = true :=
  ((fnExactWorksWith_enterF Try.checked.prog).2.trans (congrArg (fnExactWorksWith_enterF Try.checked.prog).1 (fnExactWorksWith_toL (rfl : Try.checked.prog.initOrder = String.ofList _)))).trans (by kernel_rfl)
set_option maxRecDepth 100000 in
theorem fnExactWorksWith_lifts : Try.checked.prog.liftsFinal = false :=
  ((fnExactWorksWith_liftsF Try.checked.prog).2.trans (congrArg (fnExactWorksWith_liftsF Try.checked.prog).1 (fnExactWorksWith_toL (rfl : Try.checked.prog.initOrder = String.ofList _)))).trans (by kernel_rfl)
set_option maxRecDepth 100000 in
theorem fnExactWorksWith_make : Try.checked.prog.make = some .cut :=
  ((fnExactWorksWith_makeF Try.checked.prog).2.trans (congrArg (fnExactWorksWith_makeF Try.checked.prog).1 (fnExactWorksWith_toL (rfl : Try.checked.prog.initOrder = String.ofList _)))).trans (by kernel_rfl)
set_option maxRecDepth 100000 in
theorem fnExactWorksWith_closed : joinedFacts Try.checked.prog 4 Try.f4 Rows.fnExactWorksWithSpec Rows.fnExactWorksWithRow = true := by
  unfold joinedFacts
  rw [fnExactWorksWith_enter, fnExactWorksWith_lifts, fnExactWorksWith_make]
  decide +kernel

theorem fnExactWorksWith_over : Rows.fnExactWorksWithRow.holds Try.pinned (OpenSpec.ofChange Rows.fnExactWorksWithSpec) :=
  OpenClaim.holds_of_wide 4 Try.f4 rfl rfl rfl rfl rfl rfl rfl ⟨rfl, rfl, rfl, rfl, rfl⟩ rfl rfl rfl rfl rfl (by kernel_rfl) Try.func4 fnExactWorksWith_closed
    (of_decide_eq_true (by kernel_rfl)) (by unfold Func.isWrapper; first | (rw [if_pos (by decide +kernel)]; kernel_rfl) | (rw [if_neg (by decide +kernel)]; exact ⟨rfl, rfl⟩))
    (fun os started H enc _ => fnExactWorksWith_lifted os started H enc)

/-- The statement. -/
theorem fnExactWorksWith_holds : Rows.FnExactWorksWithSaid := fnExactWorksWith_over

end Go.Proofs.Ytifhmkkgmchcmaa
