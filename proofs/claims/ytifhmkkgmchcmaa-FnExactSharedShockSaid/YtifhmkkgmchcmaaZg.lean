
/- FnExactSharedShock returns true for every input and changes nothing that was there. No condition. -/
import Derived.Test.YtifhmkkgmchcmaaRows
import Derived.Test.YtifhmkkgmchcmaaZf
namespace Go.Proofs.Ytifhmkkgmchcmaa
open Go Go.RowKit Go.ChangeShapes Go.WideShapes Go.ChangeAt

attribute [local irreducible] LX

set_option maxRecDepth 100000 in
set_option maxHeartbeats 8000000 in
theorem FnExactSharedShock_law (p0 : Int) (v0 : Value) (zs0 : List Int) (v1 : Value) (bs1 : List Nat) (n2 : Int) (b3 : Nat) (o : Option Nat) (w : World) (r0 : RdI w v0 zs0) (r1 : RdF w v1 bs1)
    (hs : zs0.length ≤ 1048576 → bs1.length ≤ 1048576 → ∀ (w : World) (v0 v1 : Value), RdI w v0 zs0 → RdF w v1 bs1 → Calls Try.prog 51 #[.agg #[.int .i64 p0, v0], v1, .int .i64 n2, .float .f32 b3] w (NmPost o w))
    (hi : zs0.length ≤ 1048576 → bs1.length ≤ 1048576 → ∀ (w : World) (v0 v1 : Value), RdI w v0 zs0 → RdF w v1 bs1 → Calls Try.prog 52 #[.agg #[.int .i64 p0, v0], v1, .int .i64 n2, .float .f32 b3] w (NmPost o w))
    :
    Calls Try.prog 14 #[.agg #[.int .i64 p0, v0], v1, .int .i64 n2, .float .f32 b3] w fun e w' => e = .returned (.bool true) ∧ Ext w w' := by
  have wa : (Try.prog.underlying 49).isSome = true := by kernel_rfl
  have r0' := r0
  obtain ⟨-, a0, c0, rfl, pp0, qq0, -, -⟩ := r0
  have hm0 : zs0.length ≤ maxLen := by omega
  have hq0 : zs0.length ≤ 9223372036854775807 := by unfold maxLen at hm0; omega
  have r1' := r1
  obtain ⟨⟨-, a1, c1, rfl, pp1, qq1, -, -⟩, -⟩ := r1
  have hm1 : bs1.length ≤ maxLen := by omega
  have hq1 : bs1.length ≤ 9223372036854775807 := by unfold maxLen at hm1; omega
  have HS0 := Lib.hid hs
  have HI0 := Lib.hid hi
  clear hs hi pp0 qq0 pp1 qq1
  by_cases hz1 : ¬ bs1.length ≤ 1048576
  · go_enter Try.func14, Try.ntmps14
    go_wp2_with fail
    go_ret
    exact ⟨rfl, Ext.alloc _ _⟩
  replace hz1 : bs1.length ≤ 1048576 := Decidable.not_not.1 hz1
  go_enter Try.func14, Try.ntmps14
  go_wp2_with fail
  generalize hW : World.alloc w _ = W
  have X : Ext w W := hW ▸ Ext.alloc _ _
  have b0 : Bx W w.heap.size [.int .i64 p0, .slice a0 zs0.length c0] := hW ▸ Bx.new w _ _
  clear hW
  obtain ⟨k0, k1⟩ := b0.two
  try (go_wp2_with fail)
  refine (szSystem_any _ _ _ _ _ _ hm0 (by omega) (by omega)).mono ?_
  rintro e w1 ⟨rfl, hx⟩
  clear k0 k1
  replace X := Ext.trans X hx
  replace b0 := b0.ext hx
  clear hx
  by_cases hz0 : (1048576 : Int) - zs0.length < 0
  · rw [if_pos hz0]
    go_wp2_with fail
    go_ret
    exact ⟨rfl, X⟩
  rw [if_neg hz0]
  have hzz0 : zs0.length ≤ 1048576 := by omega
  have HS := Lib.hid (HS0.out hzz0 hz1)
  have HI := Lib.hid (HI0.out hzz0 hz1)
  clear HS0 HI0
  obtain ⟨k0, k1⟩ := b0.two
  go_wp2_with fail
  refine (toSystem_any p0 a0 c0 _ zs0 _ (r0'.ext X) hzz0).mono ?_
  rintro e w2 ⟨q0, rfl, hx, R0⟩
  clear k0 k1
  replace X := Ext.trans X hx
  replace b0 := b0.ext hx
  clear hx
  go_wp2_with fail
  refine (toFloat32S_rd _ bs1 _ (r1'.ext X) hz1).mono ?_
  rintro e w3 ⟨q1, rfl, hx, R1⟩
  replace X := Ext.trans X hx
  replace b0 := b0.ext hx
  replace R0 := R0.ext hx
  clear hx
  go_wp2_with fail
  refine (HS.out _ _ _ R0 R1).mono ?_
  rintro e w4 ⟨hx, h2⟩
  obtain ⟨b, c, rfl, hb⟩ : ∃ b c, e = .returned (.tuple #[.float .f32 b, .bool c]) ∧ Hid (cn .f32 b = o.getD (cn .f32 0) ∧ c = o.isSome) := by
    cases o with
    | none => exact ⟨0, false, h2, rfl, rfl⟩
    | some x => obtain ⟨b, rfl, h, _⟩ := h2; exact ⟨b, true, rfl, h, rfl⟩
  clear h2 R0 R1
  replace X := Ext.trans X hx
  replace b0 := b0.ext hx
  clear hx
  have Y : Ext w4 w4 := Ext.refl _
  have B0 := Lib.hid (fun W (x : Ext w4 W) => b0.ext x)
  clear b0
  obtain ⟨k0, k1⟩ := (B0.out _ Y).two
  try (go_wp2_with fail)
  refine (toSystem_own p0 a0 c0 _ zs0 _ (r0'.ext (X.trans Y)) hzz0).mono ?_
  rintro e w5 ⟨g0, rfl, hx, own0⟩
  clear k0 k1
  replace hx : Ext _ w5 := hx
  have hg0 := own0.lt g0 rfl
  have hB0 : w4.heap.size ≤ g0 := Nat.le_trans Y.size hg0.1
  have hs0 := hg0.2
  replace own0 := World.ownsRow.mono own0 Y.size
  clear hg0
  replace Y := Ext.trans Y hx
  clear hx
  go_wp2_with fail
  have bx0 : Bx (w5.alloc (.cells #[.int .i64 p0, .slice (some ⟨g0, 0, none⟩) zs0.length zs0.length] 27)) w5.heap.size [.int .i64 p0, .slice (some ⟨g0, 0, none⟩) zs0.length zs0.length] := Bx.new _ _ _
  have hbx0 : g0 < w5.heap.size := hs0
  have hbB0 : w4.heap.size ≤ w5.heap.size := Y.size
  generalize hW : World.alloc w5 _ = WW0 at bx0
  have hx : Ext w5 WW0 := hW ▸ Ext.alloc _ _
  clear hW
  replace Y := Ext.trans Y hx
  replace own0 := own_ext' own0 hx
  replace hs0 := Nat.lt_of_lt_of_le hs0 hx.size
  clear hx
  generalize w5.heap.size = BB0 at *
  try (go_wp2_with fail)
  refine (toFloat32S_any _ bs1.length (bs1.map (Value.float .f32)) _ (r1'.ext (X.trans Y)).1 (by intro x hx; obtain ⟨z, _, rfl⟩ := List.mem_map.1 hx; exact ⟨z, rfl⟩) hz1).mono ?_
  rintro e w6 ⟨g1, rfl, hx, own1⟩
  replace hx : Ext _ w6 := hx
  have hg1 := own1.lt g1 rfl
  have hB1 : w4.heap.size ≤ g1 := Nat.le_trans Y.size hg1.1
  have hne0_1 : g0 < g1 := Nat.lt_of_lt_of_le hs0 hg1.1
  have hs1 := hg1.2
  replace own1 := World.ownsRow.mono own1 Y.size
  clear hg1
  replace Y := Ext.trans Y hx
  replace own0 := own_ext' own0 hx
  replace hs0 := Nat.lt_of_lt_of_le hs0 hx.size
  replace bx0 := bx0.ext hx
  clear hx
  obtain ⟨kk0, kl0⟩ := bx0.two
  try (go_wp2_with fail)
  refine (HI.out _ _ _ (own_rd own0) ⟨own_rd own1, r1'.2⟩).mono ?_
  rintro e w7 ⟨hx, h4⟩
  obtain ⟨b', c', rfl, hb'⟩ : ∃ b c, e = .returned (.tuple #[.float .f32 b, .bool c]) ∧ Hid (cn .f32 b = o.getD (cn .f32 0) ∧ c = o.isSome) := by
    cases o with
    | none => exact ⟨0, false, h4, rfl, rfl⟩
    | some x => obtain ⟨b, rfl, h, _⟩ := h4; exact ⟨b, true, rfl, h, rfl⟩
  clear h4
  clear kk0 kl0
  replace Y := Ext.trans Y hx
  replace own0 := own_ext' own0 hx
  replace hs0 := Nat.lt_of_lt_of_le hs0 hx.size
  replace bx0 := bx0.ext hx
  replace own1 := own_ext' own1 hx
  replace hs1 := Nat.lt_of_lt_of_le hs1 hx.size
  clear hx
  have hcc : c' = c := hb'.out.2.trans hb.out.2.symm
  subst hcc
  have Hbb : Hid (cn .f32 b' = cn .f32 b) := hb'.out.1.trans hb.out.1.symm
  clear hb hb'
  go_wp2_with (first | (refine wpList_wide wa Try.underlying54 rfl rfl rfl ?_; intro zb zn hzb hzl; clear hzl; first | (have hsame := Lib.hid (wide_same Hbb.out hza.out hzb); clear hzb) | (have hza := Lib.hid hzb; clear hzb)))
  refine (sameFloat_any _ _ _ hsame.out).mono ?_
  rintro e w8 ⟨rfl, hx⟩
  replace hx : Ext w7 w8 := (Ext.drewN _ _).trans hx
  replace Y := Ext.trans Y hx
  replace own0 := own_ext' own0 hx
  replace hs0 := Nat.lt_of_lt_of_le hs0 hx.size
  replace bx0 := bx0.ext hx
  replace own1 := own_ext' own1 hx
  replace hs1 := Nat.lt_of_lt_of_le hs1 hx.size
  clear hx
  go_wp2_with fail
  refine wp_region_rel 5 (fun i v => match i with | 2 => SysV p0 zs0 v | _ => v = .bool true)
    (fun i v w => match i with | 2 => SysW p0 zs0 v w | _ => True) (by kernel_rfl) (by kernel_rfl) (by kernel_rfl) ?_
  dsimp only [List.take, List.drop, List.length]
  refine LX_det (.agg #[.int .i64 p0, .slice (some ⟨g0, 0, none⟩) zs0.length zs0.length]) (by kernel_rfl) rfl (fun w' hx _ => ?_) ?_
  · obtain ⟨k1, k2⟩ := (bx0.ext hx).two
    go_simp
  refine LX_det (.agg #[.int .i64 p0, .slice a0 zs0.length c0]) (by kernel_rfl) rfl (fun w' hx _ => ?_) ?_
  · obtain ⟨k1, k2⟩ := (B0.out _ (Y.trans hx)).two
    go_simp
  refine LX_call (by kernel_rfl) rfl (SysW.st p0 zs0) (fun w' hx _ => ?_) ?_
  · go_simp
    refine UponC.enter ((toSystem_any p0 a0 c0 _ zs0 _ (r0'.ext (X.trans (Y.trans hx))) hzz0).mono ?_)
    rintro e w'' ⟨g, rfl, hx', hr⟩
    exact ⟨_, rfl, hx', ⟨g, rfl⟩, g, rfl, hr⟩
  rintro _ ⟨gg, rfl⟩
  refine LX_call (by kernel_rfl) rfl (fun _ => St.top) (fun w' hx hg => ?_) ?_
  · have h1 := SysW.rd (show SysW p0 zs0 _ w' from (hg 59 (by decide)).2 rfl)
    clear hg
    go_simp
    refine UponC.enter ((eqSys_eq p0 (own_rd (own_ext' own0 hx)) h1).mono ?_)
    rintro e w'' ⟨rfl, hx'⟩
    exact ⟨_, rfl, hx', rfl, trivial⟩
  rintro _ rfl
  refine LX_det (.bool false) (by kernel_rfl) rfl (fun w' hx _ => ?_) ?_
  · go_simp
  refine LX_nil fun w9 hx hg => ?_
  clear hg
  replace Y := Ext.trans Y hx
  replace own0 := own_ext' own0 hx
  replace hs0 := Nat.lt_of_lt_of_le hs0 hx.size
  replace bx0 := bx0.ext hx
  replace own1 := own_ext' own1 hx
  replace hs1 := Nat.lt_of_lt_of_le hs1 hx.size
  clear hx
  refine wpList_nil ?_
  simp only [Act.put, List.setIfInBounds_toArray, List.set_cons_succ, List.set_cons_zero]
  go_wp2_with fail
  refine (toFloat32S_rd _ bs1 _ (r1'.ext (X.trans Y)) hz1).mono ?_
  rintro e w10 ⟨gq, rfl, hx, RQ⟩
  replace Y := Ext.trans Y hx
  replace own0 := own_ext' own0 hx
  replace hs0 := Nat.lt_of_lt_of_le hs0 hx.size
  replace bx0 := bx0.ext hx
  replace own1 := own_ext' own1 hx
  replace hs1 := Nat.lt_of_lt_of_le hs1 hx.size
  clear hx
  go_wp2_with fail
  refine (eqFloat32S_any _ _ bs1 bs1 _ (⟨own_rd own1, r1'.2⟩) RQ rfl).mono ?_
  rintro e w11 ⟨rfl, hx⟩
  clear RQ
  replace Y := Ext.trans Y hx
  replace own0 := own_ext' own0 hx
  replace hs0 := Nat.lt_of_lt_of_le hs0 hx.size
  replace bx0 := bx0.ext hx
  replace own1 := own_ext' own1 hx
  replace hs1 := Nat.lt_of_lt_of_le hs1 hx.size
  clear hx
  go_wp2_with fail
  go_ret
  exact ⟨rfl, X.trans Y⟩


theorem sharedShock_walk (v1 v2 v3 v4 : Value) (w : World) (h1 : ArgSys w v1) (h2 : ArgFloats w v2) (h3 : ArgInt w v3) (h4 : ArgF32 w v4) :
    Calls Try.prog 14 #[v1, v2, v3, v4] w fun e w' => e = .returned (.bool true) ∧ Ext w w' := by
  obtain ⟨p, a, l, c, zs, rfl, _, r1, _⟩ := h1
  obtain ⟨a2, l2, c2, bs, rfl, r2⟩ := h2
  obtain ⟨t, rfl, _⟩ := h3
  obtain ⟨h, rfl, hh⟩ := h4
  exact FnExactSharedShock_law p _ zs _ bs t h (ssO p zs bs t (cn .f32 h)) w r1 r2 (fun _ _ w v u r rb => specSharedShock_any p t h v u zs bs w r rb) (fun _ _ w v u r rb => implSharedShock_any p t h v u zs bs w r rb)

theorem fnExactSharedShock_own : ownKnob Try.prog.godebug = none := by kernel_rfl
theorem fnExactSharedShock_laid : laidOutB Try.prog = true := by kernel_rfl

set_option maxRecDepth 100000 in
theorem fnExactSharedShock_lifted (os : Os) (started : os.Started) (H : Type) (enc : TypeId × Value → H) :
    ReturnsInHanded {} Try.checked os 14 .any (Rows.fnExactSharedShockSpec.pre6 enc Try.prog Try.f14 Rows.fnExactSharedShockRow.domain false) (Rows.fnExactSharedShockSpec.post enc Try.prog Try.f14 false true false false) := by
  refine returnsInHanded_of_change (C := Try.checked) fnExactSharedShock_own started (by kernel_rfl) Try.func14
    (ChangeSpec.witness6 (enc := enc) (C := Try.checked) false ⟨#[], #[.agg #[.int .i64 0, .slice none 0 0], .slice none 0 0, .int .i64 0, .float .f32 0], []⟩ 8 (by kernel_rfl) (by kernel_rfl) (by kernel_rfl) (by kernel_rfl)) ?_
  intro W base args ds gs before hval0 hW hcnd _
  have hval : ∀ (j : Nat) t v, Try.f14.params[j]? = some t → args[j]? = some v → Value.okWide Try.prog W .any base t v := hval0
  have hW' := hW
  obtain ⟨p, q, hA0, hV, rfl, hfz, hnd⟩ := hW
  have hA : DataW.TrodAll enc Try.prog W 0 (fun _ => true) true Try.f14.params.toList args.toList ds p := hA0
  rw [Try.params14] at hA hval
  obtain ⟨v0, vs0, d0, ds0, p0, q0, hargs, rfl, rfl, h0, r0⟩ := trodAll_cons hA
  obtain ⟨v1, vs1, d1, ds1, p1, q1, rfl, rfl, rfl, h1, r1⟩ := trodAll_cons r0
  obtain ⟨v2, vs2, d2, ds2, p2, q2, rfl, rfl, rfl, h2, r2⟩ := trodAll_cons r1
  obtain ⟨v3, vs3, d3, ds3, p3, q3, rfl, rfl, rfl, h3, r3⟩ := trodAll_cons r2
  obtain ⟨rfl, rfl, rfl⟩ := trodAll_nil r3
  obtain rfl : args = #[v0, v1, v2, v3] := by cases args; simp_all
  obtain ⟨rfl, rfl⟩ := trodVars_none hV
  have lt0 : ∀ x ∈ p0, x.block < W.heap.size := by obtain ⟨m, hm⟩ := h0; exact DataW.trod_lt m _ _ _ hm
  have w0 := argSys Try.underlying24 (by kernel_rfl) (by kernel_rfl) Try.underlying2 Try.underlying22 Try.underlying2 (by kernel_rfl) (hval 0 24 v0 rfl rfl) h0
  have lt1 : ∀ x ∈ p1, x.block < W.heap.size := by obtain ⟨m, hm⟩ := h1; exact DataW.trod_lt m _ _ _ hm
  have w1 := argFloats Try.underlying48 Try.underlying49 (by kernel_rfl) (hval 1 48 v1 rfl rfl) h1
  have lt2 : ∀ x ∈ p2, x.block < W.heap.size := by obtain ⟨m, hm⟩ := h2; exact DataW.trod_lt m _ _ _ hm
  have w2 := argInt Try.underlying2 (hval 2 2 v2 rfl rfl) h2
  have lt3 : ∀ x ∈ p3, x.block < W.heap.size := by obtain ⟨m, hm⟩ := h3; exact DataW.trod_lt m _ _ _ hm
  have w3 := argF32 Try.underlying49 (hval 3 49 v3 rfl rfl) h3
  clear hA0 hval0
  refine (sharedShock_walk v0 v1 v2 v3 W w0 w1 w2 w3).mono fun e W' ⟨he, bel⟩ => ?_
  subst he
  exact ⟨_, rfl, _, _, _, [], _, [], hW', trodAll_mk1 (shut_bool Try.underlying4 _), (trodAll_cons_mk (Below.trod fnExactSharedShock_laid (by kernel_rfl) (of_decide_eq_true (by kernel_rfl)) h0 bel lt0) (trodAll_cons_mk (Below.trod fnExactSharedShock_laid (by kernel_rfl) (of_decide_eq_true (by kernel_rfl)) h1 bel lt1) (trodAll_cons_mk (Below.trod fnExactSharedShock_laid (by kernel_rfl) (of_decide_eq_true (by kernel_rfl)) h2 bel lt2) (trodAll_cons_mk (Below.trod fnExactSharedShock_laid (by kernel_rfl) (of_decide_eq_true (by kernel_rfl)) h3 bel lt3) trodAll_mk0)))), rfl, bel.below.frame _, fun h => by cases h⟩

theorem fnExactSharedShock_toL {s : String} {L : List Char} (h : s = String.ofList L) : s.toList = L := by rw [h]; exact String.toList_ofList
def fnExactSharedShock_enterF (P : Program) : { F : List Char → Bool // P.mayEnter = F P.initOrder.toList } :=
  ⟨_, by unfold Program.mayEnter; generalize P.initOrder.toList = l; exact rfl⟩
def fnExactSharedShock_liftsF (P : Program) : { F : List Char → Bool // P.liftsFinal = F P.initOrder.toList } :=
  ⟨_, by unfold Program.liftsFinal Program.headLifts; generalize P.initOrder.toList = l; exact rfl⟩
def fnExactSharedShock_makeF (P : Program) : { F : List Char → Option Make // P.make = F P.initOrder.toList } :=
  ⟨_, by unfold Program.make; generalize P.initOrder.toList = l; exact rfl⟩
set_option maxRecDepth 100000 in
theorem fnExactSharedShock_enter : Try.checked.prog.mayEnter = true :=
  ((fnExactSharedShock_enterF Try.checked.prog).2.trans (congrArg (fnExactSharedShock_enterF Try.checked.prog).1 (fnExactSharedShock_toL (rfl : Try.checked.prog.initOrder = String.ofList _)))).trans (by kernel_rfl)
set_option maxRecDepth 100000 in
theorem fnExactSharedShock_lifts : Try.checked.prog.liftsFinal = false :=
  ((fnExactSharedShock_liftsF Try.checked.prog).2.trans (congrArg (fnExactSharedShock_liftsF Try.checked.prog).1 (fnExactSharedShock_toL (rfl : Try.checked.prog.initOrder = String.ofList _)))).trans (by kernel_rfl)
set_option maxRecDepth 100000 in
theorem fnExactSharedShock_make : Try.checked.prog.make = some .cut :=
  ((fnExactSharedShock_makeF Try.checked.prog).2.trans (congrArg (fnExactSharedShock_makeF Try.checked.prog).1 (fnExactSharedShock_toL (rfl : Try.checked.prog.initOrder = String.ofList _)))).trans (by kernel_rfl)
set_option maxRecDepth 100000 in
theorem fnExactSharedShock_closed : joinedFacts Try.checked.prog 14 Try.f14 Rows.fnExactSharedShockSpec Rows.fnExactSharedShockRow = true := by
  unfold joinedFacts
  rw [fnExactSharedShock_enter, fnExactSharedShock_lifts, fnExactSharedShock_make]
  decide +kernel

theorem fnExactSharedShock_over : Rows.fnExactSharedShockRow.holds Try.pinned (OpenSpec.ofChange Rows.fnExactSharedShockSpec) :=
  OpenClaim.holds_of_wide 14 Try.f14 rfl rfl rfl rfl rfl rfl rfl ⟨rfl, rfl, rfl, rfl, rfl⟩ rfl rfl rfl rfl rfl (by kernel_rfl) Try.func14 fnExactSharedShock_closed
    (of_decide_eq_true (by kernel_rfl)) (by unfold Func.isWrapper; first | (rw [if_pos (by decide +kernel)]; kernel_rfl) | (rw [if_neg (by decide +kernel)]; exact ⟨rfl, rfl⟩))
    (fun os started H enc _ => fnExactSharedShock_lifted os started H enc)

/-- The statement. -/
theorem fnExactSharedShock_holds : Rows.FnExactSharedShockSaid := fnExactSharedShock_over

end Go.Proofs.Ytifhmkkgmchcmaa
