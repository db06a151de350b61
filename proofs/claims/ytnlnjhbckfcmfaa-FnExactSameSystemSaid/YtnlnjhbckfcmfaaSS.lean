/- FnExactSameSystem returns true for every input and changes nothing that was there. No condition. -/
import Derived.Test.YtnlnjhbckfcmfaaRows
import Derived.Test.YtnlnjhbckfcmfaaRead
import Derived.Test.YtnlnjhbckfcmfaaA
import Derived.Test.YtnlnjhbckfcmfaaRg
import Derived.Outline
namespace Go.Proofs.Ytnlnjhbckfcmfaa
open Go Go.RowKit Go.ChangeShapes Go.WideShapes Go.ChangeAt

set_option maxHeartbeats 1000000 in
theorem szSystem_any (p : Int) (a : Option Addr) (n c : Nat) (l : Int) (w : World) (hn : n ≤ maxLen) (h0 : 0 ≤ l) (h1 : l ≤ 1048576) :
    Calls Try.prog 15 #[.agg #[.int .i64 p, .slice a n c], .int .i64 l] w fun e w' => e = .returned (.int .i64 (if l - n < 0 then -1 else l - n)) ∧ Ext w w' := by
  go_enter Try.func15, Try.ntmps15
  go_wp2_with fail
  refine (szInt64S_any _ _ _ _ _ hn h0 h1).mono ?_
  rintro e w1 ⟨rfl, rfl⟩
  by_cases h : l - n < 0
  · rw [if_pos h]
    go_wp2
    go_ret
    exact ⟨rfl, below_alloc _ _⟩
  · rw [if_neg h]
    go_wp2
    go_ret
    exact ⟨rfl, below_alloc _ _⟩

def SysV (p : Int) (zs : List Int) (v : Value) : Prop := ∃ g, v = .agg #[.int .i64 p, .slice (some ⟨g, 0, none⟩) zs.length zs.length]
def SysW (p : Int) (zs : List Int) (v : Value) (w : World) : Prop := ∃ g, v = .agg #[.int .i64 p, .slice (some ⟨g, 0, none⟩) zs.length zs.length] ∧ RdI w (.slice (some ⟨g, 0, none⟩) zs.length zs.length) zs
theorem SysW.st (p : Int) (zs : List Int) (v : Value) : St (SysW p zs v) := fun _ _ ⟨g, h1, h2⟩ hx => ⟨g, h1, h2.ext hx⟩

theorem SysW.rd {p : Int} {zs : List Int} {a : Option Addr} {n : Nat} {w : World} (h : SysW p zs (.agg #[.int .i64 p, .slice a n n]) w) : RdI w (.slice a n n) zs := by
  obtain ⟨g, e, hr⟩ := h
  simp at e
  obtain ⟨rfl, rfl, _⟩ := e
  exact hr

set_option maxHeartbeats 400000 in
theorem sameSystem_law (p q : Int) (v1 v2 : Value) (zs ys : List Int) (w : World) (r1 : RdI w v1 zs) (r2 : RdI w v2 ys) :
    Calls Try.prog 3 #[.agg #[.int .i64 p, v1], .agg #[.int .i64 q, v2]] w fun e w' => e = .returned (.bool true) ∧ Ext w w' := by
  have r1' := r1
  have r2' := r2
  obtain ⟨_, a1, c1, rfl, p1, p2, _, _⟩ := r1
  obtain ⟨_, a2, c2, rfl, q1, q2, _, _⟩ := r2
  have hm1 : zs.length ≤ maxLen := by omega
  have hm2 : ys.length ≤ maxLen := by omega
  clear p1 p2 q1 q2
  go_enter Try.func3, Try.ntmps3
  go_wp2_with fail
  generalize hW : World.alloc (World.alloc w _) _ = W
  have X : Ext w W := hW ▸ (Ext.alloc _ _).trans (Ext.alloc _ _)
  have b1 : Bx W w.heap.size [.int .i64 p, .slice a1 zs.length c1] := hW ▸ (Bx.new w _ _).ext (Ext.alloc _ _)
  have b2 : Bx W (w.heap.size + 1) [.int .i64 q, .slice a2 ys.length c2] := hW ▸ (Bx.new' (w.alloc _) _ _ (by simp))
  clear hW
  replace r1' := r1'.ext X
  replace r2' := r2'.ext X
  refine (szSystem_any _ _ _ _ _ _ hm1 (by omega) (by omega)).mono ?_
  rintro e w1 ⟨rfl, hx⟩
  replace X := X.trans hx; replace b1 := b1.ext hx; replace b2 := b2.ext hx; replace r1' := r1'.ext hx; replace r2' := r2'.ext hx
  clear hx W
  by_cases h : (1048576 : Int) - zs.length < 0
  · rw [if_pos h]
    go_wp2_with fail
    go_ret
    exact ⟨rfl, X⟩
  · rw [if_neg h]
    obtain ⟨c1a, c1b⟩ := b1.two
    obtain ⟨c2a, c2b⟩ := b2.two
    go_wp2_with fail
    refine (szSystem_any _ _ _ _ _ _ hm2 (by omega) (by omega)).mono ?_
    rintro e w2 ⟨rfl, hx⟩
    clear c1a c1b c2a c2b
    replace X := X.trans hx; replace b1 := b1.ext hx; replace b2 := b2.ext hx; replace r1' := r1'.ext hx; replace r2' := r2'.ext hx
    clear hx w1
    by_cases h2 : (1048576 : Int) - zs.length - ys.length < 0
    · rw [if_pos h2]
      go_wp2_with fail
      go_ret
      exact ⟨rfl, X⟩
    · rw [if_neg h2]
      go_wp2_with fail
      refine wp_region_rel 6 (fun i v => match i with | 1 => SysV p zs v | 3 => SysV q ys v | _ => v = .bool (sysEqB p q zs ys))
        (fun i v w => match i with | 1 => SysW p zs v w | 3 => SysW q ys v w | _ => True) (by kernel_rfl) (by kernel_rfl) (by kernel_rfl) ?_
      dsimp only [List.take, List.drop, List.length]
      refine LX_det (.agg #[.int .i64 p, .slice a1 zs.length c1]) rfl rfl (fun w' hx _ => ?_) ?_
      · obtain ⟨c1a, c1b⟩ := (b1.ext hx).two
        go_simp
      refine LX_call rfl rfl (SysW.st p zs) (fun w' hx _ => ?_) ?_
      · go_simp
        refine UponC.enter ((toSystem_any p a1 c1 _ zs _ (r1'.ext hx) (by omega)).mono ?_)
        rintro e w'' ⟨g, rfl, hx', hr⟩
        exact ⟨_, rfl, hx', ⟨g, rfl⟩, g, rfl, hr⟩
      rintro _ ⟨g1, rfl⟩
      refine LX_det (.agg #[.int .i64 q, .slice a2 ys.length c2]) rfl rfl (fun w' hx _ => ?_) ?_
      · obtain ⟨c2a, c2b⟩ := (b2.ext hx).two
        go_simp
      refine LX_call rfl rfl (SysW.st q ys) (fun w' hx _ => ?_) ?_
      · go_simp
        refine UponC.enter ((toSystem_any q a2 c2 _ ys _ (r2'.ext hx) (by omega)).mono ?_)
        rintro e w'' ⟨g, rfl, hx', hr⟩
        exact ⟨_, rfl, hx', ⟨g, rfl⟩, g, rfl, hr⟩
      rintro _ ⟨g2, rfl⟩
      refine LX_call rfl rfl (fun _ => St.top) (fun w' hx hg => ?_) ?_
      · have k1 := hg 21 (by decide)
        have k2 := hg 23 (by decide)
        have h1 := SysW.rd (show SysW p zs _ w' from k1.1.1.2 rfl)
        have h2 := SysW.rd (show SysW q ys _ w' from k2.2 rfl)
        clear k1 k2 hg
        go_simp
        refine UponC.enter ((specSameSystem_any p q _ _ zs ys _ h1 h2).mono ?_)
        rintro e w'' ⟨rfl, hx'⟩
        exact ⟨_, rfl, hx', rfl, trivial⟩
      rintro _ rfl
      refine LX_det (.bool (sysEqB p q zs ys)) rfl rfl (fun w' hx _ => ?_) ?_
      · go_simp
      refine LX_nil fun w3 hx hg => ?_
      replace X := X.trans hx; replace b1 := b1.ext hx; replace b2 := b2.ext hx; replace r1' := r1'.ext hx; replace r2' := r2'.ext hx
      clear hx hg w2
      refine wpList_nil ?_
      simp only [Act.put, List.setIfInBounds_toArray, List.set_cons_succ, List.set_cons_zero]
      obtain ⟨c1a, c1b⟩ := b1.two
      obtain ⟨c2a, c2b⟩ := b2.two
      go_wp2_with fail
      refine (toSystem_any p a1 c1 _ zs _ r1' (by omega)).mono ?_
      rintro e w4 ⟨g3, rfl, hx, r3⟩
      clear c1a c1b c2a c2b
      replace X := X.trans hx; replace b1 := b1.ext hx; replace b2 := b2.ext hx; replace r1' := r1'.ext hx; replace r2' := r2'.ext hx
      clear hx w3
      obtain ⟨c1a, c1b⟩ := b1.two
      obtain ⟨c2a, c2b⟩ := b2.two
      have z1 := b1.1
      have z2 := b2.1
      go_wp2_with fail
      have b3 : Bx (w4.alloc (.cells #[.int .i64 p, .slice (some ⟨g3, 0, none⟩) zs.length zs.length] 27)) w4.heap.size [.int .i64 p, .slice (some ⟨g3, 0, none⟩) zs.length zs.length] := Bx.new _ _ _
      generalize hW : World.alloc w4 _ = W at b3
      have hx : Ext w4 W := hW ▸ Ext.alloc _ _
      clear hW c1a c1b c2a c2b z1 z2
      replace X := X.trans hx; replace b1 := b1.ext hx; replace b2 := b2.ext hx; replace r1' := r1'.ext hx; replace r2' := r2'.ext hx; replace r3 := r3.ext hx
      clear hx
      generalize w4.heap.size = B3 at *
      clear w4
      refine (toSystem_any q a2 c2 _ ys _ r2' (by omega)).mono ?_
      rintro e w5 ⟨g4, rfl, hx, r4⟩
      replace X := X.trans hx; replace b1 := b1.ext hx; replace b2 := b2.ext hx; replace r1' := r1'.ext hx; replace r2' := r2'.ext hx; replace r3 := r3.ext hx; replace b3 := b3.ext hx
      clear hx W
      obtain ⟨c1a, c1b⟩ := b1.two
      obtain ⟨c2a, c2b⟩ := b2.two
      obtain ⟨c3a, c3b⟩ := b3.two
      have z1 := b1.1
      have z2 := b2.1
      have z3 := b3.1
      go_wp2_with fail
      have b4 : Bx (w5.alloc (.cells #[.int .i64 q, .slice (some ⟨g4, 0, none⟩) ys.length ys.length] 27)) w5.heap.size [.int .i64 q, .slice (some ⟨g4, 0, none⟩) ys.length ys.length] := Bx.new _ _ _
      generalize hW : World.alloc w5 _ = W at b4
      have hx : Ext w5 W := hW ▸ Ext.alloc _ _
      clear hW c1a c1b c2a c2b c3a c3b z1 z2 z3
      replace X := X.trans hx; replace b1 := b1.ext hx; replace b2 := b2.ext hx; replace b3 := b3.ext hx; replace r1' := r1'.ext hx; replace r2' := r2'.ext hx; replace r3 := r3.ext hx; replace r4 := r4.ext hx
      clear hx
      generalize w5.heap.size = B4 at *
      clear w5
      refine (implSameSystem_any p q _ _ zs ys _ r3 r4).mono ?_
      rintro e w6 ⟨rfl, hx⟩
      replace X := X.trans hx; replace b1 := b1.ext hx; replace b2 := b2.ext hx; replace b3 := b3.ext hx; replace r1' := r1'.ext hx; replace r2' := r2'.ext hx; replace r3 := r3.ext hx; replace r4 := r4.ext hx; replace b4 := b4.ext hx
      clear hx W
      go_wp2_with fail
      refine wp_region_rel 5 (fun i v => match i with | 2 => SysV p zs v | _ => v = .bool true)
        (fun i v w => match i with | 2 => SysW p zs v w | _ => True) (by kernel_rfl) (by kernel_rfl) (by kernel_rfl) ?_
      dsimp only [List.take, List.drop, List.length]
      refine LX_det (.agg #[.int .i64 p, .slice (some ⟨g3, 0, none⟩) zs.length zs.length]) rfl rfl (fun w' hx _ => ?_) ?_
      · obtain ⟨k1, k2⟩ := (b3.ext hx).two
        go_simp
      refine LX_det (.agg #[.int .i64 p, .slice a1 zs.length c1]) rfl rfl (fun w' hx _ => ?_) ?_
      · obtain ⟨k1, k2⟩ := (b1.ext hx).two
        go_simp
      refine LX_call rfl rfl (SysW.st p zs) (fun w' hx _ => ?_) ?_
      · go_simp
        refine UponC.enter ((toSystem_any p a1 c1 _ zs _ (r1'.ext hx) (by omega)).mono ?_)
        rintro e w'' ⟨g, rfl, hx', hr⟩
        exact ⟨_, rfl, hx', ⟨g, rfl⟩, g, rfl, hr⟩
      rintro _ ⟨g5, rfl⟩
      refine LX_call rfl rfl (fun _ => St.top) (fun w' hx hg => ?_) ?_
      · have h1 := SysW.rd (show SysW p zs _ w' from (hg 37 (by decide)).2 rfl)
        clear hg
        go_simp
        refine UponC.enter ((eqSystem_any p p _ _ zs zs _ (r3.ext hx) h1).mono ?_)
        rintro e w'' ⟨rfl, hx'⟩
        exact ⟨_, rfl, hx', by rw [sysEqB_self], trivial⟩
      rintro _ rfl
      refine LX_det (.bool false) rfl rfl (fun w' hx _ => ?_) ?_
      · go_simp
      refine LX_nil fun W hx hg => ?_
      replace X := X.trans hx; replace b1 := b1.ext hx; replace b2 := b2.ext hx; replace b3 := b3.ext hx; replace r1' := r1'.ext hx; replace r2' := r2'.ext hx; replace r3 := r3.ext hx; replace r4 := r4.ext hx; replace b4 := b4.ext hx
      clear hx hg
      refine wpList_nil ?_
      simp only [Act.put, List.setIfInBounds_toArray, List.set_cons_succ, List.set_cons_zero]
      go_wp2_with fail
      refine wp_region_rel 5 (fun i v => match i with | 2 => SysV q ys v | _ => v = .bool true)
        (fun i v w => match i with | 2 => SysW q ys v w | _ => True) (by kernel_rfl) (by kernel_rfl) (by kernel_rfl) ?_
      dsimp only [List.take, List.drop, List.length]
      refine LX_det (.agg #[.int .i64 q, .slice (some ⟨g4, 0, none⟩) ys.length ys.length]) rfl rfl (fun w' hx _ => ?_) ?_
      · obtain ⟨k1, k2⟩ := (b4.ext hx).two
        go_simp
      refine LX_det (.agg #[.int .i64 q, .slice a2 ys.length c2]) rfl rfl (fun w' hx _ => ?_) ?_
      · obtain ⟨k1, k2⟩ := (b2.ext hx).two
        go_simp
      refine LX_call rfl rfl (SysW.st q ys) (fun w' hx _ => ?_) ?_
      · go_simp
        refine UponC.enter ((toSystem_any q a2 c2 _ ys _ (r2'.ext hx) (by omega)).mono ?_)
        rintro e w'' ⟨g, rfl, hx', hr⟩
        exact ⟨_, rfl, hx', ⟨g, rfl⟩, g, rfl, hr⟩
      rintro _ ⟨g5, rfl⟩
      refine LX_call rfl rfl (fun _ => St.top) (fun w' hx hg => ?_) ?_
      · have h1 := SysW.rd (show SysW q ys _ w' from (hg 42 (by decide)).2 rfl)
        clear hg
        go_simp
        refine UponC.enter ((eqSystem_any q q _ _ ys ys _ (r4.ext hx) h1).mono ?_)
        rintro e w'' ⟨rfl, hx'⟩
        exact ⟨_, rfl, hx', by rw [sysEqB_self], trivial⟩
      rintro _ rfl
      refine LX_det (.bool false) rfl rfl (fun w' hx _ => ?_) ?_
      · go_simp
      refine LX_nil fun W hx hg => ?_
      replace X := X.trans hx; replace b1 := b1.ext hx; replace b2 := b2.ext hx; replace b3 := b3.ext hx; replace r1' := r1'.ext hx; replace r2' := r2'.ext hx; replace r3 := r3.ext hx; replace r4 := r4.ext hx; replace b4 := b4.ext hx
      clear hx hg
      refine wpList_nil ?_
      simp only [Act.put, List.setIfInBounds_toArray, List.set_cons_succ, List.set_cons_zero]
      go_wp2_with fail
      go_ret
      exact ⟨rfl, X⟩
theorem sameSystem_walk (v1 v2 : Value) (w : World) (h1 : ArgSys w v1) (h2 : ArgSys w v2) :
    Calls Try.prog 3 #[v1, v2] w fun e w' => e = .returned (.bool true) ∧ Ext w w' := by
  obtain ⟨p, a, l, c, zs, rfl, _, r1, _⟩ := h1
  obtain ⟨q, a', l', c', ys, rfl, _, r2, _⟩ := h2
  exact sameSystem_law p q _ _ zs ys w r1 r2

theorem fnExactSameSystem_own : ownKnob Try.prog.godebug = none := by kernel_rfl
theorem fnExactSameSystem_laid : laidOutB Try.prog = true := by kernel_rfl

set_option maxRecDepth 100000 in
theorem fnExactSameSystem_lifted (os : Os) (started : os.Started) (H : Type) (enc : TypeId × Value → H) :
    ReturnsInHanded {} Try.checked os 3 .any (Rows.fnExactSameSystemSpec.pre6 enc Try.prog Try.f3 Rows.fnExactSameSystemRow.domain false) (Rows.fnExactSameSystemSpec.post enc Try.prog Try.f3 false true false false) := by
  refine returnsInHanded_of_change (C := Try.checked) fnExactSameSystem_own started (by kernel_rfl) Try.func3
    (ChangeSpec.witness6 (enc := enc) (C := Try.checked) false ⟨#[], #[.agg #[.int .i64 0, .slice none 0 0], .agg #[.int .i64 0, .slice none 0 0]], []⟩ 8 (by kernel_rfl) (by kernel_rfl) (by kernel_rfl) (by kernel_rfl)) ?_
  intro W base args ds gs before hval0 hW hcnd _
  have hval : ∀ (j : Nat) t v, Try.f3.params[j]? = some t → args[j]? = some v → Value.okWide Try.prog W .any base t v := hval0
  have hW' := hW
  obtain ⟨p, q, hA0, hV, rfl, hfz, hnd⟩ := hW
  have hA : DataW.TrodAll enc Try.prog W 0 (fun _ => true) true Try.f3.params.toList args.toList ds p := hA0
  rw [Try.params3] at hA hval
  obtain ⟨v0, vs0, d0, ds0, p0, q0, hargs, rfl, rfl, h0, r0⟩ := trodAll_cons hA
  obtain ⟨v1, vs1, d1, ds1, p1, q1, rfl, rfl, rfl, h1, r1⟩ := trodAll_cons r0
  obtain ⟨rfl, rfl, rfl⟩ := trodAll_nil r1
  obtain rfl : args = #[v0, v1] := by cases args; simp_all
  obtain ⟨rfl, rfl⟩ := trodVars_none hV
  have lt0 : ∀ x ∈ p0, x.block < W.heap.size := by obtain ⟨m, hm⟩ := h0; exact DataW.trod_lt m _ _ _ hm
  have w0 := argSys Try.underlying24 (by kernel_rfl) (by kernel_rfl) Try.underlying2 Try.underlying22 Try.underlying2 (by kernel_rfl) (hval 0 24 v0 rfl rfl) h0
  have lt1 : ∀ x ∈ p1, x.block < W.heap.size := by obtain ⟨m, hm⟩ := h1; exact DataW.trod_lt m _ _ _ hm
  have w1 := argSys Try.underlying24 (by kernel_rfl) (by kernel_rfl) Try.underlying2 Try.underlying22 Try.underlying2 (by kernel_rfl) (hval 1 24 v1 rfl rfl) h1
  clear hA0 hval0
  refine (sameSystem_walk v0 v1 W w0 w1).mono fun e W' ⟨he, bel⟩ => ?_
  subst he
  exact ⟨_, rfl, _, _, _, [], _, [], hW', trodAll_mk1 (shut_bool Try.underlying4 _), (trodAll_cons_mk (Below.trod fnExactSameSystem_laid (by kernel_rfl) (of_decide_eq_true (by kernel_rfl)) h0 bel lt0) (trodAll_cons_mk (Below.trod fnExactSameSystem_laid (by kernel_rfl) (of_decide_eq_true (by kernel_rfl)) h1 bel lt1) trodAll_mk0)), rfl, bel.below.frame _, fun h => by cases h⟩

theorem fnExactSameSystem_toL {s : String} {L : List Char} (h : s = String.ofList L) : s.toList = L := by rw [h]; exact String.toList_ofList
def fnExactSameSystem_enterF (P : Program) : { F : List Char → Bool // P.mayEnter = F P.initOrder.toList } :=
  ⟨_, by unfold Program.mayEnter; generalize P.initOrder.toList = l; exact rfl⟩
def fnExactSameSystem_liftsF (P : Program) : { F : List Char → Bool // P.liftsFinal = F P.initOrder.toList } :=
  ⟨_, by unfold Program.liftsFinal Program.headLifts; generalize P.initOrder.toList = l; exact rfl⟩
def fnExactSameSystem_makeF (P : Program) : { F : List Char → Option Make // P.make = F P.initOrder.toList } :=
  ⟨_, by unfold Program.make; generalize P.initOrder.toList = l; exact rfl⟩
set_option maxRecDepth 100000 in
theorem fnExactSameSystem_enter : Try.checked.prog.mayEnter = true :=
  ((fnExactSameSystem_enterF Try.checked.prog).2.trans (congrArg (fnExactSameSystem_enterF Try.checked.prog).1 (fnExactSameSystem_toL (rfl : Try.checked.prog.initOrder = String.ofList _)))).trans (by kernel_rfl)
set_option maxRecDepth 100000 in
theorem fnExactSameSystem_lifts : Try.checked.prog.liftsFinal = false :=
  ((fnExactSameSystem_liftsF Try.checked.prog).2.trans (congrArg (fnExactSameSystem_liftsF Try.checked.prog).1 (fnExactSameSystem_toL (rfl : Try.checked.prog.initOrder = String.ofList _)))).trans (by kernel_rfl)
set_option maxRecDepth 100000 in
theorem fnExactSameSystem_make : Try.checked.prog.make = some .cut :=
  ((fnExactSameSystem_makeF Try.checked.prog).2.trans (congrArg (fnExactSameSystem_makeF Try.checked.prog).1 (fnExactSameSystem_toL (rfl : Try.checked.prog.initOrder = String.ofList _)))).trans (by kernel_rfl)
set_option maxRecDepth 100000 in
theorem fnExactSameSystem_closed : joinedFacts Try.checked.prog 3 Try.f3 Rows.fnExactSameSystemSpec Rows.fnExactSameSystemRow = true := by
  unfold joinedFacts
  rw [fnExactSameSystem_enter, fnExactSameSystem_lifts, fnExactSameSystem_make]
  decide +kernel

theorem fnExactSameSystem_over : Rows.fnExactSameSystemRow.holds Try.pinned (OpenSpec.ofChange Rows.fnExactSameSystemSpec) :=
  OpenClaim.holds_of_wide 3 Try.f3 rfl rfl rfl rfl rfl rfl rfl ⟨rfl, rfl, rfl, rfl, rfl⟩ rfl rfl rfl rfl rfl (by kernel_rfl) Try.func3 fnExactSameSystem_closed
    (of_decide_eq_true (by kernel_rfl)) (by unfold Func.isWrapper; first | (rw [if_pos (by decide +kernel)]; kernel_rfl) | (rw [if_neg (by decide +kernel)]; exact ⟨rfl, rfl⟩))
    (fun os started H enc _ => fnExactSameSystem_lifted os started H enc)

/-- The statement. -/
theorem fnExactSameSystem_holds : Rows.FnExactSameSystemSaid := fnExactSameSystem_over


end Go.Proofs.Ytnlnjhbckfcmfaa
