
/- FnExactOrderLives returns true for every input and changes nothing that was there. No condition. -/
import Derived.Test.YtkkmhckhggggaaaLw
import Derived.Test.YtkkmhckhggggaaaLA
namespace Go.Proofs.Ytkkmhckhggggaaa
open Go Go.RowKit Go.ChangeShapes Go.WideShapes Go.ChangeAt

def ordO (ls : List Lf) : Option (List Lf) := if livesB ls then some (ordL ls) else none

theorem specOrderLives_any (v : Value) (ls : List Lf) (w : World) (r : RdL w v ls) : Calls Try.prog 18 #[v] w (LfPost (ordO ls) w) := by
  cases h : livesB ls
  · have H : Hid (ordO ls = none) := by show _ = _; unfold ordO; rw [h]; rfl
    have HA := Lib.hid (l02Lives_any v ls w r)
    rw [h] at HA
    clear h
    obtain ⟨⟨_, a1, c1, rfl, p1, p2, _, _⟩, _⟩ := r
    go_enter Try.func18, Try.ntmps18
    go_wp2_with fail
    refine HA.out.mono ?_
    rintro e w1 ⟨rfl, X⟩
    go_wp2_with fail
    go_ret2
    rw [H.out]
    exact ⟨X, rfl⟩
  · have H : Hid (ordO ls = some (ordL ls)) := by show _ = _; unfold ordO; rw [h]; rfl
    have HA := Lib.hid (l02Lives_any v ls w r)
    have hl := livesB_len h
    have HK := Lib.hid (livesB_ok h r.2)
    have r' := r
    rw [h] at HA
    clear h
    obtain ⟨⟨_, a1, c1, rfl, p1, p2, _, _⟩, _⟩ := r
    go_enter Try.func18, Try.ntmps18
    go_wp2_with fail
    refine HA.out.mono ?_
    rintro e w1 ⟨rfl, X⟩
    go_wp2_with fail
    refine (l02Order_any _ ls _ (r'.ext X) hl.1 (by omega) HK.out).mono ?_
    rintro e w2 ⟨g, cap, rfl, own, X2⟩
    go_wp2_with fail
    go_ret2
    rw [H.out]
    exact ⟨X.trans X2, g, cap, by rw [ordL_len]; rfl, World.ownsRow.mono own X.size⟩
theorem implOrderLives_any (v : Value) (ls : List Lf) (w : World) (r : RdL w v ls) : Calls Try.prog 20 #[v] w (LfPost (ordO ls) w) := by
  cases h : livesB ls
  · have H : Hid (ordO ls = none) := by show _ = _; unfold ordO; rw [h]; rfl
    have HA := Lib.hid (areLives_any v ls w r)
    rw [h] at HA
    clear h
    obtain ⟨⟨_, a1, c1, rfl, p1, p2, _, _⟩, _⟩ := r
    go_enter Try.func20, Try.ntmps20
    go_wp2_with fail
    refine HA.out.mono ?_
    rintro e w1 ⟨rfl, X⟩
    go_wp2_with fail
    go_ret2
    rw [H.out]
    exact ⟨X, rfl⟩
  · have H : Hid (ordO ls = some (ordL ls)) := by show _ = _; unfold ordO; rw [h]; rfl
    have HA := Lib.hid (areLives_any v ls w r)
    have hl := livesB_len h
    have HK := Lib.hid (livesB_ok h r.2)
    have r' := r
    rw [h] at HA
    clear h
    obtain ⟨⟨_, a1, c1, rfl, p1, p2, _, _⟩, _⟩ := r
    go_enter Try.func20, Try.ntmps20
    go_wp2_with fail
    refine HA.out.mono ?_
    rintro e w1 ⟨rfl, X⟩
    go_wp2_with fail
    refine (ordered_any _ ls _ (r'.ext X) hl.1 (by omega) HK.out).mono ?_
    rintro e w2 ⟨g, cap, rfl, own, X2⟩
    go_wp2_with fail
    go_ret2
    rw [H.out]
    exact ⟨X.trans X2, g, cap, by rw [ordL_len]; rfl, World.ownsRow.mono own X.size⟩

set_option maxRecDepth 100000 in
set_option maxHeartbeats 4000000 in
theorem FnExactOrderLives_law (v : Value) (ls : List Lf) (o : Option (List Lf)) (w : World) (r : RdL w v ls)
    (hs : ∀ w v, RdL w v ls → Calls Try.prog 18 #[v] w (LfPost o w)) (hi : ∀ w v, RdL w v ls → Calls Try.prog 20 #[v] w (LfPost o w)) (hlen : (o.getD []).length ≤ 1048576) (hbd : ∀ x ∈ o.getD [], x.1 < 4294967296) :
    Calls Try.prog 3 #[v] w fun e w' => e = .returned (.bool true) ∧ Ext w w' := by
  have HS := Lib.hid hs
  have HI := Lib.hid hi
  have r' := r
  have HBD := Lib.hid hbd
  clear hbd
  obtain ⟨⟨-, a1, c1, rfl, p1, p2, -, -⟩, -⟩ := r
  have p3 : ls.length ≤ maxLen := Nat.le_trans p1 p2
  clear hs hi p1 p2
  by_cases hn : ls.length ≤ 1048576
  · go_enter Try.func3, Try.ntmps3
    go_wp2_with fail
    refine (szLifeS_any _ _ _ _ _ p3 (by decide) (by decide)).mono ?_
    rintro e w0 ⟨rfl, rfl⟩
    rw [if_neg (by omega)]
    have hge : ¬ (1048576 : Int) - ls.length < 0 := by omega
    go_wp2_with fail
    refine (toLifeS_any _ ls _ r' hn).mono ?_
    rintro e w1 ⟨g1, rfl, X1, own1⟩
    have r1 : RdL w1 (.slice (some ⟨g1, 0, none⟩) ls.length ls.length) ls := own1.rd r'.2
    clear own1
    go_wp2_with fail
    refine (HS.out _ _ r1).mono ?_
    intro e w2 h2
    obtain ⟨vs, rfl, os, X2⟩ := postL_own h2
    clear h2 r1
    generalize hZ : o.getD [] = zs at *
    have X02 : Ext w w2 := X1.trans X2
    go_wp2_with fail
    refine (toLifeS_any _ ls _ (r'.ext X02) hn).mono ?_
    rintro e w3 ⟨g3, rfl, X3, own3⟩
    have hx0 : RdL w3 (.slice (some ⟨g3, 0, none⟩) ls.length ls.length) ls := own3.rd r'.2
    have hg3 := own3.lt
    go_wp2_with fail
    refine (HI.out _ _ hx0).mono ?_
    intro e w4 h4
    obtain ⟨vi, rfl, oi, X4⟩ := postL_own h4
    rw [hZ] at oi
    clear h4
    have Y4 : Ext w2 w4 := Ext.trans X3 X4
    have hz3 : w3.heap.size ≤ w4.heap.size := X4.size
    have hs2 := X02.size
    have own4 := own3.ext X4
    clear own3 hx0
    go_wp2_with fail
    refine (eqL_eq oi (os.ext Y4) HBD.out).mono ?_
    rintro e w5 ⟨rfl, X5⟩
    replace oi := oi.ext X5; replace own4 := own4.ext X5; replace Y4 := Ext.trans Y4 X5; replace hz3 := Nat.le_trans hz3 X5.size
    clear X5 X4
    go_wp2_with fail
    refine (toLifeS_any _ ls _ (r'.ext (X02.trans Y4)) hn).mono ?_
    rintro e w6 ⟨g6, rfl, X6, own6⟩
    have r6 : RdL w6 (.slice (some ⟨g6, 0, none⟩) ls.length ls.length) ls := own6.rd r'.2
    replace oi := oi.ext X6; replace own4 := own4.ext X6; replace Y4 := Ext.trans Y4 X6; replace hz3 := Nat.le_trans hz3 X6.size
    clear X6 own6
    go_wp2_with fail
    refine (eqLifeS_any _ _ ls ls _ (own4.rd r'.2) r6 rfl).mono ?_
    rintro e w7 ⟨rfl, X7⟩
    replace oi := oi.ext X7; replace own4 := own4.ext X7; replace Y4 := Ext.trans Y4 X7; replace hz3 := Nat.le_trans hz3 X7.size
    clear X7 r6
    go_wp2_with fail
    refine (markL_g 1 g3 ls.length w2.heap.size ls _ own4 (by decide) (by decide) hn).mono ?_
    rintro e w8 ⟨rfl, G8, -⟩
    replace oi := oi.grown G8 hg3.2; replace Y4 := Below.trans Y4 (grown_ext G8 hg3.1 Y4.size); replace hz3 := Nat.le_trans hz3 G8.size
    clear own4 G8
    go_wp2_with fail
    refine (eqL_eq oi (os.ext Y4) HBD.out).mono ?_
    rintro e w9 ⟨rfl, X9⟩
    replace oi := oi.ext X9; replace Y4 := Ext.trans Y4 X9; replace hz3 := Nat.le_trans hz3 X9.size
    clear X9
    have hb3 := hz3
    go_wp2_with fail
    refine (markL_own 1 _ _ _ _ oi hb3 (by decide) (by decide) hlen).mono ?_
    rintro e w10 ⟨rfl, G10, oi2⟩
    replace Y4 := Below.trans Y4 (G10.mono X3.size)
    clear G10 oi hb3
    go_wp2_with fail
    refine (heldL_own 1 _ zs.length _ _ oi2 (by decide) (by decide) hlen).mono ?_
    rintro e w11 ⟨rfl, rfl⟩
    go_wp2_with fail
    refine (toLifeS_any _ ls _ (r'.ext (X02.trans Y4)) hn).mono ?_
    rintro e w12 ⟨g12, rfl, X12, own12⟩
    have r12 : RdL w12 (.slice (some ⟨g12, 0, none⟩) ls.length ls.length) ls := own12.rd r'.2
    replace oi2 := oi2.ext X12; replace Y4 := Ext.trans Y4 X12
    clear X12 own12
    go_wp2_with fail
    refine (HI.out _ _ r12).mono ?_
    intro e w13 h13
    obtain ⟨vh, rfl, oh, X13⟩ := postL_own h13
    rw [hZ] at oh
    replace oi2 := oi2.ext X13; replace Y4 := Ext.trans Y4 X13
    clear h13 X13
    go_wp2_with fail
    refine (eqL_eq oh (os.ext Y4) HBD.out).mono ?_
    rintro e w14 ⟨rfl, X14⟩
    replace oi2 := oi2.ext X14; replace Y4 := Ext.trans Y4 X14
    clear X14
    go_wp2_with fail
    refine (heldL_own 1 _ zs.length _ _ oi2 (by decide) (by decide) hlen).mono ?_
    rintro e w15 ⟨rfl, rfl⟩
    go_wp2_with fail
    go_ret
    exact ⟨rfl, X02.trans Y4⟩
  · go_enter Try.func3, Try.ntmps3
    go_wp2_with fail
    refine (szLifeS_any _ _ _ _ _ p3 (by decide) (by decide)).mono ?_
    rintro e w0 ⟨rfl, rfl⟩
    rw [if_pos (by omega)]
    go_wp2_with fail
    go_ret
    exact ⟨rfl, Ext.refl _⟩

theorem orderLives_walk (v : Value) (w : World) (h : ArgLives w v) :
    Calls Try.prog 3 #[v] w fun e w' => e = .returned (.bool true) ∧ Ext w w' := by
  obtain ⟨a, n, cap, ls, rfl, r⟩ := h
  refine FnExactOrderLives_law _ ls (ordO ls) w r (fun w v r => specOrderLives_any v ls w r) (fun w v r => implOrderLives_any v ls w r) ?_ ?_
  · unfold ordO
    split
    · rename_i h; rw [Option.getD_some, ordL_len]; have := livesB_len h; omega
    · simp
  · unfold ordO
    split
    · rw [Option.getD_some]; exact fun x hx => r.2 x ((ordL_perm ls).mem_iff.1 hx)
    · simp
theorem fnExactOrderLives_own : ownKnob Try.prog.godebug = none := by kernel_rfl
theorem fnExactOrderLives_laid : laidOutB Try.prog = true := by kernel_rfl

set_option maxRecDepth 100000 in
theorem fnExactOrderLives_lifted (os : Os) (started : os.Started) (H : Type) (enc : TypeId × Value → H) :
    ReturnsInHanded {} Try.checked os 3 .any (Rows.fnExactOrderLivesSpec.pre6 enc Try.prog Try.f3 Rows.fnExactOrderLivesRow.domain false) (Rows.fnExactOrderLivesSpec.post enc Try.prog Try.f3 false true false false) := by
  refine returnsInHanded_of_change (C := Try.checked) fnExactOrderLives_own started (by kernel_rfl) Try.func3
    (ChangeSpec.witness6 (enc := enc) (C := Try.checked) false ⟨#[], #[.slice none 0 0], []⟩ 8 (by kernel_rfl) (by kernel_rfl) (by kernel_rfl) (by kernel_rfl)) ?_
  intro W base args ds gs before hval0 hW hcnd _
  have hval : ∀ (j : Nat) t v, Try.f3.params[j]? = some t → args[j]? = some v → Value.okWide Try.prog W .any base t v := hval0
  have hW' := hW
  obtain ⟨p, q, hA0, hV, rfl, hfz, hnd⟩ := hW
  have hA : DataW.TrodAll enc Try.prog W 0 (fun _ => true) true Try.f3.params.toList args.toList ds p := hA0
  rw [Try.params3] at hA hval
  obtain ⟨v0, vs0, d0, ds0, p0, q0, hargs, rfl, rfl, h0, r0⟩ := trodAll_cons hA
  obtain ⟨rfl, rfl, rfl⟩ := trodAll_nil r0
  obtain rfl : args = #[v0] := by cases args; simp_all
  obtain ⟨rfl, rfl⟩ := trodVars_none hV
  have lt0 : ∀ x ∈ p0, x.block < W.heap.size := by obtain ⟨m, hm⟩ := h0; exact DataW.trod_lt m _ _ _ hm
  have w0 := argLives Try.underlying22 Try.underlying80 (by kernel_rfl) (by kernel_rfl) Try.underlying36 Try.underlying4 (hval 0 22 v0 rfl rfl) h0
  clear hA0 hval0
  refine (orderLives_walk v0 W w0).mono fun e W' ⟨he, bel⟩ => ?_
  subst he
  exact ⟨_, rfl, _, _, _, [], _, [], hW', trodAll_mk1 (shut_bool Try.underlying4 _), (trodAll_cons_mk (Below.trod fnExactOrderLives_laid (by kernel_rfl) (of_decide_eq_true (by kernel_rfl)) h0 bel lt0) trodAll_mk0), rfl, bel.below.frame _, fun h => by cases h⟩

theorem fnExactOrderLives_toL {s : String} {L : List Char} (h : s = String.ofList L) : s.toList = L := by rw [h]; exact String.toList_ofList
def fnExactOrderLives_enterF (P : Program) : { F : List Char → Bool // P.mayEnter = F P.initOrder.toList } :=
  ⟨_, by unfold Program.mayEnter; generalize P.initOrder.toList = l; exact rfl⟩
def fnExactOrderLives_liftsF (P : Program) : { F : List Char → Bool // P.liftsFinal = F P.initOrder.toList } :=
  ⟨_, by unfold Program.liftsFinal Program.headLifts; generalize P.initOrder.toList = l; exact rfl⟩
def fnExactOrderLives_makeF (P : Program) : { F : List Char → Option Make // P.make = F P.initOrder.toList } :=
  ⟨_, by unfold Program.make; generalize P.initOrder.toList = l; exact rfl⟩
set_option maxRecDepth 100000 in
theorem fnExactOrderLives_enter : Try.checked.prog.mayEnter = true :=
  ((fnExactOrderLives_enterF Try.checked.prog).2.trans (congrArg (fnExactOrderLives_enterF Try.checked.prog).1 (fnExactOrderLives_toL (rfl : Try.checked.prog.initOrder = String.ofList _)))).trans (by kernel_rfl)
set_option maxRecDepth 100000 in
theorem fnExactOrderLives_lifts : Try.checked.prog.liftsFinal = false :=
  ((fnExactOrderLives_liftsF Try.checked.prog).2.trans (congrArg (fnExactOrderLives_liftsF Try.checked.prog).1 (fnExactOrderLives_toL (rfl : Try.checked.prog.initOrder = String.ofList _)))).trans (by kernel_rfl)
set_option maxRecDepth 100000 in
theorem fnExactOrderLives_make : Try.checked.prog.make = some .cut :=
  ((fnExactOrderLives_makeF Try.checked.prog).2.trans (congrArg (fnExactOrderLives_makeF Try.checked.prog).1 (fnExactOrderLives_toL (rfl : Try.checked.prog.initOrder = String.ofList _)))).trans (by kernel_rfl)
set_option maxRecDepth 100000 in
theorem fnExactOrderLives_closed : joinedFacts Try.checked.prog 3 Try.f3 Rows.fnExactOrderLivesSpec Rows.fnExactOrderLivesRow = true := by
  unfold joinedFacts
  rw [fnExactOrderLives_enter, fnExactOrderLives_lifts, fnExactOrderLives_make]
  decide +kernel

theorem fnExactOrderLives_over : Rows.fnExactOrderLivesRow.holds Try.pinned (OpenSpec.ofChange Rows.fnExactOrderLivesSpec) :=
  OpenClaim.holds_of_wide 3 Try.f3 rfl rfl rfl rfl rfl rfl rfl ⟨rfl, rfl, rfl, rfl, rfl⟩ rfl rfl rfl rfl rfl (by kernel_rfl) Try.func3 fnExactOrderLives_closed
    (of_decide_eq_true (by kernel_rfl)) (by unfold Func.isWrapper; first | (rw [if_pos (by decide +kernel)]; kernel_rfl) | (rw [if_neg (by decide +kernel)]; exact ⟨rfl, rfl⟩))
    (fun os started H enc _ => fnExactOrderLives_lifted os started H enc)

/-- The statement. -/
theorem fnExactOrderLives_holds : Rows.FnExactOrderLivesSaid := fnExactOrderLives_over

end Go.Proofs.Ytkkmhckhggggaaa
