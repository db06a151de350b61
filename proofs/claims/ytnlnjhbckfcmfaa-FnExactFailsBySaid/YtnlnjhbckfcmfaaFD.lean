/- FnExactFailsBy returns true for every input and changes nothing that was there. No condition. -/
import Derived.Test.YtnlnjhbckfcmfaaFC
import Derived.Test.YtnlnjhbckfcmfaaVT
namespace Go.Proofs.Ytnlnjhbckfcmfaa
open Go Go.RowKit Go.ChangeShapes Go.WideShapes Go.ChangeAt

/-- Whether it is a set of a tree's parts, and whether the top fails by it. -/
def fbOk (p s : Int) (gs : List Gt) : Bool := treeOk p gs && inB s 0 (2 ^ p.toNat - 1)
def fbRes (p s : Int) (gs : List Gt) : Bool := fbOk p s gs && failB gs s
theorem pow10 {p : Int} (h0 : 1 ≤ p) (h1 : p ≤ 10) : (2 : Int) ^ p.toNat ≤ 1024 ∧ (2 : Int) ≤ 2 ^ p.toNat := by
  obtain ⟨k, rfl⟩ := Int.eq_ofNat_of_zero_le (show 0 ≤ p by omega)
  simp only [Int.toNat_natCast]
  have : k = 1 ∨ k = 2 ∨ k = 3 ∨ k = 4 ∨ k = 5 ∨ k = 6 ∨ k = 7 ∨ k = 8 ∨ k = 9 ∨ k = 10 := by omega
  rcases this with h | h | h | h | h | h | h | h | h | h <;> subst h <;> decide
theorem l03Tree_eq {p : Int} {v : Value} {gs : List Gt} {c : Bool} (h : treeOk p gs = c) (w : World) (r : RdG w v gs) (hn : gs.length ≤ 1048576) : Calls Try.prog 92 #[.int .i64 p, v] w fun e w' => e = .returned (.bool c) ∧ w = w' := by
  subst h; exact l03Tree_any p v gs w r hn
theorem implValidTree_eq {p : Int} {v : Value} {gs : List Gt} {c : Bool} (h : treeOk p gs = c) (w : World) (r : RdG w v gs) (hn : gs.length ≤ 1048576) : Calls Try.prog 51 #[.int .i64 p, v] w fun e w' => e = .returned (.bool c) ∧ Ext w w' := by
  subst h; exact implValidTree_any p v gs w r hn

set_option maxHeartbeats 1000000 in
theorem specFailsBy_any (p s : Int) (v : Value) (gs : List Gt) (w : World) (r : RdG w v gs) (hn : gs.length ≤ 1048576) :
    Calls Try.prog 55 #[.int .i64 p, v, .int .i64 s] w fun e w' => e = .returned (.tuple #[.bool (fbRes p s gs), .bool (fbOk p s gs)]) ∧ Ext w w' := by
  cases ht : treeOk p gs
  · have H1 : Hid (fbRes p s gs = false) := by show _ = _; simp [fbRes, fbOk, ht]
    have H2 : Hid (fbOk p s gs = false) := by show _ = _; simp [fbOk, ht]
    have Ht := Lib.hid ht
    clear ht
    go_enter Try.func55, Try.ntmps55
    go_wp2_with fail
    refine (l03Tree_eq Ht.out _ r hn).mono ?_
    rintro e w1 ⟨rfl, rfl⟩
    have X := Ext.refl w
    go_wp2_with fail
    go_ret2
    rw [H1.out, H2.out]
    exact ⟨rfl, X⟩
  · have hp := (treeOk_get ht).1
    have hpw := pow10 hp.1 hp.2
    have HT := Lib.hid ht
    clear ht
    cases hs : inB s 0 (2 ^ p.toNat - 1)
    · have H1 : Hid (fbRes p s gs = false) := by show _ = _; simp [fbRes, fbOk, hs]
      have H2 : Hid (fbOk p s gs = false) := by show _ = _; simp [fbOk, hs]
      have Hs := Lib.hid hs
      clear hs
      go_enter Try.func55, Try.ntmps55
      go_wp2_with fail
      refine (l03Tree_eq HT.out _ r hn).mono ?_
      rintro e w1 ⟨rfl, rfl⟩
      have X := Ext.refl w
      go_wp2_with fail
      refine (l00In_eq Hs.out _).mono ?_
      rintro e w2 ⟨rfl, rfl⟩
      go_wp2_with fail
      go_ret2
      rw [H1.out, H2.out]
      exact ⟨rfl, X⟩
    · have H1 : Hid (fbRes p s gs = failB gs s) := by show _ = _; simp [fbRes, fbOk, hs, HT.out]
      have H2 : Hid (fbOk p s gs = true) := by show _ = _; simp [fbOk, hs, HT.out]
      have hs0 := inB_iff.1 hs
      have Hs := Lib.hid hs
      clear hs
      go_enter Try.func55, Try.ntmps55
      go_wp2_with fail
      refine (l03Tree_eq HT.out _ r hn).mono ?_
      rintro e w1 ⟨rfl, rfl⟩
      have X := Ext.refl w
      go_wp2_with fail
      refine (l00In_eq Hs.out _).mono ?_
      rintro e w2 ⟨rfl, rfl⟩
      go_wp2_with fail
      refine (l03Fails_any p s v gs _ (r.ext X) HT.out (by omega) (by omega)).mono ?_
      rintro e w2 ⟨rfl, hx⟩
      generalize hz : failB gs s = z at *
      go_wp2_with fail
      go_ret2
      rw [H1.out, H2.out]
      exact ⟨rfl, X.trans hx⟩
set_option maxHeartbeats 1000000 in
theorem implFailsBy_any (p s : Int) (v : Value) (gs : List Gt) (w : World) (r : RdG w v gs) (hn : gs.length ≤ 1048576) :
    Calls Try.prog 56 #[.int .i64 p, v, .int .i64 s] w fun e w' => e = .returned (.tuple #[.bool (fbRes p s gs), .bool (fbOk p s gs)]) ∧ Ext w w' := by
  cases ht : treeOk p gs
  · have H1 : Hid (fbRes p s gs = false) := by show _ = _; simp [fbRes, fbOk, ht]
    have H2 : Hid (fbOk p s gs = false) := by show _ = _; simp [fbOk, ht]
    have Ht := Lib.hid ht
    clear ht
    go_enter Try.func56, Try.ntmps56
    go_wp2_with fail
    refine (implValidTree_eq Ht.out _ r hn).mono ?_
    rintro e w1 ⟨rfl, X⟩
    skip
    go_wp2_with fail
    go_ret2
    rw [H1.out, H2.out]
    exact ⟨rfl, X⟩
  · have hp := (treeOk_get ht).1
    have hpw := pow10 hp.1 hp.2
    have HT := Lib.hid ht
    clear ht
    cases hs : inB s 0 (2 ^ p.toNat - 1)
    · have H1 : Hid (fbRes p s gs = false) := by show _ = _; simp [fbRes, fbOk, hs]
      have H2 : Hid (fbOk p s gs = false) := by show _ = _; simp [fbOk, hs]
      have Hs := Lib.hid hs
      clear hs
      go_enter Try.func56, Try.ntmps56
      go_wp2_with fail
      refine (implValidTree_eq HT.out _ r hn).mono ?_
      rintro e w1 ⟨rfl, X⟩
      skip
      go_wp2_with fail
      refine (within_eq Hs.out _).mono ?_
      rintro e w2 ⟨rfl, rfl⟩
      go_wp2_with fail
      go_ret2
      rw [H1.out, H2.out]
      exact ⟨rfl, X⟩
    · have H1 : Hid (fbRes p s gs = failB gs s) := by show _ = _; simp [fbRes, fbOk, hs, HT.out]
      have H2 : Hid (fbOk p s gs = true) := by show _ = _; simp [fbOk, hs, HT.out]
      have hs0 := inB_iff.1 hs
      have Hs := Lib.hid hs
      clear hs
      go_enter Try.func56, Try.ntmps56
      go_wp2_with fail
      refine (implValidTree_eq HT.out _ r hn).mono ?_
      rintro e w1 ⟨rfl, X⟩
      skip
      go_wp2_with fail
      refine (within_eq Hs.out _).mono ?_
      rintro e w2 ⟨rfl, rfl⟩
      go_wp2_with fail
      refine (fails_any p s v gs _ (r.ext X) HT.out (by omega) (by omega)).mono ?_
      rintro e w2 ⟨rfl, hx⟩
      generalize hz : failB gs s = z at *
      go_wp2_with fail
      go_ret2
      rw [H1.out, H2.out]
      exact ⟨rfl, X.trans hx⟩

theorem gateF_dat {s : Int} {fs : List Bool} {g h : Gt} (e : g.dat = h.dat) : gateF s fs g = gateF s fs h := by
  obtain ⟨a, b, c, d⟩ := g
  obtain ⟨a', b', c', d'⟩ := h
  simp only [Gt.dat, Prod.mk.injEq] at e
  obtain ⟨rfl, rfl, rfl⟩ := e
  rfl
theorem failV_dat {gs hs : List Gt} {s : Int} (e : gs.map Gt.dat = hs.map Gt.dat) : ∀ j, failV gs s j = failV hs s j
  | 0 => by have hl : gs.length = hs.length := by simpa using congrArg List.length e
            simp [failV, hl]
  | j + 1 => by
    have hl : gs.length = hs.length := by simpa using congrArg List.length e
    have h := congrArg (fun l => l[hs.length - 1 - j]?) e
    simp only [List.getElem?_map] at h
    simp only [failV, failV_dat e j, hl]
    congr 1
    cases h1 : gs[hs.length - 1 - j]? <;> cases h2 : hs[hs.length - 1 - j]? <;> rw [h1, h2] at h <;> simp at h
    simp only [Option.map_some, Option.getD_some]; exact gateF_dat h
theorem failB_dat {gs hs : List Gt} {s : Int} (e : gs.map Gt.dat = hs.map Gt.dat) : failB gs s = failB hs s := by
  have hl : gs.length = hs.length := by simpa using congrArg List.length e
  unfold failB; rw [failV_dat e, hl]
theorem fbOk_dat {p s : Int} {gs hs : List Gt} (e : gs.map Gt.dat = hs.map Gt.dat) : fbOk p s gs = fbOk p s hs := by unfold fbOk; rw [treeOk_dat e]
theorem fbRes_dat {p s : Int} {gs hs : List Gt} (e : gs.map Gt.dat = hs.map Gt.dat) : fbRes p s gs = fbRes p s hs := by unfold fbRes; rw [fbOk_dat e, failB_dat e]

set_option maxHeartbeats 1000000 in
theorem failsBy_law (p s : Int) (v : Value) (gs : List Gt) (w : World) (r : RdG w v gs) :
    Calls Try.prog 14 #[.int .i64 p, v, .int .i64 s] w fun e w' => e = .returned (.bool true) ∧ Ext w w' := by
  go_enter Try.func14, Try.ntmps14
  go_wp2_with fail
  refine (szGateS_any v gs 1048576 _ r (by decide) (by decide)).mono ?_
  rintro e w1 ⟨q, rfl, hq, X⟩
  by_cases hq0 : q < 0
  · clear hq
    go_wp2_with fail
    go_ret
    exact ⟨rfl, X⟩
  · obtain ⟨hn, hk⟩ : gs.length ≤ 1048576 ∧ ∀ g ∈ gs, g.kids.length ≤ 1048576 := by
      rcases hq with h | h
      · exact absurd h hq0
      · exact h.2
    have HK := Lib.hid hk
    clear hq hk
    replace r := r.ext X
    go_wp2_with fail
    refine (toGateS_any v gs _ r hn HK.out).mono ?_
    rintro e w2 ⟨b, ns, rfl, hd, hx, own⟩
    have D1 := Lib.hid hd
    have hl1 : ns.length ≤ 1048576 := by have := congrArg List.length hd; simp at this; omega
    clear hd
    replace X := X.trans hx; replace r := r.ext hx
    go_wp2_with fail
    refine (specFailsBy_any p s _ ns _ own.rd hl1).mono ?_
    rintro e w3 ⟨rfl, hx⟩
    replace X := X.trans hx; replace r := r.ext hx
    rw [fbRes_dat D1.out, fbOk_dat D1.out]
    go_wp2_with fail
    refine (toGateS_any v gs _ r hn HK.out).mono ?_
    rintro e w3 ⟨b2, ms, rfl, hd, hx, own2⟩
    have D2 := Lib.hid hd
    have hl2 : ms.length ≤ 1048576 := by have := congrArg List.length hd; simp at this; omega
    clear hd
    replace X := X.trans hx; replace r := r.ext hx
    go_wp2_with fail
    refine (implFailsBy_any p s _ ms _ own2.rd hl2).mono ?_
    rintro e w4 ⟨rfl, hx⟩
    replace X := X.trans hx; replace r := r.ext hx; replace own2 := own2.ext hx
    rw [fbRes_dat D2.out, fbOk_dat D2.out]
    generalize fbRes p s gs = z
    generalize fbOk p s gs = z2
    go_wp2_with fail
    refine (toGateS_any v gs _ r hn HK.out).mono ?_
    rintro e w5 ⟨b3, ls, rfl, hd, hx, own3⟩
    have D3 := Lib.hid hd
    clear hd
    replace X := X.trans hx; replace own2 := own2.ext hx
    go_wp2_with fail
    refine (eqGateS_any _ _ ms ls _ own2.rd own3.rd (D2.out.trans D3.out.symm)).mono ?_
    rintro e w6 ⟨rfl, hx⟩
    go_wp2_with fail
    go_ret
    exact ⟨rfl, X.trans hx⟩

theorem failsBy_walk (v1 v2 v3 : Value) (w : World) (h1 : ArgInt w v1) (h2 : ArgGates w v2) (h3 : ArgInt w v3) :
    Calls Try.prog 14 #[v1, v2, v3] w fun e w' => e = .returned (.bool true) ∧ Ext w w' := by
  obtain ⟨p, rfl, _⟩ := h1
  obtain ⟨a, l, c, gs, rfl, r⟩ := h2
  obtain ⟨s, rfl, _⟩ := h3
  exact failsBy_law p s _ gs w r

theorem fnExactFailsBy_own : ownKnob Try.prog.godebug = none := by kernel_rfl
theorem fnExactFailsBy_laid : laidOutB Try.prog = true := by kernel_rfl

set_option maxRecDepth 100000 in
theorem fnExactFailsBy_lifted (os : Os) (started : os.Started) (H : Type) (enc : TypeId × Value → H) :
    ReturnsInHanded {} Try.checked os 14 .any (Rows.fnExactFailsBySpec.pre6 enc Try.prog Try.f14 Rows.fnExactFailsByRow.domain false) (Rows.fnExactFailsBySpec.post enc Try.prog Try.f14 false true false false) := by
  refine returnsInHanded_of_change (C := Try.checked) fnExactFailsBy_own started (by kernel_rfl) Try.func14
    (ChangeSpec.witness6 (enc := enc) (C := Try.checked) false ⟨#[], #[.int .i64 0, .slice none 0 0, .int .i64 0], []⟩ 8 (by kernel_rfl) (by kernel_rfl) (by kernel_rfl) (by kernel_rfl)) ?_
  intro W base args ds gs before hval0 hW hcnd _
  have hval : ∀ (j : Nat) t v, Try.f14.params[j]? = some t → args[j]? = some v → Value.okWide Try.prog W .any base t v := hval0
  have hW' := hW
  obtain ⟨p, q, hA0, hV, rfl, hfz, hnd⟩ := hW
  have hA : DataW.TrodAll enc Try.prog W 0 (fun _ => true) true Try.f14.params.toList args.toList ds p := hA0
  rw [Try.params14] at hA hval
  obtain ⟨v0, vs0, d0, ds0, p0, q0, hargs, rfl, rfl, h0, r0⟩ := trodAll_cons hA
  obtain ⟨v1, vs1, d1, ds1, p1, q1, rfl, rfl, rfl, h1, r1⟩ := trodAll_cons r0
  obtain ⟨v2, vs2, d2, ds2, p2, q2, rfl, rfl, rfl, h2, r2⟩ := trodAll_cons r1
  obtain ⟨rfl, rfl, rfl⟩ := trodAll_nil r2
  obtain rfl : args = #[v0, v1, v2] := by cases args; simp_all
  obtain ⟨rfl, rfl⟩ := trodVars_none hV
  have lt0 : ∀ x ∈ p0, x.block < W.heap.size := by obtain ⟨m, hm⟩ := h0; exact DataW.trod_lt m _ _ _ hm
  have w0 := argInt Try.underlying2 (hval 0 2 v0 rfl rfl) h0
  have lt1 : ∀ x ∈ p1, x.block < W.heap.size := by obtain ⟨m, hm⟩ := h1; exact DataW.trod_lt m _ _ _ hm
  have w1 := argGates Try.underlying66 Try.underlying100 (by kernel_rfl) (by kernel_rfl) Try.underlying2 Try.underlying2 Try.underlying22 Try.underlying2 (by kernel_rfl) (hval 1 66 v1 rfl rfl) h1
  have lt2 : ∀ x ∈ p2, x.block < W.heap.size := by obtain ⟨m, hm⟩ := h2; exact DataW.trod_lt m _ _ _ hm
  have w2 := argInt Try.underlying2 (hval 2 2 v2 rfl rfl) h2
  clear hA0 hval0
  refine (failsBy_walk v0 v1 v2 W w0 w1 w2).mono fun e W' ⟨he, bel⟩ => ?_
  subst he
  exact ⟨_, rfl, _, _, _, [], _, [], hW', trodAll_mk1 (shut_bool Try.underlying4 _), (trodAll_cons_mk (Below.trod fnExactFailsBy_laid (by kernel_rfl) (of_decide_eq_true (by kernel_rfl)) h0 bel lt0) (trodAll_cons_mk (Below.trod fnExactFailsBy_laid (by kernel_rfl) (of_decide_eq_true (by kernel_rfl)) h1 bel lt1) (trodAll_cons_mk (Below.trod fnExactFailsBy_laid (by kernel_rfl) (of_decide_eq_true (by kernel_rfl)) h2 bel lt2) trodAll_mk0))), rfl, bel.below.frame _, fun h => by cases h⟩

theorem fnExactFailsBy_toL {s : String} {L : List Char} (h : s = String.ofList L) : s.toList = L := by rw [h]; exact String.toList_ofList
def fnExactFailsBy_enterF (P : Program) : { F : List Char → Bool // P.mayEnter = F P.initOrder.toList } :=
  ⟨_, by unfold Program.mayEnter; generalize P.initOrder.toList = l; exact rfl⟩
def fnExactFailsBy_liftsF (P : Program) : { F : List Char → Bool // P.liftsFinal = F P.initOrder.toList } :=
  ⟨_, by unfold Program.liftsFinal Program.headLifts; generalize P.initOrder.toList = l; exact rfl⟩
def fnExactFailsBy_makeF (P : Program) : { F : List Char → Option Make // P.make = F P.initOrder.toList } :=
  ⟨_, by unfold Program.make; generalize P.initOrder.toList = l; exact rfl⟩
set_option maxRecDepth 100000 in
theorem fnExactFailsBy_enter : Try.checked.prog.mayEnter = true :=
  ((fnExactFailsBy_enterF Try.checked.prog).2.trans (congrArg (fnExactFailsBy_enterF Try.checked.prog).1 (fnExactFailsBy_toL (rfl : Try.checked.prog.initOrder = String.ofList _)))).trans (by kernel_rfl)
set_option maxRecDepth 100000 in
theorem fnExactFailsBy_lifts : Try.checked.prog.liftsFinal = false :=
  ((fnExactFailsBy_liftsF Try.checked.prog).2.trans (congrArg (fnExactFailsBy_liftsF Try.checked.prog).1 (fnExactFailsBy_toL (rfl : Try.checked.prog.initOrder = String.ofList _)))).trans (by kernel_rfl)
set_option maxRecDepth 100000 in
theorem fnExactFailsBy_make : Try.checked.prog.make = some .cut :=
  ((fnExactFailsBy_makeF Try.checked.prog).2.trans (congrArg (fnExactFailsBy_makeF Try.checked.prog).1 (fnExactFailsBy_toL (rfl : Try.checked.prog.initOrder = String.ofList _)))).trans (by kernel_rfl)
set_option maxRecDepth 100000 in
theorem fnExactFailsBy_closed : joinedFacts Try.checked.prog 14 Try.f14 Rows.fnExactFailsBySpec Rows.fnExactFailsByRow = true := by
  unfold joinedFacts
  rw [fnExactFailsBy_enter, fnExactFailsBy_lifts, fnExactFailsBy_make]
  decide +kernel

theorem fnExactFailsBy_over : Rows.fnExactFailsByRow.holds Try.pinned (OpenSpec.ofChange Rows.fnExactFailsBySpec) :=
  OpenClaim.holds_of_wide 14 Try.f14 rfl rfl rfl rfl rfl rfl rfl ⟨rfl, rfl, rfl, rfl, rfl⟩ rfl rfl rfl rfl rfl (by kernel_rfl) Try.func14 fnExactFailsBy_closed
    (of_decide_eq_true (by kernel_rfl)) (by unfold Func.isWrapper; first | (rw [if_pos (by decide +kernel)]; kernel_rfl) | (rw [if_neg (by decide +kernel)]; exact ⟨rfl, rfl⟩))
    (fun os started H enc _ => fnExactFailsBy_lifted os started H enc)

/-- The statement. -/
theorem fnExactFailsBy_holds : Rows.FnExactFailsBySaid := fnExactFailsBy_over


end Go.Proofs.Ytnlnjhbckfcmfaa
