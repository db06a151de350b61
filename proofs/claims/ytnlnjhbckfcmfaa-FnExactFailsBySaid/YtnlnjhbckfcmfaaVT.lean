/- FnExactValidTree returns true for every input and changes nothing that was there. No condition. -/
import Derived.Test.YtnlnjhbckfcmfaaTW
import Derived.Test.YtnlnjhbckfcmfaaGA
import Derived.Test.YtnlnjhbckfcmfaaRows
namespace Go.Proofs.Ytnlnjhbckfcmfaa
open Go Go.RowKit Go.ChangeShapes Go.WideShapes Go.ChangeAt

theorem gateOk_dat {p : Int} {n i : Nat} {g h : Gt} (e : g.dat = h.dat) : gateOk p n i g = gateOk p n i h := by
  obtain ⟨a, b, c, d⟩ := g
  obtain ⟨a', b', c', d'⟩ := h
  simp only [Gt.dat, Prod.mk.injEq] at e
  obtain ⟨rfl, rfl, rfl⟩ := e
  rfl
theorem treeOk_dat {p : Int} {gs hs : List Gt} (e : gs.map Gt.dat = hs.map Gt.dat) : treeOk p gs = treeOk p hs := by
  have hl : gs.length = hs.length := by simpa using congrArg List.length e
  unfold treeOk
  rw [hl]
  congr 1
  have : ∀ i, (gs[i]?.map (gateOk p hs.length i)).getD true = (hs[i]?.map (gateOk p hs.length i)).getD true := by
    intro i
    have h := congrArg (fun l => l[i]?) e
    simp only [List.getElem?_map] at h
    cases h1 : gs[i]? <;> cases h2 : hs[i]? <;> rw [h1, h2] at h <;> simp at h
    simp only [Option.map_some, Option.getD_some]; exact gateOk_dat h
  simp only [this]

theorem specValidTree_any (p : Int) (v : Value) (gs : List Gt) (w : World) (r : RdG w v gs) (hn : gs.length ≤ 1048576) :
    Calls Try.prog 49 #[.int .i64 p, v] w fun e w' => e = .returned (.bool (treeOk p gs)) ∧ w = w' := by
  go_enter Try.func49, Try.ntmps49
  go_wp2_with fail
  refine (l03Tree_any p v gs w r hn).mono ?_
  rintro e w1 ⟨rfl, rfl⟩
  generalize hz : treeOk p gs = z
  go_wp2_with fail
  go_ret
  exact ⟨ret_bool hz.symm, rfl⟩

set_option maxHeartbeats 1000000 in
theorem validTree_law (p : Int) (v : Value) (gs : List Gt) (w : World) (r : RdG w v gs) :
    Calls Try.prog 11 #[.int .i64 p, v] w fun e w' => e = .returned (.bool true) ∧ Ext w w' := by
  go_enter Try.func11, Try.ntmps11
  go_wp2_with fail
  refine (szGateS_any v gs 1048576 _ r (by decide) (by decide)).mono ?_
  rintro e w1 ⟨q, rfl, hq, X⟩
  by_cases hq0 : q < 0
  · clear hq
    go_wp2_with fail
    go_ret
    exact ⟨rfl, X⟩
  · obtain ⟨hn, hk⟩ : gs.length ≤ 1048576 ∧ ∀ g ∈ gs, g.kids.length ≤ 1048576 := by
      rcases hq with h | h
      · exact absurd h hq0
      · exact h.2
    have HK := Lib.hid hk
    clear hq hk
    replace r := r.ext X
    go_wp2_with fail
    refine (toGateS_any v gs _ r hn HK.out).mono ?_
    rintro e w2 ⟨b, ns, rfl, hd, hx, own⟩
    have D1 := Lib.hid hd
    have hl1 : ns.length ≤ 1048576 := by have := congrArg List.length hd; simp at this; omega
    clear hd
    replace X := X.trans hx; replace r := r.ext hx
    go_wp2_with fail
    refine (specValidTree_any p _ ns _ own.rd hl1).mono ?_
    rintro e w3 ⟨rfl, rfl⟩
    have T1 := Lib.hid (treeOk_dat (p := p) D1.out)
    go_wp2_with fail
    refine (toGateS_any v gs _ r hn HK.out).mono ?_
    rintro e w3 ⟨b2, ms, rfl, hd, hx, own2⟩
    have D2 := Lib.hid hd
    have hl2 : ms.length ≤ 1048576 := by have := congrArg List.length hd; simp at this; omega
    clear hd
    replace X := X.trans hx; replace r := r.ext hx
    have T2 := Lib.hid (treeOk_dat (p := p) D2.out)
    go_wp2_with fail
    refine (implValidTree_any p _ ms _ own2.rd hl2).mono ?_
    rintro e w4 ⟨rfl, hx⟩
    replace X := X.trans hx; replace r := r.ext hx; replace own2 := own2.ext hx
    rw [T1.out, T2.out]
    generalize treeOk p gs = z
    clear T1 T2
    go_wp2_with fail
    refine (toGateS_any v gs _ r hn HK.out).mono ?_
    rintro e w5 ⟨b3, ls, rfl, hd, hx, own3⟩
    have D3 := Lib.hid hd
    clear hd
    replace X := X.trans hx; replace own2 := own2.ext hx
    go_wp2_with fail
    refine (eqGateS_any _ _ ms ls _ own2.rd own3.rd (D2.out.trans D3.out.symm)).mono ?_
    rintro e w6 ⟨rfl, hx⟩
    go_wp2_with fail
    go_ret
    exact ⟨rfl, X.trans hx⟩

theorem validTree_walk (v1 v2 : Value) (w : World) (h1 : ArgInt w v1) (h2 : ArgGates w v2) :
    Calls Try.prog 11 #[v1, v2] w fun e w' => e = .returned (.bool true) ∧ Ext w w' := by
  obtain ⟨p, rfl, _⟩ := h1
  obtain ⟨a, l, c, gs, rfl, r⟩ := h2
  exact validTree_law p _ gs w r

theorem fnExactValidTree_own : ownKnob Try.prog.godebug = none := by kernel_rfl
theorem fnExactValidTree_laid : laidOutB Try.prog = true := by kernel_rfl

set_option maxRecDepth 100000 in
theorem fnExactValidTree_lifted (os : Os) (started : os.Started) (H : Type) (enc : TypeId × Value → H) :
    ReturnsInHanded {} Try.checked os 11 .any (Rows.fnExactValidTreeSpec.pre6 enc Try.prog Try.f11 Rows.fnExactValidTreeRow.domain false) (Rows.fnExactValidTreeSpec.post enc Try.prog Try.f11 false true false false) := by
  refine returnsInHanded_of_change (C := Try.checked) fnExactValidTree_own started (by kernel_rfl) Try.func11
    (ChangeSpec.witness6 (enc := enc) (C := Try.checked) false ⟨#[], #[.int .i64 0, .slice none 0 0], []⟩ 8 (by kernel_rfl) (by kernel_rfl) (by kernel_rfl) (by kernel_rfl)) ?_
  intro W base args ds gs before hval0 hW hcnd _
  have hval : ∀ (j : Nat) t v, Try.f11.params[j]? = some t → args[j]? = some v → Value.okWide Try.prog W .any base t v := hval0
  have hW' := hW
  obtain ⟨p, q, hA0, hV, rfl, hfz, hnd⟩ := hW
  have hA : DataW.TrodAll enc Try.prog W 0 (fun _ => true) true Try.f11.params.toList args.toList ds p := hA0
  rw [Try.params11] at hA hval
  obtain ⟨v0, vs0, d0, ds0, p0, q0, hargs, rfl, rfl, h0, r0⟩ := trodAll_cons hA
  obtain ⟨v1, vs1, d1, ds1, p1, q1, rfl, rfl, rfl, h1, r1⟩ := trodAll_cons r0
  obtain ⟨rfl, rfl, rfl⟩ := trodAll_nil r1
  obtain rfl : args = #[v0, v1] := by cases args; simp_all
  obtain ⟨rfl, rfl⟩ := trodVars_none hV
  have lt0 : ∀ x ∈ p0, x.block < W.heap.size := by obtain ⟨m, hm⟩ := h0; exact DataW.trod_lt m _ _ _ hm
  have w0 := argInt Try.underlying2 (hval 0 2 v0 rfl rfl) h0
  have lt1 : ∀ x ∈ p1, x.block < W.heap.size := by obtain ⟨m, hm⟩ := h1; exact DataW.trod_lt m _ _ _ hm
  have w1 := argGates Try.underlying66 Try.underlying100 (by kernel_rfl) (by kernel_rfl) Try.underlying2 Try.underlying2 Try.underlying22 Try.underlying2 (by kernel_rfl) (hval 1 66 v1 rfl rfl) h1
  clear hA0 hval0
  refine (validTree_walk v0 v1 W w0 w1).mono fun e W' ⟨he, bel⟩ => ?_
  subst he
  exact ⟨_, rfl, _, _, _, [], _, [], hW', trodAll_mk1 (shut_bool Try.underlying4 _), (trodAll_cons_mk (Below.trod fnExactValidTree_laid (by kernel_rfl) (of_decide_eq_true (by kernel_rfl)) h0 bel lt0) (trodAll_cons_mk (Below.trod fnExactValidTree_laid (by kernel_rfl) (of_decide_eq_true (by kernel_rfl)) h1 bel lt1) trodAll_mk0)), rfl, bel.below.frame _, fun h => by cases h⟩

theorem fnExactValidTree_toL {s : String} {L : List Char} (h : s = String.ofList L) : s.toList = L := by rw [h]; exact String.toList_ofList
def fnExactValidTree_enterF (P : Program) : { F : List Char → Bool // P.mayEnter = F P.initOrder.toList } :=
  ⟨_, by unfold Program.mayEnter; generalize P.initOrder.toList = l; exact rfl⟩
def fnExactValidTree_liftsF (P : Program) : { F : List Char → Bool // P.liftsFinal = F P.initOrder.toList } :=
  ⟨_, by unfold Program.liftsFinal Program.headLifts; generalize P.initOrder.toList = l; exact rfl⟩
def fnExactValidTree_makeF (P : Program) : { F : List Char → Option Make // P.make = F P.initOrder.toList } :=
  ⟨_, by unfold Program.make; generalize P.initOrder.toList = l; exact rfl⟩
set_option maxRecDepth 100000 in
theorem fnExactValidTree_enter : Try.checked.prog.mayEnter = true :=
  ((fnExactValidTree_enterF Try.checked.prog).2.trans (congrArg (fnExactValidTree_enterF Try.checked.prog).1 (fnExactValidTree_toL (rfl : Try.checked.prog.initOrder = String.ofList _)))).trans (by kernel_rfl)
set_option maxRecDepth 100000 in
theorem fnExactValidTree_lifts : Try.checked.prog.liftsFinal = false :=
  ((fnExactValidTree_liftsF Try.checked.prog).2.trans (congrArg (fnExactValidTree_liftsF Try.checked.prog).1 (fnExactValidTree_toL (rfl : Try.checked.prog.initOrder = String.ofList _)))).trans (by kernel_rfl)
set_option maxRecDepth 100000 in
theorem fnExactValidTree_make : Try.checked.prog.make = some .cut :=
  ((fnExactValidTree_makeF Try.checked.prog).2.trans (congrArg (fnExactValidTree_makeF Try.checked.prog).1 (fnExactValidTree_toL (rfl : Try.checked.prog.initOrder = String.ofList _)))).trans (by kernel_rfl)
set_option maxRecDepth 100000 in
theorem fnExactValidTree_closed : joinedFacts Try.checked.prog 11 Try.f11 Rows.fnExactValidTreeSpec Rows.fnExactValidTreeRow = true := by
  unfold joinedFacts
  rw [fnExactValidTree_enter, fnExactValidTree_lifts, fnExactValidTree_make]
  decide +kernel

theorem fnExactValidTree_over : Rows.fnExactValidTreeRow.holds Try.pinned (OpenSpec.ofChange Rows.fnExactValidTreeSpec) :=
  OpenClaim.holds_of_wide 11 Try.f11 rfl rfl rfl rfl rfl rfl rfl ⟨rfl, rfl, rfl, rfl, rfl⟩ rfl rfl rfl rfl rfl (by kernel_rfl) Try.func11 fnExactValidTree_closed
    (of_decide_eq_true (by kernel_rfl)) (by unfold Func.isWrapper; first | (rw [if_pos (by decide +kernel)]; kernel_rfl) | (rw [if_neg (by decide +kernel)]; exact ⟨rfl, rfl⟩))
    (fun os started H enc _ => fnExactValidTree_lifted os started H enc)

/-- The statement. -/
theorem fnExactValidTree_holds : Rows.FnExactValidTreeSaid := fnExactValidTree_over


end Go.Proofs.Ytnlnjhbckfcmfaa
