/- FnExactDiagramChance returns true for every input and changes nothing that was there. No condition. -/
import Derived.Test.YtnlnjhbckfcmfaaDI
import Derived.Test.YtnlnjhbckfcmfaaMD
import Derived.Test.YtnlnjhbckfcmfaaSC
namespace Go.Proofs.Ytnlnjhbckfcmfaa
open Go Go.RowKit Go.ChangeShapes Go.WideShapes Go.ChangeAt

theorem toInts_any (v : Value) (zs : List Int) (w : World) (r : RdI w v zs) (hn : zs.length ≤ 1048576) :
    Calls Try.prog 28 #[v] w fun e w' => ∃ g, e = .returned (.slice (some ⟨g, 0, none⟩) zs.length zs.length) ∧ Ext w w' ∧ w'.ownsRow w.heap.size 2 1 (.slice (some ⟨g, 0, none⟩) zs.length zs.length) zs.length (zs.map (Value.int .i64)) :=
  toInt64S_any v zs.length (zs.map (Value.int .i64)) w r (by intro x hx; obtain ⟨z, _, rfl⟩ := List.mem_map.1 hx; exact ⟨z, rfl⟩) hn
theorem eqInts_any (v1 v2 : Value) (zs : List Int) (w : World) (r1 : RdI w v1 zs) (r2 : RdI w v2 zs) :
    Calls Try.prog 32 #[v1, v2] w fun e w' => e = .returned (.bool true) ∧ Ext w w' := by
  refine (eqInt64S_any v1 v2 zs zs w r1 r2).mono ?_
  rintro e w' ⟨rfl, m, rfl⟩
  exact ⟨by simp, Ext.drewN _ _⟩

theorem toFloats_any (v : Value) (bs : List Nat) (w : World) (r : RdF w v bs) (hn : bs.length ≤ 1048576) :
    Calls Try.prog 29 #[v] w fun e w' => ∃ g, e = .returned (.slice (some ⟨g, 0, none⟩) bs.length bs.length) ∧ Ext w w' ∧ w'.ownsRow w.heap.size 40 1 (.slice (some ⟨g, 0, none⟩) bs.length bs.length) bs.length (bs.map (Value.float .f32)) ∧ RdF w' (.slice (some ⟨g, 0, none⟩) bs.length bs.length) bs := by
  refine (toFloat32S_any v bs.length (bs.map (Value.float .f32)) w r.1 (by intro x hx; obtain ⟨z, _, rfl⟩ := List.mem_map.1 hx; exact ⟨z, rfl⟩) hn).mono ?_
  rintro e w' ⟨g, rfl, hx, own⟩
  exact ⟨g, rfl, hx, own, own_rd own, r.2⟩
/-- A number and whether there is one, told the same on both sides. -/
theorem nmPost_two {o : Option Nat} {w w' : World} {e : Ending} (h : NmPost o w e w') : ∃ b c, e = .returned (.tuple #[.float .f32 b, .bool c]) ∧ Hid (cn .f32 b = o.getD (cn .f32 0) ∧ c = o.isSome) ∧ Ext w w' := by
  obtain ⟨X, h⟩ := h
  cases o with
  | none => exact ⟨0, false, h, ⟨rfl, rfl⟩, X⟩
  | some x => obtain ⟨b, rfl, h, _⟩ := h; exact ⟨b, true, rfl, ⟨h, rfl⟩, X⟩

set_option maxRecDepth 100000 in
set_option maxHeartbeats 4000000 in
theorem diagramChance_law (v1 v2 : Value) (D : List Int) (bs : List Nat) (w : World) (r1 : RdI w v1 D) (r2 : RdF w v2 bs) :
    Calls Try.prog 6 #[v1, v2] w fun e w' => e = .returned (.bool true) ∧ Ext w w' := by
  have r1' := r1
  have r2' := r2
  obtain ⟨-, a1, c1, rfl, p1, p2, -, -⟩ := r1
  obtain ⟨⟨-, a2, c2, rfl, q1, q2, -, -⟩, -⟩ := r2
  have p3 : D.length ≤ maxLen := Nat.le_trans p1 p2
  have q3 : bs.length ≤ maxLen := Nat.le_trans q1 q2
  clear p1 p2 q1 q2
  unfold maxLen at p3 q3
  have wa : (Try.prog.underlying 40).isSome = true := by kernel_rfl
  go_enter Try.func6, Try.ntmps6
  go_wp2_with fail
  any_goals (go_ret; exact ⟨rfl, Ext.refl _⟩)
  have d1 : D.length ≤ 1048576 := by omega
  have d2 : bs.length ≤ 1048576 := by omega
  refine (toInts_any _ D _ r1' d1).mono ?_
  rintro e w1 ⟨g1, rfl, hx, o1⟩
  have s1 := own_rd o1
  have X := hx
  replace r1' := r1'.ext hx; replace r2' := r2'.ext hx
  clear hx o1
  go_wp2_with fail
  refine (toFloats_any _ bs _ r2' d2).mono ?_
  rintro e w2 ⟨g2, rfl, hx, -, s2⟩
  replace X := X.trans hx; replace r1' := r1'.ext hx; replace r2' := r2'.ext hx; replace s1 := Rd.ext s1 hx
  clear hx
  go_wp2_with fail
  refine (specDC_any _ _ D bs _ s1 s2).mono ?_
  intro e w3 h
  obtain ⟨b, c, rfl, hb, hx⟩ := nmPost_two h
  replace X := X.trans hx; replace r1' := r1'.ext hx; replace r2' := r2'.ext hx
  clear hx h s1 s2
  go_wp2_with fail
  refine (toInts_any _ D _ r1' d1).mono ?_
  rintro e w4 ⟨g3, rfl, hx, o1⟩
  have s1 := own_rd o1
  replace X := X.trans hx; replace r1' := r1'.ext hx; replace r2' := r2'.ext hx
  clear hx o1
  go_wp2_with fail
  refine (toFloats_any _ bs _ r2' d2).mono ?_
  rintro e w5 ⟨g4, rfl, hx, -, s2⟩
  replace X := X.trans hx; replace r1' := r1'.ext hx; replace r2' := r2'.ext hx; replace s1 := Rd.ext s1 hx
  clear hx
  go_wp2_with fail
  refine (implDC_any _ _ D bs _ s1 s2).mono ?_
  intro e w6 h
  obtain ⟨b', c', rfl, hb', hx⟩ := nmPost_two h
  replace X := X.trans hx; replace r1' := r1'.ext hx; replace r2' := r2'.ext hx; replace s1 := Rd.ext s1 hx; replace s2 := s2.ext hx
  clear hx h
  have hcc : c' = c := hb'.out.2.trans hb.out.2.symm
  subst hcc
  have Hbb : Hid (cn .f32 b' = cn .f32 b) := hb'.out.1.trans hb.out.1.symm
  clear hb hb'
  go_wp2_with (first | (refine wpList_wide wa Try.underlying46 rfl rfl rfl ?_; intro zb zn hzb hzl; clear hzl; first | (have hsame := Lib.hid (wide_same Hbb.out hza.out hzb); clear hzb) | (have hza := Lib.hid hzb; clear hzb)))
  refine (sameFloat_any _ _ _ hsame.out).mono ?_
  rintro e w7 ⟨rfl, hx⟩
  replace hx := (Ext.drewN _ _).trans hx
  replace X := X.trans hx; replace r1' := r1'.ext hx; replace r2' := r2'.ext hx; replace s1 := Rd.ext s1 hx; replace s2 := s2.ext hx
  clear hx
  go_wp2_with fail
  refine (toInts_any _ D _ r1' d1).mono ?_
  rintro e w8 ⟨g5, rfl, hx, o1⟩
  have t1 := own_rd o1
  replace X := X.trans hx; replace r2' := r2'.ext hx; replace s1 := Rd.ext s1 hx; replace s2 := s2.ext hx
  clear hx o1
  go_wp2_with fail
  refine (eqInts_any _ _ D _ s1 t1).mono ?_
  rintro e w9 ⟨rfl, hx⟩
  replace X := X.trans hx; replace r2' := r2'.ext hx; replace s2 := s2.ext hx
  clear hx s1 t1
  go_wp2_with fail
  refine (toFloats_any _ bs _ r2' d2).mono ?_
  rintro e w10 ⟨g6, rfl, hx, -, t2⟩
  replace X := X.trans hx; replace s2 := s2.ext hx
  clear hx
  go_wp2_with fail
  refine (eqFloat32S_any _ _ bs bs _ s2 t2 rfl).mono ?_
  rintro e w11 ⟨rfl, hx⟩
  go_wp2_with fail
  go_ret
  exact ⟨rfl, X.trans hx⟩

theorem diagramChance_walk (v1 v2 : Value) (w : World) (h1 : ArgInts w v1) (h2 : ArgFloats w v2) :
    Calls Try.prog 6 #[v1, v2] w fun e w' => e = .returned (.bool true) ∧ Ext w w' := by
  obtain ⟨a, l, c, D, rfl, r1, _⟩ := h1
  obtain ⟨a', l', c', bs, rfl, r2⟩ := h2
  exact diagramChance_law _ _ D bs w r1 r2

theorem fnExactDiagramChance_own : ownKnob Try.prog.godebug = none := by kernel_rfl
theorem fnExactDiagramChance_laid : laidOutB Try.prog = true := by kernel_rfl

set_option maxRecDepth 100000 in
theorem fnExactDiagramChance_lifted (os : Os) (started : os.Started) (H : Type) (enc : TypeId × Value → H) :
    ReturnsInHanded {} Try.checked os 6 .any (Rows.fnExactDiagramChanceSpec.pre6 enc Try.prog Try.f6 Rows.fnExactDiagramChanceRow.domain false) (Rows.fnExactDiagramChanceSpec.post enc Try.prog Try.f6 false true false false) := by
  refine returnsInHanded_of_change (C := Try.checked) fnExactDiagramChance_own started (by kernel_rfl) Try.func6
    (ChangeSpec.witness6 (enc := enc) (C := Try.checked) false ⟨#[], #[.slice none 0 0, .slice none 0 0], []⟩ 8 (by kernel_rfl) (by kernel_rfl) (by kernel_rfl) (by kernel_rfl)) ?_
  intro W base args ds gs before hval0 hW hcnd _
  have hval : ∀ (j : Nat) t v, Try.f6.params[j]? = some t → args[j]? = some v → Value.okWide Try.prog W .any base t v := hval0
  have hW' := hW
  obtain ⟨p, q, hA0, hV, rfl, hfz, hnd⟩ := hW
  have hA : DataW.TrodAll enc Try.prog W 0 (fun _ => true) true Try.f6.params.toList args.toList ds p := hA0
  rw [Try.params6] at hA hval
  obtain ⟨v0, vs0, d0, ds0, p0, q0, hargs, rfl, rfl, h0, r0⟩ := trodAll_cons hA
  obtain ⟨v1, vs1, d1, ds1, p1, q1, rfl, rfl, rfl, h1, r1⟩ := trodAll_cons r0
  obtain ⟨rfl, rfl, rfl⟩ := trodAll_nil r1
  obtain rfl : args = #[v0, v1] := by cases args; simp_all
  obtain ⟨rfl, rfl⟩ := trodVars_none hV
  have lt0 : ∀ x ∈ p0, x.block < W.heap.size := by obtain ⟨m, hm⟩ := h0; exact DataW.trod_lt m _ _ _ hm
  have w0 := argInts Try.underlying22 Try.underlying2 (by kernel_rfl) (hval 0 22 v0 rfl rfl) h0
  have lt1 : ∀ x ∈ p1, x.block < W.heap.size := by obtain ⟨m, hm⟩ := h1; exact DataW.trod_lt m _ _ _ hm
  have w1 := argFloats Try.underlying30 Try.underlying40 (by kernel_rfl) (hval 1 30 v1 rfl rfl) h1
  clear hA0 hval0
  refine (diagramChance_walk v0 v1 W w0 w1).mono fun e W' ⟨he, bel⟩ => ?_
  subst he
  exact ⟨_, rfl, _, _, _, [], _, [], hW', trodAll_mk1 (shut_bool Try.underlying4 _), (trodAll_cons_mk (Below.trod fnExactDiagramChance_laid (by kernel_rfl) (of_decide_eq_true (by kernel_rfl)) h0 bel lt0) (trodAll_cons_mk (Below.trod fnExactDiagramChance_laid (by kernel_rfl) (of_decide_eq_true (by kernel_rfl)) h1 bel lt1) trodAll_mk0)), rfl, bel.below.frame _, fun h => by cases h⟩

theorem fnExactDiagramChance_toL {s : String} {L : List Char} (h : s = String.ofList L) : s.toList = L := by rw [h]; exact String.toList_ofList
def fnExactDiagramChance_enterF (P : Program) : { F : List Char → Bool // P.mayEnter = F P.initOrder.toList } :=
  ⟨_, by unfold Program.mayEnter; generalize P.initOrder.toList = l; exact rfl⟩
def fnExactDiagramChance_liftsF (P : Program) : { F : List Char → Bool // P.liftsFinal = F P.initOrder.toList } :=
  ⟨_, by unfold Program.liftsFinal Program.headLifts; generalize P.initOrder.toList = l; exact rfl⟩
def fnExactDiagramChance_makeF (P : Program) : { F : List Char → Option Make // P.make = F P.initOrder.toList } :=
  ⟨_, by unfold Program.make; generalize P.initOrder.toList = l; exact rfl⟩
set_option maxRecDepth 100000 in
theorem fnExactDiagramChance_enter : Try.checked.prog.mayEnter = true :=
  ((fnExactDiagramChance_enterF Try.checked.prog).2.trans (congrArg (fnExactDiagramChance_enterF Try.checked.prog).1 (fnExactDiagramChance_toL (rfl : Try.checked.prog.initOrder = String.ofList _)))).trans (by kernel_rfl)
set_option maxRecDepth 100000 in
theorem fnExactDiagramChance_lifts : Try.checked.prog.liftsFinal = false :=
  ((fnExactDiagramChance_liftsF Try.checked.prog).2.trans (congrArg (fnExactDiagramChance_liftsF Try.checked.prog).1 (fnExactDiagramChance_toL (rfl : Try.checked.prog.initOrder = String.ofList _)))).trans (by kernel_rfl)
set_option maxRecDepth 100000 in
theorem fnExactDiagramChance_make : Try.checked.prog.make = some .cut :=
  ((fnExactDiagramChance_makeF Try.checked.prog).2.trans (congrArg (fnExactDiagramChance_makeF Try.checked.prog).1 (fnExactDiagramChance_toL (rfl : Try.checked.prog.initOrder = String.ofList _)))).trans (by kernel_rfl)
set_option maxRecDepth 100000 in
theorem fnExactDiagramChance_closed : joinedFacts Try.checked.prog 6 Try.f6 Rows.fnExactDiagramChanceSpec Rows.fnExactDiagramChanceRow = true := by
  unfold joinedFacts
  rw [fnExactDiagramChance_enter, fnExactDiagramChance_lifts, fnExactDiagramChance_make]
  decide +kernel

theorem fnExactDiagramChance_over : Rows.fnExactDiagramChanceRow.holds Try.pinned (OpenSpec.ofChange Rows.fnExactDiagramChanceSpec) :=
  OpenClaim.holds_of_wide 6 Try.f6 rfl rfl rfl rfl rfl rfl rfl ⟨rfl, rfl, rfl, rfl, rfl⟩ rfl rfl rfl rfl rfl (by kernel_rfl) Try.func6 fnExactDiagramChance_closed
    (of_decide_eq_true (by kernel_rfl)) (by unfold Func.isWrapper; first | (rw [if_pos (by decide +kernel)]; kernel_rfl) | (rw [if_neg (by decide +kernel)]; exact ⟨rfl, rfl⟩))
    (fun os started H enc _ => fnExactDiagramChance_lifted os started H enc)

/-- The statement. -/
theorem fnExactDiagramChance_holds : Rows.FnExactDiagramChanceSaid := fnExactDiagramChance_over


end Go.Proofs.Ytnlnjhbckfcmfaa
