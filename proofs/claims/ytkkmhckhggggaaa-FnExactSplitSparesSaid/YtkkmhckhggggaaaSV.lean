
/- FnExactSplitSpares returns true for every input and changes nothing that was there. No condition. -/
import Derived.Test.YtkkmhckhggggaaaSv
import Derived.Test.YtkkmhckhggggaaaMi
namespace Go.Proofs.Ytkkmhckhggggaaa
open Go Go.RowKit Go.ChangeShapes Go.WideShapes Go.ChangeAt

theorem eqInt64S_eq {v1 v2 : Value} {zs : List Int} {w : World} (r1 : RdI w v1 zs) (r2 : RdI w v2 zs) : Calls Try.prog 57 #[v1, v2] w fun e w' => e = .returned (.bool true) ∧ Ext w w' := by
  refine (eqInt64S_any v1 v2 zs zs w r1 r2).mono ?_
  rintro e w' ⟨rfl, m, rfl⟩
  exact ⟨by simp, Ext.drewN _ _⟩
/-- A list of the call's own, or nothing. -/
def OwI (B : Nat) (w : World) (v : Value) (zs : List Int) : Prop := (v = .slice none 0 0 ∧ zs = []) ∨ ∃ g cap, v = .slice (some ⟨g, 0, none⟩) zs.length cap ∧ w.ownsRow B 2 1 (.slice (some ⟨g, 0, none⟩) zs.length cap) zs.length (zs.map (Value.int .i64))
theorem OwI.rd {B : Nat} {w : World} {v : Value} {zs : List Int} (h : OwI B w v zs) : RdI w v zs := by
  rcases h with ⟨rfl, rfl⟩ | ⟨g, cap, rfl, own⟩
  · exact RdI_nil _
  · exact own_rd own
theorem OwI.ext {B : Nat} {w w' : World} {v : Value} {zs : List Int} (h : OwI B w v zs) (hx : Ext w w') : OwI B w' v zs := by
  rcases h with h | ⟨g, cap, rfl, own⟩
  · exact .inl h
  · exact .inr ⟨g, cap, rfl, own_ext own hx⟩
theorem OwI.grown {B g : Nat} {w w' : World} {v : Value} {zs : List Int} (h : OwI B w v zs) (hg : w.grownBy w' (some g)) (hne : g < B) : OwI B w' v zs := by
  rcases h with h | ⟨g2, cap, rfl, own⟩
  · exact .inl h
  · exact .inr ⟨g2, cap, rfl, own_grown own hg hne⟩
theorem ilPost_own {o : Option (List Int)} {w w' : World} {e : Ending} (h : IlPost o w e w') : ∃ v, e = .returned (.tuple #[v, .bool o.isSome]) ∧ OwI w.heap.size w' v (o.getD []) ∧ Ext w w' := by
  obtain ⟨X, h⟩ := h
  cases o with
  | none => exact ⟨_, h, .inl ⟨rfl, rfl⟩, X⟩
  | some zs => obtain ⟨g, cap, rfl, own⟩ := h; exact ⟨_, rfl, .inr ⟨g, cap, rfl, own⟩, X⟩
theorem markI_own (k0 : Int) (B : Nat) (v : Value) (zs : List Int) (w : World) (h : OwI B w v zs) (hB : B ≤ w.heap.size) (h0 : 0 ≤ k0) (h1 : k0 ≤ 1048576) (hn : zs.length ≤ 1048576) :
    Calls Try.prog 58 #[v, .int .i64 k0] w fun e w' => e = .returned (.int .i64 (k0 + zs.length)) ∧ Below B w w' ∧ OwI B w' v (marksI k0 zs.length) := by
  rcases h with ⟨rfl, rfl⟩ | ⟨g, cap, rfl, own⟩
  · refine (markI_nil k0 w).mono ?_
    rintro e w' ⟨rfl, rfl⟩
    exact ⟨by simp, Below.refl _ _, .inl ⟨rfl, rfl⟩⟩
  · refine (markI_g k0 g zs.length cap B zs w own h0 h1 hn).mono ?_
    rintro e w' ⟨rfl, hg, own'⟩
    exact ⟨rfl, grown_ext hg (own.lt g rfl).1 hB, .inr ⟨g, cap, by rw [marksI_len], by rw [marksI_len]; exact own'⟩⟩

theorem spO_len {M : List Nat} {t : Int} : ((spO M t).getD []).length ≤ 1048576 := by
  unfold spO
  split
  · rename_i h
    have : inB M.length 1 8 = true := by unfold spOk at h; simp only [Bool.and_eq_true] at h; exact h.1.1
    have := inB_iff.1 this
    simp only [Option.getD_some, List.length_map, spState_len]
    omega
  · simp

set_option maxRecDepth 100000 in
set_option maxHeartbeats 4000000 in
theorem FnExactSplitSpares_law (v : Value) (bs : List Nat) (t : Int) (o : Option (List Int)) (w : World) (r : RdF w v bs)
    (hs : ∀ w v, RdF w v bs → Calls Try.prog 54 #[v, .int .i64 t] w (IlPost o w)) (hi : ∀ w v, RdF w v bs → Calls Try.prog 56 #[v, .int .i64 t] w (IlPost o w)) (hlen : (o.getD []).length ≤ 1048576) :
    Calls Try.prog 14 #[v, .int .i64 t] w fun e w' => e = .returned (.bool true) ∧ Ext w w' := by
  have HS := Lib.hid hs
  have HI := Lib.hid hi
  have r' := r
  obtain ⟨⟨-, a1, c1, rfl, p1, p2, -, -⟩, -⟩ := r
  have p3 : bs.length ≤ maxLen := Nat.le_trans p1 p2
  clear hs hi p1 p2
  unfold maxLen at p3
  by_cases hn : bs.length ≤ 1048576
  · have hne : ¬ (1048576 : Int) < bs.length := by omega
    go_enter Try.func14, Try.ntmps14
    go_wp2_with fail
    refine (toFloat32S_rd _ bs _ r' hn).mono ?_
    rintro e w1 ⟨g1, rfl, X1, r1⟩
    go_wp2_with fail
    refine (HS.out _ _ r1).mono ?_
    intro e w2 h2
    obtain ⟨vs, rfl, os, X2⟩ := ilPost_own h2
    clear h2 r1
    generalize hZ : o.getD [] = zs at *
    have X02 : Ext w w2 := X1.trans X2
    go_wp2_with fail
    refine (toFloat32S_any _ bs.length _ _ (r'.ext X02).1 (by intro x hx; obtain ⟨z, _, rfl⟩ := List.mem_map.1 hx; exact ⟨z, rfl⟩) hn).mono ?_
    rintro e w3 ⟨g3, rfl, X3, own3⟩
    have hx0 : RdF w3 (.slice (some ⟨g3, 0, none⟩) bs.length bs.length) bs := ⟨own_rd own3, r'.2⟩
    have hg3 := own3.lt g3 rfl
    go_wp2_with fail
    refine (HI.out _ _ hx0).mono ?_
    intro e w4 h4
    obtain ⟨vi, rfl, oi, X4⟩ := ilPost_own h4
    rw [hZ] at oi
    clear h4
    have Y4 : Ext w2 w4 := Ext.trans X3 X4
    have hz3 : w3.heap.size ≤ w4.heap.size := X4.size
    have hs2 := X02.size
    have own4 := own_ext own3 X4
    clear own3 hx0
    go_wp2_with fail
    refine (eqInt64S_eq oi.rd (os.ext Y4).rd).mono ?_
    rintro e w5 ⟨rfl, X5⟩
    replace oi := oi.ext X5; replace own4 := own_ext own4 X5; replace Y4 := Ext.trans Y4 X5; replace hz3 := Nat.le_trans hz3 X5.size
    clear X5 X4
    go_wp2_with fail
    refine (toFloat32S_rd _ bs _ (r'.ext (X02.trans Y4)) hn).mono ?_
    rintro e w6 ⟨g6, rfl, X6, r6⟩
    replace oi := oi.ext X6; replace own4 := own_ext own4 X6; replace Y4 := Ext.trans Y4 X6; replace hz3 := Nat.le_trans hz3 X6.size
    clear X6
    go_wp2_with fail
    refine (eqFloat32S_any _ _ bs bs _ ⟨own_rd own4, r'.2⟩ r6 rfl).mono ?_
    rintro e w7 ⟨rfl, X7⟩
    replace oi := oi.ext X7; replace own4 := own_ext own4 X7; replace Y4 := Ext.trans Y4 X7; replace hz3 := Nat.le_trans hz3 X7.size
    clear X7
    go_wp2_with fail
    refine (markF_g 1 g3 bs.length bs.length w2.heap.size bs _ own4 (by decide) (by decide) hn).mono ?_
    rintro e w8 ⟨rfl, G8, -⟩
    replace oi := oi.grown G8 hg3.2; replace Y4 := Below.trans Y4 (grown_ext G8 hg3.1 Y4.size); replace hz3 := Nat.le_trans hz3 G8.size
    clear own4 G8
    go_wp2_with fail
    refine (eqInt64S_eq oi.rd (os.ext Y4).rd).mono ?_
    rintro e w9 ⟨rfl, X9⟩
    replace oi := oi.ext X9; replace Y4 := Ext.trans Y4 X9; replace hz3 := Nat.le_trans hz3 X9.size
    clear X9
    have hb3 := hz3
    go_wp2_with fail
    refine (markI_own 1 _ _ _ _ oi hb3 (by decide) (by decide) hlen).mono ?_
    rintro e w10 ⟨rfl, G10, oi2⟩
    replace Y4 := Below.trans Y4 (G10.mono X3.size)
    clear G10 oi hb3
    go_wp2_with fail
    refine (heldI_any 1 _ zs.length _ oi2.rd (by decide) (by decide) hlen).mono ?_
    rintro e w11 ⟨rfl, rfl⟩
    go_wp2_with fail
    refine (toFloat32S_rd _ bs _ (r'.ext (X02.trans Y4)) hn).mono ?_
    rintro e w12 ⟨g12, rfl, X12, r12⟩
    replace oi2 := oi2.ext X12; replace Y4 := Ext.trans Y4 X12
    clear X12
    go_wp2_with fail
    refine (HI.out _ _ r12).mono ?_
    intro e w13 h13
    obtain ⟨vh, rfl, oh, X13⟩ := ilPost_own h13
    rw [hZ] at oh
    replace oi2 := oi2.ext X13; replace Y4 := Ext.trans Y4 X13
    clear h13 X13
    go_wp2_with fail
    refine (eqInt64S_eq oh.rd (os.ext Y4).rd).mono ?_
    rintro e w14 ⟨rfl, X14⟩
    replace oi2 := oi2.ext X14; replace Y4 := Ext.trans Y4 X14
    clear X14
    go_wp2_with fail
    refine (heldI_any 1 _ zs.length _ oi2.rd (by decide) (by decide) hlen).mono ?_
    rintro e w15 ⟨rfl, rfl⟩
    go_wp2_with fail
    go_ret
    exact ⟨rfl, X02.trans Y4⟩
  · have hne : (1048576 : Int) < bs.length := by omega
    go_enter Try.func14, Try.ntmps14
    go_wp2_with fail
    go_ret
    exact ⟨rfl, Ext.refl _⟩

theorem splitSpares_walk (v1 v2 : Value) (w : World) (h1 : ArgFloats w v1) (h2 : ArgInt w v2) :
    Calls Try.prog 14 #[v1, v2] w fun e w' => e = .returned (.bool true) ∧ Ext w w' := by
  obtain ⟨a, len, cap, bs, rfl, r⟩ := h1
  obtain ⟨t, rfl, _⟩ := h2
  exact FnExactSplitSpares_law _ bs t _ w r (fun w v r => specSplit_any v bs t w r) (fun w v r => implSplit_any v bs t w r) spO_len

theorem fnExactSplitSpares_own : ownKnob Try.prog.godebug = none := by kernel_rfl
theorem fnExactSplitSpares_laid : laidOutB Try.prog = true := by kernel_rfl

set_option maxRecDepth 100000 in
theorem fnExactSplitSpares_lifted (os : Os) (started : os.Started) (H : Type) (enc : TypeId × Value → H) :
    ReturnsInHanded {} Try.checked os 14 .any (Rows.fnExactSplitSparesSpec.pre6 enc Try.prog Try.f14 Rows.fnExactSplitSparesRow.domain false) (Rows.fnExactSplitSparesSpec.post enc Try.prog Try.f14 false true false false) := by
  refine returnsInHanded_of_change (C := Try.checked) fnExactSplitSpares_own started (by kernel_rfl) Try.func14
    (ChangeSpec.witness6 (enc := enc) (C := Try.checked) false ⟨#[], #[.slice none 0 0, .int .i64 0], []⟩ 8 (by kernel_rfl) (by kernel_rfl) (by kernel_rfl) (by kernel_rfl)) ?_
  intro W base args ds gs before hval0 hW hcnd _
  have hval : ∀ (j : Nat) t v, Try.f14.params[j]? = some t → args[j]? = some v → Value.okWide Try.prog W .any base t v := hval0
  have hW' := hW
  obtain ⟨p, q, hA0, hV, rfl, hfz, hnd⟩ := hW
  have hA : DataW.TrodAll enc Try.prog W 0 (fun _ => true) true Try.f14.params.toList args.toList ds p := hA0
  rw [Try.params14] at hA hval
  obtain ⟨v0, vs0, d0, ds0, p0, q0, hargs, rfl, rfl, h0, r0⟩ := trodAll_cons hA
  obtain ⟨v1, vs1, d1, ds1, p1, q1, rfl, rfl, rfl, h1, r1⟩ := trodAll_cons r0
  obtain ⟨rfl, rfl, rfl⟩ := trodAll_nil r1
  obtain rfl : args = #[v0, v1] := by cases args; simp_all
  obtain ⟨rfl, rfl⟩ := trodVars_none hV
  have lt0 : ∀ x ∈ p0, x.block < W.heap.size := by obtain ⟨m, hm⟩ := h0; exact DataW.trod_lt m _ _ _ hm
  have w0 := argFloats Try.underlying31 Try.underlying36 (by kernel_rfl) (hval 0 31 v0 rfl rfl) h0
  have lt1 : ∀ x ∈ p1, x.block < W.heap.size := by obtain ⟨m, hm⟩ := h1; exact DataW.trod_lt m _ _ _ hm
  have w1 := argInt Try.underlying2 (hval 1 2 v1 rfl rfl) h1
  clear hA0 hval0
  refine (splitSpares_walk v0 v1 W w0 w1).mono fun e W' ⟨he, bel⟩ => ?_
  subst he
  exact ⟨_, rfl, _, _, _, [], _, [], hW', trodAll_mk1 (shut_bool Try.underlying4 _), (trodAll_cons_mk (Below.trod fnExactSplitSpares_laid (by kernel_rfl) (of_decide_eq_true (by kernel_rfl)) h0 bel lt0) (trodAll_cons_mk (Below.trod fnExactSplitSpares_laid (by kernel_rfl) (of_decide_eq_true (by kernel_rfl)) h1 bel lt1) trodAll_mk0)), rfl, bel.below.frame _, fun h => by cases h⟩

theorem fnExactSplitSpares_toL {s : String} {L : List Char} (h : s = String.ofList L) : s.toList = L := by rw [h]; exact String.toList_ofList
def fnExactSplitSpares_enterF (P : Program) : { F : List Char → Bool // P.mayEnter = F P.initOrder.toList } :=
  ⟨_, by unfold Program.mayEnter; generalize P.initOrder.toList = l; exact rfl⟩
def fnExactSplitSpares_liftsF (P : Program) : { F : List Char → Bool // P.liftsFinal = F P.initOrder.toList } :=
  ⟨_, by unfold Program.liftsFinal Program.headLifts; generalize P.initOrder.toList = l; exact rfl⟩
def fnExactSplitSpares_makeF (P : Program) : { F : List Char → Option Make // P.make = F P.initOrder.toList } :=
  ⟨_, by unfold Program.make; generalize P.initOrder.toList = l; exact rfl⟩
set_option maxRecDepth 100000 in
theorem fnExactSplitSpares_enter : Try.checked.prog.mayEnter = true :=
  ((fnExactSplitSpares_enterF Try.checked.prog).2.trans (congrArg (fnExactSplitSpares_enterF Try.checked.prog).1 (fnExactSplitSpares_toL (rfl : Try.checked.prog.initOrder = String.ofList _)))).trans (by kernel_rfl)
set_option maxRecDepth 100000 in
theorem fnExactSplitSpares_lifts : Try.checked.prog.liftsFinal = false :=
  ((fnExactSplitSpares_liftsF Try.checked.prog).2.trans (congrArg (fnExactSplitSpares_liftsF Try.checked.prog).1 (fnExactSplitSpares_toL (rfl : Try.checked.prog.initOrder = String.ofList _)))).trans (by kernel_rfl)
set_option maxRecDepth 100000 in
theorem fnExactSplitSpares_make : Try.checked.prog.make = some .cut :=
  ((fnExactSplitSpares_makeF Try.checked.prog).2.trans (congrArg (fnExactSplitSpares_makeF Try.checked.prog).1 (fnExactSplitSpares_toL (rfl : Try.checked.prog.initOrder = String.ofList _)))).trans (by kernel_rfl)
set_option maxRecDepth 100000 in
theorem fnExactSplitSpares_closed : joinedFacts Try.checked.prog 14 Try.f14 Rows.fnExactSplitSparesSpec Rows.fnExactSplitSparesRow = true := by
  unfold joinedFacts
  rw [fnExactSplitSpares_enter, fnExactSplitSpares_lifts, fnExactSplitSpares_make]
  decide +kernel

theorem fnExactSplitSpares_over : Rows.fnExactSplitSparesRow.holds Try.pinned (OpenSpec.ofChange Rows.fnExactSplitSparesSpec) :=
  OpenClaim.holds_of_wide 14 Try.f14 rfl rfl rfl rfl rfl rfl rfl ⟨rfl, rfl, rfl, rfl, rfl⟩ rfl rfl rfl rfl rfl (by kernel_rfl) Try.func14 fnExactSplitSpares_closed
    (of_decide_eq_true (by kernel_rfl)) (by unfold Func.isWrapper; first | (rw [if_pos (by decide +kernel)]; kernel_rfl) | (rw [if_neg (by decide +kernel)]; exact ⟨rfl, rfl⟩))
    (fun os started H enc _ => fnExactSplitSpares_lifted os started H enc)

/-- The statement. -/
theorem fnExactSplitSpares_holds : Rows.FnExactSplitSparesSaid := fnExactSplitSpares_over

end Go.Proofs.Ytkkmhckhggggaaa
