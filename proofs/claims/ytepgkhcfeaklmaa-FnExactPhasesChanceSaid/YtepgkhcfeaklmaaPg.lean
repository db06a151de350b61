
/- FnExactPhasesChance returns true for every input and changes nothing that was there. No condition. -/
import Derived.Test.YtepgkhcfeaklmaaRows
import Derived.Test.YtepgkhcfeaklmaaPf
namespace Go.Proofs.Ytepgkhcfeaklmaa
open Go Go.RowKit Go.ChangeShapes Go.WideShapes Go.ChangeAt

attribute [local irreducible] LX

set_option maxRecDepth 100000 in
set_option maxHeartbeats 8000000 in
theorem phasesChance_law (v u : Value) (ss : List Sy) (bs : List Nat) (w : World) (r : RdY w v ss) (rb : RdF w u bs) :
    Calls Try.prog 9 #[v, u] w fun e w' => e = .returned (.bool true) ∧ Ext w w' := by
  have r' := r
  have rb' := rb
  obtain ⟨⟨-, a1, c1, rfl, p1, p2, -, -⟩, -⟩ := r
  obtain ⟨⟨-, a2, c2, rfl, q1, q2, -, -⟩, -⟩ := rb
  have wa : (Try.prog.underlying 61).isSome = true := by kernel_rfl
  have hm1 : ss.length ≤ 9223372036854775807 := by unfold maxLen at p2; omega
  have hm2 : bs.length ≤ 9223372036854775807 := by unfold maxLen at q2; omega
  clear p1 p2 q1 q2
  by_cases hz : ¬ bs.length ≤ 1048576
  · go_enter Try.func9, Try.ntmps9
    go_wp2_with fail
    go_ret
    exact ⟨rfl, Ext.refl _⟩
  replace hz : bs.length ≤ 1048576 := Decidable.not_not.1 hz
  have HSZ := Lib.hid (szSystemS_any _ ss 1048576 w r' (by omega) (by omega))
  go_enter Try.func9, Try.ntmps9
  go_wp2_with fail
  refine HSZ.out.mono ?_
  rintro e w1 ⟨q, rfl, hq, X⟩
  rcases hq with hneg | ⟨hpos, hl, hz1⟩
  · go_wp2_with fail
    go_ret
    exact ⟨rfl, X⟩
  have hnn : ¬ q < 0 := by omega
  have HZ1 := Lib.hid hz1
  clear hz1 HSZ
  go_wp2_with fail
  refine (toSystemS_any _ ss _ (r'.ext X) hl HZ1.out).mono ?_
  rintro e w2 ⟨g2, n2, rfl, d2, hx, o2⟩
  replace X := X.trans hx
  clear hx
  have R2 := o2.rd
  clear o2
  go_wp2_with fail
  refine (toFloat32S_rd _ bs _ (rb'.ext X) hz).mono ?_
  rintro e w3 ⟨g3, rfl, hx, R3⟩
  replace X := X.trans hx
  replace R2 := R2.ext hx
  clear hx
  go_wp2_with fail
  refine (specPhasesChance_any _ _ n2 bs _ R2 R3).mono ?_
  rw [phO_dat bs d2]
  clear R2 d2
  generalize hO : phO ss bs = o at *
  rintro e w4 ⟨hx, h2⟩
  obtain ⟨b, c, rfl, hb⟩ : ∃ b c, e = .returned (.tuple #[.float .f32 b, .bool c]) ∧ Hid (cn .f32 b = o.getD (cn .f32 0) ∧ c = o.isSome) := by
    cases o with
    | none => exact ⟨0, false, h2, rfl, rfl⟩
    | some x => obtain ⟨b, rfl, h, _⟩ := h2; exact ⟨b, true, rfl, h, rfl⟩
  have HO := Lib.hid hO
  clear h2 R3 hO
  replace X := X.trans hx
  clear hx
  go_wp2_with fail
  refine (toSystemS_any _ ss _ (r'.ext X) hl HZ1.out).mono ?_
  rintro e w5 ⟨g5, n5, rfl, d5, hx, o5⟩
  replace X := X.trans hx
  clear hx
  go_wp2_with fail
  refine (toFloat32S_rd _ bs _ (rb'.ext X) hz).mono ?_
  rintro e w6 ⟨g6, rfl, hx, R6⟩
  replace X := X.trans hx
  replace o5 := o5.ext hx
  clear hx
  have R5 := o5.rd
  go_wp2_with fail
  refine (implPhasesChance_any _ _ n5 bs _ R5 R6).mono ?_
  rw [phO_dat bs d5, HO.out]
  rintro e w7 ⟨hx, h4⟩
  obtain ⟨b', c', rfl, hb'⟩ : ∃ b c, e = .returned (.tuple #[.float .f32 b, .bool c]) ∧ Hid (cn .f32 b = o.getD (cn .f32 0) ∧ c = o.isSome) := by
    cases o with
    | none => exact ⟨0, false, h4, rfl, rfl⟩
    | some x => obtain ⟨b, rfl, h, _⟩ := h4; exact ⟨b, true, rfl, h, rfl⟩
  clear h4
  replace X := X.trans hx
  replace R5 := R5.ext hx
  replace R6 := R6.ext hx
  clear hx o5
  have D5 := Lib.hid d5
  clear d5
  have hcc : c' = c := hb'.out.2.trans hb.out.2.symm
  subst hcc
  have Hbb : Hid (cn .f32 b' = cn .f32 b) := hb'.out.1.trans hb.out.1.symm
  clear hb hb'
  go_wp2_with (first | (refine wpList_wide wa Try.underlying68 rfl rfl rfl ?_; intro zb zn hzb hzl; clear hzl; first | (have hsame := Lib.hid (wide_same Hbb.out hza.out hzb); clear hzb) | (have hza := Lib.hid hzb; clear hzb)))
  refine (sameFloat_any _ _ _ hsame.out).mono ?_
  rintro e w8 ⟨rfl, hx⟩
  replace hx : Ext w7 w8 := (Ext.drewN _ _).trans hx
  replace X := X.trans hx
  replace R5 := R5.ext hx
  replace R6 := R6.ext hx
  clear hx
  go_wp2_with fail
  refine (toSystemS_any _ ss _ (r'.ext X) hl HZ1.out).mono ?_
  rintro e w9 ⟨g9, n9, rfl, d9, hx, o9⟩
  replace X := X.trans hx
  replace R5 := R5.ext hx
  replace R6 := R6.ext hx
  clear hx
  have R9 := o9.rd
  have D9 := Lib.hid d9
  clear o9 d9
  go_wp2_with fail
  refine (eqSystemS_any _ _ n5 n9 _ R5 R9 (D5.out.trans D9.out.symm)).mono ?_
  rintro e w10 ⟨rfl, hx⟩
  replace X := X.trans hx
  replace R6 := R6.ext hx
  clear hx R9 R5
  go_wp2_with fail
  refine (toFloat32S_rd _ bs _ (rb'.ext X) hz).mono ?_
  rintro e w11 ⟨g11, rfl, hx, R11⟩
  replace X := X.trans hx
  replace R6 := R6.ext hx
  clear hx
  go_wp2_with fail
  refine (eqFloat32S_any _ _ bs bs _ R6 R11 rfl).mono ?_
  rintro e w12 ⟨rfl, hx⟩
  replace X := X.trans hx
  clear hx R6 R11
  go_wp2_with fail
  go_ret
  exact ⟨rfl, X⟩

theorem phasesChance_walk (v1 v2 : Value) (w : World) (h1 : ArgSyss w v1) (h2 : ArgFloats w v2) :
    Calls Try.prog 9 #[v1, v2] w fun e w' => e = .returned (.bool true) ∧ Ext w w' := by
  obtain ⟨a, l, c, ss, rfl, r⟩ := h1
  obtain ⟨a2, l2, c2, bs, rfl, r2⟩ := h2
  exact phasesChance_law _ _ ss bs w r r2

theorem fnExactPhasesChance_own : ownKnob Try.prog.godebug = none := by kernel_rfl
theorem fnExactPhasesChance_laid : laidOutB Try.prog = true := by kernel_rfl

set_option maxRecDepth 100000 in
theorem fnExactPhasesChance_lifted (os : Os) (started : os.Started) (H : Type) (enc : TypeId × Value → H) :
    ReturnsInHanded {} Try.checked os 9 .any (Rows.fnExactPhasesChanceSpec.pre6 enc Try.prog Try.f9 Rows.fnExactPhasesChanceRow.domain false) (Rows.fnExactPhasesChanceSpec.post enc Try.prog Try.f9 false true false false) := by
  refine returnsInHanded_of_change (C := Try.checked) fnExactPhasesChance_own started (by kernel_rfl) Try.func9
    (ChangeSpec.witness6 (enc := enc) (C := Try.checked) false ⟨#[], #[.slice none 0 0, .slice none 0 0], []⟩ 8 (by kernel_rfl) (by kernel_rfl) (by kernel_rfl) (by kernel_rfl)) ?_
  intro W base args ds gs before hval0 hW hcnd _
  have hval : ∀ (j : Nat) t v, Try.f9.params[j]? = some t → args[j]? = some v → Value.okWide Try.prog W .any base t v := hval0
  have hW' := hW
  obtain ⟨p, q, hA0, hV, rfl, hfz, hnd⟩ := hW
  have hA : DataW.TrodAll enc Try.prog W 0 (fun _ => true) true Try.f9.params.toList args.toList ds p := hA0
  rw [Try.params9] at hA hval
  obtain ⟨v0, vs0, d0, ds0, p0, q0, hargs, rfl, rfl, h0, r0⟩ := trodAll_cons hA
  obtain ⟨v1, vs1, d1, ds1, p1, q1, rfl, rfl, rfl, h1, r1⟩ := trodAll_cons r0
  obtain ⟨rfl, rfl, rfl⟩ := trodAll_nil r1
  obtain rfl : args = #[v0, v1] := by cases args; simp_all
  obtain ⟨rfl, rfl⟩ := trodVars_none hV
  have lt0 : ∀ x ∈ p0, x.block < W.heap.size := by obtain ⟨m, hm⟩ := h0; exact DataW.trod_lt m _ _ _ hm
  have w0 := argSyss Try.underlying58 Try.underlying52 (by kernel_rfl) (by kernel_rfl) Try.underlying2 Try.underlying22 Try.underlying2 (by kernel_rfl) (hval 0 58 v0 rfl rfl) h0
  have lt1 : ∀ x ∈ p1, x.block < W.heap.size := by obtain ⟨m, hm⟩ := h1; exact DataW.trod_lt m _ _ _ hm
  have w1 := argFloats Try.underlying59 Try.underlying61 (by kernel_rfl) (hval 1 59 v1 rfl rfl) h1
  clear hA0 hval0
  refine (phasesChance_walk v0 v1 W w0 w1).mono fun e W' ⟨he, bel⟩ => ?_
  subst he
  exact ⟨_, rfl, _, _, _, [], _, [], hW', trodAll_mk1 (shut_bool Try.underlying4 _), (trodAll_cons_mk (Below.trod fnExactPhasesChance_laid (by kernel_rfl) (of_decide_eq_true (by kernel_rfl)) h0 bel lt0) (trodAll_cons_mk (Below.trod fnExactPhasesChance_laid (by kernel_rfl) (of_decide_eq_true (by kernel_rfl)) h1 bel lt1) trodAll_mk0)), rfl, bel.below.frame _, fun h => by cases h⟩

theorem fnExactPhasesChance_over : Rows.fnExactPhasesChanceRow.holds Try.pinned (OpenSpec.ofChange Rows.fnExactPhasesChanceSpec) :=
  OpenClaim.holds_of_wide 9 Try.f9 rfl rfl rfl rfl rfl rfl rfl ⟨rfl, rfl, rfl, rfl, rfl⟩ rfl rfl rfl rfl rfl (by kernel_rfl) Try.func9 (by kernel_rfl)
    (of_decide_eq_true (by kernel_rfl)) (by unfold Func.isWrapper; first | (rw [if_pos (by decide +kernel)]; kernel_rfl) | (rw [if_neg (by decide +kernel)]; exact ⟨rfl, rfl⟩))
    (fun os started H enc _ => fnExactPhasesChance_lifted os started H enc)

/-- The statement. -/
theorem fnExactPhasesChance_holds : Rows.FnExactPhasesChanceSaid := fnExactPhasesChance_over

end Go.Proofs.Ytepgkhcfeaklmaa
