
/- FnTables returns true for every input and changes nothing that was there. No condition. -/
import Derived.Test.YtlbmjeennpccmaaUj
import Derived.Test.YtlbmjeennpccmaaUk
import Derived.Test.YtlbmjeennpccmaaUl
namespace Go.Proofs.Ytlbmjeennpccmaa
open Go Go.RowKit Go.ChangeShapes Go.WideShapes Go.ChangeAt

theorem fnTables_law (v1 v2 : Value) (xs ys : List Int) (w : World) (r1 : RdY w v1 xs) (r2 : RdY w v2 ys) :
    Calls Try.prog 8 #[v1, v2] w fun e w' => e = .returned (.bool true) ∧ Ext w w' :=
  fnTablesA.2 ⟨fnTablesB.out ⟨tabZero⟩ ⟨tabMore⟩ ⟨tabExit⟩⟩ v1 v2 xs ys w r1 r2
theorem fnTables_walk (v1 v2 : Value) (w : World) (h1 : ArgBytes w v1) (h2 : ArgBytes w v2) :
    Calls Try.prog 8 #[v1, v2] w fun e w' => e = .returned (.bool true) ∧ Ext w w' := by
  obtain ⟨a, n, cap, xs, rfl, r⟩ := h1
  obtain ⟨a2, n2, cap2, ys, rfl, r2⟩ := h2
  exact fnTables_law _ _ xs ys w r r2
theorem fnTables_own : ownKnob Try.prog.godebug = none := by kernel_rfl
theorem fnTables_laid : laidOutB Try.prog = true := by kernel_rfl

set_option maxRecDepth 100000 in
theorem fnTables_lifted (os : Os) (started : os.Started) (H : Type) (enc : TypeId × Value → H) :
    ReturnsInHanded {} Try.checked os 8 .any (Rows.fnTablesSpec.pre6 enc Try.prog Try.f8 Rows.fnTablesRow.domain false) (Rows.fnTablesSpec.post enc Try.prog Try.f8 false true false false) := by
  refine returnsInHanded_of_change (C := Try.checked) fnTables_own started (by kernel_rfl) Try.func8
    (ChangeSpec.witness6 (enc := enc) (C := Try.checked) false ⟨#[], #[.slice none 0 0, .slice none 0 0], []⟩ 8 (by kernel_rfl) (by kernel_rfl) (by kernel_rfl) (by kernel_rfl)) ?_
  intro W base args ds gs before hval0 hW hcnd _
  have hval : ∀ (j : Nat) t v, Try.f8.params[j]? = some t → args[j]? = some v → Value.okWide Try.prog W .any base t v := hval0
  have hW' := hW
  obtain ⟨p, q, hA0, hV, rfl, hfz, hnd⟩ := hW
  have hA : DataW.TrodAll enc Try.prog W 0 (fun _ => true) true Try.f8.params.toList args.toList ds p := hA0
  rw [Try.params8] at hA hval
  obtain ⟨v0, vs0, d0, ds0, p0, q0, hargs, rfl, rfl, h0, r0⟩ := trodAll_cons hA
  obtain ⟨v1, vs1, d1, ds1, p1, q1, rfl, rfl, rfl, h1, r1⟩ := trodAll_cons r0
  obtain ⟨rfl, rfl, rfl⟩ := trodAll_nil r1
  obtain rfl : args = #[v0, v1] := by cases args; simp_all
  obtain ⟨rfl, rfl⟩ := trodVars_none hV
  have lt0 : ∀ x ∈ p0, x.block < W.heap.size := by obtain ⟨m, hm⟩ := h0; exact DataW.trod_lt m _ _ _ hm
  have w0 := argBytes Try.underlying40 Try.underlying5 (by kernel_rfl) (hval 0 40 v0 rfl rfl) h0
  have lt1 : ∀ x ∈ p1, x.block < W.heap.size := by obtain ⟨m, hm⟩ := h1; exact DataW.trod_lt m _ _ _ hm
  have w1 := argBytes Try.underlying40 Try.underlying5 (by kernel_rfl) (hval 1 40 v1 rfl rfl) h1
  clear hA0 hval0
  refine (fnTables_walk v0 v1 W w0 w1).mono fun e W' ⟨he, bel⟩ => ?_
  subst he
  exact ⟨_, rfl, _, _, _, [], _, [], hW', trodAll_mk1 (shut_bool Try.underlying4 _), (trodAll_cons_mk (Below.trod fnTables_laid (by kernel_rfl) (of_decide_eq_true (by kernel_rfl)) h0 bel lt0) (trodAll_cons_mk (Below.trod fnTables_laid (by kernel_rfl) (of_decide_eq_true (by kernel_rfl)) h1 bel lt1) trodAll_mk0)), rfl, bel.below.frame _, fun h => by cases h⟩

theorem fnTables_over : Rows.fnTablesRow.holds Try.pinned (OpenSpec.ofChange Rows.fnTablesSpec) :=
  OpenClaim.holds_of_wide 8 Try.f8 rfl rfl rfl rfl rfl rfl rfl ⟨rfl, rfl, rfl, rfl, rfl⟩ rfl rfl rfl rfl rfl (by kernel_rfl) Try.func8 (by kernel_rfl)
    (of_decide_eq_true (by kernel_rfl)) (by unfold Func.isWrapper; first | (rw [if_pos (by decide +kernel)]; kernel_rfl) | (rw [if_neg (by decide +kernel)]; exact ⟨rfl, rfl⟩))
    (fun os started H enc _ => fnTables_lifted os started H enc)

/-- The statement. -/
theorem fnTables_holds : Rows.FnTablesSaid := fnTables_over

end Go.Proofs.Ytlbmjeennpccmaa
