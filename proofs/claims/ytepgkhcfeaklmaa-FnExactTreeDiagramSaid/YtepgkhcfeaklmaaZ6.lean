
/- FnExactTreeDiagram returns true for every input and changes nothing that was there. No condition. -/
import Derived.Test.YtepgkhcfeaklmaaRows
import Derived.Test.YtepgkhcfeaklmaaZ5
namespace Go.Proofs.Ytepgkhcfeaklmaa
open Go Go.RowKit Go.ChangeShapes Go.WideShapes Go.ChangeAt

theorem treeDiagram_walk (v1 v2 : Value) (w : World) (h1 : ArgInt w v1) (h2 : ArgGates w v2) :
    Calls Try.prog 5 #[v1, v2] w fun e w' => e = .returned (.bool true) ∧ Ext w w' := by
  obtain ⟨p, rfl, _⟩ := h1
  obtain ⟨a, l, c, gs, rfl, r⟩ := h2
  exact FnExactTreeDiagram_law p _ gs (tdO p gs) w r
    (fun hn w v ns r e => by rw [← tdO_dat e]; exact specTreeDiagram_any p v ns w r (by have := congrArg List.length e; simp at this; omega))
    (fun hn w v ns r e => by rw [← tdO_dat e]; exact implTreeDiagram_any p v ns w r (by have := congrArg List.length e; simp at this; omega)) (tdO_len p gs)

theorem fnExactTreeDiagram_own : ownKnob Try.prog.godebug = none := by kernel_rfl
theorem fnExactTreeDiagram_laid : laidOutB Try.prog = true := by kernel_rfl

set_option maxRecDepth 100000 in
theorem fnExactTreeDiagram_lifted (os : Os) (started : os.Started) (H : Type) (enc : TypeId × Value → H) :
    ReturnsInHanded {} Try.checked os 5 .any (Rows.fnExactTreeDiagramSpec.pre6 enc Try.prog Try.f5 Rows.fnExactTreeDiagramRow.domain false) (Rows.fnExactTreeDiagramSpec.post enc Try.prog Try.f5 false true false false) := by
  refine returnsInHanded_of_change (C := Try.checked) fnExactTreeDiagram_own started (by kernel_rfl) Try.func5
    (ChangeSpec.witness6 (enc := enc) (C := Try.checked) false ⟨#[], #[.int .i64 0, .slice none 0 0], []⟩ 8 (by kernel_rfl) (by kernel_rfl) (by kernel_rfl) (by kernel_rfl)) ?_
  intro W base args ds gs before hval0 hW hcnd _
  have hval : ∀ (j : Nat) t v, Try.f5.params[j]? = some t → args[j]? = some v → Value.okWide Try.prog W .any base t v := hval0
  have hW' := hW
  obtain ⟨p, q, hA0, hV, rfl, hfz, hnd⟩ := hW
  have hA : DataW.TrodAll enc Try.prog W 0 (fun _ => true) true Try.f5.params.toList args.toList ds p := hA0
  rw [Try.params5] at hA hval
  obtain ⟨v0, vs0, d0, ds0, p0, q0, hargs, rfl, rfl, h0, r0⟩ := trodAll_cons hA
  obtain ⟨v1, vs1, d1, ds1, p1, q1, rfl, rfl, rfl, h1, r1⟩ := trodAll_cons r0
  obtain ⟨rfl, rfl, rfl⟩ := trodAll_nil r1
  obtain rfl : args = #[v0, v1] := by cases args; simp_all
  obtain ⟨rfl, rfl⟩ := trodVars_none hV
  have lt0 : ∀ x ∈ p0, x.block < W.heap.size := by obtain ⟨m, hm⟩ := h0; exact DataW.trod_lt m _ _ _ hm
  have w0 := argInt Try.underlying2 (hval 0 2 v0 rfl rfl) h0
  have lt1 : ∀ x ∈ p1, x.block < W.heap.size := by obtain ⟨m, hm⟩ := h1; exact DataW.trod_lt m _ _ _ hm
  have w1 := argGates Try.underlying44 Try.underlying91 (by kernel_rfl) (by kernel_rfl) Try.underlying2 Try.underlying2 Try.underlying22 Try.underlying2 (by kernel_rfl) (hval 1 44 v1 rfl rfl) h1
  clear hA0 hval0
  refine (treeDiagram_walk v0 v1 W w0 w1).mono fun e W' ⟨he, bel⟩ => ?_
  subst he
  exact ⟨_, rfl, _, _, _, [], _, [], hW', trodAll_mk1 (shut_bool Try.underlying4 _), (trodAll_cons_mk (Below.trod fnExactTreeDiagram_laid (by kernel_rfl) (of_decide_eq_true (by kernel_rfl)) h0 bel lt0) (trodAll_cons_mk (Below.trod fnExactTreeDiagram_laid (by kernel_rfl) (of_decide_eq_true (by kernel_rfl)) h1 bel lt1) trodAll_mk0)), rfl, bel.below.frame _, fun h => by cases h⟩

theorem fnExactTreeDiagram_over : Rows.fnExactTreeDiagramRow.holds Try.pinned (OpenSpec.ofChange Rows.fnExactTreeDiagramSpec) :=
  OpenClaim.holds_of_wide 5 Try.f5 rfl rfl rfl rfl rfl rfl rfl ⟨rfl, rfl, rfl, rfl, rfl⟩ rfl rfl rfl rfl rfl (by kernel_rfl) Try.func5 (by kernel_rfl)
    (of_decide_eq_true (by kernel_rfl)) (by unfold Func.isWrapper; first | (rw [if_pos (by decide +kernel)]; kernel_rfl) | (rw [if_neg (by decide +kernel)]; exact ⟨rfl, rfl⟩))
    (fun os started H enc _ => fnExactTreeDiagram_lifted os started H enc)

/-- The statement. -/
theorem fnExactTreeDiagram_holds : Rows.FnExactTreeDiagramSaid := fnExactTreeDiagram_over

end Go.Proofs.Ytepgkhcfeaklmaa
