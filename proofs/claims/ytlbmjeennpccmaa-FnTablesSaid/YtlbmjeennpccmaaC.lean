
/- Contracts of the functions on chains, and the laws FnExactValidChain, FnExactSameChain. No condition. -/
import Derived.Test.YtlbmjeennpccmaaRows
import Derived.Test.YtlbmjeennpccmaaB
import Derived.Deep.QuietTactic
import Derived.BigQuiet
import Derived.Outline
namespace Go.Proofs.Ytlbmjeennpccmaa
open Go Go.RowKit Go.ChangeShapes Go.WideShapes Go.ChangeAt

theorem areNotLess_1 (b : Nat) (w : World) : Calls Try.prog 91 #[.float .f32 b] w fun e w' => e = .returned (.bool (!(leastB (cn .f32 b)))) ∧ Ext w w' := by
  go_enter Try.func91, Try.ntmps91
  go_wp2_with fail
  refine (isFinite_any b _).mono ?_
  rintro e w1 ⟨rfl, X⟩
  cases h : finB (cn .f32 b)
  all_goals
    have H := Lib.hid h
    clear h
    go_wp2_with (first | (refine wpList_fcmp rfl rfl rfl rfl rfl (by first | with_reducible assumption | exact rfl) ?_) | (refine wpList_fop rfl rfl rfl rfl rfl ?_; intro fb nf hfb hfl))
    go_ret
    exact ⟨ret_bool (by unfold leastB; rw [H.out]; rfl), X⟩

theorem areNotLess_any (v : Value) (bs : List Nat) (w : World) (r : RdF w v bs) : Calls Try.prog 65 #[v] w fun e w' => e = .returned (.bool ((bs.map (cn .f32)).all leastB)) ∧ Ext w w' := by
  have H := Lib.hid (containsFuncF_any 91 #[] (fun x => !(leastB x)) v bs w r (enterOk Try.func91 (by kernel_rfl) rfl) (fun w' _ b _ => areNotLess_1 b w'))
  have H2 : Hid ((!(bs.map (cn .f32)).any fun x => !(leastB x)) = (bs.map (cn .f32)).all leastB) := by
    show _ = _; induction (bs.map (cn .f32)) with
    | nil => rfl
    | cons x l ih => simp only [List.any_cons, List.all_cons, Bool.not_or, Bool.not_not, ih]
  obtain ⟨⟨_, a1, c1, rfl, _, _, _, _⟩, _⟩ := r
  go_enter Try.func65, Try.ntmps65
  go_wp2_with fail
  refine H.out.mono ?_
  rintro e w1 ⟨rfl, X⟩
  clear H
  generalize ((bs.map (cn .f32)).any fun x => !(leastB x)) = z at *
  go_wp2_with fail
  go_ret
  exact ⟨ret_bool H2.out, X⟩

theorem areMore_1 (b : Nat) (w : World) : Calls Try.prog 103 #[.float .f32 b] w fun e w' => e = .returned (.bool (!(aboveB (cn .f32 b)))) ∧ Ext w w' := by
  go_enter Try.func103, Try.ntmps103
  go_wp2_with fail
  refine (isFinite_any b _).mono ?_
  rintro e w1 ⟨rfl, X⟩
  cases h : finB (cn .f32 b)
  all_goals
    have H := Lib.hid h
    clear h
    go_wp2_with (first | (refine wpList_fcmp rfl rfl rfl rfl rfl (by first | with_reducible assumption | exact rfl) ?_) | (refine wpList_fop rfl rfl rfl rfl rfl ?_; intro fb nf hfb hfl))
    go_ret
    exact ⟨ret_bool (by unfold aboveB; rw [H.out]; rfl), X⟩

theorem areMore_any (v : Value) (bs : List Nat) (w : World) (r : RdF w v bs) : Calls Try.prog 79 #[v] w fun e w' => e = .returned (.bool ((bs.map (cn .f32)).all aboveB)) ∧ Ext w w' := by
  have H := Lib.hid (containsFuncF_any 103 #[] (fun x => !(aboveB x)) v bs w r (enterOk Try.func103 (by kernel_rfl) rfl) (fun w' _ b _ => areMore_1 b w'))
  have H2 : Hid ((!(bs.map (cn .f32)).any fun x => !(aboveB x)) = (bs.map (cn .f32)).all aboveB) := by
    show _ = _; induction (bs.map (cn .f32)) with
    | nil => rfl
    | cons x l ih => simp only [List.any_cons, List.all_cons, Bool.not_or, Bool.not_not, ih]
  obtain ⟨⟨_, a1, c1, rfl, _, _, _, _⟩, _⟩ := r
  go_enter Try.func79, Try.ntmps79
  go_wp2_with fail
  refine H.out.mono ?_
  rintro e w1 ⟨rfl, X⟩
  clear H
  generalize ((bs.map (cn .f32)).any fun x => !(aboveB x)) = z at *
  go_wp2_with fail
  go_ret
  exact ⟨ret_bool H2.out, X⟩



/-- What a valid chain is, as the reference asks it. -/
def diagB (n : Nat) (i : Nat) (x : Nat) : Bool := leastB x && !(decide (i % (n + 1) = 0) && fcmp .neq .f32 x (cn .f32 0))
def chainOk (n : Int) (bs : List Nat) : Bool := inB n 1 8 && decide ((bs.length : Int) = n * n) && (List.range bs.length).all fun i => diagB n.toNat i (cn .f32 (bs.getD i 0))


def chainOkI (n : Int) (bs : List Nat) : Bool := inB n 1 8 && decide ((bs.length : Int) = n * n) && (bs.map (cn .f32)).all leastB &&
  (List.range n.toNat).all fun i => !(fcmp .neq .f32 (cn .f32 (bs.getD (i * n.toNat + i) 0)) (cn .f32 0))

theorem areNotLess_eq {v : Value} {bs : List Nat} {c : Bool} (h : (bs.map (cn .f32)).all leastB = c) (w : World) (r : RdF w v bs) : Calls Try.prog 65 #[v] w fun e w' => e = .returned (.bool c) ∧ Ext w w' := by
  subst h; exact areNotLess_any v bs w r

end Go.Proofs.Ytlbmjeennpccmaa
