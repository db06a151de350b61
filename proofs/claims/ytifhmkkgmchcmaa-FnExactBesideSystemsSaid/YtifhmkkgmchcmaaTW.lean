
/- Contracts of the functions of the program that say whether numbers lie between bounds and whether a tree is valid. Condition: a list that can be read. -/
import Derived.Test.YtifhmkkgmchcmaaTV
namespace Go.Proofs.Ytifhmkkgmchcmaa
open Go Go.RowKit Go.ChangeShapes Go.WideShapes Go.ChangeAt

theorem all_any {α : Type} (p : α → Bool) : ∀ l : List α, (!(l.any fun x => !(p x))) = l.all p
  | [] => rfl
  | x :: l => by simp only [List.any_cons, List.all_cons, Bool.not_or, Bool.not_not, all_any p l]

theorem areParts_any (p : Int) (w : World) : Calls Try.prog 61 #[.int .i64 p] w fun e w' => e = .returned (.bool (inB p 1 10)) ∧ w = w' := by
  go_enter Try.func61, Try.ntmps61
  go_wp2_with fail
  refine (within_any _ _ _ _).mono ?_
  rintro e w1 ⟨rfl, rfl⟩
  generalize hz : inB p 1 10 = z
  go_wp2_with fail
  go_ret
  exact ⟨ret_bool hz.symm, rfl⟩
theorem areWithin_1 (z lo hi : Int) (b c : Nat) (w : World) (h1 : Bx w b [.int .i64 lo]) (h2 : Bx w c [.int .i64 hi]) :
    Calls Try.prog 108 #[.int .i64 z, .pointer (some ⟨b, 0, none⟩), .pointer (some ⟨c, 0, none⟩)] w fun e w' => e = .returned (.bool (!(inB z lo hi))) ∧ Ext w w' := by
  have k1 := h1.one
  have k2 := h2.one
  go_enter Try.func108, Try.ntmps108
  go_wp2_with fail
  refine (within_any _ _ _ _).mono ?_
  rintro e w1 ⟨rfl, rfl⟩
  generalize hz : inB z lo hi = q
  go_wp2_with fail
  go_ret
  exact ⟨ret_bool (by rw [hz]), Ext.refl _⟩
theorem areWithin_any (v : Value) (zs : List Int) (lo hi : Int) (w : World) (r : RdI w v zs) :
    Calls Try.prog 95 #[v, .int .i64 lo, .int .i64 hi] w fun e w' => e = .returned (.bool (zs.all fun z => inB z lo hi)) ∧ Ext w w' := by
  have r' := r
  obtain ⟨-, a1, c1, rfl, -, -, -, -⟩ := r
  go_enter Try.func95, Try.ntmps95
  go_wp2_with fail
  refine (containsFuncI_any 108 #[.pointer (some ⟨w.heap.size, 0, none⟩), .pointer (some ⟨w.heap.size + 1, 0, none⟩)] (fun z => !(inB z lo hi)) _ zs _ ((r'.alloc _).alloc _) (enterOk Try.func108 (by kernel_rfl) rfl) ?_).mono ?_
  · intro w' hx z
    exact areWithin_1 z lo hi w.heap.size (w.heap.size + 1) w' (((Bx.new w [_] _).ext (Ext.alloc _ _)).ext hx) ((Bx.new' (w.alloc _) [_] _ (by simp)).ext hx)
  rintro e w1 ⟨rfl, X⟩
  have H := Lib.hid (all_any (fun z => inB z lo hi) zs)
  generalize (zs.any fun z => !(inB z lo hi)) = q at *
  go_wp2_with fail
  go_ret
  exact ⟨ret_bool H.out, ((Ext.alloc _ _).trans (Ext.alloc _ _)).trans X⟩
/-- How many and how great. -/
def manyB (zs : List Int) (few many lo hi : Int) : Bool := inB zs.length few many && zs.all fun z => inB z lo hi
theorem areMany_any (v : Value) (zs : List Int) (few many lo hi : Int) (w : World) (r : RdI w v zs) :
    Calls Try.prog 62 #[v, .int .i64 few, .int .i64 many, .int .i64 lo, .int .i64 hi] w fun e w' => e = .returned (.bool (manyB zs few many lo hi)) ∧ Ext w w' := by
  have r' := r
  obtain ⟨-, a1, c1, rfl, -, -, -, -⟩ := r
  cases h : inB zs.length few many
  · have H := Lib.hid h
    clear h
    go_enter Try.func62, Try.ntmps62
    go_wp2_with fail
    refine (within_eq H.out _).mono ?_
    rintro e w1 ⟨rfl, rfl⟩
    go_wp2_with fail
    go_ret
    exact ⟨ret_bool (by unfold manyB; rw [H.out]; rfl), Ext.refl _⟩
  · have H := Lib.hid h
    clear h
    go_enter Try.func62, Try.ntmps62
    go_wp2_with fail
    refine (within_eq H.out _).mono ?_
    rintro e w1 ⟨rfl, rfl⟩
    go_wp2_with fail
    refine (areWithin_any _ zs _ _ _ r').mono ?_
    rintro e w1 ⟨rfl, X⟩
    generalize hz : (zs.all fun z => inB z lo hi) = q
    go_wp2_with fail
    go_ret
    exact ⟨ret_bool (by unfold manyB; rw [H.out, hz]; rfl), X⟩

end Go.Proofs.Ytifhmkkgmchcmaa
