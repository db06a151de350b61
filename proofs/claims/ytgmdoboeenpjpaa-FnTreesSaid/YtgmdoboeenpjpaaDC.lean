
/- Contracts of the functions that ask whether numbers are chances. No condition. -/
import Derived.Test.YtgmdoboeenpjpaaTW
import Derived.Test.YtgmdoboeenpjpaaAB
import Derived.Test.YtgmdoboeenpjpaaEM
import Derived.Test.YtgmdoboeenpjpaaRH
namespace Go.Proofs.Ytgmdoboeenpjpaa
open Go Go.RowKit Go.ChangeShapes Go.WideShapes Go.ChangeAt

def oneF : Nat := cn .f32 1065353216
theorem l02Share_any (b : Nat) (w : World) : Calls Try.prog 57 #[.float .f32 b] w fun e w' => e = .returned (.bool (shareB (cn .f32 b))) ∧ w = w' := by
  cases h : fcmp .geq .f32 (cn .f32 b) (cn .f32 0)
  all_goals
    have H := Lib.hid h
    go_enter Try.func57, Try.ntmps57
    go_wp2_with (refine wpList_fcmp rfl rfl rfl rfl rfl (by first | with_reducible assumption | exact rfl) ?_)
    go_ret
    exact ⟨ret_bool (by unfold shareB; rw [H.out]; rfl), rfl⟩
theorem l02Share_eq {b : Nat} {c : Bool} (h : shareB (cn .f32 b) = c) (w : World) : Calls Try.prog 57 #[.float .f32 b] w fun e w' => e = .returned (.bool c) ∧ w = w' := by subst h; exact l02Share_any b w
theorem isShare_any (b : Nat) (w : World) : Calls Try.prog 54 #[.float .f32 b] w fun e w' => e = .returned (.bool (shareB (cn .f32 b))) ∧ w = w' := by
  cases h : fcmp .geq .f32 (cn .f32 b) (cn .f32 0)
  all_goals
    have H := Lib.hid h
    go_enter Try.func54, Try.ntmps54
    go_wp2_with (refine wpList_fcmp rfl rfl rfl rfl rfl (by first | with_reducible assumption | exact rfl) ?_)
    go_ret
    exact ⟨ret_bool (by unfold shareB; rw [H.out]; rfl), rfl⟩
theorem isShare_eq {b : Nat} {c : Bool} (h : shareB (cn .f32 b) = c) (w : World) : Calls Try.prog 54 #[.float .f32 b] w fun e w' => e = .returned (.bool c) ∧ w = w' := by subst h; exact isShare_any b w

/-- So many chances. -/
def chancesB (bs : List Nat) (n : Int) : Bool := (bs.map (cn .f32)).all shareB && decide ((bs.length : Int) = n)

set_option maxHeartbeats 1000000 in
theorem l03Chances_any (v : Value) (bs : List Nat) (n : Int) (w : World) (r : RdF w v bs) :
    Calls Try.prog 55 #[v, .int .i64 n] w fun e w' => e = .returned (.bool (chancesB bs n)) ∧ w = w' := by
  have r' := r
  obtain ⟨⟨-, a1, c1, rfl, p1, p2, -, -⟩, l1⟩ := r
  clear l1
  unfold maxLen at p2
  go_enter Try.func55, Try.ntmps55
  go_wp2_with fail
  go_loopw [8] (fun i wr => ∃ k : Nat, k ≤ bs.length ∧ i = .int .i64 k ∧ Hid (∀ j, (h' : j < bs.length) → j < k → shareB (cn .f32 bs[j]) = true) ∧ wr = w) (fun i _ => bs.length - (intOf i).toNat)
  case atStart => exact ⟨0, Nat.zero_le _, rfl, fun j _ h => absurd h (Nat.not_lt_zero _), rfl⟩
  case round =>
    obtain ⟨k, hk, rfl, Hn, rfl⟩ := hrel
    by_cases hlt : k < bs.length
    · obtain ⟨b1, o1, rfl, hb1, hc1⟩ := r'.at hlt
      cases hs : shareB (cn .f32 bs[k])
      · have Hs := Lib.hid hs
        clear hs
        go_wp2_with fail
        refine (l02Share_eq Hs.out _).mono ?_
        rintro e w1 ⟨rfl, rfl⟩
        go_wp2_with fail
        go_ret
        refine ⟨ret_bool ?_, rfl⟩
        have : (bs.map (cn .f32)).all shareB = false := by
          rw [List.all_eq_false]
          exact ⟨cn .f32 bs[k], List.mem_map_of_mem (List.getElem_mem hlt), by rw [Hs.out]; exact Bool.false_ne_true⟩
        simp [chancesB, this]
      · have Hs := Lib.hid hs
        clear hs
        go_wp2_with fail
        refine (l02Share_eq Hs.out _).mono ?_
        rintro e w1 ⟨rfl, rfl⟩
        go_wp2_with fail
        go_roundw
        case rel =>
          refine ⟨k + 1, by omega, by go_num, fun j hj' hj => ?_, by first | trivial | rfl⟩
          by_cases hjk : j = k
          · subst hjk; exact Hs.out
          · exact Hn.out j hj' (by omega)
        case measure => simp [intOf]; omega
    · have H : Hid ((bs.map (cn .f32)).all shareB = true) := by
        show _ = _
        rw [List.all_eq_true]
        intro x hx
        obtain ⟨b, hb, rfl⟩ := List.mem_map.1 hx
        obtain ⟨j, hj, rfl⟩ := List.getElem_of_mem hb
        exact Hn.out j hj (by omega)
      have H2 : Hid ((((bs.length : Int)) == n) = chancesB bs n) := by
        show _ = _; unfold chancesB; rw [H.out, Bool.true_and, Bool.eq_iff_iff, beq_iff_eq, decide_eq_true_iff]
      generalize hq : ((bs.length : Int) == n) = q at H2
      go_wp2_with fail
      go_ret
      exact ⟨ret_bool H2.out, rfl⟩

theorem areChances_1 (b : Nat) (w : World) : Calls Try.prog 99 #[.float .f32 b] w fun e w' => e = .returned (.bool (!(shareB (cn .f32 b)))) ∧ Ext w w' := by
  go_enter Try.func99, Try.ntmps99
  go_wp2_with fail
  refine (isShare_any b _).mono ?_
  rintro e w1 ⟨rfl, rfl⟩
  generalize hz : shareB (cn .f32 b) = z
  go_wp2_with fail
  go_ret
  exact ⟨ret_bool (by rw [hz]), Ext.refl _⟩
theorem areChances_any (v : Value) (bs : List Nat) (n : Int) (w : World) (r : RdF w v bs) :
    Calls Try.prog 60 #[v, .int .i64 n] w fun e w' => e = .returned (.bool (chancesB bs n)) ∧ Ext w w' := by
  have r' := r
  obtain ⟨⟨-, a1, c1, rfl, p1, p2, -, -⟩, l1⟩ := r
  clear l1 p1 p2
  by_cases hl : (bs.length : Int) = n
  · subst hl
    have H := Lib.hid (containsFuncF_any 99 #[] (fun x => !(shareB x)) _ bs w r' (enterOk Try.func99 (by kernel_rfl) rfl) (fun w' _ b _ => areChances_1 b w'))
    have H2 : Hid ((!((bs.map (cn .f32)).any fun x => !(shareB x))) = chancesB bs bs.length) := by show _ = _; rw [all_any]; unfold chancesB; simp
    go_enter Try.func60, Try.ntmps60
    go_wp2_with fail
    refine H.out.mono ?_
    rintro e w1 ⟨rfl, X⟩
    clear H
    generalize ((bs.map (cn .f32)).any fun x => !(shareB x)) = z at *
    go_wp2_with fail
    go_ret
    exact ⟨ret_bool H2.out, X⟩
  · have hd : ((bs.length : Int) == n) = false := by simpa using hl
    have H : Hid (chancesB bs n = false) := by show _ = _; simp [chancesB, hl]
    clear hl
    go_enter Try.func60, Try.ntmps60
    go_wp2_with fail
    go_ret
    exact ⟨ret_bool H.out.symm, Ext.refl _⟩
end Go.Proofs.Ytgmdoboeenpjpaa
