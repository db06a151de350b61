
/- Contracts of the functions that sum lists of 32-bit numbers and ask whether all are finite. No condition. -/
import Derived.Test.YtlbmjeennpccmaaC
namespace Go.Proofs.Ytlbmjeennpccmaa
open Go Go.RowKit

/-- The sum of canonical bits, from left to right. -/
def sumF (s : Nat) (xs : List Nat) : Nat := xs.foldl (fun a x => fop .add .f32 a x) s
theorem sumF_take {s : Nat} {xs : List Nat} {k : Nat} (hk : k < xs.length) : sumF s (xs.take (k + 1)) = fop .add .f32 (sumF s (xs.take k)) xs[k] := by
  unfold sumF
  rw [List.take_add_one, List.getElem?_eq_getElem hk]
  simp only [Option.toList_some, List.foldl_append, List.foldl_cons, List.foldl_nil]
theorem map_take_cn {bs : List Nat} {k : Nat} : (bs.take k).map (cn .f32) = (bs.map (cn .f32)).take k := by rw [List.map_take]

set_option maxHeartbeats 1000000 in
theorem addUp_any (v : Value) (bs : List Nat) (w : World) (r : RdF w v bs) :
    Calls Try.prog 66 #[v] w fun e w' => ∃ b, e = .returned (.float .f32 b) ∧ cn .f32 b = sumF (cn .f32 0) (bs.map (cn .f32)) ∧ b < 4294967296 ∧ Ext w w' := by
  have r' := r
  obtain ⟨⟨-, a1, c1, rfl, p1, p2, -, -⟩, l1⟩ := r
  clear l1
  unfold maxLen at p2
  go_enter Try.func66, Try.ntmps66
  go_wp2_with fail
  go_loopw [3, 8] (fun s i wr => ∃ (k b : Nat), k ≤ bs.length ∧ i = .int .i64 k ∧ s = .float .f32 b ∧ Hid (cn .f32 b = sumF (cn .f32 0) ((bs.map (cn .f32)).take k)) ∧ Hid (b < 4294967296) ∧ Ext w wr) (fun _ i _ => bs.length - (intOf i).toNat)
  case atStart => exact ⟨0, 0, Nat.zero_le _, rfl, rfl, rfl, (by show (0 : Nat) < _; decide), Ext.refl _⟩
  case round =>
    obtain ⟨k, b, hk, rfl, rfl, Hb, Hl, X⟩ := hrel
    by_cases hlt : k < bs.length
    · obtain ⟨b1, o1, rfl, hb1, hc1⟩ := (r'.ext X).at hlt
      go_wp2_with (first | (refine wpList_fop rfl rfl rfl rfl rfl ?_; intro fb nf hfb hfl; replace hfb := Lib.hid hfb; replace hfl := Lib.hid hfl))
      go_roundw
      case rel =>
        refine ⟨k + 1, fb, by omega, by go_num, rfl, ?_, hfl, X.trans (Ext.drewN _ _)⟩
        show _ = _
        rw [hfb.out, Hb.out, sumF_take (by simpa using hlt)]
        simp
      case measure => simp [intOf]; omega
    · go_wp2_with fail
      go_ret
      refine ⟨b, rfl, ?_, Hl.out, X⟩
      have h := Hb.out
      rw [List.take_of_length_le (by simp; omega)] at h
      exact h

def finAll (xs : List Nat) : Bool := xs.all finB

theorem l01Finite_eq {b : Nat} {c : Bool} (h : finB (cn .f32 b) = c) (w : World) : Calls Try.prog 82 #[.float .f32 b] w fun e w' => e = .returned (.bool c) ∧ Ext w w' := by subst h; exact l01Finite_any b w
set_option maxHeartbeats 1000000 in
theorem l02Finite_any (v : Value) (bs : List Nat) (w : World) (r : RdF w v bs) :
    Calls Try.prog 88 #[v] w fun e w' => e = .returned (.bool (finAll (bs.map (cn .f32)))) ∧ Ext w w' := by
  have r' := r
  obtain ⟨⟨-, a1, c1, rfl, p1, p2, -, -⟩, l1⟩ := r
  clear l1
  unfold maxLen at p2
  go_enter Try.func88, Try.ntmps88
  go_wp2_with fail
  go_loopw [3] (fun i wr => ∃ k : Nat, k ≤ bs.length ∧ i = .int .i64 k ∧ Hid (∀ j, (h : j < k) → (h' : j < bs.length) → finB (cn .f32 bs[j]) = true) ∧ Ext w wr) (fun i _ => bs.length - (intOf i).toNat)
  case atStart => exact ⟨0, Nat.zero_le _, rfl, fun j h => absurd h (Nat.not_lt_zero _), Ext.refl _⟩
  case round =>
    obtain ⟨k, hk, rfl, Hn, X⟩ := hrel
    by_cases hlt : k < bs.length
    · obtain ⟨b1, o1, rfl, hb1, hc1⟩ := (r'.ext X).at hlt
      cases hf : finB (cn .f32 bs[k]) with
      | true =>
        have Hf := Lib.hid hf
        clear hf
        go_wp2_with fail
        refine (l01Finite_eq Hf.out _).mono ?_
        rintro e w1 ⟨rfl, hx⟩
        replace X := X.trans hx
        clear hc1 hx
        go_wp2_with fail
        go_roundw
        case rel =>
          refine ⟨k + 1, by omega, by go_num, (fun j hj hj' => ?_), X⟩
          by_cases hjk : j = k
          · subst hjk; exact Hf.out
          · exact Hn.out j (by omega) hj'
        case measure => simp [intOf]; omega
      | false =>
        have Hf := Lib.hid hf
        clear hf
        go_wp2_with fail
        refine (l01Finite_eq Hf.out _).mono ?_
        rintro e w1 ⟨rfl, hx⟩
        replace X := X.trans hx
        clear hc1 hx
        go_wp2_with fail
        go_ret
        have H : finAll (bs.map (cn .f32)) = false := by
          unfold finAll
          rw [List.all_eq_false]
          exact ⟨cn .f32 bs[k], List.mem_map_of_mem (List.getElem_mem hlt), by rw [Hf.out]; simp⟩
        exact ⟨ret_bool H.symm, X⟩
    · go_wp2_with fail
      go_ret
      have H : finAll (bs.map (cn .f32)) = true := by
        unfold finAll
        rw [List.all_eq_true]
        intro x hx
        obtain ⟨b, hb, rfl⟩ := List.mem_map.1 hx
        obtain ⟨j, hj, rfl⟩ := List.getElem_of_mem hb
        exact Hn.out j (by omega) hj
      exact ⟨ret_bool H.symm, X⟩
theorem l02Finite_eq {v : Value} {bs : List Nat} {c : Bool} (h : finAll (bs.map (cn .f32)) = c) (w : World) (r : RdF w v bs) :
    Calls Try.prog 88 #[v] w fun e w' => e = .returned (.bool c) ∧ Ext w w' := by subst h; exact l02Finite_any v bs w r

theorem areFinite_1 (b : Nat) (w : World) : Calls Try.prog 105 #[.float .f32 b] w fun e w' => e = .returned (.bool (!(finB (cn .f32 b)))) ∧ Ext w w' := by
  go_enter Try.func105, Try.ntmps105
  go_wp2_with fail
  refine (isFinite_any b _).mono ?_
  rintro e w1 ⟨rfl, X⟩
  generalize hz : finB (cn .f32 b) = z
  have Hz := Lib.hid hz
  clear hz
  go_wp2_with fail
  go_ret
  exact ⟨ret_bool (by rw [Hz.out]), X⟩
theorem areFinite_any (v : Value) (bs : List Nat) (w : World) (r : RdF w v bs) : Calls Try.prog 89 #[v] w fun e w' => e = .returned (.bool (finAll (bs.map (cn .f32)))) ∧ Ext w w' := by
  have H := Lib.hid (containsFuncF_any 105 #[] (fun x => !(finB x)) v bs w r (enterOk Try.func105 (by kernel_rfl) rfl) (fun w' _ b _ => areFinite_1 b w'))
  have H2 : Hid ((!(bs.map (cn .f32)).any fun x => !(finB x)) = finAll (bs.map (cn .f32))) := by
    show _ = _; unfold finAll; induction (bs.map (cn .f32)) with
    | nil => rfl
    | cons x l ih => simp only [List.any_cons, List.all_cons, Bool.not_or, Bool.not_not, ih]
  obtain ⟨⟨_, a1, c1, rfl, _, _, _, _⟩, _⟩ := r
  go_enter Try.func89, Try.ntmps89
  go_wp2_with fail
  refine H.out.mono ?_
  rintro e w1 ⟨rfl, X⟩
  clear H
  generalize ((bs.map (cn .f32)).any fun x => !(finB x)) = z at *
  go_wp2_with fail
  go_ret
  exact ⟨ret_bool H2.out, X⟩
theorem areFinite_eq {v : Value} {bs : List Nat} {c : Bool} (h : finAll (bs.map (cn .f32)) = c) (w : World) (r : RdF w v bs) :
    Calls Try.prog 89 #[v] w fun e w' => e = .returned (.bool c) ∧ Ext w w' := by subst h; exact areFinite_any v bs w r

/-- What 'ifAll' hands back: the list itself, or nothing. -/
def orNil (c : Bool) (v : Value) : Value := if c then v else .slice none 0 0

theorem ifAll_any (v : Value) (bs : List Nat) (w : World) (r : RdF w v bs) :
    Calls Try.prog 60 #[v] w fun e w' => e = .returned (.tuple #[orNil (finAll (bs.map (cn .f32))) v, .bool (finAll (bs.map (cn .f32)))]) ∧ Ext w w' := by
  have r' := r
  obtain ⟨⟨-, a1, c1, rfl, -, -, -, -⟩, l1⟩ := r
  clear l1
  cases hf : finAll (bs.map (cn .f32))
  all_goals
    have Hf := Lib.hid hf
    clear hf
    go_enter Try.func60, Try.ntmps60
    go_wp2_with fail
    refine (areFinite_eq Hf.out _ r').mono ?_
    rintro e w1 ⟨rfl, X⟩
    go_wp2_with fail
    go_ret2
    exact ⟨rfl, X⟩
theorem l02List_any (v : Value) (bs : List Nat) (w : World) (r : RdF w v bs) :
    Calls Try.prog 57 #[v] w fun e w' => e = .returned (.tuple #[orNil (finAll (bs.map (cn .f32))) v, .bool (finAll (bs.map (cn .f32)))]) ∧ Ext w w' := by
  have r' := r
  obtain ⟨⟨-, a1, c1, rfl, -, -, -, -⟩, l1⟩ := r
  clear l1
  cases hf : finAll (bs.map (cn .f32))
  all_goals
    have Hf := Lib.hid hf
    clear hf
    go_enter Try.func57, Try.ntmps57
    go_wp2_with fail
    refine (l02Finite_eq Hf.out _ r').mono ?_
    rintro e w1 ⟨rfl, X⟩
    go_wp2_with fail
    go_ret2
    exact ⟨rfl, X⟩

end Go.Proofs.Ytlbmjeennpccmaa
