
/- Which lives are valid, both sides; the laws' own functions on lives. Condition: lists that can be read, of at most 2^20 lives where they are copied. -/
import Derived.Test.YtlbmjeennpccmaaLq
import Derived.Test.YtlbmjeennpccmaaTW
namespace Go.Proofs.Ytlbmjeennpccmaa
open Go Go.RowKit Go.ChangeShapes Go.WideShapes Go.ChangeAt

attribute [local go_sem] run_store_float
attribute [local irreducible] LX

def timeB (x : Lf) : Bool := aboveB (cn .f32 x.1)
def livesB (ls : List Lf) : Bool := (decide (1 ≤ ls.length) && decide (ls.length ≤ 48)) && ls.all timeB
theorem livesB_ok {ls : List Lf} (h : livesB ls = true) (hb : ∀ x ∈ ls, x.1 < 4294967296) : AllOk ls := fun x hx => by
  unfold livesB at h
  rw [Bool.and_eq_true, List.all_eq_true] at h
  exact above_pos (hb x hx) (h.2 x hx)
theorem livesB_len {ls : List Lf} (h : livesB ls = true) : 0 < ls.length ∧ ls.length ≤ 48 := by
  unfold livesB at h
  simp only [Bool.and_eq_true, decide_eq_true_eq] at h
  omega

def PredL (fn : FuncId) (cap : Array Value) (p : Lf → Bool) (w0 : World) : Prop := ∀ w, Ext w0 w → ∀ x : Lf, x.1 < 4294967296 → Calls Try.prog fn (#[.agg #[.float .f32 x.1, .bool x.2]] ++ cap) w fun e w' => e = .returned (.bool (p x)) ∧ Ext w w'
set_option maxHeartbeats 1000000 in
theorem indexFuncL_any (fn : FuncId) (p : Lf → Bool) (v : Value) (ls : List Lf) (w : World) (r : RdL w v ls) (hen : EnterOk Try.prog fn) (hp : PredL fn #[] p w) :
    Calls Try.prog 102 #[v, .func (.func fn) #[] #[]] w fun e w' => e = .returned (.int .i64 (idxOf p ls)) ∧ Ext w w' := by
  have r' := r
  obtain ⟨⟨_, a1, c1, rfl, p1, p2, _, _⟩, hlt32⟩ := r
  unfold maxLen at p2
  have hent : ∀ args w, (callFunc fn args).run Try.prog w = .ok (.enter fn args) w := hen
  clear hen
  have HP := Lib.hid hp
  have HL := Lib.hid hlt32
  clear hp hlt32
  go_enter Try.func102, Try.ntmps102
  go_wp2_with fail
  go_loopw [8] (fun i wr => ∃ k : Nat, k ≤ ls.length ∧ i = .int .i64 k ∧ Hid (∀ j, (h : j < k) → (h' : j < ls.length) → p ls[j] = false) ∧ Ext w wr) (fun i _ => ls.length - (intOf i).toNat)
  case atStart => exact ⟨0, Nat.zero_le _, rfl, fun j h => absurd h (Nat.not_lt_zero _), Ext.refl _⟩
  case round =>
    obtain ⟨k, hk, rfl, Hn, X⟩ := hrel
    by_cases hlt : k < ls.length
    · obtain ⟨b1, o1, rfl, hb1, hc1, hc2⟩ := (r'.ext X).at hlt
      go_wp2_with fail
      refine (HP.out _ X ls[k] (HL.out _ (List.getElem_mem hlt))).mono ?_
      rintro e w1 ⟨rfl, hx⟩
      replace X := X.trans hx
      cases hpk : p ls[k]
      · have Hk := Lib.hid hpk
        clear hpk hc1 hc2 hb1 hx
        go_wp2_with fail
        go_roundw
        case rel =>
          refine ⟨k + 1, by omega, by go_num, (fun j hj hj' => ?_), X⟩
          by_cases hjk : j = k
          · subst hjk; exact Hk.out
          · exact Hn.out j (by omega) hj'
        case measure => simp [intOf]; omega
      · have Hk := Lib.hid hpk
        clear hpk hc1 hc2 hb1 hx
        go_wp2_with fail
        go_ret
        have he : idxOf p ls = k := idxOf_hit hlt Hk.out fun j hj => Hn.out j hj (by omega)
        exact ⟨ret_int he.symm, X⟩
    · go_wp2_with fail
      go_ret
      have he : idxOf p ls = -1 := idxOf_none fun j hj => Hn.out j (by omega) hj
      exact ⟨ret_int he.symm, X⟩
theorem containsFuncL_any (fn : FuncId) (p : Lf → Bool) (v : Value) (ls : List Lf) (w : World) (r : RdL w v ls) (hen : EnterOk Try.prog fn) (hp : PredL fn #[] p w) :
    Calls Try.prog 77 #[v, .func (.func fn) #[] #[]] w fun e w' => e = .returned (.bool (ls.any p)) ∧ Ext w w' := by
  have H := Lib.hid (indexFuncL_any fn p v ls w r hen hp)
  have H2 := Lib.hid (idxOf_any p ls)
  obtain ⟨⟨_, a1, c1, rfl, p1, p2, _, _⟩, _⟩ := r
  clear hen hp p1 p2
  go_enter Try.func77, Try.ntmps77
  go_wp2_with fail
  refine H.out.mono ?_
  rintro e w1 ⟨rfl, X⟩
  clear H
  generalize idxOf p ls = z at *
  go_wp2_with fail
  go_ret
  exact ⟨ret_bool H2.out, X⟩

theorem areLives_1 (x : Lf) (hx : x.1 < 4294967296) (w : World) : Calls Try.prog 78 #[.agg #[.float .f32 x.1, .bool x.2]] w fun e w' => e = .returned (.bool (!(timeB x))) ∧ Ext w w' := by
  obtain ⟨a, b⟩ := x
  simp only at hx
  have HX := Lib.hid hx
  clear hx
  obtain ⟨z, hz⟩ : ∃ z, aboveB (cn .f32 a) = z := ⟨_, rfl⟩
  have HZ := Lib.hid hz
  have H : Hid ((!z) = !(timeB (a, b))) := by show _ = _; unfold timeB; rw [hz]
  clear hz
  go_enter Try.func78, Try.ntmps78
  go_wp2_with fail
  have R : RdF ((w.alloc (.cells #[.float .f32 a, .bool b] 61)).alloc (.cells #[.float .f32 a] 24)) (.slice (some ⟨w.heap.size + 1, 0, none⟩) 1 1) [a] := by
    have h := RdF_one (w.alloc (.cells #[.float .f32 a, .bool b] 61)) a HX.out
    have e : (w.alloc (.cells #[.float .f32 a, .bool b] 61)).heap.size = w.heap.size + 1 := by simp
    rw [e] at h; exact h
  refine (areMore_one HZ.out _ _ R).mono ?_
  rintro e w1 ⟨rfl, X⟩
  go_wp2_with fail
  go_ret
  exact ⟨ret_bool H.out, ((Ext.alloc _ _).trans (Ext.alloc _ _)).trans X⟩
set_option maxHeartbeats 1000000 in
theorem areLives_any (v : Value) (ls : List Lf) (w : World) (r : RdL w v ls) : Calls Try.prog 39 #[v] w fun e w' => e = .returned (.bool (livesB ls)) ∧ Ext w w' := by
  have H := Lib.hid (containsFuncL_any 78 (fun x => !(timeB x)) v ls w r (enterOk Try.func78 (by kernel_rfl) rfl) (fun w' _ x hx => areLives_1 x hx w'))
  have H2 := Lib.hid (all_any timeB ls)
  obtain ⟨⟨_, a1, c1, rfl, p1, p2, _, _⟩, _⟩ := r
  have p3 := Nat.le_trans p1 p2
  clear p1 p2
  unfold maxLen at p3
  generalize hz : ls.any (fun x => !(timeB x)) = z at *
  clear hz
  go_enter Try.func39, Try.ntmps39
  go_wp2_with (go_at_call 77; refine H.out.mono ?_; rintro e w1 ⟨rfl, X⟩)
  all_goals
    go_ret
    refine ⟨ret_bool ?_, by first | assumption | exact Ext.refl _⟩
    unfold livesB
    rw [← H2.out]
    cases z <;> simp <;> omega

set_option maxHeartbeats 1000000 in
theorem l02Lives_any (v : Value) (ls : List Lf) (w : World) (r : RdL w v ls) : Calls Try.prog 43 #[v] w fun e w' => e = .returned (.bool (livesB ls)) ∧ Ext w w' := by
  have r' := r
  obtain ⟨⟨_, a1, c1, rfl, p1, p2, _, _⟩, -⟩ := r
  have p3 := Nat.le_trans p1 p2
  clear p1 p2
  unfold maxLen at p3
  go_enter Try.func43, Try.ntmps43
  go_wp2_with fail
  go_loopw [3] (fun i wr => ∃ k : Nat, k ≤ ls.length ∧ i = .int .i64 k ∧ Hid (∀ j, (h : j < k) → (h' : j < ls.length) → timeB ls[j] = true) ∧ Ext w wr) (fun i _ => ls.length - (intOf i).toNat)
  case atStart => exact ⟨0, Nat.zero_le _, rfl, fun j h => absurd h (Nat.not_lt_zero _), Ext.refl _⟩
  case round =>
    obtain ⟨k, hk, rfl, Hn, X⟩ := hrel
    by_cases hlt : k < ls.length
    · obtain ⟨b1, o1, rfl, hb1, hc1, hc2⟩ := (r'.ext X).at hlt
      cases hpk : aboveB (cn .f32 ls[k].1)
      · have Hk := Lib.hid hpk
        have HF : Hid (livesB ls = false) := by
          show _ = _
          have : ls.all timeB = false := by rw [List.all_eq_false]; exact ⟨ls[k], List.getElem_mem hlt, by unfold timeB; rw [hpk]; simp⟩
          unfold livesB; rw [this, Bool.and_false]
        clear hpk
        go_wp2_with fail
        refine (l02Above_eq Hk.out _).mono ?_
        rintro e w1 ⟨rfl, hx⟩
        replace X := X.trans hx
        clear hx hc1 hc2
        go_wp2_with fail
        go_ret
        exact ⟨ret_bool HF.out.symm, X⟩
      · have Hk := Lib.hid hpk
        clear hpk
        go_wp2_with fail
        refine (l02Above_eq Hk.out _).mono ?_
        rintro e w1 ⟨rfl, hx⟩
        replace X := X.trans hx
        clear hx hc1 hc2
        go_wp2_with fail
        go_roundw
        case rel =>
          refine ⟨k + 1, by omega, by go_num, (fun j hj hj' => ?_), X⟩
          by_cases hjk : j = k
          · subst hjk; exact Hk.out
          · exact Hn.out j (by omega) hj'
        case measure => simp [intOf]; omega
    · have hall : ls.all timeB = true := by
        rw [List.all_eq_true]; intro x hx; obtain ⟨j, hj, rfl⟩ := List.getElem_of_mem hx; exact Hn.out j (by omega) hj
      have HALL := Lib.hid hall
      clear hall
      go_wp2_with fail
      all_goals
        go_ret
        refine ⟨ret_bool ?_, X⟩
        unfold livesB
        rw [HALL.out, Bool.and_true, Bool.eq_iff_iff]
        simp only [Bool.and_eq_true, decide_eq_true_eq, Bool.false_eq_true, false_iff, not_and]
        omega
end Go.Proofs.Ytlbmjeennpccmaa
