
/- How many fail at a time and how many are at risk: what the program and the reference compute. Condition: lists that can be read, of at most 2^20 lives. -/
import Derived.Test.YtlbmjeennpccmaaLr
import Derived.Test.YtlbmjeennpccmaaCr
namespace Go.Proofs.Ytlbmjeennpccmaa
open Go Go.RowKit Go.ChangeShapes Go.WideShapes Go.ChangeAt

attribute [local go_sem] run_store_float

def riskB (t : Nat) (x : Lf) : Bool := fcmp .geq .f32 (cn .f32 x.1) (cn .f32 t)
def fellB (t : Nat) (x : Lf) : Bool := x.2 && fcmp .eql .f32 (cn .f32 x.1) (cn .f32 t)
def cntB (p : Lf → Bool) (ls : List Lf) : Nat := ls.countP p
theorem cntB_succ {p : Lf → Bool} {ls : List Lf} {k : Nat} (h : k < ls.length) : cntB p (ls.take (k + 1)) = cntB p (ls.take k) + (if p ls[k] then 1 else 0) := by
  unfold cntB
  rw [List.take_add_one, List.getElem?_eq_getElem h, List.countP_append]
  simp only [Option.toList_some, List.countP_cons, List.countP_nil]
  omega
theorem cntB_yes {p : Lf → Bool} {ls : List Lf} {k : Nat} (h : k < ls.length) (hp : p ls[k] = true) : cntB p (ls.take (k + 1)) = cntB p (ls.take k) + 1 := by rw [cntB_succ h, hp]; rfl
theorem cntB_no {p : Lf → Bool} {ls : List Lf} {k : Nat} (h : k < ls.length) (hp : p ls[k] = false) : cntB p (ls.take (k + 1)) = cntB p (ls.take k) := by rw [cntB_succ h, hp]; rfl
theorem cntB_le (p : Lf → Bool) (ls : List Lf) (k : Nat) : cntB p (ls.take k) ≤ k := Nat.le_trans (List.countP_le_length) (by rw [List.length_take]; omega)
theorem cntB_all (p : Lf → Bool) (ls : List Lf) : cntB p (ls.take ls.length) = cntB p ls := by rw [List.take_length]

set_option maxHeartbeats 1000000 in
theorem l02Risk_any (v : Value) (ls : List Lf) (t : Nat) (w : World) (r : RdL w v ls) (hz : ls.length ≤ 1048576) :
    Calls Try.prog 46 #[v, .float .f32 t] w fun e w' => e = .returned (.int .i64 (cntB (riskB t) ls)) ∧ w = w' := by
  have r' := r
  obtain ⟨⟨-, a1, c1, rfl, p1, p2, -, -⟩, -⟩ := r
  go_enter Try.func46, Try.ntmps46
  go_wp2_with fail
  go_loopw [5, 6] (fun n i wr => ∃ k m : Nat, k ≤ ls.length ∧ i = .int .i64 k ∧ n = .int .i64 m ∧ m ≤ k ∧ Hid (m = cntB (riskB t) (ls.take k)) ∧ wr = w) (fun _ i _ => ls.length - (intOf i).toNat)
  case atStart => exact ⟨0, 0, Nat.zero_le _, rfl, rfl, Nat.le_refl _, rfl, rfl⟩
  case round =>
    obtain ⟨k, m, hk, rfl, rfl, hmk, HM, rfl⟩ := hrel
    by_cases hlt : k < ls.length
    · obtain ⟨b1, o1, rfl, hb1, hc1, hd1⟩ := r'.at hlt
      cases hp : fcmp .geq .f32 (cn .f32 ls[k].1) (cn .f32 t)
      · have HN : Hid (m = cntB (riskB t) (ls.take (k + 1))) := by show _ = _; rw [cntB_no hlt hp]; exact HM.out
        go_wp2_with (refine wpList_fcmp rfl rfl rfl rfl rfl (by first | with_reducible assumption | exact rfl) ?_)
        go_roundw
        case rel => exact ⟨k + 1, m, by omega, by go_num, rfl, by omega, HN, by first | rfl | trivial⟩
        case measure => simp [intOf]; omega
      · have HN : Hid (m + 1 = cntB (riskB t) (ls.take (k + 1))) := by show _ = _; rw [cntB_yes hlt hp, ← HM.out]
        go_wp2_with (refine wpList_fcmp rfl rfl rfl rfl rfl (by first | with_reducible assumption | exact rfl) ?_)
        go_roundw
        case rel => exact ⟨k + 1, m + 1, by omega, by go_num, by go_num, by omega, HN, by first | rfl | trivial⟩
        case measure => simp [intOf]; omega
    · obtain rfl : k = ls.length := by omega
      go_wp2_with fail
      go_ret
      exact ⟨ret_int (by have h := HM.out; rw [cntB_all] at h; rw [h]), rfl⟩

set_option maxHeartbeats 1000000 in
theorem l02Fell_any (v : Value) (ls : List Lf) (t : Nat) (w : World) (r : RdL w v ls) (hz : ls.length ≤ 1048576) :
    Calls Try.prog 45 #[v, .float .f32 t] w fun e w' => e = .returned (.int .i64 (cntB (fellB t) ls)) ∧ w = w' := by
  have r' := r
  obtain ⟨⟨-, a1, c1, rfl, p1, p2, -, -⟩, -⟩ := r
  go_enter Try.func45, Try.ntmps45
  go_wp2_with fail
  go_loopw [5, 6] (fun n i wr => ∃ k m : Nat, k ≤ ls.length ∧ i = .int .i64 k ∧ n = .int .i64 m ∧ m ≤ k ∧ Hid (m = cntB (fellB t) (ls.take k)) ∧ wr = w) (fun _ i _ => ls.length - (intOf i).toNat)
  case atStart => exact ⟨0, 0, Nat.zero_le _, rfl, rfl, Nat.le_refl _, rfl, rfl⟩
  case round =>
    obtain ⟨k, m, hk, rfl, rfl, hmk, HM, rfl⟩ := hrel
    by_cases hlt : k < ls.length
    · obtain ⟨b1, o1, rfl, hb1, hc1, hd1⟩ := r'.at hlt
      have HNO : Hid (fellB t ls[k] = false → m = cntB (fellB t) (ls.take (k + 1))) := fun h => by rw [cntB_no hlt h]; exact HM.out
      have HYES : Hid (fellB t ls[k] = true → m + 1 = cntB (fellB t) (ls.take (k + 1))) := fun h => by rw [cntB_yes hlt h, ← HM.out]
      cases hp : fcmp .eql .f32 (cn .f32 ls[k].1) (cn .f32 t)
      · have HN : Hid (m = cntB (fellB t) (ls.take (k + 1))) := HNO.out (by unfold fellB; rw [hp, Bool.and_false])
        clear HNO HYES
        cases hq : ls[k].2
        all_goals
          rw [hq] at hd1
          clear hq
          go_wp2_with (refine wpList_fcmp rfl rfl rfl rfl rfl (by first | with_reducible assumption | exact rfl) ?_)
          go_roundw
          case rel => exact ⟨k + 1, m, by omega, by go_num, rfl, by omega, HN, by first | rfl | trivial⟩
          case measure => simp [intOf]; omega
      · cases hq : ls[k].2
        · have HN : Hid (m = cntB (fellB t) (ls.take (k + 1))) := HNO.out (by unfold fellB; rw [hq, Bool.false_and])
          rw [hq] at hd1
          clear HNO HYES hq
          go_wp2_with (refine wpList_fcmp rfl rfl rfl rfl rfl (by first | with_reducible assumption | exact rfl) ?_)
          go_roundw
          case rel => exact ⟨k + 1, m, by omega, by go_num, rfl, by omega, HN, by first | rfl | trivial⟩
          case measure => simp [intOf]; omega
        · have HN : Hid (m + 1 = cntB (fellB t) (ls.take (k + 1))) := HYES.out (by unfold fellB; rw [hq, hp]; rfl)
          rw [hq] at hd1
          clear HNO HYES hq
          go_wp2_with (refine wpList_fcmp rfl rfl rfl rfl rfl (by first | with_reducible assumption | exact rfl) ?_)
          go_roundw
          case rel => exact ⟨k + 1, m + 1, by omega, by go_num, by go_num, by omega, HN, by first | rfl | trivial⟩
          case measure => simp [intOf]; omega
    · obtain rfl : k = ls.length := by omega
      go_wp2_with fail
      go_ret
      exact ⟨ret_int (by have h := HM.out; rw [cntB_all] at h; rw [h]), rfl⟩

/-- The share that fails. -/
def quotL (ls : List Lf) (t : Nat) : Nat := fop .quo .f32 (ofI (cntB (fellB t) ls)) (ofI (cntB (riskB t) ls))

theorem l02Quotient_any (v : Value) (ls : List Lf) (t : Nat) (w : World) (r : RdL w v ls) (hz : ls.length ≤ 1048576) :
    Calls Try.prog 85 #[v, .float .f32 t] w fun e w' => ∃ b, e = .returned (.float .f32 b) ∧ cn .f32 b = quotL ls t ∧ b < 4294967296 ∧ Ext w w' := by
  have H1 := Lib.hid (l02Fell_any v ls t w r hz)
  have H2 := Lib.hid (fun W (x : Ext w W) => l02Risk_any v ls t W (r.ext x) hz)
  have hq : Hid (quotL ls t = fop .quo .f32 (ofI (cntB (fellB t) ls)) (ofI (cntB (riskB t) ls))) := rfl
  obtain ⟨⟨-, a1, c1, rfl, p1, p2, -, -⟩, -⟩ := r
  generalize cntB (fellB t) ls = f at *
  generalize cntB (riskB t) ls = k at *
  go_enter Try.func85, Try.ntmps85
  go_wp2_with fail
  refine H1.out.mono ?_
  rintro e w1 ⟨rfl, rfl⟩
  go_wp2_with fail
  refine (H2.out _ (Ext.refl _)).mono ?_
  rintro e w1 ⟨rfl, rfl⟩
  go_wp2_with (first | (refine wpList_fop rfl rfl rfl rfl rfl ?_; intro fb nf hfb hfl; replace hfb := Lib.hid hfb; replace hfl := Lib.hid hfl))
  go_ret
  refine ⟨fb, rfl, ?_, hfl.out, Ext.drewN _ _⟩
  rw [hq.out, hfb.out, cn_ofI, cn_ofI]

set_option maxHeartbeats 2000000 in
theorem at_any (v : Value) (ls : List Lf) (t : Nat) (w : World) (r : RdL w v ls) (hz : ls.length ≤ 1048576) :
    Calls Try.prog 52 #[v, .float .f32 t] w fun e w' => e = .returned (.tuple #[.float .f32 (floatOfInt .f32 (cntB (fellB t) ls)), .float .f32 (floatOfInt .f32 (cntB (riskB t) ls))]) ∧ Ext w w' := by
  have r' := r
  obtain ⟨⟨-, a1, c1, rfl, p1, p2, -, -⟩, -⟩ := r
  go_enter Try.func52, Try.ntmps52
  go_wp2_with fail
  go_loopw [6, 7, 12] (fun c q i wr => ∃ k m n : Nat, k ≤ ls.length ∧ i = .int .i64 k ∧ c = .int .i64 m ∧ q = .int .i64 n ∧ m ≤ k ∧ n ≤ k ∧ Hid (m = cntB (fellB t) (ls.take k)) ∧ Hid (n = cntB (riskB t) (ls.take k)) ∧ Ext w wr) (fun _ _ i _ => ls.length - (intOf i).toNat)
  case atStart => exact ⟨0, 0, 0, Nat.zero_le _, rfl, rfl, rfl, Nat.le_refl _, Nat.le_refl _, rfl, rfl, Ext.refl _⟩
  case round =>
    obtain ⟨k, m, n, hk, rfl, rfl, rfl, hmk, hnk, HM, HN, X⟩ := hrel
    by_cases hlt : k < ls.length
    · obtain ⟨b1, o1, rfl, hb1, hc1, hd1⟩ := (r'.ext X).at hlt
      have HNO : Hid (fellB t ls[k] = false → m = cntB (fellB t) (ls.take (k + 1))) := fun h => by rw [cntB_no hlt h]; exact HM.out
      have HYES : Hid (fellB t ls[k] = true → m + 1 = cntB (fellB t) (ls.take (k + 1))) := fun h => by rw [cntB_yes hlt h, ← HM.out]
      have HRN : Hid (riskB t ls[k] = false → n = cntB (riskB t) (ls.take (k + 1))) := fun h => by rw [cntB_no hlt h]; exact HN.out
      have HRY : Hid (riskB t ls[k] = true → n + 1 = cntB (riskB t) (ls.take (k + 1))) := fun h => by rw [cntB_yes hlt h, ← HN.out]
      cases hr : fcmp .geq .f32 (cn .f32 ls[k].1) (cn .f32 t)
      case' false => have HR : Hid (∃ n', n' = n ∧ n' = cntB (riskB t) (ls.take (k + 1))) := ⟨n, rfl, HRN.out hr⟩
      case' true => have HR : Hid (∃ n', n' = n + 1 ∧ n' = cntB (riskB t) (ls.take (k + 1))) := ⟨n + 1, rfl, HRY.out hr⟩
      all_goals
        clear HRN HRY HM HN
        cases hp : fcmp .eql .f32 (cn .f32 ls[k].1) (cn .f32 t)
        all_goals
          cases hq : ls[k].2
      case' false.false.false => have HF : Hid (∃ m', m' = m ∧ m' = cntB (fellB t) (ls.take (k + 1))) := ⟨m, rfl, HNO.out (by unfold fellB; rw [hp, Bool.and_false])⟩
      case' false.false.true => have HF : Hid (∃ m', m' = m ∧ m' = cntB (fellB t) (ls.take (k + 1))) := ⟨m, rfl, HNO.out (by unfold fellB; rw [hp, Bool.and_false])⟩
      case' false.true.false => have HF : Hid (∃ m', m' = m ∧ m' = cntB (fellB t) (ls.take (k + 1))) := ⟨m, rfl, HNO.out (by unfold fellB; rw [hq, Bool.false_and])⟩
      case' false.true.true => have HF : Hid (∃ m', m' = m + 1 ∧ m' = cntB (fellB t) (ls.take (k + 1))) := ⟨m + 1, rfl, HYES.out (by unfold fellB; rw [hq, hp]; rfl)⟩
      case' true.false.false => have HF : Hid (∃ m', m' = m ∧ m' = cntB (fellB t) (ls.take (k + 1))) := ⟨m, rfl, HNO.out (by unfold fellB; rw [hp, Bool.and_false])⟩
      case' true.false.true => have HF : Hid (∃ m', m' = m ∧ m' = cntB (fellB t) (ls.take (k + 1))) := ⟨m, rfl, HNO.out (by unfold fellB; rw [hp, Bool.and_false])⟩
      case' true.true.false => have HF : Hid (∃ m', m' = m ∧ m' = cntB (fellB t) (ls.take (k + 1))) := ⟨m, rfl, HNO.out (by unfold fellB; rw [hq, Bool.false_and])⟩
      case' true.true.true => have HF : Hid (∃ m', m' = m + 1 ∧ m' = cntB (fellB t) (ls.take (k + 1))) := ⟨m + 1, rfl, HYES.out (by unfold fellB; rw [hq, hp]; rfl)⟩
      all_goals
        rw [hq] at hd1
        clear hq HNO HYES
        obtain ⟨n', hn', HN'⟩ := HR.out
        obtain ⟨m', hm', HM'⟩ := HF.out
        have HN2 := Lib.hid HN'
        have HM2 := Lib.hid HM'
        have KN := Lib.hid hn'
        have KM := Lib.hid hm'
        clear HR HF HN' HM' hn' hm'
        go_wp2_with (refine wpList_fcmp rfl rfl rfl rfl rfl (by first | with_reducible assumption | exact rfl) ?_)
        go_roundw
        case rel => exact ⟨k + 1, m', n', by omega, by go_num, by have := KM.out; go_num, by have := KN.out; go_num, by have := KM.out; omega, by have := KN.out; omega, HM2, HN2, by first | exact X.trans (Ext.alloc _ _) | exact X⟩
        case measure => simp [intOf]; omega
    · obtain rfl : k = ls.length := by omega
      have h1 := HM.out
      have h2 := HN.out
      rw [cntB_all] at h1 h2
      have G1 := Lib.hid h1
      have G2 := Lib.hid h2
      clear h1 h2 HM HN
      go_wp2_with fail
      go_ret2
      exact ⟨by rw [← G1.out, ← G2.out]; rfl, X⟩
end Go.Proofs.Ytlbmjeennpccmaa
