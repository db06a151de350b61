
/- The order of lives: positive numbers are ordered as their words are; the comparisons of the program and of the reference. Condition: times that are finite and greater than 0. -/
import Derived.Test.YtlbmjeennpccmaaLf
import Derived.Outline
namespace Go.Proofs.Ytlbmjeennpccmaa
open Go Go.RowKit Go.ChangeShapes Go.WideShapes Go.ChangeAt

def pv (x : Nat) : Nat := if x < 8388608 then x else (8388608 + x % 8388608) * 2 ^ (x / 8388608 - 1)
theorem pv_succ (x : Nat) : pv x < pv (x + 1) := by
  unfold pv
  by_cases h1 : x + 1 < 8388608
  · rw [if_pos (by omega), if_pos h1]; omega
  · by_cases h2 : x < 8388608
    · have : x = 8388607 := by omega
      subst this
      decide
    · rw [if_neg h2, if_neg h1]
      by_cases h3 : (x + 1) % 8388608 = 0
      · have e1 : (x + 1) / 8388608 - 1 = (x / 8388608 - 1) + 1 := by omega
        have e2 : x % 8388608 = 8388607 := by omega
        rw [h3, e1, e2, Nat.pow_succ]
        have : 0 < 2 ^ (x / 8388608 - 1) := Nat.pow_pos (by omega)
        omega
      · have e1 : (x + 1) / 8388608 = x / 8388608 := by omega
        have e2 : (x + 1) % 8388608 = x % 8388608 + 1 := by omega
        rw [e1, e2]
        exact Nat.mul_lt_mul_of_pos_right (by omega) (Nat.pow_pos (by omega))
theorem pv_lt {x y : Nat} (h : x < y) : pv x < pv y := by
  obtain ⟨d, rfl⟩ : ∃ d, y = x + 1 + d := ⟨y - x - 1, by omega⟩
  clear h
  induction d with
  | zero => exact pv_succ x
  | succ d ih => exact Nat.lt_trans ih (pv_succ (x + 1 + d))

def posW (x : Nat) : Prop := 0 < x ∧ x < 2139095040
theorem posW.num {x : Nat} (h : posW x) : isN .f32 x = false := by
  have h1 : x % 2147483648 = x := Nat.mod_eq_of_lt (by have := h.2; omega)
  have h2 := h.2
  unfold isN Ieee.Format.read
  have e1 : (FloatKind.f32).format.signWeight = 2147483648 := by decide
  have e2 : (FloatKind.f32).format.binade = 8388608 := by decide
  have e3 : (FloatKind.f32).format.infRung = 2139095040 := by decide
  simp only [e1, e2, e3, h1]
  split
  · rfl
  · first | rfl | (rw [if_pos h2]; rfl)
theorem read_pos {x : Nat} (h : posW x) : ∃ (m : Nat) (i : Int), Ieee.single.read x = .number false m i ∧ -149 ≤ i ∧ m * 2 ^ (i + 149).toNat = pv x := by
  have hx := h.2
  have h1 : x % 2147483648 = x := Nat.mod_eq_of_lt (by omega)
  have hd : decide (2147483648 ≤ x) = false := by simp; omega
  rcases single_form x h.num (by omega) with ⟨a1, a2⟩ | ⟨a1, a2, a3⟩ | ⟨a1, a2⟩
  · rw [h1] at a1 a2; rw [hd] at a2
    exact ⟨x, -149, a2, by omega, by unfold pv; rw [if_pos a1]; simp⟩
  · rw [h1] at a1 a3; rw [hd] at a3
    refine ⟨_, _, a3, by omega, ?_⟩
    unfold pv
    rw [if_neg (by omega)]
    congr 2
    omega
  · rw [h1] at a1; omega
theorem int_lt_cmp {a b : Int} (h : a < b) : compare a b = .lt := by
  show compareOfLessAndEq a b = .lt
  unfold compareOfLessAndEq; rw [if_pos h]
theorem int_gt_cmp {a b : Int} (h : b < a) : compare a b = .gt := by
  show compareOfLessAndEq a b = .gt
  unfold compareOfLessAndEq; rw [if_neg (by omega), if_neg (by omega)]
theorem scaled {m n : Nat} {i j : Int} (hi : -149 ≤ i) (hj : -149 ≤ j) (h : m * 2 ^ (i + 149).toNat < n * 2 ^ (j + 149).toNat) :
    Ieee.signed false m (i - min i j).toNat < Ieee.signed false n (j - min i j).toNat := by
  have e1 : (i + 149).toNat = (i - min i j).toNat + (min i j + 149).toNat := by omega
  have e2 : (j + 149).toNat = (j - min i j).toNat + (min i j + 149).toNat := by omega
  rw [e1, e2, Nat.pow_add, Nat.pow_add, ← Nat.mul_assoc, ← Nat.mul_assoc] at h
  have h2 := Nat.lt_of_mul_lt_mul_right h
  unfold Ieee.signed
  simp only [Nat.shiftLeft_eq, Bool.false_eq_true, if_false]
  exact_mod_cast h2
theorem order_lt {x y : Nat} (hx : posW x) (hy : posW y) (h : x < y) : (FloatKind.f32).format.order x y = some .lt := by
  obtain ⟨m, i, r1, i1, v1⟩ := read_pos hx
  obtain ⟨n, j, r2, i2, v2⟩ := read_pos hy
  have hv := pv_lt h
  rw [← v1, ← v2] at hv
  show (Ieee.single.read x).order (Ieee.single.read y) = _
  rw [r1, r2]
  simp only [Ieee.Datum.order]
  rw [int_lt_cmp (scaled i1 i2 hv)]
theorem order_gt {x y : Nat} (hx : posW x) (hy : posW y) (h : y < x) : (FloatKind.f32).format.order x y = some .gt := by
  obtain ⟨m, i, r1, i1, v1⟩ := read_pos hx
  obtain ⟨n, j, r2, i2, v2⟩ := read_pos hy
  have hv := pv_lt h
  rw [← v1, ← v2] at hv
  show (Ieee.single.read x).order (Ieee.single.read y) = _
  rw [r1, r2]
  simp only [Ieee.Datum.order]
  have := scaled i2 i1 hv
  rw [Int.min_comm] at this
  rw [int_gt_cmp this]
theorem cn_pos {x : Nat} (h : posW x) : cn .f32 x = x := cn_of_num h.num
theorem pos_cmp {x y : Nat} (hx : posW x) (hy : posW y) :
    fcmp .neq .f32 (cn .f32 x) (cn .f32 y) = decide (x ≠ y) ∧ fcmp .lss .f32 (cn .f32 x) (cn .f32 y) = decide (x < y) ∧ fcmp .gtr .f32 (cn .f32 x) (cn .f32 y) = decide (y < x) := by
  simp only [fcmp_cn]
  rcases Nat.lt_trichotomy x y with h | h | h
  · have e := order_lt hx hy h
    refine ⟨?_, ?_, ?_⟩ <;> unfold fcmp <;> simp only [e]
    · rw [decide_eq_true (by omega)]; rfl
    · rw [decide_eq_true (by omega)]; rfl
    · rw [decide_eq_false (by omega)]; rfl
  · subst h
    have e := order_self .f32 x hx.num
    refine ⟨?_, ?_, ?_⟩ <;> unfold fcmp <;> simp only [e]
    · rw [decide_eq_false (by omega)]; rfl
    · rw [decide_eq_false (by omega)]; rfl
    · rw [decide_eq_false (by omega)]; rfl
  · have e := order_gt hx hy h
    refine ⟨?_, ?_, ?_⟩ <;> unfold fcmp <;> simp only [e]
    · rw [decide_eq_true (by omega)]; rfl
    · rw [decide_eq_false (by omega)]; rfl
    · rw [decide_eq_true (by omega)]; rfl

theorem above_pos {b : Nat} (hb : b < 4294967296) (h : aboveB (cn .f32 b) = true) : posW b := by
  unfold aboveB at h
  rw [Bool.and_eq_true] at h
  obtain ⟨h1, h2⟩ := h
  rw [fcmp_cn] at h2
  have nb : isN .f32 b = false := by
    cases hn : isN .f32 b
    · rfl
    · have : fcmp .gtr .f32 b 0 = false := by unfold fcmp; simp only [order_nan .f32 b 0 hn]; rfl
      rw [this] at h2; cases h2
  have hz : Ieee.single.read 0 = .number false 0 (-149) := by decide +kernel
  unfold fcmp at h2
  simp only [beq_iff_eq] at h2
  have h2' : (Ieee.single.read b).order (Ieee.single.read 0) = some .gt := h2
  rw [hz] at h2'
  have key : ∀ (s : Bool) (m : Nat) (i : Int), Ieee.single.read b = .number s m i → s = false ∧ 0 < m := fun s m i e => by
    rw [e] at h2'
    simp only [Ieee.Datum.order, Option.some.injEq] at h2'
    unfold Ieee.signed at h2'
    simp only [Nat.shiftLeft_eq, Nat.zero_mul] at h2'
    have h4 : ∀ z : Int, compare z 0 = .gt → 0 < z := fun z hz => by
      rcases Int.lt_trichotomy z 0 with h | h | h
      · rw [int_lt_cmp h] at hz; cases hz
      · subst h; exact absurd hz (by decide)
      · exact h
    have h5 := h4 _ h2'
    cases s
    · refine ⟨rfl, ?_⟩
      simp only [Bool.false_eq_true, if_false] at h5
      exact Nat.pos_of_ne_zero (by rintro rfl; simp at h5)
    · simp only [if_true] at h5; omega
  rcases single_form b nb hb with ⟨a1, a2⟩ | ⟨a1, a2, a3⟩ | ⟨a1, a2⟩
  · obtain ⟨k1, k2⟩ := key _ _ _ a2
    simp at k1
    exact ⟨by omega, by omega⟩
  · obtain ⟨k1, k2⟩ := key _ _ _ a3
    simp at k1
    exact ⟨by omega, by omega⟩
  · exfalso
    rw [cn_of_num nb] at h1
    have e : floatBits .sub .f32 b b = none := by
      unfold floatBits Ieee.Format.sub
      have : (FloatKind.f32).format.read b = .infinity (decide (2147483648 ≤ b)) := a2
      rw [this]
      simp [Ieee.Datum.sum, Ieee.Datum.opposite]
    unfold finB fop at h1
    rw [e] at h1
    revert h1
    decide +kernel

/-- A life's place in the order. -/
def keyL (x : Lf) : Nat := 2 * x.1 + (if x.2 then 0 else 1)
theorem keyL_inj (x y : Lf) (h : keyL x = keyL y) : x = y := by
  obtain ⟨a, b⟩ := x
  obtain ⟨c, d⟩ := y
  unfold keyL at h
  simp only at h
  cases b <;> cases d <;> simp at h ⊢ <;> omega
def cmpL (x y : Lf) : Int := if keyL x < keyL y then -1 else if keyL y < keyL x then 1 else 0
theorem cmpL_neg (x y : Lf) : (cmpL x y < 0) ↔ keyL x < keyL y := by
  unfold cmpL; split
  · simp; assumption
  · split <;> simp <;> omega
def okL (x : Lf) : Prop := posW x.1

theorem isNaNF_any (b : Nat) (h : posW b) (w : World) : Calls Try.prog 109 #[.float .f32 b] w fun e w' => e = .returned (.bool false) ∧ w = w' := by
  have hq := (pos_cmp h h).1
  simp only [ne_eq, not_true_eq_false, decide_false] at hq
  go_enter Try.func109, Try.ntmps109
  go_wp2_with (refine wpList_fcmp rfl rfl rfl rfl rfl (by first | with_reducible assumption | exact rfl) ?_)
  go_ret
  exact ⟨rfl, rfl⟩
def cmpF (a b : Nat) : Int := if a < b then -1 else if b < a then 1 else 0
theorem compareF_any (a b : Nat) (ha : posW a) (hb : posW b) (w : World) : Calls Try.prog 97 #[.float .f32 a, .float .f32 b] w fun e w' => e = .returned (.int .i64 (cmpF a b)) ∧ w = w' := by
  obtain ⟨-, h1, h2⟩ := pos_cmp ha hb
  have HA := Lib.hid ha
  have HB := Lib.hid hb
  clear ha hb
  rcases Nat.lt_trichotomy a b with h | h | h
  · have h1' : fcmp .lss .f32 (cn .f32 a) (cn .f32 b) = true := by rw [h1]; simp [h]
    have H : Hid (cmpF a b = -1) := by show _ = _; unfold cmpF; rw [if_pos h]
    clear h1 h2 h
    go_enter Try.func97, Try.ntmps97
    go_wp2_with (first | (go_at_call 109; refine (isNaNF_any _ (by first | exact HA.out | exact HB.out) _).mono ?_; rintro e w' ⟨rfl, rfl⟩) | (refine wpList_fcmp rfl rfl rfl rfl rfl (by first | with_reducible assumption | exact rfl) ?_))
    go_ret
    exact ⟨ret_int H.out.symm, rfl⟩
  · have h1' : fcmp .lss .f32 (cn .f32 a) (cn .f32 b) = false := by rw [h1]; simp; omega
    have h2' : fcmp .gtr .f32 (cn .f32 a) (cn .f32 b) = false := by rw [h2]; simp; omega
    have H : Hid (cmpF a b = 0) := by show _ = _; unfold cmpF; rw [if_neg (by omega), if_neg (by omega)]
    clear h1 h2 h
    go_enter Try.func97, Try.ntmps97
    go_wp2_with (first | (go_at_call 109; refine (isNaNF_any _ (by first | exact HA.out | exact HB.out) _).mono ?_; rintro e w' ⟨rfl, rfl⟩) | (refine wpList_fcmp rfl rfl rfl rfl rfl (by first | with_reducible assumption | exact rfl) ?_))
    go_ret
    exact ⟨ret_int H.out.symm, rfl⟩
  · have h1' : fcmp .lss .f32 (cn .f32 a) (cn .f32 b) = false := by rw [h1]; simp; omega
    have h2' : fcmp .gtr .f32 (cn .f32 a) (cn .f32 b) = true := by rw [h2]; simp; omega
    have H : Hid (cmpF a b = 1) := by show _ = _; unfold cmpF; rw [if_neg (by omega), if_pos (by omega)]
    clear h1 h2 h
    go_enter Try.func97, Try.ntmps97
    go_wp2_with (first | (go_at_call 109; refine (isNaNF_any _ (by first | exact HA.out | exact HB.out) _).mono ?_; rintro e w' ⟨rfl, rfl⟩) | (refine wpList_fcmp rfl rfl rfl rfl rfl (by first | with_reducible assumption | exact rfl) ?_))
    go_ret
    exact ⟨ret_int H.out.symm, rfl⟩

set_option maxHeartbeats 1000000 in
theorem ordered_1 (x y : Lf) (hx : okL x) (hy : okL y) (w : World) :
    Calls Try.prog 96 #[.agg #[.float .f32 x.1, .bool x.2], .agg #[.float .f32 y.1, .bool y.2]] w fun e w' => e = .returned (.int .i64 (cmpL x y)) ∧ Ext w w' := by
  obtain ⟨a, p⟩ := x
  obtain ⟨b, q⟩ := y
  simp only [okL] at hx hy
  have hc := pos_cmp hx hy
  have HX := Lib.hid hx
  have HY := Lib.hid hy
  clear hx hy
  have hx2 : ∀ W : World, Ext W ((W.alloc (.cells #[.float .f32 a, .bool p] 61)).alloc (.cells #[.float .f32 b, .bool q] 61)) := fun W => (Ext.alloc _ _).trans (Ext.alloc _ _)
  by_cases h : a = b
  · subst h
    have h1 : fcmp .neq .f32 (cn .f32 a) (cn .f32 a) = false := by rw [hc.1]; simp
    clear hc
    cases p <;> cases q
    all_goals
      go_enter Try.func96, Try.ntmps96
      go_wp2_with (refine wpList_fcmp rfl rfl rfl rfl rfl (by first | with_reducible assumption | exact rfl) ?_)
      go_ret
      exact ⟨ret_int (by simp [cmpL, keyL]), hx2 _⟩
  · have h1 : fcmp .neq .f32 (cn .f32 a) (cn .f32 b) = true := by rw [hc.1]; simp [h]
    have H : Hid (cmpF a b = cmpL (a, p) (b, q)) := by
      show _ = _
      unfold cmpF cmpL keyL
      rcases Nat.lt_or_gt_of_ne h with h | h
      · rw [if_pos h, if_pos (by simp only; split <;> split <;> omega)]
      · rw [if_neg (by omega), if_pos h, if_neg (by simp only; split <;> split <;> omega), if_pos (by simp only; split <;> split <;> omega)]
    clear hc h
    go_enter Try.func96, Try.ntmps96
    go_wp2_with (first | (go_at_call 97; refine (compareF_any _ _ HX.out HY.out _).mono ?_; rintro e w' ⟨rfl, rfl⟩) | (refine wpList_fcmp rfl rfl rfl rfl rfl (by first | with_reducible assumption | exact rfl) ?_))
    go_ret
    exact ⟨ret_int H.out, hx2 _⟩

def befL (x y : Lf) : Bool := decide (keyL x < keyL y)
set_option maxHeartbeats 1000000 in
theorem l02Before_any (x y : Lf) (hx : okL x) (hy : okL y) (w : World) :
    Calls Try.prog 92 #[.agg #[.float .f32 x.1, .bool x.2], .agg #[.float .f32 y.1, .bool y.2]] w fun e w' => e = .returned (.bool (befL x y)) ∧ Ext w w' := by
  obtain ⟨a, p⟩ := x
  obtain ⟨b, q⟩ := y
  simp only [okL] at hx hy
  have hc := pos_cmp hx hy
  clear hx hy
  have hx2 : ∀ W : World, Ext W ((W.alloc (.cells #[.float .f32 a, .bool p] 61)).alloc (.cells #[.float .f32 b, .bool q] 61)) := fun W => (Ext.alloc _ _).trans (Ext.alloc _ _)
  by_cases h : a = b
  · subst h
    have h1 : fcmp .neq .f32 (cn .f32 a) (cn .f32 a) = false := by rw [hc.1]; simp
    clear hc
    cases p <;> cases q
    all_goals
      go_enter Try.func92, Try.ntmps92
      go_wp2_with (refine wpList_fcmp rfl rfl rfl rfl rfl (by first | with_reducible assumption | exact rfl) ?_)
      go_ret
      exact ⟨ret_bool (by simp [befL, keyL]), hx2 _⟩
  · have h1 : fcmp .neq .f32 (cn .f32 a) (cn .f32 b) = true := by rw [hc.1]; simp [h]
    have h2 : fcmp .lss .f32 (cn .f32 a) (cn .f32 b) = decide (a < b) := hc.2.1
    have H : Hid (decide (a < b) = befL (a, p) (b, q)) := by
      show _ = _
      unfold befL keyL
      rcases Nat.lt_or_gt_of_ne h with h | h
      · rw [decide_eq_true h, decide_eq_true (by simp only; split <;> split <;> omega)]
      · rw [decide_eq_false (by omega), decide_eq_false (by simp only; split <;> split <;> omega)]
    generalize decide (a < b) = z at *
    clear hc h
    go_enter Try.func92, Try.ntmps92
    go_wp2_with (refine wpList_fcmp rfl rfl rfl rfl rfl (by first | with_reducible assumption | exact rfl) ?_)
    go_ret
    exact ⟨ret_bool H.out, hx2 _⟩
end Go.Proofs.Ytlbmjeennpccmaa
