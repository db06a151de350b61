
/- The stable sort of lives: exchanges of ranges. Condition: fewer than 2^40 lives. -/
import Derived.Test.YtlbmjeennpccmaaLf
import Derived.Outline
namespace Go.Proofs.Ytlbmjeennpccmaa
open Go Go.RowKit Go.ChangeShapes Go.WideShapes Go.ChangeAt

attribute [local go_sem] run_store_float

set_option maxHeartbeats 4000000 in
theorem swapRange_any (A U M V Z : List Lf) (a b n g cap B : Nat) (f : Value) (w : World) (own : OwnL B w g cap (A ++ (U ++ (M ++ (V ++ Z))))) (hu : U.length = n) (hv : V.length = n) (ha : A.length = a) (hb : a + (n + M.length) = b) (hz : (A ++ (U ++ (M ++ (V ++ Z)))).length ≤ 1048576) :
    Calls Try.prog 116 #[.slice (some ⟨g, 0, none⟩) (A ++ (U ++ (M ++ (V ++ Z)))).length cap, .int .i64 a, .int .i64 b, .int .i64 n, f] w fun e w' => e = .returned (.tuple #[]) ∧ w.grownBy w' (some g) ∧ OwnL B w' g cap (A ++ (V ++ (M ++ (U ++ Z)))) := by
  have HE := Lib.hid (srL_all (A := A) (M := M) (Z := Z) hu hv)
  have hlen : ∀ i, (srL A U M V Z i).length = (A ++ (U ++ (M ++ (V ++ Z)))).length := fun i => by rw [srL_len i (by omega)]; simp only [List.length_append]
  have HLEN := Lib.hid hlen
  have HST : Hid (∀ i, i < n → swp2 (srL A U M V Z i) (a + i) (b + i) = srL A U M V Z (i + 1)) := fun i hi => srL_step hu hv ha hb hi
  have hbn : b + n ≤ (A ++ (U ++ (M ++ (V ++ Z)))).length := by simp only [List.length_append]; omega
  have hab : a + n ≤ b := by omega
  rw [← srL_0] at own
  rw [← HE.out]
  generalize (A ++ (U ++ (M ++ (V ++ Z)))).length = L at *
  clear hlen HE hu hv ha hb
  generalize hF : srL A U M V Z = F at *
  clear hF
  go_enter Try.func116, Try.ntmps116
  go_wp2_with fail
  go_loopw [10] (fun i wr => ∃ k : Nat, k ≤ n ∧ i = .int .i64 k ∧ w.grownBy wr (some g) ∧ OwnL B wr g cap (F k)) (fun i _ => n - (intOf i).toNat)
  case atStart => exact ⟨0, Nat.zero_le _, rfl, grownBy_refl _ _, own⟩
  case round =>
    clear own
    obtain ⟨k, hk, rfl, G, own⟩ := hrel
    by_cases hlt : k < n
    · have hl := HLEN.out k
      have ca := own.cells (k := a + k) (by omega)
      have cb := own.cells (k := b + k) (by omega)
      have hfr := own.frozen
      have HSW := Lib.hid (own.swap (i := a + k) (j := b + k) (by omega) (by omega))
      rw [HST.out k hlt] at HSW
      have fa0 := own.frozen ((a + k) * 2)
      have fa1 := own.frozen ((a + k) * 2 + 1)
      have fb0 := own.frozen ((b + k) * 2)
      have fb1 := own.frozen ((b + k) * 2 + 1)
      obtain ⟨ca0, ca1⟩ := ca
      obtain ⟨cb0, cb1⟩ := cb
      generalize (F k)[a + k]'(by omega) = x at *
      generalize (F k)[b + k]'(by omega) = y at *
      clear hfr own hl
      have s1 : IntKind.i64.wrap ((a : Int) + k) = ((a + k : Nat) : Int) := IntWalk.i64_in _ (by omega)
      have s2 : IntKind.i64.wrap ((b : Int) + k) = ((b + k : Nat) : Int) := IntWalk.i64_in _ (by omega)
      have l1 : ((a + k : Nat) : Int) < (L : Int) := by omega
      have l2 : ((b + k : Nat) : Int) < (L : Int) := by omega
      have n1 : ¬ (a + k = b + k) := by omega
      have n2 : ¬ (b + k = a + k) := by omega
      generalize a + k = p at *
      generalize b + k = q at *
      go_wp2_with fail
      go_region
      all_goals
        go_wp2_with fail
        go_roundw
        case rel => exact ⟨k + 1, by omega, by go_num, (G.trans (grown_four _ _ _ _ _ _ _ _ _ _)).trans (grown_drewN _ 1 _), HSW.out.ext (Ext.drewN _ 1)⟩
        case measure => simp [intOf]; omega
    · obtain rfl : k = n := by omega
      go_wp2_with fail
      go_end0
      exact ⟨rfl, G, own⟩
theorem swapRange_i (A U M V Z X : List Lf) (a b n g cap B L : Nat) (ai bi ni : Int) (f : Value) (w : World) (own : OwnL B w g cap X) (hX : X = A ++ (U ++ (M ++ (V ++ Z)))) (hu : U.length = n) (hv : V.length = n) (ha : A.length = a) (hb : a + (n + M.length) = b)
    (hL : X.length = L) (hz : L ≤ 1048576) (h1 : ai = a) (h2 : bi = b) (h3 : ni = n) :
    Calls Try.prog 116 #[.slice (some ⟨g, 0, none⟩) L cap, .int .i64 ai, .int .i64 bi, .int .i64 ni, f] w fun e w' => e = .returned (.tuple #[]) ∧ w.grownBy w' (some g) ∧ OwnL B w' g cap (A ++ (V ++ (M ++ (U ++ Z)))) := by
  subst hL; subst h1; subst h2; subst h3; subst hX
  exact swapRange_any A U M V Z a b n g cap B f w own hu hv ha hb hz

set_option maxHeartbeats 4000000 in
theorem rotate_any (A U V Z : List Lf) (a m b g cap B L : Nat) (f : Value) (w : World) (own : OwnL B w g cap (A ++ (U ++ (V ++ Z)))) (hu : 0 < U.length) (hv : 0 < V.length) (ha : A.length = a) (hm : a + U.length = m) (hb : m + V.length = b)
    (hL : (A ++ (U ++ (V ++ Z))).length = L) (hz : L ≤ 1048576) :
    Calls Try.prog 115 #[.slice (some ⟨g, 0, none⟩) L cap, .int .i64 a, .int .i64 m, .int .i64 b, f] w fun e w' => e = .returned (.tuple #[]) ∧ w.grownBy w' (some g) ∧ OwnL B w' g cap (A ++ (V ++ (U ++ Z))) := by
  have hbL : b ≤ L := by rw [← hL]; simp only [List.length_append]; omega
  generalize hT : A ++ (V ++ (U ++ Z)) = T
  generalize hS : A ++ (U ++ (V ++ Z)) = S at *
  have HT := Lib.hid hT
  have HS := Lib.hid hS
  have HL := Lib.hid hL
  have h1 : (m : Int) - a = (U.length : Int) := by omega
  have h2 : (b : Int) - m = (V.length : Int) := by omega
  clear hT hS hL
  go_enter Try.func115, Try.ntmps115
  go_wp2_with fail
  go_loopw [10, 11] (fun i j wr => ∃ (A' U' V' Z' X : List Lf), i = .int .i64 U'.length ∧ j = .int .i64 V'.length ∧ 0 < U'.length ∧ 0 < V'.length ∧ A'.length + U'.length = m ∧ m + V'.length ≤ b ∧ Hid (X = A' ++ (U' ++ (V' ++ Z'))) ∧ Hid (X.length = L) ∧ Hid (A' ++ (V' ++ (U' ++ Z')) = T) ∧
    w.grownBy wr (some g) ∧ OwnL B wr g cap X) (fun i j _ => (intOf i).toNat + (intOf j).toNat)
  case atStart => exact ⟨A, U, V, Z, S, rfl, rfl, hu, hv, by omega, by omega, HS.out.symm, HL, HT, grownBy_refl _ _, own⟩
  case round =>
    clear own h1 h2 hu hv hm hb HS
    obtain ⟨A', U', V', Z', X, rfl, rfl, hu, hv, hm, hb, HX, HXL, HT', G, own⟩ := hrel
    rcases Nat.lt_trichotomy U'.length V'.length with hlt | heq | hgt
    · have n1 : ((U'.length : Int) != (V'.length : Int)) = true := by simp; omega
      have n2 : ¬ (V'.length : Int) < (U'.length : Int) := by omega
      have d1 : (V'.length : Int) - U'.length = ((V'.length - U'.length : Nat) : Int) := by omega
      generalize hp : U'.length = p at *
      generalize hq : V'.length = q at *
      have HX1 : Hid (X = A' ++ (U' ++ (V'.take (q - p) ++ (V'.drop (q - p) ++ Z')))) := by
        show _ = _; rw [HX.out, ← List.append_assoc (V'.take _), List.take_append_drop]
      have l1 : (V'.take (q - p)).length = q - p := by rw [List.length_take]; omega
      have l2 : (V'.drop (q - p)).length = p := by rw [List.length_drop]; omega
      have HT1 : Hid (A' ++ (V'.take (q - p) ++ (V'.drop (q - p) ++ (U' ++ Z'))) = T) := by
        show _ = _; rw [← HT'.out, ← List.append_assoc (V'.take _), List.take_append_drop]
      generalize V'.take (q - p) = Va at *
      generalize V'.drop (q - p) = Vb at *
      have HXL2 : Hid ((A' ++ (Vb ++ (Va ++ (U' ++ Z')))).length = L) := by
        show _ = _; rw [← HXL.out, HX1.out]; simp only [List.length_append]; omega
      have Hp := Lib.hid hp
      have Hl1 := Lib.hid l1
      have Hl2 := Lib.hid l2
      clear hp hq l1 l2
      go_wp2_with (go_at_call 116; refine (swapRange_i A' U' Va Vb Z' X (m - p) (m + q - p) p g cap B L _ _ _ _ _ own HX1.out Hp.out Hl2.out (by omega) (by rw [Hl1.out]; omega) HXL.out hz (by omega) (by omega) rfl).mono ?_; rintro e w' ⟨rfl, G2, own2⟩)
      go_roundw
      case rel => exact ⟨A', Vb, Va, U' ++ Z', _, by rw [Hl2.out], by rw [Hl1.out], by rw [Hl2.out]; omega, by rw [Hl1.out]; omega, by rw [Hl2.out]; omega, by rw [Hl1.out]; omega, rfl, HXL2, HT1, G.trans G2, own2⟩
      case measure => simp [intOf]; omega
    · have n1 : ((U'.length : Int) != (V'.length : Int)) = false := by simp; omega
      have HX1 : Hid (X = A' ++ (U' ++ ([] ++ (V' ++ Z')))) := by show _ = _; rw [HX.out]; rfl
      have HT1 : Hid (A' ++ (V' ++ ([] ++ (U' ++ Z'))) = T) := by show _ = _; rw [← HT'.out]; rfl
      generalize hp : U'.length = p at *
      generalize hq : V'.length = q at *
      obtain rfl := heq
      have Hp := Lib.hid hp
      have Hq := Lib.hid hq
      clear hp hq
      go_wp2_with (go_at_call 116; refine (swapRange_i A' U' [] V' Z' X (m - p) m p g cap B L _ _ _ _ _ own HX1.out Hp.out Hq.out (by omega) (by simp; omega) HXL.out hz (by omega) rfl rfl).mono ?_; rintro e w' ⟨rfl, G2, own2⟩)
      go_end0
      rw [HT1.out] at own2
      exact ⟨rfl, G.trans G2, own2⟩
    · have n1 : ((U'.length : Int) != (V'.length : Int)) = true := by simp; omega
      have n2 : (V'.length : Int) < (U'.length : Int) := by omega
      have d1 : (U'.length : Int) - V'.length = ((U'.length - V'.length : Nat) : Int) := by omega
      generalize hp : U'.length = p at *
      generalize hq : V'.length = q at *
      have HX1 : Hid (X = A' ++ (U'.take q ++ (U'.drop q ++ (V' ++ Z')))) := by
        show _ = _; rw [HX.out, ← List.append_assoc (U'.take _), List.take_append_drop]
      have l1 : (U'.take q).length = q := by rw [List.length_take]; omega
      have l2 : (U'.drop q).length = p - q := by rw [List.length_drop]; omega
      have HT1 : Hid ((A' ++ V') ++ (U'.take q ++ (U'.drop q ++ Z')) = T) := by
        show _ = _; rw [← HT'.out, ← List.append_assoc (U'.take _), List.take_append_drop, List.append_assoc]
      generalize U'.take q = Ua at *
      generalize U'.drop q = Ub at *
      have HXL2 : Hid ((A' ++ (V' ++ (Ub ++ (Ua ++ Z')))).length = L) := by
        show _ = _; rw [← HXL.out, HX1.out]; simp only [List.length_append]; omega
      have Hq := Lib.hid hq
      have Hl1 := Lib.hid l1
      have Hl2 := Lib.hid l2
      clear hp hq l1 l2
      go_wp2_with (go_at_call 116; refine (swapRange_i A' Ua Ub V' Z' X (m - p) m q g cap B L _ _ _ _ _ own HX1.out Hl1.out Hq.out (by omega) (by rw [Hl2.out]; omega) HXL.out hz (by omega) rfl rfl).mono ?_; rintro e w' ⟨rfl, G2, own2⟩)
      go_roundw
      case rel => exact ⟨A' ++ V', Ub, Ua, Z', _, by rw [Hl2.out], by rw [Hl1.out], by rw [Hl2.out]; omega, by rw [Hl1.out]; omega, by rw [Hl2.out, List.length_append, Hq.out]; omega, by rw [Hl1.out]; omega, (by show _ = _; rw [List.append_assoc]), HXL2, HT1, G.trans G2, own2⟩
      case measure => simp [intOf]; omega
theorem rotate_i (A U V Z X : List Lf) (a m b g cap B L : Nat) (ai mi bi : Int) (f : Value) (w : World) (own : OwnL B w g cap X) (hX : X = A ++ (U ++ (V ++ Z))) (hu : 0 < U.length) (hv : 0 < V.length) (ha : A.length = a) (hm : a + U.length = m) (hb : m + V.length = b)
    (hL : X.length = L) (hz : L ≤ 1048576) (h1 : ai = a) (h2 : mi = m) (h3 : bi = b) :
    Calls Try.prog 115 #[.slice (some ⟨g, 0, none⟩) L cap, .int .i64 ai, .int .i64 mi, .int .i64 bi, f] w fun e w' => e = .returned (.tuple #[]) ∧ w.grownBy w' (some g) ∧ OwnL B w' g cap (A ++ (V ++ (U ++ Z))) := by
  subst h1; subst h2; subst h3; subst hX
  exact rotate_any A U V Z a m b g cap B L f w own hu hv ha hm hb hL hz
end Go.Proofs.Ytlbmjeennpccmaa
/- The order of lives: positive numbers are ordered as their words are; the comparisons of the program and of the reference. Condition: times that are finite and greater than 0. -/
namespace Go.Proofs.Ytlbmjeennpccmaa
open Go Go.RowKit Go.ChangeShapes Go.WideShapes Go.ChangeAt

def pv (x : Nat) : Nat := if x < 8388608 then x else (8388608 + x % 8388608) * 2 ^ (x / 8388608 - 1)
theorem pv_succ (x : Nat) : pv x < pv (x + 1) := by
  unfold pv
  by_cases h1 : x + 1 < 8388608
  · rw [if_pos (by omega), if_pos h1]; omega
  · by_cases h2 : x < 8388608
    · have : x = 8388607 := by omega
      subst this
      decide
    · rw [if_neg h2, if_neg h1]
      by_cases h3 : (x + 1) % 8388608 = 0
      · have e1 : (x + 1) / 8388608 - 1 = (x / 8388608 - 1) + 1 := by omega
        have e2 : x % 8388608 = 8388607 := by omega
        rw [h3, e1, e2, Nat.pow_succ]
        have : 0 < 2 ^ (x / 8388608 - 1) := Nat.pow_pos (by omega)
        omega
      · have e1 : (x + 1) / 8388608 = x / 8388608 := by omega
        have e2 : (x + 1) % 8388608 = x % 8388608 + 1 := by omega
        rw [e1, e2]
        exact Nat.mul_lt_mul_of_pos_right (by omega) (Nat.pow_pos (by omega))
theorem pv_lt {x y : Nat} (h : x < y) : pv x < pv y := by
  obtain ⟨d, rfl⟩ : ∃ d, y = x + 1 + d := ⟨y - x - 1, by omega⟩
  clear h
  induction d with
  | zero => exact pv_succ x
  | succ d ih => exact Nat.lt_trans ih (pv_succ (x + 1 + d))

def posW (x : Nat) : Prop := 0 < x ∧ x < 2139095040
theorem posW.num {x : Nat} (h : posW x) : isN .f32 x = false := by
  have h1 : x % 2147483648 = x := Nat.mod_eq_of_lt (by have := h.2; omega)
  have h2 := h.2
  unfold isN Ieee.Format.read
  have e1 : (FloatKind.f32).format.signWeight = 2147483648 := by decide
  have e2 : (FloatKind.f32).format.binade = 8388608 := by decide
  have e3 : (FloatKind.f32).format.infRung = 2139095040 := by decide
  simp only [e1, e2, e3, h1]
  split
  · rfl
  · first | rfl | (rw [if_pos h2]; rfl)
theorem read_pos {x : Nat} (h : posW x) : ∃ (m : Nat) (i : Int), Ieee.single.read x = .number false m i ∧ -149 ≤ i ∧ m * 2 ^ (i + 149).toNat = pv x := by
  have hx := h.2
  have h1 : x % 2147483648 = x := Nat.mod_eq_of_lt (by omega)
  have hd : decide (2147483648 ≤ x) = false := by simp; omega
  rcases single_form x h.num (by omega) with ⟨a1, a2⟩ | ⟨a1, a2, a3⟩ | ⟨a1, a2⟩
  · rw [h1] at a1 a2; rw [hd] at a2
    exact ⟨x, -149, a2, by omega, by unfold pv; rw [if_pos a1]; simp⟩
  · rw [h1] at a1 a3; rw [hd] at a3
    refine ⟨_, _, a3, by omega, ?_⟩
    unfold pv
    rw [if_neg (by omega)]
    congr 2
    omega
  · rw [h1] at a1; omega
theorem int_lt_cmp {a b : Int} (h : a < b) : compare a b = .lt := by
  show compareOfLessAndEq a b = .lt
  unfold compareOfLessAndEq; rw [if_pos h]
theorem int_gt_cmp {a b : Int} (h : b < a) : compare a b = .gt := by
  show compareOfLessAndEq a b = .gt
  unfold compareOfLessAndEq; rw [if_neg (by omega), if_neg (by omega)]
theorem scaled {m n : Nat} {i j : Int} (hi : -149 ≤ i) (hj : -149 ≤ j) (h : m * 2 ^ (i + 149).toNat < n * 2 ^ (j + 149).toNat) :
    Ieee.signed false m (i - min i j).toNat < Ieee.signed false n (j - min i j).toNat := by
  have e1 : (i + 149).toNat = (i - min i j).toNat + (min i j + 149).toNat := by omega
  have e2 : (j + 149).toNat = (j - min i j).toNat + (min i j + 149).toNat := by omega
  rw [e1, e2, Nat.pow_add, Nat.pow_add, ← Nat.mul_assoc, ← Nat.mul_assoc] at h
  have h2 := Nat.lt_of_mul_lt_mul_right h
  unfold Ieee.signed
  simp only [Nat.shiftLeft_eq, Bool.false_eq_true, if_false]
  exact_mod_cast h2
theorem order_lt {x y : Nat} (hx : posW x) (hy : posW y) (h : x < y) : (FloatKind.f32).format.order x y = some .lt := by
  obtain ⟨m, i, r1, i1, v1⟩ := read_pos hx
  obtain ⟨n, j, r2, i2, v2⟩ := read_pos hy
  have hv := pv_lt h
  rw [← v1, ← v2] at hv
  show (Ieee.single.read x).order (Ieee.single.read y) = _
  rw [r1, r2]
  simp only [Ieee.Datum.order]
  rw [int_lt_cmp (scaled i1 i2 hv)]
theorem order_gt {x y : Nat} (hx : posW x) (hy : posW y) (h : y < x) : (FloatKind.f32).format.order x y = some .gt := by
  obtain ⟨m, i, r1, i1, v1⟩ := read_pos hx
  obtain ⟨n, j, r2, i2, v2⟩ := read_pos hy
  have hv := pv_lt h
  rw [← v1, ← v2] at hv
  show (Ieee.single.read x).order (Ieee.single.read y) = _
  rw [r1, r2]
  simp only [Ieee.Datum.order]
  have := scaled i2 i1 hv
  rw [Int.min_comm] at this
  rw [int_gt_cmp this]
theorem cn_pos {x : Nat} (h : posW x) : cn .f32 x = x := cn_of_num h.num
theorem pos_cmp {x y : Nat} (hx : posW x) (hy : posW y) :
    fcmp .neq .f32 (cn .f32 x) (cn .f32 y) = decide (x ≠ y) ∧ fcmp .lss .f32 (cn .f32 x) (cn .f32 y) = decide (x < y) ∧ fcmp .gtr .f32 (cn .f32 x) (cn .f32 y) = decide (y < x) := by
  simp only [fcmp_cn]
  rcases Nat.lt_trichotomy x y with h | h | h
  · have e := order_lt hx hy h
    refine ⟨?_, ?_, ?_⟩ <;> unfold fcmp <;> simp only [e]
    · rw [decide_eq_true (by omega)]; rfl
    · rw [decide_eq_true (by omega)]; rfl
    · rw [decide_eq_false (by omega)]; rfl
  · subst h
    have e := order_self .f32 x hx.num
    refine ⟨?_, ?_, ?_⟩ <;> unfold fcmp <;> simp only [e]
    · rw [decide_eq_false (by omega)]; rfl
    · rw [decide_eq_false (by omega)]; rfl
    · rw [decide_eq_false (by omega)]; rfl
  · have e := order_gt hx hy h
    refine ⟨?_, ?_, ?_⟩ <;> unfold fcmp <;> simp only [e]
    · rw [decide_eq_true (by omega)]; rfl
    · rw [decide_eq_false (by omega)]; rfl
    · rw [decide_eq_true (by omega)]; rfl

theorem above_pos {b : Nat} (hb : b < 4294967296) (h : aboveB (cn .f32 b) = true) : posW b := by
  unfold aboveB at h
  rw [Bool.and_eq_true] at h
  obtain ⟨h1, h2⟩ := h
  rw [fcmp_cn] at h2
  have nb : isN .f32 b = false := by
    cases hn : isN .f32 b
    · rfl
    · have : fcmp .gtr .f32 b 0 = false := by unfold fcmp; simp only [order_nan .f32 b 0 hn]; rfl
      rw [this] at h2; cases h2
  have hz : Ieee.single.read 0 = .number false 0 (-149) := by decide +kernel
  unfold fcmp at h2
  simp only [beq_iff_eq] at h2
  have h2' : (Ieee.single.read b).order (Ieee.single.read 0) = some .gt := h2
  rw [hz] at h2'
  have key : ∀ (s : Bool) (m : Nat) (i : Int), Ieee.single.read b = .number s m i → s = false ∧ 0 < m := fun s m i e => by
    rw [e] at h2'
    simp only [Ieee.Datum.order, Option.some.injEq] at h2'
    unfold Ieee.signed at h2'
    simp only [Nat.shiftLeft_eq, Nat.zero_mul] at h2'
    have h4 : ∀ z : Int, compare z 0 = .gt → 0 < z := fun z hz => by
      rcases Int.lt_trichotomy z 0 with h | h | h
      · rw [int_lt_cmp h] at hz; cases hz
      · subst h; exact absurd hz (by decide)
      · exact h
    have h5 := h4 _ h2'
    cases s
    · refine ⟨rfl, ?_⟩
      simp only [Bool.false_eq_true, if_false] at h5
      exact Nat.pos_of_ne_zero (by rintro rfl; simp at h5)
    · simp only [if_true] at h5; omega
  rcases single_form b nb hb with ⟨a1, a2⟩ | ⟨a1, a2, a3⟩ | ⟨a1, a2⟩
  · obtain ⟨k1, k2⟩ := key _ _ _ a2
    simp at k1
    exact ⟨by omega, by omega⟩
  · obtain ⟨k1, k2⟩ := key _ _ _ a3
    simp at k1
    exact ⟨by omega, by omega⟩
  · exfalso
    rw [cn_of_num nb] at h1
    have e : floatBits .sub .f32 b b = none := by
      unfold floatBits Ieee.Format.sub
      have : (FloatKind.f32).format.read b = .infinity (decide (2147483648 ≤ b)) := a2
      rw [this]
      simp [Ieee.Datum.sum, Ieee.Datum.opposite]
    unfold finB fop at h1
    rw [e] at h1
    revert h1
    decide +kernel

/-- A life's place in the order. -/
def keyL (x : Lf) : Nat := 2 * x.1 + (if x.2 then 0 else 1)
theorem keyL_inj (x y : Lf) (h : keyL x = keyL y) : x = y := by
  obtain ⟨a, b⟩ := x
  obtain ⟨c, d⟩ := y
  unfold keyL at h
  simp only at h
  cases b <;> cases d <;> simp at h ⊢ <;> omega
def cmpL (x y : Lf) : Int := if keyL x < keyL y then -1 else if keyL y < keyL x then 1 else 0
theorem cmpL_neg (x y : Lf) : (cmpL x y < 0) ↔ keyL x < keyL y := by
  unfold cmpL; split
  · simp; assumption
  · split <;> simp <;> omega
def okL (x : Lf) : Prop := posW x.1

theorem isNaNF_any (b : Nat) (h : posW b) (w : World) : Calls Try.prog 109 #[.float .f32 b] w fun e w' => e = .returned (.bool false) ∧ w = w' := by
  have hq := (pos_cmp h h).1
  simp only [ne_eq, not_true_eq_false, decide_false] at hq
  go_enter Try.func109, Try.ntmps109
  go_wp2_with (refine wpList_fcmp rfl rfl rfl rfl rfl (by first | with_reducible assumption | exact rfl) ?_)
  go_ret
  exact ⟨rfl, rfl⟩
def cmpF (a b : Nat) : Int := if a < b then -1 else if b < a then 1 else 0
theorem compareF_any (a b : Nat) (ha : posW a) (hb : posW b) (w : World) : Calls Try.prog 97 #[.float .f32 a, .float .f32 b] w fun e w' => e = .returned (.int .i64 (cmpF a b)) ∧ w = w' := by
  obtain ⟨-, h1, h2⟩ := pos_cmp ha hb
  have HA := Lib.hid ha
  have HB := Lib.hid hb
  clear ha hb
  rcases Nat.lt_trichotomy a b with h | h | h
  · have h1' : fcmp .lss .f32 (cn .f32 a) (cn .f32 b) = true := by rw [h1]; simp [h]
    have H : Hid (cmpF a b = -1) := by show _ = _; unfold cmpF; rw [if_pos h]
    clear h1 h2 h
    go_enter Try.func97, Try.ntmps97
    go_wp2_with (first | (go_at_call 109; refine (isNaNF_any _ (by first | exact HA.out | exact HB.out) _).mono ?_; rintro e w' ⟨rfl, rfl⟩) | (refine wpList_fcmp rfl rfl rfl rfl rfl (by first | with_reducible assumption | exact rfl) ?_))
    go_ret
    exact ⟨ret_int H.out.symm, rfl⟩
  · have h1' : fcmp .lss .f32 (cn .f32 a) (cn .f32 b) = false := by rw [h1]; simp; omega
    have h2' : fcmp .gtr .f32 (cn .f32 a) (cn .f32 b) = false := by rw [h2]; simp; omega
    have H : Hid (cmpF a b = 0) := by show _ = _; unfold cmpF; rw [if_neg (by omega), if_neg (by omega)]
    clear h1 h2 h
    go_enter Try.func97, Try.ntmps97
    go_wp2_with (first | (go_at_call 109; refine (isNaNF_any _ (by first | exact HA.out | exact HB.out) _).mono ?_; rintro e w' ⟨rfl, rfl⟩) | (refine wpList_fcmp rfl rfl rfl rfl rfl (by first | with_reducible assumption | exact rfl) ?_))
    go_ret
    exact ⟨ret_int H.out.symm, rfl⟩
  · have h1' : fcmp .lss .f32 (cn .f32 a) (cn .f32 b) = false := by rw [h1]; simp; omega
    have h2' : fcmp .gtr .f32 (cn .f32 a) (cn .f32 b) = true := by rw [h2]; simp; omega
    have H : Hid (cmpF a b = 1) := by show _ = _; unfold cmpF; rw [if_neg (by omega), if_pos (by omega)]
    clear h1 h2 h
    go_enter Try.func97, Try.ntmps97
    go_wp2_with (first | (go_at_call 109; refine (isNaNF_any _ (by first | exact HA.out | exact HB.out) _).mono ?_; rintro e w' ⟨rfl, rfl⟩) | (refine wpList_fcmp rfl rfl rfl rfl rfl (by first | with_reducible assumption | exact rfl) ?_))
    go_ret
    exact ⟨ret_int H.out.symm, rfl⟩

set_option maxHeartbeats 1000000 in
theorem ordered_1 (x y : Lf) (hx : okL x) (hy : okL y) (w : World) :
    Calls Try.prog 96 #[.agg #[.float .f32 x.1, .bool x.2], .agg #[.float .f32 y.1, .bool y.2]] w fun e w' => e = .returned (.int .i64 (cmpL x y)) ∧ Ext w w' := by
  obtain ⟨a, p⟩ := x
  obtain ⟨b, q⟩ := y
  simp only [okL] at hx hy
  have hc := pos_cmp hx hy
  have HX := Lib.hid hx
  have HY := Lib.hid hy
  clear hx hy
  have hx2 : ∀ W : World, Ext W ((W.alloc (.cells #[.float .f32 a, .bool p] 61)).alloc (.cells #[.float .f32 b, .bool q] 61)) := fun W => (Ext.alloc _ _).trans (Ext.alloc _ _)
  by_cases h : a = b
  · subst h
    have h1 : fcmp .neq .f32 (cn .f32 a) (cn .f32 a) = false := by rw [hc.1]; simp
    clear hc
    cases p <;> cases q
    all_goals
      go_enter Try.func96, Try.ntmps96
      go_wp2_with (refine wpList_fcmp rfl rfl rfl rfl rfl (by first | with_reducible assumption | exact rfl) ?_)
      go_ret
      exact ⟨ret_int (by simp [cmpL, keyL]), hx2 _⟩
  · have h1 : fcmp .neq .f32 (cn .f32 a) (cn .f32 b) = true := by rw [hc.1]; simp [h]
    have H : Hid (cmpF a b = cmpL (a, p) (b, q)) := by
      show _ = _
      unfold cmpF cmpL keyL
      rcases Nat.lt_or_gt_of_ne h with h | h
      · rw [if_pos h, if_pos (by simp only; split <;> split <;> omega)]
      · rw [if_neg (by omega), if_pos h, if_neg (by simp only; split <;> split <;> omega), if_pos (by simp only; split <;> split <;> omega)]
    clear hc h
    go_enter Try.func96, Try.ntmps96
    go_wp2_with (first | (go_at_call 97; refine (compareF_any _ _ HX.out HY.out _).mono ?_; rintro e w' ⟨rfl, rfl⟩) | (refine wpList_fcmp rfl rfl rfl rfl rfl (by first | with_reducible assumption | exact rfl) ?_))
    go_ret
    exact ⟨ret_int H.out, hx2 _⟩

def befL (x y : Lf) : Bool := decide (keyL x < keyL y)
set_option maxHeartbeats 1000000 in
theorem l02Before_any (x y : Lf) (hx : okL x) (hy : okL y) (w : World) :
    Calls Try.prog 92 #[.agg #[.float .f32 x.1, .bool x.2], .agg #[.float .f32 y.1, .bool y.2]] w fun e w' => e = .returned (.bool (befL x y)) ∧ Ext w w' := by
  obtain ⟨a, p⟩ := x
  obtain ⟨b, q⟩ := y
  simp only [okL] at hx hy
  have hc := pos_cmp hx hy
  clear hx hy
  have hx2 : ∀ W : World, Ext W ((W.alloc (.cells #[.float .f32 a, .bool p] 61)).alloc (.cells #[.float .f32 b, .bool q] 61)) := fun W => (Ext.alloc _ _).trans (Ext.alloc _ _)
  by_cases h : a = b
  · subst h
    have h1 : fcmp .neq .f32 (cn .f32 a) (cn .f32 a) = false := by rw [hc.1]; simp
    clear hc
    cases p <;> cases q
    all_goals
      go_enter Try.func92, Try.ntmps92
      go_wp2_with (refine wpList_fcmp rfl rfl rfl rfl rfl (by first | with_reducible assumption | exact rfl) ?_)
      go_ret
      exact ⟨ret_bool (by simp [befL, keyL]), hx2 _⟩
  · have h1 : fcmp .neq .f32 (cn .f32 a) (cn .f32 b) = true := by rw [hc.1]; simp [h]
    have h2 : fcmp .lss .f32 (cn .f32 a) (cn .f32 b) = decide (a < b) := hc.2.1
    have H : Hid (decide (a < b) = befL (a, p) (b, q)) := by
      show _ = _
      unfold befL keyL
      rcases Nat.lt_or_gt_of_ne h with h | h
      · rw [decide_eq_true h, decide_eq_true (by simp only; split <;> split <;> omega)]
      · rw [decide_eq_false (by omega), decide_eq_false (by simp only; split <;> split <;> omega)]
    generalize decide (a < b) = z at *
    clear hc h
    go_enter Try.func92, Try.ntmps92
    go_wp2_with (refine wpList_fcmp rfl rfl rfl rfl rfl (by first | with_reducible assumption | exact rfl) ?_)
    go_ret
    exact ⟨ret_bool H.out, hx2 _⟩
end Go.Proofs.Ytlbmjeennpccmaa
/- The stable sort of lives: insertion. Condition: fewer than 2^20 lives, each with a time that is finite and greater than 0. -/
namespace Go.Proofs.Ytlbmjeennpccmaa
open Go Go.RowKit Go.ChangeShapes Go.WideShapes Go.ChangeAt

attribute [local go_sem] run_store_float
attribute [local irreducible] LX

/-- The program's comparison, as a value. -/
def cmpV : Value := .func (.func 96) #[] #[]
def AllOk (ls : List Lf) : Prop := ∀ x ∈ ls, okL x
theorem AllOk.perm {xs ys : List Lf} (h : AllOk xs) (p : ys.Perm xs) : AllOk ys := fun x hx => h x (p.mem_iff.1 hx)

theorem cmp_enter : ∀ args w, (callFunc 96 args).run Try.prog w = .ok (.enter 96 args) w := enterOk Try.func96 (by kernel_rfl) rfl

set_option maxRecDepth 100000 in
set_option maxHeartbeats 8000000 in
theorem insSort_any (A X Z X0 : List Lf) (a b g cap B L : Nat) (ai bi : Int) (w : World) (own : OwnL B w g cap X0) (hX : X0 = A ++ (X ++ Z)) (ha : A.length = a) (hb : a + X.length = b) (hL : X0.length = L) (hz : L ≤ 1048576) (hok : AllOk X) (hai : ai = a) (hbi : bi = b) :
    Calls Try.prog 112 #[.slice (some ⟨g, 0, none⟩) L cap, .int .i64 ai, .int .i64 bi, .func (.func 96) #[] #[]] w fun e w' => e = .returned (.tuple #[]) ∧ w.grownBy w' (some g) ∧ ∃ X', X'.Perm X ∧ Srt keyL X' ∧ OwnL B w' g cap (A ++ (X' ++ Z)) := by
  subst hai; subst hbi
  have hbL : b ≤ L := by rw [← hL, hX]; simp only [List.length_append]; omega
  have hent := cmp_enter
  have HX := Lib.hid hX
  have HOK := Lib.hid hok
  clear hX hok
  go_enter Try.func112, Try.ntmps112
  go_wp2_with fail
  go_loopw [8] (fun i wr => ∃ (k : Nat) (X' Y : List Lf), 1 ≤ k ∧ k ≤ X.length + 1 ∧ i = .int .i64 ((a : Int) + k) ∧ Hid (X'.Perm X) ∧ Hid (Srt keyL (X'.take k)) ∧ Hid (Y = A ++ (X' ++ Z)) ∧ Y.length = L ∧ w.grownBy wr (some g) ∧ OwnL B wr g cap Y) (fun i _ => b - (intOf i).toNat)
  case atStart => exact ⟨1, X, X0, by omega, by omega, rfl, List.Perm.refl _, (by show Srt _ _; cases X with | nil => exact srt_nil | cons x l => exact srt_one x), HX, hL, grownBy_refl _ _, own⟩
  case round =>
    clear own
    obtain ⟨k, X', Y, hk1, hk2, rfl, HP, HS, HY, hYL, G, own⟩ := hrel
    by_cases hlt : a + k < b
    · have hlt' : (a : Int) + k < b := by omega
      have hXl : X'.length = X.length := HP.out.length_eq
      obtain ⟨x, hx⟩ : ∃ x, x = X'[k]'(by omega) := ⟨_, rfl⟩
      have hsp : X' = X'.take k ++ x :: X'.drop (k + 1) := by
        rw [hx, ← List.drop_eq_getElem_cons (by omega), List.take_append_drop]
      obtain ⟨T, hT⟩ : ∃ T, T = X'.take k := ⟨_, rfl⟩
      obtain ⟨R, hR⟩ : ∃ R, R = X'.drop (k + 1) := ⟨_, rfl⟩
      have hTl : T.length = k := by rw [hT, List.length_take]; omega
      rw [← hT, ← hR] at hsp
      rw [← hT] at HS
      have hYe : Y = upL A T (R ++ Z) x k := by
        rw [HY.out, hsp]; unfold upL
        rw [List.take_of_length_le (by omega), List.drop_of_length_le (by omega)]; simp only [List.append_assoc, List.cons_append, List.nil_append]
      have hokx : okL x := HOK.out x (HP.out.mem_iff.1 (by rw [hx]; exact List.getElem_mem _))
      have hokT : AllOk T := fun y hy => HOK.out y (HP.out.mem_iff.1 (by rw [hsp]; exact List.mem_append_left _ hy))
      have hperm : (T ++ x :: R).Perm X := by rw [← hsp]; exact HP.out
      have HPM := Lib.hid hperm
      have HYE := Lib.hid hYe
      have HKX := Lib.hid hokx
      have HKT := Lib.hid hokT
      have HTL := Lib.hid hTl
      have HAL := Lib.hid ha
      clear hperm hYe hokx hokT hsp hx hT hR HP HY hTl hXl
      obtain ⟨wo, rfl⟩ : ∃ wo : World, wo = wr := ⟨_, rfl⟩
      go_wp2_with fail
      go_loopw [9] (fun j wr => ∃ (t p : Nat) (Y : List Lf), t ≤ k ∧ p = a + t ∧ j = .int .i64 p ∧ Hid (Y = upL A T (R ++ Z) x t) ∧ Y.length = L ∧ Hid (∀ h : t < T.length, keyL x ≤ keyL T[t]) ∧ w.grownBy wr (some g) ∧ OwnL B wr g cap Y) (fun j _ => (intOf j).toNat - a)
      case atStart => exact ⟨k, a + k, Y, Nat.le_refl _, rfl, by go_num, HYE, hYL, (fun h => by have := HTL.out; omega), G, own⟩
      case round =>
        clear own hYL G HYE
        obtain ⟨t, p, Y, ht, hpt, rfl, HYE, hYL, HB, G, own⟩ := hrel
        have hTL := HTL.out
        have hins : ∀ (_ : ∀ (_ : 0 < t), keyL (T[t - 1]'(by omega)) ≤ keyL x), ∃ Xn : List Lf, Xn.Perm X ∧ Srt keyL (Xn.take (k + 1)) ∧ Y = A ++ (Xn ++ Z) := fun h1 => by
          refine ⟨T.take t ++ x :: (T.drop t ++ R), ?_, ?_, ?_⟩
          · refine List.Perm.trans ?_ HPM.out
            have h := (upL_perm [] T [] x t).append_right R
            simp only [List.append_assoc, List.cons_append] at h
            exact h.trans ((List.perm_middle (a := x) (l₁ := T) (l₂ := R)).symm)
          · have e : (T.take t ++ x :: (T.drop t ++ R)).take (k + 1) = T.take t ++ x :: T.drop t := by
              have : T.take t ++ x :: (T.drop t ++ R) = (T.take t ++ x :: T.drop t) ++ R := by simp only [List.append_assoc, List.cons_append]
              rw [this, List.take_append_of_le_length (by rw [List.length_append, List.length_cons, List.length_take, List.length_drop]; omega), List.take_of_length_le (by rw [List.length_append, List.length_cons, List.length_take, List.length_drop]; omega)]
            rw [e]
            exact srt_ins HS.out t (by omega) h1 (fun h => HB.out h)
          · rw [HYE.out]; unfold upL; simp only [List.append_assoc, List.cons_append]
        by_cases h0 : t = 0
        · have hd : decide ((a : Int) < (p : Int)) = false := by simp; omega
          have hd2 : ¬ (a : Int) < (p : Int) := by omega
          have hd3 : p ≤ a := by omega
          obtain ⟨Xn, n1, n2, n3⟩ := hins (fun h => by omega)
          have N1 := Lib.hid n1
          have N2 := Lib.hid n2
          have N3 := Lib.hid n3
          clear hins n1 n2 n3 h0 hpt hTL
          go_wp2_with fail
          refine wp_region_rel 17 (fun _ _ => True) (fun _ _ _ => True) (by kernel_rfl) (by kernel_rfl) (by kernel_rfl) ?_
          dsimp only [List.take, List.drop, List.length]
          refine LX_det (.int .i64 p) (by kernel_rfl) rfl (fun w' hx _ => ?_) ?_
          · go_simp
          refine LX_det (.int .i64 a) (by kernel_rfl) rfl (fun w' hx _ => ?_) ?_
          · go_simp
          refine LX_det (.bool false) (by kernel_rfl) rfl (fun w' hx _ => ?_) ?_
          · go_simp
          refine LX_det (.bool false) (by kernel_rfl) rfl (fun w' hx _ => ?_) ?_
          · go_simp
          iterate 12 refine LX_skip (by kernel_rfl) ?_
          refine LX_det (.bool false) (by kernel_rfl) rfl (fun w' hx _ => ?_) ?_
          · go_simp
          refine LX_nil fun w2 hx _ => ?_
          refine wpList_nil ?_
          simp only [Act.put, List.setIfInBounds_toArray, List.set_cons_succ, List.set_cons_zero]
          go_wp2_with fail
          go_roundw
          case rel => exact ⟨k + 1, Xn, Y, by omega, by omega, by go_num, N1, N2, N3, hYL, G.trans (grown_of_ext hx _), own.ext hx⟩
          case measure => simp [intOf]; omega
        · obtain ⟨u, rfl⟩ : ∃ u, t = u + 1 := ⟨t - 1, by omega⟩
          obtain ⟨q, hq⟩ : ∃ q, q = a + u := ⟨_, rfl⟩
          obtain rfl : p = q + 1 := by omega
          have hpL : q + 1 < L := by rw [hq]; omega
          have cp := own.cells (k := q + 1) (by omega)
          have cq := own.cells (k := q) (by omega)
          have hxe : Y[q + 1]'(by omega) = x := by
            have h := HYE.out
            subst h
            unfold upL
            rw [List.getElem_append_right (by have := HAL.out; omega), List.getElem_append_right (by rw [List.length_take]; have := HAL.out; omega)]
            have : q + 1 - A.length - (T.take (u + 1)).length = 0 := by rw [List.length_take]; have := HAL.out; omega
            simp only [this, List.getElem_cons_zero]
          have hye : Y[q]'(by omega) = T[u]'(by omega) := by
            have h := HYE.out
            subst h
            unfold upL
            rw [List.getElem_append_right (by have := HAL.out; omega), List.getElem_append_left (by rw [List.length_take]; have := HAL.out; omega), List.getElem_take]
            congr 1
            have := HAL.out; omega
          have HSW := Lib.hid (fun (W : World) (o : OwnL B W g cap Y) => o.swap (i := q + 1) (j := q) (by omega) (by omega))
          have hsw2 : swp2 Y (q + 1) q = upL A T (R ++ Z) x u := by
            rw [HYE.out, hq]; exact upL_down HAL.out (by omega)
          have HL2 : Hid ((upL A T (R ++ Z) x u).length = L) := by show _ = _; rw [← hsw2, swp2_len]; exact hYL
          have hcl : ∀ W : World, OwnL B W g cap Y → (W.cell? ⟨g, (q + 1) * 2, none⟩ = some (.float .f32 (Y[q + 1]'(by omega)).1) ∧ W.cell? ⟨g, (q + 1) * 2 + 1, none⟩ = some (.bool (Y[q + 1]'(by omega)).2)) ∧
              (W.cell? ⟨g, q * 2, none⟩ = some (.float .f32 (Y[q]'(by omega)).1) ∧ W.cell? ⟨g, q * 2 + 1, none⟩ = some (.bool (Y[q]'(by omega)).2)) := fun W o => ⟨o.cells (k := q + 1) (by omega), o.cells (k := q) (by omega)⟩
          rw [hxe, hye] at hcl
          have HCL := Lib.hid hcl
          clear hcl
          rw [hxe] at cp
          rw [hye] at cq
          rw [hxe, hye, hsw2] at HSW
          have hoky : okL (T[u]'(by omega)) := HKT.out _ (List.getElem_mem _)
          have HOY := Lib.hid hoky
          have hins2 : ¬ keyL x < keyL (T[u]'(by omega)) → ∃ Xn : List Lf, Xn.Perm X ∧ Srt keyL (Xn.take (k + 1)) ∧ Y = A ++ (Xn ++ Z) := fun h => hins (fun _ => by simp only [Nat.add_sub_cancel]; omega)
          have hbnd : keyL x < keyL (T[u]'(by omega)) → ∀ h : u < T.length, keyL x ≤ keyL T[u] := fun h _ => Nat.le_of_lt h
          generalize T[u]'(by omega) = y at *
          obtain ⟨cp0, cp1⟩ := cp
          obtain ⟨cq0, cq1⟩ := cq
          have hgl := own.lt.2
          have s1 : IntKind.i64.wrap (((q + 1 : Nat) : Int) - 1) = (q : Int) := by have := IntWalk.i64_in (((q + 1 : Nat) : Int) - 1) (by omega); rw [this]; omega
          have l1 : ((q + 1 : Nat) : Int) < (L : Int) := by omega
          have l2 : (q : Int) < (L : Int) := by omega
          have l3 : (a : Int) < ((q + 1 : Nat) : Int) := by omega
          have l4 : a < q + 1 := by omega
          have HINS := Lib.hid hins2
          have HBND := Lib.hid hbnd
          have HQ := Lib.hid hq
          clear hins hins2 hbnd hoky hsw2 hxe hye hpt hTL h0 hq
          have np1 : ¬ (q + 1 = q) := by omega
          have np2 : ¬ (q = q + 1) := by omega
          generalize hP : q + 1 = P at *
          have HP' := Lib.hid hP
          clear hP
          go_wp2_with fail
          refine wp_region_rel 15 (fun _ v => v = .int .i64 (cmpL x y)) (fun _ _ _ => True) (by kernel_rfl) (by kernel_rfl) (by kernel_rfl) ?_
          dsimp only [List.take, List.drop, List.length]
          refine LX_det (.int .i64 P) (by kernel_rfl) rfl (fun w' hx _ => ?_) ?_
          · go_simp
          refine LX_det (.int .i64 a) (by kernel_rfl) rfl (fun w' hx _ => ?_) ?_
          · go_simp
          refine LX_det (.bool true) (by kernel_rfl) rfl (fun w' hx _ => ?_) ?_
          · go_simp
          refine LX_det (.bool true) (by kernel_rfl) rfl (fun w' hx _ => ?_) ?_
          · go_simp
          refine LX_det (.func (.func 96) #[] #[]) (by kernel_rfl) rfl (fun w' hx _ => ?_) ?_
          · go_simp
          refine LX_det (.slice (some ⟨g, 0, none⟩) L cap) (by kernel_rfl) rfl (fun w' hx _ => ?_) ?_
          · go_simp
          refine LX_det (.int .i64 P) (by kernel_rfl) rfl (fun w' hx _ => ?_) ?_
          · go_simp
          refine LX_det (.pointer (some ⟨g, P * 2, none⟩)) (by kernel_rfl) rfl (fun w' hx _ => ?_) ?_
          · go_simp
          refine LX_det (.agg #[.float .f32 x.1, .bool x.2]) (by kernel_rfl) rfl (fun w' hx _ => ?_) ?_
          · have m0 := (Below.cell hx (p := ⟨g, P * 2, none⟩) hgl).trans cp0; have m1 := (Below.cell hx (p := ⟨g, P * 2 + 1, none⟩) hgl).trans cp1
            go_simp
          refine LX_det (.slice (some ⟨g, 0, none⟩) L cap) (by kernel_rfl) rfl (fun w' hx _ => ?_) ?_
          · go_simp
          refine LX_det (.int .i64 P) (by kernel_rfl) rfl (fun w' hx _ => ?_) ?_
          · go_simp
          refine LX_det (.int .i64 q) (by kernel_rfl) rfl (fun w' hx _ => ?_) ?_
          · go_simp
          refine LX_det (.pointer (some ⟨g, q * 2, none⟩)) (by kernel_rfl) rfl (fun w' hx _ => ?_) ?_
          · go_simp
          refine LX_det (.agg #[.float .f32 y.1, .bool y.2]) (by kernel_rfl) rfl (fun w' hx _ => ?_) ?_
          · have m0 := (Below.cell hx (p := ⟨g, q * 2, none⟩) hgl).trans cq0; have m1 := (Below.cell hx (p := ⟨g, q * 2 + 1, none⟩) hgl).trans cq1
            go_simp
          refine LX_call (by kernel_rfl) rfl (fun _ => St.top) (fun w' hx _ => ?_) ?_
          · go_simp
            refine UponC.enter ((ordered_1 x y HKX.out HOY.out _).mono ?_)
            rintro e w'' ⟨rfl, hx'⟩
            exact ⟨_, rfl, hx', rfl, trivial⟩
          rintro _ rfl
          refine LX_nil fun w2 hx _ => ?_
          simp only [Act.put, List.setIfInBounds_toArray, List.set_cons_succ, List.set_cons_zero]
          replace own := own.ext hx
          replace G := G.trans (grown_of_ext hx (some g))
          clear hx cp0 cp1 cq0 cq1 hgl
          by_cases hk : keyL x < keyL y
          · have hneg : cmpL x y < 0 := (cmpL_neg x y).2 hk
            have HB2 := Lib.hid (HBND.out hk)
            clear hk
            generalize cmpL x y = c at *
            obtain ⟨⟨cp0, cp1⟩, cq0, cq1⟩ := HCL.out _ own
            have fa0 := own.frozen (P * 2)
            have fa1 := own.frozen (P * 2 + 1)
            have fb0 := own.frozen (q * 2)
            have fb1 := own.frozen (q * 2 + 1)
            have HSW2 := Lib.hid (HSW.out _ own)
            clear own
            obtain ⟨xa, xb⟩ := x
            obtain ⟨ya, yb⟩ := y
            simp only at cp0 cp1 cq0 cq1 HSW2
            go_wp2_with fail
            go_region
            all_goals
              go_wp2_with fail
              go_roundw
              case rel => exact ⟨u, q, _, by omega, HQ.out, by go_num, rfl, HL2.out, HB2, (G.trans (grown_four _ _ _ _ _ _ _ _ _ _)).trans (grown_drewN _ 1 _), HSW2.out.ext (Ext.drewN _ 1)⟩
              case measure => have hp9 := HP'.out; simp [intOf]; omega
          · have hneg : ¬ cmpL x y < 0 := fun h => hk ((cmpL_neg x y).1 h)
            obtain ⟨Xn, n1, n2, n3⟩ := HINS.out hk
            have N1 := Lib.hid n1
            have N2 := Lib.hid n2
            have N3 := Lib.hid n3
            clear hk n1 n2 n3
            generalize cmpL x y = c at *
            go_wp2_with fail
            go_roundw
            case rel => exact ⟨k + 1, Xn, Y, by omega, by omega, by go_num, N1, N2, N3, hYL, G, own⟩
            case measure => simp [intOf]; omega
    · go_wp2_with fail
      go_end0
      have hXl : X'.length = X.length := HP.out.length_eq
      have h := HS.out
      rw [List.take_of_length_le (by omega)] at h
      refine ⟨rfl, G, X', HP.out, h, ?_⟩
      rw [HY.out] at own; exact own
end Go.Proofs.Ytlbmjeennpccmaa
