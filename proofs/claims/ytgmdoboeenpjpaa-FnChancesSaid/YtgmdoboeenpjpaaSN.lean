
/- Two 32-bit numbers are the same just if their canonical bits are. No condition. -/
import Derived.Test.YtgmdoboeenpjpaaProg
import Derived.Test.YtgmdoboeenpjpaaB
import Derived.Deep.QuietTactic
import Derived.BigQuiet
import Derived.Outline
namespace Go.Proofs.Ytgmdoboeenpjpaa
open Go Go.RowKit

theorem single_form (x : Nat) (h : isN .f32 x = false) (hx : x < 4294967296) :
    (x % 2147483648 < 8388608 ∧ Ieee.single.read x = .number (decide (2147483648 ≤ x)) (x % 2147483648) (-149)) ∨
    (8388608 ≤ x % 2147483648 ∧ x % 2147483648 < 2139095040 ∧ Ieee.single.read x = .number (decide (2147483648 ≤ x)) (8388608 + x % 2147483648 % 8388608) (-149 + ((x % 2147483648 / 8388608 - 1 : Nat) : Int))) ∨
    (x % 2147483648 = 2139095040 ∧ Ieee.single.read x = .infinity (decide (2147483648 ≤ x))) := by
  have h1 : Ieee.single.signWeight = 2147483648 := by decide
  have h2 : Ieee.single.binade = 8388608 := by decide
  have h3 : Ieee.single.infRung = 2139095040 := by decide
  have h4 : Ieee.single.leastPlace = -149 := by decide
  have hs : (x / 2147483648 % 2 == 1) = decide (2147483648 ≤ x) := by
    rw [Bool.eq_iff_iff, beq_iff_eq, decide_eq_true_iff]; omega
  have hr : Ieee.single.read x = if x % 2147483648 < 8388608 then .number (decide (2147483648 ≤ x)) (x % 2147483648) (-149)
      else if x % 2147483648 < 2139095040 then .number (decide (2147483648 ≤ x)) (8388608 + x % 2147483648 % 8388608) (-149 + ((x % 2147483648 / 8388608 - 1 : Nat) : Int))
      else if x % 2147483648 = 2139095040 then .infinity (decide (2147483648 ≤ x)) else .nan (decide (2147483648 ≤ x)) (x % 2147483648 - 2139095040) := by
    unfold Ieee.Format.read
    simp only [h1, h2, h3, h4, hs]
  by_cases c1 : x % 2147483648 < 8388608
  · rw [if_pos c1] at hr; exact .inl ⟨c1, hr⟩
  · rw [if_neg c1] at hr
    by_cases c2 : x % 2147483648 < 2139095040
    · rw [if_pos c2] at hr; exact .inr (.inl ⟨by omega, c2, hr⟩)
    · rw [if_neg c2] at hr
      by_cases c3 : x % 2147483648 = 2139095040
      · rw [if_pos c3] at hr; exact .inr (.inr ⟨c3, hr⟩)
      · rw [if_neg c3] at hr
        unfold isN at h
        have hr' : (FloatKind.f32).format.read x = .nan (decide (2147483648 ≤ x)) (x % 2147483648 - 2139095040) := hr
        rw [hr'] at h
        simp [Ieee.Datum.isNaN] at h

theorem int_cmp_eq {a b : Int} (h : compare a b = .eq) : a = b := by
  have h' : compareOfLessAndEq a b = .eq := h
  unfold compareOfLessAndEq at h'
  split at h'
  · cases h'
  · split at h'
    · assumption
    · cases h'

theorem shift_eq {m n i j : Nat} (h : m <<< i = n <<< j) : m * 2 ^ i = n * 2 ^ j := by simpa [Nat.shiftLeft_eq] using h

theorem signed_inj {s : Bool} {m n i j : Nat} (h : Ieee.signed s m i = Ieee.signed s n j) : m * 2 ^ i = n * 2 ^ j := by
  unfold Ieee.signed at h
  cases s <;> simp at h <;> exact shift_eq (by exact_mod_cast h)

/-- Equal and of one sign: one word. -/
theorem order_eq_inj {x y : Nat} (hx : x < 4294967296) (hy : y < 4294967296) (nx : isN .f32 x = false) (ny : isN .f32 y = false)
    (ho : (FloatKind.f32).format.order x y = some .eq) (hs : decide (2147483648 ≤ x) = decide (2147483648 ≤ y)) : x = y := by
  have hrung : x % 2147483648 = y % 2147483648 := by
    have ho' : (Ieee.single.read x).order (Ieee.single.read y) = some .eq := ho
    rcases single_form x nx hx with ⟨a1, a2⟩ | ⟨a1, a2, a3⟩ | ⟨a1, a2⟩ <;> rcases single_form y ny hy with ⟨b1, b2⟩ | ⟨b1, b2, b3⟩ | ⟨b1, b2⟩
    · rw [a2, b2, hs] at ho'
      simp only [Ieee.Datum.order, Option.some.injEq] at ho'; replace ho' := int_cmp_eq ho'
      have := signed_inj ho'
      simpa using this
    · rw [a2, b3, hs] at ho'
      simp only [Ieee.Datum.order, Option.some.injEq] at ho'; replace ho' := int_cmp_eq ho'
      have h := signed_inj ho'
      have e : min (-149 : Int) (-149 + ((y % 2147483648 / 8388608 - 1 : Nat) : Int)) = -149 := by omega
      rw [e] at h
      simp only [Int.sub_self, Int.toNat_zero, Nat.pow_zero, Nat.mul_one] at h
      have : 8388608 + y % 2147483648 % 8388608 ≤ (8388608 + y % 2147483648 % 8388608) * 2 ^ (-149 + ((y % 2147483648 / 8388608 - 1 : Nat) : Int) - -149).toNat := Nat.le_mul_of_pos_right _ (Nat.pow_pos (by omega))
      omega
    · rw [a2, b2] at ho'; simp only [Ieee.Datum.order, Option.some.injEq] at ho'; split at ho' <;> cases ho'
    · rw [a3, b2, hs] at ho'
      simp only [Ieee.Datum.order, Option.some.injEq] at ho'; replace ho' := int_cmp_eq ho'
      have h := signed_inj ho'
      have e : min (-149 + ((x % 2147483648 / 8388608 - 1 : Nat) : Int)) (-149 : Int) = -149 := by omega
      rw [e] at h
      simp only [Int.sub_self, Int.toNat_zero, Nat.pow_zero, Nat.mul_one] at h
      have : 8388608 + x % 2147483648 % 8388608 ≤ (8388608 + x % 2147483648 % 8388608) * 2 ^ (-149 + ((x % 2147483648 / 8388608 - 1 : Nat) : Int) - -149).toNat := Nat.le_mul_of_pos_right _ (Nat.pow_pos (by omega))
      omega
    · rw [a3, b3, hs] at ho'
      simp only [Ieee.Datum.order, Option.some.injEq] at ho'; replace ho' := int_cmp_eq ho'
      have h := signed_inj ho'
      generalize hp : x % 2147483648 / 8388608 - 1 = p at *
      generalize hq : y % 2147483648 / 8388608 - 1 = q at *
      have hmx : x % 2147483648 % 8388608 < 8388608 := Nat.mod_lt _ (by omega)
      have hmy : y % 2147483648 % 8388608 < 8388608 := Nat.mod_lt _ (by omega)
      have hdx := Nat.div_add_mod (x % 2147483648) 8388608
      have hdy := Nat.div_add_mod (y % 2147483648) 8388608
      have hpow : ∀ (m d : Nat), 0 < d → 2 * m ≤ m * 2 ^ d := fun m d hd => by
        obtain ⟨d, rfl⟩ : ∃ e, d = e + 1 := ⟨d - 1, by omega⟩
        have : 1 ≤ 2 ^ d := Nat.pow_pos (by omega)
        rw [Nat.pow_succ]
        calc 2 * m = m * (1 * 2) := by omega
          _ ≤ m * (2 ^ d * 2) := Nat.mul_le_mul_left _ (Nat.mul_le_mul_right _ this)
      rcases Nat.lt_trichotomy p q with hlt | heq | hgt
      · have e1 : (-149 + (p : Int) - min (-149 + (p : Int)) (-149 + (q : Int))).toNat = 0 := by omega
        have e2 : (-149 + (q : Int) - min (-149 + (p : Int)) (-149 + (q : Int))).toNat = q - p := by omega
        rw [e1, e2] at h
        have := hpow (8388608 + y % 2147483648 % 8388608) (q - p) (by omega)
        omega
      · subst heq
        have e1 : (-149 + (p : Int) - min (-149 + (p : Int)) (-149 + (p : Int))).toNat = 0 := by omega
        rw [e1] at h
        omega
      · have e1 : (-149 + (p : Int) - min (-149 + (p : Int)) (-149 + (q : Int))).toNat = p - q := by omega
        have e2 : (-149 + (q : Int) - min (-149 + (p : Int)) (-149 + (q : Int))).toNat = 0 := by omega
        rw [e1, e2] at h
        have := hpow (8388608 + x % 2147483648 % 8388608) (p - q) (by omega)
        omega
    · rw [a3, b2] at ho'; simp only [Ieee.Datum.order, Option.some.injEq] at ho'; split at ho' <;> cases ho'
    · rw [a2, b2] at ho'; simp only [Ieee.Datum.order, Option.some.injEq] at ho'; split at ho' <;> cases ho'
    · rw [a2, b3] at ho'; simp only [Ieee.Datum.order, Option.some.injEq] at ho'; split at ho' <;> cases ho'
    · omega
  have hs' : (2147483648 ≤ x) ↔ (2147483648 ≤ y) := by simpa using hs
  omega

/-- The sign of a number outlives the way to 64 bits. -/
theorem wide_sign {x : Nat} (hx : x < 4294967296) (nx : isN .f32 x = false) : decide (9223372036854775808 ≤ wide x) = decide (2147483648 ≤ x) := by
  have hw : ∀ (s : Bool) (rung : Nat), rung ≤ Ieee.double.infRung → decide (9223372036854775808 ≤ Ieee.double.word s rung) = s := fun s rung hr => by
    have h1 : Ieee.double.signWeight = 9223372036854775808 := by decide +kernel
    have h2 : Ieee.double.infRung < 9223372036854775808 := by decide +kernel
    unfold Ieee.Format.word
    cases s
    · simp; omega
    · simp [h1]
  have hn : ∀ s m e, ∃ rung, rung ≤ Ieee.double.infRung ∧ Ieee.double.write (.number s m e) = Ieee.double.word s rung := fun s m e => by
    show ∃ rung, rung ≤ Ieee.double.infRung ∧ Ieee.double.nearest s m e = Ieee.double.word s rung
    unfold Ieee.Format.nearest
    split
    · exact ⟨0, Nat.zero_le _, rfl⟩
    · exact ⟨_, Nat.min_le_right _ _, rfl⟩
  have key : ∃ rung, rung ≤ Ieee.double.infRung ∧ wide x = Ieee.double.word (decide (2147483648 ≤ x)) rung := by
    rcases single_form x nx hx with ⟨_, a2⟩ | ⟨_, _, a2⟩ | ⟨_, a2⟩
    · have e : wide x = Ieee.double.write (.number (decide (2147483648 ≤ x)) (x % 2147483648) (-149)) := by unfold wide; rw [a2]
      rw [e]; exact hn _ _ _
    · have e : wide x = Ieee.double.write (.number (decide (2147483648 ≤ x)) (8388608 + x % 2147483648 % 8388608) (-149 + ((x % 2147483648 / 8388608 - 1 : Nat) : Int))) := by unfold wide; rw [a2]
      rw [e]; exact hn _ _ _
    · have e : wide x = Ieee.double.write (.infinity (decide (2147483648 ≤ x))) := by unfold wide; rw [a2]
      rw [e]; exact ⟨_, Nat.le_refl _, rfl⟩
  obtain ⟨rung, h1, h2⟩ := key
  have h3 := hw (decide (2147483648 ≤ x)) rung h1
  rw [← h2] at h3
  exact h3

theorem cn_of_num {k : FloatKind} {b : Nat} (h : isN k b = false) : cn k b = b := by unfold cn; rw [if_neg (by simp [h])]
theorem cn_of_nan {k : FloatKind} {b : Nat} (h : isN k b = true) : cn k b = nanW k := by unfold cn; rw [if_pos h]
theorem neq_self (k : FloatKind) (b : Nat) : fcmp .neq k (cn k b) (cn k b) = isN k b := by rw [fcmp_cn, fcmp_self_neq]

attribute [local go_sem] ex_f32bits
theorem l01Bits_any (b : Nat) (hb : b < 4294967296) (w : World) : Calls Try.prog 101 #[.float .f32 b] w fun e w' => e = .returned (.int .i64 (cn .f32 b)) ∧ w = w' := by
  have hq := neq_self .f32 b
  cases hN : isN .f32 b with
  | true =>
    rw [hN] at hq
    have H := Lib.hid (cn_of_nan hN)
    clear hN
    go_enter Try.func101, Try.ntmps101
    go_wp2_with (refine wpList_fcmp rfl rfl rfl rfl rfl (by first | with_reducible assumption | exact rfl) ?_)
    go_ret
    exact ⟨ret_int (by rw [H.out]; rfl), rfl⟩
  | false =>
    rw [hN] at hq
    have H := Lib.hid (cn_of_num hN)
    have Hb := Lib.hid hb
    have hb2 : (b : Int) ≤ 4294967295 := by omega
    clear hN hb
    go_enter Try.func101, Try.ntmps101
    go_wp2_with (refine wpList_fcmp rfl rfl rfl rfl rfl (by first | with_reducible assumption | exact rfl) ?_)
    go_ret
    exact ⟨ret_int (by rw [H.out]), rfl⟩

/-- Two numbers, by their canonical bits. -/
def sameN (x y : Nat) : Bool := decide (x = y)

theorem l01Same_any (a b : Nat) (ha : a < 4294967296) (hb : b < 4294967296) (w : World) : Calls Try.prog 63 #[.float .f32 a, .float .f32 b] w fun e w' => e = .returned (.bool (sameN (cn .f32 a) (cn .f32 b))) ∧ w = w' := by
  have H : Hid (((cn .f32 a : Int) == (cn .f32 b : Int)) = sameN (cn .f32 a) (cn .f32 b)) := by
    show _ = _; rw [Bool.eq_iff_iff]; simp [sameN]; omega
  have Ha := Lib.hid ha
  have Hb := Lib.hid hb
  clear ha hb
  go_enter Try.func63, Try.ntmps63
  go_wp2_with fail
  refine (l01Bits_any a Ha.out _).mono ?_
  rintro e w1 ⟨rfl, rfl⟩
  go_wp2_with fail
  refine (l01Bits_any b Hb.out _).mono ?_
  rintro e w1 ⟨rfl, rfl⟩
  generalize (cn .f32 a : Int) = x at *
  generalize (cn .f32 b : Int) = y at *
  go_wp2_with fail
  go_ret
  exact ⟨ret_bool (by rw [← H.out]), rfl⟩



end Go.Proofs.Ytgmdoboeenpjpaa
