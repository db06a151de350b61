/- Two 32-bit numbers are the same just if their canonical bits are. No condition. -/
import Derived.Test.YtnlnjhbckfcmfaaProg
import Derived.Test.YtnlnjhbckfcmfaaB
import Derived.Deep.QuietTactic
import Derived.BigQuiet
import Derived.Outline
namespace Go.Proofs.Ytnlnjhbckfcmfaa
open Go Go.RowKit

theorem single_form (x : Nat) (h : isN .f32 x = false) (hx : x < 4294967296) :
    (x % 2147483648 < 8388608 ∧ Ieee.single.read x = .number (decide (2147483648 ≤ x)) (x % 2147483648) (-149)) ∨
    (8388608 ≤ x % 2147483648 ∧ x % 2147483648 < 2139095040 ∧ Ieee.single.read x = .number (decide (2147483648 ≤ x)) (8388608 + x % 2147483648 % 8388608) (-149 + ((x % 2147483648 / 8388608 - 1 : Nat) : Int))) ∨
    (x % 2147483648 = 2139095040 ∧ Ieee.single.read x = .infinity (decide (2147483648 ≤ x))) := by
  have h1 : Ieee.single.signWeight = 2147483648 := by decide
  have h2 : Ieee.single.binade = 8388608 := by decide
  have h3 : Ieee.single.infRung = 2139095040 := by decide
  have h4 : Ieee.single.leastPlace = -149 := by decide
  have hs : (x / 2147483648 % 2 == 1) = decide (2147483648 ≤ x) := by
    rw [Bool.eq_iff_iff, beq_iff_eq, decide_eq_true_iff]; omega
  have hr : Ieee.single.read x = if x % 2147483648 < 8388608 then .number (decide (2147483648 ≤ x)) (x % 2147483648) (-149)
      else if x % 2147483648 < 2139095040 then .number (decide (2147483648 ≤ x)) (8388608 + x % 2147483648 % 8388608) (-149 + ((x % 2147483648 / 8388608 - 1 : Nat) : Int))
      else if x % 2147483648 = 2139095040 then .infinity (decide (2147483648 ≤ x)) else .nan (decide (2147483648 ≤ x)) (x % 2147483648 - 2139095040) := by
    unfold Ieee.Format.read
    simp only [h1, h2, h3, h4, hs]
  by_cases c1 : x % 2147483648 < 8388608
  · rw [if_pos c1] at hr; exact .inl ⟨c1, hr⟩
  · rw [if_neg c1] at hr
    by_cases c2 : x % 2147483648 < 2139095040
    · rw [if_pos c2] at hr; exact .inr (.inl ⟨by omega, c2, hr⟩)
    · rw [if_neg c2] at hr
      by_cases c3 : x % 2147483648 = 2139095040
      · rw [if_pos c3] at hr; exact .inr (.inr ⟨c3, hr⟩)
      · rw [if_neg c3] at hr
        unfold isN at h
        have hr' : (FloatKind.f32).format.read x = .nan (decide (2147483648 ≤ x)) (x % 2147483648 - 2139095040) := hr
        rw [hr'] at h
        simp [Ieee.Datum.isNaN] at h

theorem int_cmp_eq {a b : Int} (h : compare a b = .eq) : a = b := by
  have h' : compareOfLessAndEq a b = .eq := h
  unfold compareOfLessAndEq at h'
  split at h'
  · cases h'
  · split at h'
    · assumption
    · cases h'

theorem shift_eq {m n i j : Nat} (h : m <<< i = n <<< j) : m * 2 ^ i = n * 2 ^ j := by simpa [Nat.shiftLeft_eq] using h

theorem signed_inj {s : Bool} {m n i j : Nat} (h : Ieee.signed s m i = Ieee.signed s n j) : m * 2 ^ i = n * 2 ^ j := by
  unfold Ieee.signed at h
  cases s <;> simp at h <;> exact shift_eq (by exact_mod_cast h)

/-- Equal and of one sign: one word. -/
theorem order_eq_inj {x y : Nat} (hx : x < 4294967296) (hy : y < 4294967296) (nx : isN .f32 x = false) (ny : isN .f32 y = false)
    (ho : (FloatKind.f32).format.order x y = some .eq) (hs : decide (2147483648 ≤ x) = decide (2147483648 ≤ y)) : x = y := by
  have hrung : x % 2147483648 = y % 2147483648 := by
    have ho' : (Ieee.single.read x).order (Ieee.single.read y) = some .eq := ho
    rcases single_form x nx hx with ⟨a1, a2⟩ | ⟨a1, a2, a3⟩ | ⟨a1, a2⟩ <;> rcases single_form y ny hy with ⟨b1, b2⟩ | ⟨b1, b2, b3⟩ | ⟨b1, b2⟩
    · rw [a2, b2, hs] at ho'
      simp only [Ieee.Datum.order, Option.some.injEq] at ho'; replace ho' := int_cmp_eq ho'
      have := signed_inj ho'
      simpa using this
    · rw [a2, b3, hs] at ho'
      simp only [Ieee.Datum.order, Option.some.injEq] at ho'; replace ho' := int_cmp_eq ho'
      have h := signed_inj ho'
      have e : min (-149 : Int) (-149 + ((y % 2147483648 / 8388608 - 1 : Nat) : Int)) = -149 := by omega
      rw [e] at h
      simp only [Int.sub_self, Int.toNat_zero, Nat.pow_zero, Nat.mul_one] at h
      have : 8388608 + y % 2147483648 % 8388608 ≤ (8388608 + y % 2147483648 % 8388608) * 2 ^ (-149 + ((y % 2147483648 / 8388608 - 1 : Nat) : Int) - -149).toNat := Nat.le_mul_of_pos_right _ (Nat.pow_pos (by omega))
      omega
    · rw [a2, b2] at ho'; simp only [Ieee.Datum.order, Option.some.injEq] at ho'; split at ho' <;> cases ho'
    · rw [a3, b2, hs] at ho'
      simp only [Ieee.Datum.order, Option.some.injEq] at ho'; replace ho' := int_cmp_eq ho'
      have h := signed_inj ho'
      have e : min (-149 + ((x % 2147483648 / 8388608 - 1 : Nat) : Int)) (-149 : Int) = -149 := by omega
      rw [e] at h
      simp only [Int.sub_self, Int.toNat_zero, Nat.pow_zero, Nat.mul_one] at h
      have : 8388608 + x % 2147483648 % 8388608 ≤ (8388608 + x % 2147483648 % 8388608) * 2 ^ (-149 + ((x % 2147483648 / 8388608 - 1 : Nat) : Int) - -149).toNat := Nat.le_mul_of_pos_right _ (Nat.pow_pos (by omega))
      omega
    · rw [a3, b3, hs] at ho'
      simp only [Ieee.Datum.order, Option.some.injEq] at ho'; replace ho' := int_cmp_eq ho'
      have h := signed_inj ho'
      generalize hp : x % 2147483648 / 8388608 - 1 = p at *
      generalize hq : y % 2147483648 / 8388608 - 1 = q at *
      have hmx : x % 2147483648 % 8388608 < 8388608 := Nat.mod_lt _ (by omega)
      have hmy : y % 2147483648 % 8388608 < 8388608 := Nat.mod_lt _ (by omega)
      have hdx := Nat.div_add_mod (x % 2147483648) 8388608
      have hdy := Nat.div_add_mod (y % 2147483648) 8388608
      have hpow : ∀ (m d : Nat), 0 < d → 2 * m ≤ m * 2 ^ d := fun m d hd => by
        obtain ⟨d, rfl⟩ : ∃ e, d = e + 1 := ⟨d - 1, by omega⟩
        have : 1 ≤ 2 ^ d := Nat.pow_pos (by omega)
        rw [Nat.pow_succ]
        calc 2 * m = m * (1 * 2) := by omega
          _ ≤ m * (2 ^ d * 2) := Nat.mul_le_mul_left _ (Nat.mul_le_mul_right _ this)
      rcases Nat.lt_trichotomy p q with hlt | heq | hgt
      · have e1 : (-149 + (p : Int) - min (-149 + (p : Int)) (-149 + (q : Int))).toNat = 0 := by omega
        have e2 : (-149 + (q : Int) - min (-149 + (p : Int)) (-149 + (q : Int))).toNat = q - p := by omega
        rw [e1, e2] at h
        have := hpow (8388608 + y % 2147483648 % 8388608) (q - p) (by omega)
        omega
      · subst heq
        have e1 : (-149 + (p : Int) - min (-149 + (p : Int)) (-149 + (p : Int))).toNat = 0 := by omega
        rw [e1] at h
        omega
      · have e1 : (-149 + (p : Int) - min (-149 + (p : Int)) (-149 + (q : Int))).toNat = p - q := by omega
        have e2 : (-149 + (q : Int) - min (-149 + (p : Int)) (-149 + (q : Int))).toNat = 0 := by omega
        rw [e1, e2] at h
        have := hpow (8388608 + x % 2147483648 % 8388608) (p - q) (by omega)
        omega
    · rw [a3, b2] at ho'; simp only [Ieee.Datum.order, Option.some.injEq] at ho'; split at ho' <;> cases ho'
    · rw [a2, b2] at ho'; simp only [Ieee.Datum.order, Option.some.injEq] at ho'; split at ho' <;> cases ho'
    · rw [a2, b3] at ho'; simp only [Ieee.Datum.order, Option.some.injEq] at ho'; split at ho' <;> cases ho'
    · omega
  have hs' : (2147483648 ≤ x) ↔ (2147483648 ≤ y) := by simpa using hs
  omega

/-- The sign of a number outlives the way to 64 bits. -/
theorem wide_sign {x : Nat} (hx : x < 4294967296) (nx : isN .f32 x = false) : decide (9223372036854775808 ≤ wide x) = decide (2147483648 ≤ x) := by
  have hw : ∀ (s : Bool) (rung : Nat), rung ≤ Ieee.double.infRung → decide (9223372036854775808 ≤ Ieee.double.word s rung) = s := fun s rung hr => by
    have h1 : Ieee.double.signWeight = 9223372036854775808 := by decide +kernel
    have h2 : Ieee.double.infRung < 9223372036854775808 := by decide +kernel
    unfold Ieee.Format.word
    cases s
    · simp; omega
    · simp [h1]
  have hn : ∀ s m e, ∃ rung, rung ≤ Ieee.double.infRung ∧ Ieee.double.write (.number s m e) = Ieee.double.word s rung := fun s m e => by
    show ∃ rung, rung ≤ Ieee.double.infRung ∧ Ieee.double.nearest s m e = Ieee.double.word s rung
    unfold Ieee.Format.nearest
    split
    · exact ⟨0, Nat.zero_le _, rfl⟩
    · exact ⟨_, Nat.min_le_right _ _, rfl⟩
  have key : ∃ rung, rung ≤ Ieee.double.infRung ∧ wide x = Ieee.double.word (decide (2147483648 ≤ x)) rung := by
    rcases single_form x nx hx with ⟨_, a2⟩ | ⟨_, _, a2⟩ | ⟨_, a2⟩
    · have e : wide x = Ieee.double.write (.number (decide (2147483648 ≤ x)) (x % 2147483648) (-149)) := by unfold wide; rw [a2]
      rw [e]; exact hn _ _ _
    · have e : wide x = Ieee.double.write (.number (decide (2147483648 ≤ x)) (8388608 + x % 2147483648 % 8388608) (-149 + ((x % 2147483648 / 8388608 - 1 : Nat) : Int))) := by unfold wide; rw [a2]
      rw [e]; exact hn _ _ _
    · have e : wide x = Ieee.double.write (.infinity (decide (2147483648 ≤ x))) := by unfold wide; rw [a2]
      rw [e]; exact ⟨_, Nat.le_refl _, rfl⟩
  obtain ⟨rung, h1, h2⟩ := key
  have h3 := hw (decide (2147483648 ≤ x)) rung h1
  rw [← h2] at h3
  exact h3

theorem cn_of_num {k : FloatKind} {b : Nat} (h : isN k b = false) : cn k b = b := by unfold cn; rw [if_neg (by simp [h])]
theorem cn_of_nan {k : FloatKind} {b : Nat} (h : isN k b = true) : cn k b = nanW k := by unfold cn; rw [if_pos h]
theorem neq_self (k : FloatKind) (b : Nat) : fcmp .neq k (cn k b) (cn k b) = isN k b := by rw [fcmp_cn, fcmp_self_neq]

attribute [local go_sem] ex_f32bits
attribute [local go_sem] ex_f64bits
theorem l01Bits_any (b : Nat) (hb : b < 4294967296) (w : World) : Calls Try.prog 122 #[.float .f32 b] w fun e w' => e = .returned (.int .i64 (cn .f32 b)) ∧ w = w' := by
  have hq := neq_self .f32 b
  cases hN : isN .f32 b with
  | true =>
    rw [hN] at hq
    have H := Lib.hid (cn_of_nan hN)
    clear hN
    go_enter Try.func122, Try.ntmps122
    go_wp2_with (refine wpList_fcmp rfl rfl rfl rfl rfl (by first | with_reducible assumption | exact rfl) ?_)
    go_ret
    exact ⟨ret_int (by rw [H.out]; rfl), rfl⟩
  | false =>
    rw [hN] at hq
    have H := Lib.hid (cn_of_num hN)
    have Hb := Lib.hid hb
    have hb2 : (b : Int) ≤ 4294967295 := by omega
    clear hN hb
    go_enter Try.func122, Try.ntmps122
    go_wp2_with (refine wpList_fcmp rfl rfl rfl rfl rfl (by first | with_reducible assumption | exact rfl) ?_)
    go_ret
    exact ⟨ret_int (by rw [H.out]), rfl⟩

/-- Two numbers, by their canonical bits. -/
def sameN (x y : Nat) : Bool := decide (x = y)

theorem l01Same_any (a b : Nat) (ha : a < 4294967296) (hb : b < 4294967296) (w : World) : Calls Try.prog 116 #[.float .f32 a, .float .f32 b] w fun e w' => e = .returned (.bool (sameN (cn .f32 a) (cn .f32 b))) ∧ w = w' := by
  have H : Hid (((cn .f32 a : Int) == (cn .f32 b : Int)) = sameN (cn .f32 a) (cn .f32 b)) := by
    show _ = _; rw [Bool.eq_iff_iff]; simp [sameN]; omega
  have Ha := Lib.hid ha
  have Hb := Lib.hid hb
  clear ha hb
  go_enter Try.func116, Try.ntmps116
  go_wp2_with fail
  refine (l01Bits_any a Ha.out _).mono ?_
  rintro e w1 ⟨rfl, rfl⟩
  go_wp2_with fail
  refine (l01Bits_any b Hb.out _).mono ?_
  rintro e w1 ⟨rfl, rfl⟩
  generalize (cn .f32 a : Int) = x at *
  generalize (cn .f32 b : Int) = y at *
  go_wp2_with fail
  go_ret
  exact ⟨ret_bool (by rw [← H.out]), rfl⟩

theorem wrap64_neg {z : Nat} (hz : z < 18446744073709551616) : decide (wrap64 (z : Int) < 0) = decide (9223372036854775808 ≤ z) := by
  have e : (wrap64 (z : Int) < 0) ↔ (9223372036854775808 ≤ z) := by unfold wrap64; omega
  simp only [e]
theorem signbit_any (z : Nat) (hz : z < 18446744073709551616) (w : World) : Calls Try.prog 104 #[.float .f64 z] w fun e w' => e = .returned (.bool (decide (9223372036854775808 ≤ z))) ∧ w = w' := by
  have H := Lib.hid (wrap64_neg hz)
  clear hz
  go_enter Try.func104, Try.ntmps104
  go_wp2_with fail
  go_ret
  exact ⟨ret_bool H.out, rfl⟩

/-- The sign, of the number that a 32-bit one is in 64 bits. -/
theorem signbit_wide {x z : Nat} (hx : x < 4294967296) (nx : isN .f32 x = false) (hz : z < 18446744073709551616) (h : cn .f64 z = wide (cn .f32 x)) {c : Bool} (hc : decide (2147483648 ≤ x) = c) (w : World) :
    Calls Try.prog 104 #[.float .f64 z] w fun e w' => e = .returned (.bool c) ∧ w = w' := by
  have e1 : cn .f32 x = x := cn_of_num nx
  rw [e1] at h
  have hn : isN .f64 z = false := by
    rw [← isN_cn, h]
    unfold wide
    rcases single_form x nx hx with ⟨_, a2⟩ | ⟨_, _, a2⟩ | ⟨_, a2⟩ <;> rw [a2] <;> exact isN_write .f64 rfl
  rw [cn_of_num hn] at h
  have := signbit_any z hz w
  rw [h, wide_sign hx nx, hc] at this
  rw [h]
  exact this

set_option maxHeartbeats 1000000 in
theorem sameNumber_any (a b : Nat) (ha : a < 4294967296) (hb : b < 4294967296) (w : World) : Calls Try.prog 67 #[.float .f32 a, .float .f32 b] w fun e w' => e = .returned (.bool (sameN (cn .f32 a) (cn .f32 b))) ∧ Ext w w' := by
  have qa := neq_self .f32 a
  have qb := neq_self .f32 b
  have Ha := Lib.hid ha
  have Hb := Lib.hid hb
  clear ha hb
  have wa : (Try.prog.underlying 40).isSome = true := by kernel_rfl
  cases na : isN .f32 a <;> cases nb : isN .f32 b <;> rw [na] at qa <;> rw [nb] at qb
  · -- both are numbers
    have Na := Lib.hid na
    have Nb := Lib.hid nb
    clear na nb
    cases he : fcmp .eql .f32 (cn .f32 a) (cn .f32 b) with
    | false =>
      have H : Hid (sameN (cn .f32 a) (cn .f32 b) = false) := by
        show _ = _
        simp only [sameN, decide_eq_false_iff_not]
        intro h
        rw [← h, fcmp_cn] at he
        unfold fcmp at he
        rw [order_self _ _ Na.out] at he
        simp at he
      go_enter Try.func67, Try.ntmps67
      go_wp2_with (refine wpList_fcmp rfl rfl rfl rfl rfl (by first | with_reducible assumption | exact rfl) ?_)
      go_ret
      exact ⟨ret_bool H.out.symm, Ext.refl _⟩
    | true =>
      cases hs : decide (2147483648 ≤ a) <;> cases ht : decide (2147483648 ≤ b)
      all_goals
        have Hs := Lib.hid hs
        have Ht := Lib.hid ht
        clear hs ht
        go_enter Try.func67, Try.ntmps67
        go_wp2_with (first | (refine wpList_fcmp rfl rfl rfl rfl rfl (by first | with_reducible assumption | exact rfl) ?_) | (refine wpList_wide wa Try.underlying46 rfl rfl rfl ?_; intro zb zn hzb hzl))
        refine (signbit_wide Ha.out Na.out hzl hzb Hs.out _).mono ?_
        rintro e w1 ⟨rfl, rfl⟩
        clear hzl hzb
        go_wp2_with (first | (refine wpList_fcmp rfl rfl rfl rfl rfl (by first | with_reducible assumption | exact rfl) ?_) | (refine wpList_wide wa Try.underlying46 rfl rfl rfl ?_; intro zb2 zn2 hzb2 hzl2))
        refine (signbit_wide Hb.out Nb.out hzl2 hzb2 Ht.out _).mono ?_
        rintro e w1 ⟨rfl, rfl⟩
        clear hzl2 hzb2
        go_wp2_with (refine wpList_fcmp rfl rfl rfl rfl rfl (by first | with_reducible assumption | exact rfl) ?_)
        go_ret
        refine ⟨ret_bool ?_, Ext.drewN _ _⟩
        have ea := cn_of_num Na.out
        have eb := cn_of_num Nb.out
        rw [ea, eb] at he ⊢
        have hsa := Hs.out
        have htb := Ht.out
        have key : sameN a b = decide (decide (2147483648 ≤ a) = decide (2147483648 ≤ b)) := by
          by_cases hsg : decide (2147483648 ≤ a) = decide (2147483648 ≤ b)
          · have hab : a = b := order_eq_inj Ha.out Hb.out Na.out Nb.out (by unfold fcmp at he; simpa using he) hsg
            subst hab; simp [sameN]
          · have hab : a ≠ b := fun h => hsg (by rw [h])
            simp only [sameN, hab, hsg]
        rw [key, hsa, htb]
        rfl
  all_goals
    have Na := Lib.hid na
    have Nb := Lib.hid nb
    clear na nb
    go_enter Try.func67, Try.ntmps67
    go_wp2_with (refine wpList_fcmp rfl rfl rfl rfl rfl (by first | with_reducible assumption | exact rfl) ?_)
    go_ret
    refine ⟨ret_bool ?_, Ext.refl _⟩
    have h3 := isN_cn .f32 a
    have h4 := isN_cn .f32 b
    rw [Na.out] at h3
    rw [Nb.out] at h4
    first
      | (have : cn .f32 a = cn .f32 b := by rw [cn_of_nan Na.out, cn_of_nan Nb.out]
         simp [sameN, this]; done)
      | (have : cn .f32 a ≠ cn .f32 b := fun h => by rw [h, h4] at h3; cases h3
         simp [sameN, this]; done)

theorem l01Same_eq {a b : Nat} (ha : a < 4294967296) (hb : b < 4294967296) {c : Bool} (h : sameN (cn .f32 a) (cn .f32 b) = c) (w : World) : Calls Try.prog 116 #[.float .f32 a, .float .f32 b] w fun e w' => e = .returned (.bool c) ∧ w = w' := by
  subst h; exact l01Same_any a b ha hb w
def sameNs (bs cs : List Nat) : Bool := decide (bs.map (cn .f32) = cs.map (cn .f32))
theorem take_sameC {bs cs : List Nat} {k : Nat} (h1 : k < bs.length) (h2 : k < cs.length) (h : (bs.map (cn .f32)).take k = (cs.map (cn .f32)).take k) (e : cn .f32 bs[k] = cn .f32 cs[k]) :
    (bs.map (cn .f32)).take (k + 1) = (cs.map (cn .f32)).take (k + 1) := by
  rw [List.take_add_one, List.take_add_one, h]
  simp [h1, h2, e]
theorem sameNs_no {bs cs : List Nat} {k : Nat} (h1 : k < bs.length) (h2 : k < cs.length) (e : sameN (cn .f32 bs[k]) (cn .f32 cs[k]) = false) : sameNs bs cs = false := by
  unfold sameNs
  rw [decide_eq_false_iff_not]
  intro h
  have e1 : (bs.map (cn .f32))[k]? = some (cn .f32 bs[k]) := by simp [h1]
  have e2 : (cs.map (cn .f32))[k]? = some (cn .f32 cs[k]) := by simp [h2]
  rw [h, e2] at e1
  have := Option.some.inj e1
  simp [sameN, this] at e

set_option maxHeartbeats 1000000 in
theorem l01SameAll_any (v1 v2 : Value) (bs cs : List Nat) (w : World) (r1 : RdF w v1 bs) (r2 : RdF w v2 cs) :
    Calls Try.prog 103 #[v1, v2] w fun e w' => e = .returned (.bool (sameNs bs cs)) ∧ ∃ m, w' = w.drewN m := by
  have r1' := r1
  have r2' := r2
  obtain ⟨⟨-, a1, c1, rfl, p1, p2, -, -⟩, l1⟩ := r1
  obtain ⟨⟨-, a2, c2, rfl, q1, q2, -, -⟩, l2⟩ := r2
  have L1 := Lib.hid l1
  have L2 := Lib.hid l2
  clear l1 l2
  unfold maxLen at p2 q2
  by_cases hl : bs.length = cs.length
  · have hne : ((bs.length : Int) != (cs.length : Int)) = false := by simp [hl]
    have Hl := Lib.hid hl
    clear hl
    go_enter Try.func103, Try.ntmps103
    go_wp2_with fail
    go_loopw [5] (fun i wr => ∃ k : Nat, k ≤ bs.length ∧ i = .int .i64 k ∧ Hid ((bs.map (cn .f32)).take k = (cs.map (cn .f32)).take k) ∧ ∃ m, wr = w.drewN m) (fun i _ => bs.length - (intOf i).toNat)
    case atStart => exact ⟨0, Nat.zero_le _, rfl, rfl, 0, rfl⟩
    case round =>
      obtain ⟨k, hk, rfl, Hs, m, rfl⟩ := hrel
      by_cases hlt : k < bs.length
      · have hlt2 : k < cs.length := by rw [← Hl.out]; exact hlt
        obtain ⟨b1, o1, rfl, hb1, hc1⟩ := r1'.at hlt
        obtain ⟨b2, o2, rfl, hb2, hc2⟩ := r2'.at hlt2
        cases he : sameN (cn .f32 bs[k]) (cn .f32 cs[k]) with
        | true =>
          have Ht := Lib.hid (take_sameC hlt hlt2 Hs.out (by simpa [sameN] using he))
          have He := Lib.hid he
          clear he
          go_wp2_with fail
          go_quiet ((go_at_call 116; exact quietLL (l01Same_eq (L1.out _ (List.getElem_mem hlt)) (L2.out _ (List.getElem_mem hlt2)) He.out _)))
          go_wp2_with fail
          go_roundw
          case rel => exact ⟨k + 1, by omega, by go_num, Ht, _, rfl⟩
          case measure => simp [intOf]; omega
        | false =>
          have Hd := Lib.hid (sameNs_no hlt hlt2 he)
          have He := Lib.hid he
          clear he
          go_wp2_with fail
          go_quiet ((go_at_call 116; exact quietLL (l01Same_eq (L1.out _ (List.getElem_mem hlt)) (L2.out _ (List.getElem_mem hlt2)) He.out _)))
          go_wp2_with fail
          go_ret
          exact ⟨ret_bool Hd.out.symm, _, World.drewN_drewN _ _ _⟩
      · have Hd : Hid (sameNs bs cs = true) := by
          show _ = _
          have h := Hs.out
          rw [List.take_of_length_le (by simp; omega), List.take_of_length_le (by simp; rw [← Hl.out]; omega)] at h
          simp [sameNs, h]
        go_wp2_with fail
        go_ret
        exact ⟨ret_bool Hd.out.symm, _, rfl⟩
  · have hne : ((bs.length : Int) != (cs.length : Int)) = true := by simp; omega
    have Hd : Hid (sameNs bs cs = false) := by
      show _ = _
      simp only [sameNs, decide_eq_false_iff_not]
      intro h
      have := congrArg List.length h
      simp at this; exact hl this
    clear hl
    go_enter Try.func103, Try.ntmps103
    go_wp2_with fail
    go_ret
    exact ⟨ret_bool Hd.out.symm, 0, rfl⟩
end Go.Proofs.Ytnlnjhbckfcmfaa
