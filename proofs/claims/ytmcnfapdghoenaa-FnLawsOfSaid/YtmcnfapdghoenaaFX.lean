
/- Numbers that are not above, or not below, zero; and the exponential function of a number from -64 to 0. No condition. -/
import Derived.Test.YtmcnfapdghoenaaFL
import Derived.Test.YtmcnfapdghoenaaAB
namespace Go.Proofs.Ytmcnfapdghoenaa
open Go Go.RowKit

/-- A number from 0 to 2^c. -/
def Bp (k : FloatKind) (b : Nat) (c : Int) : Prop := ∃ s m e, k.format.read b = .number s m e ∧ LeP m e c ∧ (m = 0 ∨ s = false)
/-- A number from -2^c to 0. -/
def Bn (k : FloatKind) (b : Nat) (c : Int) : Prop := ∃ s m e, k.format.read b = .number s m e ∧ LeP m e c ∧ (m = 0 ∨ s = true)
theorem Bp.notN {k : FloatKind} {b : Nat} {c : Int} (h : Bp k b c) : isN k b = false := by
  obtain ⟨s, m, e, h, _⟩ := h; unfold isN; rw [h]; rfl
theorem Bn.notN {k : FloatKind} {b : Nat} {c : Int} (h : Bn k b c) : isN k b = false := by
  obtain ⟨s, m, e, h, _⟩ := h; unfold isN; rw [h]; rfl
theorem Bp.mono {k : FloatKind} {b : Nat} {c d : Int} (h : Bp k b c) (hd : c ≤ d) : Bp k b d := by
  obtain ⟨s, m, e, h1, h2, h3⟩ := h; exact ⟨s, m, e, h1, h2.mono hd, h3⟩

theorem read_zero (k : FloatKind) (s : Bool) : k.format.read (k.format.word s 0) = .number s 0 k.format.leastPlace := by
  cases k <;> cases s <;> decide +kernel
theorem write_sgn {k : FloatKind} {s : Bool} {m : Nat} {e c : Int} (h : LeP m e c) (hc : InF k c) : ∃ m' e', k.format.read (k.format.write (.number s m e)) = .number s m' e' ∧ LeP m' e' c ∧ (m = 0 → m' = 0) := by
  by_cases hm : m = 0
  · subst hm
    refine ⟨0, k.format.leastPlace, ?_, .inl rfl, fun _ => rfl⟩
    show k.format.read (k.format.nearest s 0 e) = _
    unfold Ieee.Format.nearest
    rw [if_pos rfl]
    exact read_zero _ _
  · obtain ⟨m', e', h1, h2⟩ := nearest_le k.format s m e c h hc.1 hc.2
    exact ⟨m', e', h1, h2, fun h => absurd h hm⟩
theorem bp_write {k : FloatKind} {s : Bool} {m : Nat} {e c : Int} (h : LeP m e c) (hs : m = 0 ∨ s = false) (hc : InF k c) : Bp k (k.format.write (.number s m e)) c := by
  obtain ⟨m', e', h1, h2, h3⟩ := write_sgn (s := s) h hc
  exact ⟨s, m', e', h1, h2, hs.imp h3 id⟩
theorem bn_write {k : FloatKind} {s : Bool} {m : Nat} {e c : Int} (h : LeP m e c) (hs : m = 0 ∨ s = true) (hc : InF k c) : Bn k (k.format.write (.number s m e)) c := by
  obtain ⟨m', e', h1, h2, h3⟩ := write_sgn (s := s) h hc
  exact ⟨s, m', e', h1, h2, hs.imp h3 id⟩

theorem fop_mul_eq {k : FloatKind} {x y : Nat} {s t : Bool} {m n : Nat} {i j : Int} (h1 : k.format.read x = .number s m i) (h3 : k.format.read y = .number t n j) : fop .mul k x y = k.format.write (.number (s ^^ t) (m * n) (i + j)) := by
  unfold fop floatBits Ieee.Format.mul
  rw [h1, h3]; rfl
theorem bp_mul {k : FloatKind} {x y : Nat} {a b : Int} (hx : Bp k x a) (hy : Bp k y b) (hc : InF k (a + b)) : Bp k (fop .mul k x y) (a + b) := by
  obtain ⟨s, m, i, h1, h2, h5⟩ := hx
  obtain ⟨t, n, j, h3, h4, h6⟩ := hy
  rw [fop_mul_eq h1 h3]
  refine bp_write (h2.mul h4) ?_ hc
  rcases h5 with rfl | rfl
  · exact .inl (Nat.zero_mul _)
  · rcases h6 with rfl | rfl
    · exact .inl (Nat.mul_zero _)
    · exact .inr rfl
theorem bn_mul {k : FloatKind} {x y : Nat} {a b : Int} (hx : Bn k x a) (hy : Bp k y b) (hc : InF k (a + b)) : Bn k (fop .mul k x y) (a + b) := by
  obtain ⟨s, m, i, h1, h2, h5⟩ := hx
  obtain ⟨t, n, j, h3, h4, h6⟩ := hy
  rw [fop_mul_eq h1 h3]
  refine bn_write (h2.mul h4) ?_ hc
  rcases h5 with rfl | rfl
  · exact .inl (Nat.zero_mul _)
  · rcases h6 with rfl | rfl
    · exact .inl (Nat.mul_zero _)
    · exact .inr rfl

theorem fop_div_eq {k : FloatKind} {x y : Nat} {s t : Bool} {m n : Nat} {i j a b : Int} (h1 : k.format.read x = .number s m i) (h2 : LeP m i a) (hy : k.format.read y = .number t n j) (hn : GeP n j b) :
    ∃ M E, fop .quo k x y = k.format.write (.number (s ^^ t) M E) ∧ LeP M E (a - b + 1) ∧ (m = 0 → M = 0) := by
  obtain ⟨hn0, hnb⟩ := hn
  generalize hmore : k.format.fractionBits + 2 + n.log2 - m.log2 = more
  refine ⟨2 * ((m <<< more) / n) + ((m <<< more) % n != 0).toNat, i - j - more - 1, ?_, ?_, ?_⟩
  · unfold fop floatBits Ieee.Format.div
    rw [h1, hy]
    simp only [Ieee.Datum.quotient, if_neg hn0, hmore]
    rfl
  · by_cases hm : m = 0
    · left; subst hm; simp
    · right
      have hlog := h2.log hm
      have hml : m < 2 ^ (m.log2 + 1) := Nat.lt_log2_self
      have hnl := Nat.log2_self_le hn0
      have hq : (m <<< more) / n < 2 ^ (m.log2 + 1 + more - n.log2) := by
        rw [Nat.shiftLeft_eq, Nat.div_lt_iff_lt_mul (by omega)]
        have e1 : m * 2 ^ more < 2 ^ (m.log2 + 1) * 2 ^ more := Nat.mul_lt_mul_of_pos_right hml (Nat.pow_pos (by omega))
        rw [← Nat.pow_add] at e1
        have e2 : 2 ^ (m.log2 + 1 + more) = 2 ^ (m.log2 + 1 + more - n.log2) * 2 ^ n.log2 := by rw [← Nat.pow_add]; congr 1; omega
        rw [e2] at e1
        exact Nat.lt_of_lt_of_le e1 (Nat.mul_le_mul_left _ hnl)
      have hb : ∀ b : Bool, b.toNat ≤ 1 := fun b => by cases b <;> simp
      have hb' := hb ((m <<< more) % n != 0)
      refine ⟨by omega, ?_⟩
      have e3 : 2 * ((m <<< more) / n) + ((m <<< more) % n != 0).toNat ≤ 2 * 2 ^ (m.log2 + 1 + more - n.log2) := by omega
      refine Nat.le_trans e3 ?_
      rw [Nat.mul_comm, ← Nat.pow_succ]
      exact Nat.pow_le_pow_right (by omega) (by omega)
  · rintro rfl; simp
theorem bp_div {k : FloatKind} {x y n : Nat} {a b j : Int} (hx : Bp k x a) (hy : k.format.read y = .number false n j) (hn : GeP n j b) (hc : InF k (a - b + 1)) : Bp k (fop .quo k x y) (a - b + 1) := by
  obtain ⟨s, m, i, h1, h2, h5⟩ := hx
  obtain ⟨M, E, e, h3, h4⟩ := fop_div_eq h1 h2 hy hn
  rw [e]
  exact bp_write h3 (h5.imp h4 fun h => by rw [h]; rfl) hc
theorem bn_div {k : FloatKind} {x y n : Nat} {a b j : Int} (hx : Bn k x a) (hy : k.format.read y = .number false n j) (hn : GeP n j b) (hc : InF k (a - b + 1)) : Bn k (fop .quo k x y) (a - b + 1) := by
  obtain ⟨s, m, i, h1, h2, h5⟩ := hx
  obtain ⟨M, E, e, h3, h4⟩ := fop_div_eq h1 h2 hy hn
  rw [e]
  exact bn_write h3 (h5.imp h4 fun h => by rw [h]; rfl) hc

/-- One and what is from -1 to 0. -/
theorem one_plus {k : FloatKind} {x y : Nat} (hx : k.format.read x = .number false (2 ^ k.format.fractionBits) (-(k.format.fractionBits : Int))) (hy : Bn k y 0) (hc : InF k 0) : Bp k (fop .add k x y) 0 := by
  obtain ⟨s, m, i, h1, h2, h3⟩ := hy
  generalize hb : min (-(k.format.fractionBits : Int)) i = base
  have hA : (2 ^ k.format.fractionBits) <<< (-(k.format.fractionBits : Int) - base).toNat = 2 ^ (-base).toNat := by
    rw [Nat.shiftLeft_eq, ← Nat.pow_add]; congr 1; omega
  have hM : m <<< (i - base).toNat ≤ 2 ^ (-base).toNat := by
    rw [Nat.shiftLeft_eq]
    rcases h2 with rfl | ⟨h4, h5⟩
    · rw [Nat.zero_mul]; exact Nat.zero_le _
    · have : (-base).toNat = (0 - i).toNat + (i - base).toNat := by omega
      rw [this, Nat.pow_add]
      exact Nat.mul_le_mul_right _ h5
  have hsum : ∃ T : Nat, T ≤ 2 ^ (-base).toNat ∧ Ieee.signed false (2 ^ k.format.fractionBits) (-(k.format.fractionBits : Int) - base).toNat + Ieee.signed s m (i - base).toNat = (T : Int) := by
    unfold Ieee.signed
    rw [hA]
    rcases h3 with rfl | rfl
    · refine ⟨2 ^ (-base).toNat, Nat.le_refl _, ?_⟩
      rw [Nat.zero_shiftLeft]
      cases s <;> simp
    · refine ⟨2 ^ (-base).toNat - m <<< (i - base).toNat, Nat.sub_le _ _, ?_⟩
      simp only [if_true, Bool.false_eq_true, if_false]
      omega
  obtain ⟨T, hT, hTe⟩ := hsum
  have hf : fop .add k x y = k.format.write (.number false T base) := by
    unfold fop floatBits Ieee.Format.add
    rw [hx, h1]
    simp only [Ieee.Datum.sum, hb, hTe]
    have hsg : (if (T : Int) = 0 then false && s else decide ((T : Int) < 0)) = false := by
      split
      · rfl
      · rw [decide_eq_false_iff_not]; omega
    rw [hsg]
    rfl
  rw [hf]
  refine bp_write ?_ (.inr rfl) hc
  right
  exact ⟨by omega, by rw [Int.zero_sub]; exact hT⟩

/-! ### The exponential function from -64 to 0 -/
def oneD : Nat := 4607182418800017408
def fkD (k : Nat) : Nat := floatOfInt .f64 (k : Int)
theorem one_read : (FloatKind.f64).format.read oneD = .number false (2 ^ (FloatKind.f64).format.fractionBits) (-((FloatKind.f64).format.fractionBits : Int)) := by decide +kernel
theorem one_bp : Bp .f64 oneD 0 := ⟨_, _, _, one_read, .inr ⟨by decide, by decide +kernel⟩, .inr rfl⟩
theorem fkD_read : ∀ k, 1 ≤ k → k ≤ 12 → ∃ n j, (FloatKind.f64).format.read (fkD k) = .number false n j ∧ GeP n j 0 := by
  intro k h1 h2
  have : k = 1 ∨ k = 2 ∨ k = 3 ∨ k = 4 ∨ k = 5 ∨ k = 6 ∨ k = 7 ∨ k = 8 ∨ k = 9 ∨ k = 10 ∨ k = 11 ∨ k = 12 := by omega
  have key : ∀ n : Nat, ∀ j : Int, (n != 0 && decide (0 ≤ (n.log2 : Int) + j)) = true → GeP n j 0 := fun n j h => by simp at h; exact ⟨h.1, h.2⟩
  rcases this with h | h | h | h | h | h | h | h | h | h | h | h <;> subst h
  · exact ⟨4503599627370496, -52, by decide +kernel, key _ _ (by decide +kernel)⟩
  · exact ⟨4503599627370496, -51, by decide +kernel, key _ _ (by decide +kernel)⟩
  · exact ⟨6755399441055744, -51, by decide +kernel, key _ _ (by decide +kernel)⟩
  · exact ⟨4503599627370496, -50, by decide +kernel, key _ _ (by decide +kernel)⟩
  · exact ⟨5629499534213120, -50, by decide +kernel, key _ _ (by decide +kernel)⟩
  · exact ⟨6755399441055744, -50, by decide +kernel, key _ _ (by decide +kernel)⟩
  · exact ⟨7881299347898368, -50, by decide +kernel, key _ _ (by decide +kernel)⟩
  · exact ⟨4503599627370496, -49, by decide +kernel, key _ _ (by decide +kernel)⟩
  · exact ⟨5066549580791808, -49, by decide +kernel, key _ _ (by decide +kernel)⟩
  · exact ⟨5629499534213120, -49, by decide +kernel, key _ _ (by decide +kernel)⟩
  · exact ⟨6192449487634432, -49, by decide +kernel, key _ _ (by decide +kernel)⟩
  · exact ⟨6755399441055744, -49, by decide +kernel, key _ _ (by decide +kernel)⟩

/-- One step of the sum, from 12 downwards. -/
def expStep (t p : Nat) (k : Nat) : Nat := fop .add .f64 oneD (fop .quo .f64 (fop .mul .f64 t p) (fkD k))
/-- After j steps. -/
def expHorner (t : Nat) : Nat → Nat
  | 0 => oneD
  | j + 1 => expStep t (expHorner t j) (12 - j)
def expSq (p : Nat) : Nat → Nat
  | 0 => p
  | j + 1 => fop .mul .f64 (expSq p j) (expSq p j)
def expT (x : Nat) : Nat := fop .quo .f64 (wide x) 4643211215818981376
def expW (x : Nat) : Nat := expSq (expHorner (expT x) 12) 8
/-- Narrowed. -/
def narrowF (b : Nat) : Nat := Ieee.single.write (Ieee.double.read b)
def expF (x : Nat) : Nat := narrowF (expW x)

theorem inf64_0 : InF .f64 0 := inF64 (by decide) (by decide)
theorem expStep_bp {t p k : Nat} (ht : Bn .f64 t (-1)) (hp : Bp .f64 p 0) (h1 : 1 ≤ k) (h2 : k ≤ 12) : Bp .f64 (expStep t p k) 0 := by
  obtain ⟨n, j, hr, hg⟩ := fkD_read k h1 h2
  have h3 := bn_mul ht hp (inF64 (by decide) (by decide))
  have h4 := bn_div h3 hr hg (inF64 (by decide) (by decide))
  exact one_plus one_read h4 inf64_0
theorem expHorner_bp {t : Nat} (ht : Bn .f64 t (-1)) : ∀ j, j ≤ 12 → Bp .f64 (expHorner t j) 0
  | 0, _ => one_bp
  | j + 1, h => expStep_bp ht (expHorner_bp ht j (by omega)) (by omega) (by omega)
theorem expSq_bp {p : Nat} (hp : Bp .f64 p 0) : ∀ j, Bp .f64 (expSq p j) 0
  | 0 => hp
  | j + 1 => by have := bp_mul (expSq_bp hp j) (expSq_bp hp j) inf64_0; exact this
theorem wide_bn {x : Nat} {c : Int} (h : Bn .f32 x c) (hc : InF .f64 c) : Bn .f64 (wide x) c := by
  obtain ⟨s, m, e, h1, h2, h3⟩ := h
  have : wide x = Ieee.double.write (.number s m e) := by
    unfold wide
    have h1' : Ieee.single.read x = .number s m e := h1
    rw [h1']
  rw [this]
  exact bn_write (k := .f64) h2 h3 hc
theorem expT_bn {x : Nat} (h : Bn .f32 x 6) : Bn .f64 (expT x) (-1) := by
  have h1 := wide_bn h (inF64 (by decide) (by decide))
  have h2 : (FloatKind.f64).format.read 4643211215818981376 = .number false 4503599627370496 (-44) := by decide +kernel
  exact bn_div (b := 8) h1 h2 ⟨by decide, by decide +kernel⟩ (inF64 (by decide) (by decide))
theorem expW_bp {x : Nat} (h : Bn .f32 x 6) : Bp .f64 (expW x) 0 := expSq_bp (expHorner_bp (expT_bn h) 12 (by omega)) 8
theorem narrow_bp {b : Nat} {c : Int} (h : Bp .f64 b c) (hc : InF .f32 c) : Bp .f32 (narrowF b) c ∧ floatToFloatBits .f64 b .f32 = some (narrowF b) := by
  obtain ⟨s, m, e, h1, h2, h3⟩ := h
  have h1' : Ieee.double.read b = .number s m e := h1
  have hw : narrowF b = (FloatKind.f32).format.write (.number s m e) := by unfold narrowF; rw [h1']; rfl
  have hp := bp_write (k := .f32) h2 h3 hc
  refine ⟨by rw [hw]; exact hp, ?_⟩
  obtain ⟨s', m', e', h4, _⟩ := hp
  have hd : (FloatKind.f64).decode b = .number s m e := h1
  have hi : ((FloatKind.f32).decode ((FloatKind.f32).encode (.number s m e))).isInfinity = false := by
    show ((FloatKind.f32).format.read ((FloatKind.f32).format.write (.number s m e))).isInfinity = false
    rw [h4]; rfl
  unfold floatToFloatBits
  rw [if_neg (by decide), hd]
  simp only [hi, hw]
  rfl
theorem expF_bp {x : Nat} (h : Bn .f32 x 6) : Bp .f32 (expF x) 0 := (narrow_bp (expW_bp h) (inF32 (by decide) (by decide))).1

/-! ### Which numbers these are -/
def meanB (x : Nat) : Bool := fcmp .geq .f32 x (cn .f32 0) && fcmp .leq .f32 x (cn .f32 1115684864)
theorem cmp_le {a b : Int} (h : compare a b = .lt ∨ compare a b = .eq) : a ≤ b := by
  have e : compare a b = compareOfLessAndEq a b := rfl
  rw [e] at h
  unfold compareOfLessAndEq at h
  split at h
  · omega
  · split at h
    · omega
    · rcases h with h | h <;> cases h
theorem cmp_ge {a b : Int} (h : compare a b = .gt ∨ compare a b = .eq) : b ≤ a := by
  have e : compare a b = compareOfLessAndEq a b := rfl
  rw [e] at h
  unfold compareOfLessAndEq at h
  split at h
  · rcases h with h | h <;> cases h
  · split at h
    · omega
    · omega
theorem mean_bp {x : Nat} (h : meanB x = true) : Bp .f32 x 6 := by
  unfold meanB fcmp at h
  simp only [Bool.and_eq_true, Bool.or_eq_true, beq_iff_eq] at h
  obtain ⟨h1, h2⟩ := h
  have z1 : (FloatKind.f32).format.read (cn .f32 0) = .number false 0 (-149) := by decide +kernel
  have z2 : (FloatKind.f32).format.read (cn .f32 1115684864) = .number false 8388608 (-17) := by decide +kernel
  unfold Ieee.Format.order at h1 h2
  rw [z1] at h1
  rw [z2] at h2
  cases hr : (FloatKind.f32).format.read x with
  | nan s f => rw [hr] at h1; simp [Ieee.Datum.order] at h1
  | infinity s => rw [hr] at h1 h2; cases s <;> simp [Ieee.Datum.order] at h1 h2
  | number s m i =>
    rw [hr] at h1 h2
    simp only [Ieee.Datum.order, Option.some.injEq] at h1 h2
    have g1 := cmp_ge h1
    have g2 := cmp_le h2
    have hz : Ieee.signed false 0 (-149 - min i (-149)).toNat = 0 := by simp [Ieee.signed]
    rw [hz] at g1
    have hs : m = 0 ∨ s = false := by
      cases s
      · exact .inr rfl
      · left
        unfold Ieee.signed at g1
        simp only [if_true] at g1
        have h5 : m <<< (i - min i (-149)).toNat = 0 := by
          generalize m <<< (i - min i (-149)).toNat = M at g1 ⊢
          omega
        rw [Nat.shiftLeft_eq] at h5
        rcases Nat.mul_eq_zero.1 h5 with h | h
        · exact h
        · exact absurd h (by have := Nat.pow_pos (n := (i - min i (-149)).toNat) (show 0 < 2 by omega); omega)
    refine ⟨s, m, i, hr, ?_, hs⟩
    by_cases hm : m = 0
    · exact .inl hm
    · have hsf : s = false := hs.resolve_left hm
      subst hsf
      right
      unfold Ieee.signed at g2
      simp only [Bool.false_eq_true, if_false] at g2
      generalize hb : min i (-17) = base at g2
      have g3 : m <<< (i - base).toNat ≤ 8388608 <<< (-17 - base).toNat := by omega
      rw [Nat.shiftLeft_eq, Nat.shiftLeft_eq, show (8388608 : Nat) = 2 ^ 23 from rfl, ← Nat.pow_add] at g3
      have hm1 : 1 ≤ m := Nat.pos_of_ne_zero hm
      have hle : i ≤ 6 := by
        have h6 : 2 ^ (i - base).toNat ≤ 2 ^ (23 + (-17 - base).toNat) := Nat.le_trans (Nat.le_mul_of_pos_left _ hm1) g3
        have := (Nat.pow_le_pow_iff_right (by omega)).1 h6
        omega
      refine ⟨hle, ?_⟩
      have h7 : (2 : Nat) ^ (23 + (-17 - base).toNat) = 2 ^ (6 - i).toNat * 2 ^ (i - base).toNat := by rw [← Nat.pow_add]; congr 1; omega
      rw [h7] at g3
      exact Nat.le_of_mul_le_mul_right g3 (Nat.pow_pos (by omega))
theorem meanB_cn (x : Nat) : meanB (cn .f32 x) = meanB x := by
  have h : ∀ op y, fcmp op .f32 (cn .f32 x) (cn .f32 y) = fcmp op .f32 x (cn .f32 y) := fun op y => by
    rw [fcmp_cn, ← fcmp_cn op .f32 x (cn .f32 y), cn_cn, fcmp_cn]
  unfold meanB; rw [h, h]

/-- Zero less a mean. -/
theorem neg_mean {x : Nat} {c : Int} (h : Bp .f32 x c) (hc : InF .f32 c) : Bn .f32 (fop .sub .f32 (cn .f32 0) x) c := by
  obtain ⟨s, m, i, h1, h2, h3⟩ := h
  have z1 : (FloatKind.f32).format.read (cn .f32 0) = .number false 0 (-149) := by decide +kernel
  generalize hb : min (-149) i = base
  have hz : Ieee.signed false 0 (-149 - base).toNat = 0 := by simp [Ieee.signed]
  have hf : fop .sub .f32 (cn .f32 0) x = (FloatKind.f32).format.write (.number (if Ieee.signed (!s) m (i - base).toNat = 0 then false && !s else decide (Ieee.signed (!s) m (i - base).toNat < 0)) (Ieee.signed (!s) m (i - base).toNat).natAbs base) := by
    unfold fop floatBits Ieee.Format.sub
    rw [z1, h1]
    simp only [Ieee.Datum.opposite, Ieee.Datum.sum, hb, hz, Int.zero_add]
    rfl
  rw [hf]
  have hn : (Ieee.signed (!s) m (i - base).toNat).natAbs = m * 2 ^ (i - base).toNat := by
    unfold Ieee.signed; rw [← Nat.shiftLeft_eq]; generalize m <<< (i - base).toNat = M; cases s <;> simp
  rw [hn]
  refine bn_write ?_ ?_ hc
  · rcases h2 with rfl | ⟨h4, h5⟩
    · exact .inl (Nat.zero_mul _)
    · right
      refine ⟨by omega, ?_⟩
      have : (c - base).toNat = (c - i).toNat + (i - base).toNat := by omega
      rw [this, Nat.pow_add]
      exact Nat.mul_le_mul_right _ h5
  · rcases h3 with rfl | rfl
    · exact .inl (Nat.zero_mul _)
    · by_cases hm : m = 0
      · left; rw [hm, Nat.zero_mul]
      · right
        have hp : 0 < m <<< (i - base).toNat := by rw [Nat.shiftLeft_eq]; exact Nat.mul_pos (Nat.pos_of_ne_zero hm) (Nat.pow_pos (by omega))
        unfold Ieee.signed
        simp only [Bool.not_false, if_true]
        rw [if_neg (by omega), decide_eq_true_iff]
        omega
theorem gtr_no {k : FloatKind} {x y n : Nat} {c j : Int} (hx : Bn k x c) (hy : k.format.read y = .number false n j) : fcmp .gtr k x y = false := by
  obtain ⟨s, m, i, h1, h2, h3⟩ := hx
  unfold fcmp Ieee.Format.order
  rw [h1, hy]
  simp only [Ieee.Datum.order]
  rw [beq_eq_false_iff_ne]
  intro h
  simp only [Option.some.injEq] at h
  generalize min i j = base at h
  have h5 : Ieee.signed s m (i - base).toNat ≤ 0 := by
    unfold Ieee.signed
    rcases h3 with rfl | rfl
    · rw [Nat.zero_shiftLeft]; cases s <;> simp
    · simp only [if_true]; generalize m <<< (i - base).toNat = M; omega
  have h6 : 0 ≤ Ieee.signed false n (j - base).toNat := by unfold Ieee.signed; simp only [Bool.false_eq_true, if_false]; exact Int.natCast_nonneg _
  have e : compare (Ieee.signed s m (i - base).toNat) (Ieee.signed false n (j - base).toNat) = compareOfLessAndEq (Ieee.signed s m (i - base).toNat) (Ieee.signed false n (j - base).toNat) := rfl
  rw [e] at h
  unfold compareOfLessAndEq at h
  split at h
  · cases h
  · split at h
    · cases h
    · omega
theorem lss_no {k : FloatKind} {x y n : Nat} {c j b : Int} (hx : Bn k x c) (hy : k.format.read y = .number true n j) (hn : GeP n j b) (hcb : c ≤ b) : fcmp .lss k x y = false := by
  obtain ⟨s, m, i, h1, h2, h3⟩ := hx
  obtain ⟨hn0, hnb⟩ := hn
  unfold fcmp Ieee.Format.order
  rw [h1, hy]
  simp only [Ieee.Datum.order]
  rw [beq_eq_false_iff_ne]
  intro h
  simp only [Option.some.injEq] at h
  generalize hbs : min i j = base at h
  have h5 : m <<< (i - base).toNat ≤ n <<< (j - base).toNat := by
    rw [Nat.shiftLeft_eq, Nat.shiftLeft_eq]
    rcases h2 with rfl | ⟨h4, h5⟩
    · rw [Nat.zero_mul]; exact Nat.zero_le _
    · have h6 := Nat.log2_self_le hn0
      have h7 : m * 2 ^ (i - base).toNat ≤ 2 ^ (c - i).toNat * 2 ^ (i - base).toNat := Nat.mul_le_mul_right _ h5
      have h8 : 2 ^ n.log2 * 2 ^ (j - base).toNat ≤ n * 2 ^ (j - base).toNat := Nat.mul_le_mul_right _ h6
      rw [← Nat.pow_add] at h7 h8
      exact Nat.le_trans h7 (Nat.le_trans (Nat.pow_le_pow_right (by omega) (by omega)) h8)
  have h6 : -((n <<< (j - base).toNat : Nat) : Int) ≤ Ieee.signed s m (i - base).toNat := by
    unfold Ieee.signed
    generalize m <<< (i - base).toNat = M at *
    generalize n <<< (j - base).toNat = N at *
    cases s
    · simp only [Bool.false_eq_true, if_false]; omega
    · simp only [if_true]; omega
  have e : compare (Ieee.signed s m (i - base).toNat) (Ieee.signed true n (j - base).toNat) = compareOfLessAndEq (Ieee.signed s m (i - base).toNat) (Ieee.signed true n (j - base).toNat) := rfl
  rw [e] at h
  unfold compareOfLessAndEq at h
  split at h
  · rename_i hlt
    have h9 : Ieee.signed true n (j - base).toNat = -((n <<< (j - base).toNat : Nat) : Int) := by unfold Ieee.signed; rw [if_pos rfl]
    rw [h9] at hlt
    omega
  · split at h <;> cases h
/-- A number is finite. -/
theorem finB_num {x : Nat} {c : Int} (h : Bp .f32 x c) : finB x = true := by
  obtain ⟨s, m, i, h1, _, _⟩ := h
  unfold finB
  have hs : fop .sub .f32 x x = (FloatKind.f32).format.write (.number (s && !s) 0 i) := by
    unfold fop floatBits Ieee.Format.sub
    rw [h1]
    have h0 : Ieee.signed s m (i - i).toNat + Ieee.signed (!s) m (i - i).toNat = 0 := by
      unfold Ieee.signed; generalize m <<< (i - i).toNat = M; cases s <;> simp <;> omega
    simp only [Ieee.Datum.opposite, Ieee.Datum.sum, Int.min_self, h0, if_true, Int.natAbs_zero]
    rfl
  rw [hs]
  have hz : (FloatKind.f32).format.write (.number (s && !s) 0 i) = 0 := by cases s <;> rfl
  rw [hz]
  decide +kernel
end Go.Proofs.Ytmcnfapdghoenaa
/- Contracts of the exponential function of the reference and of the program. Condition: a number from -64 to 0. -/
namespace Go.Proofs.Ytmcnfapdghoenaa
open Go Go.RowKit Go.ChangeShapes Go.WideShapes Go.ChangeAt

section
variable {P : Program} {ops : Array Oper} {Q : Exit → Act → World → Prop} {o : Oper} {rest : List Oper} {a : Act} {w : World}
theorem wpList_narrow {src dst : TypeId} {x : Operand} {p r : Nat} (hs : (P.underlying src).isSome = true) (hd : P.underlying dst = some (.float .f32)) (hw : Region.wanted o (yielded ops a.tmps) = true) (hop : o.op = .convert src dst x)
    (hx : a.eval x = .float .f64 p) (hr : floatToFloatBits .f64 p .f32 = some r) (hK : wpList P ops Q rest (a.put o.dst (.float .f32 r)) w) : wpList P ops Q (o :: rest) a w := by
  have hrun := run_convert_float_float (P := P) w src dst .f64 .f32 p r hs hd hr
  unfold wpList
  rw [if_pos hw]
  left
  unfold Oper.wp
  simp [execOp, hop, hx, hrun, Result.andThen]
  exact hK
end

theorem cn_fkD (k : Nat) : cn .f64 (fkD k) = fkD k := by
  unfold fkD floatOfInt FloatKind.nearest FloatKind.encode
  exact cn_of_not (isN_write .f64 rfl)
theorem cn_oneD : cn .f64 oneD = oneD := cn_of_not one_bp.notN
theorem fk_geq : ∀ k, 1 ≤ k → k ≤ 12 → fcmp .geq .f64 (fkD k) oneD = true := by
  intro k h1 h2
  have : k = 1 ∨ k = 2 ∨ k = 3 ∨ k = 4 ∨ k = 5 ∨ k = 6 ∨ k = 7 ∨ k = 8 ∨ k = 9 ∨ k = 10 ∨ k = 11 ∨ k = 12 := by omega
  rcases this with h | h | h | h | h | h | h | h | h | h | h | h <;> subst h <;> decide +kernel
theorem fk_geq0 : fcmp .geq .f64 (fkD 0) oneD = false := by decide +kernel
theorem fk_sub : ∀ k, 1 ≤ k → k ≤ 12 → fop .sub .f64 (fkD k) oneD = fkD (k - 1) := by
  intro k h1 h2
  have : k = 1 ∨ k = 2 ∨ k = 3 ∨ k = 4 ∨ k = 5 ∨ k = 6 ∨ k = 7 ∨ k = 8 ∨ k = 9 ∨ k = 10 ∨ k = 11 ∨ k = 12 := by omega
  rcases this with h | h | h | h | h | h | h | h | h | h | h | h <;> subst h <;> decide +kernel
/-- The bits are those of the number, if this is none of the NaNs. -/
theorem bits_of {k : FloatKind} {b r : Nat} (h : cn k b = r) (hr : isN k r = false) : b = r := by
  rw [← h, isN_cn] at hr
  rw [← h, cn_of_not hr]
theorem cnW {x y : Nat} (hx : Bn .f32 x 6) (hy : cn .f64 y = wide x) : Bn .f64 (cn .f64 y) 6 := by rw [hy]; exact wide_bn hx (inF64 (by decide) (by decide))


theorem expF_eq (x : Nat) : expF x = narrowF (expW x) := rfl
theorem expF_bits {x : Nat} (hx : Bn .f32 x 6) : floatToFloatBits .f64 (expW x) .f32 = some (expF x) := by
  rw [expF_eq]; exact (narrow_bp (expW_bp hx) (inF32 (by decide) (by decide))).2

/-- How many steps are left. -/
def expMes (v : Value) : Nat := match v with
  | .float _ c => ((List.range 13).findIdx? fun k => fkD k == cn .f64 c).getD 0
  | _ => 0
theorem expMes_fk {c k : Nat} (h : cn .f64 c = fkD k) (hk : k ≤ 12) : expMes (.float .f64 c) = k := by
  show ((List.range 13).findIdx? fun k => fkD k == cn .f64 c).getD 0 = k
  rw [h]
  have : k = 0 ∨ k = 1 ∨ k = 2 ∨ k = 3 ∨ k = 4 ∨ k = 5 ∨ k = 6 ∨ k = 7 ∨ k = 8 ∨ k = 9 ∨ k = 10 ∨ k = 11 ∨ k = 12 := by omega
  rcases this with h | h | h | h | h | h | h | h | h | h | h | h | h <;> subst h <;> decide +kernel
set_option maxRecDepth 100000 in
set_option maxHeartbeats 1000000 in
theorem expNumber_any (x : Nat) (w : World) (hx : Bn .f32 x 6) :
    Calls Try.prog 32 #[.float .f32 x] w fun e w' => e = .returned (.float .f32 (expF x)) ∧ Ext w w' := by
  have wa : (Try.prog.underlying 24).isSome = true := by kernel_rfl
  have wb : (Try.prog.underlying 32).isSome = true := by kernel_rfl
  have hcx : cn .f32 x = x := cn_of_not hx.notN
  have q2 : fcmp .gtr .f32 (cn .f32 x) (cn .f32 1128792064) = false := by rw [hcx]; exact gtr_no hx (n := 13107200) (j := -16) (by decide +kernel)
  have q3 : fcmp .lss .f32 (cn .f32 x) (cn .f32 3276275712) = false := by rw [hcx]; exact lss_no hx (n := 13107200) (j := -16) (b := 7) (by decide +kernel) ⟨by decide, by decide +kernel⟩ (by decide)
  have HX := Lib.hid hx
  have HC := Lib.hid hcx
  clear hx hcx
  go_enter Try.func32, Try.ntmps32
  go_wp2_with (first | (refine wpList_fcmp rfl rfl rfl rfl rfl (by first | with_reducible assumption | exact rfl) ?_) | (refine wpList_fop rfl rfl rfl rfl rfl ?_; intro fb nf hfb hfl; replace hfb := Lib.hid hfb; replace hfl := Lib.hid hfl) | (refine wpList_wide wa Try.underlying32 rfl rfl rfl ?_; intro zb zn hzb hzl; clear hzl; replace hzb := Lib.hid hzb))
  have ht : Hid (cn .f64 fb = expT x) := by show _ = _; rw [hfb.out, hzb.out, HC.out]; rfl
  clear q2 q3 hfb hfl
  go_loopw [4, 5] (fun p i wr => ∃ (j b c : Nat), j ≤ 12 ∧ i = .float .f64 c ∧ Hid (cn .f64 c = fkD (12 - j)) ∧ p = .float .f64 b ∧ Hid (cn .f64 b = expHorner (expT x) j) ∧ Ext w wr) (fun _ i _ => expMes i)
  case atStart => exact ⟨0, 4607182418800017408, 4622945017495814144, by omega, rfl, by show _ = _; decide +kernel, rfl, cn_oneD, Ext.drewN _ _⟩
  case round =>
    obtain ⟨j, b, c, hj, rfl, Hc, rfl, Hb, X⟩ := hrel
    by_cases hlt : j < 12
    · have q1 : fcmp .geq .f64 (cn .f64 c) (cn .f64 4607182418800017408) = true := by rw [Hc.out]; exact fk_geq _ (by omega) (by omega)
      go_wp2_with (first | (refine wpList_fcmp rfl rfl rfl rfl rfl (by first | with_reducible assumption | exact rfl) ?_) | (refine wpList_fop rfl rfl rfl rfl rfl ?_; intro fb nf hfb hfl; replace hfb := Lib.hid hfb; replace hfl := Lib.hid hfl))
      rename_i a1 n1 e1 l1 a2 n2 e2 l2 a3 n3 e3 l3
      have hk : Hid (cn .f64 a3 = expHorner (expT x) (j + 1)) := by
        show _ = _
        rw [e3.out, e2.out, e1.out, ht.out, Hb.out, Hc.out]
        show fop .add .f64 (cn .f64 oneD) _ = expStep _ _ (12 - j)
        rw [cn_oneD]
        rfl
      have hm : Hid (cn .f64 fb = fkD (12 - (j + 1))) := by
        show _ = _
        rw [hfb.out, Hc.out]
        show fop .sub .f64 _ (cn .f64 oneD) = _
        rw [cn_oneD, fk_sub _ (by omega) (by omega)]
        congr 1
      have M1 : Hid (expMes (.float .f64 c) = 12 - j) := expMes_fk Hc.out (by omega)
      have M2 : Hid (expMes (.float .f64 fb) = 12 - (j + 1)) := expMes_fk hm.out (by omega)
      go_roundw
      case rel => exact ⟨j + 1, a3, fb, by omega, rfl, hm, rfl, hk, X.trans (Ext.drewN _ _)⟩
      case measure =>
        show expMes (.float .f64 fb) < expMes (.float .f64 c)
        rw [M1.out, M2.out]; omega
    · have hj12 : j = 12 := by omega
      have Hb12 : Hid (cn .f64 b = expHorner (expT x) 12) := by subst hj12; exact Hb
      have q1 : fcmp .geq .f64 (cn .f64 c) (cn .f64 4607182418800017408) = false := by rw [Hc.out, hj12]; exact fk_geq0
      clear hlt hj Hb hj12
      go_wp2_with (first | (refine wpList_fcmp rfl rfl rfl rfl rfl (by first | with_reducible assumption | exact rfl) ?_) | (refine wpList_fop rfl rfl rfl rfl rfl ?_; intro fb nf hfb hfl; replace hfb := Lib.hid hfb; replace hfl := Lib.hid hfl))
      clear q1
      go_loopw [4, 27] (fun p i wq => ∃ (i' b' : Nat), i' ≤ 8 ∧ i = .int .i64 i' ∧ p = .float .f64 b' ∧ Hid (cn .f64 b' = expSq (expHorner (expT x) 12) i') ∧ Ext w wq) (fun _ i _ => 8 - (intOf i).toNat)
      case atStart => exact ⟨0, b, by omega, rfl, rfl, Hb12, X⟩
      case round =>
        obtain ⟨i', b', hi, rfl, rfl, Hb', X'⟩ := hrel
        by_cases hlt2 : i' < 8
        · go_wp2_with (first | (refine wpList_fcmp rfl rfl rfl rfl rfl (by first | with_reducible assumption | exact rfl) ?_) | (refine wpList_fop rfl rfl rfl rfl rfl ?_; intro fb nf hfb hfl; replace hfb := Lib.hid hfb; replace hfl := Lib.hid hfl))
          go_roundw
          case rel =>
            refine ⟨i' + 1, fb, by omega, by go_num, rfl, ?_, X'.trans (Ext.drewN _ _)⟩
            show _ = _
            rw [hfb.out, Hb'.out]; rfl
          case measure => simp [intOf]; omega
        · have hi8 : i' = 8 := by omega
          have hb8 : b' = expW x := bits_of (by rw [Hb'.out, hi8]; rfl) (expW_bp HX.out).notN
          have hnr : floatToFloatBits .f64 b' .f32 = some (expF x) := by rw [hb8]; exact expF_bits HX.out
          have HNR := Lib.hid hnr
          clear hnr hb8 hi8
          go_wp2_with (first | (refine wpList_fcmp rfl rfl rfl rfl rfl (by first | with_reducible assumption | exact rfl) ?_) | (refine wpList_fop rfl rfl rfl rfl rfl ?_; intro fb nf hfb hfl; replace hfb := Lib.hid hfb; replace hfl := Lib.hid hfl) | (refine wpList_narrow wb Try.underlying24 rfl rfl rfl HNR.out ?_))
          go_ret
          exact ⟨rfl, X'⟩
end Go.Proofs.Ytmcnfapdghoenaa
