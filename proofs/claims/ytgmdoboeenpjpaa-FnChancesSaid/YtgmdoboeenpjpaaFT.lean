
/- How great the results of operations on floats are: bounds by powers of two. No condition. -/
import Derived.Test.YtgmdoboeenpjpaaFl
namespace Go.Proofs.Ytgmdoboeenpjpaa
open Go Go.RowKit

/-- m * 2^p is at most 2^c. -/
def LeP (m : Nat) (p c : Int) : Prop := m = 0 ∨ (p ≤ c ∧ m ≤ 2 ^ (c - p).toNat)
def rungOf (f : Ieee.Format) (c : Int) : Nat := (c - f.leastPlace - f.fractionBits + 1).toNat * f.binade

theorem pow_split {a b : Nat} (h : a ≤ b) : (2 : Nat) ^ b = 2 ^ a * 2 ^ (b - a) := by rw [← Nat.pow_add]; congr 1; omega

theorem cut_le (s : Bool) (n d : Nat) : Ieee.Toward.even.cut s n d ≤ n / 2 ^ (min d (n.log2 + 2)) + 1 := by
  unfold Ieee.Toward.cut
  simp only [Nat.one_shiftLeft]
  have hb : ∀ b : Bool, b.toNat ≤ 1 := fun b => by cases b <;> simp
  have := hb (decide (2 ^ min d (n.log2 + 2) < 2 * (n % 2 ^ min d (n.log2 + 2))) || 2 ^ min d (n.log2 + 2) == 2 * (n % 2 ^ min d (n.log2 + 2)) && n / 2 ^ min d (n.log2 + 2) % 2 == 1)
  omega

theorem cut_exact (s : Bool) (n d : Nat) (h : n % 2 ^ (min d (n.log2 + 2)) = 0) : Ieee.Toward.even.cut s n d = n / 2 ^ (min d (n.log2 + 2)) := by
  unfold Ieee.Toward.cut
  simp only [Nat.one_shiftLeft, h]
  have hp : 0 < 2 ^ min d (n.log2 + 2) := Nat.pow_pos (by omega)
  have h1 : ¬ (2 ^ min d (n.log2 + 2) < 2 * 0) := by omega
  have h2 : (2 ^ min d (n.log2 + 2) == 2 * 0) = false := by rw [beq_eq_false_iff_ne]; omega
  simp only [h1, h2, decide_false, Bool.false_and, Bool.or_self, Bool.toNat_false, Nat.add_zero]

/-- What is kept: at most 2^(a+1), if the number has no more than a+1 digits before the last place. -/
theorem kept_le (s : Bool) (m : Nat) (p last : Int) (a : Nat) (hm : m ≠ 0) (h : p + m.log2 + 1 ≤ last + a) : Ieee.Toward.even.cut s (m <<< (p - last).toNat) (last - p).toNat ≤ 2 ^ a := by
  have hlt : m < 2 ^ (m.log2 + 1) := Nat.lt_log2_self
  rw [Nat.shiftLeft_eq]
  by_cases hle : last ≤ p
  · have e : (last - p).toNat = 0 := by omega
    rw [e]
    have h1 := cut_exact s (m * 2 ^ (p - last).toNat) 0 (by simp [Nat.mod_one])
    rw [h1]
    simp only [Nat.zero_min, Nat.pow_zero, Nat.div_one]
    have : m * 2 ^ (p - last).toNat < 2 ^ (m.log2 + 1) * 2 ^ (p - last).toNat := Nat.mul_lt_mul_of_pos_right hlt (Nat.pow_pos (by omega))
    rw [← Nat.pow_add] at this
    exact Nat.le_of_lt (Nat.lt_of_lt_of_le this (Nat.pow_le_pow_right (by omega) (by omega)))
  · have e : (p - last).toNat = 0 := by omega
    rw [e, Nat.pow_zero, Nat.mul_one]
    refine Nat.le_trans (cut_le _ _ _) ?_
    by_cases hd : (last - p).toNat ≤ m.log2 + 2
    · rw [Nat.min_eq_left hd]
      have : m / 2 ^ (last - p).toNat < 2 ^ a := by
        rw [Nat.div_lt_iff_lt_mul (Nat.pow_pos (by omega)), ← Nat.pow_add]
        exact Nat.lt_of_lt_of_le hlt (Nat.pow_le_pow_right (by omega) (by omega))
      omega
    · rw [Nat.min_eq_right (by omega)]
      have : m / 2 ^ (m.log2 + 2) = 0 := Nat.div_eq_of_lt (Nat.lt_trans hlt (Nat.pow_lt_pow_right (by omega) (by omega)))
      rw [this]
      exact Nat.pow_pos (by omega)

theorem nearest_rung (f : Ieee.Format) (s : Bool) (m : Nat) (p c : Int) (h : LeP m p c) (h0 : f.leastPlace + f.fractionBits ≤ c) (h1 : rungOf f c ≤ f.infRung) :
    ∃ r, r ≤ rungOf f c ∧ f.nearest s m p = f.word s r := by
  unfold Ieee.Format.nearest
  split
  · exact ⟨0, Nat.zero_le _, rfl⟩
  · rename_i hm
    obtain hm' | ⟨hp, hmc⟩ := h
    · exact absurd hm' hm
    · refine ⟨_, ?_, rfl⟩
      refine Nat.le_trans (Nat.min_le_left _ _) ?_
      generalize hl : max (p + (m.log2 : Int) - (f.fractionBits : Int)) f.leastPlace = last
      have hb : f.binade = 2 ^ f.fractionBits := rfl
      have hlog : m.log2 ≤ (c - p).toNat := by
        have := Nat.log2_self_le hm
        have h2 : 2 ^ m.log2 ≤ 2 ^ (c - p).toNat := Nat.le_trans this hmc
        exact (Nat.pow_le_pow_iff_right (by omega)).1 h2
      unfold rungOf
      by_cases heq : m = 2 ^ (c - p).toNat
      · have hlg : m.log2 = (c - p).toNat := by rw [heq, Nat.log2_two_pow]
        have hla : last = c - f.fractionBits := by omega
        have hk : Ieee.Toward.even.cut s (m <<< (p - last).toNat) (last - p).toNat = f.binade := by
          rw [Nat.shiftLeft_eq, hb]
          by_cases hle : last ≤ p
          · have e : (last - p).toNat = 0 := by omega
            rw [e, cut_exact s _ 0 (by simp [Nat.mod_one]), Nat.zero_min, Nat.pow_zero, Nat.div_one, heq, ← Nat.pow_add]
            congr 1; omega
          · have e : (p - last).toNat = 0 := by omega
            rw [e, Nat.pow_zero, Nat.mul_one]
            have hmin : min (last - p).toNat (m.log2 + 2) = (last - p).toNat := Nat.min_eq_left (by omega)
            have hs : m = 2 ^ (last - p).toNat * 2 ^ f.fractionBits := by rw [heq, ← Nat.pow_add]; congr 1; omega
            rw [cut_exact s _ _ (by rw [hmin, hs]; exact Nat.mul_mod_right _ _), hmin]
            conv => lhs; rw [hs]
            rw [Nat.mul_div_cancel_left _ (Nat.pow_pos (by omega))]
        rw [hk, ← Nat.succ_mul]
        exact Nat.mul_le_mul_right _ (by omega)
      · have hlt : m.log2 + 1 ≤ (c - p).toNat := by
          by_cases h' : m.log2 = (c - p).toNat
          · have := Nat.log2_self_le hm
            rw [h'] at this
            omega
          · omega
        by_cases hc : f.leastPlace ≤ p + (m.log2 : Int) - (f.fractionBits : Int)
        · have hla : last = p + (m.log2 : Int) - (f.fractionBits : Int) := by omega
          have hk := kept_le s m p last (f.fractionBits + 1) hm (by omega)
          rw [Nat.pow_succ, ← hb] at hk
          have : (last - f.leastPlace).toNat * f.binade + f.binade * 2 ≤ (c - f.leastPlace - f.fractionBits + 1).toNat * f.binade := by
            rw [Nat.mul_comm f.binade 2, ← Nat.add_mul]
            exact Nat.mul_le_mul_right _ (by omega)
          omega
        · have hla : last = f.leastPlace := by omega
          have hk := kept_le s m p last f.fractionBits hm (by omega)
          rw [← hb] at hk
          have h3 : (last - f.leastPlace).toNat = 0 := by omega
          rw [h3, Nat.zero_mul, Nat.zero_add]
          refine Nat.le_trans hk ?_
          have : 1 * f.binade ≤ (c - f.leastPlace - f.fractionBits + 1).toNat * f.binade := Nat.mul_le_mul_right _ (by omega)
          omega

theorem word_read (f : Ieee.Format) (s : Bool) (r : Nat) (h : r < f.infRung) : (f.word s r) % f.signWeight = r ∧ ((f.word s r) / f.signWeight % 2 == 1) = s := by
  have hlt : r < f.signWeight := Nat.lt_trans h f.infRung_lt
  have hpos : 0 < f.signWeight := Nat.pow_pos (by omega)
  unfold Ieee.Format.word
  cases s
  · simp [Nat.mod_eq_of_lt hlt, Nat.div_eq_of_lt hlt]
  · simp only [if_true]
    rw [Nat.add_mod_left, Nat.mod_eq_of_lt hlt, Nat.add_div_left _ hpos, Nat.div_eq_of_lt hlt]
    simp

theorem read_rung (f : Ieee.Format) (s : Bool) (r : Nat) (c : Int) (h : r ≤ rungOf f c) (h0 : f.leastPlace + f.fractionBits ≤ c) (h1 : rungOf f c < f.infRung) :
    ∃ m e, f.read (f.word s r) = .number s m e ∧ LeP m e c := by
  have hr : r < f.infRung := Nat.lt_of_le_of_lt h h1
  obtain ⟨w1, w2⟩ := word_read f s r hr
  have hb : f.binade = 2 ^ f.fractionBits := rfl
  have hbp : 0 < f.binade := Nat.pow_pos (by omega)
  unfold Ieee.Format.read
  simp only [w1, w2]
  by_cases h2 : r < f.binade
  · rw [if_pos h2]
    refine ⟨_, _, rfl, ?_⟩
    right
    refine ⟨by omega, ?_⟩
    rw [hb] at h2
    exact Nat.le_trans (Nat.le_of_lt h2) (Nat.pow_le_pow_right (by omega) (by omega))
  · rw [if_neg h2, if_pos hr]
    refine ⟨_, _, rfl, ?_⟩
    right
    unfold rungOf at h
    have hq : r / f.binade ≤ (c - f.leastPlace - f.fractionBits + 1).toNat := by
      have h' : r ≤ f.binade * (c - f.leastPlace - f.fractionBits + 1).toNat := by rw [Nat.mul_comm]; exact h
      exact Nat.div_le_of_le_mul h'
    have hq1 : 1 ≤ r / f.binade := (Nat.one_le_div_iff hbp).2 (by omega)
    have hmod : r % f.binade < f.binade := Nat.mod_lt _ hbp
    have hdm := Nat.div_add_mod r f.binade
    by_cases heq : r / f.binade = (c - f.leastPlace - f.fractionBits + 1).toNat
    · have h0' : r % f.binade = 0 := by
        rw [heq, Nat.mul_comm] at hdm; omega
      refine ⟨by omega, ?_⟩
      rw [h0', Nat.add_zero]
      exact Nat.le_trans (Nat.le_of_eq hb) (Nat.pow_le_pow_right (by omega) (by omega))
    · refine ⟨by omega, ?_⟩
      have : f.binade + r % f.binade ≤ 2 ^ (f.fractionBits + 1) := by rw [Nat.pow_succ, ← hb]; omega
      exact Nat.le_trans this (Nat.pow_le_pow_right (by omega) (by omega))

/-- **What is written of a number that is at most 2^c is at most 2^c.** -/
theorem nearest_le (f : Ieee.Format) (s : Bool) (m : Nat) (p c : Int) (h : LeP m p c) (h0 : f.leastPlace + f.fractionBits ≤ c) (h1 : rungOf f c < f.infRung) :
    ∃ m' e, f.read (f.nearest s m p) = .number s m' e ∧ LeP m' e c := by
  obtain ⟨r, hr, e⟩ := nearest_rung f s m p c h h0 (Nat.le_of_lt h1)
  rw [e]
  exact read_rung f s r c hr h0 h1

/-! ### Operations -/
/-- The bits stand for a number of this sign, of at most 2^c. -/
def Bd (k : FloatKind) (b : Nat) (s : Bool) (c : Int) : Prop := ∃ m e, k.format.read b = .number s m e ∧ LeP m e c
theorem Bd.notN {k : FloatKind} {b : Nat} {s : Bool} {c : Int} (h : Bd k b s c) : isN k b = false := by
  obtain ⟨m, e, h, _⟩ := h; unfold isN; rw [h]; rfl
theorem Bd.cn {k : FloatKind} {b : Nat} {s : Bool} {c : Int} (h : Bd k b s c) : cn k b = b := cn_of_not h.notN
theorem LeP.mono {m : Nat} {p c d : Int} (h : LeP m p c) (hd : c ≤ d) : LeP m p d := by
  rcases h with h | ⟨h1, h2⟩
  · exact .inl h
  · exact .inr ⟨by omega, Nat.le_trans h2 (Nat.pow_le_pow_right (by omega) (by omega))⟩
theorem Bd.mono {k : FloatKind} {b : Nat} {s : Bool} {c d : Int} (h : Bd k b s c) (hd : c ≤ d) : Bd k b s d := by
  obtain ⟨m, e, h1, h2⟩ := h; exact ⟨m, e, h1, h2.mono hd⟩
/-- Within the format. -/
def InF (k : FloatKind) (c : Int) : Prop := k.format.leastPlace + k.format.fractionBits ≤ c ∧ rungOf k.format c < k.format.infRung
theorem inF64 {c : Int} (h0 : -1022 ≤ c) (h1 : c ≤ 1023) : InF .f64 c := by
  have e1 : (FloatKind.f64).format.leastPlace = -1074 := by decide +kernel
  have e2 : ((FloatKind.f64).format.fractionBits : Int) = 52 := rfl
  have e3 : (FloatKind.f64).format.infRung = 2047 * 2 ^ 52 := by decide +kernel
  have e4 : (FloatKind.f64).format.binade = 2 ^ 52 := rfl
  unfold InF rungOf
  rw [e1, e2, e3, e4]
  exact ⟨by omega, (Nat.mul_lt_mul_right (Nat.pow_pos (by omega))).2 (by omega)⟩
theorem inF32 {c : Int} (h0 : -126 ≤ c) (h1 : c ≤ 127) : InF .f32 c := by
  have e1 : (FloatKind.f32).format.leastPlace = -149 := by decide +kernel
  have e2 : ((FloatKind.f32).format.fractionBits : Int) = 23 := rfl
  have e3 : (FloatKind.f32).format.infRung = 255 * 2 ^ 23 := by decide +kernel
  have e4 : (FloatKind.f32).format.binade = 2 ^ 23 := rfl
  unfold InF rungOf
  rw [e1, e2, e3, e4]
  exact ⟨by omega, (Nat.mul_lt_mul_right (Nat.pow_pos (by omega))).2 (by omega)⟩
theorem bd_write {k : FloatKind} {s : Bool} {m : Nat} {e c : Int} (h : LeP m e c) (hc : InF k c) : Bd k (k.format.write (.number s m e)) s c :=
  nearest_le k.format s m e c h hc.1 hc.2

theorem LeP.mul {m n : Nat} {i j a b : Int} (h1 : LeP m i a) (h2 : LeP n j b) : LeP (m * n) (i + j) (a + b) := by
  rcases h1 with rfl | ⟨h1, h1'⟩
  · exact .inl (Nat.zero_mul _)
  · rcases h2 with rfl | ⟨h2, h2'⟩
    · exact .inl (Nat.mul_zero _)
    · refine .inr ⟨by omega, ?_⟩
      have : (a + b - (i + j)).toNat = (a - i).toNat + (b - j).toNat := by omega
      rw [this, Nat.pow_add]
      exact Nat.mul_le_mul h1' h2'
theorem bd_mul {k : FloatKind} {x y : Nat} {s t : Bool} {a b : Int} (hx : Bd k x s a) (hy : Bd k y t b) (hc : InF k (a + b)) : Bd k (fop .mul k x y) (s ^^ t) (a + b) := by
  obtain ⟨m, i, h1, h2⟩ := hx
  obtain ⟨n, j, h3, h4⟩ := hy
  have : fop .mul k x y = k.format.write (.number (s ^^ t) (m * n) (i + j)) := by
    unfold fop floatBits Ieee.Format.mul
    rw [h1, h3]; rfl
  rw [this]
  exact bd_write (h2.mul h4) hc

/-- At least 2^b. -/
def GeP (n : Nat) (j b : Int) : Prop := n ≠ 0 ∧ b ≤ n.log2 + j
theorem LeP.log {m : Nat} {i a : Int} (h : LeP m i a) (hm : m ≠ 0) : i + m.log2 ≤ a := by
  rcases h with rfl | ⟨h, h'⟩
  · exact absurd rfl hm
  · have h1 := Nat.log2_self_le hm
    have h2 := (Nat.pow_le_pow_iff_right (a := 2) (by omega)).1 (Nat.le_trans h1 h')
    omega
theorem bd_div {k : FloatKind} {x y : Nat} {s t : Bool} {a b : Int} {n : Nat} {j : Int} (hx : Bd k x s a) (hy : k.format.read y = .number t n j) (hn : GeP n j b) (hc : InF k (a - b + 1)) : Bd k (fop .quo k x y) (s ^^ t) (a - b + 1) := by
  obtain ⟨m, i, h1, h2⟩ := hx
  obtain ⟨hn0, hnb⟩ := hn
  generalize hmore : k.format.fractionBits + 2 + n.log2 - m.log2 = more
  have : fop .quo k x y = k.format.write (.number (s ^^ t) (2 * ((m <<< more) / n) + ((m <<< more) % n != 0).toNat) (i - j - more - 1)) := by
    unfold fop floatBits Ieee.Format.div
    rw [h1, hy]
    simp only [Ieee.Datum.quotient, if_neg hn0, hmore]
    rfl
  rw [this]
  refine bd_write ?_ hc
  by_cases hm : m = 0
  · left
    subst hm
    simp
  · right
    have hlog := h2.log hm
    have hml : m < 2 ^ (m.log2 + 1) := Nat.lt_log2_self
    have hnl := Nat.log2_self_le hn0
    have hq : (m <<< more) / n < 2 ^ (m.log2 + 1 + more - n.log2) := by
      rw [Nat.shiftLeft_eq, Nat.div_lt_iff_lt_mul (by omega)]
      have e1 : m * 2 ^ more < 2 ^ (m.log2 + 1) * 2 ^ more := Nat.mul_lt_mul_of_pos_right hml (Nat.pow_pos (by omega))
      rw [← Nat.pow_add] at e1
      have e2 : 2 ^ (m.log2 + 1 + more) = 2 ^ (m.log2 + 1 + more - n.log2) * 2 ^ n.log2 := by rw [← Nat.pow_add]; congr 1; omega
      rw [e2] at e1
      exact Nat.lt_of_lt_of_le e1 (Nat.mul_le_mul_left _ hnl)
    have hb : ∀ b : Bool, b.toNat ≤ 1 := fun b => by cases b <;> simp
    have hb' := hb ((m <<< more) % n != 0)
    refine ⟨by omega, ?_⟩
    have e3 : 2 * ((m <<< more) / n) + ((m <<< more) % n != 0).toNat ≤ 2 * 2 ^ (m.log2 + 1 + more - n.log2) := by omega
    refine Nat.le_trans e3 ?_
    rw [Nat.mul_comm, ← Nat.pow_succ]
    exact Nat.pow_le_pow_right (by omega) (by omega)
end Go.Proofs.Ytgmdoboeenpjpaa
