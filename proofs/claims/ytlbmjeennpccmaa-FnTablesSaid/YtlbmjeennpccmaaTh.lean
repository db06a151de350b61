
/- How great and how small the results of operations on floats are, of either sign. Plain. -/
import Derived.Test.YtlbmjeennpccmaaTb
namespace Go.Proofs.Ytlbmjeennpccmaa
open Go Go.RowKit

/-! ### Not below a power of two -/
theorem cut_ge (s : Bool) (n d : Nat) : n / 2 ^ (min d (n.log2 + 2)) ≤ Ieee.Toward.even.cut s n d := by
  unfold Ieee.Toward.cut
  simp only [Nat.one_shiftLeft]
  omega
theorem GeP.mono {n : Nat} {j b c : Int} (h : GeP n j b) (hc : c ≤ b) : GeP n j c := ⟨h.1, by have := h.2; omega⟩
theorem kept_ge (s : Bool) (m : Nat) (p last : Int) (a : Nat) (hm : m ≠ 0) (h : p + m.log2 = last + a) : 2 ^ a ≤ Ieee.Toward.even.cut s (m <<< (p - last).toNat) (last - p).toNat := by
  have hlo := Nat.log2_self_le hm
  rw [Nat.shiftLeft_eq]
  refine Nat.le_trans ?_ (cut_ge _ _ _)
  by_cases hle : last ≤ p
  · have e : (last - p).toNat = 0 := by omega
    rw [e, Nat.zero_min, Nat.pow_zero, Nat.div_one]
    have h1 : 2 ^ m.log2 * 2 ^ (p - last).toNat ≤ m * 2 ^ (p - last).toNat := Nat.mul_le_mul_right _ hlo
    rw [← Nat.pow_add] at h1
    exact Nat.le_trans (Nat.pow_le_pow_right (by omega) (by omega)) h1
  · have e : (p - last).toNat = 0 := by omega
    rw [e, Nat.pow_zero, Nat.mul_one]
    have hmin : min (last - p).toNat (m.log2 + 2) = (last - p).toNat := Nat.min_eq_left (by omega)
    rw [hmin, Nat.le_div_iff_mul_le (Nat.pow_pos (by omega)), ← Nat.pow_add]
    exact Nat.le_trans (Nat.pow_le_pow_right (by omega) (by omega)) hlo
theorem read_geP (f : Ieee.Format) (s : Bool) (r : Nat) (b : Int) (h : rungOf f b ≤ r) (h0 : f.leastPlace + f.fractionBits ≤ b) (h1 : r < f.infRung) :
    ∃ m e, f.read (f.word s r) = .number s m e ∧ GeP m e b := by
  obtain ⟨w1, w2⟩ := word_read f s r h1
  have hb : f.binade = 2 ^ f.fractionBits := rfl
  have hbp : 0 < f.binade := Nat.pow_pos (by omega)
  unfold rungOf at h
  have hq : (b - f.leastPlace - f.fractionBits + 1).toNat ≤ r / f.binade := (Nat.le_div_iff_mul_le hbp).2 h
  have h2 : ¬ r < f.binade := by
    intro hlt
    rw [Nat.div_eq_of_lt hlt] at hq
    omega
  unfold Ieee.Format.read
  simp only [w1, w2]
  rw [if_neg h2, if_pos h1]
  refine ⟨_, _, rfl, by omega, ?_⟩
  have hl : f.fractionBits ≤ (f.binade + r % f.binade).log2 := (Nat.le_log2 (by omega)).2 (by rw [hb]; omega)
  omega
theorem nearest_ge {k : FloatKind} {s : Bool} {m : Nat} {p b c : Int} (hl : LeP m p c) (hg : GeP m p b) (hb : k.format.leastPlace + k.format.fractionBits ≤ b) (hc : InF k c) :
    ∃ m' e', k.format.read (k.format.write (.number s m p)) = .number s m' e' ∧ LeP m' e' c ∧ GeP m' e' b := by
  obtain ⟨hm, hgl⟩ := hg
  obtain ⟨r, hr, e⟩ := nearest_rung k.format s m p c hl hc.1 (Nat.le_of_lt hc.2)
  have hinf : r < k.format.infRung := Nat.lt_of_le_of_lt hr hc.2
  have hrb : rungOf k.format b ≤ r := by
    have e' := e
    unfold Ieee.Format.nearest at e'
    rw [if_neg hm] at e'
    generalize hla : max (p + (m.log2 : Int) - (k.format.fractionBits : Int)) k.format.leastPlace = last at e'
    have hl2 : last = p + (m.log2 : Int) - (k.format.fractionBits : Int) := by omega
    have hk := kept_ge s m p last k.format.fractionBits hm (by omega)
    have hword : ∀ a b : Nat, k.format.word s a = k.format.word s b → a = b := by
      intro a b h
      unfold Ieee.Format.word at h
      split at h <;> omega
    have e2 := hword _ _ e'
    have hbin : k.format.binade = 2 ^ k.format.fractionBits := rfl
    have h1 : rungOf k.format b ≤ (last - k.format.leastPlace).toNat * k.format.binade + Ieee.Toward.even.cut s (m <<< (p - last).toNat) (last - p).toNat := by
      unfold rungOf
      have : (b - k.format.leastPlace - k.format.fractionBits + 1).toNat * k.format.binade ≤ ((last - k.format.leastPlace).toNat + 1) * k.format.binade := Nat.mul_le_mul_right _ (by omega)
      rw [Nat.succ_mul] at this
      rw [← hbin] at hk
      omega
    omega
  obtain ⟨m1, e1, h1, h2⟩ := read_rung k.format s r c hr hc.1 hc.2
  obtain ⟨m2, e2, h3, h4⟩ := read_geP k.format s r b hrb hb hinf
  have h5 : k.format.write (.number s m p) = k.format.word s r := e
  rw [h1] at h3
  injection h3 with _ h6 h7
  subst h6 h7
  exact ⟨m1, e1, by rw [h5]; exact h1, h2, h4⟩

/-! ### Of either sign -/
/-- A number of at most 2^c, of whatever sign. -/
def Ba (k : FloatKind) (b : Nat) (c : Int) : Prop := ∃ s, Bd k b s c
theorem Ba.notN {k : FloatKind} {b : Nat} {c : Int} (h : Ba k b c) : isN k b = false := by obtain ⟨s, h⟩ := h; exact h.notN
theorem Ba.mono {k : FloatKind} {b : Nat} {c d : Int} (h : Ba k b c) (hd : c ≤ d) : Ba k b d := by obtain ⟨s, h⟩ := h; exact ⟨s, h.mono hd⟩
theorem Bp.ba {k : FloatKind} {b : Nat} {c : Int} (h : Bp k b c) : Ba k b c := by obtain ⟨s, m, e, h1, h2, _⟩ := h; exact ⟨s, m, e, h1, h2⟩
theorem ba_mul {k : FloatKind} {x y : Nat} {a b : Int} (hx : Ba k x a) (hy : Ba k y b) (hc : InF k (a + b)) : Ba k (fop .mul k x y) (a + b) := by
  obtain ⟨s, hx⟩ := hx; obtain ⟨t, hy⟩ := hy; exact ⟨_, bd_mul hx hy hc⟩
theorem ba_div {k : FloatKind} {x y n : Nat} {t : Bool} {a b j : Int} (hx : Ba k x a) (hy : k.format.read y = .number t n j) (hn : GeP n j b) (hc : InF k (a - b + 1)) : Ba k (fop .quo k x y) (a - b + 1) := by
  obtain ⟨s, hx⟩ := hx; exact ⟨_, bd_div hx hy hn hc⟩
theorem sum_abs {s t : Bool} {m n i j : Nat} : (Ieee.signed s m i + Ieee.signed t n j).natAbs ≤ m * 2 ^ i + n * 2 ^ j := by
  unfold Ieee.signed
  rw [Nat.shiftLeft_eq, Nat.shiftLeft_eq]
  cases s <;> cases t <;> simp only [if_true, if_false, Bool.false_eq_true] <;> omega
theorem LeP.le {m n : Nat} {p c : Int} (h : LeP n p c) (hmn : m ≤ n) : LeP m p c := by
  rcases h with rfl | ⟨h1, h2⟩
  · exact .inl (by omega)
  · exact .inr ⟨h1, by omega⟩
theorem ba_sum {k : FloatKind} {s t : Bool} {m n : Nat} {i j c : Int} (h2 : LeP m i c) (h4 : LeP n j c) (hc : InF k (c + 1)) :
    ∃ d, (Ieee.Datum.number s m i).sum (.number t n j) = some d ∧ Ba k (k.format.write d) (c + 1) := by
  generalize hb : min i j = base
  have hi := h2.scale (b := base) (by omega)
  have hj := h4.scale (b := base) (by omega)
  refine ⟨_, rfl, ?_⟩
  simp only [hb]
  exact ⟨_, bd_write (LeP.le (hi.add hj) sum_abs) hc⟩
theorem ba_add {k : FloatKind} {x y : Nat} {c : Int} (hx : Ba k x c) (hy : Ba k y c) (hc : InF k (c + 1)) : Ba k (fop .add k x y) (c + 1) := by
  obtain ⟨s, m, i, h1, h2⟩ := hx
  obtain ⟨t, n, j, h3, h4⟩ := hy
  obtain ⟨d, h5, h6⟩ := ba_sum (k := k) (s := s) (t := t) h2 h4 hc
  have : fop .add k x y = k.format.write d := by
    unfold fop floatBits Ieee.Format.add
    rw [h1, h3]
    simp only [h5]
    rfl
  rw [this]; exact h6
theorem ba_sub {k : FloatKind} {x y : Nat} {c : Int} (hx : Ba k x c) (hy : Ba k y c) (hc : InF k (c + 1)) : Ba k (fop .sub k x y) (c + 1) := by
  obtain ⟨s, m, i, h1, h2⟩ := hx
  obtain ⟨t, n, j, h3, h4⟩ := hy
  obtain ⟨d, h5, h6⟩ := ba_sum (k := k) (s := s) (t := !t) h2 h4 hc
  have : fop .sub k x y = k.format.write d := by
    unfold fop floatBits Ieee.Format.sub
    rw [h1, h3]
    simp only [Ieee.Datum.opposite, h5]
    rfl
  rw [this]; exact h6
theorem ba_narrow {b : Nat} {c : Int} (h : Ba .f64 b c) (hc : InF .f32 c) : Ba .f32 (narrowF b) c ∧ floatToFloatBits .f64 b .f32 = some (narrowF b) := by
  obtain ⟨s, m, e, h1, h2⟩ := h
  have h1' : Ieee.double.read b = .number s m e := h1
  have hw : narrowF b = (FloatKind.f32).format.write (.number s m e) := by unfold narrowF; rw [h1']; rfl
  have hp := bd_write (k := .f32) (s := s) h2 hc
  refine ⟨by rw [hw]; exact ⟨s, hp⟩, ?_⟩
  obtain ⟨m', e', h4, _⟩ := hp
  have hd : (FloatKind.f64).decode b = .number s m e := h1
  have hi : ((FloatKind.f32).decode ((FloatKind.f32).encode (.number s m e))).isInfinity = false := by
    show ((FloatKind.f32).format.read ((FloatKind.f32).format.write (.number s m e))).isInfinity = false
    rw [h4]; rfl
  unfold floatToFloatBits
  rw [if_neg (by decide), hd]
  simp only [hi, hw]
  rfl

/-! ### Numbers above zero, between two powers of two -/
/-- A number from 2^b to 2^c. -/
def Bg (k : FloatKind) (x : Nat) (b c : Int) : Prop := ∃ m e, k.format.read x = .number false m e ∧ LeP m e c ∧ GeP m e b
theorem Bg.ba {k : FloatKind} {x : Nat} {b c : Int} (h : Bg k x b c) : Ba k x c := by obtain ⟨m, e, h1, h2, _⟩ := h; exact ⟨false, m, e, h1, h2⟩
theorem Bg.mono {k : FloatKind} {x : Nat} {b c b' c' : Int} (h : Bg k x b c) (hb : b' ≤ b) (hc : c ≤ c') : Bg k x b' c' := by
  obtain ⟨m, e, h1, h2, h3⟩ := h; exact ⟨m, e, h1, h2.mono hc, h3.mono hb⟩
theorem Bg.notN {k : FloatKind} {x : Nat} {b c : Int} (h : Bg k x b c) : isN k x = false := h.ba.notN
theorem Bg.le {k : FloatKind} {x : Nat} {b c : Int} (h : Bg k x b c) : b ≤ c := by
  obtain ⟨m, e, _, h2, h3⟩ := h
  have h4 := h2.log h3.1
  have := h3.2
  omega
def twoD : Nat := 4611686018427387904
theorem two_readD : (FloatKind.f64).format.read twoD = .number false (2 ^ 52) (-51) := by decide +kernel
theorem bg_half {x : Nat} {b c : Int} (h : Bg .f64 x b c) (h1 : -1022 ≤ b - 1) (h2 : c - 1 ≤ 1023) : Bg .f64 (fop .quo .f64 x twoD) (b - 1) (c - 1) := by
  have hbc := h.le
  obtain ⟨m, i, hr, hl, hg⟩ := h
  have hlog : (2 ^ 52 : Nat).log2 = 52 := Nat.log2_two_pow
  generalize hmore : 54 + 52 - m.log2 = more
  have hE : ∃ M E, fop .quo .f64 x twoD = (FloatKind.f64).format.write (.number false M E) ∧ LeP M E (c - 1) ∧ GeP M E (b - 1) := by
    have hbig : m.log2 ≤ 54 := by
      have hx : m < 2 ^ 53 := by
        have hr' := hr
        unfold Ieee.Format.read at hr'
        simp only at hr'
        have hb : (FloatKind.f64).format.binade = 2 ^ 52 := rfl
        split at hr'
        · injection hr' with _ e1 _; omega
        · split at hr'
          · injection hr' with _ e1 _
            have := Nat.mod_lt (x % (FloatKind.f64).format.signWeight) (show 0 < (FloatKind.f64).format.binade by rw [hb]; exact Nat.pow_pos (by omega))
            rw [hb] at this e1
            omega
          · split at hr' <;> cases hr'
      have := (Nat.log2_lt hg.1).2 hx
      omega
    have hdiv : (m <<< more) / 2 ^ 52 = m * 2 ^ (more - 52) := by
      rw [Nat.shiftLeft_eq, show 2 ^ more = 2 ^ (more - 52) * 2 ^ 52 by rw [← Nat.pow_add]; congr 1; omega, ← Nat.mul_assoc, Nat.mul_div_cancel _ (Nat.pow_pos (by omega))]
    have hmod : (m <<< more) % 2 ^ 52 = 0 := by
      rw [Nat.shiftLeft_eq, show 2 ^ more = 2 ^ (more - 52) * 2 ^ 52 by rw [← Nat.pow_add]; congr 1; omega, ← Nat.mul_assoc, Nat.mul_mod_left]
    refine ⟨2 * (m * 2 ^ (more - 52)), i - (-51) - more - 1, ?_, ?_, ?_⟩
    · unfold fop floatBits Ieee.Format.div
      rw [hr, two_readD]
      have hfb : (FloatKind.f64).format.fractionBits + 2 = 54 := rfl
      simp only [Ieee.Datum.quotient, hlog, hfb, hmore, hdiv, hmod]
      rfl
    · rcases hl with rfl | ⟨h3, h4⟩
      · exact .inl (by simp)
      · right
        refine ⟨by omega, ?_⟩
        have e : (c - 1 - (i - (-51) - (more : Int) - 1)).toNat = (c - i).toNat + (more - 52) + 1 := by omega
        rw [e, Nat.pow_succ, Nat.pow_add, Nat.mul_comm 2]
        exact Nat.mul_le_mul_right _ (Nat.mul_le_mul_right _ h4)
    · refine ⟨Nat.mul_ne_zero (by decide) (Nat.mul_ne_zero hg.1 (Nat.pos_iff_ne_zero.1 (Nat.pow_pos (by omega)))), ?_⟩
      have h5 : m.log2 + (more - 52) + 1 ≤ (2 * (m * 2 ^ (more - 52))).log2 := by
        refine (Nat.le_log2 ?_).2 ?_
        · exact Nat.mul_ne_zero (by decide) (Nat.mul_ne_zero hg.1 (Nat.pos_iff_ne_zero.1 (Nat.pow_pos (by omega))))
        · rw [Nat.pow_succ, Nat.pow_add, Nat.mul_comm 2]
          exact Nat.mul_le_mul_right _ (Nat.mul_le_mul_right _ (Nat.log2_self_le hg.1))
      have := hg.2
      omega
  obtain ⟨M, E, e, h3, h4⟩ := hE
  rw [e]
  obtain ⟨m', e', h5, h6, h7⟩ := nearest_ge (k := .f64) (s := false) h3 h4 (by show (-1074 : Int) + 52 ≤ b - 1; omega) (inF64 (by omega) h2)
  exact ⟨m', e', h5, h6, h7⟩
theorem bg_twice {x : Nat} {b c : Int} (h : Bg .f64 x b c) (h1 : -1022 ≤ b + 1) (h2 : c + 1 ≤ 1023) : Bg .f64 (fop .mul .f64 x twoD) (b + 1) (c + 1) := by
  have hbc := h.le
  obtain ⟨m, i, hr, hl, hg⟩ := h
  have e : fop .mul .f64 x twoD = (FloatKind.f64).format.write (.number false (m * 2 ^ 52) (i + -51)) := fop_mul_eq hr two_readD
  rw [e]
  have h3 : LeP (m * 2 ^ 52) (i + -51) (c + 1) := by
    have := hl.mul (n := 2 ^ 52) (j := -51) (b := 1) (.inr ⟨by omega, Nat.le_refl _⟩)
    exact this
  have h4 : GeP (m * 2 ^ 52) (i + -51) (b + 1) := by
    refine ⟨Nat.mul_ne_zero hg.1 (by decide), ?_⟩
    have h5 : m.log2 + 52 ≤ (m * 2 ^ 52).log2 := by
      refine (Nat.le_log2 (Nat.mul_ne_zero hg.1 (by decide))).2 ?_
      rw [Nat.pow_add]
      exact Nat.mul_le_mul_right _ (Nat.log2_self_le hg.1)
    have := hg.2
    omega
  obtain ⟨m', e', h5, h6, h7⟩ := nearest_ge (k := .f64) (s := false) h3 h4 (by show (-1074 : Int) + 52 ≤ b + 1; omega) (inF64 (by omega) h2)
  exact ⟨m', e', h5, h6, h7⟩
/-- What is above zero and one. -/
theorem bg_one {x : Nat} {b : Int} (h : Bg .f64 x b 1) : Bg .f64 (fop .add .f64 x oneD) 0 2 := by
  obtain ⟨m, i, hr, hl, hg⟩ := h
  have h1 : (FloatKind.f64).format.read oneD = .number false (2 ^ 52) (-52) := by decide +kernel
  generalize hb : min i (-52) = base
  have hi := hl.scale (b := base) (by omega)
  have hj : LeP (2 ^ 52 * 2 ^ ((-52 : Int) - base).toNat) base 1 := LeP.scale (.inr ⟨by omega, Nat.pow_le_pow_right (by omega) (by omega)⟩) (by omega)
  have e : fop .add .f64 x oneD = (FloatKind.f64).format.write (.number false (m * 2 ^ (i - base).toNat + 2 ^ 52 * 2 ^ ((-52 : Int) - base).toNat) base) := by
    unfold fop floatBits Ieee.Format.add
    rw [hr, h1]
    have e1 : Ieee.signed false m (i - base).toNat = _ := signed_pos (.inr rfl)
    have e2 : Ieee.signed false (2 ^ 52) ((-52 : Int) - base).toNat = _ := signed_pos (.inr rfl)
    simp only [Ieee.Datum.sum, hb, e1, e2]
    have hp : 0 < 2 ^ 52 * 2 ^ ((-52 : Int) - base).toNat := Nat.mul_pos (by decide) (Nat.pow_pos (by omega))
    generalize m * 2 ^ (i - base).toNat = M
    generalize 2 ^ 52 * 2 ^ ((-52 : Int) - base).toNat = N at *
    have h3 : ((M : Int) + N).natAbs = M + N := by omega
    have h4 : decide ((M : Int) + N < 0) = false := by rw [decide_eq_false_iff_not]; omega
    rw [if_neg (by omega), h3, h4]
    rfl
  rw [e]
  have hgp : GeP (m * 2 ^ (i - base).toNat + 2 ^ 52 * 2 ^ ((-52 : Int) - base).toNat) base 0 := by
    have hp : 2 ^ (52 + ((-52 : Int) - base).toNat) ≤ m * 2 ^ (i - base).toNat + 2 ^ 52 * 2 ^ ((-52 : Int) - base).toNat := by rw [Nat.pow_add]; omega
    have hne : m * 2 ^ (i - base).toNat + 2 ^ 52 * 2 ^ ((-52 : Int) - base).toNat ≠ 0 := by
      have := Nat.pow_pos (n := 52 + ((-52 : Int) - base).toNat) (show 0 < 2 by omega); omega
    refine ⟨hne, ?_⟩
    have := (Nat.le_log2 hne).2 hp
    omega
  have hsum := hi.add hj
  obtain ⟨m', e', h5, h6, h7⟩ := nearest_ge (k := .f64) (s := false) (c := 2) hsum hgp (by decide +kernel) (inF64 (by omega) (by omega))
  exact ⟨m', e', h5, h6, h7⟩
end Go.Proofs.Ytlbmjeennpccmaa
