
/- Sums and roots of numbers not below zero: how great they are. Plain. -/
import Derived.Test.YtmcnfapdghoenaaFX
namespace Go.Proofs.Ytmcnfapdghoenaa
open Go Go.RowKit

theorem LeP.scale {m : Nat} {p c b : Int} (h : LeP m p c) (hb : b ≤ p) : LeP (m * 2 ^ (p - b).toNat) b c := by
  rcases h with rfl | ⟨h1, h2⟩
  · exact .inl (Nat.zero_mul _)
  · right
    refine ⟨by omega, ?_⟩
    have : (c - b).toNat = (c - p).toNat + (p - b).toNat := by omega
    rw [this, Nat.pow_add]
    exact Nat.mul_le_mul_right _ h2
theorem LeP.add {m n : Nat} {p c : Int} (h : LeP m p c) (h' : LeP n p c) : LeP (m + n) p (c + 1) := by
  rcases h with rfl | ⟨h1, h2⟩
  · rw [Nat.zero_add]; exact h'.mono (by omega)
  · rcases h' with rfl | ⟨_, h3⟩
    · exact LeP.mono (.inr ⟨h1, h2⟩) (by omega)
    · right
      refine ⟨by omega, ?_⟩
      have : (c + 1 - p).toNat = (c - p).toNat + 1 := by omega
      rw [this, Nat.pow_succ]
      omega
theorem signed_pos {s : Bool} {m u : Nat} (h : m = 0 ∨ s = false) : Ieee.signed s m u = ((m * 2 ^ u : Nat) : Int) := by
  unfold Ieee.signed
  rw [Nat.shiftLeft_eq]
  rcases h with rfl | rfl
  · cases s <;> simp
  · simp
theorem bp_add {k : FloatKind} {x y : Nat} {c : Int} (hx : Bp k x c) (hy : Bp k y c) (hc : InF k (c + 1)) : Bp k (fop .add k x y) (c + 1) := by
  obtain ⟨s, m, i, h1, h2, h3⟩ := hx
  obtain ⟨t, n, j, h4, h5, h6⟩ := hy
  generalize hb : min i j = base
  have hi := h2.scale (b := base) (by omega)
  have hj := h5.scale (b := base) (by omega)
  have e1 : Ieee.signed s m (i - base).toNat = _ := signed_pos h3
  have e2 : Ieee.signed t n (j - base).toNat = _ := signed_pos h6
  generalize hM : m * 2 ^ (i - base).toNat = M at *
  generalize hN : n * 2 ^ (j - base).toNat = N at *
  have hf : ∃ g, fop .add k x y = k.format.write (.number g (M + N) base) ∧ (M + N = 0 ∨ g = false) := by
    refine ⟨if ((M : Int) + N) = 0 then s && t else decide ((M : Int) + N < 0), ?_, ?_⟩
    · unfold fop floatBits Ieee.Format.add
      rw [h1, h4]
      simp only [Ieee.Datum.sum, hb, e1, e2]
      have : ((M : Int) + N).natAbs = M + N := by omega
      rw [this]
      rfl
    · by_cases h0 : (M : Int) + N = 0
      · left; omega
      · right; rw [if_neg h0, decide_eq_false_iff_not]; omega
  obtain ⟨g, e, hg⟩ := hf
  rw [e]
  exact bp_write (hi.add hj) hg hc

theorem rootFrom_lt (n : Nat) : ∀ (todo r : Nat), Ieee.Datum.rootFrom n todo r < r + 2 ^ todo
  | 0, r => by unfold Ieee.Datum.rootFrom; simp
  | todo + 1, r => by
    unfold Ieee.Datum.rootFrom
    have h1 := rootFrom_lt n todo r
    have h2 := rootFrom_lt n todo (r + 1 <<< todo)
    rw [Nat.shiftLeft_eq, Nat.one_mul] at h2
    rw [Nat.shiftLeft_eq, Nat.one_mul, Nat.pow_succ]
    simp only
    split <;> omega
theorem bp_root {k : FloatKind} {x : Nat} {d : Int} (hx : Bp k x (2 * d)) (hc : InF k (d + 1)) (hd : InF k (2 * d)) : ∃ r, k.format.sqrt x = some r ∧ (Bp k r (d + 1) ∨ Bp k r (2 * d)) := by
  obtain ⟨s, m, i, h1, h2, h3⟩ := hx
  unfold Ieee.Format.sqrt
  rw [h1]
  by_cases hm : m = 0
  · refine ⟨k.format.write (.number s m i), ?_, .inr (bp_write (.inl hm) (.inl hm) hd)⟩
    unfold Ieee.Datum.root
    dsimp only
    rw [if_pos hm]; rfl
  · have hs : s = false := h3.resolve_left hm
    subst hs
    have hlog := h2.log hm
    generalize hdg : k.format.fractionBits + 2 = dg
    generalize hm0 : 2 * dg - m.log2 = more0
    generalize hm1 : more0 + ((i - (more0 : Int)) % 2).toNat = more
    have hlg : (m <<< more).log2 ≤ m.log2 + more := by
      have hne : m <<< more ≠ 0 := by rw [Nat.shiftLeft_eq]; exact Nat.mul_ne_zero hm (Nat.pos_iff_ne_zero.1 (Nat.pow_pos (by omega)))
      have hlt : m <<< more < 2 ^ (m.log2 + more + 1) := by
        rw [Nat.shiftLeft_eq, show m.log2 + more + 1 = (m.log2 + 1) + more by omega, Nat.pow_add]
        exact Nat.mul_lt_mul_of_pos_right Nat.lt_log2_self (Nat.pow_pos (by omega))
      have := (Nat.log2_lt hne).2 hlt
      omega
    have hw := rootFrom_lt (m <<< more) ((m <<< more).log2 / 2 + 1) 0
    generalize hW : Ieee.Datum.rootFrom (m <<< more) ((m <<< more).log2 / 2 + 1) 0 = W at hw
    refine ⟨k.format.write (.number false (2 * W + (W * W != m <<< more).toNat) ((i - more) / 2 - 1)), ?_, .inl (bp_write ?_ (.inr rfl) hc)⟩
    · unfold Ieee.Datum.root
      dsimp only
      rw [if_neg hm]
      simp only [Bool.false_eq_true, if_false, hm0, hm1, hW]
      rfl
    · right
      have hbt : ∀ b : Bool, b.toNat ≤ 1 := fun b => by cases b <;> simp
      have := hbt (W * W != m <<< more)
      refine ⟨by omega, ?_⟩
      have h4 : 2 * W + (W * W != m <<< more).toNat ≤ 2 ^ ((m <<< more).log2 / 2 + 2) := by
        rw [Nat.pow_succ _ ((m <<< more).log2 / 2 + 1)]; omega
      exact Nat.le_trans h4 (Nat.pow_le_pow_right (by omega) (by omega))
theorem wide_bp {x : Nat} {c : Int} (h : Bp .f32 x c) (hc : InF .f64 c) : Bp .f64 (wide x) c := by
  obtain ⟨s, m, e, h1, h2, h3⟩ := h
  have : wide x = Ieee.double.write (.number s m e) := by
    unfold wide
    have h1' : Ieee.single.read x = .number s m e := h1
    rw [h1']
  rw [this]
  exact bp_write (k := .f64) h2 h3 hc
/-- The root of a number not above 2^48, in double precision and narrowed. -/
def rootW (x : Nat) : Nat := ((FloatKind.f64).format.sqrt (wide x)).getD 0
def rootF (x : Nat) : Nat := narrowF (rootW x)
theorem rootW_eq {x : Nat} (h : Bp .f32 x 48) : (FloatKind.f64).format.sqrt (wide x) = some (rootW x) ∧ Bp .f64 (rootW x) 48 := by
  have hw := wide_bp h (inF64 (by decide) (by decide))
  obtain ⟨r, h1, h2⟩ := bp_root (k := .f64) (d := 24) hw (inF64 (by decide) (by decide)) (inF64 (by decide) (by decide))
  unfold rootW
  rw [h1]
  exact ⟨rfl, h2.elim (fun h => h.mono (by decide)) id⟩
theorem rootF_bits {x : Nat} (h : Bp .f32 x 48) : floatToFloatBits .f64 (rootW x) .f32 = some (rootF x) := (narrow_bp (rootW_eq h).2 (inF32 (by decide) (by decide))).2

end Go.Proofs.Ytmcnfapdghoenaa
/- How great and how small the results of operations on floats are, of either sign. Plain. -/
namespace Go.Proofs.Ytmcnfapdghoenaa
open Go Go.RowKit

/-! ### Not below a power of two -/
theorem cut_ge (s : Bool) (n d : Nat) : n / 2 ^ (min d (n.log2 + 2)) ≤ Ieee.Toward.even.cut s n d := by
  unfold Ieee.Toward.cut
  simp only [Nat.one_shiftLeft]
  omega
theorem GeP.mono {n : Nat} {j b c : Int} (h : GeP n j b) (hc : c ≤ b) : GeP n j c := ⟨h.1, by have := h.2; omega⟩
theorem kept_ge (s : Bool) (m : Nat) (p last : Int) (a : Nat) (hm : m ≠ 0) (h : p + m.log2 = last + a) : 2 ^ a ≤ Ieee.Toward.even.cut s (m <<< (p - last).toNat) (last - p).toNat := by
  have hlo := Nat.log2_self_le hm
  rw [Nat.shiftLeft_eq]
  refine Nat.le_trans ?_ (cut_ge _ _ _)
  by_cases hle : last ≤ p
  · have e : (last - p).toNat = 0 := by omega
    rw [e, Nat.zero_min, Nat.pow_zero, Nat.div_one]
    have h1 : 2 ^ m.log2 * 2 ^ (p - last).toNat ≤ m * 2 ^ (p - last).toNat := Nat.mul_le_mul_right _ hlo
    rw [← Nat.pow_add] at h1
    exact Nat.le_trans (Nat.pow_le_pow_right (by omega) (by omega)) h1
  · have e : (p - last).toNat = 0 := by omega
    rw [e, Nat.pow_zero, Nat.mul_one]
    have hmin : min (last - p).toNat (m.log2 + 2) = (last - p).toNat := Nat.min_eq_left (by omega)
    rw [hmin, Nat.le_div_iff_mul_le (Nat.pow_pos (by omega)), ← Nat.pow_add]
    exact Nat.le_trans (Nat.pow_le_pow_right (by omega) (by omega)) hlo
theorem read_geP (f : Ieee.Format) (s : Bool) (r : Nat) (b : Int) (h : rungOf f b ≤ r) (h0 : f.leastPlace + f.fractionBits ≤ b) (h1 : r < f.infRung) :
    ∃ m e, f.read (f.word s r) = .number s m e ∧ GeP m e b := by
  obtain ⟨w1, w2⟩ := word_read f s r h1
  have hb : f.binade = 2 ^ f.fractionBits := rfl
  have hbp : 0 < f.binade := Nat.pow_pos (by omega)
  unfold rungOf at h
  have hq : (b - f.leastPlace - f.fractionBits + 1).toNat ≤ r / f.binade := (Nat.le_div_iff_mul_le hbp).2 h
  have h2 : ¬ r < f.binade := by
    intro hlt
    rw [Nat.div_eq_of_lt hlt] at hq
    omega
  unfold Ieee.Format.read
  simp only [w1, w2]
  rw [if_neg h2, if_pos h1]
  refine ⟨_, _, rfl, by omega, ?_⟩
  have hl : f.fractionBits ≤ (f.binade + r % f.binade).log2 := (Nat.le_log2 (by omega)).2 (by rw [hb]; omega)
  omega
theorem nearest_ge {k : FloatKind} {s : Bool} {m : Nat} {p b c : Int} (hl : LeP m p c) (hg : GeP m p b) (hb : k.format.leastPlace + k.format.fractionBits ≤ b) (hc : InF k c) :
    ∃ m' e', k.format.read (k.format.write (.number s m p)) = .number s m' e' ∧ LeP m' e' c ∧ GeP m' e' b := by
  obtain ⟨hm, hgl⟩ := hg
  obtain ⟨r, hr, e⟩ := nearest_rung k.format s m p c hl hc.1 (Nat.le_of_lt hc.2)
  have hinf : r < k.format.infRung := Nat.lt_of_le_of_lt hr hc.2
  have hrb : rungOf k.format b ≤ r := by
    have e' := e
    unfold Ieee.Format.nearest at e'
    rw [if_neg hm] at e'
    generalize hla : max (p + (m.log2 : Int) - (k.format.fractionBits : Int)) k.format.leastPlace = last at e'
    have hl2 : last = p + (m.log2 : Int) - (k.format.fractionBits : Int) := by omega
    have hk := kept_ge s m p last k.format.fractionBits hm (by omega)
    have hword : ∀ a b : Nat, k.format.word s a = k.format.word s b → a = b := by
      intro a b h
      unfold Ieee.Format.word at h
      split at h <;> omega
    have e2 := hword _ _ e'
    have hbin : k.format.binade = 2 ^ k.format.fractionBits := rfl
    have h1 : rungOf k.format b ≤ (last - k.format.leastPlace).toNat * k.format.binade + Ieee.Toward.even.cut s (m <<< (p - last).toNat) (last - p).toNat := by
      unfold rungOf
      have : (b - k.format.leastPlace - k.format.fractionBits + 1).toNat * k.format.binade ≤ ((last - k.format.leastPlace).toNat + 1) * k.format.binade := Nat.mul_le_mul_right _ (by omega)
      rw [Nat.succ_mul] at this
      rw [← hbin] at hk
      omega
    omega
  obtain ⟨m1, e1, h1, h2⟩ := read_rung k.format s r c hr hc.1 hc.2
  obtain ⟨m2, e2, h3, h4⟩ := read_geP k.format s r b hrb hb hinf
  have h5 : k.format.write (.number s m p) = k.format.word s r := e
  rw [h1] at h3
  injection h3 with _ h6 h7
  subst h6 h7
  exact ⟨m1, e1, by rw [h5]; exact h1, h2, h4⟩

/-! ### Of either sign -/
/-- A number of at most 2^c, of whatever sign. -/
def Ba (k : FloatKind) (b : Nat) (c : Int) : Prop := ∃ s, Bd k b s c
theorem Ba.notN {k : FloatKind} {b : Nat} {c : Int} (h : Ba k b c) : isN k b = false := by obtain ⟨s, h⟩ := h; exact h.notN
theorem Ba.mono {k : FloatKind} {b : Nat} {c d : Int} (h : Ba k b c) (hd : c ≤ d) : Ba k b d := by obtain ⟨s, h⟩ := h; exact ⟨s, h.mono hd⟩
theorem Bp.ba {k : FloatKind} {b : Nat} {c : Int} (h : Bp k b c) : Ba k b c := by obtain ⟨s, m, e, h1, h2, _⟩ := h; exact ⟨s, m, e, h1, h2⟩
theorem ba_mul {k : FloatKind} {x y : Nat} {a b : Int} (hx : Ba k x a) (hy : Ba k y b) (hc : InF k (a + b)) : Ba k (fop .mul k x y) (a + b) := by
  obtain ⟨s, hx⟩ := hx; obtain ⟨t, hy⟩ := hy; exact ⟨_, bd_mul hx hy hc⟩
theorem ba_div {k : FloatKind} {x y n : Nat} {t : Bool} {a b j : Int} (hx : Ba k x a) (hy : k.format.read y = .number t n j) (hn : GeP n j b) (hc : InF k (a - b + 1)) : Ba k (fop .quo k x y) (a - b + 1) := by
  obtain ⟨s, hx⟩ := hx; exact ⟨_, bd_div hx hy hn hc⟩
theorem sum_abs {s t : Bool} {m n i j : Nat} : (Ieee.signed s m i + Ieee.signed t n j).natAbs ≤ m * 2 ^ i + n * 2 ^ j := by
  unfold Ieee.signed
  rw [Nat.shiftLeft_eq, Nat.shiftLeft_eq]
  cases s <;> cases t <;> simp only [if_true, if_false, Bool.false_eq_true] <;> omega
theorem LeP.le {m n : Nat} {p c : Int} (h : LeP n p c) (hmn : m ≤ n) : LeP m p c := by
  rcases h with rfl | ⟨h1, h2⟩
  · exact .inl (by omega)
  · exact .inr ⟨h1, by omega⟩
theorem ba_sum {k : FloatKind} {s t : Bool} {m n : Nat} {i j c : Int} (h2 : LeP m i c) (h4 : LeP n j c) (hc : InF k (c + 1)) :
    ∃ d, (Ieee.Datum.number s m i).sum (.number t n j) = some d ∧ Ba k (k.format.write d) (c + 1) := by
  generalize hb : min i j = base
  have hi := h2.scale (b := base) (by omega)
  have hj := h4.scale (b := base) (by omega)
  refine ⟨_, rfl, ?_⟩
  simp only [hb]
  exact ⟨_, bd_write (LeP.le (hi.add hj) sum_abs) hc⟩
theorem ba_add {k : FloatKind} {x y : Nat} {c : Int} (hx : Ba k x c) (hy : Ba k y c) (hc : InF k (c + 1)) : Ba k (fop .add k x y) (c + 1) := by
  obtain ⟨s, m, i, h1, h2⟩ := hx
  obtain ⟨t, n, j, h3, h4⟩ := hy
  obtain ⟨d, h5, h6⟩ := ba_sum (k := k) (s := s) (t := t) h2 h4 hc
  have : fop .add k x y = k.format.write d := by
    unfold fop floatBits Ieee.Format.add
    rw [h1, h3]
    simp only [h5]
    rfl
  rw [this]; exact h6
theorem ba_sub {k : FloatKind} {x y : Nat} {c : Int} (hx : Ba k x c) (hy : Ba k y c) (hc : InF k (c + 1)) : Ba k (fop .sub k x y) (c + 1) := by
  obtain ⟨s, m, i, h1, h2⟩ := hx
  obtain ⟨t, n, j, h3, h4⟩ := hy
  obtain ⟨d, h5, h6⟩ := ba_sum (k := k) (s := s) (t := !t) h2 h4 hc
  have : fop .sub k x y = k.format.write d := by
    unfold fop floatBits Ieee.Format.sub
    rw [h1, h3]
    simp only [Ieee.Datum.opposite, h5]
    rfl
  rw [this]; exact h6
theorem ba_narrow {b : Nat} {c : Int} (h : Ba .f64 b c) (hc : InF .f32 c) : Ba .f32 (narrowF b) c ∧ floatToFloatBits .f64 b .f32 = some (narrowF b) := by
  obtain ⟨s, m, e, h1, h2⟩ := h
  have h1' : Ieee.double.read b = .number s m e := h1
  have hw : narrowF b = (FloatKind.f32).format.write (.number s m e) := by unfold narrowF; rw [h1']; rfl
  have hp := bd_write (k := .f32) (s := s) h2 hc
  refine ⟨by rw [hw]; exact ⟨s, hp⟩, ?_⟩
  obtain ⟨m', e', h4, _⟩ := hp
  have hd : (FloatKind.f64).decode b = .number s m e := h1
  have hi : ((FloatKind.f32).decode ((FloatKind.f32).encode (.number s m e))).isInfinity = false := by
    show ((FloatKind.f32).format.read ((FloatKind.f32).format.write (.number s m e))).isInfinity = false
    rw [h4]; rfl
  unfold floatToFloatBits
  rw [if_neg (by decide), hd]
  simp only [hi, hw]
  rfl

/-! ### Numbers above zero, between two powers of two -/
/-- A number from 2^b to 2^c. -/
def Bg (k : FloatKind) (x : Nat) (b c : Int) : Prop := ∃ m e, k.format.read x = .number false m e ∧ LeP m e c ∧ GeP m e b
theorem Bg.ba {k : FloatKind} {x : Nat} {b c : Int} (h : Bg k x b c) : Ba k x c := by obtain ⟨m, e, h1, h2, _⟩ := h; exact ⟨false, m, e, h1, h2⟩
theorem Bg.mono {k : FloatKind} {x : Nat} {b c b' c' : Int} (h : Bg k x b c) (hb : b' ≤ b) (hc : c ≤ c') : Bg k x b' c' := by
  obtain ⟨m, e, h1, h2, h3⟩ := h; exact ⟨m, e, h1, h2.mono hc, h3.mono hb⟩
theorem Bg.notN {k : FloatKind} {x : Nat} {b c : Int} (h : Bg k x b c) : isN k x = false := h.ba.notN
theorem Bg.le {k : FloatKind} {x : Nat} {b c : Int} (h : Bg k x b c) : b ≤ c := by
  obtain ⟨m, e, _, h2, h3⟩ := h
  have h4 := h2.log h3.1
  have := h3.2
  omega
def twoD : Nat := 4611686018427387904
theorem two_readD : (FloatKind.f64).format.read twoD = .number false (2 ^ 52) (-51) := by decide +kernel
theorem bg_half {x : Nat} {b c : Int} (h : Bg .f64 x b c) (h1 : -1022 ≤ b - 1) (h2 : c - 1 ≤ 1023) : Bg .f64 (fop .quo .f64 x twoD) (b - 1) (c - 1) := by
  have hbc := h.le
  obtain ⟨m, i, hr, hl, hg⟩ := h
  have hlog : (2 ^ 52 : Nat).log2 = 52 := Nat.log2_two_pow
  generalize hmore : 54 + 52 - m.log2 = more
  have hE : ∃ M E, fop .quo .f64 x twoD = (FloatKind.f64).format.write (.number false M E) ∧ LeP M E (c - 1) ∧ GeP M E (b - 1) := by
    have hbig : m.log2 ≤ 54 := by
      have hx : m < 2 ^ 53 := by
        have hr' := hr
        unfold Ieee.Format.read at hr'
        simp only at hr'
        have hb : (FloatKind.f64).format.binade = 2 ^ 52 := rfl
        split at hr'
        · injection hr' with _ e1 _; omega
        · split at hr'
          · injection hr' with _ e1 _
            have := Nat.mod_lt (x % (FloatKind.f64).format.signWeight) (show 0 < (FloatKind.f64).format.binade by rw [hb]; exact Nat.pow_pos (by omega))
            rw [hb] at this e1
            omega
          · split at hr' <;> cases hr'
      have := (Nat.log2_lt hg.1).2 hx
      omega
    have hdiv : (m <<< more) / 2 ^ 52 = m * 2 ^ (more - 52) := by
      rw [Nat.shiftLeft_eq, show 2 ^ more = 2 ^ (more - 52) * 2 ^ 52 by rw [← Nat.pow_add]; congr 1; omega, ← Nat.mul_assoc, Nat.mul_div_cancel _ (Nat.pow_pos (by omega))]
    have hmod : (m <<< more) % 2 ^ 52 = 0 := by
      rw [Nat.shiftLeft_eq, show 2 ^ more = 2 ^ (more - 52) * 2 ^ 52 by rw [← Nat.pow_add]; congr 1; omega, ← Nat.mul_assoc, Nat.mul_mod_left]
    refine ⟨2 * (m * 2 ^ (more - 52)), i - (-51) - more - 1, ?_, ?_, ?_⟩
    · unfold fop floatBits Ieee.Format.div
      rw [hr, two_readD]
      have hfb : (FloatKind.f64).format.fractionBits + 2 = 54 := rfl
      simp only [Ieee.Datum.quotient, hlog, hfb, hmore, hdiv, hmod]
      rfl
    · rcases hl with rfl | ⟨h3, h4⟩
      · exact .inl (by simp)
      · right
        refine ⟨by omega, ?_⟩
        have e : (c - 1 - (i - (-51) - (more : Int) - 1)).toNat = (c - i).toNat + (more - 52) + 1 := by omega
        rw [e, Nat.pow_succ, Nat.pow_add, Nat.mul_comm 2]
        exact Nat.mul_le_mul_right _ (Nat.mul_le_mul_right _ h4)
    · refine ⟨Nat.mul_ne_zero (by decide) (Nat.mul_ne_zero hg.1 (Nat.pos_iff_ne_zero.1 (Nat.pow_pos (by omega)))), ?_⟩
      have h5 : m.log2 + (more - 52) + 1 ≤ (2 * (m * 2 ^ (more - 52))).log2 := by
        refine (Nat.le_log2 ?_).2 ?_
        · exact Nat.mul_ne_zero (by decide) (Nat.mul_ne_zero hg.1 (Nat.pos_iff_ne_zero.1 (Nat.pow_pos (by omega))))
        · rw [Nat.pow_succ, Nat.pow_add, Nat.mul_comm 2]
          exact Nat.mul_le_mul_right _ (Nat.mul_le_mul_right _ (Nat.log2_self_le hg.1))
      have := hg.2
      omega
  obtain ⟨M, E, e, h3, h4⟩ := hE
  rw [e]
  obtain ⟨m', e', h5, h6, h7⟩ := nearest_ge (k := .f64) (s := false) h3 h4 (by show (-1074 : Int) + 52 ≤ b - 1; omega) (inF64 (by omega) h2)
  exact ⟨m', e', h5, h6, h7⟩
theorem bg_twice {x : Nat} {b c : Int} (h : Bg .f64 x b c) (h1 : -1022 ≤ b + 1) (h2 : c + 1 ≤ 1023) : Bg .f64 (fop .mul .f64 x twoD) (b + 1) (c + 1) := by
  have hbc := h.le
  obtain ⟨m, i, hr, hl, hg⟩ := h
  have e : fop .mul .f64 x twoD = (FloatKind.f64).format.write (.number false (m * 2 ^ 52) (i + -51)) := fop_mul_eq hr two_readD
  rw [e]
  have h3 : LeP (m * 2 ^ 52) (i + -51) (c + 1) := by
    have := hl.mul (n := 2 ^ 52) (j := -51) (b := 1) (.inr ⟨by omega, Nat.le_refl _⟩)
    exact this
  have h4 : GeP (m * 2 ^ 52) (i + -51) (b + 1) := by
    refine ⟨Nat.mul_ne_zero hg.1 (by decide), ?_⟩
    have h5 : m.log2 + 52 ≤ (m * 2 ^ 52).log2 := by
      refine (Nat.le_log2 (Nat.mul_ne_zero hg.1 (by decide))).2 ?_
      rw [Nat.pow_add]
      exact Nat.mul_le_mul_right _ (Nat.log2_self_le hg.1)
    have := hg.2
    omega
  obtain ⟨m', e', h5, h6, h7⟩ := nearest_ge (k := .f64) (s := false) h3 h4 (by show (-1074 : Int) + 52 ≤ b + 1; omega) (inF64 (by omega) h2)
  exact ⟨m', e', h5, h6, h7⟩
/-- What is above zero and one. -/
theorem bg_one {x : Nat} {b : Int} (h : Bg .f64 x b 1) : Bg .f64 (fop .add .f64 x oneD) 0 2 := by
  obtain ⟨m, i, hr, hl, hg⟩ := h
  have h1 : (FloatKind.f64).format.read oneD = .number false (2 ^ 52) (-52) := by decide +kernel
  generalize hb : min i (-52) = base
  have hi := hl.scale (b := base) (by omega)
  have hj : LeP (2 ^ 52 * 2 ^ ((-52 : Int) - base).toNat) base 1 := LeP.scale (.inr ⟨by omega, Nat.pow_le_pow_right (by omega) (by omega)⟩) (by omega)
  have e : fop .add .f64 x oneD = (FloatKind.f64).format.write (.number false (m * 2 ^ (i - base).toNat + 2 ^ 52 * 2 ^ ((-52 : Int) - base).toNat) base) := by
    unfold fop floatBits Ieee.Format.add
    rw [hr, h1]
    have e1 : Ieee.signed false m (i - base).toNat = _ := signed_pos (.inr rfl)
    have e2 : Ieee.signed false (2 ^ 52) ((-52 : Int) - base).toNat = _ := signed_pos (.inr rfl)
    simp only [Ieee.Datum.sum, hb, e1, e2]
    have hp : 0 < 2 ^ 52 * 2 ^ ((-52 : Int) - base).toNat := Nat.mul_pos (by decide) (Nat.pow_pos (by omega))
    generalize m * 2 ^ (i - base).toNat = M
    generalize 2 ^ 52 * 2 ^ ((-52 : Int) - base).toNat = N at *
    have h3 : ((M : Int) + N).natAbs = M + N := by omega
    have h4 : decide ((M : Int) + N < 0) = false := by rw [decide_eq_false_iff_not]; omega
    rw [if_neg (by omega), h3, h4]
    rfl
  rw [e]
  have hgp : GeP (m * 2 ^ (i - base).toNat + 2 ^ 52 * 2 ^ ((-52 : Int) - base).toNat) base 0 := by
    have hp : 2 ^ (52 + ((-52 : Int) - base).toNat) ≤ m * 2 ^ (i - base).toNat + 2 ^ 52 * 2 ^ ((-52 : Int) - base).toNat := by rw [Nat.pow_add]; omega
    have hne : m * 2 ^ (i - base).toNat + 2 ^ 52 * 2 ^ ((-52 : Int) - base).toNat ≠ 0 := by
      have := Nat.pow_pos (n := 52 + ((-52 : Int) - base).toNat) (show 0 < 2 by omega); omega
    refine ⟨hne, ?_⟩
    have := (Nat.le_log2 hne).2 hp
    omega
  have hsum := hi.add hj
  obtain ⟨m', e', h5, h6, h7⟩ := nearest_ge (k := .f64) (s := false) (c := 2) hsum hgp (by decide +kernel) (inF64 (by omega) (by omega))
  exact ⟨m', e', h5, h6, h7⟩
end Go.Proofs.Ytmcnfapdghoenaa
/- What floats stand for, as fractions: rounding goes astray by little. Plain. What floats stand for: comparisons, whole numbers, widening, narrowing; errors that add up. Plain. -/
namespace Go.Proofs.Ytmcnfapdghoenaa
open Go Go.RowKit

/-! ### Powers of two -/
def tw (e : Int) : Rat := (2 : Rat) ^ e
theorem tw_pos (e : Int) : 0 < tw e := Rat.zpow_pos (by decide)
theorem tw_add (a b : Int) : tw (a + b) = tw a * tw b := Rat.zpow_add (by decide) a b
theorem tw_nat (n : Nat) : tw (n : Int) = ((2 ^ n : Nat) : Rat) := by
  show (2 : Rat) ^ (n : Int) = _
  rw [Rat.zpow_natCast, Rat.natCast_pow]; rfl
theorem tw_zero : tw 0 = 1 := Rat.zpow_zero 2
theorem tw_one : tw 1 = 2 := Rat.zpow_one 2
theorem tw_split {a b : Int} (h : a ≤ b) : tw b = ((2 ^ (b - a).toNat : Nat) : Rat) * tw a := by
  rw [← tw_nat, ← tw_add]; congr 1; omega
theorem one_le_pow (n : Nat) : (1 : Rat) ≤ ((2 ^ n : Nat) : Rat) := by
  have : 1 ≤ 2 ^ n := Nat.pow_pos (by omega)
  exact_mod_cast this
theorem tw_mono {a b : Int} (h : a ≤ b) : tw a ≤ tw b := by
  rw [tw_split h]
  have h1 := one_le_pow (b - a).toNat
  have h2 := tw_pos a
  have h3 := Rat.mul_le_mul_of_nonneg_right h1 (Rat.le_of_lt h2)
  grind
theorem tw_le {a b : Int} (h : tw a ≤ tw b) : a ≤ b := by
  rcases Int.lt_or_le b a with hb | hb
  · exfalso
    have h1 : tw (b + 1) ≤ tw a := tw_mono (by omega)
    rw [tw_add, tw_one] at h1
    have := tw_pos b
    grind
  · exact hb
attribute [local irreducible] tw

/-! ### Values -/
def dv : Ieee.Datum → Rat
  | .number s m e => (if s then -(m : Rat) else (m : Rat)) * tw e
  | _ => 0
def fv (k : FloatKind) (b : Nat) : Rat := dv (k.format.read b)
def Num (k : FloatKind) (b : Nat) : Prop := ∃ s m e, k.format.read b = .number s m e
theorem Num.notN {k : FloatKind} {b : Nat} (h : Num k b) : isN k b = false := by obtain ⟨s, m, e, h⟩ := h; unfold isN; rw [h]; rfl
theorem Num.cn {k : FloatKind} {b : Nat} (h : Num k b) : cn k b = b := cn_of_not h.notN
theorem fv_eq {k : FloatKind} {b : Nat} {s : Bool} {m : Nat} {e : Int} (h : k.format.read b = .number s m e) : fv k b = (if s then -(m : Rat) else (m : Rat)) * tw e := by unfold fv; rw [h]; rfl
/-- b stands for x but for e. -/
def Nr (k : FloatKind) (b : Nat) (x e : Rat) : Prop := Num k b ∧ fv k b ≤ x + e ∧ x ≤ fv k b + e
theorem Nr.mono {k : FloatKind} {b : Nat} {x e e' : Rat} (h : Nr k b x e) (he : e ≤ e') : Nr k b x e' := ⟨h.1, by have := h.2.1; grind, by have := h.2.2; grind⟩

/-! ### Rounding -/
theorem natCast_shl (m d : Nat) : ((m * 2 ^ d : Nat) : Rat) = (m : Rat) * ((2 ^ d : Nat) : Rat) := Rat.natCast_mul m (2 ^ d)
theorem cut_near {s : Bool} {m : Nat} {p last : Int} (hm : m ≠ 0) :
    ((Ieee.Toward.even.cut s (m <<< (p - last).toNat) (last - p).toNat : Nat) : Rat) * tw last ≤ (m : Rat) * tw p + tw (last - 1) ∧
      (m : Rat) * tw p ≤ ((Ieee.Toward.even.cut s (m <<< (p - last).toNat) (last - p).toNat : Nat) : Rat) * tw last + tw (last - 1) := by
  have hpos := tw_pos (last - 1)
  by_cases hle : last ≤ p
  · have e : (last - p).toNat = 0 := by omega
    have hc : Ieee.Toward.even.cut s (m <<< (p - last).toNat) (last - p).toNat = m * 2 ^ (p - last).toNat := by
      rw [e, cut_exact s _ 0 (by simp [Nat.mod_one]), Nat.zero_min, Nat.pow_zero, Nat.div_one, Nat.shiftLeft_eq]
    rw [hc, natCast_shl, tw_split hle]
    generalize tw (last - 1) = t at *
    generalize tw last = a
    generalize ((2 ^ (p - last).toNat : Nat) : Rat) = b
    constructor <;> grind
  · have e : (p - last).toNat = 0 := by omega
    rw [e, Nat.shiftLeft_eq, Nat.pow_zero, Nat.mul_one]
    generalize hd : (last - p).toNat = d
    have hlog : m < 2 ^ (m.log2 + 1) := Nat.lt_log2_self
    by_cases hdm : d ≤ m.log2 + 2
    · have hmin : min d (m.log2 + 2) = d := Nat.min_eq_left hdm
      have hG : 0 < 2 ^ d := Nat.pow_pos (by omega)
      have hn : 2 * (Ieee.Toward.even.cut s m d * 2 ^ d) ≤ 2 * m + 2 ^ d ∧ 2 * m ≤ 2 * (Ieee.Toward.even.cut s m d * 2 ^ d) + 2 ^ d := by
        unfold Ieee.Toward.cut
        simp only [Nat.one_shiftLeft, hmin]
        have hdiv := Nat.div_add_mod m (2 ^ d)
        have hmod := Nat.mod_lt m hG
        rw [Nat.mul_comm] at hdiv
        generalize m / 2 ^ d = q at *
        generalize m % 2 ^ d = r at *
        generalize 2 ^ d = G at *
        by_cases h1 : G < 2 * r
        · have : (decide (G < 2 * r) || (G == 2 * r && q % 2 == 1)) = true := by simp [h1]
          rw [this, Nat.add_mul]
          simp only [Bool.toNat_true, Nat.one_mul]
          omega
        · by_cases h2 : G = 2 * r
          · have hb : ∀ b : Bool, b.toNat = 0 ∨ b.toNat = 1 := fun b => by cases b <;> simp
            rcases hb (decide (G < 2 * r) || (G == 2 * r && q % 2 == 1)) with h | h <;> rw [h, Nat.add_mul] <;> simp only [Nat.zero_mul, Nat.one_mul] <;> omega
          · have : (decide (G < 2 * r) || (G == 2 * r && q % 2 == 1)) = false := by simp [h1, h2]
            rw [this, Nat.add_mul]
            simp only [Bool.toNat_false, Nat.zero_mul]
            omega
      have hl : tw last = ((2 ^ d : Nat) : Rat) * tw p := by rw [← hd]; exact tw_split (by omega)
      have hl1 : tw last = tw (last - 1) * 2 := by rw [← tw_one, ← tw_add]; congr 1; omega
      generalize Ieee.Toward.even.cut s m d = n at *
      have h1 : 2 * ((n : Rat) * ((2 ^ d : Nat) : Rat)) ≤ 2 * (m : Rat) + ((2 ^ d : Nat) : Rat) := by exact_mod_cast hn.1
      have h2 : 2 * (m : Rat) ≤ 2 * ((n : Rat) * ((2 ^ d : Nat) : Rat)) + ((2 ^ d : Nat) : Rat) := by exact_mod_cast hn.2
      have hp := tw_pos p
      have h3 := Rat.mul_le_mul_of_nonneg_right h1 (Rat.le_of_lt hp)
      have h4 := Rat.mul_le_mul_of_nonneg_right h2 (Rat.le_of_lt hp)
      generalize ((2 ^ d : Nat) : Rat) = G at *
      generalize tw (last - 1) = t at *
      generalize tw last = l at *
      generalize tw p = u at *
      generalize (n : Rat) = n' at *
      generalize (m : Rat) = m' at *
      have h5 : 2 * (n' * (G * u)) ≤ 2 * (m' * u) + G * u := by clear h4 h2 h1 hl hl1 hn; grind
      have h6 : 2 * (m' * u) ≤ 2 * (n' * (G * u)) + G * u := by clear h3 h2 h1 hl hl1 hn; grind
      rw [← hl] at h5 h6
      generalize n' * l = x at *
      generalize m' * u = y at *
      clear h3 h4 h1 h2 hl hn
      constructor <;> grind
    · have hn : Ieee.Toward.even.cut s m d = 0 := by
        unfold Ieee.Toward.cut
        rw [Nat.min_eq_right (by omega), Nat.one_shiftLeft]
        have h1 : m < 2 ^ (m.log2 + 2) := Nat.lt_trans hlog (Nat.pow_lt_pow_right (by omega) (by omega))
        have h2 : 2 * m < 2 ^ (m.log2 + 2) := by rw [Nat.pow_succ]; omega
        simp only [Nat.div_eq_of_lt h1, Nat.mod_eq_of_lt h1]
        have : (decide (2 ^ (m.log2 + 2) < 2 * m) || (2 ^ (m.log2 + 2) == 2 * m && 0 % 2 == 1)) = false := by simp; omega
        rw [this]; rfl
      rw [hn]
      have h1 : (m : Rat) ≤ ((2 ^ (m.log2 + 1) : Nat) : Rat) := by exact_mod_cast Nat.le_of_lt hlog
      have hp := tw_pos p
      have h2 := Rat.mul_le_mul_of_nonneg_right h1 (Rat.le_of_lt hp)
      rw [← tw_nat, ← tw_add] at h2
      have h3 : tw ((m.log2 + 1 : Nat) + p) ≤ tw (last - 1) := tw_mono (by omega)
      have h0 : ((0 : Nat) : Rat) = 0 := rfl
      rw [h0]
      have h4 : 0 ≤ (m : Rat) * tw p := Rat.mul_nonneg Rat.natCast_nonneg (Rat.le_of_lt hp)
      generalize tw (last - 1) = t at *
      generalize tw ((m.log2 + 1 : Nat) + p) = t2 at *
      generalize (m : Rat) * tw p = x at *
      generalize tw last = l
      constructor <;> grind

def uu (k : FloatKind) : Rat := tw (-(k.format.fractionBits : Int) - 1)
def eta (k : FloatKind) : Rat := tw (k.format.leastPlace - 1)
/-- What a rung stands for. -/
theorem rung_val {f : Ieee.Format} {s : Bool} {last : Int} {n : Nat} (h0 : f.leastPlace ≤ last) (h1 : n ≤ 2 * f.binade) (h2 : last = f.leastPlace ∨ f.binade ≤ n)
    (h3 : (last - f.leastPlace).toNat * f.binade + n < f.infRung) :
    ∃ m e, f.read (f.word s ((last - f.leastPlace).toNat * f.binade + n)) = .number s m e ∧ (m : Rat) * tw e = (n : Rat) * tw last := by
  obtain ⟨w1, w2⟩ := word_read f s _ h3
  have hbp : 0 < f.binade := Nat.pow_pos (by omega)
  generalize hd : (last - f.leastPlace).toNat = d at *
  unfold Ieee.Format.read
  simp only [w1, w2]
  by_cases hs : d * f.binade + n < f.binade
  · rw [if_pos hs]
    have hd0 : d = 0 := by
      rcases Nat.eq_zero_or_pos d with h | h
      · exact h
      · have : 1 * f.binade ≤ d * f.binade := Nat.mul_le_mul_right _ h
        omega
    subst hd0
    have hl : last = f.leastPlace := by omega
    refine ⟨_, _, rfl, ?_⟩
    rw [hl, Nat.zero_mul, Nat.zero_add]
  · rw [if_neg hs, if_pos h3]
    refine ⟨_, _, rfl, ?_⟩
    by_cases hn2 : n = 2 * f.binade
    · have hq : (d * f.binade + n) / f.binade = d + 2 := by rw [hn2, ← Nat.add_mul, Nat.mul_div_cancel _ hbp]
      have hr : (d * f.binade + n) % f.binade = 0 := by rw [hn2, ← Nat.add_mul, Nat.mul_mod_left]
      rw [hq, hr, Nat.add_zero, hn2]
      have he : f.leastPlace + ((d + 2 - 1 : Nat) : Int) = 1 + last := by omega
      rw [he, tw_add, tw_one, Rat.natCast_mul]
      have : ((2 : Nat) : Rat) = 2 := rfl
      rw [this]
      generalize (f.binade : Rat) = B
      generalize tw last = l
      grind
    · by_cases hnb : f.binade ≤ n
      · have hq : (d * f.binade + n) / f.binade = d + 1 := by
          have e : d * f.binade + n = (n - f.binade) + (d + 1) * f.binade := by rw [Nat.add_mul]; omega
          rw [e, Nat.add_mul_div_right _ _ hbp, Nat.div_eq_of_lt (by omega)]; omega
        have hr : (d * f.binade + n) % f.binade = n - f.binade := by
          have e : d * f.binade + n = (n - f.binade) + (d + 1) * f.binade := by rw [Nat.add_mul]; omega
          rw [e, Nat.add_mul_mod_self_right, Nat.mod_eq_of_lt (by omega)]
        rw [hq, hr]
        have e1 : f.binade + (n - f.binade) = n := by omega
        have he : f.leastPlace + ((d + 1 - 1 : Nat) : Int) = last := by omega
        rw [e1, he]
      · have hl : last = f.leastPlace := h2.resolve_right hnb
        have hd0 : d = 0 := by omega
        subst hd0
        omega
theorem near_write {k : FloatKind} {s : Bool} {m : Nat} {p c : Int} (hl : LeP m p c) (hc : InF k c) :
    ∃ m' e', k.format.read (k.format.write (.number s m p)) = .number s m' e' ∧ (m' : Rat) * tw e' ≤ (m : Rat) * tw p + (uu k * ((m : Rat) * tw p) + eta k) ∧ (m : Rat) * tw p ≤ (m' : Rat) * tw e' + (uu k * ((m : Rat) * tw p) + eta k) ∧
      (m.log2 ≤ k.format.fractionBits → k.format.leastPlace ≤ p → (m' : Rat) * tw e' = (m : Rat) * tw p) ∧ (m = 0 → m' = 0) := by
  have hx : 0 ≤ (m : Rat) * tw p := Rat.mul_nonneg Rat.natCast_nonneg (Rat.le_of_lt (tw_pos p))
  have hu : 0 < uu k := tw_pos _
  have het : 0 < eta k := tw_pos _
  have hux : 0 ≤ uu k * ((m : Rat) * tw p) := Rat.mul_nonneg (Rat.le_of_lt hu) hx
  by_cases hm : m = 0
  · subst hm
    refine ⟨0, k.format.leastPlace, read_zero k s, ?_, ?_, fun _ _ => ?_, fun _ => rfl⟩
    · rw [show ((0 : Nat) : Rat) = 0 from rfl]; grind
    · rw [show ((0 : Nat) : Rat) = 0 from rfl]; grind
    · rw [show ((0 : Nat) : Rat) = 0 from rfl]; grind
  obtain ⟨r, hr, e⟩ := nearest_rung k.format s m p c hl hc.1 (Nat.le_of_lt hc.2)
  have hinf : r < k.format.infRung := Nat.lt_of_le_of_lt hr hc.2
  have e0 : k.format.write (.number s m p) = k.format.word s r := e
  unfold Ieee.Format.nearest at e
  rw [if_neg hm] at e
  generalize hla : max (p + (m.log2 : Int) - (k.format.fractionBits : Int)) k.format.leastPlace = last at e
  have hword : ∀ a b : Nat, k.format.word s a = k.format.word s b → a = b := by
    intro a b h
    unfold Ieee.Format.word at h
    split at h <;> omega
  have e2 := hword _ _ e
  have hcn := cut_near (s := s) (p := p) (last := last) hm
  have hbin : k.format.binade = 2 ^ k.format.fractionBits := rfl
  have hle := kept_le s m p last (k.format.fractionBits + 1) hm (by omega)
  have hge : last = k.format.leastPlace ∨ k.format.binade ≤ Ieee.Toward.even.cut s (m <<< (p - last).toNat) (last - p).toNat := by
    by_cases h : last = k.format.leastPlace
    · exact .inl h
    · right; rw [hbin]; exact kept_ge s m p last k.format.fractionBits hm (by omega)
  have hexact : last ≤ p → ((Ieee.Toward.even.cut s (m <<< (p - last).toNat) (last - p).toNat : Nat) : Rat) * tw last = (m : Rat) * tw p := by
    intro h
    have e : (last - p).toNat = 0 := by omega
    rw [e, cut_exact s _ 0 (by simp [Nat.mod_one]), Nat.zero_min, Nat.pow_zero, Nat.div_one, Nat.shiftLeft_eq, natCast_shl, tw_split h]
    grind
  generalize Ieee.Toward.even.cut s (m <<< (p - last).toNat) (last - p).toNat = n at *
  have hR : r = (last - k.format.leastPlace).toNat * k.format.binade + n := by omega
  obtain ⟨m', e', h5, h6⟩ := rung_val (f := k.format) (s := s) (last := last) (n := n) (by omega) (by rw [hbin]; rw [Nat.pow_succ] at hle; omega) hge (by omega)
  rw [← hR, ← e0] at h5
  have hE : tw (last - 1) ≤ uu k * ((m : Rat) * tw p) + eta k := by
    by_cases h : last = k.format.leastPlace
    · have : tw (last - 1) = eta k := by rw [h]; rfl
      rw [this]; grind
    · have hl2 : last - 1 = (-(k.format.fractionBits : Int) - 1) + ((m.log2 : Int) + p) := by omega
      have : tw (last - 1) = uu k * (tw (m.log2 : Int) * tw p) := by rw [hl2, tw_add, tw_add]; rfl
      rw [this, tw_nat]
      have h1 : ((2 ^ m.log2 : Nat) : Rat) ≤ (m : Rat) := by exact_mod_cast Nat.log2_self_le hm
      have h2 := Rat.mul_le_mul_of_nonneg_right h1 (Rat.le_of_lt (tw_pos p))
      have h3 := Rat.mul_le_mul_of_nonneg_left h2 (Rat.le_of_lt hu)
      grind
  refine ⟨m', e', h5, ?_, ?_, fun h1 h2 => ?_, fun h => absurd h hm⟩
  · rw [h6]; have := hcn.1; grind
  · rw [h6]; have := hcn.2; grind
  · rw [h6]; exact hexact (by omega)

/-! ### Operations -/
theorem inF100 (k : FloatKind) : InF k 100 := by
  cases k
  · exact inF32 (by decide) (by decide)
  · exact inF64 (by decide) (by decide)
theorem leP_of {m : Nat} {p : Int} (h : (m : Rat) * tw p ≤ tw 100) : LeP m p 100 := by
  by_cases hm : m = 0
  · exact .inl hm
  · right
    have h0 : 1 ≤ m := by omega
    have h1 : (1 : Rat) ≤ (m : Rat) := by exact_mod_cast h0
    have h2 := Rat.mul_le_mul_of_nonneg_right h1 (Rat.le_of_lt (tw_pos p))
    have h3 : p ≤ 100 := tw_le (by grind)
    refine ⟨h3, ?_⟩
    rw [tw_split h3] at h
    have h4 := Rat.le_of_mul_le_mul_right h (tw_pos p)
    exact_mod_cast h4
theorem dv_num (s : Bool) (m : Nat) (e : Int) : dv (.number s m e) = (if s then -(m : Rat) else (m : Rat)) * tw e := rfl
theorem mag_nonneg (m : Nat) (e : Int) : 0 ≤ (m : Rat) * tw e := Rat.mul_nonneg Rat.natCast_nonneg (Rat.le_of_lt (tw_pos e))
/-- The sign of what is written. -/
def SameSgn (x y : Rat) : Prop := (0 ≤ x → 0 ≤ y) ∧ (x ≤ 0 → y ≤ 0)
theorem nr_write {k : FloatKind} {s : Bool} {m : Nat} {p : Int} {A : Rat} (hA : (m : Rat) * tw p ≤ A) (h : A ≤ tw 100) :
    Nr k (k.format.write (.number s m p)) (dv (.number s m p)) (uu k * A + eta k) ∧ SameSgn (dv (.number s m p)) (fv k (k.format.write (.number s m p))) := by
  obtain ⟨m', e', h1, h2, h3, _, h0⟩ := near_write (k := k) (s := s) (leP_of (Rat.le_trans hA h)) (inF100 k)
  have hx := mag_nonneg m p
  have hy := mag_nonneg m' e'
  have hu : 0 < uu k := tw_pos _
  have h4 := Rat.mul_le_mul_of_nonneg_left hA (Rat.le_of_lt hu)
  have hz : (m : Rat) * tw p = 0 → (m' : Rat) * tw e' = 0 := by
    intro h
    rcases Rat.mul_eq_zero.1 h with h | h
    · have hm : m = 0 := by exact_mod_cast h
      rw [h0 hm]
      exact Rat.zero_mul _
    · have := tw_pos p; grind
  refine ⟨⟨⟨s, m', e', h1⟩, ?_, ?_⟩, ?_, ?_⟩
  all_goals
    rw [fv_eq h1, dv_num]
    clear h1 h0
    generalize uu k * ((m : Rat) * tw p) = E at *
    generalize hX : (m : Rat) * tw p = X at *
    generalize hY : (m' : Rat) * tw e' = Y at *
    have n1 : -(m : Rat) * tw p = -X := by rw [← hX]; exact Rat.neg_mul _ _
    have n2 : -(m' : Rat) * tw e' = -Y := by rw [← hY]; exact Rat.neg_mul _ _
    cases s
    · simp only [Bool.false_eq_true, if_false, hX, hY]
      grind
    · simp only [if_true, n1, n2]
      grind
theorem signed_val {s : Bool} {m : Nat} {i b : Int} (h : b ≤ i) : ((Ieee.signed s m (i - b).toNat : Int) : Rat) * tw b = dv (.number s m i) := by
  rw [dv_num, tw_split h]
  unfold Ieee.signed
  rw [Nat.shiftLeft_eq]
  cases s
  · simp only [Bool.false_eq_true, if_false]
    rw [Rat.intCast_natCast, natCast_shl]
    grind
  · simp only [if_true]
    rw [Rat.intCast_neg, Rat.intCast_natCast, natCast_shl]
    grind
theorem natAbs_val (T : Int) (g : Bool) (hg : T ≠ 0 → g = decide (T < 0)) : (if g then -((T.natAbs : Nat) : Rat) else ((T.natAbs : Nat) : Rat)) = (T : Rat) := by
  by_cases h0 : T = 0
  · subst h0
    cases g <;> rfl
  · rw [hg h0]
    by_cases h : T < 0
    · rw [decide_eq_true h]
      have e : T = -((T.natAbs : Nat) : Int) := by omega
      simp only [if_true]
      conv => rhs; rw [e, Rat.intCast_neg, Rat.intCast_natCast]
    · rw [decide_eq_false h]
      have e : T = ((T.natAbs : Nat) : Int) := by omega
      simp only [Bool.false_eq_true, if_false]
      conv => rhs; rw [e, Rat.intCast_natCast]
/-- What is written stands for x exactly, before it is rounded. -/
def Wr (k : FloatKind) (b : Nat) (x : Rat) : Prop := ∃ s m p, b = k.format.write (.number s m p) ∧ dv (.number s m p) = x
theorem Wr.nr {k : FloatKind} {b : Nat} {x A : Rat} (h : Wr k b x) (h1 : x ≤ A) (h2 : -x ≤ A) (h3 : A ≤ tw 100) : Nr k b x (uu k * A + eta k) ∧ SameSgn x (fv k b) := by
  obtain ⟨s, m, p, rfl, rfl⟩ := h
  refine nr_write ?_ h3
  rw [dv_num] at h1 h2
  have hx := mag_nonneg m p
  cases s
  · simpa using h1
  · simp only [if_true, Rat.neg_mul, Rat.neg_neg] at h2; exact h2
theorem wr_add {k : FloatKind} {x y : Nat} (hx : Num k x) (hy : Num k y) : Wr k (fop .add k x y) (fv k x + fv k y) := by
  obtain ⟨s, m, i, h1⟩ := hx
  obtain ⟨t, n, j, h2⟩ := hy
  generalize hb : min i j = base
  have e1 := signed_val (s := s) (m := m) (i := i) (b := base) (by omega)
  have e2 := signed_val (s := t) (m := n) (i := j) (b := base) (by omega)
  generalize hT : Ieee.signed s m (i - base).toNat + Ieee.signed t n (j - base).toNat = T
  refine ⟨if T = 0 then s && t else decide (T < 0), T.natAbs, base, ?_, ?_⟩
  · unfold fop floatBits Ieee.Format.add
    rw [h1, h2]
    simp only [Ieee.Datum.sum, hb, hT]
    rfl
  · rw [dv_num, natAbs_val T _ (fun h => by rw [if_neg h]), ← hT, Rat.intCast_add, Rat.add_mul, e1, e2]
    unfold fv; rw [h1, h2]
theorem wr_sub {k : FloatKind} {x y : Nat} (hx : Num k x) (hy : Num k y) : Wr k (fop .sub k x y) (fv k x - fv k y) := by
  obtain ⟨s, m, i, h1⟩ := hx
  obtain ⟨t, n, j, h2⟩ := hy
  generalize hb : min i j = base
  have e1 := signed_val (s := s) (m := m) (i := i) (b := base) (by omega)
  have e2 := signed_val (s := !t) (m := n) (i := j) (b := base) (by omega)
  generalize hT : Ieee.signed s m (i - base).toNat + Ieee.signed (!t) n (j - base).toNat = T
  refine ⟨if T = 0 then s && !t else decide (T < 0), T.natAbs, base, ?_, ?_⟩
  · unfold fop floatBits Ieee.Format.sub
    rw [h1, h2]
    simp only [Ieee.Datum.opposite, Ieee.Datum.sum, hb, hT]
    rfl
  · rw [dv_num, natAbs_val T _ (fun h => by rw [if_neg h]), ← hT, Rat.intCast_add, Rat.add_mul, e1, e2]
    unfold fv; rw [h1, h2, dv_num, dv_num, dv_num]
    cases t
    · simp only [Bool.not_false, if_true, Bool.false_eq_true, if_false]; grind
    · simp only [Bool.not_true, if_true, Bool.false_eq_true, if_false]; grind
theorem wr_mul {k : FloatKind} {x y : Nat} (hx : Num k x) (hy : Num k y) : Wr k (fop .mul k x y) (fv k x * fv k y) := by
  obtain ⟨s, m, i, h1⟩ := hx
  obtain ⟨t, n, j, h2⟩ := hy
  refine ⟨s ^^ t, m * n, i + j, fop_mul_eq h1 h2, ?_⟩
  rw [dv_num, fv_eq h1, fv_eq h2, tw_add, Rat.natCast_mul]
  cases s <;> cases t <;> simp <;> grind

/-! ### Quotients -/
theorem quot_near {m n digits : Nat} (hn : n ≠ 0) (hm : m ≠ 0) (hd : 1 ≤ digits) :
    (2 * (m <<< (digits + n.log2 - m.log2) / n) + (m <<< (digits + n.log2 - m.log2) % n != 0).toNat) * n ≤ 2 * (m * 2 ^ (digits + n.log2 - m.log2)) + n ∧
    2 * (m * 2 ^ (digits + n.log2 - m.log2)) ≤ (2 * (m <<< (digits + n.log2 - m.log2) / n) + (m <<< (digits + n.log2 - m.log2) % n != 0).toNat) * n + n ∧
    n * 2 ^ (digits - 1) ≤ m * 2 ^ (digits + n.log2 - m.log2) := by
  rw [Nat.shiftLeft_eq]
  have hdm : n * 2 ^ (digits - 1) ≤ m * 2 ^ (digits + n.log2 - m.log2) := by
    have h1 : n ≤ 2 ^ (n.log2 + 1) := Nat.le_of_lt Nat.lt_log2_self
    have h2 : 2 ^ m.log2 ≤ m := Nat.log2_self_le hm
    refine Nat.le_trans (Nat.mul_le_mul_right _ h1) (Nat.le_trans ?_ (Nat.mul_le_mul_right _ h2))
    rw [← Nat.pow_add, ← Nat.pow_add]
    exact Nat.pow_le_pow_right (by omega) (by omega)
  generalize m * 2 ^ (digits + n.log2 - m.log2) = D at *
  have h1 := Nat.div_add_mod D n
  have h2 := Nat.mod_lt D (Nat.pos_of_ne_zero hn)
  rw [Nat.mul_comm] at h1
  generalize D / n = q at *
  generalize D % n = r at *
  refine ⟨?_, ?_, hdm⟩
  all_goals
    by_cases h : r = 0
    · have : (r != 0).toNat = 0 := by rw [h]; rfl
      rw [this, Nat.add_mul, Nat.mul_assoc]; omega
    · have : (r != 0).toNat = 1 := by rw [bne_iff_ne.2 h]; rfl
      rw [this, Nat.add_mul, Nat.mul_assoc]; omega
theorem wr_div {k : FloatKind} {x y : Nat} (hx : Num k x) (hy : Num k y) (h0 : fv k y ≠ 0) :
    ∃ V, Wr k (fop .quo k x y) V ∧ SameSgn (fv k x / fv k y) V ∧ ∀ A, fv k x / fv k y ≤ A → -(fv k x / fv k y) ≤ A → V ≤ fv k x / fv k y + uu k * A ∧ fv k x / fv k y ≤ V + uu k * A := by
  obtain ⟨s, m, i, h1⟩ := hx
  obtain ⟨t, n, j, h2⟩ := hy
  have hn : n ≠ 0 := by
    intro h
    subst h
    rw [fv_eq h2] at h0
    apply h0
    cases t <;> simp
  have hfb : 2 ≤ k.format.fractionBits + 2 := by omega
  generalize hdg : k.format.fractionBits + 2 = digits at *
  generalize hmore : digits + n.log2 - m.log2 = more
  have hw : fop .quo k x y = k.format.write (.number (s ^^ t) (2 * (m <<< more / n) + (m <<< more % n != 0).toNat) (i - j - more - 1)) := by
    unfold fop floatBits Ieee.Format.div
    rw [h1, h2]
    simp only [Ieee.Datum.quotient]
    rw [if_neg hn]
    simp only [hdg, hmore]
    rfl
  refine ⟨_, ⟨_, _, _, hw, rfl⟩, ?_⟩
  have hn0 : 0 < n := Nat.pos_of_ne_zero hn
  have hnr : (0 : Rat) < (n : Rat) := by exact_mod_cast hn0
  have hY : 0 < (n : Rat) * tw j := Rat.mul_pos hnr (tw_pos j)
  have hX := mag_nonneg m i
  generalize hV : (((2 * (m <<< more / n) + (m <<< more % n != 0).toNat : Nat) : Rat)) * tw (i - j - (more : Int) - 1) = V
  have hVn : 0 ≤ V := by rw [← hV]; exact mag_nonneg _ _
  have hu : 0 < uu k := tw_pos _
  -- the quotient, its sign aside
  have hVY : V * ((n : Rat) * tw j) ≤ (m : Rat) * tw i + uu k * ((m : Rat) * tw i) ∧ (m : Rat) * tw i ≤ V * ((n : Rat) * tw j) + uu k * ((m : Rat) * tw i) := by
    by_cases hm : m = 0
    · have hV0 : V = 0 := by
        rw [← hV, hm]
        have : (2 * (0 <<< more / n) + (0 <<< more % n != 0).toNat) = 0 := by simp
        rw [this]; exact Rat.zero_mul _
      rw [hV0, hm]
      have : ((0 : Nat) : Rat) = 0 := rfl
      rw [this]
      constructor <;> grind
    · obtain ⟨q1, q2, q3⟩ := quot_near (digits := digits) hn hm (by omega)
      rw [hmore] at q1 q2 q3
      generalize 2 * (m <<< more / n) + (m <<< more % n != 0).toNat = N at *
      have e : V * ((n : Rat) * tw j) = ((N * n : Nat) : Rat) * tw (i - (more : Int) - 1) := by
        have : tw (i - (more : Int) - 1) = tw (i - j - (more : Int) - 1) * tw j := by rw [← tw_add]; congr 1; omega
        rw [← hV, this, Rat.natCast_mul]; grind
      have e2 : ((2 * (m * 2 ^ more) : Nat) : Rat) * tw (i - (more : Int) - 1) = (m : Rat) * tw i := by
        have : tw i = ((2 ^ more : Nat) : Rat) * (2 * tw (i - (more : Int) - 1)) := by
          rw [← tw_nat, ← tw_one, ← tw_add, ← tw_add]; congr 1; omega
        rw [this, Rat.natCast_mul, Rat.natCast_mul]
        have : ((2 : Nat) : Rat) = 2 := rfl
        rw [this]; grind
      have e3 : (n : Rat) * tw (i - (more : Int) - 1) ≤ uu k * ((m : Rat) * tw i) := by
        have h3 : ((n * 2 ^ (digits - 1) : Nat) : Rat) ≤ ((m * 2 ^ more : Nat) : Rat) := by exact_mod_cast q3
        have h4 := Rat.mul_le_mul_of_nonneg_right h3 (Rat.le_of_lt (tw_pos (i - (more : Int) - 1)))
        have h5 : ((n * 2 ^ (digits - 1) : Nat) : Rat) * tw (i - (more : Int) - 1) = ((2 ^ (digits - 1) : Nat) : Rat) * ((n : Rat) * tw (i - (more : Int) - 1)) := by rw [Rat.natCast_mul]; grind
        have h6 : 2 * (((m * 2 ^ more : Nat) : Rat) * tw (i - (more : Int) - 1)) = (m : Rat) * tw i := by
          rw [← e2, Rat.natCast_mul 2]; have : ((2 : Nat) : Rat) = 2 := rfl
          rw [this]; grind
        have h7 : uu k * ((2 ^ (digits - 1) : Nat) : Rat) = 1 := by
          rw [← tw_nat]
          show tw _ * _ = _
          rw [← tw_add, show (-(k.format.fractionBits : Int) - 1) + ((digits - 1 : Nat) : Int) = 0 by omega, tw_zero]
        rw [h5] at h4
        have h8 := Rat.mul_le_mul_of_nonneg_left h4 (Rat.le_of_lt hu)
        have h9 := mag_nonneg n (i - (more : Int) - 1)
        generalize (n : Rat) * tw (i - (more : Int) - 1) = a at *
        generalize ((m * 2 ^ more : Nat) : Rat) * tw (i - (more : Int) - 1) = b at *
        generalize ((2 ^ (digits - 1) : Nat) : Rat) = G at *
        generalize (m : Rat) * tw i = c at *
        have h10 : uu k * (G * a) = a := by
          have : uu k * (G * a) = (uu k * G) * a := by grind
          rw [this, h7]; grind
        rw [h10] at h8
        have h11 : uu k * c = 2 * (uu k * b) := by rw [← h6]; grind
        rw [h11]
        have : 0 ≤ uu k * b := Rat.le_trans h9 h8
        grind
      have f1 : ((N * n : Nat) : Rat) ≤ ((2 * (m * 2 ^ more) : Nat) : Rat) + (n : Rat) := by exact_mod_cast q1
      have f2 : ((2 * (m * 2 ^ more) : Nat) : Rat) ≤ ((N * n : Nat) : Rat) + (n : Rat) := by exact_mod_cast q2
      have g1 := Rat.mul_le_mul_of_nonneg_right f1 (Rat.le_of_lt (tw_pos (i - (more : Int) - 1)))
      have g2 := Rat.mul_le_mul_of_nonneg_right f2 (Rat.le_of_lt (tw_pos (i - (more : Int) - 1)))
      rw [Rat.add_mul, e2, ← e] at g1
      rw [Rat.add_mul, e2, ← e] at g2
      constructor <;> grind
  have hZ : (m : Rat) * tw i / ((n : Rat) * tw j) * ((n : Rat) * tw j) = (m : Rat) * tw i := Rat.div_mul_cancel (by grind)
  have hq : fv k x / fv k y = (if (s ^^ t) then -((m : Rat) * tw i / ((n : Rat) * tw j)) else (m : Rat) * tw i / ((n : Rat) * tw j)) := by
    have hY0 : ((n : Rat) * tw j) ≠ 0 := by grind
    rw [fv_eq h1, fv_eq h2]
    have key : ∀ a b : Rat, b ≠ 0 → (-a) / b = -(a / b) ∧ a / (-b) = -(a / b) ∧ (-a) / (-b) = a / b := by
      intro a b hb
      refine ⟨?_, ?_, ?_⟩ <;> grind
    obtain ⟨k1, k2, k3⟩ := key ((m : Rat) * tw i) ((n : Rat) * tw j) hY0
    cases s <;> cases t <;> simp only [Bool.false_eq_true, if_false, if_true, Rat.neg_mul, Bool.xor_false, Bool.xor_true, Bool.not_true, Bool.not_false, Bool.false_xor, Bool.true_xor]
    · exact k2
    · exact k1
    · exact k3
  rw [hq, dv_num]
  have hd : (if (s ^^ t) = true then -((2 * (m <<< more / n) + (m <<< more % n != 0).toNat : Nat) : Rat) else ((2 * (m <<< more / n) + (m <<< more % n != 0).toNat : Nat) : Rat)) * tw (i - j - (more : Int) - 1) = if (s ^^ t) = true then -V else V := by
    rw [← hV]
    split
    · exact Rat.neg_mul _ _
    · rfl
  rw [hd]
  generalize (m : Rat) * tw i = X at *
  generalize (n : Rat) * tw j = Y at *
  generalize X / Y = Z at *
  clear hd hq hV hw hmore h1 h2 h0 hn
  have hZn : 0 ≤ Z := by
    rcases Rat.le_total (a := 0) (b := Z) with h | h
    · exact h
    · have h1 := Rat.mul_le_mul_of_nonneg_right h (Rat.le_of_lt hY)
      have h2 : X = 0 := by grind
      have h3 : Z = 0 := by
        rcases Rat.mul_eq_zero.1 (hZ.trans h2) with h | h
        · exact h
        · grind
      grind
  have r1 : V ≤ Z + uu k * Z := by
    refine Rat.le_of_mul_le_mul_right ?_ hY
    have : (Z + uu k * Z) * Y = X + uu k * X := by rw [← hZ]; grind
    rw [this]; exact hVY.1
  have r2 : Z ≤ V + uu k * Z := by
    refine Rat.le_of_mul_le_mul_right ?_ hY
    have : (V + uu k * Z) * Y = V * Y + uu k * X := by rw [← hZ]; grind
    rw [this, hZ]; exact hVY.2
  clear hVY hZ
  have hmul : ∀ A, Z ≤ A → uu k * Z ≤ uu k * A := fun A h => Rat.mul_le_mul_of_nonneg_left h (Rat.le_of_lt hu)
  have hz0 : Z = 0 → V = 0 := by intro h; rw [h] at r1; grind
  cases (s ^^ t)
  · simp only [Bool.false_eq_true, if_false]
    refine ⟨⟨fun _ => hVn, fun h => by grind⟩, fun A h1 h2 => ?_⟩
    have := hmul A h1
    grind
  · simp only [if_true]
    refine ⟨⟨fun h => by grind, fun _ => by grind⟩, fun A h1 h2 => ?_⟩
    have := hmul A (by grind)
    grind

open Go Go.RowKit

theorem order_val {k : FloatKind} {x y : Nat} (hx : Num k x) (hy : Num k y) :
    k.format.order x y = some (if fv k x < fv k y then .lt else if fv k x = fv k y then .eq else .gt) := by
  obtain ⟨s, m, i, h1⟩ := hx
  obtain ⟨t, n, j, h2⟩ := hy
  unfold Ieee.Format.order
  have vx : fv k x = dv (.number s m i) := by unfold fv; rw [h1]
  have vy : fv k y = dv (.number t n j) := by unfold fv; rw [h2]
  rw [h1, h2, vx, vy]
  simp only [Ieee.Datum.order]
  generalize hb : min i j = base
  rw [← signed_val (s := s) (m := m) (i := i) (b := base) (by omega), ← signed_val (s := t) (m := n) (i := j) (b := base) (by omega)]
  generalize Ieee.signed s m (i - base).toNat = A
  generalize Ieee.signed t n (j - base).toNat = B
  have hp := tw_pos base
  have e : compare A B = compareOfLessAndEq A B := rfl
  have hlt : ((A : Rat) * tw base < (B : Rat) * tw base) ↔ A < B := by rw [Rat.mul_lt_mul_right hp, Rat.intCast_lt_intCast]
  have heq : ((A : Rat) * tw base = (B : Rat) * tw base) ↔ A = B := by
    constructor
    · intro h
      have h1 : ((A : Rat) - B) * tw base = 0 := by grind
      rcases Rat.mul_eq_zero.1 h1 with h | h
      · have : (A : Rat) = (B : Rat) := by grind
        exact_mod_cast this
      · grind
    · intro h; rw [h]
  rw [e]
  unfold compareOfLessAndEq
  simp only [hlt, heq]
theorem lss_val {k : FloatKind} {x y : Nat} (hx : Num k x) (hy : Num k y) : fcmp .lss k x y = decide (fv k x < fv k y) := by
  unfold fcmp; rw [order_val hx hy]
  by_cases h1 : fv k x < fv k y
  · rw [if_pos h1, decide_eq_true h1]; rfl
  · rw [if_neg h1, decide_eq_false h1]
    by_cases h2 : fv k x = fv k y
    · rw [if_pos h2]; rfl
    · rw [if_neg h2]; rfl
theorem gtrF_val {k : FloatKind} {x y : Nat} (hx : Num k x) (hy : Num k y) : fcmp .gtr k x y = decide (fv k y < fv k x) := by
  unfold fcmp; rw [order_val hx hy]
  by_cases h1 : fv k x < fv k y
  · rw [if_pos h1, decide_eq_false (by grind)]; rfl
  · rw [if_neg h1]
    by_cases h2 : fv k x = fv k y
    · rw [if_pos h2, decide_eq_false (by grind)]; rfl
    · rw [if_neg h2, decide_eq_true (by grind)]; rfl
theorem leq_val {k : FloatKind} {x y : Nat} (hx : Num k x) (hy : Num k y) : fcmp .leq k x y = decide (fv k x ≤ fv k y) := by
  unfold fcmp; rw [order_val hx hy]
  by_cases h1 : fv k x < fv k y
  · rw [if_pos h1, decide_eq_true (by grind)]; rfl
  · rw [if_neg h1]
    by_cases h2 : fv k x = fv k y
    · rw [if_pos h2, decide_eq_true (by grind)]; rfl
    · rw [if_neg h2, decide_eq_false (by grind)]; rfl
theorem geq_val {k : FloatKind} {x y : Nat} (hx : Num k x) (hy : Num k y) : fcmp .geq k x y = decide (fv k y ≤ fv k x) := by
  unfold fcmp; rw [order_val hx hy]
  by_cases h1 : fv k x < fv k y
  · rw [if_pos h1, decide_eq_false (by grind)]; rfl
  · rw [if_neg h1, decide_eq_true (by grind)]
    by_cases h2 : fv k x = fv k y
    · rw [if_pos h2]; rfl
    · rw [if_neg h2]; rfl
theorem eql_val {k : FloatKind} {x y : Nat} (hx : Num k x) (hy : Num k y) : fcmp .eql k x y = decide (fv k x = fv k y) := by
  unfold fcmp; rw [order_val hx hy]
  by_cases h1 : fv k x < fv k y
  · rw [if_pos h1, decide_eq_false (by grind)]; rfl
  · rw [if_neg h1]
    by_cases h2 : fv k x = fv k y
    · rw [if_pos h2, decide_eq_true h2]; rfl
    · rw [if_neg h2, decide_eq_false h2]; rfl
theorem neq_val {k : FloatKind} {x y : Nat} (hx : Num k x) (hy : Num k y) : fcmp .neq k x y = !decide (fv k x = fv k y) := by
  rw [← eql_val hx hy]; unfold fcmp; rfl

/-! ### Exact ones -/
theorem tw_neg (n : Nat) : tw (-(n : Int)) * ((2 ^ n : Nat) : Rat) = 1 := by rw [← tw_nat, ← tw_add, show -(n : Int) + (n : Int) = 0 by omega, tw_zero]
theorem round_exact {k : FloatKind} {s : Bool} {m : Nat} {p : Int} (h1 : m.log2 ≤ k.format.fractionBits) (h2 : k.format.leastPlace ≤ p) (h3 : (m : Rat) * tw p ≤ tw 100) :
    Num k (k.format.write (.number s m p)) ∧ fv k (k.format.write (.number s m p)) = dv (.number s m p) := by
  obtain ⟨m', e', g1, _, _, g4, _⟩ := near_write (k := k) (s := s) (leP_of h3) (inF100 k)
  refine ⟨⟨s, m', e', g1⟩, ?_⟩
  have h := g4 h1 h2
  rw [fv_eq g1, dv_num]
  cases s
  · simpa using h
  · simp only [if_true, Rat.neg_mul]; rw [h]
theorem log_le {m n : Nat} (h : m < 2 ^ (n + 1)) : m.log2 ≤ n := by
  by_cases hm : m = 0
  · subst hm; simp
  · have := (Nat.log2_lt hm).2 h; omega
theorem ofInt_val (k : FloatKind) {z : Int} (h : z.natAbs < 16777216) : Num k (floatOfInt k z) ∧ fv k (floatOfInt k z) = (z : Rat) := by
  have hw : floatOfInt k z = k.format.write (.number (decide (z < 0)) z.natAbs 0) := rfl
  have hfb : 23 ≤ k.format.fractionBits ∧ k.format.leastPlace ≤ 0 := by cases k <;> decide +kernel
  have hl := log_le (m := z.natAbs) (n := 23) (by omega)
  have hb : ((z.natAbs : Nat) : Rat) * tw 0 ≤ tw 100 := by
    rw [tw_zero, Rat.mul_one]
    have h1 : ((z.natAbs : Nat) : Rat) ≤ ((2 ^ 100 : Nat) : Rat) := by
      have : z.natAbs ≤ 2 ^ 100 := Nat.le_trans (Nat.le_of_lt h) (by decide)
      exact_mod_cast this
    have h2 := tw_nat 100
    have : tw ((100 : Nat) : Int) = tw 100 := rfl
    rw [← this, h2]; exact h1
  obtain ⟨h1, h2⟩ := round_exact (k := k) (s := decide (z < 0)) (Nat.le_trans hl hfb.1) hfb.2 hb
  rw [hw]
  refine ⟨h1, h2.trans ?_⟩
  rw [dv_num, natAbs_val z _ (fun _ => rfl), tw_zero, Rat.mul_one]
theorem wide_val {x : Nat} (hx : Num .f32 x) : Num .f64 (wide x) ∧ fv .f64 (wide x) = fv .f32 x := by
  obtain ⟨s, m, e, h⟩ := hx
  have h0 : Ieee.single.read x = .number s m e := h
  obtain ⟨g1, g2, g3⟩ := single_read h0
  have hw : wide x = (FloatKind.f64).format.write (.number s m e) := by unfold wide; rw [h0]; rfl
  have hl := log_le (m := m) (n := 23) g1
  obtain ⟨m', e', k1, _, _, k4, _⟩ := near_write (k := .f64) (s := s) (m := m) (p := e) (c := 128) (by
    right
    refine ⟨by omega, ?_⟩
    have : m < 2 ^ (128 - e).toNat := Nat.lt_of_lt_of_le g1 (Nat.pow_le_pow_right (by omega) (by omega))
    omega) (inF64 (by decide) (by decide))
  have h4 := k4 (Nat.le_trans hl (by decide)) (by show (-1074 : Int) ≤ e; omega)
  rw [hw]
  refine ⟨⟨s, m', e', k1⟩, ?_⟩
  rw [fv_eq k1, fv_eq h]
  cases s
  · simpa using h4
  · simp only [if_true, Rat.neg_mul]; rw [h4]
theorem Num.abs_bits {k : FloatKind} {b : Nat} {A : Rat} (h : Num k b) (h1 : fv k b ≤ A) (h2 : -fv k b ≤ A) : ∃ s m e, k.format.read b = .number s m e ∧ (m : Rat) * tw e ≤ A := by
  obtain ⟨s, m, e, h⟩ := h
  refine ⟨s, m, e, h, ?_⟩
  rw [fv_eq h] at h1 h2
  cases s
  · simpa using h1
  · simp only [if_true, Rat.neg_mul, Rat.neg_neg] at h2; exact h2
theorem narrow_val {b : Nat} {A : Rat} (hb : Num .f64 b) (h1 : fv .f64 b ≤ A) (h2 : -fv .f64 b ≤ A) (hA : A ≤ tw 100) :
    Nr .f32 (narrowF b) (fv .f64 b) (uu .f32 * A + eta .f32) ∧ SameSgn (fv .f64 b) (fv .f32 (narrowF b)) ∧ floatToFloatBits .f64 b .f32 = some (narrowF b) := by
  obtain ⟨s, m, e, h, hm⟩ := hb.abs_bits h1 h2
  have h0 : Ieee.double.read b = .number s m e := h
  have hw : narrowF b = (FloatKind.f32).format.write (.number s m e) := by unfold narrowF; rw [h0]; rfl
  have hv : fv .f64 b = dv (.number s m e) := by unfold fv; rw [h]
  obtain ⟨g1, g2⟩ := nr_write (k := .f32) (s := s) hm hA
  refine ⟨by rw [hw, hv]; exact g1, by rw [hw, hv]; exact g2, ?_⟩
  exact (ba_narrow (c := 100) ⟨s, m, e, h, leP_of (Rat.le_trans hm hA)⟩ (inF32 (by decide) (by decide))).2

/-! ### Numbers -/
theorem uu32 : uu .f32 = 1 / 16777216 := by
  have h := tw_neg 24
  have e : uu .f32 = tw (-((24 : Nat) : Int)) := rfl
  rw [← e] at h
  have : ((2 ^ 24 : Nat) : Rat) = 16777216 := rfl
  rw [this] at h
  grind
theorem uu64 : uu .f64 = 1 / 9007199254740992 := by
  have h := tw_neg 53
  have e : uu .f64 = tw (-((53 : Nat) : Int)) := rfl
  rw [← e] at h
  have : ((2 ^ 53 : Nat) : Rat) = 9007199254740992 := rfl
  rw [this] at h
  grind
theorem tw60 : tw (-60) = 1 / 1152921504606846976 := by
  have h := tw_neg 60
  have e : tw (-60) = tw (-((60 : Nat) : Int)) := rfl
  rw [← e] at h
  have : ((2 ^ 60 : Nat) : Rat) = 1152921504606846976 := rfl
  rw [this] at h
  grind
theorem tw100 : tw 100 = 1267650600228229401496703205376 := by
  have h := tw_nat 100
  have e : tw 100 = tw ((100 : Nat) : Int) := rfl
  rw [e, h]; rfl
theorem eta32 : 0 < eta .f32 ∧ eta .f32 ≤ 1 / 1152921504606846976 := by
  refine ⟨tw_pos _, ?_⟩
  rw [← tw60]
  exact tw_mono (by decide +kernel)
theorem eta64 : 0 < eta .f64 ∧ eta .f64 ≤ 1 / 1152921504606846976 := by
  refine ⟨tw_pos _, ?_⟩
  rw [← tw60]
  exact tw_mono (by decide +kernel)
theorem Nr.of {k : FloatKind} {b : Nat} (h : Num k b) : Nr k b (fv k b) 0 := ⟨h, by grind, by grind⟩
/-- One operation more, errors and all, for numbers of at most A. -/
theorem Nr.add {k : FloatKind} {a b : Nat} {x y e f A : Rat} (h1 : Nr k a x e) (h2 : Nr k b y f) (h3 : x + y + e + f ≤ A) (h4 : -(x + y) + e + f ≤ A) (hA : A ≤ tw 100) :
    Nr k (fop .add k a b) (x + y) (e + f + (uu k * A + eta k)) := by
  obtain ⟨n1, l1, u1⟩ := h1
  obtain ⟨n2, l2, u2⟩ := h2
  obtain ⟨⟨n, l, u⟩, _⟩ := (wr_add n1 n2).nr (A := A) (by grind) (by grind) hA
  exact ⟨n, by grind, by grind⟩
theorem Nr.sub {k : FloatKind} {a b : Nat} {x y e f A : Rat} (h1 : Nr k a x e) (h2 : Nr k b y f) (h3 : x - y + e + f ≤ A) (h4 : -(x - y) + e + f ≤ A) (hA : A ≤ tw 100) :
    Nr k (fop .sub k a b) (x - y) (e + f + (uu k * A + eta k)) := by
  obtain ⟨n1, l1, u1⟩ := h1
  obtain ⟨n2, l2, u2⟩ := h2
  obtain ⟨⟨n, l, u⟩, _⟩ := (wr_sub n1 n2).nr (A := A) (by grind) (by grind) hA
  exact ⟨n, by grind, by grind⟩
end Go.Proofs.Ytmcnfapdghoenaa
