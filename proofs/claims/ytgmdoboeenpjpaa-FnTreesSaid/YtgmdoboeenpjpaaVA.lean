
/- Expectations of functions of sets, over parts that work by chance. Plain. Condition: chances from 0 to 1. -/
import Derived.Test.YtgmdoboeenpjpaaRa
import Derived.Test.YtgmdoboeenpjpaaZf
import Derived.Test.YtgmdoboeenpjpaaZh
import Derived.Test.YtgmdoboeenpjpaaPe
import Derived.Test.YtgmdoboeenpjpaaBb
namespace Go.Proofs.Ytgmdoboeenpjpaa

/-- The mean of a function of the sets of the first p parts. -/
def Ex (C : Nat → Rat) : Nat → (Nat → Rat) → Rat
  | 0, g => g 0
  | p + 1, g => (1 - C p) * Ex C p g + C p * Ex C p (fun t => g (t + 2 ^ p))
def InU (C : Nat → Rat) (p : Nat) : Prop := ∀ i, i < p → 0 ≤ C i ∧ C i ≤ 1
theorem InU.le {C : Nat → Rat} {p q : Nat} (h : InU C p) (hq : q ≤ p) : InU C q := fun i hi => h i (by omega)
theorem rmul_le {a b c : Rat} (h : b ≤ c) (ha : 0 ≤ a) : a * b ≤ a * c := Rat.mul_le_mul_of_nonneg_left h ha
theorem rmul_nn {a b : Rat} (ha : 0 ≤ a) (hb : 0 ≤ b) : 0 ≤ a * b := Rat.mul_nonneg ha hb
theorem two_pow_succ (p : Nat) : 2 ^ (p + 1) = 2 ^ p + 2 ^ p := by rw [Nat.pow_succ]; omega
theorem Ex_congr {C : Nat → Rat} : ∀ {p : Nat} {g h : Nat → Rat}, (∀ s, s < 2 ^ p → g s = h s) → Ex C p g = Ex C p h
  | 0, g, h, e => e 0 (by simp)
  | p + 1, g, h, e => by
    have hp := two_pow_succ p
    unfold Ex
    rw [Ex_congr (h := h) fun s hs => e s (by omega), Ex_congr (g := fun t => g (t + 2 ^ p)) (h := fun t => h (t + 2 ^ p)) fun s hs => e _ (by omega)]
theorem Ex_chances {C D : Nat → Rat} : ∀ {p : Nat} {g : Nat → Rat}, (∀ i, i < p → C i = D i) → Ex C p g = Ex D p g
  | 0, g, _ => rfl
  | p + 1, g, e => by
    unfold Ex
    rw [e p (by omega), Ex_chances (D := D) fun i hi => e i (by omega), Ex_chances (C := C) (D := D) (g := fun t => g (t + 2 ^ p)) fun i hi => e i (by omega)]
theorem Ex_le {C : Nat → Rat} : ∀ {p : Nat} {g h : Nat → Rat}, InU C p → (∀ s, s < 2 ^ p → g s ≤ h s) → Ex C p g ≤ Ex C p h
  | 0, g, h, _, e => e 0 (by simp)
  | p + 1, g, h, hC, e => by
    have hp := two_pow_succ p
    obtain ⟨c0, c1⟩ := hC p (by omega)
    have h1 := Ex_le (g := g) (h := h) (hC.le (Nat.le_succ p)) fun s hs => e s (by omega)
    have h2 := Ex_le (g := fun t => g (t + 2 ^ p)) (h := fun t => h (t + 2 ^ p)) (hC.le (Nat.le_succ p)) fun s hs => e _ (by omega)
    have h3 := rmul_le h1 (show (0 : Rat) ≤ 1 - C p by grind)
    have h4 := rmul_le h2 c0
    unfold Ex
    grind
theorem Ex_lin {C : Nat → Rat} (a b : Rat) : ∀ {p : Nat} {g : Nat → Rat}, Ex C p (fun s => a * g s + b) = a * Ex C p g + b
  | 0, g => rfl
  | p + 1, g => by
    unfold Ex
    rw [Ex_lin a b (g := g), Ex_lin a b (g := fun t => g (t + 2 ^ p))]
    grind
theorem Ex_one {C : Nat → Rat} : ∀ {p : Nat}, Ex C p (fun _ => 1) = 1
  | 0 => rfl
  | p + 1 => by unfold Ex; rw [Ex_one]; grind
theorem Ex_zero {C : Nat → Rat} : ∀ {p : Nat}, Ex C p (fun _ => 0) = 0
  | 0 => rfl
  | p + 1 => by unfold Ex; rw [Ex_zero]; grind
/-- More parts, no less. -/
def Inc (p : Nat) (g : Nat → Rat) : Prop := ∀ s t, s < 2 ^ p → t < 2 ^ p → (∀ i, s.testBit i = true → t.testBit i = true) → g s ≤ g t
theorem bit_low {t p i : Nat} (hi : i < p) : (t + 2 ^ p).testBit i = t.testBit i := by rw [Nat.add_comm]; exact Nat.testBit_two_pow_add_gt hi t
theorem bit_at {t p : Nat} (ht : t < 2 ^ p) : (t + 2 ^ p).testBit p = true := by rw [Nat.add_comm, Nat.testBit_two_pow_add_eq, Nat.testBit_lt_two_pow ht]; rfl
theorem bit_up {t p i : Nat} (ht : t < 2 ^ p) (hi : p ≤ i) : t.testBit i = false := Nat.testBit_lt_two_pow (Nat.lt_of_lt_of_le ht (Nat.pow_le_pow_right (by decide) hi))
theorem Inc.parts {p : Nat} {g : Nat → Rat} (h : Inc (p + 1) g) : Inc p g ∧ Inc p (fun t => g (t + 2 ^ p)) ∧ ∀ t, t < 2 ^ p → g t ≤ g (t + 2 ^ p) := by
  have hp := two_pow_succ p
  refine ⟨fun s t hs ht e => h s t (by omega) (by omega) e, fun s t hs ht e => h _ _ (by omega) (by omega) fun i hi => ?_, fun t ht => h _ _ (by omega) (by omega) fun i hi => ?_⟩
  · rcases Nat.lt_trichotomy i p with h1 | h1 | h1
    · rw [bit_low h1] at hi ⊢; exact e i hi
    · subst h1; exact bit_at ht
    · rw [bit_up (p := p + 1) (by omega) (by omega)] at hi; cases hi
  · rcases Nat.lt_or_ge i p with h1 | h1
    · rw [bit_low h1]; exact hi
    · rw [bit_up ht h1] at hi; cases hi
theorem fkg_alg {c a0 a1 b0 b1 u v : Rat} (c0 : 0 ≤ c) (c1 : c ≤ 1) (ha : a0 ≤ a1) (hb : b0 ≤ b1) (hu : a0 * b0 ≤ u) (hv : a1 * b1 ≤ v) : ((1 - c) * a0 + c * a1) * ((1 - c) * b0 + c * b1) ≤ (1 - c) * u + c * v := by
  have h1 := rmul_le hu (show (0 : Rat) ≤ 1 - c by grind)
  have h2 := rmul_le hv c0
  have h3 := rmul_nn (rmul_nn c0 (show (0 : Rat) ≤ 1 - c by grind)) (rmul_nn (show (0 : Rat) ≤ a1 - a0 by grind) (show (0 : Rat) ≤ b1 - b0 by grind))
  have e : ((1 - c) * a0 + c * a1) * ((1 - c) * b0 + c * b1) + c * (1 - c) * ((a1 - a0) * (b1 - b0)) = (1 - c) * (a0 * b0) + c * (a1 * b1) := by grind
  grind
/-- Two functions that rise together. -/
theorem Ex_fkg {C : Nat → Rat} : ∀ {p : Nat} {g h : Nat → Rat}, InU C p → Inc p g → Inc p h → Ex C p g * Ex C p h ≤ Ex C p (fun s => g s * h s)
  | 0, g, h, _, _, _ => Rat.le_refl
  | p + 1, g, h, hC, hg, hh => by
    obtain ⟨c0, c1⟩ := hC p (by omega)
    have hC' := hC.le (Nat.le_succ p)
    obtain ⟨g1, g2, g3⟩ := hg.parts
    obtain ⟨h1, h2, h3⟩ := hh.parts
    exact fkg_alg c0 c1 (Ex_le hC' g3) (Ex_le hC' h3) (Ex_fkg hC' g1 h1) (Ex_fkg hC' g2 h2)
theorem Ex_fkg' {C : Nat → Rat} {p : Nat} {g h : Nat → Rat} (hC : InU C p) (hg : Inc p fun s => 1 - g s) (hh : Inc p fun s => 1 - h s) : Ex C p g * Ex C p h ≤ Ex C p (fun s => g s * h s) := by
  have hN : ∀ f : Nat → Rat, Inc p (fun s => 1 - f s) → Inc p fun s => -1 * f s + 0 := fun f hf s t hs ht e => by have := hf s t hs ht e; grind
  have h1 := Ex_fkg hC (hN g hg) (hN h hh)
  rw [Ex_lin, Ex_lin] at h1
  have e : Ex C p (fun s => (-1 * g s + 0) * (-1 * h s + 0)) = Ex C p (fun s => g s * h s) := Ex_congr fun s _ => by grind
  rw [e] at h1
  grind
/-- Products over a list. -/
def prL (gs : List (Nat → Rat)) (s : Nat) : Rat := (gs.map fun g => g s).foldr (· * ·) 1
theorem Ex_fkgL {C : Nat → Rat} {p : Nat} (hC : InU C p) : ∀ {gs : List (Nat → Rat)}, (∀ g ∈ gs, Inc p g ∧ ∀ s, s < 2 ^ p → 0 ≤ g s) → (gs.map (Ex C p)).foldr (· * ·) 1 ≤ Ex C p (prL gs) ∧ Inc p (prL gs) ∧ ∀ s, s < 2 ^ p → 0 ≤ prL gs s
  | [], _ => by
    refine ⟨?_, fun _ _ _ _ _ => Rat.le_refl, fun _ _ => by show (0 : Rat) ≤ 1; decide⟩
    have : Ex C p (prL []) = 1 := Ex_one
    rw [this]; exact Rat.le_refl
  | g :: gs, h => by
    obtain ⟨i1, i2, i3⟩ := Ex_fkgL hC (gs := gs) fun x hx => h x (List.mem_cons_of_mem _ hx)
    obtain ⟨g1, g2⟩ := h g (by simp)
    have e : prL (g :: gs) = fun s => g s * prL gs s := rfl
    have hE : 0 ≤ Ex C p g := by have := Ex_le hC (g := fun _ => 0) (h := g) g2; rw [Ex_zero] at this; exact this
    refine ⟨?_, ?_, ?_⟩
    · have h1 := Ex_fkg hC g1 i2
      have h2 := rmul_le i1 hE
      rw [e]
      exact Rat.le_trans h2 h1
    · intro s t hs ht hb
      have a1 := g1 s t hs ht hb
      have a2 := i2 s t hs ht hb
      have b1 := rmul_le a2 (g2 s hs)
      have b2 := Rat.mul_le_mul_of_nonneg_right a1 (i3 t ht)
      rw [e]
      exact Rat.le_trans b1 b2
    · intro s hs; rw [e]; exact rmul_nn (g2 s hs) (i3 s hs)
/-! ### A set holds another -/
def subK (x s : Nat) : Nat → Bool
  | 0 => true
  | i + 1 => subK x s i && (!x.testBit i || s.testBit i)
theorem subK_congr {x s t : Nat} : ∀ {p : Nat}, (∀ i, i < p → s.testBit i = t.testBit i) → subK x s p = subK x t p
  | 0, _ => rfl
  | p + 1, h => by unfold subK; rw [subK_congr fun i hi => h i (by omega), h p (by omega)]
theorem subK_iff {x s : Nat} : ∀ {p : Nat}, subK x s p = true ↔ ∀ i, i < p → x.testBit i = true → s.testBit i = true
  | 0 => by simp [subK]
  | p + 1 => by
    unfold subK
    rw [Bool.and_eq_true, subK_iff, Bool.or_eq_true, Bool.not_eq_true']
    constructor
    · rintro ⟨h1, h2⟩ i hi hx
      rcases Nat.lt_or_ge i p with h | h
      · exact h1 i h hx
      · obtain rfl : i = p := by omega
        rcases h2 with h2 | h2
        · rw [h2] at hx; cases hx
        · exact h2
    · intro h
      refine ⟨fun i hi => h i (by omega), ?_⟩
      cases hx : x.testBit p
      · exact .inl rfl
      · exact .inr (h p (by omega) hx)
def ind (f : Nat → Bool) (s : Nat) : Rat := if f s then 1 else 0
def ind1 (b : Bool) : Rat := if b then 1 else 0
theorem subK_succ (x s p : Nat) : subK x s (p + 1) = (subK x s p && (!x.testBit p || s.testBit p)) := rfl
theorem ind_nn (f : Nat → Bool) (s : Nat) : 0 ≤ ind f s := by unfold ind; split <;> decide
theorem ind_le (f : Nat → Bool) (s : Nat) : ind f s ≤ 1 := by unfold ind; split <;> decide
theorem ind_inc {f : Nat → Bool} {p : Nat} (h : ∀ s t, s < 2 ^ p → t < 2 ^ p → (∀ i, s.testBit i = true → t.testBit i = true) → f s = true → f t = true) : Inc p (ind f) := by
  intro s t hs ht e
  unfold ind
  cases hf : f s
  · have := ind_nn f t; unfold ind at this; simpa using this
  · rw [h s t hs ht e hf]; exact Rat.le_refl
/-- The product of the chances of the parts of a set. -/
def poR (x : Nat) (C : Nat → Rat) : Nat → Rat
  | 0 => 1
  | i + 1 => if x.testBit i then poR x C i * C i else poR x C i
theorem Ex_sub (x : Nat) (C : Nat → Rat) : ∀ p, Ex C p (ind fun s => subK x s p) = poR x C p
  | 0 => rfl
  | p + 1 => by
    unfold Ex poR
    have e0 : Ex C p (ind fun s => subK x s (p + 1)) = if x.testBit p then 0 else poR x C p := by
      cases hx : x.testBit p
      · rw [← Ex_sub x C p]
        refine Ex_congr fun s hs => ?_
        show ind1 (subK x s (p + 1)) = ind1 (subK x s p)
        rw [subK_succ, hx]; simp
      · have : Ex C p (ind fun s => subK x s (p + 1)) = Ex C p (fun _ => 0) := Ex_congr fun s hs => by
          show ind1 (subK x s (p + 1)) = 0
          rw [subK_succ, hx, bit_up hs (Nat.le_refl p)]; simp [ind1]
        rw [this, Ex_zero]; rfl
    have e1 : Ex C p (fun t => ind (fun s => subK x s (p + 1)) (t + 2 ^ p)) = poR x C p := by
      rw [← Ex_sub x C p]
      refine Ex_congr fun s hs => ?_
      show ind1 (subK x (s + 2 ^ p) (p + 1)) = ind1 (subK x s p)
      rw [subK_succ, bit_at hs, subK_congr (s := s + 2 ^ p) (t := s) fun i hi => bit_low hi]
      simp
    rw [e0, e1]
    split <;> grind
/-- A set holds none of another's parts. -/
def disK (x s : Nat) : Nat → Bool
  | 0 => true
  | i + 1 => disK x s i && (!x.testBit i || !s.testBit i)
theorem disK_succ (x s p : Nat) : disK x s (p + 1) = (disK x s p && (!x.testBit p || !s.testBit p)) := rfl
theorem disK_congr {x s t : Nat} : ∀ {p : Nat}, (∀ i, i < p → s.testBit i = t.testBit i) → disK x s p = disK x t p
  | 0, _ => rfl
  | p + 1, h => by unfold disK; rw [disK_congr fun i hi => h i (by omega), h p (by omega)]
theorem disK_iff {x s : Nat} : ∀ {p : Nat}, disK x s p = true ↔ ∀ i, i < p → x.testBit i = true → s.testBit i = false
  | 0 => by simp [disK]
  | p + 1 => by
    unfold disK
    rw [Bool.and_eq_true, disK_iff, Bool.or_eq_true, Bool.not_eq_true', Bool.not_eq_true']
    constructor
    · rintro ⟨h1, h2⟩ i hi hx
      rcases Nat.lt_or_ge i p with h | h
      · exact h1 i h hx
      · obtain rfl : i = p := by omega
        rcases h2 with h2 | h2
        · rw [h2] at hx; cases hx
        · exact h2
    · intro h
      refine ⟨fun i hi => h i (by omega), ?_⟩
      cases hx : x.testBit p
      · exact .inl rfl
      · exact .inr (h p (by omega) hx)
theorem Ex_dis (x : Nat) (C : Nat → Rat) : ∀ p, Ex C p (ind fun s => disK x s p) = poR x (fun i => 1 - C i) p
  | 0 => rfl
  | p + 1 => by
    unfold Ex poR
    have e1 : Ex C p (fun t => ind (fun s => disK x s (p + 1)) (t + 2 ^ p)) = if x.testBit p then 0 else poR x (fun i => 1 - C i) p := by
      cases hx : x.testBit p
      · rw [← Ex_dis x C p]
        refine Ex_congr fun s hs => ?_
        show ind1 (disK x (s + 2 ^ p) (p + 1)) = ind1 (disK x s p)
        rw [disK_succ, hx, disK_congr (s := s + 2 ^ p) (t := s) fun i hi => bit_low hi]; simp
      · have : Ex C p (fun t => ind (fun s => disK x s (p + 1)) (t + 2 ^ p)) = Ex C p (fun _ => 0) := Ex_congr fun s hs => by
          show ind1 (disK x (s + 2 ^ p) (p + 1)) = 0
          rw [disK_succ, hx, bit_at hs]; simp [ind1]
        rw [this, Ex_zero]; rfl
    have e0 : Ex C p (ind fun s => disK x s (p + 1)) = poR x (fun i => 1 - C i) p := by
      rw [← Ex_dis x C p]
      refine Ex_congr fun s hs => ?_
      show ind1 (disK x s (p + 1)) = ind1 (disK x s p)
      rw [disK_succ, bit_up hs (Nat.le_refl p)]
      simp
    rw [e0, e1]
    split <;> grind

/-! ### The mean as a sum over all sets -/
def pkR (s : Nat) (C : Nat → Rat) : Nat → Rat
  | 0 => 1
  | i + 1 => pkR s C i * if s.testBit i then C i else 1 - C i
theorem pkR_congr {s t : Nat} {C : Nat → Rat} : ∀ {p : Nat}, (∀ i, i < p → s.testBit i = t.testBit i) → pkR s C p = pkR t C p
  | 0, _ => rfl
  | p + 1, h => by unfold pkR; rw [pkR_congr fun i hi => h i (by omega), h p (by omega)]
theorem sum_app (a b : List Rat) : (a ++ b).sum = a.sum + b.sum := by
  induction a with
  | nil => simp only [List.nil_append, List.sum_nil]; grind
  | cons x a ih => simp only [List.cons_append, List.sum_cons, ih]; grind
theorem sum_mul (c : Rat) (f : Nat → Rat) (l : List Nat) : (l.map fun s => c * f s).sum = c * (l.map f).sum := by
  induction l with
  | nil => simp only [List.map_nil, List.sum_nil]; grind
  | cons x a ih => simp only [List.map_cons, List.sum_cons, ih]; grind
theorem Ex_sum (C : Nat → Rat) : ∀ (p : Nat) (g : Nat → Rat), ((List.range (2 ^ p)).map fun s => g s * pkR s C p).sum = Ex C p g
  | 0, g => by simp [Ex, pkR, Rat.add_zero]
  | p + 1, g => by
    have hr : List.range (2 ^ (p + 1)) = List.range (2 ^ p) ++ (List.range (2 ^ p)).map fun t => 2 ^ p + t := by rw [two_pow_succ, List.range_add]
    unfold Ex
    rw [hr, List.map_append, sum_app, List.map_map, ← Ex_sum C p g, ← Ex_sum C p fun t => g (t + 2 ^ p), ← sum_mul, ← sum_mul]
    congr 1
    · congr 1
      refine List.map_congr_left fun s hs => ?_
      have hs := List.mem_range.1 hs
      have e : pkR s C (p + 1) = pkR s C p * if s.testBit p then C p else 1 - C p := rfl
      rw [e, bit_up hs (Nat.le_refl p)]
      simp only [Bool.false_eq_true, if_false]
      grind
    · congr 1
      refine List.map_congr_left fun s hs => ?_
      have hs := List.mem_range.1 hs
      show g (2 ^ p + s) * pkR (2 ^ p + s) C (p + 1) = _
      rw [Nat.add_comm (2 ^ p) s]
      have e : pkR (s + 2 ^ p) C (p + 1) = pkR (s + 2 ^ p) C p * if (s + 2 ^ p).testBit p then C p else 1 - C p := rfl
      rw [e, bit_at hs, pkR_congr (s := s + 2 ^ p) (t := s) fun i hi => bit_low hi]
      simp only [if_true]
      grind

/-! ### One chance changed -/
def upd (C : Nat → Rat) (i : Nat) (a : Rat) (j : Nat) : Rat := if j = i then a else C j
theorem Ex_at {C : Nat → Rat} {i : Nat} : ∀ {p : Nat} {g : Nat → Rat}, i < p → Ex C p g = (1 - C i) * Ex (upd C i 0) p g + C i * Ex (upd C i 1) p g
  | 0, g, h => absurd h (by omega)
  | p + 1, g, h => by
    unfold Ex
    by_cases hi : i = p
    · subst hi
      have e : ∀ a (g : Nat → Rat), Ex (upd C i a) i g = Ex C i g := fun a g => Ex_chances fun j hj => by unfold upd; rw [if_neg (by omega)]
      rw [e, e, e, e]
      unfold upd
      simp only [if_true]
      grind
    · have e : ∀ a, upd C i a p = C p := fun a => by unfold upd; rw [if_neg (fun h => hi h.symm)]
      rw [e, e, Ex_at (g := g) (show i < p by omega), Ex_at (g := fun t => g (t + 2 ^ p)) (show i < p by omega)]
      grind
theorem upd_inU {C : Nat → Rat} {p i : Nat} {a : Rat} (h : InU C p) (a0 : 0 ≤ a) (a1 : a ≤ 1) : InU (upd C i a) p := fun j hj => by
  unfold upd; split
  · exact ⟨a0, a1⟩
  · exact h j hj
theorem Ex_upd {C : Nat → Rat} {i : Nat} : ∀ {p : Nat} {g : Nat → Rat}, i < p → InU C p → Inc p g → Ex (upd C i 0) p g ≤ Ex (upd C i 1) p g
  | 0, g, h, _, _ => absurd h (by omega)
  | p + 1, g, h, hC, hg => by
    obtain ⟨g1, g2, g3⟩ := hg.parts
    unfold Ex
    by_cases hi : i = p
    · subst hi
      have e : ∀ a (g : Nat → Rat), Ex (upd C i a) i g = Ex C i g := fun a g => Ex_chances fun j hj => by unfold upd; rw [if_neg (by omega)]
      rw [e, e, e, e]
      have := Ex_le (hC.le (Nat.le_succ i)) g3
      unfold upd
      simp only [if_true]
      grind
    · have e : ∀ a, upd C i a p = C p := fun a => by unfold upd; rw [if_neg (fun h => hi h.symm)]
      obtain ⟨c0, c1⟩ := hC p (by omega)
      have h1 := Ex_upd (show i < p by omega) (hC.le (Nat.le_succ p)) g1
      have h2 := Ex_upd (show i < p by omega) (hC.le (Nat.le_succ p)) g2
      have h3 := rmul_le h1 (show (0 : Rat) ≤ 1 - C p by grind)
      have h4 := rmul_le h2 c0
      rw [e, e]
      grind
theorem Ex_bounds {C : Nat → Rat} {p : Nat} {g : Nat → Rat} (hC : InU C p) (h0 : ∀ s, s < 2 ^ p → 0 ≤ g s) (h1 : ∀ s, s < 2 ^ p → g s ≤ 1) : 0 ≤ Ex C p g ∧ Ex C p g ≤ 1 := by
  have a := Ex_le hC (g := fun _ => 0) (h := g) h0
  have b := Ex_le hC (g := g) (h := fun _ => 1) h1
  rw [Ex_zero] at a; rw [Ex_one] at b
  exact ⟨a, b⟩
/-- Less by chance, less in the mean. -/
theorem Ex_less {C : Nat → Rat} {i p : Nat} {g : Nat → Rat} (hi : i < p) (hC : InU C p) (hg : Inc p g) : Ex (upd C i 0) p g ≤ Ex C p g := by
  have h1 := Ex_upd hi hC hg
  obtain ⟨c0, c1⟩ := hC i hi
  have h2 := rmul_le h1 c0
  rw [Ex_at (C := C) hi]
  grind
/-- The mean at halves. -/
theorem Ex_half : ∀ (p : Nat) (g : Nat → Rat), Ex (fun _ => 1 / 2) p g * ((2 ^ p : Nat) : Rat) = ((List.range (2 ^ p)).map g).sum
  | 0, g => by simp [Ex, Rat.add_zero]
  | p + 1, g => by
    have hr : List.range (2 ^ (p + 1)) = List.range (2 ^ p) ++ (List.range (2 ^ p)).map fun t => 2 ^ p + t := by rw [two_pow_succ, List.range_add]
    have e2 : ((2 ^ (p + 1) : Nat) : Rat) = ((2 ^ p : Nat) : Rat) + ((2 ^ p : Nat) : Rat) := by rw [two_pow_succ]; exact Rat.natCast_add _ _
    have e3 : ((fun s => g s) ∘ fun t => 2 ^ p + t) = fun t => g (t + 2 ^ p) := by funext t; show g (2 ^ p + t) = _; rw [Nat.add_comm]
    unfold Ex
    rw [hr, List.map_append, sum_app, List.map_map, e3, ← Ex_half p g, ← Ex_half p fun t => g (t + 2 ^ p), e2]
    grind
theorem sum_ind (f : Nat → Bool) (l : List Nat) : (l.map (ind f)).sum = ((l.countP f : Nat) : Rat) := by
  induction l with
  | nil => rfl
  | cons x a ih =>
    rw [List.map_cons, List.sum_cons, ih, List.countP_cons]
    unfold ind
    split
    · rw [Rat.natCast_add]; show (1 : Rat) + _ = _ + ((1 : Nat) : Rat); have : ((1 : Nat) : Rat) = 1 := rfl; grind
    · rw [Nat.add_zero]; grind
end Go.Proofs.Ytgmdoboeenpjpaa
/- Chances of systems as 32-bit numbers lie near to the exact ones. Plain. Condition: at most five parts, chances from 0 to 1. -/
namespace Go.Proofs.Ytgmdoboeenpjpaa
open Go Go.RowKit

attribute [local irreducible] tw
/-- What one operation errs at most. -/
def dl : Rat := 1 / 5000000
theorem dl_pos : 0 ≤ dl := by decide +kernel
theorem u32e : uu .f32 ≤ 1 / 16000000 ∧ 0 < uu .f32 ∧ eta .f32 ≤ 1 / 100000000000 ∧ 0 < eta .f32 := by
  refine ⟨?_, tw_pos _, ?_, eta32.1⟩
  · rw [uu32]; decide +kernel
  · exact Rat.le_trans eta32.2 (by decide +kernel)
theorem abs_mul {u v e B : Rat} (h1 : -e ≤ u) (h2 : u ≤ e) (h3 : -B ≤ v) (h4 : v ≤ B) : u * v ≤ e * B ∧ -(e * B) ≤ u * v := by
  have a := rmul_nn (show (0 : Rat) ≤ e - u by grind) (show (0 : Rat) ≤ B + v by grind)
  have b := rmul_nn (show (0 : Rat) ≤ e + u by grind) (show (0 : Rat) ≤ B - v by grind)
  have c := rmul_nn (show (0 : Rat) ≤ e - u by grind) (show (0 : Rat) ≤ B - v by grind)
  have d := rmul_nn (show (0 : Rat) ≤ e + u by grind) (show (0 : Rat) ≤ B + v by grind)
  constructor <;> grind
theorem rnd32 {A : Rat} (h : A ≤ 3) : uu .f32 * A + eta .f32 ≤ dl := by
  obtain ⟨h1, h2, h3, h4⟩ := u32e
  have := rmul_le h (Rat.le_of_lt h2)
  unfold dl; grind
theorem near_mul {a b : Nat} {x y e f : Rat} (h1 : Nr .f32 a x e) (h2 : Nr .f32 b y f) (x0 : 0 ≤ x) (x1 : x ≤ 1) (y0 : 0 ≤ y) (y1 : y ≤ 1) (e0 : 0 ≤ e) (e1 : e ≤ 1 / 100) (f0 : 0 ≤ f) (f1 : f ≤ 1 / 100) :
    Nr .f32 (fop .mul .f32 a b) (x * y) (e + 2 * f + dl) := by
  obtain ⟨n1, l1, u1⟩ := h1
  obtain ⟨n2, l2, u2⟩ := h2
  have h100 := tw100
  obtain ⟨p1, p2⟩ := abs_mul (u := fv .f32 a - x) (v := fv .f32 b) (e := e) (B := 1 + f) (by grind) (by grind) (by grind) (by grind)
  obtain ⟨q1, q2⟩ := abs_mul (u := fv .f32 b - y) (v := x) (e := f) (B := 1) (by grind) (by grind) (by grind) (by grind)
  have r := rmul_le e1 f0
  have xy0 := rmul_nn x0 y0
  have xy1 := rmul_le y1 x0
  have e2 : fv .f32 a * fv .f32 b = x * y + (fv .f32 a - x) * fv .f32 b + (fv .f32 b - y) * x := by grind
  generalize (fv .f32 a - x) * fv .f32 b = P at *
  generalize (fv .f32 b - y) * x = Q at *
  obtain ⟨⟨n, l, u⟩, _⟩ := (wr_mul n1 n2).nr (A := 2) (by rw [e2]; grind) (by rw [e2]; grind) (by grind)
  have hr := rnd32 (A := 2) (by grind)
  rw [e2] at l u
  exact ⟨n, by grind, by grind⟩
theorem near_add {a b : Nat} {x y e f : Rat} (h1 : Nr .f32 a x e) (h2 : Nr .f32 b y f) (x0 : 0 ≤ x) (y0 : 0 ≤ y) (s : x + y ≤ 2) (h : e + f ≤ 1) : Nr .f32 (fop .add .f32 a b) (x + y) (e + f + dl) := by
  have h100 := tw100
  have h := h1.add h2 (A := 3) (by grind) (by grind) (by grind)
  have hr := rnd32 (A := 3) (by grind)
  exact h.mono (by grind)
theorem near_sub {a b : Nat} {x y e f : Rat} (h1 : Nr .f32 a x e) (h2 : Nr .f32 b y f) (x0 : 0 ≤ x) (x1 : x ≤ 1) (y0 : 0 ≤ y) (y1 : y ≤ 1) (h : e + f ≤ 1) : Nr .f32 (fop .sub .f32 a b) (x - y) (e + f + dl) := by
  have h100 := tw100
  have h := h1.sub h2 (A := 3) (by grind) (by grind) (by grind)
  have hr := rnd32 (A := 3) (by grind)
  exact h.mono (by grind)
theorem oneF_val : Num .f32 oneF ∧ fv .f32 oneF = 1 := by
  have h : (FloatKind.f32).format.read oneF = .number false 8388608 (-23) := by decide +kernel
  refine ⟨⟨_, _, _, h⟩, ?_⟩
  rw [fv_eq h]
  have h1 := tw_neg 23
  have h2 : tw (-((23 : Nat) : Int)) = tw (-23) := rfl
  have h3 : ((2 ^ 23 : Nat) : Rat) = 8388608 := rfl
  have h4 : ((8388608 : Nat) : Rat) = 8388608 := rfl
  rw [h2, h3] at h1
  simp only [Bool.false_eq_true, if_false, h4]
  grind
theorem oneF_near : Nr .f32 oneF 1 0 := by have h := Nr.of oneF_val.1; rw [oneF_val.2] at h; exact h
/-- Chances, as numbers and as fractions. -/
def ShR (p : Nat) (C : List Nat) : Prop := ∀ i, i < p → Num .f32 (C.getD i 0) ∧ 0 ≤ fv .f32 (C.getD i 0) ∧ fv .f32 (C.getD i 0) ≤ 1
def cR (C : List Nat) (i : Nat) : Rat := fv .f32 (C.getD i 0)
theorem ShR.inU {p : Nat} {C : List Nat} (h : ShR p C) : InU (cR C) p := fun i hi => (h i hi).2
theorem pick_near {p s i : Nat} {C : List Nat} (h : ShR p C) (hi : i < p) : Nr .f32 (pickC s i (C.getD i 0)) (if s.testBit i then cR C i else 1 - cR C i) dl := by
  obtain ⟨n, c0, c1⟩ := h i hi
  have hd := dl_pos
  unfold pickC
  split
  · exact (Nr.of n).mono hd
  · exact (near_sub oneF_near (Nr.of n) (by grind) (by grind) c0 c1 (by grind)).mono (by grind)
theorem pkR_in {C : Nat → Rat} {p s : Nat} (h : InU C p) : ∀ i, i ≤ p → 0 ≤ pkR s C i ∧ pkR s C i ≤ 1
  | 0, _ => by unfold pkR; constructor <;> decide
  | i + 1, hi => by
    obtain ⟨a0, a1⟩ := pkR_in h (s := s) i (by omega)
    obtain ⟨c0, c1⟩ := h i (by omega)
    unfold pkR
    have hb : 0 ≤ (if s.testBit i then C i else 1 - C i) ∧ (if s.testBit i then C i else 1 - C i) ≤ 1 := by split <;> constructor <;> grind
    have h1 := rmul_nn a0 hb.1
    have h2 := rmul_le hb.2 a0
    exact ⟨h1, by grind⟩
theorem prK_near {p s : Nat} {C : List Nat} (h : ShR p C) : ∀ i, i ≤ p → i ≤ 5 → Nr .f32 (prK s C i) (pkR s (cR C) i) ((i : Rat) * (3 * dl))
  | 0, _, _ => by
    have : ((0 : Nat) : Rat) * (3 * dl) = 0 := Rat.zero_mul _
    rw [this]; exact oneF_near
  | i + 1, hi, h5 => by
    obtain ⟨a0, a1⟩ := pkR_in h.inU (s := s) i (by omega)
    obtain ⟨c0, c1⟩ := h.inU i (by omega)
    have ih := prK_near (s := s) h i (by omega) (by omega)
    have hb : 0 ≤ (if s.testBit i then cR C i else 1 - cR C i) ∧ (if s.testBit i then cR C i else 1 - cR C i) ≤ 1 := by split <;> constructor <;> grind
    have e : ((i + 1 : Nat) : Rat) = (i : Rat) + 1 := Rat.natCast_add i 1
    have hi5 : (i : Rat) ≤ 5 := by have : i ≤ 5 := by omega
                                   exact_mod_cast this
    have hi0 : (0 : Rat) ≤ (i : Rat) := Rat.natCast_nonneg
    have hd := dl_pos
    have hd1 : dl ≤ 1 / 5000000 := by unfold dl; grind
    have k0 := rmul_nn hi0 (show (0 : Rat) ≤ 3 * dl by grind)
    have k1 := Rat.mul_le_mul_of_nonneg_right hi5 (show (0 : Rat) ≤ 3 * dl by grind)
    have := near_mul ih (pick_near (s := s) h (show i < p by omega)) a0 a1 hb.1 hb.2 k0 (by grind) hd (by grind)
    unfold prK pkR
    exact this.mono (by rw [e]; grind)
theorem near_sum {f : Nat → Nat} {r : Nat → Rat} {η : Rat} (h0 : 0 ≤ η) (h1 : η ≤ 1 / 10000) : ∀ (l : List Nat) (s0 : Nat) (X e : Rat), (∀ s ∈ l, Nr .f32 (f s) (r s) η ∧ 0 ≤ r s) → l.length ≤ 64 → Nr .f32 s0 X e → 0 ≤ e → e + (l.length : Rat) * (η + dl) ≤ 1 / 2 → 0 ≤ X → X + (l.map r).sum ≤ 2 →
    Nr .f32 (sumF s0 (l.map f)) (X + (l.map r).sum) (e + (l.length : Rat) * (η + dl))
  | [], s0, X, e, _, _, hs, _, _, _, _ => by
    have : (([] : List Nat).length : Rat) * (η + dl) = 0 := Rat.zero_mul _
    rw [this]
    show Nr .f32 s0 (X + 0) (e + 0)
    exact ⟨hs.1, by have := hs.2.1; grind, by have := hs.2.2; grind⟩
  | s :: l, s0, X, e, hl, h64, hs, he0, he, hX, hS => by
    have hd := dl_pos
    obtain ⟨n1, n2⟩ := hl s (by simp)
    have e1 : (((s :: l).length : Nat) : Rat) = (l.length : Rat) + 1 := Rat.natCast_add l.length 1
    have hl0 : (0 : Rat) ≤ (l.length : Rat) := Rat.natCast_nonneg
    have k0 := rmul_nn hl0 (show (0 : Rat) ≤ η + dl by grind)
    rw [e1] at he ⊢
    rw [List.map_cons (f := r), List.sum_cons] at hS ⊢
    have hr0 : 0 ≤ (l.map r).sum := by
      have : ∀ (l : List Nat), (∀ s ∈ l, 0 ≤ r s) → 0 ≤ (l.map r).sum := by
        intro l
        induction l with
        | nil => intro _; exact Rat.le_refl
        | cons y l ih => intro h; rw [List.map_cons, List.sum_cons]; have := h y (by simp); have := ih fun z hz => h z (List.mem_cons_of_mem _ hz); grind
      exact this l fun z hz => (hl z (List.mem_cons_of_mem _ hz)).2
    have st := near_add hs n1 hX n2 (by grind) (by grind)
    have := near_sum h0 h1 l (fop .add .f32 s0 (f s)) (X + r s) (e + η + dl) (fun z hz => hl z (List.mem_cons_of_mem _ hz)) (by simp at h64; omega) st (by grind) (by grind) (by grind) (by grind)
    show Nr .f32 (sumF (fop .add .f32 s0 (f s)) (l.map f)) _ _
    rw [show X + (r s + (l.map r).sum) = X + r s + (l.map r).sum by grind, show e + ((l.length : Rat) + 1) * (η + dl) = e + η + dl + (l.length : Rat) * (η + dl) by grind]
    exact this
theorem sum_filter (f : Nat → Bool) (r : Nat → Rat) (l : List Nat) : ((l.filter f).map r).sum = (l.map fun s => ind f s * r s).sum := by
  induction l with
  | nil => rfl
  | cons x a ih =>
    rw [List.map_cons, List.sum_cons, ← ih]
    unfold ind
    cases hf : f x
    · rw [List.filter_cons_of_neg (by rw [hf]; simp)]
      simp only [Bool.false_eq_true, if_false]
      grind
    · rw [List.filter_cons_of_pos hf, List.map_cons, List.sum_cons]
      simp only [if_true]
      grind
/-- What a chance errs at most. -/
def ep : Rat := 1 / 9000
theorem zeroF_near : Nr .f32 (cn .f32 0) 0 0 := by
  have h : (FloatKind.f32).format.read (cn .f32 0) = .number false 0 (-149) := by decide +kernel
  have n : Num .f32 (cn .f32 0) := ⟨_, _, _, h⟩
  have v : fv .f32 (cn .f32 0) = 0 := by rw [fv_eq h]; show ((0 : Nat) : Rat) * tw (-149) = 0; exact Rat.zero_mul _
  have := Nr.of n
  rw [v] at this
  exact this
theorem chS_near {p : Nat} {ns C : List Nat} (hp : p ≤ 5) (h : ShR p C) : Nr .f32 (chS p ns C) (Ex (cR C) p (ind (worksB ns))) ep := by
  have hd : dl = 1 / 5000000 := rfl
  have hep : ep = 1 / 9000 := rfl
  have hpr : (p : Rat) ≤ 5 := by exact_mod_cast hp
  have hp0 : (0 : Rat) ≤ (p : Rat) := Rat.natCast_nonneg
  have hlen : ((List.range (2 ^ p)).filter (worksB ns)).length ≤ 32 := by
    refine Nat.le_trans (List.length_filter_le _ _) ?_
    rw [List.length_range]
    exact Nat.pow_le_pow_right (n := 2) (by decide) hp
  have hb := Ex_bounds h.inU (g := ind (worksB ns)) (fun s _ => ind_nn _ s) (fun s _ => ind_le _ s)
  have hs : (((List.range (2 ^ p)).filter (worksB ns)).map fun s => pkR s (cR C) p).sum = Ex (cR C) p (ind (worksB ns)) := by
    rw [sum_filter]; exact Ex_sum _ _ _
  have hlr : ((((List.range (2 ^ p)).filter (worksB ns)).length : Nat) : Rat) ≤ 32 := by exact_mod_cast hlen
  have hl0 : (0 : Rat) ≤ ((((List.range (2 ^ p)).filter (worksB ns)).length : Nat) : Rat) := Rat.natCast_nonneg
  have k0 : (0 : Rat) ≤ 15 * dl := by rw [hd]; decide +kernel
  have k1 := Rat.mul_le_mul_of_nonneg_right hlr (show (0 : Rat) ≤ 15 * dl + dl by rw [hd]; decide +kernel)
  have key := near_sum (f := fun s => prK s C p) (r := fun s => pkR s (cR C) p) (η := 15 * dl) k0 (by rw [hd]; decide +kernel) ((List.range (2 ^ p)).filter (worksB ns)) (cn .f32 0) 0 0
    (fun s _ => ⟨(prK_near h p (Nat.le_refl p) hp).mono (by rw [hd]; grind), (pkR_in h.inU p (Nat.le_refl p)).1⟩) (by omega) zeroF_near (by grind) (by rw [hd] at k1 ⊢; grind) (by grind) (by rw [hs]; grind)
  rw [hs, show (0 : Rat) + Ex (cR C) p (ind (worksB ns)) = Ex (cR C) p (ind (worksB ns)) by grind] at key
  unfold chS
  exact key.mono (by rw [hd] at k1 ⊢; rw [hep]; grind)
/-- The product over the parts of a set, nearly. -/
theorem poK_near {p x : Nat} {f : Nat → Nat} {C : List Nat} {D : Nat → Rat} (h : ∀ i, i < p → Nr .f32 (f (C.getD i 0)) (D i) dl) (hD : InU D p) : ∀ i, i ≤ p → i ≤ 5 → Nr .f32 (poK f x C i) (poR x D i) ((i : Rat) * (3 * dl)) ∧ 0 ≤ poR x D i ∧ poR x D i ≤ 1
  | 0, _, _ => by
    have : ((0 : Nat) : Rat) * (3 * dl) = 0 := Rat.zero_mul _
    rw [this]; exact ⟨oneF_near, by unfold poR; decide, by unfold poR; decide⟩
  | i + 1, hi, h5 => by
    obtain ⟨ih, a0, a1⟩ := poK_near (x := x) h hD i (by omega) (by omega)
    obtain ⟨c0, c1⟩ := hD i (by omega)
    have e : ((i + 1 : Nat) : Rat) = (i : Rat) + 1 := Rat.natCast_add i 1
    have hi5 : (i : Rat) ≤ 5 := by have : i ≤ 5 := by omega
                                   exact_mod_cast this
    have hi0 : (0 : Rat) ≤ (i : Rat) := Rat.natCast_nonneg
    have hd := dl_pos
    have hd1 : dl ≤ 1 / 5000000 := by unfold dl; grind
    have k0 := rmul_nn hi0 (show (0 : Rat) ≤ 3 * dl by grind)
    have k1 := Rat.mul_le_mul_of_nonneg_right hi5 (show (0 : Rat) ≤ 3 * dl by grind)
    unfold poK poR
    split
    · have := near_mul ih (h i (by omega)) a0 a1 c0 c1 k0 (by grind) hd (by grind)
      have m0 := rmul_nn a0 c0
      have m1 := rmul_le c1 a0
      exact ⟨this.mono (by rw [e]; grind), m0, by grind⟩
    · exact ⟨ih.mono (by rw [e]; grind), a0, a1⟩
def bdR (D : Nat → Rat) (p : Nat) (xs : List Nat) : Rat := xs.foldl (fun a x => a * (1 - poR x D p)) 1
theorem bd_fold {p : Nat} {f : Nat → Nat} {C : List Nat} {D : Nat → Rat} (hp : p ≤ 5) (h : ∀ i, i < p → Nr .f32 (f (C.getD i 0)) (D i) dl) (hD : InU D p) :
    ∀ (xs : List Nat) (a : Nat) (X e : Rat), Nr .f32 a X e → 0 ≤ X → X ≤ 1 → 0 ≤ e → e + (xs.length : Rat) * (33 * dl) ≤ 1 / 100 →
    Nr .f32 (xs.foldl (fun a s => fop .mul .f32 a (fop .sub .f32 oneF (poK f s C p))) a) (xs.foldl (fun a x => a * (1 - poR x D p)) X) (e + (xs.length : Rat) * (33 * dl))
  | [], a, X, e, ha, _, _, _, _ => by
    have : (([] : List Nat).length : Rat) * (33 * dl) = 0 := Rat.zero_mul _
    rw [this]; exact ha.mono (by grind)
  | x :: xs, a, X, e, ha, x0, x1, e0, he => by
    have dp := dl_pos
    have e1 : (((x :: xs).length : Nat) : Rat) = (xs.length : Rat) + 1 := Rat.natCast_add xs.length 1
    have hl0 : (0 : Rat) ≤ (xs.length : Rat) := Rat.natCast_nonneg
    have k2 := rmul_nn hl0 (show (0 : Rat) ≤ 33 * dl by grind)
    rw [e1] at he ⊢
    have he1 : e ≤ 1 / 100 := by grind
    have he2 : e + 33 * dl + (xs.length : Rat) * (33 * dl) ≤ 1 / 100 := by grind
    have hd : dl = 1 / 5000000 := rfl
    have hpr : (p : Rat) ≤ 5 := by exact_mod_cast hp
    obtain ⟨q, q0, q1⟩ := poK_near (x := x) h hD p (Nat.le_refl p) hp
    have k3 := Rat.mul_le_mul_of_nonneg_right hpr (show (0 : Rat) ≤ 3 * dl by rw [hd]; decide +kernel)
    have q' := q.mono (e' := 15 * dl) (by grind)
    have s1 := (near_sub oneF_near q' (by grind) (by grind) q0 q1 (by rw [hd]; decide +kernel)).mono (e' := 16 * dl) (by rw [hd]; decide +kernel)
    have m := near_mul ha s1 x0 x1 (by grind) (by grind) e0 he1 (by rw [hd]; decide +kernel) (by rw [hd]; decide +kernel)
    have m0 := rmul_nn x0 (show (0 : Rat) ≤ 1 - poR x D p by grind)
    have m1 := rmul_le (show 1 - poR x D p ≤ 1 by grind) x0
    have := bd_fold hp h hD xs _ _ (e + 33 * dl) (m.mono (by clear hd; grind)) m0 (by grind) (by grind) he2
    clear hd
    exact this.mono (by grind)
theorem bdK_near {p : Nat} {f : Nat → Nat} {C : List Nat} {D : Nat → Rat} (hp : p ≤ 5) (h : ∀ i, i < p → Nr .f32 (f (C.getD i 0)) (D i) dl) (hD : InU D p) {xs : List Nat} (hx : xs.length ≤ 32) : Nr .f32 (bdK f p C xs) (bdR D p xs) (1 / 4000) := by
  have hd : dl = 1 / 5000000 := rfl
  have hl : ((xs.length : Nat) : Rat) ≤ 32 := by exact_mod_cast hx
  have k := Rat.mul_le_mul_of_nonneg_right hl (show (0 : Rat) ≤ 33 * dl by rw [hd]; decide +kernel)
  exact (bd_fold hp h hD xs oneF 1 0 oneF_near (by grind) (by grind) (by grind) (by rw [hd] at k ⊢; grind)).mono (by rw [hd] at k ⊢; grind)
end Go.Proofs.Ytgmdoboeenpjpaa
/- The chance that a system works lies between its bounds. Plain. Condition: chances from 0 to 1, a valid system. -/
namespace Go.Proofs.Ytgmdoboeenpjpaa
open Go Go.RowKit

theorem hasB_sub {q s p : Nat} (hq : q < 2 ^ p) : hasB s q = subK q s p := by
  rw [Bool.eq_iff_iff, hasB_bits, subK_iff]
  constructor
  · intro h i _ hi; exact h i hi
  · intro h i hi
    rcases Nat.lt_or_ge i p with h1 | h1
    · exact h i h1 hi
    · rw [bit_up hq h1] at hi; cases hi
theorem works_inc (p : Nat) (ns : List Nat) : Inc p (ind (worksB ns)) := ind_inc fun _ _ _ _ e h => worksB_mono (hasB_bits.2 e) h
theorem bd_foldr (f : Nat → Rat) : ∀ (xs : List Nat) (a : Rat), xs.foldl (fun a x => a * f x) a = a * (xs.map f).foldr (· * ·) 1
  | [], a => by show a = a * 1; grind
  | x :: xs, a => by
    rw [List.foldl_cons, bd_foldr f xs, List.map_cons, List.foldr_cons]
    grind
theorem bdR_prod (D : Nat → Rat) (p : Nat) (xs : List Nat) : bdR D p xs = (xs.map fun x => 1 - poR x D p).foldr (· * ·) 1 := by
  unfold bdR; rw [bd_foldr]; grind
theorem prL_zero {gs : List (Nat → Rat)} {s : Nat} : (∃ g ∈ gs, g s = 0) → prL gs s = 0 := by
  induction gs with
  | nil => rintro ⟨g, hg, _⟩; simp at hg
  | cons x gs ih =>
    rintro ⟨g, hg, h0⟩
    have e : prL (x :: gs) s = x s * prL gs s := rfl
    rw [e]
    rcases List.mem_cons.1 hg with rfl | hg
    · rw [h0]; grind
    · rw [ih ⟨g, hg, h0⟩]; grind
theorem prL_one {gs : List (Nat → Rat)} {s : Nat} : (∀ g ∈ gs, 0 ≤ g s ∧ g s ≤ 1) → 0 ≤ prL gs s ∧ prL gs s ≤ 1 := by
  induction gs with
  | nil => intro _; have e : prL [] s = 1 := rfl
           rw [e]; constructor <;> decide
  | cons x gs ih =>
    intro h
    have e : prL (x :: gs) s = x s * prL gs s := rfl
    obtain ⟨a0, a1⟩ := h x (by simp)
    obtain ⟨b0, b1⟩ := ih fun g hg => h g (List.mem_cons_of_mem _ hg)
    rw [e]
    have m0 := rmul_nn a0 b0
    have m1 := rmul_le b1 a0
    exact ⟨m0, by grind⟩
theorem dis_inc (p c : Nat) : Inc p fun s => 1 - ind (fun s => disK c s p) s := by
  intro s t hs ht e
  show 1 - ind1 (disK c s p) ≤ 1 - ind1 (disK c t p)
  cases h : disK c t p
  · have h0 : ind1 false = 0 := rfl
    have h1 : 0 ≤ ind1 (disK c s p) := by unfold ind1; split <;> decide
    rw [h0]; grind
  · have h2 : disK c s p = true := by
      rw [disK_iff] at h ⊢
      intro i hi hc
      cases hsb : s.testBit i
      · rfl
      · have := h i hi hc; rw [e i hsb] at this; cases this
    rw [h2]; exact Rat.le_refl
theorem bounds_low {p : Nat} {ns : List Nat} {C : Nat → Rat} (hC : InU C p) (hp : p ≤ 20) (hw : worksB ns (2 ^ p - 1) = true) : bdR (fun i => 1 - C i) p (cutsS p ns) ≤ Ex C p (ind (worksB ns)) := by
  have hg : ∀ g ∈ (cutsS p ns).map (fun c s => 1 - ind (fun s => disK c s p) s), Inc p g ∧ ∀ s, s < 2 ^ p → 0 ≤ g s := by
    intro g hg
    obtain ⟨c, _, rfl⟩ := List.mem_map.1 hg
    exact ⟨dis_inc p c, fun s _ => by have := ind_le (fun s => disK c s p) s; grind⟩
  obtain ⟨h1, _, _⟩ := Ex_fkgL hC hg
  have e : ((cutsS p ns).map (fun c s => 1 - ind (fun s => disK c s p) s)).map (Ex C p) = (cutsS p ns).map fun x => 1 - poR x (fun i => 1 - C i) p := by
    rw [List.map_map]
    refine List.map_congr_left fun c _ => ?_
    show Ex C p (fun s => 1 - ind (fun s => disK c s p) s) = _
    have e1 : Ex C p (fun s => 1 - ind (fun s => disK c s p) s) = Ex C p (fun s => -1 * ind (fun s => disK c s p) s + 1) := Ex_congr fun s _ => by grind
    rw [e1, Ex_lin, Ex_dis]; grind
  rw [e, ← bdR_prod] at h1
  refine Rat.le_trans h1 (Ex_le hC fun s hs => ?_)
  have h01 := prL_one (gs := (cutsS p ns).map (fun c s => 1 - ind (fun s => disK c s p) s)) (s := s) fun g hg => by
    obtain ⟨c, _, rfl⟩ := List.mem_map.1 hg
    have a := ind_nn (fun s => disK c s p) s
    have b := ind_le (fun s => disK c s p) s
    constructor <;> grind
  cases hws : worksB ns s
  · have hc : cutB p ns (2 ^ p - 1 - s) = true := by
      unfold cutB
      rw [show 2 ^ p - 1 - (2 ^ p - 1 - s) = s by omega, hws]; rfl
    obtain ⟨q, hq, hh⟩ := minL_below (List.mem_filter.2 ⟨List.mem_range.2 (show 2 ^ p - 1 - s < 2 ^ p by omega), hc⟩)
    have hq' : q ∈ cutsS p ns := by rw [← cuts_same hp hw]; exact hq
    have h0 : prL ((cutsS p ns).map (fun c s => 1 - ind (fun s => disK c s p) s)) s = 0 := prL_zero ⟨_, List.mem_map.2 ⟨q, hq', rfl⟩, by
      have hd : disK q s p = true := disK_iff.2 fun i hi hqi => by
        have := hasB_bits.1 hh i hqi
        rw [testBit_compl hp hs, Bool.and_eq_true, Bool.not_eq_true'] at this
        exact this.2
      show 1 - ind1 (disK q s p) = 0
      rw [hd]; decide +kernel⟩
    rw [h0]; exact ind_nn _ s
  · have : ind (worksB ns) s = 1 := by unfold ind; rw [hws]; rfl
    rw [this]; exact h01.2
theorem Ex_fkgD {C : Nat → Rat} {p : Nat} (hC : InU C p) : ∀ {gs : List (Nat → Rat)}, (∀ g ∈ gs, Inc p (fun s => 1 - g s) ∧ ∀ s, s < 2 ^ p → 0 ≤ g s) → (gs.map (Ex C p)).foldr (· * ·) 1 ≤ Ex C p (prL gs) ∧ Inc p (fun s => 1 - prL gs s) ∧ ∀ s, s < 2 ^ p → 0 ≤ prL gs s
  | [], _ => by
    refine ⟨?_, fun _ _ _ _ _ => Rat.le_refl, fun _ _ => by show (0 : Rat) ≤ 1; decide⟩
    have : Ex C p (prL []) = 1 := Ex_one
    rw [this]; exact Rat.le_refl
  | g :: gs, h => by
    obtain ⟨i1, i2, i3⟩ := Ex_fkgD hC (gs := gs) fun x hx => h x (List.mem_cons_of_mem _ hx)
    obtain ⟨g1, g2⟩ := h g (by simp)
    have e : prL (g :: gs) = fun s => g s * prL gs s := rfl
    have hE : 0 ≤ Ex C p g := by have := Ex_le hC (g := fun _ => 0) (h := g) g2; rw [Ex_zero] at this; exact this
    refine ⟨?_, ?_, ?_⟩
    · have h1 := Ex_fkg' hC g1 i2
      have h2 := rmul_le i1 hE
      rw [e]
      exact Rat.le_trans h2 h1
    · intro s t hs ht hb
      have a1 := g1 s t hs ht hb
      have a2 := i2 s t hs ht hb
      have b1 := rmul_le (show prL gs t ≤ prL gs s by grind) (g2 t ht)
      have b2 := Rat.mul_le_mul_of_nonneg_right (show g t ≤ g s by grind) (i3 s hs)
      show 1 - g s * prL gs s ≤ 1 - g t * prL gs t
      grind
    · intro s hs; rw [e]; exact rmul_nn (g2 s hs) (i3 s hs)
theorem bounds_high {p : Nat} {ns : List Nat} {C : Nat → Rat} (hC : InU C p) (hn : ∀ n ∈ ns, n < 2 ^ p) : Ex C p (ind (worksB ns)) ≤ 1 - bdR C p ns := by
  have hg : ∀ g ∈ ns.map (fun c s => 1 - ind (fun s => subK c s p) s), Inc p (fun s => 1 - g s) ∧ ∀ s, s < 2 ^ p → 0 ≤ g s := by
    intro g hg
    obtain ⟨c, _, rfl⟩ := List.mem_map.1 hg
    refine ⟨?_, fun s _ => by have := ind_le (fun s => subK c s p) s; grind⟩
    have hi : Inc p (ind fun s => subK c s p) := ind_inc fun s t _ _ e h => by
      rw [subK_iff] at h ⊢
      exact fun i hi hc => e i (h i hi hc)
    intro s t hs ht e
    have := hi s t hs ht e
    show 1 - (1 - ind (fun s => subK c s p) s) ≤ 1 - (1 - ind (fun s => subK c s p) t)
    grind
  obtain ⟨h1, _, _⟩ := Ex_fkgD hC hg
  have e : (ns.map (fun c s => 1 - ind (fun s => subK c s p) s)).map (Ex C p) = ns.map fun x => 1 - poR x C p := by
    rw [List.map_map]
    refine List.map_congr_left fun c _ => ?_
    show Ex C p (fun s => 1 - ind (fun s => subK c s p) s) = _
    have e1 : Ex C p (fun s => 1 - ind (fun s => subK c s p) s) = Ex C p (fun s => -1 * ind (fun s => subK c s p) s + 1) := Ex_congr fun s _ => by grind
    rw [e1, Ex_lin, Ex_sub]; grind
  rw [e, ← bdR_prod] at h1
  have h2 : Ex C p (prL (ns.map (fun c s => 1 - ind (fun s => subK c s p) s))) ≤ Ex C p (fun s => -1 * ind (worksB ns) s + 1) := Ex_le hC fun s hs => by
    have h01 := prL_one (gs := ns.map (fun c s => 1 - ind (fun s => subK c s p) s)) (s := s) fun g hg => by
      obtain ⟨c, _, rfl⟩ := List.mem_map.1 hg
      have a := ind_nn (fun s => subK c s p) s
      have b := ind_le (fun s => subK c s p) s
      constructor <;> grind
    cases hws : worksB ns s
    · have : ind (worksB ns) s = 0 := by unfold ind; rw [hws]; rfl
      rw [this]; grind
    · obtain ⟨q, hq, hh⟩ := worksB_iff.1 hws
      have h0 : prL (ns.map (fun c s => 1 - ind (fun s => subK c s p) s)) s = 0 := prL_zero ⟨_, List.mem_map.2 ⟨q, hq, rfl⟩, by
        rw [hasB_sub (hn q hq)] at hh
        show 1 - ind1 (subK q s p) = 0
        rw [hh]; decide +kernel⟩
      have : ind (worksB ns) s = 1 := by unfold ind; rw [hws]; rfl
      rw [h0, this]; grind
  rw [Ex_lin] at h2
  grind
end Go.Proofs.Ytgmdoboeenpjpaa
/- What the law on chances compares, in plain Lean. Condition: a valid system of at most five parts, chances from 0 to 1. -/
namespace Go.Proofs.Ytgmdoboeenpjpaa
open Go Go.RowKit

attribute [local irreducible] tw
theorem asc_len : ∀ {xs : List Nat} {N : Nat}, xs.Pairwise (· < ·) → (∀ x ∈ xs, x < N) → xs.length ≤ N := by
  intro xs N h hb
  have h1 : xs = setsOf N xs := (setsOf_self hb h).symm
  rw [h1]
  unfold setsOf
  exact Nat.le_trans (List.length_filter_le _ _) (by rw [List.length_range]; exact Nat.le_refl _)
theorem ShR.set {p i v : Nat} {C : List Nat} (h : ShR p C) (hl : C.length = p) (n : Num .f32 v) (v0 : 0 ≤ fv .f32 v) (v1 : fv .f32 v ≤ 1) : ShR p (C.set i v) := by
  intro j hj
  have e : (C.set i v).getD j 0 = if i = j then v else C.getD j 0 := by
    rw [List.getD_eq_getElem?_getD, List.getElem?_set, List.getD_eq_getElem?_getD]
    by_cases hij : i = j
    · subst hij; simp [show i < C.length by omega]
    · simp [hij]
  rw [e]
  split
  · exact ⟨n, v0, v1⟩
  · exact h j hj
theorem cR_set {p i v : Nat} {C : List Nat} (hl : C.length = p) : ∀ j, j < p → cR (C.set i v) j = upd (cR C) i (fv .f32 v) j := by
  intro j hj
  show fv .f32 ((C.set i v).getD j 0) = if j = i then fv .f32 v else fv .f32 (C.getD j 0)
  rw [List.getD_eq_getElem?_getD, List.getElem?_set, List.getD_eq_getElem?_getD]
  by_cases hij : i = j
  · subst hij; simp [show i < C.length by omega]
  · have : ¬ j = i := fun e => hij e.symm
    simp [hij, this]
/-- What is known of the system and the chances. -/
structure ChG (p : Nat) (ns C : List Nat) : Prop where
  p5 : p ≤ 5
  lt : ∀ n ∈ ns, n < 2 ^ p
  asc : ns.Pairwise (· < ·)
  whole : worksB ns (2 ^ p - 1) = true
  len : C.length = p
  sh : ShR p C
theorem ChG.two {p : Nat} {ns C : List Nat} (h : ChG p ns C) : 2 ^ p ≤ 32 := Nat.pow_le_pow_right (n := 2) (by decide) h.p5
theorem ChG.mono {p : Nat} {ns C : List Nat} (h : ChG p ns C) {D : List Nat} (hl : D.length = p) (hs : ShR p D) : ChG p ns D := ⟨h.p5, h.lt, h.asc, h.whole, hl, hs⟩
theorem ChG.x {p : Nat} {ns C : List Nat} (h : ChG p ns C) : Nr .f32 (chS p ns C) (Ex (cR C) p (ind (worksB ns))) ep ∧ 0 ≤ Ex (cR C) p (ind (worksB ns)) ∧ Ex (cR C) p (ind (worksB ns)) ≤ 1 :=
  ⟨chS_near h.p5 h.sh, Ex_bounds h.sh.inU (fun s _ => ind_nn _ s) fun s _ => ind_le _ s⟩
theorem neg_near {p : Nat} {C : List Nat} (h : ShR p C) : (∀ i, i < p → Nr .f32 (negF (C.getD i 0)) (1 - cR C i) dl) ∧ InU (fun i => 1 - cR C i) p := by
  constructor
  · intro i hi
    obtain ⟨n, c0, c1⟩ := h i hi
    exact (near_sub oneF_near (Nr.of n) (by grind) (by grind) c0 c1 (by grind)).mono (by grind)
  · intro i hi
    obtain ⟨n, c0, c1⟩ := h i hi
    unfold cR
    constructor <;> grind
theorem bdR_in {D : Nat → Rat} {p : Nat} (hD : InU D p) (xs : List Nat) : 0 ≤ bdR D p xs ∧ bdR D p xs ≤ 1 := by
  have hpo : ∀ x i, i ≤ p → 0 ≤ poR x D i ∧ poR x D i ≤ 1 := by
    intro x i
    induction i with
    | zero => intro _; unfold poR; constructor <;> decide
    | succ i ih =>
      intro hi
      obtain ⟨a0, a1⟩ := ih (by omega)
      obtain ⟨c0, c1⟩ := hD i (by omega)
      have m0 := rmul_nn a0 c0
      have m1 := rmul_le c1 a0
      unfold poR
      split
      · exact ⟨m0, by grind⟩
      · exact ⟨a0, a1⟩
  rw [bdR_prod]
  induction xs with
  | nil => simp only [List.map_nil, List.foldr_nil]; constructor <;> decide
  | cons x xs ih =>
    simp only [List.map_cons, List.foldr_cons]
    obtain ⟨q0, q1⟩ := hpo x p (Nat.le_refl p)
    obtain ⟨i0, i1⟩ := ih
    have m0 := rmul_nn (show (0 : Rat) ≤ 1 - poR x D p by grind) i0
    have m1 := rmul_le i1 (show (0 : Rat) ≤ 1 - poR x D p by grind)
    exact ⟨m0, by grind⟩
/-- The chance lies between its bounds, nearly. -/
theorem ChG.low {p : Nat} {ns C : List Nat} (h : ChG p ns C) :
    Num .f32 (bdK negF p C (cutsS p ns)) ∧ fv .f32 (bdK negF p C (cutsS p ns)) ≤ fv .f32 (chS p ns C) + 1 / 2500 ∧ -1 ≤ fv .f32 (bdK negF p C (cutsS p ns)) ∧ fv .f32 (bdK negF p C (cutsS p ns)) ≤ 2 := by
  obtain ⟨⟨n, l, u⟩, x0, x1⟩ := h.x
  obtain ⟨hn, hi⟩ := neg_near h.sh
  have hcl : (cutsS p ns).length ≤ 32 := by
    unfold cutsS
    exact Nat.le_trans (List.length_filter_le _ _) (by rw [List.length_range]; exact h.two)
  obtain ⟨m, l2, u2⟩ := bdK_near (f := negF) (D := fun i => 1 - cR C i) h.p5 hn hi hcl
  have hb := bounds_low h.sh.inU (Nat.le_trans h.p5 (by decide)) h.whole
  obtain ⟨b0, b1⟩ := bdR_in hi (cutsS p ns)
  have he : ep = 1 / 9000 := rfl
  rw [he] at l u
  exact ⟨m, by grind, by grind, by grind⟩
theorem ChG.high {p : Nat} {ns C : List Nat} (h : ChG p ns C) :
    Num .f32 (fop .sub .f32 oneF (bdK id p C ns)) ∧ fv .f32 (chS p ns C) ≤ fv .f32 (fop .sub .f32 oneF (bdK id p C ns)) + 1 / 2500 ∧ -1 ≤ fv .f32 (fop .sub .f32 oneF (bdK id p C ns)) ∧ fv .f32 (fop .sub .f32 oneF (bdK id p C ns)) ≤ 2 := by
  obtain ⟨⟨n, l, u⟩, x0, x1⟩ := h.x
  have hid : ∀ i, i < p → Nr .f32 (id (C.getD i 0)) (cR C i) dl := fun i hi => (Nr.of (h.sh i hi).1).mono dl_pos
  have hk := bdK_near (f := id) (D := cR C) h.p5 hid h.sh.inU (Nat.le_trans (asc_len h.asc h.lt) h.two)
  obtain ⟨b0, b1⟩ := bdR_in h.sh.inU ns
  obtain ⟨m, l2, u2⟩ := near_sub oneF_near hk (by grind) (by grind) b0 b1 (by grind)
  have hb := bounds_high h.sh.inU h.lt
  have he : ep = 1 / 9000 := rfl
  have hd : dl = 1 / 5000000 := rfl
  rw [he] at l u
  rw [hd] at l2 u2
  exact ⟨m, by grind, by grind, by grind⟩
theorem near_diff {a b : Nat} {x y e f : Rat} (h1 : Nr .f32 a x e) (h2 : Nr .f32 b y f) (x0 : 0 ≤ x) (x1 : x ≤ 1) (y0 : 0 ≤ y) (y1 : y ≤ 1) (h : e + f ≤ 1) : Nr .f32 (fop .sub .f32 a b) (x - y) (e + f + dl) := near_sub h1 h2 x0 x1 y0 y1 h
theorem zero_num : Num .f32 0 ∧ fv .f32 0 = 0 := by
  have h : (FloatKind.f32).format.read 0 = .number false 0 (-149) := by decide +kernel
  refine ⟨⟨_, _, _, h⟩, ?_⟩
  rw [fv_eq h]; show ((0 : Nat) : Rat) * tw (-149) = 0; exact Rat.zero_mul _
theorem oneF_bits : oneF = 1065353216 := by decide +kernel
theorem one_num : Num .f32 1065353216 ∧ fv .f32 1065353216 = 1 := by rw [← oneF_bits]; exact oneF_val
/-- How much a part changes the chance. -/
theorem ChG.part {p i : Nat} {ns C : List Nat} (h : ChG p ns C) (hi : i < p) :
    Num .f32 (fop .sub .f32 (chS p ns (C.set i 1065353216)) (chS p ns (C.set i 0))) ∧ Num .f32 (chS p ns (C.set i 0)) ∧
    -1 / 2000 ≤ fv .f32 (fop .sub .f32 (chS p ns (C.set i 1065353216)) (chS p ns (C.set i 0))) ∧ fv .f32 (fop .sub .f32 (chS p ns (C.set i 1065353216)) (chS p ns (C.set i 0))) ≤ 2 ∧ -1 ≤ fv .f32 (chS p ns (C.set i 0)) ∧ fv .f32 (chS p ns (C.set i 0)) ≤ 2 ∧
    fv .f32 (chS p ns C) - (fv .f32 (chS p ns (C.set i 0)) + cR C i * fv .f32 (fop .sub .f32 (chS p ns (C.set i 1065353216)) (chS p ns (C.set i 0)))) ≤ 1 / 2000 ∧
    (fv .f32 (chS p ns (C.set i 0)) + cR C i * fv .f32 (fop .sub .f32 (chS p ns (C.set i 1065353216)) (chS p ns (C.set i 0)))) - fv .f32 (chS p ns C) ≤ 1 / 2000 := by
  obtain ⟨⟨n, l, u⟩, x0, x1⟩ := h.x
  obtain ⟨z1, z2⟩ := zero_num
  obtain ⟨o1, o2⟩ := one_num
  have g0 : ChG p ns (C.set i 0) := h.mono (by rw [List.length_set]; exact h.len) (h.sh.set h.len z1 (by rw [z2]; grind) (by rw [z2]; grind))
  have g1 : ChG p ns (C.set i 1065353216) := h.mono (by rw [List.length_set]; exact h.len) (h.sh.set h.len o1 (by rw [o2]; grind) (by rw [o2]; grind))
  have e0 : Ex (cR (C.set i 0)) p (ind (worksB ns)) = Ex (upd (cR C) i 0) p (ind (worksB ns)) := Ex_chances fun j hj => by rw [cR_set h.len j hj, z2]
  have e1 : Ex (cR (C.set i 1065353216)) p (ind (worksB ns)) = Ex (upd (cR C) i 1) p (ind (worksB ns)) := Ex_chances fun j hj => by rw [cR_set h.len j hj, o2]
  obtain ⟨a, a0, a1⟩ := g0.x
  obtain ⟨b, b0, b1⟩ := g1.x
  have hup := Ex_upd hi h.sh.inU (works_inc p ns)
  have hat := Ex_at (C := cR C) (g := ind (worksB ns)) hi
  obtain ⟨c0, c1⟩ := h.sh.inU i hi
  rw [e0] at a a0 a1
  rw [e1] at b b0 b1
  have he : ep = 1 / 9000 := rfl
  have hd : dl = 1 / 5000000 := rfl
  have d := near_sub b a b0 b1 a0 a1 (by rw [he]; decide +kernel)
  obtain ⟨na, la, ua⟩ := a
  obtain ⟨nd, ld, ud⟩ := d
  rw [he] at l u la ua
  rw [he, hd] at ld ud
  have kk : (1 / 9000 + 1 / 9000 + 1 / 5000000 : Rat) ≤ 1 / 4400 := by decide +kernel
  have ld' := Rat.le_trans ld (Rat.add_le_add_left.2 kk)
  have ud' := Rat.le_trans ud (Rat.add_le_add_left.2 kk)
  clear he hd kk ld ud
  generalize Ex (upd (cR C) i 0) p (ind (worksB ns)) = A at *
  generalize Ex (upd (cR C) i 1) p (ind (worksB ns)) = B at *
  generalize Ex (cR C) p (ind (worksB ns)) = X at *
  generalize fop .sub .f32 (chS p ns (C.set i 1065353216)) (chS p ns (C.set i 0)) = D at *
  generalize chS p ns (C.set i 0) = Y at *
  generalize chS p ns C = Z at *
  generalize cR C i = c at *
  have k1 := rmul_le ld' c0
  have k2 := rmul_le (show B - A - 1 / 4400 ≤ fv .f32 D by clear hat hup e0 e1; grind) c0
  have k3 := rmul_le c1 (show (0 : Rat) ≤ 1 / 4400 by decide +kernel)
  generalize hP : c * fv .f32 D = P at *
  have k4 : c * (B - A + 1 / 4400) = c * B - c * A + c / 4400 := by grind
  have k5 : c * (B - A - 1 / 4400) = c * B - c * A - c / 4400 := by grind
  rw [k4] at k1
  rw [k5] at k2
  have k6 : X = A + c * B - c * A := by grind
  clear hat k4 k5 hP
  generalize c * B = cB at *
  generalize c * A = cA at *
  refine ⟨nd, na, by grind, by grind, by grind, by grind, by grind, by grind⟩
end Go.Proofs.Ytgmdoboeenpjpaa
/- Shocks, halves, phases and counts, in plain Lean. Condition: a valid system of at most five parts, chances from 0 to 1. -/
namespace Go.Proofs.Ytgmdoboeenpjpaa
open Go Go.RowKit

attribute [local irreducible] tw
theorem hit_sh {p t : Nat} {C : List Nat} (h : ShR p C) (hl : C.length = p) : ∀ i, i ≤ p → ShR p (hitR t C i) ∧ ∀ g, Inc p g → Ex (cR (hitR t C i)) p g ≤ Ex (cR C) p g
  | 0, _ => ⟨h, fun g _ => Rat.le_refl⟩
  | i + 1, hi => by
    obtain ⟨h1, h2⟩ := hit_sh (t := t) h hl i (by omega)
    have hlen : (hitR t C i).length = p := by rw [hitR_len, hl]
    obtain ⟨z1, z2⟩ := zero_num
    unfold hitR
    split
    · refine ⟨h1.set hlen z1 (by rw [z2]; grind) (by rw [z2]; grind), fun g hg => ?_⟩
      have e : Ex (cR ((hitR t C i).set i 0)) p g = Ex (upd (cR (hitR t C i)) i 0) p g := Ex_chances fun j hj => by rw [cR_set hlen j hj, z2]
      rw [e]
      exact Rat.le_trans (Ex_less (by omega) h1.inU hg) (h2 g hg)
    · exact ⟨h1, h2⟩
theorem hit_none {C : List Nat} : ∀ i, hitR 0 C i = C
  | 0 => rfl
  | i + 1 => by unfold hitR; rw [Nat.zero_testBit]; exact hit_none i
theorem quarter_near : Nr .f32 1048576000 (1 / 4) 0 := by
  have h : (FloatKind.f32).format.read 1048576000 = .number false 8388608 (-25) := by decide +kernel
  have n : Num .f32 1048576000 := ⟨_, _, _, h⟩
  have v : fv .f32 1048576000 = 1 / 4 := by
    rw [fv_eq h]
    have h1 := tw_neg 25
    have h2 : tw (-((25 : Nat) : Int)) = tw (-25) := rfl
    have h3 : ((2 ^ 25 : Nat) : Rat) = 33554432 := rfl
    have h4 : ((8388608 : Nat) : Rat) = 8388608 := rfl
    rw [h2, h3] at h1
    simp only [Bool.false_eq_true, if_false, h4]
    grind
  have := Nr.of n
  rw [v] at this
  exact this
theorem half_near : Nr .f32 1056964608 (1 / 2) 0 := by
  have h : (FloatKind.f32).format.read 1056964608 = .number false 8388608 (-24) := by decide +kernel
  have n : Num .f32 1056964608 := ⟨_, _, _, h⟩
  have v : fv .f32 1056964608 = 1 / 2 := by
    rw [fv_eq h]
    have h1 := tw_neg 24
    have h2 : tw (-((24 : Nat) : Int)) = tw (-24) := rfl
    have h3 : ((2 ^ 24 : Nat) : Rat) = 16777216 := rfl
    have h4 : ((8388608 : Nat) : Rat) = 8388608 := rfl
    rw [h2, h3] at h1
    simp only [Bool.false_eq_true, if_false, h4]
    grind
  have := Nr.of n
  rw [v] at this
  exact this
theorem half_num : Num .f32 1056964608 ∧ fv .f32 1056964608 = 1 / 2 := ⟨half_near.1, by have a := half_near.2.1; have b := half_near.2.2; grind⟩
theorem num_map {p : Nat} {C : List Nat} (h : ShR p C) (hl : C.length = p) : C.map (cn .f32) = C := by
  apply List.ext_getElem
  · simp
  · intro i h1 h2
    rw [List.getElem_map]
    have := (h i (by omega)).1.cn
    rw [List.getD_eq_getElem?_getD, List.getElem?_eq_getElem h2] at this
    exact this
/-- A shock that strikes a quarter of the time. -/
theorem ChG.shock {p t : Nat} {ns C : List Nat} (h : ChG p ns C) :
    Num .f32 (ssV p ns C t 1048576000) ∧ fv .f32 (ssV p ns C t 1048576000) - fv .f32 (chS p ns C) ≤ 6 / 10000 ∧ (t = 0 → fv .f32 (chS p ns C) - fv .f32 (ssV p ns C t 1048576000) ≤ 6 / 10000) ∧ -1 ≤ fv .f32 (ssV p ns C t 1048576000) ∧ fv .f32 (ssV p ns C t 1048576000) ≤ 2 := by
  obtain ⟨hs, hle⟩ := hit_sh (t := t) h.sh h.len p (Nat.le_refl p)
  have g1 : ChG p ns (hitR t C p) := h.mono (by rw [hitR_len]; exact h.len) hs
  obtain ⟨x, x0, x1⟩ := h.x
  obtain ⟨y, y0, y1⟩ := g1.x
  have hl := hle _ (works_inc p ns)
  have he : ep = 1 / 9000 := rfl
  have hd : dl = 1 / 5000000 := rfl
  have e0 : (0 : Rat) ≤ ep := by decide +kernel
  have e1 : ep ≤ 1 / 100 := by decide +kernel
  have a := near_mul quarter_near y (by decide +kernel) (by decide +kernel) y0 y1 (by decide +kernel) (by decide +kernel) e0 e1
  have b0 := near_sub oneF_near quarter_near (by decide +kernel) (by decide +kernel) (by decide +kernel) (by decide +kernel) (by decide +kernel)
  have b := near_mul b0 x (by decide +kernel) (by decide +kernel) x0 x1 (by decide +kernel) (by decide +kernel) e0 e1
  have m0 := rmul_nn (show (0 : Rat) ≤ 1 / 4 by decide +kernel) y0
  have m1 := rmul_nn (show (0 : Rat) ≤ 1 - 1 / 4 by decide +kernel) x0
  have s := near_add a b m0 m1 (by grind) (by decide +kernel)
  have s' := s.mono (e' := 448 / 1000000) (by decide +kernel)
  have ht0 : t = 0 → Ex (cR (hitR t C p)) p (ind (worksB ns)) = Ex (cR C) p (ind (worksB ns)) := fun e => by subst e; rw [hit_none]
  have ev : ssV p ns C t 1048576000 = fop .add .f32 (fop .mul .f32 1048576000 (chS p ns (hitR t C p))) (fop .mul .f32 (fop .sub .f32 oneF 1048576000) (chS p ns C)) := by
    unfold ssV
    rw [num_map h.sh h.len, num_map g1.sh g1.len]
  rw [ev]
  obtain ⟨n1, l1, u1⟩ := x
  obtain ⟨n2, l2, u2⟩ := s'
  have e2 : ep ≤ 112 / 1000000 := by decide +kernel
  clear s a b b0 ev he hd e1 hle m0 m1 y
  refine ⟨n2, by grind, fun e => ?_, by grind, by grind⟩
  have := ht0 e
  grind
/-! ### Halves -/
theorem halves_sh (p : Nat) : ShR p (List.replicate p 1056964608) ∧ ∀ i, i < p → cR (List.replicate p 1056964608) i = 1 / 2 := by
  obtain ⟨n, v⟩ := half_num
  have e : ∀ i, i < p → (List.replicate p 1056964608).getD i 0 = 1056964608 := fun i hi => by simp [List.getD_eq_getElem?_getD, hi]
  refine ⟨fun i hi => ?_, fun i hi => ?_⟩
  · rw [e i hi, v]; exact ⟨n, by grind, by grind⟩
  · unfold cR; rw [e i hi, v]
/-- How many sets work. -/
def nW (p : Nat) (ns : List Nat) : Nat := (List.range (2 ^ p)).countP (worksB ns)
theorem nW_le (p : Nat) (ns : List Nat) : nW p ns ≤ 2 ^ p := Nat.le_trans List.countP_le_length (by rw [List.length_range]; exact Nat.le_refl _)
theorem half_ex (p : Nat) (ns : List Nat) : Ex (cR (List.replicate p 1056964608)) p (ind (worksB ns)) * ((2 ^ p : Nat) : Rat) = ((nW p ns : Nat) : Rat) := by
  have e : Ex (cR (List.replicate p 1056964608)) p (ind (worksB ns)) = Ex (fun _ => 1 / 2) p (ind (worksB ns)) := Ex_chances fun i hi => (halves_sh p).2 i hi
  rw [e, Ex_half, sum_ind]
  rfl
/-! ### One phase -/
theorem setK_cons (d : Nat) (cs : List Nat) (t : Nat) : ∀ k, setK (d :: cs) t (k + 1) = (if t < d then 1 else 0) + 2 * setK cs t k
  | 0 => by show setK (d :: cs) t 0 + (if t < (d :: cs).getD 0 0 then 2 ^ 0 else 0) = _; simp [setK]
  | k + 1 => by
    have e : setK (d :: cs) t (k + 1 + 1) = setK (d :: cs) t (k + 1) + (if t < (d :: cs).getD (k + 1) 0 then 2 ^ (k + 1) else 0) := rfl
    have e2 : setK cs t (k + 1) = setK cs t k + (if t < cs.getD k 0 then 2 ^ k else 0) := rfl
    have e3 : (d :: cs).getD (k + 1) 0 = cs.getD k 0 := by simp [List.getD_eq_getElem?_getD]
    rw [e, e2, e3, setK_cons d cs t k, Nat.mul_add, Nat.pow_succ]
    by_cases ht : t < cs.getD k 0
    · rw [if_pos ht, if_pos ht]; omega
    · rw [if_neg ht, if_neg ht]; omega
theorem even_odd (h : Nat → Bool) : ∀ n, (List.range (2 * n)).countP h = (List.range n).countP (fun t => h (2 * t)) + (List.range n).countP (fun t => h (1 + 2 * t))
  | 0 => rfl
  | n + 1 => by
    have e : 2 * (n + 1) = 2 * n + 1 + 1 := by omega
    rw [e, List.range_succ, List.range_succ, List.range_succ (n := n)]
    simp only [List.countP_append, List.countP_cons, List.countP_nil, even_odd h n]
    have e2 : 2 * n + 1 = 1 + 2 * n := by omega
    rw [e2]
    omega
theorem range_two (P : Nat) : List.range (2 ^ (P + 1)) = List.range (2 ^ P) ++ (List.range (2 ^ P)).map fun t => 2 ^ P + t := by rw [two_pow_succ, List.range_add]
/-- All ways of failing in one phase, or not, are all sets. -/
theorem phase_count : ∀ (P : Nat) (h : Nat → Bool), (List.range (2 ^ P)).countP (fun k => h (setK (digs 2 P k) 0 P)) = (List.range (2 ^ P)).countP h
  | 0, h => by simp [digs, setK]
  | P + 1, h => by
    have hp : 0 < 2 ^ P := Nat.pow_pos (by decide)
    have a : (List.range (2 ^ P)).countP (fun k => h (setK (digs 2 (P + 1) k) 0 (P + 1))) = (List.range (2 ^ P)).countP fun t => h (2 * t) := by
      rw [← phase_count P fun t => h (2 * t)]
      refine List.countP_congr fun k hk => ?_
      have hk := List.mem_range.1 hk
      have e : digs 2 (P + 1) k = 0 :: digs 2 P k := by show k / 2 ^ P :: digs 2 P (k % 2 ^ P) = _; rw [Nat.div_eq_of_lt hk, Nat.mod_eq_of_lt hk]
      rw [e, setK_cons]
      simp
    have b : (List.range (2 ^ P)).countP (fun k => h (setK (digs 2 (P + 1) (2 ^ P + k)) 0 (P + 1))) = (List.range (2 ^ P)).countP fun t => h (1 + 2 * t) := by
      rw [← phase_count P fun t => h (1 + 2 * t)]
      refine List.countP_congr fun k hk => ?_
      have hk := List.mem_range.1 hk
      have e : digs 2 (P + 1) (2 ^ P + k) = 1 :: digs 2 P k := by
        show (2 ^ P + k) / 2 ^ P :: digs 2 P ((2 ^ P + k) % 2 ^ P) = _
        rw [Nat.add_div_left _ hp, Nat.div_eq_of_lt hk, Nat.add_mod_left, Nat.mod_eq_of_lt hk]
      rw [e, setK_cons]
      simp
    have e2 : 2 ^ (P + 1) = 2 * 2 ^ P := by rw [Nat.pow_succ, Nat.mul_comm]
    rw [range_two, List.countP_append, List.countP_map, a]
    show _ + (List.range (2 ^ P)).countP (fun k => h (setK (digs 2 (P + 1) (2 ^ P + k)) 0 (P + 1))) = _
    rw [b, ← even_odd, ← e2, range_two]
theorem prA_near {P : Nat} (h5 : P ≤ 5) (c : List Nat) : ∀ i, i ≤ P → ∃ q : Rat, Nr .f32 (prA (List.replicate P 1056964608) P 1 c i) q ((i : Rat) * (3 * dl)) ∧ 0 ≤ q ∧ q ≤ 1 ∧ q * ((2 ^ i : Nat) : Rat) = 1
  | 0, _ => by
    have : ((0 : Nat) : Rat) * (3 * dl) = 0 := Rat.zero_mul _
    rw [this]
    exact ⟨1, oneF_near, by decide, by decide, by decide +kernel⟩
  | i + 1, hi => by
    obtain ⟨q, hq, q0, q1, qe⟩ := prA_near h5 c i (by omega)
    obtain ⟨n, v⟩ := half_num
    have hd := dl_pos
    have hd1 : dl ≤ 1 / 5000000 := by unfold dl; grind
    have e : ((i + 1 : Nat) : Rat) = (i : Rat) + 1 := Rat.natCast_add i 1
    have e2 : ((2 ^ (i + 1) : Nat) : Rat) = ((2 ^ i : Nat) : Rat) + ((2 ^ i : Nat) : Rat) := by rw [two_pow_succ]; exact Rat.natCast_add _ _
    have hi5 : (i : Rat) ≤ 5 := by have : i ≤ 5 := by omega
                                   exact_mod_cast this
    have hi0 : (0 : Rat) ≤ (i : Rat) := Rat.natCast_nonneg
    have k0 := rmul_nn hi0 (show (0 : Rat) ≤ 3 * dl by grind)
    have k1 := Rat.mul_le_mul_of_nonneg_right hi5 (show (0 : Rat) ≤ 3 * dl by grind)
    have gd : (List.replicate P 1056964608).getD (0 * P + i) 0 = 1056964608 := by
      rw [Nat.zero_mul, Nat.zero_add]; simp [List.getD_eq_getElem?_getD, show i < P by omega]
    have hf : Nr .f32 (if 0 < c.getD i 0 then fop .sub .f32 oneF ((List.replicate P 1056964608).getD (0 * P + i) 0) else (List.replicate P 1056964608).getD (0 * P + i) 0) (1 / 2) dl := by
      rw [gd]
      split
      · have := near_sub oneF_near half_near (by decide +kernel) (by decide +kernel) (by decide +kernel) (by decide +kernel) (by decide +kernel)
        rw [show (1 : Rat) - 1 / 2 = 1 / 2 by decide +kernel] at this
        exact this.mono (by grind)
      · exact half_near.mono hd
    have m := near_mul hq hf q0 q1 (by decide +kernel) (by decide +kernel) k0 (by grind) hd (by grind)
    have hm : min 1 (c.getD i 0 + 1) = 1 := by omega
    have ep : prA (List.replicate P 1056964608) P 1 c (i + 1) = fop .mul .f32 (prA (List.replicate P 1056964608) P 1 c i) (if 0 < c.getD i 0 then fop .sub .f32 oneF ((List.replicate P 1056964608).getD (0 * P + i) 0) else (List.replicate P 1056964608).getD (0 * P + i) 0) := by
      show prT _ _ P i (c.getD i 0) (min 1 (c.getD i 0 + 1)) = _
      rw [hm]; rfl
    rw [ep, e, e2]
    exact ⟨q * (1 / 2), m.mono (by grind), by grind, by grind, by grind⟩
theorem sumP_near {P : Nat} (h5 : P ≤ 5) (ns : List Nat) (hP : Rat) (hpe : hP * ((2 ^ P : Nat) : Rat) = 1) : ∀ m, m ≤ 2 ^ P → ∀ N : Nat, (List.range m).countP (fun k => worksB ns (setK (digs 2 P k) 0 P)) = N → Nr .f32 (sumP [ns] (List.replicate P 1056964608) P 1 m) ((N : Rat) * hP) ((m : Rat) * (16 * dl))
  | 0, _, N, hN => by
    have hN : N = 0 := by simpa using hN.symm
    subst hN
    have e1 : ((0 : Nat) : Rat) * (16 * dl) = 0 := Rat.zero_mul _
    have e2 : ((0 : Nat) : Rat) * hP = 0 := Rat.zero_mul _
    rw [e1, e2]; exact zeroF_near
  | m + 1, hm, N, hN => by
    have hd := dl_pos
    have hd1 : dl ≤ 1 / 5000000 := by unfold dl; grind
    have e : ((m + 1 : Nat) : Rat) = (m : Rat) + 1 := Rat.natCast_add m 1
    have hm0 : (0 : Rat) ≤ (m : Rat) := Rat.natCast_nonneg
    have h32 : 2 ^ P ≤ 32 := Nat.pow_le_pow_right (n := 2) (by decide) h5
    have hm5 : (m : Rat) ≤ 32 := by have : m ≤ 32 := by omega
                                    exact_mod_cast this
    have k0 := rmul_nn hm0 (show (0 : Rat) ≤ 16 * dl by grind)
    have k1 := Rat.mul_le_mul_of_nonneg_right hm5 (show (0 : Rat) ≤ 16 * dl by grind)
    rw [List.range_succ, List.countP_append] at hN
    obtain ⟨M, hM⟩ : ∃ M, (List.range m).countP (fun k => worksB ns (setK (digs 2 P k) 0 P)) = M := ⟨_, rfl⟩
    have ih := sumP_near h5 ns hP hpe m (by omega) M hM
    have hMm : M ≤ m := by rw [← hM]; exact Nat.le_trans List.countP_le_length (by rw [List.length_range]; exact Nat.le_refl _)
    rw [hM] at hN
    have es : sumP [ns] (List.replicate P 1056964608) P 1 (m + 1) = if worksB ns (setK (digs 2 P m) 0 P) then fop .add .f32 (sumP [ns] (List.replicate P 1056964608) P 1 m) (prA (List.replicate P 1056964608) P 1 (digs 2 P m) P) else sumP [ns] (List.replicate P 1056964608) P 1 m := by
      show leafP _ _ P 1 (digs (1 + 1) P m) _ = _
      unfold leafP
      have : okK [ns] P (digs (1 + 1) P m) 1 = worksB ns (setK (digs 2 P m) 0 P) := by simp [okK, List.range_succ]
      rw [this]
    rw [es, e]
    cases hw : worksB ns (setK (digs 2 P m) 0 P)
    · have hN' : N = M := by simp [hw] at hN; omega
      subst hN'
      simp only [Bool.false_eq_true, if_false]
      exact ih.mono (by grind)
    · have hN' : N = M + 1 := by simp [hw] at hN; omega
      subst hN'
      simp only [if_true]
      obtain ⟨q, hq, q0, q1, qe⟩ := prA_near h5 (digs 2 P m) P (Nat.le_refl P)
      have hp5 : (P : Rat) ≤ 5 := by exact_mod_cast h5
      have k2 := Rat.mul_le_mul_of_nonneg_right hp5 (show (0 : Rat) ≤ 3 * dl by grind)
      have h2p : (0 : Rat) < ((2 ^ P : Nat) : Rat) := by have : 0 < 2 ^ P := Nat.pow_pos (by decide)
                                                         exact_mod_cast this
      have hqe : q = hP := by
        have h1 : (q - hP) * ((2 ^ P : Nat) : Rat) = 0 := by grind
        rcases Rat.mul_eq_zero.1 h1 with h | h
        · grind
        · grind
      subst hqe
      have hM1 : ((M + 1 : Nat) : Rat) = (M : Rat) + 1 := Rat.natCast_add M 1
      have hMle : (M : Rat) + 1 ≤ ((2 ^ P : Nat) : Rat) := by rw [← hM1]; have : M + 1 ≤ 2 ^ P := by omega
                                                              exact_mod_cast this
      have hM0 : (0 : Rat) ≤ (M : Rat) := Rat.natCast_nonneg
      have b0 := rmul_nn hM0 q0
      have b1 := Rat.mul_le_mul_of_nonneg_right hMle q0
      have a := near_add ih hq b0 q0 (by grind) (by grind)
      rw [hM1, show ((M : Rat) + 1) * q = (M : Rat) * q + q by grind]
      exact a.mono (by grind)
/-- One phase at halves, and the chance at halves, and how many sets work. -/
theorem ChG.halves {p : Nat} {ns C : List Nat} (h : ChG p ns C) :
    ∃ Q : Rat, Nr .f32 (chS p ns (List.replicate p 1056964608)) Q ep ∧ Nr .f32 (sumP [ns] (List.replicate p 1056964608) p 1 (2 ^ p)) Q ep ∧ 0 ≤ Q ∧ Q ≤ 1 ∧ Q * ((2 ^ p : Nat) : Rat) = ((nW p ns : Nat) : Rat) := by
  have hs := (halves_sh p).1
  have g : ChG p ns (List.replicate p 1056964608) := h.mono (by simp) hs
  obtain ⟨x, x0, x1⟩ := g.x
  refine ⟨_, x, ?_, x0, x1, half_ex p ns⟩
  have h2p : (0 : Rat) < ((2 ^ p : Nat) : Rat) := by have : 0 < 2 ^ p := Nat.pow_pos (by decide)
                                                     exact_mod_cast this
  have hinv : (((2 ^ p : Nat) : Rat))⁻¹ * ((2 ^ p : Nat) : Rat) = 1 := Rat.inv_mul_cancel _ (by grind)
  have k := sumP_near h.p5 ns _ hinv (2 ^ p) (Nat.le_refl _) (nW p ns) (phase_count p (worksB ns))
  have e : ((nW p ns : Nat) : Rat) * (((2 ^ p : Nat) : Rat))⁻¹ = Ex (cR (List.replicate p 1056964608)) p (ind (worksB ns)) := by
    rw [← half_ex p ns, Rat.mul_assoc, Rat.mul_comm _ (((2 ^ p : Nat) : Rat))⁻¹, hinv, Rat.mul_one]
  rw [e] at k
  have h32 : ((2 ^ p : Nat) : Rat) ≤ 32 := by have := h.two; exact_mod_cast this
  have := Rat.mul_le_mul_of_nonneg_right h32 (show (0 : Rat) ≤ 16 * dl by decide +kernel)
  exact k.mono (Rat.le_trans this (by decide +kernel))
end Go.Proofs.Ytgmdoboeenpjpaa
/- The comparisons of the law on chances, in 64 bits. Plain. Condition: numbers of at most two. -/
namespace Go.Proofs.Ytgmdoboeenpjpaa
open Go Go.RowKit

attribute [local irreducible] tw
theorem rnd64 {A : Rat} (h : A ≤ 1000) : uu .f64 * A + eta .f64 ≤ 1 / 1000000 := by
  have h1 : uu .f64 ≤ 1 / 16000000000 := by rw [uu64]; decide +kernel
  have h2 : 0 < uu .f64 := tw_pos _
  have h3 : eta .f64 ≤ 1 / 100000000 := Rat.le_trans eta64.2 (by decide +kernel)
  have := rmul_le h (Rat.le_of_lt h2)
  grind
theorem add64 {a b : Nat} {x y : Rat} (ha : Num .f64 a) (hb : Num .f64 b) (x1 : fv .f64 a + fv .f64 b ≤ 1000) (x2 : -1000 ≤ fv .f64 a + fv .f64 b) : Nr .f64 (fop .add .f64 a b) (fv .f64 a + fv .f64 b) (1 / 1000000) := by
  have h100 := tw100
  exact ((wr_add ha hb).nr (A := 1000) x1 (by grind) (by grind)).1.mono (rnd64 (by grind))
theorem sub64 {a b : Nat} (ha : Num .f64 a) (hb : Num .f64 b) (x1 : fv .f64 a - fv .f64 b ≤ 1000) (x2 : -1000 ≤ fv .f64 a - fv .f64 b) : Nr .f64 (fop .sub .f64 a b) (fv .f64 a - fv .f64 b) (1 / 1000000) := by
  have h100 := tw100
  exact ((wr_sub ha hb).nr (A := 1000) x1 (by grind) (by grind)).1.mono (rnd64 (by grind))
theorem mul64 {a b : Nat} (ha : Num .f64 a) (hb : Num .f64 b) (x1 : fv .f64 a * fv .f64 b ≤ 1000) (x2 : -1000 ≤ fv .f64 a * fv .f64 b) : Nr .f64 (fop .mul .f64 a b) (fv .f64 a * fv .f64 b) (1 / 1000000) := by
  have h100 := tw100
  exact ((wr_mul ha hb).nr (A := 1000) x1 (by grind) (by grind)).1.mono (rnd64 (by grind))
def k001 : Nat := 4562254508917369340
def k01 : Nat := 4576918229304087675
theorem k001_val : Num .f64 k001 ∧ 999 / 1000000 ≤ fv .f64 k001 ∧ fv .f64 k001 ≤ 1001 / 1000000 := by
  have h : (FloatKind.f64).format.read k001 = .number false 4611686018427388 (-62) := by decide +kernel
  refine ⟨⟨_, _, _, h⟩, ?_⟩
  rw [fv_eq h]
  have h1 : tw (-((62 : Nat) : Int)) * ((2 ^ 62 : Nat) : Rat) = 1 := tw_neg 62
  have h3 : ((2 ^ 62 : Nat) : Rat) = 4611686018427387904 := rfl
  have h4 : tw (-((62 : Nat) : Int)) = tw (-62) := rfl
  rw [h3, h4] at h1
  have h2 : ((4611686018427388 : Nat) : Rat) = 4611686018427388 := rfl
  simp only [Bool.false_eq_true, if_false, h2]
  constructor <;> grind
theorem k01_val : Num .f64 k01 ∧ 99 / 10000 ≤ fv .f64 k01 ∧ fv .f64 k01 ≤ 101 / 10000 := by
  have h : (FloatKind.f64).format.read k01 = .number false 5764607523034235 (-59) := by decide +kernel
  refine ⟨⟨_, _, _, h⟩, ?_⟩
  rw [fv_eq h]
  have h1 : tw (-((59 : Nat) : Int)) * ((2 ^ 59 : Nat) : Rat) = 1 := tw_neg 59
  have h3 : ((2 ^ 59 : Nat) : Rat) = 576460752303423488 := rfl
  have h4 : tw (-((59 : Nat) : Int)) = tw (-59) := rfl
  rw [h3, h4] at h1
  have h2 : ((5764607523034235 : Nat) : Rat) = 5764607523034235 := rfl
  simp only [Bool.false_eq_true, if_false, h2]
  constructor <;> grind
/-- x is not less than low less a thousandth. -/
theorem cmp_low {x low : Nat} (hx : Num .f32 x) (hl : Num .f32 low) (h : fv .f32 low ≤ fv .f32 x + 6 / 10000) (b1 : -2 ≤ fv .f32 low) (b2 : fv .f32 low ≤ 3) :
    Num .f64 (fop .sub .f64 (wide low) k001) ∧ fcmp .lss .f64 (cn .f64 (wide x)) (cn .f64 (fop .sub .f64 (wide low) k001)) = false := by
  obtain ⟨n1, v1⟩ := wide_val hx
  obtain ⟨n2, v2⟩ := wide_val hl
  obtain ⟨n3, v3, v4⟩ := k001_val
  obtain ⟨n4, l, u⟩ := sub64 n2 n3 (by rw [v2]; grind) (by rw [v2]; grind)
  refine ⟨n4, ?_⟩
  rw [n1.cn, n4.cn, lss_val n1 n4, decide_eq_false_iff_not, v1]
  rw [v2] at l u
  grind
theorem cmp_high {x high : Nat} (hx : Num .f32 x) (hl : Num .f32 high) (h : fv .f32 x ≤ fv .f32 high + 6 / 10000) (b1 : -2 ≤ fv .f32 high) (b2 : fv .f32 high ≤ 3) :
    Num .f64 (fop .add .f64 (wide high) k001) ∧ fcmp .gtr .f64 (cn .f64 (wide x)) (cn .f64 (fop .add .f64 (wide high) k001)) = false ∧ fcmp .lss .f64 (cn .f64 (wide x)) (cn .f64 (fop .add .f64 (wide high) k001)) = true := by
  obtain ⟨n1, v1⟩ := wide_val hx
  obtain ⟨n2, v2⟩ := wide_val hl
  obtain ⟨n3, v3, v4⟩ := k001_val
  obtain ⟨n4, l, u⟩ := add64 (x := 0) (y := 0) n2 n3 (by rw [v2]; grind) (by rw [v2]; grind)
  refine ⟨n4, ?_, ?_⟩
  · rw [n1.cn, n4.cn, gtrF_val n1 n4, decide_eq_false_iff_not, v1]
    rw [v2] at l u
    grind
  · rw [n1.cn, n4.cn, lss_val n1 n4, decide_eq_true_eq, v1]
    rw [v2] at l u
    grind
theorem cmp_gap {z : Nat} (hz : Num .f64 z) (h : fv .f64 z ≤ 9 / 10000) : fcmp .gtr .f64 (cn .f64 z) (cn .f64 k001) = false ∧ fcmp .lss .f64 (cn .f64 z) (cn .f64 k001) = true := by
  obtain ⟨n3, v3, v4⟩ := k001_val
  constructor
  · rw [hz.cn, n3.cn, gtrF_val hz n3, decide_eq_false_iff_not]; grind
  · rw [hz.cn, n3.cn, lss_val hz n3, decide_eq_true_eq]; grind
theorem cmp_gap2 {z : Nat} (hz : Num .f64 z) (h : fv .f64 z ≤ 9 / 1000) : fcmp .lss .f64 (cn .f64 z) (cn .f64 k01) = true := by
  obtain ⟨n3, v3, v4⟩ := k01_val
  rw [hz.cn, n3.cn, lss_val hz n3, decide_eq_true_eq]; grind
theorem gap_le {a b : Nat} {D : Rat} (ha : Num .f64 a) (hb : Num .f64 b) (h1 : fv .f64 a - fv .f64 b ≤ D) (h2 : fv .f64 b - fv .f64 a ≤ D) (hD : D ≤ 100) : (Num .f64 (fop .sub .f64 a b) ∧ fv .f64 (fop .sub .f64 a b) ≤ D + 1 / 1000000) ∧ (Num .f64 (fop .sub .f64 b a) ∧ fv .f64 (fop .sub .f64 b a) ≤ D + 1 / 1000000) := by
  obtain ⟨n1, l1, _⟩ := sub64 ha hb (by grind) (by grind)
  obtain ⟨n2, l2, _⟩ := sub64 hb ha (by grind) (by grind)
  exact ⟨⟨n1, by grind⟩, n2, by grind⟩
/-- What a part adds, in 64 bits. -/
theorem part64 {y c d : Nat} (hy : Num .f32 y) (hc : Num .f32 c) (hd : Num .f32 d) (y1 : -1 ≤ fv .f32 y) (y2 : fv .f32 y ≤ 2) (c0 : 0 ≤ fv .f32 c) (c1 : fv .f32 c ≤ 1) (d0 : -1 ≤ fv .f32 d) (d1 : fv .f32 d ≤ 2) :
    Num .f64 (wide y) ∧ Num .f64 (wide c) ∧ Num .f64 (wide d) ∧ Num .f64 (fop .mul .f64 (wide c) (wide d)) ∧ Nr .f64 (fop .add .f64 (wide y) (fop .mul .f64 (wide c) (wide d))) (fv .f32 y + fv .f32 c * fv .f32 d) (1 / 100000) := by
  obtain ⟨n1, v1⟩ := wide_val hy
  obtain ⟨n2, v2⟩ := wide_val hc
  obtain ⟨n3, v3⟩ := wide_val hd
  have m1 := rmul_le d1 c0
  have m2 := rmul_le d0 c0
  have m := mul64 n2 n3 (by rw [v2, v3]; grind) (by rw [v2, v3]; grind)
  rw [v2, v3] at m
  obtain ⟨n4, l, u⟩ := m
  obtain ⟨n5, l2, u2⟩ := add64 (x := 0) (y := 0) n1 n4 (by rw [v1]; grind) (by rw [v1]; grind)
  rw [v1] at l2 u2
  exact ⟨n1, n2, n3, n4, n5, by grind, by grind⟩
/-- The number of sets that work, from the chance at halves. -/
theorem half64 {h p N : Nat} {Q : Rat} (hp : p ≤ 5) (hn : Nr .f32 h Q ep) (q0 : 0 ≤ Q) (q1 : Q ≤ 1) (hQ : Q * ((2 ^ p : Nat) : Rat) = (N : Rat)) :
    Num .f64 (wide h) ∧ Num .f64 (floatOfInt .f64 ((2 ^ p : Nat) : Int)) ∧ Num .f64 (floatOfInt .f64 (N : Int)) ∧ Num .f64 (fop .mul .f64 (wide h) (floatOfInt .f64 ((2 ^ p : Nat) : Int))) ∧
    fv .f64 (fop .mul .f64 (wide h) (floatOfInt .f64 ((2 ^ p : Nat) : Int))) - fv .f64 (floatOfInt .f64 (N : Int)) ≤ 4 / 1000 ∧ fv .f64 (floatOfInt .f64 (N : Int)) - fv .f64 (fop .mul .f64 (wide h) (floatOfInt .f64 ((2 ^ p : Nat) : Int))) ≤ 4 / 1000 := by
  have h32 : 2 ^ p ≤ 32 := Nat.pow_le_pow_right (n := 2) (by decide) hp
  have hR : ((2 ^ p : Nat) : Rat) ≤ 32 := by exact_mod_cast h32
  have hR0 : (0 : Rat) ≤ ((2 ^ p : Nat) : Rat) := Rat.natCast_nonneg
  have hN : N ≤ 32 := by
    have h1 := Rat.mul_le_mul_of_nonneg_right q1 hR0
    rw [hQ] at h1
    have h2 : (N : Rat) ≤ ((32 : Nat) : Rat) := by have : ((32 : Nat) : Rat) = 32 := rfl
                                                   rw [this]; grind
    exact_mod_cast h2
  obtain ⟨hn, l, u⟩ := hn
  obtain ⟨n1, v1⟩ := wide_val hn
  obtain ⟨n2, v2⟩ := ofInt_val .f64 (z := ((2 ^ p : Nat) : Int)) (by rw [Int.natAbs_natCast]; omega)
  obtain ⟨n3, v3⟩ := ofInt_val .f64 (z := (N : Int)) (by omega)
  rw [Rat.intCast_natCast] at v2 v3
  have he : ep ≤ 1 / 9000 := by decide +kernel
  have he0 : 0 ≤ ep := by decide +kernel
  generalize ((2 ^ p : Nat) : Rat) = T at *
  have k1 := Rat.mul_le_mul_of_nonneg_right l hR0
  have k2 := Rat.mul_le_mul_of_nonneg_right u hR0
  have k3 := rmul_le hR he0
  have k4 : (Q + ep) * T = Q * T + ep * T := by grind
  have k5 : (fv .f32 h + ep) * T = fv .f32 h * T + ep * T := by grind
  rw [k4, hQ] at k1
  rw [k5, hQ] at k2
  have hNR : (N : Rat) ≤ 32 := by exact_mod_cast hN
  have hN0 : (0 : Rat) ≤ (N : Rat) := Rat.natCast_nonneg
  clear k4 k5 hQ
  have m := mul64 n1 n2 (by rw [v1, v2]; grind) (by rw [v1, v2]; grind)
  rw [v1, v2] at m
  obtain ⟨n4, l2, u2⟩ := m
  rw [v3]
  exact ⟨n1, n2, n3, n4, by grind, by grind⟩
end Go.Proofs.Ytgmdoboeenpjpaa
/- Chances of joined systems: parts that have nothing to do with each other; chances of more parts, by what they err in proportion. Plain. Condition: at most eight parts. -/
namespace Go.Proofs.Ytgmdoboeenpjpaa
open Go Go.RowKit

attribute [local irreducible] tw
/-! ### Two systems that share no part -/
theorem Ex_join {C : Nat → Rat} {p : Nat} : ∀ (q : Nat) (g h : Nat → Rat), Ex C (p + q) (fun s => g (s % 2 ^ p) * h (s / 2 ^ p)) = Ex C p g * Ex (fun i => C (p + i)) q h
  | 0, g, h => by
    show Ex C p _ = Ex C p g * h 0
    have e : Ex C p (fun s => g (s % 2 ^ p) * h (s / 2 ^ p)) = Ex C p (fun s => h 0 * g s + 0) := Ex_congr fun s hs => by
      rw [Nat.mod_eq_of_lt hs, Nat.div_eq_of_lt hs]; grind
    rw [e, Ex_lin]; grind
  | q + 1, g, h => by
    have hp : 0 < 2 ^ p := Nat.pow_pos (by decide)
    have e0 := Ex_join (C := C) (p := p) q g h
    have e1 : Ex C (p + q) (fun t => g ((t + 2 ^ (p + q)) % 2 ^ p) * h ((t + 2 ^ (p + q)) / 2 ^ p)) = Ex C p g * Ex (fun i => C (p + i)) q (fun u => h (u + 2 ^ q)) := by
      rw [← Ex_join q g fun u => h (u + 2 ^ q)]
      refine Ex_congr fun t _ => ?_
      rw [Nat.pow_add, Nat.add_mul_mod_self_left, Nat.add_mul_div_left _ _ hp]
    show (1 - C (p + q)) * Ex C (p + q) (fun s => g (s % 2 ^ p) * h (s / 2 ^ p)) + C (p + q) * Ex C (p + q) (fun t => g ((t + 2 ^ (p + q)) % 2 ^ p) * h ((t + 2 ^ (p + q)) / 2 ^ p)) = Ex C p g * ((1 - C (p + q)) * Ex (fun i => C (p + i)) q h + C (p + q) * Ex (fun i => C (p + i)) q (fun u => h (u + 2 ^ q)))
    rw [e0, e1]
    grind
theorem bit_mod (s a i : Nat) : (s % 2 ^ a).testBit i = (decide (i < a) && s.testBit i) := Nat.testBit_mod_two_pow s a i
theorem bit_div (s a i : Nat) : (s / 2 ^ a).testBit i = s.testBit (a + i) := by rw [← Nat.shiftRight_eq_div_pow, Nat.testBit_shiftRight]
theorem has_low {s x a : Nat} (hx : x < 2 ^ a) : hasB s x = hasB (s % 2 ^ a) x := by
  rw [Bool.eq_iff_iff, hasB_bits, hasB_bits]
  constructor
  · intro h i hi
    rcases Nat.lt_or_ge i a with h1 | h1
    · rw [bit_mod, decide_eq_true h1, h i hi]; rfl
    · rw [bit_up hx h1] at hi; cases hi
  · intro h i hi
    have := h i hi
    rw [bit_mod, Bool.and_eq_true] at this
    exact this.2
theorem has_high {s q a : Nat} : hasB s (q * 2 ^ a) = hasB (s / 2 ^ a) q := by
  have hb : ∀ i, (q * 2 ^ a).testBit i = (decide (a ≤ i) && q.testBit (i - a)) := fun i => by rw [Nat.testBit_mul_two_pow]
  rw [Bool.eq_iff_iff, hasB_bits, hasB_bits]
  constructor
  · intro h i hi
    rw [bit_div]
    refine h (a + i) ?_
    rw [hb, decide_eq_true (by omega), show a + i - a = i by omega, hi]; rfl
  · intro h i hi
    rw [hb, Bool.and_eq_true, decide_eq_true_eq] at hi
    have := h (i - a) hi.2
    rwa [bit_div, show a + (i - a) = i by omega] at this
theorem has_both {s x q a : Nat} (hx : x < 2 ^ a) : hasB s (x + q * 2 ^ a) = (hasB (s % 2 ^ a) x && hasB (s / 2 ^ a) q) := by
  have hb : ∀ i, (x + q * 2 ^ a).testBit i = if i < a then x.testBit i else q.testBit (i - a) := fun i => by
    rw [Nat.add_comm, Nat.mul_comm q, Nat.testBit_two_pow_mul_add q hx]
  rw [← has_low hx, ← has_high (s := s) (q := q) (a := a), Bool.eq_iff_iff, Bool.and_eq_true, hasB_bits, hasB_bits, hasB_bits]
  have hq : ∀ i, (q * 2 ^ a).testBit i = (decide (a ≤ i) && q.testBit (i - a)) := fun i => by rw [Nat.testBit_mul_two_pow]
  constructor
  · intro h
    refine ⟨fun i hi => h i ?_, fun i hi => h i ?_⟩
    · rw [hb]
      split
      · exact hi
      · rw [bit_up hx (by omega)] at hi; cases hi
    · rw [hq, Bool.and_eq_true, decide_eq_true_eq] at hi
      rw [hb, if_neg (by omega)]; exact hi.2
  · rintro ⟨h1, h2⟩ i hi
    rw [hb] at hi
    by_cases hia : i < a
    · rw [if_pos hia] at hi; exact h1 i hi
    · rw [if_neg hia] at hi
      refine h2 i ?_
      rw [hq, decide_eq_true (by omega), hi]; rfl
theorem works_chain {a : Nat} {A B L : List Nat} (hA : ∀ x ∈ A, x < 2 ^ a) (hL : ∀ s, s ∈ L ↔ ∃ p ∈ A, ∃ q ∈ B, s = p + q * 2 ^ a) (s : Nat) : worksB L s = (worksB A (s % 2 ^ a) && worksB B (s / 2 ^ a)) := by
  rw [Bool.eq_iff_iff, Bool.and_eq_true, worksB_iff, worksB_iff, worksB_iff]
  constructor
  · rintro ⟨n, hn, hh⟩
    obtain ⟨p, hp, q, hq, rfl⟩ := (hL n).1 hn
    rw [has_both (hA p hp), Bool.and_eq_true] at hh
    exact ⟨⟨p, hp, hh.1⟩, q, hq, hh.2⟩
  · rintro ⟨⟨p, hp, h1⟩, q, hq, h2⟩
    exact ⟨p + q * 2 ^ a, (hL _).2 ⟨p, hp, q, hq, rfl⟩, by rw [has_both (hA p hp), h1, h2]; rfl⟩
theorem works_beside {a : Nat} {A B L : List Nat} (hA : ∀ x ∈ A, x < 2 ^ a) (hL : ∀ s, s ∈ L ↔ s ∈ A ∨ ∃ q ∈ B, s = q * 2 ^ a) (s : Nat) : worksB L s = (worksB A (s % 2 ^ a) || worksB B (s / 2 ^ a)) := by
  rw [Bool.eq_iff_iff, Bool.or_eq_true, worksB_iff, worksB_iff, worksB_iff]
  constructor
  · rintro ⟨n, hn, hh⟩
    rcases (hL n).1 hn with h | ⟨q, hq, rfl⟩
    · exact .inl ⟨n, h, by rw [← has_low (hA n h)]; exact hh⟩
    · exact .inr ⟨q, hq, by rw [← has_high]; exact hh⟩
  · rintro (⟨p, hp, h1⟩ | ⟨q, hq, h2⟩)
    · exact ⟨p, (hL p).2 (.inl hp), by rw [has_low (hA p hp)]; exact h1⟩
    · exact ⟨_, (hL _).2 (.inr ⟨q, hq, rfl⟩), by rw [has_high]; exact h2⟩
theorem ind_and (f g : Nat → Bool) (s t : Nat) : ind1 (f s && g t) = ind f s * ind g t := by
  unfold ind ind1
  cases f s <;> cases g t <;> simp <;> decide +kernel
theorem ind_or (f g : Nat → Bool) (s t : Nat) : ind1 (f s || g t) = 1 - (1 - ind f s) * (1 - ind g t) := by
  unfold ind ind1
  cases f s <;> cases g t <;> simp <;> decide +kernel
theorem Ex_chain {C : Nat → Rat} {a b : Nat} {A B L : List Nat} (hA : ∀ x ∈ A, x < 2 ^ a) (hL : ∀ s, s ∈ L ↔ ∃ p ∈ A, ∃ q ∈ B, s = p + q * 2 ^ a) : Ex C (a + b) (ind (worksB L)) = Ex C a (ind (worksB A)) * Ex (fun i => C (a + i)) b (ind (worksB B)) := by
  rw [← Ex_join]
  refine Ex_congr fun s _ => ?_
  show ind1 (worksB L s) = _
  rw [works_chain hA hL]
  exact ind_and (worksB A) (worksB B) _ _
theorem Ex_beside {C : Nat → Rat} {a b : Nat} {A B L : List Nat} (hA : ∀ x ∈ A, x < 2 ^ a) (hL : ∀ s, s ∈ L ↔ s ∈ A ∨ ∃ q ∈ B, s = q * 2 ^ a) : Ex C (a + b) (ind (worksB L)) = 1 - (1 - Ex C a (ind (worksB A))) * (1 - Ex (fun i => C (a + i)) b (ind (worksB B))) := by
  have e : Ex C (a + b) (ind (worksB L)) = Ex C (a + b) (fun s => -1 * ((fun t => -1 * ind (worksB A) t + 1) (s % 2 ^ a) * (fun t => -1 * ind (worksB B) t + 1) (s / 2 ^ a)) + 1) := Ex_congr fun s _ => by
    show ind1 (worksB L s) = _
    rw [works_beside hA hL, ind_or (worksB A) (worksB B)]
    grind
  have j := Ex_join (C := C) (p := a) b (fun t => -1 * ind (worksB A) t + 1) (fun t => -1 * ind (worksB B) t + 1)
  rw [Ex_lin, Ex_lin] at j
  rw [e, Ex_lin]
  refine (congrArg (fun z => -1 * z + 1) j).trans ?_
  grind

/-! ### Errors in proportion -/
theorem u32f : uu .f32 ≤ 1 / 16000000 ∧ 0 < uu .f32 ∧ eta .f32 ≤ 1 / 1000000000000 ∧ 0 < eta .f32 := by
  refine ⟨?_, tw_pos _, ?_, eta32.1⟩
  · rw [uu32]; decide +kernel
  · exact Rat.le_trans eta32.2 (by decide +kernel)
theorem rel_mul {a b : Nat} {x y e t : Rat} (h1 : Nr .f32 a x (e * x + t)) (h2 : Nr .f32 b y (y / 16000000 + 1 / 1000000000000)) (x0 : 0 ≤ x) (x1 : x ≤ 1) (y0 : 0 ≤ y) (y1 : y ≤ 1) (e0 : 0 ≤ e) (e1 : e ≤ 1 / 100000) (t0 : 0 ≤ t) (t1 : t ≤ 1 / 10000000) :
    Nr .f32 (fop .mul .f32 a b) (x * y) ((e + 4 / 16000000) * (x * y) + (t + 1 / 1000000000)) := by
  obtain ⟨n1, l1, u1⟩ := h1
  obtain ⟨n2, l2, u2⟩ := h2
  have h100 := tw100
  have xy0 := rmul_nn x0 y0
  have xy1 := rmul_le y1 x0
  obtain ⟨p1, p2⟩ := abs_mul (u := fv .f32 a - x) (v := fv .f32 b) (e := e * x + t) (B := y + y / 16000000 + 1 / 1000000000000) (by grind) (by grind) (by grind) (by grind)
  obtain ⟨q1, q2⟩ := abs_mul (u := fv .f32 b - y) (v := x) (e := y / 16000000 + 1 / 1000000000000) (B := x) (by grind) (by grind) (by grind) (by grind)
  have e2 : fv .f32 a * fv .f32 b = x * y + (fv .f32 a - x) * fv .f32 b + (fv .f32 b - y) * x := by grind
  have k1 : (e * x + t) * (y + y / 16000000 + 1 / 1000000000000) = e * (x * y) + e * (x * y) / 16000000 + e * x / 1000000000000 + t * y + t * y / 16000000 + t / 1000000000000 := by grind
  have k2 : (y / 16000000 + 1 / 1000000000000) * x = x * y / 16000000 + x / 1000000000000 := by grind
  rw [k1] at p1 p2
  rw [k2] at q1 q2
  have m1 := Rat.mul_le_mul_of_nonneg_right e1 xy0
  have m0 := rmul_nn e0 xy0
  have m2 := Rat.mul_le_mul_of_nonneg_right e1 x0
  have m3 := rmul_nn e0 x0
  have m4 := rmul_le y1 t0
  have m5 := rmul_nn t0 y0
  have g0 : (e + 4 / 16000000) * (x * y) = e * (x * y) + 4 / 16000000 * (x * y) := by grind
  rw [g0]
  clear g0 k1 k2
  generalize (fv .f32 a - x) * fv .f32 b = P at *
  generalize (fv .f32 b - y) * x = Q at *
  generalize e * (x * y) = eP at *
  generalize e * x = ex at *
  generalize t * y = ty at *
  generalize x * y = M at *
  have hA1 : fv .f32 a * fv .f32 b ≤ 2 * M + 1 / 1000000 := by rw [e2]; grind
  have hA2 : -(fv .f32 a * fv .f32 b) ≤ 2 * M + 1 / 1000000 := by rw [e2]; grind
  obtain ⟨⟨n, l, u⟩, _⟩ := (wr_mul n1 n2).nr (A := 2 * M + 1 / 1000000) hA1 hA2 (by grind)
  obtain ⟨w1, w2, w3, w4⟩ := u32f
  have r := Rat.mul_le_mul_of_nonneg_right w1 (show (0 : Rat) ≤ 2 * M + 1 / 1000000 by grind)
  generalize uu .f32 * (2 * M + 1 / 1000000) = R at *
  rw [e2] at l u
  exact ⟨n, by grind, by grind⟩
theorem rel_pick {p s i : Nat} {C : List Nat} (h : ShR p C) (hi : i < p) : Nr .f32 (pickC s i (C.getD i 0)) (if s.testBit i then cR C i else 1 - cR C i) ((if s.testBit i then cR C i else 1 - cR C i) / 16000000 + 1 / 1000000000000) := by
  obtain ⟨n, c0, c1⟩ := h i hi
  have h100 := tw100
  unfold pickC cR
  split
  · exact ⟨n, by grind, by grind⟩
  · obtain ⟨o1, o2⟩ := oneF_val
    obtain ⟨⟨m, l, u⟩, _⟩ := (wr_sub o1 n).nr (A := 1 - fv .f32 (C.getD i 0)) (by rw [o2]; grind) (by rw [o2]; grind) (by grind)
    rw [o2] at l u
    obtain ⟨w1, w2, w3, w4⟩ := u32f
    have r := Rat.mul_le_mul_of_nonneg_right w1 (show (0 : Rat) ≤ 1 - fv .f32 (C.getD i 0) by grind)
    generalize uu .f32 * (1 - fv .f32 (C.getD i 0)) = R at *
    exact ⟨m, by grind, by grind⟩
theorem prK_rel {p s : Nat} {C : List Nat} (h : ShR p C) : ∀ i, i ≤ p → i ≤ 8 → Nr .f32 (prK s C i) (pkR s (cR C) i) (((i : Rat) * (4 / 16000000)) * pkR s (cR C) i + (i : Rat) * (1 / 1000000000))
  | 0, _, _ => by
    have e1 : ((0 : Nat) : Rat) * (4 / 16000000) = 0 := Rat.zero_mul _
    have e2 : ((0 : Nat) : Rat) * (1 / 1000000000) = 0 := Rat.zero_mul _
    rw [e1, e2, Rat.zero_mul, Rat.add_zero]; exact oneF_near
  | i + 1, hi, h8 => by
    obtain ⟨a0, a1⟩ := pkR_in h.inU (s := s) i (by omega)
    obtain ⟨c0, c1⟩ := h.inU i (by omega)
    have ih := prK_rel (s := s) h i (by omega) (by omega)
    have hb : 0 ≤ (if s.testBit i then cR C i else 1 - cR C i) ∧ (if s.testBit i then cR C i else 1 - cR C i) ≤ 1 := by split <;> constructor <;> grind
    have e : ((i + 1 : Nat) : Rat) = (i : Rat) + 1 := Rat.natCast_add i 1
    have hi8 : (i : Rat) ≤ 8 := by have : i ≤ 8 := by omega
                                   exact_mod_cast this
    have hi0 : (0 : Rat) ≤ (i : Rat) := Rat.natCast_nonneg
    have := rel_mul ih (rel_pick (s := s) h (show i < p by omega)) a0 a1 hb.1 hb.2 (by grind) (by grind) (by grind) (by grind)
    unfold prK pkR
    rw [e]
    generalize (if s.testBit i then cR C i else 1 - cR C i) = y at *
    exact this.mono (by grind)
theorem near_sumR {f : Nat → Nat} {r : Nat → Rat} {η τ : Rat} (h0 : 0 ≤ η) (h1 : η ≤ 1 / 10000) (t0 : 0 ≤ τ) : ∀ (l : List Nat) (s0 : Nat) (X e : Rat), (∀ s ∈ l, Nr .f32 (f s) (r s) (η * r s + τ) ∧ 0 ≤ r s) → Nr .f32 s0 X e → 0 ≤ e → e + η * (l.map r).sum + (l.length : Rat) * (τ + dl) ≤ 1 / 2 → 0 ≤ X → X + (l.map r).sum ≤ 2 →
    Nr .f32 (sumF s0 (l.map f)) (X + (l.map r).sum) (e + η * (l.map r).sum + (l.length : Rat) * (τ + dl))
  | [], s0, X, e, _, hs, _, _, _, _ => by
    have : (([] : List Nat).length : Rat) * (τ + dl) = 0 := Rat.zero_mul _
    rw [this]
    show Nr .f32 s0 (X + 0) (e + η * 0 + 0)
    exact ⟨hs.1, by have := hs.2.1; grind, by have := hs.2.2; grind⟩
  | s :: l, s0, X, e, hl, hs, he0, he, hX, hS => by
    have hd := dl_pos
    obtain ⟨n1, n2⟩ := hl s (by simp)
    have e1 : (((s :: l).length : Nat) : Rat) = (l.length : Rat) + 1 := Rat.natCast_add l.length 1
    have hl0 : (0 : Rat) ≤ (l.length : Rat) := Rat.natCast_nonneg
    have k0 := rmul_nn hl0 (show (0 : Rat) ≤ τ + dl by grind)
    rw [e1] at he ⊢
    rw [List.map_cons (f := r), List.sum_cons] at hS he ⊢
    have hr0 : 0 ≤ (l.map r).sum := by
      have : ∀ (l : List Nat), (∀ s ∈ l, 0 ≤ r s) → 0 ≤ (l.map r).sum := by
        intro l
        induction l with
        | nil => intro _; exact Rat.le_refl
        | cons y l ih => intro h; rw [List.map_cons, List.sum_cons]; have := h y (by simp); have := ih fun z hz => h z (List.mem_cons_of_mem _ hz); grind
      exact this l fun z hz => (hl z (List.mem_cons_of_mem _ hz)).2
    have m1 := rmul_nn h0 n2
    have m2 := rmul_nn h0 hr0
    have st := near_add hs n1 hX n2 (by grind) (by grind)
    have := near_sumR h0 h1 t0 l (fop .add .f32 s0 (f s)) (X + r s) (e + (η * r s + τ) + dl) (fun z hz => hl z (List.mem_cons_of_mem _ hz)) st (by grind) (by grind) (by grind) (by grind)
    show Nr .f32 (sumF (fop .add .f32 s0 (f s)) (l.map f)) _ _
    rw [show X + (r s + (l.map r).sum) = X + r s + (l.map r).sum by grind, show e + η * (r s + (l.map r).sum) + ((l.length : Rat) + 1) * (τ + dl) = e + (η * r s + τ) + dl + η * (l.map r).sum + (l.length : Rat) * (τ + dl) by grind]
    exact this
/-- A chance of at most eight parts. -/
theorem chS_near8 {p : Nat} {ns C : List Nat} (hp : p ≤ 8) (h : ShR p C) : Nr .f32 (chS p ns C) (Ex (cR C) p (ind (worksB ns))) (1 / 10000) := by
  have hpr : (p : Rat) ≤ 8 := by exact_mod_cast hp
  have hp0 : (0 : Rat) ≤ (p : Rat) := Rat.natCast_nonneg
  have hlen : ((List.range (2 ^ p)).filter (worksB ns)).length ≤ 256 := by
    refine Nat.le_trans (List.length_filter_le _ _) ?_
    rw [List.length_range]
    exact Nat.pow_le_pow_right (n := 2) (by decide) hp
  have hb := Ex_bounds h.inU (g := ind (worksB ns)) (fun s _ => ind_nn _ s) (fun s _ => ind_le _ s)
  have hs : (((List.range (2 ^ p)).filter (worksB ns)).map fun s => pkR s (cR C) p).sum = Ex (cR C) p (ind (worksB ns)) := by
    rw [sum_filter]; exact Ex_sum _ _ _
  have hlr : ((((List.range (2 ^ p)).filter (worksB ns)).length : Nat) : Rat) ≤ 256 := by exact_mod_cast hlen
  have hd0 := dl_pos
  have k1 := Rat.mul_le_mul_of_nonneg_right hlr (show (0 : Rat) ≤ 1 / 100000000 + dl by grind)
  have hk : (256 : Rat) * (1 / 100000000 + dl) ≤ 6 / 100000 := by decide +kernel
  have key := near_sumR (f := fun s => prK s C p) (r := fun s => pkR s (cR C) p) (η := 2 / 1000000) (τ := 1 / 100000000) (by decide +kernel) (by decide +kernel) (by decide +kernel) ((List.range (2 ^ p)).filter (worksB ns)) (cn .f32 0) 0 0
    (fun s _ => ⟨(prK_rel h p (Nat.le_refl p) hp).mono (by
      have q0 := (pkR_in h.inU (s := s) p (Nat.le_refl p)).1
      have q1 := Rat.mul_le_mul_of_nonneg_right (show (p : Rat) * (4 / 16000000) ≤ 2 / 1000000 by grind) q0
      grind), (pkR_in h.inU p (Nat.le_refl p)).1⟩) zeroF_near (by grind) (by rw [hs]; grind) (by grind) (by rw [hs]; grind)
  rw [hs, show (0 : Rat) + Ex (cR C) p (ind (worksB ns)) = Ex (cR C) p (ind (worksB ns)) by grind] at key
  unfold chS
  exact key.mono (by grind)
end Go.Proofs.Ytgmdoboeenpjpaa
