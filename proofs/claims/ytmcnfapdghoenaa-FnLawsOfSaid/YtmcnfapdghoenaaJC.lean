
/- Survivors in floats: near exact ones, and they fall. Plain. Conditions: in the theorems. -/
import Derived.Test.YtmcnfapdghoenaaJB
namespace Go.Proofs.Ytmcnfapdghoenaa
open Go Go.RowKit

attribute [local irreducible] tw
theorem EX_20 : EX (-20) ≤ 1 / 100000000 := by decide +kernel
theorem EX_12 : EX (-1199 / 100) ≤ 7 / 1000000 := by decide +kernel
attribute [local irreducible] EX
/-- e to the minus a, cut at 20. -/
def EN (a : Rat) : Rat := if a ≤ 20 then EX (-a) else EX (-20)
theorem EN_in {a : Rat} (h : 0 ≤ a) : 0 ≤ EN a ∧ EN a ≤ 1 := by
  have e0 : EX 0 = 1 := by
    have h := EX_mono (x := 0) (y := 0) (by decide +kernel) Rat.le_refl (by decide +kernel)
    unfold EX
    have : pH (0 / 256) 12 = 1 := by decide +kernel
    rw [this]; exact sqN_one 8
  unfold EN
  split
  · obtain ⟨p, q⟩ := EX_mono (x := -a) (y := 0) (by grind) (by grind) (by decide +kernel)
    rw [e0] at q; exact ⟨p, q⟩
  · obtain ⟨p, q⟩ := EX_mono (x := -20) (y := 0) (by decide +kernel) (by decide +kernel) (by decide +kernel)
    rw [e0] at q; exact ⟨p, q⟩
theorem EN_fall {a b : Rat} (h0 : 0 ≤ a) (h : a ≤ b) : EN b ≤ EN a ∧ EN a ≤ EN b + 5 / 4 * (b - a) := by
  unfold EN
  by_cases h1 : b ≤ 20
  · rw [if_pos h1, if_pos (show a ≤ 20 by grind)]
    obtain ⟨p, q⟩ := EX_mono (x := -b) (y := -a) (by grind) (by grind) (by grind)
    have r := EX_lip (x := -b) (y := -a) (by grind) (by grind) (by grind)
    exact ⟨q, by grind⟩
  · rw [if_neg h1]
    by_cases h2 : a ≤ 20
    · rw [if_pos h2]
      obtain ⟨p, q⟩ := EX_mono (x := -20) (y := -a) (by decide +kernel) (by grind) (by grind)
      have r := EX_lip (x := -20) (y := -a) (by decide +kernel) (by grind) (by grind)
      exact ⟨q, by grind⟩
    · rw [if_neg h2]; exact ⟨Rat.le_refl, by grind⟩
/-- The exponential of what is not above nothing. -/
def expX (v : Nat) : Nat := if fcmp .lss .f32 v 3276275712 then 0 else expF v
theorem c200_val : Num .f32 3276275712 ∧ fv .f32 3276275712 = -200 := by
  have h : 3276275712 = floatOfInt .f32 (-200) := by decide +kernel
  obtain ⟨a, b⟩ := ofInt_val .f32 (z := -200) (by decide)
  rw [← h] at a b
  exact ⟨a, b⟩
theorem zeroF_val : Num .f32 0 ∧ fv .f32 0 = 0 := by
  have h : (FloatKind.f32).format.read 0 = .number false 0 (-149) := by decide +kernel
  refine ⟨⟨_, _, _, h⟩, ?_⟩
  rw [fv_eq h]; show ((0 : Nat) : Rat) * tw (-149) = 0; exact Rat.zero_mul _
theorem expX_near {v : Nat} (n : Num .f32 v) (h : fv .f32 v ≤ 0) : Nr .f32 (expX v) (EN (-fv .f32 v)) (1 / 10000000) := by
  obtain ⟨c1, c2⟩ := c200_val
  have h20 := EX_20
  unfold expX
  rw [lss_val n c1, c2]
  by_cases hc : fv .f32 v < -200
  · rw [decide_eq_true hc, if_pos rfl]
    obtain ⟨z1, z2⟩ := zeroF_val
    obtain ⟨p, -⟩ := EN_in (a := -fv .f32 v) (by grind)
    have e : EN (-fv .f32 v) = EX (-20) := by unfold EN; rw [if_neg (by grind)]
    exact ⟨z1, by rw [z2]; grind, by rw [z2, e]; grind⟩
  · rw [decide_eq_false hc, if_neg Bool.false_ne_true]
    obtain ⟨⟨m, l, u⟩, p, q⟩ := expF_neg n (by grind) h
    by_cases h2 : -fv .f32 v ≤ 20
    · have e : EN (-fv .f32 v) = EX (fv .f32 v) := by unfold EN; rw [if_pos h2]; congr 1; grind
      rw [e]; exact ⟨m, by grind, by grind⟩
    · have e : EN (-fv .f32 v) = EX (-20) := by unfold EN; rw [if_neg h2]
      obtain ⟨r, s⟩ := EX_mono (x := fv .f32 v) (y := -20) (by grind) (by grind) (by decide +kernel)
      rw [e]; exact ⟨m, by grind, by grind⟩
/-- The negative of a number. -/
theorem neg_near {p A : Rat} {x : Nat} (n : Num .f32 x) (h0 : 0 ≤ fv .f32 x) (h1 : fv .f32 x ≤ A) (hA : A ≤ 10000) : Num .f32 (fop .sub .f32 0 x) ∧ fv .f32 (fop .sub .f32 0 x) ≤ 0 ∧ -fv .f32 (fop .sub .f32 0 x) ≤ fv .f32 x + (A / 16000000 + 1 / 1000000000000000000) ∧ fv .f32 x ≤ -fv .f32 (fop .sub .f32 0 x) + (A / 16000000 + 1 / 1000000000000000000) := by
  obtain ⟨z1, z2⟩ := zeroF_val
  have h100 := tw100
  obtain ⟨w1, w2, w3, w4⟩ := u32j
  obtain ⟨⟨m, l, u⟩, s1, s2⟩ := (wr_sub z1 n).nr (A := A) (by rw [z2]; grind) (by rw [z2]; grind) (by grind)
  have w5 := Rat.mul_le_mul_of_nonneg_right w1 (show 0 ≤ A by grind)
  rw [z2] at l u s2
  exact ⟨m, s2 (by grind), by grind, by grind⟩
/-- Kind 1. -/
def s1F (y x : Nat) : Nat := expX (fop .sub .f32 0 (powF y x))
theorem powF_sign {y x : Nat} (n : Num .f32 (powF y x)) (z : Num .f32 (fop .mul .f32 y (logF x))) (h1 : -200 ≤ fv .f32 (fop .mul .f32 y (logF x))) (h2 : fv .f32 (fop .mul .f32 y (logF x)) ≤ 8) : 0 ≤ fv .f32 (powF y x) := by
  unfold powF at *
  generalize fop .mul .f32 y (logF x) = q at *
  have hs : ∀ b A, Num .f64 b → 0 ≤ fv .f64 b → fv .f64 b ≤ A → A ≤ 10000 → 0 ≤ fv .f32 (narrowF b) := fun b A nb h0 hA h4 => by
    have h100 := tw100
    exact (narrow_val (A := A) nb hA (by grind) (by grind)).2.1.1 h0
  have pos : 0 ≤ fv .f64 (expW q) ∧ fv .f64 (expW q) ≤ 9000 := by
    have key : ∀ p, Num .f64 p → 0 ≤ fv .f64 p * fv .f64 p := fun p _ => by
      by_cases h : 0 ≤ fv .f64 p
      · exact jmul_nn h h
      · have := jmul_nn (show 0 ≤ -fv .f64 p by grind) (show 0 ≤ -fv .f64 p by grind); grind
    by_cases hq : fv .f32 q ≤ 0
    · obtain ⟨⟨m, l, u⟩, a, b⟩ := exp_neg z h1 hq
      refine ⟨?_, by grind⟩
      -- a square
      have e : expW q = fop .mul .f64 (expSq (expHorner (expT q) 12) 7) (expSq (expHorner (expT q) 12) 7) := rfl
      have ht := expT_near z h1 (by grind)
      have hd : fv .f32 q / 256 = fv .f32 q * (1 / 256) := div256 _
      have hh := horner_near ht (by rw [hd]; grind) (by rw [hd]; grind) 12 (by decide)
      obtain ⟨c, d⟩ := pH_neg (t := fv .f32 q / 256) (by rw [hd]; grind) (by rw [hd]; grind) 12 (by decide)
      obtain ⟨⟨m7, l7, u7⟩, x7, y7⟩ := expSq_abs hh (by grind) d 7 (by decide)
      have h100 := tw100
      have b7 : ((3 ^ 7 : Nat) : Rat) = 2187 := rfl
      rw [b7] at l7 u7
      obtain ⟨g1, g2⟩ := j_abs (u := fv .f64 (expSq (expHorner (expT q) 12) 7)) (v := fv .f64 (expSq (expHorner (expT q) 12) 7)) (e := 2) (B := 2) (by grind) (by grind) (by grind) (by grind)
      rw [e]
      exact ((wr_mul m7 m7).nr (A := 4) (by grind) (by grind) (by grind)).2.1 (key _ m7)
    · obtain ⟨⟨m, l, u⟩, a, b⟩ := exp_pos z (by grind) h2
      constructor <;> grind
  have hz : Num .f64 (expW q) := by
    by_cases hq : fv .f32 q ≤ 0
    · exact (exp_neg z h1 hq).1.1
    · exact (exp_pos z (by grind) h2).1.1
  exact hs _ 9000 hz pos.1 pos.2 (by decide +kernel)
end Go.Proofs.Ytmcnfapdghoenaa
/- Survivors of kind 1 in floats: near exact ones, and they fall. Plain. Conditions: in the theorems. -/
namespace Go.Proofs.Ytmcnfapdghoenaa
open Go Go.RowKit

attribute [local irreducible] tw EX
theorem EN_big {a : Rat} (h : 20 < a) : EN a = EX (-20) := by unfold EN; rw [if_neg (by grind)]
/-- The exponent of a power. -/
theorem z_near {y x : Nat} {l : Rat} (ny : Num .f32 y) (y1 : -3 ≤ fv .f32 y) (y2 : fv .f32 y ≤ 3) (nl : Nr .f32 (logF x) l (1 / 1000000)) (l1 : -10 ≤ l) (l2 : l ≤ 6) : Nr .f32 (fop .mul .f32 y (logF x)) (fv .f32 y * l) (1 / 180000) ∧ -30 ≤ fv .f32 y * l := by
  obtain ⟨c1, c2⟩ := j_abs (u := fv .f32 y) (v := l) (e := 3) (B := 10) (by grind) y2 (by grind) (by grind)
  have m := mulF (Nr.of ny) nl (X := 3) (Y := 101 / 10) (by grind) (by grind) (by grind) (by grind) (by decide +kernel) (by decide +kernel) (by decide +kernel)
  exact ⟨m.mono (by decide +kernel), by grind⟩
/-- What a power is to its exponent in floats. -/
theorem pow_z {y x : Nat} (zn : Num .f32 (fop .mul .f32 y (logF x))) (h1 : -200 ≤ fv .f32 (fop .mul .f32 y (logF x))) (h2 : fv .f32 (fop .mul .f32 y (logF x)) ≤ 8) :
    Num .f32 (powF y x) ∧ 0 ≤ fv .f32 (powF y x) ∧ fv .f32 (powF y x) ≤ EX (fv .f32 (fop .mul .f32 y (logF x))) + (1 + EX (fv .f32 (fop .mul .f32 y (logF x)))) / 14000000 ∧ EX (fv .f32 (fop .mul .f32 y (logF x))) ≤ fv .f32 (powF y x) + (1 + EX (fv .f32 (fop .mul .f32 y (logF x)))) / 14000000 ∧ 0 ≤ EX (fv .f32 (fop .mul .f32 y (logF x))) ∧ EX (fv .f32 (fop .mul .f32 y (logF x))) ≤ 3300 := by
  have key : ∀ hn : Num .f32 (powF y x), 0 ≤ fv .f32 (powF y x) := fun hn => powF_sign hn zn h1 h2
  by_cases hz : fv .f32 (fop .mul .f32 y (logF x)) ≤ 0
  · obtain ⟨⟨m, l, u⟩, a, b⟩ := expF_neg zn h1 hz
    exact ⟨m, key m, by show fv .f32 (expF (fop .mul .f32 y (logF x))) ≤ _; grind, by show _ ≤ fv .f32 (expF (fop .mul .f32 y (logF x))) + _; grind, a, by grind⟩
  · obtain ⟨⟨m, l, u⟩, a, b⟩ := expF_pos zn (by grind) h2
    exact ⟨m, key m, by show fv .f32 (expF (fop .mul .f32 y (logF x))) ≤ _; grind, by show _ ≤ fv .f32 (expF (fop .mul .f32 y (logF x))) + _; grind, by grind, b⟩
theorem s1_near {y x : Nat} {l : Rat} (ny : Num .f32 y) (y1 : 0 ≤ fv .f32 y) (y2 : fv .f32 y ≤ 3) (nl : Nr .f32 (logF x) l (1 / 1000000)) (l1 : -10 ≤ l) (l2 : l ≤ 6) (hz : fv .f32 y * l ≤ 79 / 10) :
    Nr .f32 (s1F y x) (EN (EX (fv .f32 y * l))) (1 / 3000) ∧ 0 ≤ EX (fv .f32 y * l) := by
  obtain ⟨⟨zn, zl, zu⟩, z30⟩ := z_near ny (by grind) y2 nl l1 l2
  obtain ⟨-, ps, -, -, -, -⟩ := pow_z zn (by grind) (by grind)
  obtain ⟨pn, pl, pu, p0, p3⟩ := pow_near ny (by grind) y2 nl l1 l2 hz
  generalize EX (fv .f32 y * l) = p at *
  obtain ⟨vn, v0, vl, vu⟩ := neg_near (p := 0) (A := fv .f32 (powF y x)) pn ps Rat.le_refl (by grind)
  have e := expX_near vn v0
  unfold s1F
  generalize fv .f32 (fop .sub .f32 0 (powF y x)) = w at *
  generalize fv .f32 (powF y x) = P at *
  obtain ⟨en, el, eu⟩ := e
  refine ⟨?_, p0⟩
  by_cases hp : p ≤ 21
  · by_cases hc : -w ≤ p
    · obtain ⟨a, b⟩ := EN_fall (a := -w) (b := p) (by grind) hc
      exact ⟨en, by grind, by grind⟩
    · obtain ⟨a, b⟩ := EN_fall (a := p) (b := -w) p0 (by grind)
      exact ⟨en, by grind, by grind⟩
  · rw [EN_big (a := p) (by grind)]
    rw [EN_big (a := -w) (by grind)] at el eu
    exact ⟨en, by grind, by grind⟩
/-- Survivors of kind 1 fall. -/
theorem s1_fall {y x x' : Nat} {l l' : Rat} (ny : Num .f32 y) (y1 : 1 / 2 ≤ fv .f32 y) (y2 : fv .f32 y ≤ 3) (nl : Nr .f32 (logF x) l (1 / 1000000)) (l1 : -10 ≤ l) (l2 : l ≤ 6) (nl' : Nr .f32 (logF x') l' (1 / 1000000)) (l1' : -10 ≤ l') (l2' : l' ≤ 6) (hl : l + 1 / 100 ≤ l') (hz : fv .f32 y * l' ≤ 79 / 10) :
    fv .f32 (s1F y x') ≤ fv .f32 (s1F y x) + 9 / 1000000 := by
  have hyl := jmul_le hl (show 0 ≤ fv .f32 y by grind)
  obtain ⟨⟨zn, zl, zu⟩, z30⟩ := z_near ny (by grind) y2 nl l1 l2
  obtain ⟨⟨zn', zl', zu'⟩, z30'⟩ := z_near ny (by grind) y2 nl' l1' l2'
  have hlt : fv .f32 (fop .mul .f32 y (logF x)) ≤ fv .f32 (fop .mul .f32 y (logF x')) := by grind
  obtain ⟨m1, m2⟩ := EX_mono (x := fv .f32 (fop .mul .f32 y (logF x))) (y := fv .f32 (fop .mul .f32 y (logF x'))) (by grind) hlt (by grind)
  obtain ⟨pn, ps, pl, pu, p0, p3⟩ := pow_z zn (by grind) (by grind)
  obtain ⟨pn', ps', pl', pu', p0', p3'⟩ := pow_z zn' (by grind) (by grind)
  obtain ⟨vn, v0, vl, vu⟩ := neg_near (p := 0) (A := fv .f32 (powF y x)) pn ps Rat.le_refl (by grind)
  obtain ⟨vn', v0', vl', vu'⟩ := neg_near (p := 0) (A := fv .f32 (powF y x')) pn' ps' Rat.le_refl (by grind)
  obtain ⟨en, el, eu⟩ := expX_near vn v0
  obtain ⟨en', el', eu'⟩ := expX_near vn' v0'
  have h12 := EX_12
  unfold s1F
  clear zl zu zl' zu' hlt hyl z30 z30' zn zn' nl nl' pn pn' en en' vn vn' hz
  generalize EX (fv .f32 (fop .mul .f32 y (logF x))) = E at *
  generalize EX (fv .f32 (fop .mul .f32 y (logF x'))) = E' at *
  generalize fv .f32 (expX (fop .sub .f32 0 (powF y x))) = S at *
  generalize fv .f32 (expX (fop .sub .f32 0 (powF y x'))) = S' at *
  generalize fv .f32 (fop .sub .f32 0 (powF y x)) = w at *
  generalize fv .f32 (fop .sub .f32 0 (powF y x')) = w' at *
  generalize fv .f32 (powF y x) = P at *
  generalize fv .f32 (powF y x') = P' at *
  have hP : P ≤ P' + (1 + P) / 6000000 := by grind
  by_cases hc : P ≤ 12
  · by_cases hw : -w ≤ -w'
    · obtain ⟨a, b⟩ := EN_fall (a := -w) (b := -w') (by grind) hw
      grind
    · obtain ⟨a, b⟩ := EN_fall (a := -w') (b := -w) (by grind) (by grind)
      grind
  · obtain ⟨a, b⟩ := EN_fall (a := 1199 / 100) (b := -w') (by decide +kernel) (by grind)
    have e : EN (1199 / 100) = EX (-1199 / 100) := by
      unfold EN; rw [if_pos (by decide +kernel)]; congr 1; decide +kernel
    obtain ⟨c, d⟩ := EN_in (a := -w) (by grind)
    rw [e] at a
    grind
end Go.Proofs.Ytmcnfapdghoenaa
/- Survivors of the other kinds in floats; all lie from 0 to 1. Plain. Conditions: in the theorems. -/
namespace Go.Proofs.Ytmcnfapdghoenaa
open Go Go.RowKit

attribute [local irreducible] tw EX
/-! ### From 0 to 1 -/
theorem Bp.val {k : FloatKind} {b : Nat} (h : Bp k b 0) : Num k b ∧ 0 ≤ fv k b ∧ fv k b ≤ 1 := by
  obtain ⟨s, m, e, h1, h2, h3⟩ := h
  refine ⟨⟨_, _, _, h1⟩, ?_⟩
  rw [fv_eq h1]
  rcases h3 with rfl | rfl
  · have : ((0 : Nat) : Rat) = 0 := rfl
    rw [this]
    have e1 : (if s = true then -(0 : Rat) else 0) = 0 := by split <;> decide +kernel
    rw [e1, Rat.zero_mul]
    constructor <;> decide +kernel
  · simp only [Bool.false_eq_true, if_false]
    have t0 := tw_pos e
    refine ⟨jmul_nn Rat.natCast_nonneg (Rat.le_of_lt t0), ?_⟩
    rcases h2 with rfl | ⟨a, b⟩
    · have : ((0 : Nat) : Rat) = 0 := rfl
      rw [this, Rat.zero_mul]; decide +kernel
    · have h5 : (m : Rat) ≤ ((2 ^ (0 - e).toNat : Nat) : Rat) := by exact_mod_cast b
      have h6 := Rat.mul_le_mul_of_nonneg_right h5 (Rat.le_of_lt t0)
      have h7 := tw_neg (0 - e).toNat
      rw [show -(((0 - e).toNat : Nat) : Int) = e by omega] at h7
      grind
/-- A float of 64 bits, a square. -/
theorem sq_sign {a : Nat} (n : Num .f64 a) (h1 : fv .f64 a ≤ 100) (h2 : -100 ≤ fv .f64 a) : 0 ≤ fv .f64 (fop .mul .f64 a a) := by
  have h100 := tw100
  have key : 0 ≤ fv .f64 a * fv .f64 a := by
    by_cases h : 0 ≤ fv .f64 a
    · exact jmul_nn h h
    · have := jmul_nn (show 0 ≤ -fv .f64 a by grind) (show 0 ≤ -fv .f64 a by grind); grind
  obtain ⟨g1, g2⟩ := j_abs (u := fv .f64 a) (v := fv .f64 a) (e := 100) (B := 100) (by grind) h1 (by grind) h1
  exact ((wr_mul n n).nr (A := 10000) (by grind) (by grind) (by grind)).2.1 key
theorem expX_in {v : Nat} (n : Num .f32 v) (h : fv .f32 v ≤ 0) (hb : -64 ≤ fv .f32 v → Bn .f32 v 6) : Num .f32 (expX v) ∧ 0 ≤ fv .f32 (expX v) ∧ fv .f32 (expX v) ≤ 1 := by
  obtain ⟨c1, c2⟩ := c200_val
  unfold expX
  rw [lss_val n c1, c2]
  by_cases hc : fv .f32 v < -200
  · rw [decide_eq_true hc, if_pos rfl]
    obtain ⟨z1, z2⟩ := zeroF_val
    exact ⟨z1, by rw [z2]; decide +kernel, by rw [z2]; decide +kernel⟩
  · rw [decide_eq_false hc, if_neg Bool.false_ne_true]
    by_cases h64 : -64 ≤ fv .f32 v
    · exact (expF_bp (hb h64)).val
    · have h20 := EX_20
      obtain ⟨⟨m, l, u⟩, p, q⟩ := expF_neg n (by grind) h
      obtain ⟨r, s⟩ := EX_mono (x := fv .f32 v) (y := -20) (by grind) (by grind) (by decide +kernel)
      refine ⟨m, ?_, by grind⟩
      obtain ⟨⟨m64, l64, u64⟩, a, b⟩ := exp_neg n (by grind) h
      have ht := expT_near n (by grind) (by grind)
      have hd : fv .f32 v / 256 = fv .f32 v * (1 / 256) := div256 _
      have hh := horner_near ht (by rw [hd]; grind) (by rw [hd]; grind) 12 (by decide)
      obtain ⟨c, d⟩ := pH_neg (t := fv .f32 v / 256) (by rw [hd]; grind) (by rw [hd]; grind) 12 (by decide)
      obtain ⟨⟨m7, l7, u7⟩, x7, y7⟩ := expSq_abs hh (by grind) d 7 (by decide)
      have b7 : ((3 ^ 7 : Nat) : Rat) = 2187 := rfl
      rw [b7] at l7 u7
      have h100 := tw100
      have sg : 0 ≤ fv .f64 (expW v) := sq_sign m7 (by grind) (by grind)
      exact (narrow_val (A := 2) m64 (by grind) (by grind) (by grind)).2.1.1 sg
/-! ### Kind 0 -/
def s0F (x : Nat) : Nat := expX (fop .sub .f32 0 x)
theorem s0_near {x : Nat} (n : Num .f32 x) (h0 : 0 ≤ fv .f32 x) (h1 : fv .f32 x ≤ 16) : Nr .f32 (s0F x) (EN (fv .f32 x)) (1 / 500000) := by
  obtain ⟨vn, v0, vl, vu⟩ := neg_near (p := 0) (A := 16) n h0 h1 (by decide +kernel)
  obtain ⟨en, el, eu⟩ := expX_near vn v0
  unfold s0F
  generalize fv .f32 (fop .sub .f32 0 x) = w at *
  by_cases hc : -w ≤ fv .f32 x
  · obtain ⟨a, b⟩ := EN_fall (a := -w) (b := fv .f32 x) (by grind) hc
    exact ⟨en, by grind, by grind⟩
  · obtain ⟨a, b⟩ := EN_fall (a := fv .f32 x) (b := -w) h0 (by grind)
    exact ⟨en, by grind, by grind⟩
/-! ### Kind 2 -/
def oneB : Nat := 1065353216
theorem oneB_val : Num .f32 oneB ∧ fv .f32 oneB = 1 := by
  have h : oneB = floatOfInt .f32 1 := by decide +kernel
  obtain ⟨a, b⟩ := ofInt_val .f32 (z := 1) (by decide)
  rw [← h] at a b
  exact ⟨a, b⟩
def s2F (y x : Nat) : Nat := fop .quo .f32 oneB (fop .add .f32 oneB (powF y x))
/-- One by one and a number. -/
theorem inv_near {b : Nat} {P : Rat} (n : Num .f32 b) (hv : fv .f32 b = P) (h0 : 0 ≤ P) (h1 : P ≤ 4000) :
    Nr .f32 (fop .quo .f32 oneB (fop .add .f32 oneB b)) ((1 + P)⁻¹) (1 / 3000000) ∧ 0 ≤ fv .f32 (fop .quo .f32 oneB (fop .add .f32 oneB b)) ∧ 0 < (1 + P)⁻¹ ∧ (1 + P)⁻¹ ≤ 1 := by
  obtain ⟨o1, o2⟩ := oneB_val
  have h100 := tw100
  obtain ⟨w1, w2, w3, w4⟩ := u32j
  have hd : 0 < (1 + P)⁻¹ := Rat.inv_pos.2 (by grind)
  have hdd : (1 + P)⁻¹ * (1 + P) = 1 := Rat.inv_mul_cancel _ (by grind)
  have hd1 : (1 + P)⁻¹ ≤ 1 := by have := jmul_le (show 1 ≤ 1 + P by grind) (Rat.le_of_lt hd); grind
  obtain ⟨⟨m, l, u⟩, -⟩ := (wr_add o1 n).nr (A := 1 + P) (by rw [o2, hv]; grind) (by rw [o2, hv]; grind) (by grind)
  rw [o2, hv] at l u
  have w5 := Rat.mul_le_mul_of_nonneg_right w1 (show 0 ≤ 1 + P by grind)
  generalize hQ : fv .f32 (fop .add .f32 oneB b) = Q at *
  have hQ1 : 1 / 2 ≤ Q := by grind
  obtain ⟨V, hW, hs, hV⟩ := wr_div o1 m (by rw [hQ]; grind)
  rw [o2, hQ] at hs hV
  have hq : 0 < Q⁻¹ := Rat.inv_pos.2 (by grind)
  have hqq : Q⁻¹ * Q = 1 := Rat.inv_mul_cancel _ (by grind)
  have hq2 : Q⁻¹ ≤ 2 := by have := jmul_le hQ1 (Rat.le_of_lt hq); grind
  have d1 : (1 : Rat) / Q = Q⁻¹ := by rw [Rat.div_def]; exact Rat.one_mul _
  rw [d1] at hs hV
  obtain ⟨v1, v2⟩ := hV 2 hq2 (by grind)
  have vs := hs.1 (Rat.le_of_lt hq)
  -- the exact inverses
  have key : Q⁻¹ - (1 + P)⁻¹ = (1 + P - Q) * (1 + P)⁻¹ * Q⁻¹ := by
    generalize (1 + P)⁻¹ = a at *
    generalize Q⁻¹ = b at *
    have : b - a = b * (a * (1 + P)) - a * (b * Q) := by rw [hdd, hqq]; grind
    rw [this]; grind
  have k1 : (1 + P - Q) * (1 + P)⁻¹ ≤ 1 / 15000000 ∧ -(1 / 15000000) ≤ (1 + P - Q) * (1 + P)⁻¹ := by
    have e1 : 1 + P - Q ≤ 1 / 15000000 * (1 + P) := by grind
    have e2 : -(1 / 15000000 * (1 + P)) ≤ 1 + P - Q := by grind
    have f1 := Rat.mul_le_mul_of_nonneg_right e1 (Rat.le_of_lt hd)
    have f2 := Rat.mul_le_mul_of_nonneg_right e2 (Rat.le_of_lt hd)
    have g1 : 1 / 15000000 * (1 + P) * (1 + P)⁻¹ = 1 / 15000000 := by rw [Rat.mul_assoc, Rat.mul_comm (1 + P), hdd]; grind
    have g2 : -(1 / 15000000 * (1 + P)) * (1 + P)⁻¹ = -(1 / 15000000) := by rw [Rat.neg_mul, g1]
    constructor <;> grind
  -- Q⁻¹ is at most 2
  obtain ⟨r1, r2⟩ := j_abs (u := (1 + P - Q) * (1 + P)⁻¹) (v := Q⁻¹) (e := 1 / 15000000) (B := 1 + 1 / 100) (by grind) k1.1 (by grind) (by
    have := jmul_le (show 100 / 101 ≤ Q by grind) (Rat.le_of_lt hq); grind)
  obtain ⟨⟨m2, l2, u2⟩, s1, s2⟩ := hW.nr (A := 2) (by
    have := w1; grind) (by grind) (by grind)
  generalize (1 + P - Q) * (1 + P)⁻¹ * Q⁻¹ = R at *
  clear hV hW hs k1 hqq hdd
  exact ⟨⟨m2, by grind, by grind⟩, s1 vs, hd, hd1⟩
theorem inv_fall {P Q : Rat} (h0 : 0 ≤ P) (h : P ≤ Q) : (1 + Q)⁻¹ ≤ (1 + P)⁻¹ ∧ (1 + P)⁻¹ - (1 + Q)⁻¹ = (Q - P) * (1 + P)⁻¹ * (1 + Q)⁻¹ := by
  have p0 : 0 < (1 + P)⁻¹ := Rat.inv_pos.2 (by grind)
  have q0 : 0 < (1 + Q)⁻¹ := Rat.inv_pos.2 (by grind)
  have pp : (1 + P)⁻¹ * (1 + P) = 1 := Rat.inv_mul_cancel _ (by grind)
  have qq : (1 + Q)⁻¹ * (1 + Q) = 1 := Rat.inv_mul_cancel _ (by grind)
  have key : (1 + P)⁻¹ - (1 + Q)⁻¹ = (Q - P) * (1 + P)⁻¹ * (1 + Q)⁻¹ := by
    generalize (1 + P)⁻¹ = a at *
    generalize (1 + Q)⁻¹ = b at *
    have : a - b = a * (b * (1 + Q)) - b * (a * (1 + P)) := by rw [pp, qq]; grind
    rw [this]; grind
  have := jmul_nn (jmul_nn (show 0 ≤ Q - P by grind) (Rat.le_of_lt p0)) (Rat.le_of_lt q0)
  exact ⟨by grind, key⟩
theorem s2_near {y x : Nat} {l : Rat} (ny : Num .f32 y) (y1 : 0 ≤ fv .f32 y) (y2 : fv .f32 y ≤ 3) (nl : Nr .f32 (logF x) l (1 / 1000000)) (l1 : -10 ≤ l) (l2 : l ≤ 6) (hz : fv .f32 y * l ≤ 79 / 10) :
    Nr .f32 (s2F y x) ((1 + EX (fv .f32 y * l))⁻¹) (1 / 50000) ∧ 0 ≤ fv .f32 (s2F y x) ∧ 0 ≤ EX (fv .f32 y * l) := by
  obtain ⟨⟨zn, zl, zu⟩, z30⟩ := z_near ny (by grind) y2 nl l1 l2
  obtain ⟨-, ps, -, -, -, -⟩ := pow_z zn (by grind) (by grind)
  obtain ⟨pn, pl, pu, p0, p3⟩ := pow_near ny (by grind) y2 nl l1 l2 hz
  obtain ⟨⟨m, l3, u3⟩, sg, i0, i1⟩ := inv_near pn rfl ps (by grind)
  refine ⟨?_, sg, p0⟩
  unfold s2F
  generalize EX (fv .f32 y * l) = p at *
  generalize fv .f32 (powF y x) = P at *
  have q0 : 0 < (1 + p)⁻¹ := Rat.inv_pos.2 (by grind)
  have qq : (1 + p)⁻¹ * (1 + p) = 1 := Rat.inv_mul_cancel _ (by grind)
  by_cases hc : P ≤ p
  · obtain ⟨a, b⟩ := inv_fall ps hc
    have k1 := Rat.mul_le_mul_of_nonneg_right (show p - P ≤ 1 / 100000 * (1 + p) by grind) (show 0 ≤ (1 + P)⁻¹ * (1 + p)⁻¹ by exact jmul_nn (Rat.le_of_lt i0) (Rat.le_of_lt q0))
    have k2 : 1 / 100000 * (1 + p) * ((1 + P)⁻¹ * (1 + p)⁻¹) = 1 / 100000 * (1 + P)⁻¹ := by
      have : 1 / 100000 * (1 + p) * ((1 + P)⁻¹ * (1 + p)⁻¹) = 1 / 100000 * (1 + P)⁻¹ * ((1 + p)⁻¹ * (1 + p)) := by grind
      rw [this, qq]; grind
    have k3 : (p - P) * ((1 + P)⁻¹ * (1 + p)⁻¹) = (p - P) * (1 + P)⁻¹ * (1 + p)⁻¹ := by grind
    exact ⟨m, by grind, by grind⟩
  · obtain ⟨a, b⟩ := inv_fall p0 (show p ≤ P by grind)
    have k1 := Rat.mul_le_mul_of_nonneg_right (show P - p ≤ 1 / 100000 * (1 + p) by grind) (show 0 ≤ (1 + p)⁻¹ * (1 + P)⁻¹ by exact jmul_nn (Rat.le_of_lt q0) (Rat.le_of_lt i0))
    have k2 : 1 / 100000 * (1 + p) * ((1 + p)⁻¹ * (1 + P)⁻¹) = 1 / 100000 * (1 + P)⁻¹ := by
      have : 1 / 100000 * (1 + p) * ((1 + p)⁻¹ * (1 + P)⁻¹) = 1 / 100000 * (1 + P)⁻¹ * ((1 + p)⁻¹ * (1 + p)) := by grind
      rw [this, qq]; grind
    have k3 : (P - p) * ((1 + p)⁻¹ * (1 + P)⁻¹) = (P - p) * (1 + p)⁻¹ * (1 + P)⁻¹ := by grind
    exact ⟨m, by grind, by grind⟩
/-- Survivors of kind 2 fall. -/
theorem s2_fall {y x x' : Nat} {l l' : Rat} (ny : Num .f32 y) (y1 : 1 / 2 ≤ fv .f32 y) (y2 : fv .f32 y ≤ 3) (nl : Nr .f32 (logF x) l (1 / 1000000)) (l1 : -10 ≤ l) (l2 : l ≤ 6) (nl' : Nr .f32 (logF x') l' (1 / 1000000)) (l1' : -10 ≤ l') (l2' : l' ≤ 6) (hl : l + 1 / 100 ≤ l') (hz : fv .f32 y * l' ≤ 79 / 10) :
    fv .f32 (s2F y x') ≤ fv .f32 (s2F y x) + 1 / 1000000 := by
  have hyl := jmul_le hl (show 0 ≤ fv .f32 y by grind)
  obtain ⟨⟨zn, zl, zu⟩, z30⟩ := z_near ny (by grind) y2 nl l1 l2
  obtain ⟨⟨zn', zl', zu'⟩, z30'⟩ := z_near ny (by grind) y2 nl' l1' l2'
  have hlt : fv .f32 (fop .mul .f32 y (logF x)) ≤ fv .f32 (fop .mul .f32 y (logF x')) := by grind
  obtain ⟨m1, m2⟩ := EX_mono (x := fv .f32 (fop .mul .f32 y (logF x))) (y := fv .f32 (fop .mul .f32 y (logF x'))) (by grind) hlt (by grind)
  obtain ⟨pn, ps, pl, pu, p0, p3⟩ := pow_z zn (by grind) (by grind)
  obtain ⟨pn', ps', pl', pu', p0', p3'⟩ := pow_z zn' (by grind) (by grind)
  obtain ⟨⟨m, l3, u3⟩, -, i0, i1⟩ := inv_near pn rfl ps (by grind)
  obtain ⟨⟨m', l3', u3'⟩, -, i0', i1'⟩ := inv_near pn' rfl ps' (by grind)
  unfold s2F
  clear zl zu zl' zu' hlt hyl z30 z30' zn zn' nl nl' pn pn' hz
  generalize EX (fv .f32 (fop .mul .f32 y (logF x))) = E at *
  generalize EX (fv .f32 (fop .mul .f32 y (logF x'))) = E' at *
  generalize fv .f32 (powF y x) = P at *
  generalize fv .f32 (powF y x') = P' at *
  have hP : P - P' ≤ 1 / 6000000 * (1 + P) := by grind
  by_cases hc : P ≤ P'
  · obtain ⟨a, b⟩ := inv_fall ps hc
    grind
  · obtain ⟨a, b⟩ := inv_fall ps' (show P' ≤ P by grind)
    have qq : (1 + P)⁻¹ * (1 + P) = 1 := Rat.inv_mul_cancel _ (by grind)
    have k1 := Rat.mul_le_mul_of_nonneg_right hP (show 0 ≤ (1 + P')⁻¹ * (1 + P)⁻¹ by exact jmul_nn (Rat.le_of_lt i0') (Rat.le_of_lt i0))
    have k2 : 1 / 6000000 * (1 + P) * ((1 + P')⁻¹ * (1 + P)⁻¹) = 1 / 6000000 * (1 + P')⁻¹ := by
      have : 1 / 6000000 * (1 + P) * ((1 + P')⁻¹ * (1 + P)⁻¹) = 1 / 6000000 * (1 + P')⁻¹ * ((1 + P)⁻¹ * (1 + P)) := by grind
      rw [this, qq]; grind
    have k3 : (P - P') * ((1 + P')⁻¹ * (1 + P)⁻¹) = (P - P') * (1 + P')⁻¹ * (1 + P)⁻¹ := by grind
    grind
end Go.Proofs.Ytmcnfapdghoenaa
