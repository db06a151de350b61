
/- LogRankOf of small groups of lives, and of the same groups exchanged: nearly the same. Plain. Condition: lives that are drawn, at most eight in a group. LogRankOf of two small groups, and of the same exchanged: nearly the same. Plain. Condition: lives that are drawn, at most eight in a group. LogRankOf of two small groups, and of the same exchanged: what comes of it. Plain. Condition: lives that are drawn, at most eight in a group. -/
import Derived.Test.YtlbmjeennpccmaaTf
import Derived.Test.YtlbmjeennpccmaaNw
import Derived.Test.YtlbmjeennpccmaaRa
namespace Go.Proofs.Ytlbmjeennpccmaa
open Go Go.RowKit

attribute [local irreducible] tw
theorem ofI_val {z : Int} (h : z.natAbs < 16777216) : Num .f32 (ofI z) ∧ fv .f32 (ofI z) = (z : Rat) := by
  obtain ⟨h1, h2⟩ := ofInt_val .f32 h
  have e : ofI z = floatOfInt .f32 z := by rw [← cn_ofI]; exact h1.cn
  rw [e]; exact ⟨h1, h2⟩
theorem ofI_natR {n : Nat} (h : n < 16777216) : Nr .f32 (ofI (n : Int)) (n : Rat) 0 := by
  obtain ⟨h1, h2⟩ := ofI_val (z := (n : Int)) (by omega)
  rw [Rat.intCast_natCast] at h2
  exact ⟨h1, by grind, by grind⟩
theorem quo_near {k : FloatKind} {a b : Nat} {A : Rat} (ha : Num k a) (hb : Num k b) (h0 : fv k b ≠ 0) (h1 : fv k a / fv k b ≤ A) (h2 : -(fv k a / fv k b) ≤ A) (h3 : A ≤ tw 99) :
    Nr k (fop .quo k a b) (fv k a / fv k b) (3 * (uu k * A) + eta k) ∧ SameSgn (fv k a / fv k b) (fv k (fop .quo k a b)) := by
  obtain ⟨V, hW, hs, hV⟩ := wr_div ha hb h0
  obtain ⟨v1, v2⟩ := hV A h1 h2
  generalize fv k a / fv k b = Z at *
  have hA : 0 ≤ A := by grind
  have hu : 0 < uu k := tw_pos _
  have hu1 : uu k ≤ 1 / 16777216 := by
    cases k
    · rw [uu32]; grind
    · rw [uu64]; grind
  have hua : uu k * A ≤ 1 / 16777216 * A := Rat.mul_le_mul_of_nonneg_right hu1 hA
  have h99 : tw 100 = 2 * tw 99 := by rw [← tw_one, ← tw_add]; rfl
  obtain ⟨⟨n1, n2, n3⟩, sg⟩ := hW.nr (A := 2 * A) (by grind) (by grind) (by grind)
  refine ⟨⟨n1, by grind, by grind⟩, ?_, ?_⟩
  · exact fun h => sg.1 (hs.1 h)
  · exact fun h => sg.2 (hs.2 h)
theorem mul_near {k : FloatKind} {a b : Nat} {A : Rat} (ha : Num k a) (hb : Num k b) (h1 : fv k a * fv k b ≤ A) (h2 : -(fv k a * fv k b) ≤ A) (h3 : A ≤ tw 100) :
    Nr k (fop .mul k a b) (fv k a * fv k b) (uu k * A + eta k) ∧ SameSgn (fv k a * fv k b) (fv k (fop .mul k a b)) := (wr_mul ha hb).nr h1 h2 h3
theorem add_near {k : FloatKind} {a b : Nat} {A : Rat} (ha : Num k a) (hb : Num k b) (h1 : fv k a + fv k b ≤ A) (h2 : -(fv k a + fv k b) ≤ A) (h3 : A ≤ tw 100) :
    Nr k (fop .add k a b) (fv k a + fv k b) (uu k * A + eta k) ∧ SameSgn (fv k a + fv k b) (fv k (fop .add k a b)) := (wr_add ha hb).nr h1 h2 h3
theorem tw99_big : (1267650600228229401496703205376 : Rat) / 2 ≤ tw 99 := by
  have h99 : tw 100 = 2 * tw 99 := by rw [← tw_one, ← tw_add]; rfl
  rw [tw100] at h99; grind

theorem u32 : 0 < uu .f32 ∧ uu .f32 ≤ 1 / 16000000 := by
  refine ⟨tw_pos _, ?_⟩
  rw [uu32]; decide +kernel
theorem u64 : 0 < uu .f64 ∧ uu .f64 ≤ 1 / 9000000000000000 := by
  refine ⟨tw_pos _, ?_⟩
  rw [uu64]; decide +kernel
theorem e32 : 0 < eta .f32 ∧ eta .f32 ≤ 1 / 1000000000000000000 := ⟨eta32.1, Rat.le_trans eta32.2 (by decide +kernel)⟩
theorem e64 : 0 < eta .f64 ∧ eta .f64 ≤ 1 / 1000000000000000000 := ⟨eta64.1, Rat.le_trans eta64.2 (by decide +kernel)⟩
/-! ### One term of the sum, from both sides -/
def lrE (da d ra r : Nat) : Nat := fop .sub .f32 (ofI (da : Int)) (fop .quo .f32 (ofI ((d * ra : Nat) : Int)) (ofI (r : Int)))
theorem lrE_near {da d ra r : Nat} (h1 : da ≤ d) (hd : d ≤ r) (hr : r ≤ 16) (ha : ra ≤ r) (h0 : 1 ≤ d) :
    Num .f32 (lrE da d ra r) ∧ fv .f32 (lrE da d ra r) ≤ (da : Rat) - (d : Rat) * (ra : Rat) / (r : Rat) + 1 / 100000 ∧ (da : Rat) - (d : Rat) * (ra : Rat) / (r : Rat) ≤ fv .f32 (lrE da d ra r) + 1 / 100000 ∧
      fv .f32 (lrE da d ra r) ≤ 17 ∧ -17 ≤ fv .f32 (lrE da d ra r) := by
  have hdr : d * ra ≤ 16 * 16 := Nat.mul_le_mul (by omega) (by omega)
  obtain ⟨n1, l1, u1⟩ := ofI_natR (n := d * ra) (by omega)
  obtain ⟨n2, l2, u2⟩ := ofI_natR (n := r) (by omega)
  have n3 := ofI_natR (n := da) (by omega)
  have e1 : fv .f32 (ofI ((d * ra : Nat) : Int)) = ((d * ra : Nat) : Rat) := by grind
  have e2 : fv .f32 (ofI (r : Int)) = (r : Rat) := by grind
  have hr00 : 0 < r := by omega
  have hr0 : (0 : Rat) < (r : Rat) := by exact_mod_cast hr00
  have hq1 : ((d * ra : Nat) : Rat) / (r : Rat) ≤ 16 := by
    have : ((d * ra : Nat) : Rat) ≤ 16 * (r : Rat) := by
      have : d * ra ≤ 16 * r := Nat.mul_le_mul (by omega) ha
      exact_mod_cast this
    have h := Rat.div_mul_cancel (a := ((d * ra : Nat) : Rat)) (b := (r : Rat)) (by grind)
    refine Rat.le_of_mul_le_mul_right (c := (r : Rat)) ?_ hr0
    rw [h]; exact this
  have hq0 : 0 ≤ ((d * ra : Nat) : Rat) / (r : Rat) := by
    have h := Rat.div_mul_cancel (a := ((d * ra : Nat) : Rat)) (b := (r : Rat)) (by grind)
    refine Rat.le_of_mul_le_mul_right (c := (r : Rat)) ?_ hr0
    rw [h, Rat.zero_mul]; exact Rat.natCast_nonneg
  have hbig := tw99_big
  obtain ⟨q, -⟩ := quo_near (A := 16) n1 n2 (by grind) (by rw [e1, e2]; exact hq1) (by rw [e1, e2]; grind) (by grind)
  rw [e1, e2] at q
  have e3 : ((d * ra : Nat) : Rat) = (d : Rat) * (ra : Rat) := Rat.natCast_mul d ra
  rw [e3] at q hq1 hq0
  have hda1 : da ≤ 16 := by omega
  have hda : (da : Rat) ≤ 16 := by exact_mod_cast hda1
  have hda0 : (0 : Rat) ≤ (da : Rat) := Rat.natCast_nonneg
  obtain ⟨hu0, hu⟩ := u32
  obtain ⟨he0, he⟩ := e32
  have h100 := tw100
  generalize (d : Rat) * (ra : Rat) / (r : Rat) = Z at *
  obtain ⟨m1, m2, m3⟩ := Nr.sub (A := 40) n3 q (by grind) (by grind) (by grind)
  refine ⟨m1, ?_, ?_, ?_, ?_⟩ <;> unfold lrE <;> grind

/-! ### One term of the spread, told by reckoning -/
def vI (b : Nat) : Int := match (FloatKind.f32).format.read b with
  | .number s m e => Ieee.signed s m (e + 149).toNat
  | _ => 0
def numI (b : Nat) : Bool := match (FloatKind.f32).format.read b with
  | .number _ _ _ => true
  | _ => false
theorem numI_get {b : Nat} (h : numI b = true) : Num .f32 b := by
  unfold numI at h
  generalize hd : (FloatKind.f32).format.read b = d at h
  cases d with
  | number s m e => exact ⟨s, m, e, hd⟩
  | infinity s => cases h
  | nan s f => cases h
theorem fv_vI {b : Nat} (h : Num .f32 b) : fv .f32 b = ((vI b : Int) : Rat) * tw (-149) := by
  obtain ⟨s, m, e, hr⟩ := h
  obtain ⟨_, e0, _⟩ := single_read (show Ieee.single.read b = .number s m e from hr)
  have hv : vI b = Ieee.signed s m (e - (-149)).toNat := by unfold vI; rw [hr]; rfl
  rw [hv, signed_val (by omega)]
  unfold fv; rw [hr]
theorem tw149 : tw 149 * tw (-149) = 1 := by rw [← tw_add]; exact tw_zero
/-- Bounds told in units of the last place are bounds. -/
theorem vI_le {b : Nat} (h : Num .f32 b) {p q : Int} (hle : q * vI b ≤ p * 2 ^ 149) : (q : Rat) * fv .f32 b ≤ (p : Rat) := by
  rw [fv_vI h]
  have h1 : ((q * vI b : Int) : Rat) ≤ ((p * 2 ^ 149 : Int) : Rat) := by exact_mod_cast hle
  have h2 := Rat.mul_le_mul_of_nonneg_right h1 (Rat.le_of_lt (tw_pos (-149)))
  have h3 : tw 149 = ((2 ^ 149 : Int) : Rat) := by
    have := tw_nat 149
    have e : tw ((149 : Nat) : Int) = tw 149 := rfl
    rw [← e, this]; rfl
  have h4 := tw149
  rw [h3] at h4
  rw [Rat.intCast_mul, Rat.intCast_mul] at h2
  generalize ((2 ^ 149 : Int) : Rat) = G at *
  generalize tw (-149) = t at *
  have e1 : (q : Rat) * (vI b : Rat) * t = (q : Rat) * ((vI b : Rat) * t) := by grind
  have e2 : (p : Rat) * G * t = (p : Rat) := by
    have : (p : Rat) * G * t = (p : Rat) * (G * t) := by grind
    rw [this, h4]; grind
  rw [e1, e2] at h2; exact h2
theorem vI_ge {b : Nat} (h : Num .f32 b) {p q : Int} (hle : p * 2 ^ 149 ≤ q * vI b) : (p : Rat) ≤ (q : Rat) * fv .f32 b := by
  have h1 := vI_le h (p := -p) (q := -q) (by rw [Int.neg_mul, Int.neg_mul]; omega)
  rw [Rat.intCast_neg, Rat.intCast_neg] at h1
  grind
def xOne (X : Nat) : Bool := numI X && decide (0 ≤ vI X) && decide (1 * vI X ≤ 2 * 2 ^ 149) && (vI X == 0 || decide (58 * 2 ^ 149 ≤ 1000 * vI X))
def xOk (d ra r : Nat) : Bool := xOne (lrX d ra r) && xOne (lrX d (r - ra) r) && (vI (lrX d ra r) == 0) == (vI (lrX d (r - ra) r) == 0) &&
  decide (1000000 * (vI (lrX d ra r) - vI (lrX d (r - ra) r)) ≤ 2 * 2 ^ 149) && decide (1000000 * (vI (lrX d (r - ra) r) - vI (lrX d ra r)) ≤ 2 * 2 ^ 149)
theorem xOk_all : ((List.range 17).all fun r => decide (r < 2) || ((List.range (r + 1)).all fun d => d == 0 || (List.range (r + 1)).all fun ra => xOk d ra r)) = true := by decide +kernel

open Go Go.RowKit

theorem zero_val : Num .f32 (cn .f32 0) ∧ fv .f32 (cn .f32 0) = 0 := by
  have h : (FloatKind.f32).format.read (cn .f32 0) = .number false 0 (-149) := by decide +kernel
  refine ⟨⟨_, _, _, h⟩, ?_⟩
  rw [fv_eq h]
  show ((0 : Nat) : Rat) * tw (-149) = 0
  exact Rat.zero_mul _
theorem x_near {d ra r : Nat} (h0 : 2 ≤ r) (hr : r ≤ 16) (h1 : 1 ≤ d) (hd : d ≤ r) (ha : ra ≤ r) :
    Num .f32 (lrX d ra r) ∧ Num .f32 (lrX d (r - ra) r) ∧ 0 ≤ fv .f32 (lrX d ra r) ∧ fv .f32 (lrX d ra r) ≤ 2 ∧ 0 ≤ fv .f32 (lrX d (r - ra) r) ∧ fv .f32 (lrX d (r - ra) r) ≤ 2 ∧
      ((fv .f32 (lrX d ra r) = 0 ∧ fv .f32 (lrX d (r - ra) r) = 0) ∨ (58 / 1000 ≤ fv .f32 (lrX d ra r) ∧ 58 / 1000 ≤ fv .f32 (lrX d (r - ra) r))) ∧
      fv .f32 (lrX d ra r) - fv .f32 (lrX d (r - ra) r) ≤ 2 / 1000000 ∧ fv .f32 (lrX d (r - ra) r) - fv .f32 (lrX d ra r) ≤ 2 / 1000000 := by
  have h := xOk_all
  rw [List.all_eq_true] at h
  have h2 := h r (List.mem_range.2 (by omega))
  rw [Bool.or_eq_true] at h2
  rcases h2 with h2 | h2
  · rw [decide_eq_true_eq] at h2; omega
  rw [List.all_eq_true] at h2
  have h3 := h2 d (List.mem_range.2 (by omega))
  rw [Bool.or_eq_true] at h3
  rcases h3 with h3 | h3
  · rw [beq_iff_eq] at h3; omega
  rw [List.all_eq_true] at h3
  have h4 := h3 ra (List.mem_range.2 (by omega))
  unfold xOk at h4
  generalize lrX d ra r = X at *
  generalize lrX d (r - ra) r = Y at *
  simp only [Bool.and_eq_true, decide_eq_true_eq] at h4
  obtain ⟨⟨⟨⟨a1, a2⟩, a3⟩, a4⟩, a5⟩ := h4
  unfold xOne at a1 a2
  simp only [Bool.and_eq_true, decide_eq_true_eq, Bool.or_eq_true, beq_iff_eq] at a1 a2 a3
  obtain ⟨⟨⟨b1, b2⟩, b3⟩, b4⟩ := a1
  obtain ⟨⟨⟨c1, c2⟩, c3⟩, c4⟩ := a2
  have n1 := numI_get b1
  have n2 := numI_get c1
  have z : ∀ {b : Nat}, Num .f32 b → vI b = 0 → fv .f32 b = 0 := fun hn h => by rw [fv_vI hn, h]; exact Rat.zero_mul _
  have l1 := vI_ge n1 (p := 0) (q := 1) (by omega)
  have l2 := vI_ge n2 (p := 0) (q := 1) (by omega)
  have u1 := vI_le n1 (p := 2) (q := 1) (by omega)
  have u2 := vI_le n2 (p := 2) (q := 1) (by omega)
  have k1 : ((0 : Int) : Rat) = 0 := rfl
  have k2 : ((1 : Int) : Rat) = 1 := rfl
  have k3 : ((2 : Int) : Rat) = 2 := rfl
  have k4 : ((58 : Int) : Rat) = 58 := rfl
  have k5 : ((1000 : Int) : Rat) = 1000 := rfl
  have k6 : ((1000000 : Int) : Rat) = 1000000 := rfl
  rw [k1, k2] at l1 l2
  rw [k2, k3] at u1 u2
  -- differences
  have dd : ∀ {p q : Nat}, Num .f32 p → Num .f32 q → 1000000 * (vI p - vI q) ≤ 2 * 2 ^ 149 → 1000000 * (fv .f32 p - fv .f32 q) ≤ 2 := by
    intro p q hp hq hle
    rw [fv_vI hp, fv_vI hq]
    have g1 : ((1000000 * (vI p - vI q) : Int) : Rat) ≤ ((2 * 2 ^ 149 : Int) : Rat) := Rat.intCast_le_intCast.2 hle
    have g2 := Rat.mul_le_mul_of_nonneg_right g1 (Rat.le_of_lt (tw_pos (-149)))
    have g3 : tw 149 = ((2 ^ 149 : Int) : Rat) := by
      have := tw_nat 149
      have e : tw ((149 : Nat) : Int) = tw 149 := rfl
      rw [← e, this]; rfl
    have g4 := tw149
    rw [g3] at g4
    rw [Rat.intCast_mul, Rat.intCast_sub, Rat.intCast_mul, k6, k3] at g2
    generalize ((2 ^ 149 : Int) : Rat) = G at *
    generalize tw (-149) = t at *
    have e2 : (2 : Rat) * G * t = 2 := by
      have : (2 : Rat) * G * t = 2 * (G * t) := by grind
      rw [this, g4]; grind
    rw [e2] at g2
    grind
  have d1 := dd n1 n2 a4
  have d2 := dd n2 n1 a5
  refine ⟨n1, n2, by grind, by grind, by grind, by grind, ?_, by grind, by grind⟩
  rcases b4 with b4 | b4
  · rcases c4 with c4 | c4
    · exact .inl ⟨z n1 b4, z n2 c4⟩
    · have : (vI X == 0) = true := by rw [b4]; rfl
      rw [this] at a3
      have : vI Y = 0 := by simpa using a3.symm
      omega
  · rcases c4 with c4 | c4
    · have : (vI Y == 0) = true := by rw [c4]; rfl
      rw [this] at a3
      have : vI X = 0 := by simpa using a3
      omega
    · have g1 := vI_ge n1 (p := 58) (q := 1000) b4
      have g2 := vI_ge n2 (p := 58) (q := 1000) c4
      rw [k4, k5] at g1 g2
      exact .inr ⟨by grind, by grind⟩

/-! ### The sums, from both sides -/
structure LrP (s s' w w' : Nat) (k : Rat) : Prop where
  ns : Num .f32 s
  ns' : Num .f32 s'
  s1 : fv .f32 s ≤ 18 * k
  s2 : -(18 * k) ≤ fv .f32 s
  s3 : fv .f32 s' ≤ 18 * k
  s4 : -(18 * k) ≤ fv .f32 s'
  sd : fv .f32 s + fv .f32 s' ≤ k * (6 / 100000)
  se : -(k * (6 / 100000)) ≤ fv .f32 s + fv .f32 s'
  nw : Num .f32 w
  nw' : Num .f32 w'
  w1 : 0 ≤ fv .f32 w
  w2 : fv .f32 w ≤ 3 * k
  w3 : 0 ≤ fv .f32 w'
  w4 : fv .f32 w' ≤ 3 * k
  wd : fv .f32 w - fv .f32 w' ≤ k * (1 / 100000)
  we : fv .f32 w' - fv .f32 w ≤ k * (1 / 100000)
  wz : (fv .f32 w = 0 ∧ fv .f32 w' = 0) ∨ (58 / 1000 - k * (1 / 100000) ≤ fv .f32 w ∧ 58 / 1000 - k * (1 / 100000) ≤ fv .f32 w')
theorem LrP.sums {s s' w w' e e' : Nat} {k : Rat} (h : LrP s s' w w' k) (hk0 : 0 ≤ k) (hk : k ≤ 15) (ne : Num .f32 e) (ne' : Num .f32 e') (e1 : fv .f32 e ≤ 17) (e2 : -17 ≤ fv .f32 e) (e3 : fv .f32 e' ≤ 17) (e4 : -17 ≤ fv .f32 e')
    (ed : fv .f32 e + fv .f32 e' ≤ 2 / 100000) (ee : -(2 / 100000) ≤ fv .f32 e + fv .f32 e') :
    Num .f32 (fop .add .f32 s e) ∧ Num .f32 (fop .add .f32 s' e') ∧ fv .f32 (fop .add .f32 s e) ≤ 18 * (k + 1) ∧ -(18 * (k + 1)) ≤ fv .f32 (fop .add .f32 s e) ∧
      fv .f32 (fop .add .f32 s' e') ≤ 18 * (k + 1) ∧ -(18 * (k + 1)) ≤ fv .f32 (fop .add .f32 s' e') ∧ fv .f32 (fop .add .f32 s e) + fv .f32 (fop .add .f32 s' e') ≤ (k + 1) * (6 / 100000) ∧ -((k + 1) * (6 / 100000)) ≤ fv .f32 (fop .add .f32 s e) + fv .f32 (fop .add .f32 s' e') := by
  obtain ⟨ns, ns', s1, s2, s3, s4, sd, se, -, -, -, -, -, -, -, -, -⟩ := h
  obtain ⟨hu0, hu⟩ := u32
  obtain ⟨he0, he⟩ := e32
  have h100 := tw100
  obtain ⟨⟨p1, p2, p3⟩, -⟩ := add_near (A := 300) ns ne (by grind) (by grind) (by grind)
  obtain ⟨⟨q1, q2, q3⟩, -⟩ := add_near (A := 300) ns' ne' (by grind) (by grind) (by grind)
  generalize fv .f32 (fop .add .f32 s e) = S at *
  generalize fv .f32 (fop .add .f32 s' e') = S' at *
  generalize fv .f32 s = a at *
  generalize fv .f32 s' = a' at *
  generalize fv .f32 e = b at *
  generalize fv .f32 e' = b' at *
  generalize uu .f32 = u at *
  generalize eta .f32 = t at *
  clear h100
  refine ⟨p1, q1, by grind, by grind, by grind, by grind, by grind, by grind⟩
theorem LrP.wides {s s' w w' e e' : Nat} {k : Rat} (h : LrP s s' w w' k) (hk0 : 0 ≤ k) (hk : k ≤ 15) (ne : Num .f32 e) (ne' : Num .f32 e') (e1 : 0 ≤ fv .f32 e) (e2 : fv .f32 e ≤ 2) (e3 : 0 ≤ fv .f32 e') (e4 : fv .f32 e' ≤ 2)
    (ez : (fv .f32 e = 0 ∧ fv .f32 e' = 0) ∨ (58 / 1000 ≤ fv .f32 e ∧ 58 / 1000 ≤ fv .f32 e')) (ed : fv .f32 e - fv .f32 e' ≤ 2 / 1000000) (ee : fv .f32 e' - fv .f32 e ≤ 2 / 1000000) :
    Num .f32 (fop .add .f32 w e) ∧ Num .f32 (fop .add .f32 w' e') ∧ 0 ≤ fv .f32 (fop .add .f32 w e) ∧ fv .f32 (fop .add .f32 w e) ≤ 3 * (k + 1) ∧
      0 ≤ fv .f32 (fop .add .f32 w' e') ∧ fv .f32 (fop .add .f32 w' e') ≤ 3 * (k + 1) ∧ fv .f32 (fop .add .f32 w e) - fv .f32 (fop .add .f32 w' e') ≤ (k + 1) * (1 / 100000) ∧ fv .f32 (fop .add .f32 w' e') - fv .f32 (fop .add .f32 w e) ≤ (k + 1) * (1 / 100000) ∧
      ((fv .f32 (fop .add .f32 w e) = 0 ∧ fv .f32 (fop .add .f32 w' e') = 0) ∨ (58 / 1000 - (k + 1) * (1 / 100000) ≤ fv .f32 (fop .add .f32 w e) ∧ 58 / 1000 - (k + 1) * (1 / 100000) ≤ fv .f32 (fop .add .f32 w' e'))) := by
  obtain ⟨-, -, -, -, -, -, -, -, ns, ns', s1, s2, s3, s4, sd, se, wz⟩ := h
  obtain ⟨hu0, hu⟩ := u32
  obtain ⟨he0, he⟩ := e32
  have h100 := tw100
  obtain ⟨⟨p1, p2, p3⟩, ps1, ps2⟩ := add_near (A := 48) ns ne (by grind) (by grind) (by grind)
  obtain ⟨⟨q1, q2, q3⟩, qs1, qs2⟩ := add_near (A := 48) ns' ne' (by grind) (by grind) (by grind)
  generalize fv .f32 (fop .add .f32 w e) = S at *
  generalize fv .f32 (fop .add .f32 w' e') = S' at *
  generalize fv .f32 w = a at *
  generalize fv .f32 w' = a' at *
  generalize fv .f32 e = b at *
  generalize fv .f32 e' = b' at *
  generalize uu .f32 = u at *
  generalize eta .f32 = t at *
  clear h100
  have g1 : 0 ≤ S := ps1 (by grind)
  have g2 : 0 ≤ S' := qs1 (by grind)
  refine ⟨p1, q1, g1, by grind, g2, by grind, by grind, by grind, ?_⟩
  rcases wz with ⟨z1, z2⟩ | ⟨z1, z2⟩
  · rcases ez with ⟨y1, y2⟩ | ⟨y1, y2⟩
    · left
      have := ps2 (by grind)
      have := qs2 (by grind)
      exact ⟨by grind, by grind⟩
    · right; exact ⟨by grind, by grind⟩
  · right; exact ⟨by grind, by grind⟩

theorem times_swap (a b : List Lf) : timesL (b ++ a) = timesL (a ++ b) := by
  have h : ordL (b ++ a) = ordL (a ++ b) := ordL_eq ((ordL_perm (b ++ a)).trans List.perm_append_comm) (ordL_srt _)
  unfold timesL
  rw [h, List.length_append, List.length_append, Nat.add_comm]
theorem Drawn.append {a b : List Lf} (ha : Drawn a) (hb : Drawn b) : Drawn (a ++ b) := fun x hx => (List.mem_append.1 hx).elim (ha x) (hb x)
theorem cntB_append (p : Lf → Bool) (a b : List Lf) : cntB p (a ++ b) = cntB p a + cntB p b := List.countP_append
theorem cntB_len (p : Lf → Bool) (a : List Lf) : cntB p a ≤ a.length := List.countP_le_length
theorem kk_cast (k : Nat) : ((k + 1 : Nat) : Rat) = (k : Rat) + 1 := Rat.natCast_add k 1
theorem lr_all {a b : List Lf} (ha : Drawn a) (hb : Drawn b) (la : a.length ≤ 8) (lb : b.length ≤ 8) : ∀ k, k ≤ (timesL (a ++ b)).length → LrP (lrSum a b k) (lrSum b a k) (lrWide a b k) (lrWide b a k) (k : Rat)
  | 0, _ => by
    obtain ⟨z1, z2⟩ := zero_val
    have k0 : ((0 : Nat) : Rat) = 0 := rfl
    have e1 : lrSum a b 0 = cn .f32 0 := rfl
    have e2 : lrSum b a 0 = cn .f32 0 := rfl
    have e3 : lrWide a b 0 = cn .f32 0 := rfl
    have e4 : lrWide b a 0 = cn .f32 0 := rfl
    rw [e1, e2, e3, e4, k0]
    refine ⟨z1, z1, ?_, ?_, ?_, ?_, ?_, ?_, z1, z1, ?_, ?_, ?_, ?_, ?_, ?_, .inl ⟨z2, z2⟩⟩ <;> rw [z2] <;> grind
  | k + 1, hk => by
    have ih := lr_all ha hb la lb k (by omega)
    have hT := times_swap a b
    have hlen : (timesL (a ++ b)).length ≤ 16 := by have := timesL_len (a ++ b); rw [List.length_append] at this; omega
    have hkl : k < (timesL (a ++ b)).length := by omega
    have hok := (ha.append hb).ok
    have hd1 := fell_pos hok (List.getElem_mem hkl)
    have hdr := fell_risk ((timesL (a ++ b))[k]) (a ++ b)
    have hra := fell_risk ((timesL (a ++ b))[k]) a
    have hrb := fell_risk ((timesL (a ++ b))[k]) b
    have s1 : lrSum a b (k + 1) = lrS a b (lrSum a b k) ((timesL (a ++ b))[k]) := accK_succ hkl
    have w1 : lrWide a b (k + 1) = lrW a b (lrWide a b k) ((timesL (a ++ b))[k]) := accK_succ hkl
    have s2 : lrSum b a (k + 1) = lrS b a (lrSum b a k) ((timesL (a ++ b))[k]) := by
      unfold lrSum; rw [hT]; exact accK_succ hkl
    have w2 : lrWide b a (k + 1) = lrW b a (lrWide b a k) ((timesL (a ++ b))[k]) := by
      unfold lrWide; rw [hT]; exact accK_succ hkl
    generalize (timesL (a ++ b))[k] = t at *
    have c1 := cntB_append (fellB t) a b
    have c2 := cntB_append (riskB t) a b
    have c3 := cntB_append (fellB t) b a
    have c4 := cntB_append (riskB t) b a
    have m1 := cntB_len (riskB t) a
    have m2 := cntB_len (riskB t) b
    generalize hD : cntB (fellB t) (a ++ b) = D at *
    generalize hR : cntB (riskB t) (a ++ b) = R at *
    have hD2 : cntB (fellB t) (b ++ a) = D := by rw [c3, c1, Nat.add_comm]
    have hR2 : cntB (riskB t) (b ++ a) = R := by rw [c4, c2, Nat.add_comm]
    have x1 : lrS a b (lrSum a b k) t = fop .add .f32 (lrSum a b k) (lrE (cntB (fellB t) a) D (cntB (riskB t) a) R) := by unfold lrS lrE; rw [hD, hR]
    have x2 : lrS b a (lrSum b a k) t = fop .add .f32 (lrSum b a k) (lrE (cntB (fellB t) b) D (cntB (riskB t) b) R) := by unfold lrS lrE; rw [hD2, hR2]
    have y1 : lrW a b (lrWide a b k) t = if R = 1 then lrWide a b k else fop .add .f32 (lrWide a b k) (lrX D (cntB (riskB t) a) R) := by unfold lrW; rw [hD, hR]
    have y2 : lrW b a (lrWide b a k) t = if R = 1 then lrWide b a k else fop .add .f32 (lrWide b a k) (lrX D (R - cntB (riskB t) a) R) := by
      unfold lrW; rw [hD2, hR2, show R - cntB (riskB t) a = cntB (riskB t) b by omega]
    rw [s1, s2, w1, w2, x1, x2, y1, y2]
    clear s1 s2 w1 w2 x1 x2 y1 y2 c3 c4 hD2 hR2 hD hR
    generalize cntB (fellB t) a = da at *
    generalize cntB (fellB t) b = db at *
    generalize cntB (riskB t) a = ra at *
    generalize cntB (riskB t) b = rb at *
    obtain ⟨n1, e1, e2, e3, e4⟩ := lrE_near (da := da) (d := D) (ra := ra) (r := R) (by omega) (by omega) (by omega) (by omega) (by omega)
    obtain ⟨n2, f1, f2, f3, f4⟩ := lrE_near (da := db) (d := D) (ra := rb) (r := R) (by omega) (by omega) (by omega) (by omega) (by omega)
    have hz : ((da : Rat) - (D : Rat) * (ra : Rat) / (R : Rat)) + ((db : Rat) - (D : Rat) * (rb : Rat) / (R : Rat)) = 0 := by
      have g1 : (D : Rat) = (da : Rat) + (db : Rat) := by rw [c1]; exact Rat.natCast_add da db
      have g2 : (R : Rat) = (ra : Rat) + (rb : Rat) := by rw [c2]; exact Rat.natCast_add ra rb
      have g3 : (R : Rat) ≠ 0 := by
        have : 0 < R := by omega
        have : (0 : Rat) < (R : Rat) := by exact_mod_cast this
        grind
      grind
    have hk15 : (k : Rat) ≤ 15 := by
      have : k ≤ 15 := by omega
      exact_mod_cast this
    have hk0 : (0 : Rat) ≤ (k : Rat) := Rat.natCast_nonneg
    obtain ⟨a1, a2, a3, a4, a5, a6, a7, a8⟩ := ih.sums hk0 hk15 n1 n2 e3 e4 f3 f4 (by grind) (by grind)
    rw [kk_cast]
    by_cases hR1 : R = 1
    · rw [if_pos hR1, if_pos hR1]
      obtain ⟨-, -, -, -, -, -, -, -, nw, nw', v1, v2, v3, v4, vd, ve, vz⟩ := ih
      refine ⟨a1, a2, a3, a4, a5, a6, a7, a8, nw, nw', v1, by grind, v3, by grind, by grind, by grind, ?_⟩
      rcases vz with h | h
      · exact .inl h
      · exact .inr ⟨by grind, by grind⟩
    · rw [if_neg hR1, if_neg hR1]
      obtain ⟨p1, p2, p3, p4, p5, p6, p7, p8, p9⟩ := x_near (d := D) (ra := ra) (r := R) (by omega) (by omega) (by omega) (by omega) (by omega)
      obtain ⟨b1, b2, b3, b4, b5, b6, b7, b8, b9⟩ := ih.wides hk0 hk15 p1 p2 p3 p4 p5 p6 p7 p8 p9
      exact ⟨a1, a2, a3, a4, a5, a6, a7, a8, b1, b2, b3, b4, b5, b6, b7, b8, b9⟩

open Go Go.RowKit

theorem fin_Num {x : Nat} (h : Num .f32 x) : finB x = true := by
  obtain ⟨s, m, e, hr⟩ := h
  obtain ⟨z1, z2⟩ := zero_val
  have hx : Num .f32 x := ⟨s, m, e, hr⟩
  have hw := wr_sub hx hx
  have h0 : fv .f32 x - fv .f32 x = 0 := by grind
  rw [h0] at hw
  have h100 := tw100
  obtain ⟨⟨n1, _, _⟩, s1, s2⟩ := hw.nr (A := 1) (by grind) (by grind) (by grind)
  unfold finB
  rw [eql_val n1 z1, z2, decide_eq_true_eq]
  have := s1 (by grind)
  have := s2 (by grind)
  grind
theorem ratio_near {P M Z f w : Rat} (hP : 0 ≤ P) (hM0 : 0 ≤ M) (hM1 : M ≤ P + P / 16000000 + 1 / 1000000000000000000) (hM2 : P ≤ M + P / 16000000 + 1 / 1000000000000000000) (hZ : Z * w = M) (hZ0 : 0 ≤ Z)
    (hf1 : f ≤ Z + 3 * (Z / 16000000) + 1 / 1000000000000000000) (hf2 : Z ≤ f + 3 * (Z / 16000000) + 1 / 1000000000000000000) (hw0 : 0 < w) (hw : w ≤ 48) :
    f * w ≤ P + P / 1000000 + 1 / 1000000000 ∧ P ≤ f * w + f * w / 1000000 + 1 / 1000000000 := by
  have h1 := Rat.mul_le_mul_of_nonneg_right hf1 (Rat.le_of_lt hw0)
  have h2 := Rat.mul_le_mul_of_nonneg_right hf2 (Rat.le_of_lt hw0)
  have e1 : (Z + 3 * (Z / 16000000) + 1 / 1000000000000000000) * w = Z * w + 3 * (Z * w / 16000000) + w / 1000000000000000000 := by grind
  have e2 : (f + 3 * (Z / 16000000) + 1 / 1000000000000000000) * w = f * w + 3 * (Z * w / 16000000) + w / 1000000000000000000 := by grind
  rw [e1, hZ] at h1
  rw [e2, hZ] at h2
  generalize f * w = x at *
  clear hf1 hf2 hZ hZ0 e1 e2
  constructor <;> grind
theorem pair_near {P P' f b w w' : Rat} (h1 : P ≤ f * w + f * w / 1000000 + 1 / 1000000000) (h2 : b * w' ≤ P' + P' / 1000000 + 1 / 1000000000) (hP : P' ≤ P + P * (4 / 1000) + 233 / 1000000) (hP0 : 0 ≤ P) (hP1 : 0 ≤ P')
    (hw : w ≤ w' + 16 / 100000) (hw' : 57 / 1000 ≤ w') (hf : 0 ≤ f) : b ≤ f + 9 / 1000 * (1 + f) := by
  have g1 := Rat.mul_le_mul_of_nonneg_left hw hf
  have g2 := Rat.mul_le_mul_of_nonneg_left hw' hf
  have e1 : f * (w' + 16 / 100000) = f * w' + f * (16 / 100000) := by grind
  rw [e1] at g1
  have hpos : 0 < w' := by grind
  refine Rat.le_of_mul_le_mul_right (c := w') ?_ hpos
  have e2 : (f + 9 / 1000 * (1 + f)) * w' = f * w' + 9 / 1000 * w' + 9 / 1000 * (f * w') := by grind
  rw [e2]
  generalize f * w = x at *
  generalize f * w' = y at *
  generalize b * w' = z at *
  grind
theorem square_near {s s' d : Rat} (hd : s + s' = d) (h1 : d ≤ 96 / 100000) (h2 : -(96 / 100000) ≤ d) : s' * s' ≤ s * s + s * s * (4 / 1000) + 233 / 1000000 := by
  have e : s' = d - s := by grind
  have h3 : 0 ≤ (4 / 1000 * s + d) * (4 / 1000 * s + d) := by
    rcases Rat.le_total (a := 0) (b := 4 / 1000 * s + d) with h | h
    · exact Rat.mul_nonneg h h
    · have := Rat.mul_nonneg (a := -(4 / 1000 * s + d)) (b := -(4 / 1000 * s + d)) (by grind) (by grind)
      grind
  have h4 : d * d ≤ 96 / 100000 * (96 / 100000) := by
    have a1 := Rat.mul_nonneg (a := 96 / 100000 - d) (b := 96 / 100000 + d) (by grind) (by grind)
    grind
  rw [e]
  have e3 : (4 / 1000 * s + d) * (4 / 1000 * s + d) = 16 / 1000000 * (s * s) + 8 / 1000 * (s * d) + d * d := by grind
  have e4 : (d - s) * (d - s) = d * d - 2 * (s * d) + s * s := by grind
  rw [e3] at h3
  rw [e4]
  generalize s * s = a at *
  generalize s * d = c at *
  generalize d * d = q at *
  grind
/-- The quotient of the square and the spread. -/
theorem lrZ_near {S W : Nat} (hS : Num .f32 S) (hW : Num .f32 W) (s1 : fv .f32 S ≤ 288) (s2 : -288 ≤ fv .f32 S) (w1 : 57 / 1000 ≤ fv .f32 W) (w2 : fv .f32 W ≤ 48) :
    Num .f32 (fop .quo .f32 (fop .mul .f32 S S) W) ∧ 0 ≤ fv .f32 (fop .quo .f32 (fop .mul .f32 S S) W) ∧
      fv .f32 (fop .quo .f32 (fop .mul .f32 S S) W) * fv .f32 W ≤ fv .f32 S * fv .f32 S + fv .f32 S * fv .f32 S / 1000000 + 1 / 1000000000 ∧
      fv .f32 S * fv .f32 S ≤ fv .f32 (fop .quo .f32 (fop .mul .f32 S S) W) * fv .f32 W + fv .f32 (fop .quo .f32 (fop .mul .f32 S S) W) * fv .f32 W / 1000000 + 1 / 1000000000 := by
  obtain ⟨hu0, hu⟩ := u32
  obtain ⟨he0, he⟩ := e32
  have h100 := tw100
  have h99 := tw99_big
  have hP0 : 0 ≤ fv .f32 S * fv .f32 S := by
    rcases Rat.le_total (a := 0) (b := fv .f32 S) with h | h
    · exact Rat.mul_nonneg h h
    · have := Rat.mul_nonneg (a := -fv .f32 S) (b := -fv .f32 S) (by grind) (by grind)
      grind
  have hP1 : fv .f32 S * fv .f32 S ≤ 82944 := by
    have a1 := Rat.mul_nonneg (a := 288 - fv .f32 S) (b := 288 + fv .f32 S) (by grind) (by grind)
    grind
  obtain ⟨⟨n1, m1, m2⟩, g1, -⟩ := mul_near (A := fv .f32 S * fv .f32 S) hS hS (Rat.le_refl) (by grind) (by grind)
  have hM0 := g1 hP0
  have hup : uu .f32 * (fv .f32 S * fv .f32 S) ≤ 1 / 16000000 * (fv .f32 S * fv .f32 S) := Rat.mul_le_mul_of_nonneg_right hu hP0
  generalize fop .mul .f32 S S = mb at *
  generalize fv .f32 S * fv .f32 S = P at *
  have hw0 : 0 < fv .f32 W := by grind
  have hZ : fv .f32 mb / fv .f32 W * fv .f32 W = fv .f32 mb := Rat.div_mul_cancel (by grind)
  have hZ0 : 0 ≤ fv .f32 mb / fv .f32 W := by
    refine Rat.le_of_mul_le_mul_right (c := fv .f32 W) ?_ hw0
    rw [hZ, Rat.zero_mul]; exact hM0
  have hZ1 : fv .f32 mb / fv .f32 W ≤ 2000000 := by
    refine Rat.le_of_mul_le_mul_right (c := fv .f32 W) ?_ hw0
    rw [hZ]; grind
  obtain ⟨⟨n2, f1, f2⟩, g2, -⟩ := quo_near (A := fv .f32 mb / fv .f32 W) n1 hW (by grind) (Rat.le_refl) (by grind) (by grind)
  have huz : uu .f32 * (fv .f32 mb / fv .f32 W) ≤ 1 / 16000000 * (fv .f32 mb / fv .f32 W) := Rat.mul_le_mul_of_nonneg_right hu hZ0
  have hf0 := g2 hZ0
  generalize fop .quo .f32 mb W = fb at *
  generalize fv .f32 mb / fv .f32 W = Z at *
  obtain ⟨r1, r2⟩ := ratio_near (f := fv .f32 fb) hP0 hM0 (by grind) (by grind) hZ hZ0 (by grind) (by grind) hw0 w2
  exact ⟨n2, hf0, r1, r2⟩
/-- What the law asks of two groups. -/
theorem lr_pair {a b : List Lf} (ha : Drawn a) (hb : Drawn b) (la : a.length ≤ 8) (lb : b.length ≤ 8) (va : livesB a = true) (vb : livesB b = true) :
    (lrO a b = none ∧ lrO b a = none) ∨ ∃ x y, lrO a b = some x ∧ lrO b a = some y ∧ Num .f32 x ∧ Num .f32 y ∧ 0 ≤ fv .f32 x ∧ fv .f32 x ≤ 2000000 ∧ 0 ≤ fv .f32 y ∧
      fv .f32 y ≤ fv .f32 x + 9 / 1000 * (1 + fv .f32 x) ∧ fv .f32 x ≤ fv .f32 y + 9 / 1000 * (1 + fv .f32 y) ∧ (a = b → fv .f32 x ≤ 1 / 10000) := by
  have h := lr_all ha hb la lb (timesL (a ++ b)).length (Nat.le_refl _)
  have hlen : (timesL (a ++ b)).length ≤ 16 := by have := timesL_len (a ++ b); rw [List.length_append] at this; omega
  have e1 : lrO a b = lrZ a b (timesL (a ++ b)).length := by unfold lrO; rw [va, vb]; rfl
  have e2 : lrO b a = lrZ b a (timesL (a ++ b)).length := by unfold lrO; rw [va, vb, times_swap]; rfl
  have hk : (((timesL (a ++ b)).length : Nat) : Rat) ≤ 16 := by exact_mod_cast hlen
  have hk0 : (0 : Rat) ≤ (((timesL (a ++ b)).length : Nat) : Rat) := Rat.natCast_nonneg
  rw [e1, e2]
  unfold lrZ
  have hsame : a = b → lrSum a b (timesL (a ++ b)).length = lrSum b a (timesL (a ++ b)).length := fun h => by subst h; rfl
  clear e1 e2 hlen va vb
  generalize (((timesL (a ++ b)).length : Nat) : Rat) = k at *
  generalize (timesL (a ++ b)).length = n at *
  generalize lrSum a b n = S at *
  generalize lrSum b a n = S' at *
  generalize lrWide a b n = W at *
  generalize lrWide b a n = W' at *
  obtain ⟨ns, ns', s1, s2, s3, s4, sd, se, nw, nw', w1, w2, w3, w4, wd, we, wz⟩ := h
  obtain ⟨z1, z2⟩ := zero_val
  rw [gtrF_val nw z1, gtrF_val nw' z1, z2]
  rcases wz with ⟨y1, y2⟩ | ⟨y1, y2⟩
  · left
    rw [y1, y2]
    exact ⟨rfl, rfl⟩
  · right
    have p1 : (0 : Rat) < fv .f32 W := by grind
    have p2 : (0 : Rat) < fv .f32 W' := by grind
    rw [decide_eq_true p1, decide_eq_true p2]
    simp only [if_true]
    obtain ⟨a1, a2, a3, a4⟩ := lrZ_near ns nw (by grind) (by grind) (by grind) (by grind)
    obtain ⟨b1, b2, b3, b4⟩ := lrZ_near ns' nw' (by grind) (by grind) (by grind) (by grind)
    generalize fop .quo .f32 (fop .mul .f32 S S) W = x at *
    generalize fop .quo .f32 (fop .mul .f32 S' S') W' = y at *
    have q1 := square_near (s := fv .f32 S) (s' := fv .f32 S') rfl (by grind) (by grind)
    have q2 := square_near (s := fv .f32 S') (s' := fv .f32 S) rfl (by grind) (by grind)
    have sq : ∀ t : Rat, 0 ≤ t * t := fun t => by
      rcases Rat.le_total (a := 0) (b := t) with h | h
      · exact Rat.mul_nonneg h h
      · have := Rat.mul_nonneg (a := -t) (b := -t) (by grind) (by grind)
        grind
    have hss := sq (fv .f32 S)
    have hss' := sq (fv .f32 S')
    refine ⟨x, y, ?_, ?_, a1, b1, a2, ?_, b2, ?_, ?_, ?_⟩
    · unfold finO; rw [fin_Num a1]; rfl
    · unfold finO; rw [fin_Num b1]; rfl
    · have hP1 : fv .f32 S * fv .f32 S ≤ 82944 := by
        have a1 := Rat.mul_nonneg (a := 288 - fv .f32 S) (b := 288 + fv .f32 S) (by grind) (by grind)
        grind
      have h5 := Rat.mul_le_mul_of_nonneg_left (show 57 / 1000 ≤ fv .f32 W by grind) a2
      grind
    · exact pair_near a4 b3 q1 hss hss' (by grind) (by grind) a2
    · exact pair_near b4 a3 q2 hss' hss (by grind) (by grind) b2
    · intro hab
      have hS := hsame hab
      subst hS
      have h5 : fv .f32 S * fv .f32 S ≤ 1 / 1000000 := by
        have a1 := Rat.mul_nonneg (a := 96 / 100000 - fv .f32 S) (b := 96 / 100000 + fv .f32 S) (by grind) (by grind)
        grind
      have h6 := Rat.mul_le_mul_of_nonneg_left (show 57 / 1000 ≤ fv .f32 W by grind) a2
      grind
end Go.Proofs.Ytlbmjeennpccmaa
