
/- What a float stands for is written exactly: one by a number, nothing and a number. Plain. -/
import Derived.Test.YtmcnfapdghoenaaPA2
import Derived.Test.YtmcnfapdghoenaaPB
import Derived.Test.YtmcnfapdghoenaaP7
import Derived.Test.YtmcnfapdghoenaaPD
namespace Go.Proofs.Ytmcnfapdghoenaa
open Go Go.RowKit

attribute [local irreducible] tw
theorem write_exact {k : FloatKind} {s : Bool} {m : Nat} {p c : Int} (hl : LeP m p c) (hc : InF k c) (hdiv : ∀ last, last = max (p + (m.log2 : Int) - (k.format.fractionBits : Int)) k.format.leastPlace → p < last → 2 ^ (last - p).toNat ∣ m) :
    ∃ m' e', k.format.read (k.format.write (.number s m p)) = .number s m' e' ∧ (m' : Rat) * tw e' = (m : Rat) * tw p := by
  by_cases hm : m = 0
  · subst hm
    exact ⟨0, k.format.leastPlace, read_zero k s, by rw [show ((0 : Nat) : Rat) = 0 from rfl]; grind⟩
  obtain ⟨r, hr, e⟩ := nearest_rung k.format s m p c hl hc.1 (Nat.le_of_lt hc.2)
  have hinf : r < k.format.infRung := Nat.lt_of_le_of_lt hr hc.2
  have e0 : k.format.write (.number s m p) = k.format.word s r := e
  unfold Ieee.Format.nearest at e
  rw [if_neg hm] at e
  generalize hla : max (p + (m.log2 : Int) - (k.format.fractionBits : Int)) k.format.leastPlace = last at e
  have hword : ∀ a b : Nat, k.format.word s a = k.format.word s b → a = b := by
    intro a b h
    unfold Ieee.Format.word at h
    split at h <;> omega
  have e2 := hword _ _ e
  have hbin : k.format.binade = 2 ^ k.format.fractionBits := rfl
  have hle := kept_le s m p last (k.format.fractionBits + 1) hm (by omega)
  have hge : last = k.format.leastPlace ∨ k.format.binade ≤ Ieee.Toward.even.cut s (m <<< (p - last).toNat) (last - p).toNat := by
    by_cases h : last = k.format.leastPlace
    · exact .inl h
    · right; rw [hbin]; exact kept_ge s m p last k.format.fractionBits hm (by omega)
  have hexact : ((Ieee.Toward.even.cut s (m <<< (p - last).toNat) (last - p).toNat : Nat) : Rat) * tw last = (m : Rat) * tw p := by
    by_cases h : last ≤ p
    · have e : (last - p).toNat = 0 := by omega
      rw [e, cut_exact s _ 0 (by simp [Nat.mod_one]), Nat.zero_min, Nat.pow_zero, Nat.div_one, Nat.shiftLeft_eq, natCast_shl, tw_split h]
      grind
    · have e : (p - last).toNat = 0 := by omega
      have hd := hdiv last hla.symm (by omega)
      generalize hdd : (last - p).toNat = d at *
      rw [e, Nat.shiftLeft_eq, Nat.pow_zero, Nat.mul_one]
      have hdl : d ≤ m.log2 + 2 := by
        have h1 := Nat.le_of_dvd (Nat.pos_of_ne_zero hm) hd
        have := (Nat.le_log2 hm).2 h1
        omega
      have hmin : min d (m.log2 + 2) = d := Nat.min_eq_left hdl
      have h0 : m % 2 ^ (min d (m.log2 + 2)) = 0 := by rw [hmin]; exact Nat.mod_eq_zero_of_dvd hd
      rw [cut_exact s m d h0, hmin]
      have h2 := Nat.div_mul_cancel hd
      have h3 : tw last = ((2 ^ d : Nat) : Rat) * tw p := by rw [← hdd]; exact tw_split (by omega)
      have h4 : ((m / 2 ^ d * 2 ^ d : Nat) : Rat) = (m : Rat) := by rw [h2]
      rw [Rat.natCast_mul] at h4
      rw [h3, ← h4]; grind
  generalize Ieee.Toward.even.cut s (m <<< (p - last).toNat) (last - p).toNat = n at *
  have hR : r = (last - k.format.leastPlace).toNat * k.format.binade + n := by omega
  obtain ⟨m', e', h5, h6⟩ := rung_val (f := k.format) (s := s) (last := last) (n := n) (by omega) (by rw [hbin]; rw [Nat.pow_succ] at hle; omega) hge (by omega)
  rw [← hR, ← e0] at h5
  exact ⟨m', e', h5, by rw [h6]; exact hexact⟩
theorem log2_mul (a u : Nat) (ha : a ≠ 0) : (a * 2 ^ u).log2 = a.log2 + u := by
  have h1 := Nat.log2_self_le ha
  have h2 := @Nat.lt_log2_self a
  have hp : 0 < 2 ^ u := Nat.pow_pos (by decide)
  have hne : a * 2 ^ u ≠ 0 := Nat.mul_ne_zero ha (by omega)
  refine Nat.le_antisymm ?_ ?_
  · have : a * 2 ^ u < 2 ^ (a.log2 + u + 1) := by
      rw [show a.log2 + u + 1 = (a.log2 + 1) + u by omega, Nat.pow_add]
      exact Nat.mul_lt_mul_of_pos_right h2 hp
    have := (Nat.log2_lt hne).2 this
    omega
  · refine (Nat.le_log2 hne).2 ?_
    rw [Nat.pow_add]
    exact Nat.mul_le_mul_right _ h1
/-- A number that a float stands for is written exactly. -/
theorem wr_exact {a b : Nat} {V : Rat} (h : Wr .f32 b V) (ha : Num .f32 a) (hv : fv .f32 a = V) (h1 : V ≤ 1000000) (h2 : -V ≤ 1000000) : Num .f32 b ∧ fv .f32 b = V := by
  obtain ⟨s, m, p, rfl, hd⟩ := h
  obtain ⟨t, n, e, hr⟩ := ha
  have hn := single_read (show Ieee.single.read a = .number t n e from hr)
  obtain ⟨n24, e149, -⟩ := hn
  rw [fv_eq hr] at hv
  rw [dv_num] at hd
  have h100 := tw100
  have p0 := tw_pos p
  have e0 := tw_pos e
  have m0 : (0 : Rat) ≤ (m : Rat) := Rat.natCast_nonneg
  have n0 : (0 : Rat) ≤ (n : Rat) := Rat.natCast_nonneg
  have mp := jmul_nn m0 (Rat.le_of_lt p0)
  have ne := jmul_nn n0 (Rat.le_of_lt e0)
  have habs : (m : Rat) * tw p = (n : Rat) * tw e := by
    cases s <;> cases t <;> simp only [Bool.false_eq_true, if_false, if_true] at hd hv <;> grind
  have hb : (m : Rat) * tw p ≤ tw 100 := by
    cases s <;> simp only [Bool.false_eq_true, if_false, if_true] at hd <;> grind
  obtain ⟨m', e', g1, g2⟩ := write_exact (k := .f32) (s := s) (leP_of hb) (inF100 .f32) (by
    intro last hlast hlt
    by_cases hm : m = 0
    · rw [hm]; exact Nat.dvd_zero _
    have hfb : (FloatKind.f32).format.fractionBits = 23 ∧ (FloatKind.f32).format.leastPlace = -149 := by decide +kernel
    rw [hfb.1, hfb.2] at hlast
    by_cases hep : p ≤ e
    · -- m is n, shifted
      have hmn : m = n * 2 ^ (e - p).toNat := by
        rw [tw_split hep] at habs
        have h3 : (m : Rat) = (n : Rat) * ((2 ^ (e - p).toNat : Nat) : Rat) := by
          refine Rat.le_antisymm ?_ ?_
          · by_cases hc : (m : Rat) ≤ (n : Rat) * ((2 ^ (e - p).toNat : Nat) : Rat)
            · exact hc
            · have := Rat.mul_pos (show 0 < (m : Rat) - (n : Rat) * ((2 ^ (e - p).toNat : Nat) : Rat) by grind) p0; grind
          · by_cases hc : (n : Rat) * ((2 ^ (e - p).toNat : Nat) : Rat) ≤ (m : Rat)
            · exact hc
            · have := Rat.mul_pos (show 0 < (n : Rat) * ((2 ^ (e - p).toNat : Nat) : Rat) - (m : Rat) by grind) p0; grind
        rw [← Rat.natCast_mul] at h3
        exact_mod_cast h3
      have hn0 : n ≠ 0 := by rintro rfl; rw [Nat.zero_mul] at hmn; exact hm hmn
      have hl := log2_mul n (e - p).toNat hn0
      rw [← hmn] at hl
      have hl23 := log_le (m := n) (n := 23) n24
      rw [hmn]
      exact Nat.dvd_trans (Nat.pow_dvd_pow 2 (by omega)) (Nat.dvd_mul_left _ _)
    · have hle : m ≤ n := by
        rw [tw_split (show e ≤ p by omega)] at habs
        have h3 : (m : Rat) ≤ (n : Rat) := by
          by_cases hc : (m : Rat) ≤ (n : Rat)
          · exact hc
          · have q1 : (1 : Rat) ≤ ((2 ^ (p - e).toNat : Nat) : Rat) := one_le_pow _
            have q2 := jmul_le q1 m0
            have := Rat.mul_pos (show 0 < (m : Rat) * ((2 ^ (p - e).toNat : Nat) : Rat) - (n : Rat) by grind) e0
            grind
        exact_mod_cast h3
      have hl23 := log_le (m := m) (n := 23) (by omega)
      omega)
  refine ⟨⟨_, _, _, g1⟩, ?_⟩
  rw [fv_eq g1, ← hd]
  cases s <;> simp only [Bool.false_eq_true, if_false, if_true] <;> grind
end Go.Proofs.Ytmcnfapdghoenaa
/- What the law asks, told of the numbers that the program computes. Conditions: in the theorems. -/
namespace Go.Proofs.Ytmcnfapdghoenaa
open Go Go.RowKit Go.ChangeShapes Go.WideShapes Go.ChangeAt

attribute [local irreducible] tw EX expX logF EN fL nodeL LO eN sumN
/-! ### To 64 bits -/
def WideV (p W : Nat) : Prop := wide (cn .f32 p) = W ∧ isN .f64 W = false
theorem wpList_wideV {P : Program} {ops : Array Oper} {Q : Exit → Act → World → Prop} {o : Oper} {rest : List Oper} {a : Act} {w : World} {src dst : TypeId} {x : Operand} {p W : Nat} (hs : (P.underlying src).isSome = true) (hd : P.underlying dst = some (.float .f64)) (hw : Region.wanted o (yielded ops a.tmps) = true) (hop : o.op = .convert src dst x)
    (hx : a.eval x = .float .f32 p) (h : WideV p W) (hK : ∀ n, wpList P ops Q rest (a.put o.dst (.float .f64 W)) (w.drewN n)) : wpList P ops Q (o :: rest) a w := by
  refine wpList_wide hs hd hw hop hx fun b n hb _ => ?_
  rw [h.1] at hb
  rw [bits_of hb h.2]
  exact hK n
theorem wideV_of {x : Nat} (n : Num .f32 x) : WideV x (wide x) := ⟨by rw [n.cn], (wide_val n).1.notN⟩
theorem consts : numB .f64 4532020583610935537 = true ∧ 999 / 100000000 ≤ fv .f64 4532020583610935537 ∧ fv .f64 4532020583610935537 ≤ 1 / 10000 ∧ numB .f64 4562254508917369340 = true ∧ 999 / 1000000 ≤ fv .f64 4562254508917369340 ∧ fv .f64 4562254508917369340 ≤ 1 / 900 ∧
    numB .f64 4587366580439587226 = true ∧ fv .f64 4587366580439587226 ≤ 51 / 1000 ∧ 49999 / 1000000 ≤ fv .f64 4587366580439587226 ∧ numB .f64 4576918229304087675 = true ∧ 99 / 10000 ≤ fv .f64 4576918229304087675 ∧ numB .f64 4607182418800017408 = true ∧ fv .f64 4607182418800017408 = 1 := by decide +kernel
theorem consts2 : numB .f32 981668463 = true ∧ fv .f32 981668463 ≤ 1 / 900 ∧ 1 / 1100 ≤ fv .f32 981668463 ∧ numB .f32 1148846080 = true ∧ 999 ≤ fv .f32 1148846080 ∧ numB .f32 3129152111 = true ∧ fv .f32 3129152111 ≤ -1 / 1100 ∧ numB .f32 1051372203 = true ∧ fv .f32 1051372203 ≤ 334 / 1000 ∧ 333 / 1000 ≤ fv .f32 1051372203 ∧ numB .f32 1059760811 = true ∧ fv .f32 1059760811 ≤ 667 / 1000 ∧ 666 / 1000 ≤ fv .f32 1059760811 ∧ fv .f32 1082130432 = 4 ∧ fv .f32 1073741824 = 2 ∧ fv .f32 1098907648 = 16 ∧ numB .f32 1098907648 = true := by decide +kernel
/-- A law that is drawn is valid. -/
theorem lawB_any {k y c : Nat} (hk : k < 4) (ny : Num .f32 y) (y1 : 1 / 2 ≤ fv .f32 y) (y2 : fv .f32 y ≤ 16) (nc : Num .f32 c) (c1 : 1 / 2 ≤ fv .f32 c) (c2 : fv .f32 c ≤ 16) (yb : y < 4294967296) (cb : c < 4294967296) : LawB (k : Int) y c := by
  obtain ⟨n1, v1, -, n2, v2, -⟩ := consts2
  have n1 := num_of n1
  have n2 := num_of n2
  exact ⟨by omega, by omega, by rw [fcmp_cn, geq_val ny n1]; exact decide_eq_true (by grind), by rw [fcmp_cn, leq_val ny n2]; exact decide_eq_true (by grind), by rw [fcmp_cn, geq_val nc n1]; exact decide_eq_true (by grind), by rw [fcmp_cn, leq_val nc n2]; exact decide_eq_true (by grind), yb, cb⟩
theorem lawB_of {k m b : Nat} (hk : k < 4) (h2 : 2 ≤ m) (hm : m ≤ 12) (b1 : 1 ≤ b) (hb : b < 33) : LawB (k : Int) (yF m) (cF b) := by
  obtain ⟨y1, y2⟩ := (shp_of h2 hm).in
  obtain ⟨fy, ny, -⟩ := yF_v (show m < 13 by omega)
  obtain ⟨fc, nc, vc⟩ := cF_v hb
  have b0 : (1 : Rat) ≤ (b : Rat) := by exact_mod_cast b1
  have b2 : (b : Rat) ≤ 32 := by exact_mod_cast (show b ≤ 32 by omega)
  exact lawB_any hk ny y1 (by grind) nc (by rw [vc]; grind) (by rw [vc]; grind) fy.2 fc.2
theorem tpos {a : Nat} (a1 : 1 ≤ a) (ha : a < 47) : Num .f32 (tF a) ∧ 0 ≤ fv .f32 (tF a) ∧ 0 < fv .f32 (tF a) ∧ tF a < 4294967296 ∧ fv .f32 (tF a) ≤ 6 := by
  obtain ⟨f, n, v⟩ := tF_v ha
  have a0 : (1 : Rat) ≤ (a : Rat) := by exact_mod_cast a1
  have a2 : (a : Rat) ≤ 46 := by exact_mod_cast (show a ≤ 46 by omega)
  exact ⟨n, by rw [v]; grind, by rw [v]; grind, f.2, by rw [v]; grind⟩
/-- Survivors at nothing: 1. -/
theorem s0_all : ∀ b : Nat, b < 33 → 1 ≤ b → (opB .quo 0 (cF b) 0) = true := by decide +kernel
theorem s0_consts : opB .sub 0 0 0 = true ∧ opB .add 1065353216 0 1065353216 = true ∧ opB .quo 1065353216 1065353216 1065353216 = true ∧ opB .sub 1065353216 0 1065353216 = true ∧ expX 0 = 1065353216 ∧ fcmp .eql .f32 (cn .f32 0) (cn .f32 0) = true ∧ fcmp .gtr .f32 (cn .f32 0) (cn .f32 1065353216) = false := by unfold expX; decide +kernel
theorem surv_0 {k m b : Nat} (hk : k < 4) (b1 : 1 ≤ b) (hb : b < 33) : SurvV (k : Int) (yF m) (cF b) 0 1065353216 := by
  obtain ⟨h1, h2, h3, h4, h5, h6, h7⟩ := s0_consts
  obtain ⟨hq, nq⟩ := opB_v (s0_all b hb b1)
  obtain ⟨z1, z2⟩ := zeroF_val
  have hp : PowV (yF m) 0 0 := .inl ⟨h6, rfl⟩
  have hk4 : k = 0 ∨ k = 1 ∨ k = 2 ∨ k = 3 := by omega
  rcases hk4 with rfl | rfl | rfl | rfl
  · exact ⟨0, hq, nq, .inl ⟨rfl, 0, (opB_v h1).1, z1, by rw [z2]; decide +kernel, h5⟩⟩
  · exact ⟨0, hq, nq, .inr (.inl ⟨rfl, 0, 0, hp, (opB_v h1).1, z1, by rw [z2]; decide +kernel, h5⟩)⟩
  · exact ⟨0, hq, nq, .inr (.inr (.inl ⟨rfl, 0, _, hp, (opB_v h2).1, (opB_v h3).1⟩))⟩
  · exact ⟨0, hq, nq, .inr (.inr (.inr ⟨rfl, .inr ⟨h7, (opB_v h4).1⟩⟩))⟩
/-! ### Comparisons -/
theorem cmp_fall {A B : Nat} (na : Num .f32 A) (nb : Num .f32 B) (a0 : 0 ≤ fv .f32 A) (a1 : fv .f32 A ≤ 1) (h : fv .f32 B ≤ fv .f32 A + 95 / 10000000) :
    FopV .add .f64 (wide A) 4532020583610935537 (fop .add .f64 (wide A) 4532020583610935537) ∧ fcmp .gtr .f64 (cn .f64 (wide B)) (cn .f64 (fop .add .f64 (wide A) 4532020583610935537)) = false ∧ fcmp .lss .f32 (cn .f32 A) (cn .f32 0) = false ∧ fcmp .gtr .f32 (cn .f32 A) (cn .f32 1065353216) = false := by
  obtain ⟨k1, k2, k3, -⟩ := consts
  have k1 := num_of k1
  obtain ⟨wa, va⟩ := wide_val na
  obtain ⟨wb, vb⟩ := wide_val nb
  obtain ⟨z1, z2⟩ := zeroF_val
  obtain ⟨o1, o2⟩ := oneB_val
  have o1' : Num .f32 1065353216 := o1
  have o2' : fv .f32 1065353216 = 1 := o2
  obtain ⟨n, l, u⟩ := addJ (A := 2) (Nr.of wa) (Nr.of k1) (by rw [va]; grind) (by rw [va]; grind) (by decide +kernel) (by decide +kernel)
  rw [va] at u
  refine ⟨fopV_of rfl wa k1 n, ?_, ?_, ?_⟩
  · rw [fcmp_cn, gtrF_val wb n, vb]; exact decide_eq_false (by grind)
  · rw [fcmp_cn, lss_val na z1, z2]; exact decide_eq_false (by grind)
  · rw [fcmp_cn, gtrF_val na o1', o2']; exact decide_eq_false (by grind)
/-- The density against the hazard by the survivors. -/
theorem cmp_dens {h s : Nat} (nh : Num .f32 h) (ns : Num .f32 s) (h0 : 0 ≤ fv .f32 h) (h1 : fv .f32 h ≤ 3000000) (s0 : 0 ≤ fv .f32 s) (s1 : fv .f32 s ≤ 1) :
    ∃ d w e g, FopV .mul .f32 h s d ∧ Num .f32 d ∧ WideV d w ∧ FopV .add .f64 4607182418800017408 w e ∧ FopV .mul .f64 4562254508917369340 e g ∧ (∀ z, Num .f64 z → fv .f64 z ≤ 9 / 10000 → fcmp .gtr .f64 (cn .f64 z) (cn .f64 g) = false) ∧ fcmp .lss .f32 (cn .f32 h) (cn .f32 0) = false := by
  obtain ⟨-, -, -, k1, k2, k3, -, -, -, -, -, k4, k5⟩ := consts
  have k1 := num_of k1
  have k4 := num_of k4
  obtain ⟨z1, z2⟩ := zeroF_val
  obtain ⟨nd, d0, d1⟩ := mul_pos (A := 3000000) (B := 1) nh ns h0 h1 s0 s1 (by decide +kernel) (by decide +kernel)
  obtain ⟨wd, vd⟩ := wide_val nd
  obtain ⟨ne, l, u⟩ := addJ (A := 3000010) (Nr.of k4) (Nr.of wd) (by rw [vd, k5]; grind) (by rw [vd, k5]; grind) (by decide +kernel) (by decide +kernel)
  rw [vd, k5] at l u
  generalize hE : fop .add .f64 4607182418800017408 (wide (fop .mul .f32 h s)) = e at *
  have m := mulJ (X := 1 / 900) (Y := 3000020) (Nr.of k1) (Nr.of ne) k3 (by grind) (by grind) (by grind) (by decide +kernel) (by decide +kernel) (by decide +kernel)
  obtain ⟨ng, l2, u2⟩ := m
  have p1 := jmul_le (show 99 / 100 ≤ fv .f64 e by grind) (show 0 ≤ fv .f64 4562254508917369340 by grind)
  refine ⟨_, _, e, _, fopV_of rfl nh ns nd, nd, wideV_of nd, hE ▸ fopV_of rfl k4 wd (hE ▸ ne), fopV_of rfl k1 ne ng, fun z nz hz => ?_, ?_⟩
  · rw [fcmp_cn, gtrF_val nz ng]; exact decide_eq_false (by grind)
  · rw [fcmp_cn, lss_val nh z1, z2]; exact decide_eq_false (by grind)
theorem cmp_gap {z : Nat} (nz : Num .f64 z) (hz : fv .f64 z ≤ 998 / 1000000) : fcmp .gtr .f64 (cn .f64 z) (cn .f64 4562254508917369340) = false := by
  obtain ⟨-, -, -, k1, k2, k3, -⟩ := consts
  have k1 := num_of k1
  rw [fcmp_cn, gtrF_val nz k1]; exact decide_eq_false (by grind)
theorem cmp_gap2 {z : Nat} (nz : Num .f64 z) (hz : fv .f64 z ≤ 9 / 1000) : fcmp .lss .f64 (cn .f64 z) (cn .f64 4576918229304087675) = true := by
  obtain ⟨-, -, -, -, -, -, -, -, -, k1, k2, -⟩ := consts
  have k1 := num_of k1
  rw [fcmp_cn, lss_val nz k1]; exact decide_eq_true (by grind)
/-- Means. -/
theorem cmp_mean {M M' t : Nat} (nm : Num .f32 M) (nm' : Num .f32 M') (nt : Num .f32 t) (t0 : 0 ≤ fv .f32 t) (t1 : fv .f32 t ≤ 6) (m0 : 0 ≤ fv .f32 M) (m1 : fv .f32 M ≤ fv .f32 t + 9 / 10000) (h : fv .f32 M ≤ fv .f32 M' + 499 / 10000) :
    FopV .add .f64 (wide t) 4562254508917369340 (fop .add .f64 (wide t) 4562254508917369340) ∧ fcmp .gtr .f64 (cn .f64 (wide M)) (cn .f64 (fop .add .f64 (wide t) 4562254508917369340)) = false ∧ fcmp .lss .f32 (cn .f32 M) (cn .f32 0) = false ∧
    FopV .sub .f64 (wide M) 4587366580439587226 (fop .sub .f64 (wide M) 4587366580439587226) ∧ fcmp .lss .f64 (cn .f64 (wide M')) (cn .f64 (fop .sub .f64 (wide M) 4587366580439587226)) = false := by
  obtain ⟨-, -, -, k1, k2, k3, k4, k5, k6, -⟩ := consts
  have k1 := num_of k1
  have k4 := num_of k4
  obtain ⟨wm, vm⟩ := wide_val nm
  obtain ⟨wm', vm'⟩ := wide_val nm'
  obtain ⟨wt, vt⟩ := wide_val nt
  obtain ⟨z1, z2⟩ := zeroF_val
  have h100 := tw100
  obtain ⟨w1, w2, w3, w4⟩ := u64j
  obtain ⟨n, l, u⟩ := addJ (A := 8) (Nr.of wt) (Nr.of k1) (by rw [vt]; grind) (by rw [vt]; grind) (by decide +kernel) (by decide +kernel)
  rw [vt] at u
  obtain ⟨⟨n2, l2, u2⟩, -⟩ := (wr_sub wm k4).nr (A := 8) (by rw [vm]; grind) (by rw [vm]; grind) (by grind)
  rw [vm] at l2
  refine ⟨fopV_of rfl wt k1 n, ?_, ?_, fopV_of rfl wm k4 n2, ?_⟩
  · rw [fcmp_cn, gtrF_val wm n, vm]; exact decide_eq_false (by grind)
  · rw [fcmp_cn, lss_val nm z1, z2]; exact decide_eq_false (by grind)
  · rw [fcmp_cn, lss_val wm' n2, vm']; exact decide_eq_false (by grind)
end Go.Proofs.Ytmcnfapdghoenaa
/- Calls of the law on mixtures and first causes. Conditions: in the theorems. -/
namespace Go.Proofs.Ytmcnfapdghoenaa
open Go Go.RowKit Go.ChangeShapes Go.WideShapes Go.ChangeAt

attribute [local irreducible] tw EX expX logF EN fL nodeL LO eN sumN
/-! ### A mixture of two -/
theorem mixP {j A O : Nat} (j1 : 1 ≤ j) (hj : j ≤ 15) (na : Num .f32 A) (a0 : 0 ≤ fv .f32 A) (a1 : fv .f32 A ≤ 1) (no : Num .f32 O) (o0 : 0 ≤ fv .f32 O) (o1 : fv .f32 O ≤ 1) :
    ∃ ds s d p1 p2 m1 m2 e, FopV .sub .f32 1065353216 (shF j) ds ∧ Num .f32 ds ∧ 0 ≤ fv .f32 ds ∧ sumF (cn .f32 0) ([shF j, ds].map (cn .f32)) = s ∧ Num .f32 s ∧ FopV .sub .f32 s 1065353216 d ∧ fcmp .leq .f32 (cn .f32 d) (cn .f32 981668463) = true ∧ fcmp .geq .f32 (cn .f32 d) (cn .f32 3129152111) = true ∧
      FopV .mul .f32 (shF j) A p1 ∧ FopV .mul .f32 ds O p2 ∧ FopV .add .f32 0 p1 m1 ∧ FopV .add .f32 m1 p2 m2 ∧ Num .f32 m2 ∧ FopV .add .f32 p1 p2 e ∧ Num .f32 e ∧ fv .f32 m2 - fv .f32 e ≤ 1 / 100000 ∧ fv .f32 e - fv .f32 m2 ≤ 1 / 100000 := by
  obtain ⟨-, ns, vs, fd, nd, vd⟩ := shF_v (show j < 16 by omega)
  have jr : (1 : Rat) ≤ (j : Rat) := by exact_mod_cast j1
  have jr2 : (j : Rat) ≤ 15 := by exact_mod_cast hj
  have e16 : ((16 - j : Nat) : Rat) = 16 - (j : Rat) := by
    have : ((16 - j + j : Nat) : Rat) = 16 := by rw [Nat.sub_add_cancel (by omega)]; rfl
    rw [Rat.natCast_add] at this; grind
  rw [e16] at vd
  obtain ⟨z1, z2⟩ := zeroF_val
  obtain ⟨n1, v1⟩ := oneB_val
  have n1 : Num .f32 1065353216 := n1
  have v1 : fv .f32 1065353216 = 1 := v1
  obtain ⟨c1, c2, c3, -, -, c4, c5, -⟩ := consts2
  have c1 := num_of c1
  have c4 := num_of c4
  have h100 := tw100
  obtain ⟨w1, w2, w3, w4⟩ := u32j
  generalize shF j = sh at *
  generalize hds : fop .sub .f32 1065353216 sh = ds at *
  -- the sum of the weights
  obtain ⟨⟨t1, l1, u1⟩, -⟩ := (wr_add z1 ns).nr (A := 1) (by rw [z2]; grind) (by rw [z2]; grind) (by grind)
  rw [z2] at l1 u1
  obtain ⟨⟨t2, l2, u2⟩, -⟩ := (wr_add t1 nd).nr (A := 2) (by grind) (by grind) (by grind)
  obtain ⟨⟨t3, l3, u3⟩, -⟩ := (wr_sub t2 n1).nr (A := 1) (by rw [v1]; grind) (by rw [v1]; grind) (by grind)
  rw [v1] at l3 u3
  have es : sumF (cn .f32 0) ([sh, ds].map (cn .f32)) = fop .add .f32 (fop .add .f32 0 sh) ds := by
    show fop .add .f32 (fop .add .f32 (cn .f32 0) (cn .f32 sh)) (cn .f32 ds) = _
    rw [cn_zero, ns.cn, nd.cn]
  -- the products
  have a2 := jmul_le a1 (show 0 ≤ fv .f32 sh by grind)
  have a3 := jmul_nn (show 0 ≤ fv .f32 sh by grind) a0
  obtain ⟨⟨q1, l4, u4⟩, s4, -⟩ := (wr_mul ns na).nr (A := 1) (by grind) (by grind) (by grind)
  replace s4 := s4 a3
  have b2 := jmul_le o1 (show 0 ≤ fv .f32 ds by grind)
  have b3 := jmul_nn (show 0 ≤ fv .f32 ds by grind) o0
  obtain ⟨⟨q2, l5, u5⟩, s5, -⟩ := (wr_mul nd no).nr (A := 1) (by grind) (by grind) (by grind)
  replace s5 := s5 b3
  generalize hp1 : fop .mul .f32 sh A = p1 at *
  generalize hp2 : fop .mul .f32 ds O = p2 at *
  obtain ⟨⟨q3, l6, u6⟩, -⟩ := (wr_add z1 q1).nr (A := 2) (by rw [z2]; grind) (by rw [z2]; grind) (by grind)
  rw [z2] at l6 u6
  generalize hm1 : fop .add .f32 0 p1 = m1 at *
  obtain ⟨⟨q4, l7, u7⟩, -⟩ := (wr_add q3 q2).nr (A := 4) (by grind) (by grind) (by grind)
  obtain ⟨⟨q5, l8, u8⟩, -⟩ := (wr_add q1 q2).nr (A := 4) (by grind) (by grind) (by grind)
  refine ⟨ds, _, _, p1, p2, m1, _, _, fd, nd, by grind, es, t2, fopV_of rfl t2 n1 t3, ?_, ?_, hp1 ▸ fopV_of rfl ns na (hp1 ▸ q1), hp2 ▸ fopV_of rfl nd no (hp2 ▸ q2), hm1 ▸ fopV_of rfl z1 q1 (hm1 ▸ q3), fopV_of rfl q3 q2 q4, q4, fopV_of rfl q1 q2 q5, q5, by grind, by grind⟩
  · rw [fcmp_cn, leq_val t3 c1]; exact decide_eq_true (by grind)
  · rw [fcmp_cn, geq_val t3 c4]; exact decide_eq_true (by grind)
/-! ### A mixture of one -/
theorem aloneP {A : Nat} (na : Num .f32 A) (a0 : 0 ≤ fv .f32 A) (a1 : fv .f32 A ≤ 1) : ∃ q l, FopV .mul .f32 1065353216 A q ∧ FopV .add .f32 0 q l ∧ Num .f32 l ∧ fcmp .neq .f32 (cn .f32 l) (cn .f32 A) = false := by
  obtain ⟨z1, z2⟩ := zeroF_val
  obtain ⟨n1, v1⟩ := oneB_val
  have n1 : Num .f32 1065353216 := n1
  have v1 : fv .f32 1065353216 = 1 := v1
  have hw := wr_mul n1 na
  rw [v1] at hw
  obtain ⟨nq, vq⟩ := wr_exact hw na (by grind) (by grind) (by grind)
  have hw2 := wr_add z1 nq
  rw [z2, vq] at hw2
  obtain ⟨nl, vl⟩ := wr_exact hw2 na (by grind) (by grind) (by grind)
  refine ⟨_, _, fopV_of rfl n1 na nq, fopV_of rfl z1 nq nl, nl, ?_⟩
  rw [fcmp_cn, neq_val nl na, vl]
  simp only [Bool.not_eq_false', decide_eq_true_eq]
  grind
theorem alone_consts : sumF (cn .f32 0) ([1065353216].map (cn .f32)) = 1065353216 ∧ opB .sub 1065353216 1065353216 0 = true ∧ fcmp .leq .f32 (cn .f32 0) (cn .f32 981668463) = true ∧ fcmp .geq .f32 (cn .f32 0) (cn .f32 3129152111) = true ∧ ([1065353216].map (cn .f32)).all leastB = true := by decide +kernel
theorem mix2_c {k k2 : Int} {y c y2 c2 t j A O ds s d p1 p2 m1 m2 : Nat} (l1 : LawB k y c) (l2 : LawB k2 y2 c2) (nt : Num .f32 t) (t0 : 0 ≤ fv .f32 t) (tb : t < 4294967296) (hj : j ≤ 15)
    (sA : SurvV k y c t A) (nA : Num .f32 A) (sO : SurvV k2 y2 c2 t O) (nO : Num .f32 O)
    (nd : Num .f32 ds) (d0 : 0 ≤ fv .f32 ds) (hs : sumF (cn .f32 0) ([shF j, ds].map (cn .f32)) = s) (ns : Num .f32 s) (fd : FopV .sub .f32 s 1065353216 d) (q1 : fcmp .leq .f32 (cn .f32 d) (cn .f32 981668463) = true) (q2 : fcmp .geq .f32 (cn .f32 d) (cn .f32 3129152111) = true)
    (f1 : FopV .mul .f32 (shF j) A p1) (f2 : FopV .mul .f32 ds O p2) (f3 : FopV .add .f32 0 p1 m1) (f4 : FopV .add .f32 m1 p2 m2) (nm : Num .f32 m2) (v u : Value) (w : World) (r : RdW w v [⟨k, y, c⟩, ⟨k2, y2, c2⟩]) (rb : RdF w u [shF j, ds]) :
    Calls Try.prog 14 #[v, u, .float .f32 t] w fun e w' => e = .returned (.tuple #[.float .f32 m2, .bool true]) ∧ Ext w w' := by
  obtain ⟨-, nsh, vs, -⟩ := shF_v (show j < 16 by omega)
  have jr : (0 : Rat) ≤ (j : Rat) := Rat.natCast_nonneg
  have hall : ([shF j, ds].map (cn .f32)).all leastB = true := by
    have e1 := leastB_of nsh (by rw [vs]; grind)
    have e2 := leastB_of nd d0
    simp only [List.map_cons, List.map_nil, List.all_cons, List.all_nil, e1, e2, Bool.and_self]
  have := mix_v (M := fun i => match i with | 0 => 0 | 1 => m1 | _ => m2) (S := fun i => match i with | 0 => A | _ => O) (Q := fun i => match i with | 0 => p1 | _ => p2) r rb
    (fun x hx => by
      rcases List.mem_cons.1 hx with rfl | hx
      · exact l1
      · obtain rfl := List.mem_singleton.1 hx; exact l2) (by simp) (by simp) hall nt t0 tb hs ns fd q1 q2 rfl
    (fun i hi => by
      match i, hi with
      | 0, _ => exact ⟨sA, nA⟩
      | 1, _ => exact ⟨sO, nO⟩)
    (fun i hi => by
      match i, hi with
      | 0, _ => exact f1
      | 1, _ => exact f2)
    (fun i hi => by
      match i, hi with
      | 0, _ => exact f3
      | 1, _ => exact f4) nm
  exact this
theorem mix1_c {k : Int} {y c t A q l : Nat} (l1 : LawB k y c) (nt : Num .f32 t) (t0 : 0 ≤ fv .f32 t) (tb : t < 4294967296)
    (sA : SurvV k y c t A) (nA : Num .f32 A) (f1 : FopV .mul .f32 1065353216 A q) (f3 : FopV .add .f32 0 q l) (nm : Num .f32 l) (v u : Value) (w : World) (r : RdW w v [⟨k, y, c⟩]) (rb : RdF w u [1065353216]) :
    Calls Try.prog 14 #[v, u, .float .f32 t] w fun e w' => e = .returned (.tuple #[.float .f32 l, .bool true]) ∧ Ext w w' := by
  obtain ⟨k1, k2, k3, k4, k5⟩ := alone_consts
  obtain ⟨n1, v1⟩ := oneB_val
  have := mix_v (M := fun i => match i with | 0 => 0 | _ => l) (S := fun _ => A) (Q := fun _ => q) r rb
    (fun x hx => by obtain rfl := List.mem_singleton.1 hx; exact l1) (by simp) (by simp) k5 nt t0 tb k1 n1 (opB_v k2).1 k3 k4 rfl
    (fun i hi => by
      match i, hi with
      | 0, _ => exact ⟨sA, nA⟩)
    (fun i hi => by
      match i, hi with
      | 0, _ => exact f1)
    (fun i hi => by
      match i, hi with
      | 0, _ => exact f3) nm
  exact this
/-! ### First causes -/
theorem OC_0 (m : Nat) : OC 0 m = 0 := rfl
theorem OC_s (i m : Nat) : OC (i + 1) m = fop .add .f32 (OC i m) (VC i m) := rfl
theorem OC_near {m : Nat} (hm : m < 2) : Num .f32 (OC 256 m) ∧ fv .f32 (OC 256 m) ≤ sumG 256 * (fv .f32 (gC m) / 16) + 256 / 600000 ∧ sumG 256 * (fv .f32 (gC m) / 16) ≤ fv .f32 (OC 256 m) + 256 / 600000 := by
  obtain ⟨a, -, b, c, -, -⟩ := OC_v hm 256 (Nat.le_refl _)
  exact ⟨a, b, c⟩
attribute [local irreducible] OC sumG
theorem slowB : LawB 0 1065353216 1082130432 := by
  obtain ⟨-, -, -, -, -, -, -, -, -, -, -, -, -, v4, v2, -⟩ := consts2
  obtain ⟨n1, v1⟩ := oneB_val
  obtain ⟨-, -, -, -, -, -, -, -, b1, b2, -⟩ := hC_all
  have v1 : fv .f32 1065353216 = 1 := v1
  exact lawB_any (k := 0) (by decide) n1 (by rw [v1]; decide +kernel) (by rw [v1]; decide +kernel) (num_of b1) (by rw [v4]; decide +kernel) (by rw [v4]; decide +kernel) (by decide) (by decide)
theorem fastB : LawB 0 1065353216 1073741824 := by
  obtain ⟨-, -, -, -, -, -, -, -, -, -, -, -, -, v4, v2, -⟩ := consts2
  obtain ⟨n1, v1⟩ := oneB_val
  obtain ⟨-, -, -, -, -, -, -, -, b1, b2, -⟩ := hC_all
  have v1 : fv .f32 1065353216 = 1 := v1
  exact lawB_any (k := 0) (by decide) n1 (by rw [v1]; decide +kernel) (by rw [v1]; decide +kernel) (num_of b2) (by rw [v2]; decide +kernel) (by rw [v2]; decide +kernel) (by decide) (by decide)
theorem SC_surv {i m : Nat} (hi : i < 256) (hm : m < 2) (y : Nat) : SurvV 0 y (cC m) (TC i) (SC i m) ∧ Num .f32 (SC i m) ∧ FopV .quo .f32 (TC i) (cC m) (fop .quo .f32 (TC i) (cC m)) ∧ Num .f32 (fop .quo .f32 (TC i) (cC m)) := by
  obtain ⟨-, -, -, -, -, -, v4, v5, b1, b2, -⟩ := hC_all
  have key : ∃ D, fv .f32 (cC m) * 32 = D ∧ Num .f32 (cC m) ∧ (64 : Rat) ≤ D ∧ D ≤ 128 := by
    rcases two_m hm with rfl | rfl
    · exact ⟨128, by show fv .f32 1082130432 * 32 = 128; rw [v4]; decide +kernel, num_of b1, by decide +kernel, by decide +kernel⟩
    · exact ⟨64, by show fv .f32 1073741824 * 32 = 64; rw [v5]; decide +kernel, num_of b2, by decide +kernel, by decide +kernel⟩
  obtain ⟨D, hD, nc, d1, d2⟩ := key
  obtain ⟨x, n, h1, h2, h3, h4, h5, h6, h7, -⟩ := SC_v hi hD nc d1 d2
  have hx : x = fop .quo .f32 (TC i) (cC m) := by
    have := h1.1
    unfold fop
    rw [this]; rfl
  refine ⟨⟨x, h1, h2, .inl ⟨rfl, n, h3, h4, h5, h6⟩⟩, h7, ?_, ?_⟩
  · rw [← hx]; exact h1
  · rw [← hx]; exact h2
theorem causes_v : CauseV [⟨0, 1065353216, 1082130432⟩, ⟨0, 1065353216, 1073741824⟩] 1098907648 hC 256 aF TC SC AC (fun _ m => gC m) UC VC OC := by
  obtain ⟨k1, k2, k3, -⟩ := hC_all
  have n8 : ∀ i, i < 256 → Num .f32 (TC i) ∧ 0 ≤ fv .f32 (TC i) := fun i hi => by
    obtain ⟨-, n, v⟩ := TC_v hi
    have : (0 : Rat) ≤ ((2 * i + 1 : Nat) : Rat) := Rat.natCast_nonneg
    exact ⟨n, by rw [v]; grind⟩
  refine ⟨(opB_v k1).1, fun i hi => (aF_v hi).1, fun i hi => (TC_v hi).1, n8, fun i hi m hm => ?_, fun i => rfl, fun i hi m hm => ?_, fun i hi m hm => ?_, fun i hi m hm => ?_, fun i hi m hm => ?_, fun m => ?_, fun i hi m hm => ?_, fun m hm => ?_⟩
  · match m, hm with
    | 0, _ => exact ⟨(SC_surv (m := 0) hi (by decide) _).1, (SC_surv (m := 0) hi (by decide) 0).2.1⟩
    | 1, _ => exact ⟨(SC_surv (m := 1) hi (by decide) _).1, (SC_surv (m := 1) hi (by decide) 0).2.1⟩
  · match m, hm with
    | 0, _ => exact (stepC hi).2.1
    | 1, _ => exact (stepC hi).2.2.2.1
  · match m, hm with
    | 0, _ => exact ⟨⟨_, (SC_surv (m := 0) hi (by decide) 0).2.2.1, (SC_surv (m := 0) hi (by decide) 0).2.2.2, .inl ⟨rfl, (opB_v k2).1⟩⟩, (opB_v k2).2⟩
    | 1, _ => exact ⟨⟨_, (SC_surv (m := 1) hi (by decide) 0).2.2.1, (SC_surv (m := 1) hi (by decide) 0).2.2.2, .inl ⟨rfl, (opB_v k3).1⟩⟩, (opB_v k3).2⟩
  · exact ((stepC hi).2.2.2.2 m hm).1
  · exact ((stepC hi).2.2.2.2 m hm).2.1
  · exact OC_0 m
  · have n1 := (OC_v hm i (by omega)).1
    have n2 := (OC_v hm (i + 1) (by omega)).1
    have nv := ((stepC hi).2.2.2.2 m hm).2.2.1
    rw [OC_s] at n2 ⊢
    exact fopV_of rfl n1 nv n2
  · exact (OC_v hm 256 (Nat.le_refl _)).1
theorem causes_rat {G x y c d : Rat} (g1 : 2129 / 100 ≤ G) (g2 : G ≤ 2141 / 100) (l1 : x ≤ G * (1 / 4 / 16) + 256 / 600000) (u1 : G * (1 / 4 / 16) ≤ x + 256 / 600000) (l2 : y ≤ G * (1 / 2 / 16) + 256 / 600000) (u2 : G * (1 / 2 / 16) ≤ y + 256 / 600000)
    (a1 : c ≤ 334 / 1000) (a2 : 333 / 1000 ≤ c) (b1 : d ≤ 667 / 1000) (b2 : 666 / 1000 ≤ d) : x - c ≤ 5 / 1000 ∧ c - x ≤ 5 / 1000 ∧ y - d ≤ 5 / 1000 ∧ d - y ≤ 5 / 1000 := by
  refine ⟨by grind, by grind, by grind, by grind⟩
theorem causes_end : fv .f32 (OC 256 0) - fv .f32 1051372203 ≤ 5 / 1000 ∧ fv .f32 1051372203 - fv .f32 (OC 256 0) ≤ 5 / 1000 ∧ fv .f32 (OC 256 1) - fv .f32 1059760811 ≤ 5 / 1000 ∧ fv .f32 1059760811 - fv .f32 (OC 256 1) ≤ 5 / 1000 ∧ Num .f32 (OC 256 0) ∧ Num .f32 (OC 256 1) ∧ Num .f32 1051372203 ∧ Num .f32 1059760811 := by
  obtain ⟨g1, g2⟩ := sumG_256
  obtain ⟨-, -, -, -, v2, v3, -⟩ := hC_all
  obtain ⟨-, -, -, -, -, -, -, n3, a1, a2, n4, b1, b2, -⟩ := consts2
  obtain ⟨m1, l1, u1⟩ := OC_near (m := 0) (by decide)
  obtain ⟨m2, l2, u2⟩ := OC_near (m := 1) (by decide)
  have e0 : fv .f32 (gC 0) = 1 / 4 := v2
  have e1 : fv .f32 (gC 1) = 1 / 2 := v3
  rw [e0] at l1 u1
  rw [e1] at l2 u2
  obtain ⟨p, q, r, t⟩ := causes_rat g1 g2 l1 u1 l2 u2 a1 a2 b1 b2
  exact ⟨p, q, r, t, m1, m2, num_of n3, num_of n4⟩
theorem cause_c (v : Value) (w : World) (r : RdW w v [⟨0, 1065353216, 1082130432⟩, ⟨0, 1065353216, 1073741824⟩]) :
    Calls Try.prog 15 #[v, .float .f32 1098907648, .int .i64 256] w fun e w' => ∃ u, e = .returned (.tuple #[u, .bool true]) ∧ RdF w' u [OC 256 0, OC 256 1] ∧ Ext w w' := by
  obtain ⟨-, -, -, -, -, -, -, -, -, -, -, -, -, -, -, v16, n16⟩ := consts2
  have := firstCause_v (n := 256) r (fun x hx => by
      rcases List.mem_cons.1 hx with rfl | hx
      · exact slowB
      · obtain rfl := List.mem_singleton.1 hx; exact fastB) (by simp) (num_of n16) (by rw [v16]; decide +kernel) (by decide) (by decide) (by decide) causes_v
  exact this
end Go.Proofs.Ytmcnfapdghoenaa
