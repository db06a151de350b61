
/- What tables of lives hold: survivors fall, hazards rise, times ascend, intervals count all. Plain. Condition: lives that are drawn, at most sixteen. -/
import Derived.Test.YtlbmjeennpccmaaUb
import Derived.Test.YtlbmjeennpccmaaSA
import Derived.Test.YtlbmjeennpccmaaLz
import Derived.Test.YtlbmjeennpccmaaTf
import Derived.Test.YtlbmjeennpccmaaRj
import Derived.Test.YtlbmjeennpccmaaTd
import Derived.Test.YtlbmjeennpccmaaQA
namespace Go.Proofs.Ytlbmjeennpccmaa
open Go Go.RowKit

attribute [local irreducible] tw
/-! ### Intervals -/
def vN (b : Nat) : Bool := match (FloatKind.f32).format.read b with
  | .number _ _ _ => true
  | _ => false
theorem vN_get {b : Nat} (h : vN b = true) : Num .f32 b := by
  unfold vN at h
  generalize hd : (FloatKind.f32).format.read b = d at h
  cases d with
  | number s m e => exact ⟨s, m, e, hd⟩
  | infinity s => cases h
  | nan s f => cases h
theorem low_all : ((List.range 6).all fun a => aboveB (cn .f32 (hT a)) && ((List.range 17).all fun i => vN (lowW (hT a) i) && fcmp .leq .f32 (lowW (hT a) i) (lowW (hT a) (i + 1))) && (List.range 24).all fun k => fcmp .geq .f32 (cn .f32 (hT k)) (lowW (hT a) 0)) = true := by decide +kernel
theorem low_ok {a : Nat} (ha : a < 6) : aboveB (cn .f32 (hT a)) = true ∧ (∀ i, i < 17 → Num .f32 (lowW (hT a) i) ∧ fcmp .leq .f32 (lowW (hT a) i) (lowW (hT a) (i + 1)) = true) ∧ ∀ k, k < 24 → fcmp .geq .f32 (cn .f32 (hT k)) (lowW (hT a) 0) = true := by
  have h := low_all
  rw [List.all_eq_true] at h
  have h1 := h a (List.mem_range.2 ha)
  rw [Bool.and_eq_true, Bool.and_eq_true, List.all_eq_true, List.all_eq_true] at h1
  refine ⟨h1.1.1, fun i hi => ?_, fun k hk => h1.2 k (List.mem_range.2 hk)⟩
  have h2 := h1.1.2 i (List.mem_range.2 hi)
  rw [Bool.and_eq_true] at h2
  exact ⟨vN_get h2.1, h2.2⟩
theorem ivR_zero {a : Nat} {ls : List Lf} (ha : a < 6) (hd : Drawn ls) : ivR (hT a) 0 ls = ls.length := by
  unfold ivR
  rw [List.countP_eq_length]
  intro x hx
  obtain ⟨k, hk, e⟩ := hd x hx
  unfold inI
  rw [e]
  exact (low_ok ha).2.2 k hk
theorem countP_split (p q : Lf → Bool) (ls : List Lf) : ls.countP p = (ls.countP fun x => p x && q x) + ls.countP fun x => p x && !q x := by
  induction ls with
  | nil => rfl
  | cons x l ih =>
    simp only [List.countP_cons, ih]
    cases p x <;> cases q x <;> simp <;> omega
theorem iv_next {a i : Nat} {ls : List Lf} (ha : a < 6) (hi : i < 15) (hd : Drawn ls) : ivR (hT a) i ls = ivF (hT a) i ls + ivL (hT a) i ls + ivR (hT a) (i + 1) ls := by
  unfold ivR ivF ivL
  have h1 := countP_split (inI (hT a) i) (beI (hT a) i) ls
  have h2 := countP_split (fun x => inI (hT a) i x && beI (hT a) i x) (fun x => x.2) ls
  have h3 : (ls.countP fun x => inI (hT a) i x && !beI (hT a) i x) = ls.countP (inI (hT a) (i + 1)) := by
    apply List.countP_congr
    intro x hx
    obtain ⟨hn, _, _⟩ := drawn_val hd x hx
    obtain ⟨n1, l1⟩ := (low_ok ha).2.1 i (by omega)
    obtain ⟨n2, _⟩ := (low_ok ha).2.1 (i + 1) (by omega)
    unfold inI beI
    rw [hn.cn, geq_val hn n1, lss_val hn n2, geq_val hn n2]
    rw [leq_val n1 n2, decide_eq_true_eq] at l1
    simp only [Bool.and_eq_true, decide_eq_true_eq, Bool.not_eq_true', decide_eq_false_iff_not]
    constructor
    · intro h; exact Rat.not_lt.1 h.2
    · intro h; exact ⟨Rat.le_trans l1 h, Rat.not_lt.2 h⟩
  have e1 : (ls.countP fun x => inI (hT a) i x && (beI (hT a) i x && x.2)) = ls.countP fun x => inI (hT a) i x && beI (hT a) i x && x.2 := by
    apply List.countP_congr; intro x _; simp [Bool.and_assoc]
  have e2 : (ls.countP fun x => inI (hT a) i x && (beI (hT a) i x && !x.2)) = ls.countP fun x => inI (hT a) i x && beI (hT a) i x && !x.2 := by
    apply List.countP_congr; intro x _; simp [Bool.and_assoc]
  rw [e1, e2, ← h3]
  omega
theorem ivK_get {w : Nat} {ls : List Lf} : ∀ {k i}, i < k → (ivK w ls k)[3 * i]? = some (ivR w i ls) ∧ (ivK w ls k)[3 * i + 1]? = some (ivF w i ls) ∧ (ivK w ls k)[3 * i + 2]? = some (ivL w i ls)
  | 0, i, h => absurd h (by omega)
  | k + 1, i, h => by
    have hl := ivK_len w ls k
    have e : ivK w ls (k + 1) = ivK w ls k ++ [ivR w k ls, ivF w k ls, ivL w k ls] := rfl
    rw [e]
    by_cases hk : i < k
    · obtain ⟨h1, h2, h3⟩ := ivK_get (w := w) (ls := ls) hk
      rw [List.getElem?_append_left (by omega), List.getElem?_append_left (by omega), List.getElem?_append_left (by omega)]
      exact ⟨h1, h2, h3⟩
    · have : i = k := by omega
      subst this
      rw [List.getElem?_append_right (by omega), List.getElem?_append_right (by omega), List.getElem?_append_right (by omega), hl]
      rw [show 3 * i - 3 * i = 0 by omega, show 3 * i + 1 - 3 * i = 1 by omega, show 3 * i + 2 - 3 * i = 2 by omega]
      exact ⟨rfl, rfl, rfl⟩

/-! ### Times -/
theorem timesK_strict {os : List Lf} (hs : Srt keyL os) : ∀ k, (timesK os k).Pairwise (· < ·)
  | 0 => by simp [timesK]
  | k + 1 => by
    have ih := timesK_strict hs k
    by_cases hk : k < os.length
    · rw [timesK_succ hk]
      unfold timeStep
      split
      · rename_i hx
        have hle : ∀ t ∈ timesK os k, t ≤ os[k].1 := by
          intro t ht
          have h1 := (timesK_sub os k).subset ht
          rw [List.mem_map] at h1
          obtain ⟨y, hy, rfl⟩ := h1
          obtain ⟨j, hj, rfl⟩ := List.getElem_of_mem hy
          rw [List.length_take] at hj
          rw [List.getElem_take]
          have := List.pairwise_iff_getElem.1 hs j k (by omega) hk (by omega)
          unfold keyL at this
          split at this <;> split at this <;> omega
        rw [List.pairwise_append]
        refine ⟨ih, by simp, fun t ht u hu => ?_⟩
        obtain rfl := List.mem_singleton.1 hu
        have h2 := hle t ht
        rcases Nat.lt_or_ge t os[k].1 with h3 | h3
        · exact h3
        · exfalso
          have hne : timesK os k ≠ [] := List.ne_nil_of_mem ht
          have hlast := hx.2.resolve_left hne
          have hpos : 0 < (timesK os k).length := List.length_pos_iff.2 hne
          have hg : (timesK os k).getD ((timesK os k).length - 1) 0 = (timesK os k)[(timesK os k).length - 1] := by
            rw [List.getD_eq_getElem?_getD, List.getElem?_eq_getElem (by omega)]; rfl
          rw [hg] at hlast
          have h4 := hle _ (List.getElem_mem (show (timesK os k).length - 1 < (timesK os k).length by omega))
          obtain ⟨j, hj, rfl⟩ := List.getElem_of_mem ht
          by_cases hjl : j = (timesK os k).length - 1
          · subst hjl; omega
          · have := List.pairwise_iff_getElem.1 ih j ((timesK os k).length - 1) hj (by omega) (by omega)
            omega
      · exact ih
    · have e : timesK os (k + 1) = timesK os k := by unfold timesK; rw [List.take_of_length_le (by omega), List.take_of_length_le (by omega)]
      rw [e]; exact ih
theorem timesL_strict (ls : List Lf) : (timesL ls).Pairwise (· < ·) := timesK_strict (ordL_srt ls) _
theorem times_lt {ls : List Lf} {i j : Nat} (hi : i < j) (hj : j < (timesL ls).length) : (timesL ls)[i]'(by omega) < (timesL ls)[j] :=
  List.pairwise_iff_getElem.1 (timesL_strict ls) i j (by omega) hj hi
theorem timesK_some {os : List Lf} : ∀ k, (∃ x ∈ os.take k, x.2 = true) → timesK os k ≠ []
  | 0, ⟨x, hx, _⟩ => by simp at hx
  | k + 1, ⟨x, hx, h⟩ => by
    by_cases hk : k < os.length
    · rw [timesK_succ hk]
      rw [List.take_add_one, List.getElem?_eq_getElem hk] at hx
      unfold timeStep
      split
      · simp
      · rename_i hn
        rcases List.mem_append.1 hx with hx | hx
        · exact timesK_some k ⟨x, hx, h⟩
        · have hxe : x = os[k] := by simpa using hx
          subst hxe
          intro h0
          exact hn ⟨h, .inl h0⟩
    · have e : timesK os (k + 1) = timesK os k := by unfold timesK; rw [List.take_of_length_le (by omega), List.take_of_length_le (by omega)]
      rw [e]
      rw [List.take_of_length_le (by omega)] at hx
      exact timesK_some k ⟨x, by rw [List.take_of_length_le (by omega)]; exact hx, h⟩
theorem times_none (ls : List Lf) : decide ((timesL ls).length = 0) = decide (cntF ls = 0) := by
  rw [decide_eq_decide]
  constructor
  · intro h
    rw [List.length_eq_zero_iff] at h
    unfold cntF
    rw [List.countP_eq_zero]
    intro x hx hxt
    have := timesK_some (os := ordL ls) ls.length ⟨x, by rw [← ordL_len, List.take_length]; exact (ordL_perm ls).mem_iff.2 hx, hxt⟩
    exact this h
  · intro h
    rw [List.length_eq_zero_iff]
    cases ht : timesL ls with
    | nil => rfl
    | cons t l =>
      obtain ⟨x, hx, h1, _⟩ := timesL_mem (ls := ls) (t := t) (by rw [ht]; simp)
      unfold cntF at h
      rw [List.countP_eq_zero] at h
      exact absurd h1 (h x hx)
theorem countP_less {p q : Lf → Bool} : ∀ {ls : List Lf}, (∀ x ∈ ls, p x = true → q x = true) → (∃ x ∈ ls, q x = true ∧ p x = false) → ls.countP p < ls.countP q
  | [], _, ⟨x, hx, _⟩ => by simp at hx
  | y :: l, h, ⟨x, hx, h1, h2⟩ => by
    have hle : l.countP p ≤ l.countP q := List.countP_mono_left fun z hz => h z (List.mem_cons_of_mem _ hz)
    rw [List.countP_cons, List.countP_cons]
    rcases List.mem_cons.1 hx with rfl | hx
    · rw [h1, h2]; simp; omega
    · have ih := countP_less (ls := l) (fun z hz => h z (List.mem_cons_of_mem _ hz)) ⟨x, hx, h1, h2⟩
      have hy := h y (by simp)
      cases hp : p y
      · simp; split <;> omega
      · rw [hy hp]; simp; omega
/-- Not all who are at risk fall before the last time. -/
theorem fell_less {ls : List Lf} {k : Nat} (hok : AllOk ls) (hk : k + 1 < (timesL ls).length) : cntB (fellB ((timesL ls)[k]'(by omega))) ls < cntB (riskB ((timesL ls)[k]'(by omega))) ls := by
  have hlt := times_lt (ls := ls) (i := k) (j := k + 1) (by omega) hk
  have hp1 := timesL_pos hok _ (List.getElem_mem (show k < (timesL ls).length by omega))
  obtain ⟨x, hx, h1, h2⟩ := timesL_mem (List.getElem_mem hk)
  have hpx : posW x.1 := hok x hx
  unfold cntB
  refine countP_less (fun y hy hf => ?_) ⟨x, hx, ?_, ?_⟩
  · unfold fellB at hf
    rw [Bool.and_eq_true] at hf
    have hpy : posW y.1 := hok y hy
    have hne := (pos_cmp hpy hp1).1
    have hee : fcmp .eql .f32 (cn .f32 y.1) (cn .f32 ((timesL ls)[k]'(by omega))) = !fcmp .neq .f32 (cn .f32 y.1) (cn .f32 ((timesL ls)[k]'(by omega))) := by unfold fcmp; simp [bne]
    rw [hee, hne] at hf
    have heq : y.1 = (timesL ls)[k]'(by omega) := by simpa using hf.2
    unfold riskB
    rw [heq, cn_pos hp1, geq_val hp1.numV hp1.numV, decide_eq_true_eq]
    exact Rat.le_refl
  · have hl := (pos_cmp hp1 hpx).2.1
    rw [decide_eq_true (by omega), cn_pos hp1, cn_pos hpx, lss_val hp1.numV hpx.numV, decide_eq_true_eq] at hl
    unfold riskB
    rw [cn_pos hp1, cn_pos hpx, geq_val hpx.numV hp1.numV, decide_eq_true_eq]
    exact Rat.le_of_lt hl
  · have hne := (pos_cmp hpx hp1).1
    have hee : fcmp .eql .f32 (cn .f32 x.1) (cn .f32 ((timesL ls)[k]'(by omega))) = !fcmp .neq .f32 (cn .f32 x.1) (cn .f32 ((timesL ls)[k]'(by omega))) := by unfold fcmp; simp [bne]
    unfold fellB
    rw [hee, hne, decide_eq_true (by omega)]
    simp
theorem posW.cn' {x : Nat} (h : posW x) : cn .f32 x = x := cn_pos h
end Go.Proofs.Ytlbmjeennpccmaa
/- Survivors fall, hazards rise, and what comes of it. Plain. Condition: lives that are drawn, at most sixteen. -/
namespace Go.Proofs.Ytlbmjeennpccmaa
open Go Go.RowKit

attribute [local irreducible] tw
def sQ (d r : Nat) : Nat := fop .quo .f32 (ofI (d : Int)) (ofI (r : Int))
def qOk (d r : Nat) : Bool := vN (fop .sub .f32 one1 (sQ d r)) && decide (0 ≤ vI (fop .sub .f32 one1 (sQ d r))) && decide (1000 * vI (fop .sub .f32 one1 (sQ d r)) ≤ 940 * 2 ^ 149) && (decide (r ≤ d) || decide (60 * 2 ^ 149 ≤ 1000 * vI (fop .sub .f32 one1 (sQ d r)))) &&
  vN (sQ d r) && decide (60 * 2 ^ 149 ≤ 1000 * vI (sQ d r)) && decide (1 * vI (sQ d r) ≤ 1 * 2 ^ 149)
theorem qOk_all : ((List.range 17).all fun r => (List.range (r + 1)).all fun d => d == 0 || qOk d r) = true := by decide +kernel
theorem q_near {d r : Nat} (h1 : 1 ≤ d) (hd : d ≤ r) (hr : r ≤ 16) : Num .f32 (fop .sub .f32 one1 (sQ d r)) ∧ 0 ≤ fv .f32 (fop .sub .f32 one1 (sQ d r)) ∧ fv .f32 (fop .sub .f32 one1 (sQ d r)) ≤ 94 / 100 ∧ (d < r → 6 / 100 ≤ fv .f32 (fop .sub .f32 one1 (sQ d r))) ∧
    Num .f32 (sQ d r) ∧ 6 / 100 ≤ fv .f32 (sQ d r) ∧ fv .f32 (sQ d r) ≤ 1 := by
  have h := qOk_all
  rw [List.all_eq_true] at h
  have h2 := h r (List.mem_range.2 (by omega))
  rw [List.all_eq_true] at h2
  have h3 := h2 d (List.mem_range.2 (by omega))
  rw [Bool.or_eq_true] at h3
  rcases h3 with h3 | h3
  · rw [beq_iff_eq] at h3; omega
  unfold qOk at h3
  simp only [Bool.and_eq_true, Bool.or_eq_true, decide_eq_true_eq] at h3
  obtain ⟨⟨⟨⟨⟨⟨a1, a2⟩, a3⟩, a4⟩, a5⟩, a6⟩, a7⟩ := h3
  have n1 := vN_get a1
  have n2 := vN_get a5
  have g2 := vI_ge n1 (p := 0) (q := 1) (by omega)
  have g3 := vI_le n1 (p := 940) (q := 1000) a3
  have g6 := vI_ge n2 (p := 60) (q := 1000) a6
  have g7 := vI_le n2 (p := 1) (q := 1) a7
  have k1 : ((0 : Int) : Rat) = 0 := rfl
  have k2 : ((1 : Int) : Rat) = 1 := rfl
  have k3 : ((940 : Int) : Rat) = 940 := rfl
  have k4 : ((60 : Int) : Rat) = 60 := rfl
  have k5 : ((1000 : Int) : Rat) = 1000 := rfl
  rw [k1, k2] at g2
  rw [k3, k5] at g3
  rw [k4, k5] at g6
  rw [k2] at g7
  refine ⟨n1, by grind, by grind, fun hlt => ?_, n2, by grind, by grind⟩
  have g4 := vI_ge n1 (p := 60) (q := 1000) (a4.resolve_left (by omega))
  rw [k4, k5] at g4
  grind
theorem e32s : eta .f32 ≤ 1 / 10000000000000000000000000000000000000000 := by
  have h1 : eta .f32 ≤ tw (-140) := tw_mono (by decide +kernel)
  have h2 := tw_neg 140
  have h3 : tw (-((140 : Nat) : Int)) = tw (-140) := rfl
  rw [h3] at h2
  have h4 : ((2 ^ 140 : Nat) : Rat) = 1393796574908163946345982392040522594123776 := rfl
  rw [h4] at h2
  grind
/-- The least that survivors come to. -/
def lbS : Nat → Rat
  | 0 => 1
  | k + 1 => lbS k * (1 / 20)
theorem lbS_pos : ∀ k, k ≤ 16 → 1 / 1000000000000000000000 ≤ lbS k := by
  intro k hk
  have h : ∀ k, k < 17 → decide (1 / 1000000000000000000000 ≤ lbS k) = true := by
    have h : ((List.range 17).all fun k => decide (1 / 1000000000000000000000 ≤ lbS k)) = true := by decide +kernel
    rw [List.all_eq_true] at h
    exact fun k hk => h k (List.mem_range.2 hk)
  exact of_decide_eq_true (h k (by omega))
def sK (ls : List Lf) (k : Nat) : Nat := accK (survF ls) one1 (timesL ls) k
def hK (ls : List Lf) (k : Nat) : Nat := accK (hazF ls) (cn .f32 0) (timesL ls) k
theorem one1_val : Num .f32 one1 ∧ fv .f32 one1 = 1 := by
  have h : (FloatKind.f32).format.read one1 = .number false 8388608 (-23) := by decide +kernel
  refine ⟨⟨_, _, _, h⟩, ?_⟩
  rw [fv_eq h]
  have h1 := tw_neg 23
  have h2 : tw (-((23 : Nat) : Int)) = tw (-23) := rfl
  have h3 : ((2 ^ 23 : Nat) : Rat) = 8388608 := rfl
  have h4 : ((8388608 : Nat) : Rat) = 8388608 := rfl
  rw [h2, h3] at h1
  simp only [Bool.false_eq_true, if_false, h4]
  grind
theorem mul_fall {s q S' u t lb : Rat} (hs1 : lb ≤ s) (hlb : 1 / 1000000000000000000000 ≤ lb) (hs2 : s ≤ 1) (q0 : 0 ≤ q) (q1 : q ≤ 94 / 100) (hu0 : 0 < u) (hu : u ≤ 1 / 16000000) (ht : t ≤ 1 / 10000000000000000000000000000000000000000)
    (h1 : S' ≤ s * q + (u * (s * q) + t)) (h2 : s * q ≤ S' + (u * (s * q) + t)) : S' < s ∧ (6 / 100 ≤ q → lb * (1 / 20) ≤ S') := by
  have hs0 : 0 ≤ s := by grind
  have hy0 : 0 ≤ s * q := Rat.mul_nonneg hs0 q0
  have hy1 := Rat.mul_le_mul_of_nonneg_left q1 hs0
  have hup := Rat.mul_le_mul_of_nonneg_right hu hy0
  refine ⟨?_, fun hq => ?_⟩
  · generalize s * q = y at *
    generalize u * y = z at *
    grind
  · have hy2 := Rat.mul_le_mul_of_nonneg_left hq hs0
    generalize s * q = y at *
    generalize u * y = z at *
    grind
theorem sK_all {ls : List Lf} (hd : Drawn ls) (hl : ls.length ≤ 16) : ∀ k, k ≤ (timesL ls).length → Num .f32 (sK ls k) ∧ 0 ≤ fv .f32 (sK ls k) ∧ fv .f32 (sK ls k) ≤ 1 ∧ (k < (timesL ls).length → lbS k ≤ fv .f32 (sK ls k)) ∧ (∀ j, j + 1 = k → fv .f32 (sK ls k) < fv .f32 (sK ls j))
  | 0, _ => by
    obtain ⟨n, v⟩ := one1_val
    have e : sK ls 0 = one1 := rfl
    rw [e, v]
    refine ⟨n, by grind, by grind, fun _ => ?_, fun j hj => by omega⟩
    have : lbS 0 = 1 := rfl
    rw [this]; grind
  | k + 1, hk => by
    obtain ⟨n, s0, s1, slb, _⟩ := sK_all hd hl k (by omega)
    have hlb := slb (by omega)
    have hlen := timesL_len ls
    have hok := hd.ok
    have hd1 := fell_pos hok (List.getElem_mem (show k < (timesL ls).length by omega))
    have hdr := fell_risk ((timesL ls)[k]'(by omega)) ls
    have hr := cntB_len (riskB ((timesL ls)[k]'(by omega))) ls
    have hs : sK ls (k + 1) = fop .mul .f32 (sK ls k) (fop .sub .f32 one1 (sQ (cntB (fellB ((timesL ls)[k]'(by omega))) ls) (cntB (riskB ((timesL ls)[k]'(by omega))) ls))) := accK_succ (by omega)
    have hless : k + 1 < (timesL ls).length → cntB (fellB ((timesL ls)[k]'(by omega))) ls < cntB (riskB ((timesL ls)[k]'(by omega))) ls := fun h => fell_less hok h
    obtain ⟨q1, q2, q3, q4, _⟩ := q_near hd1 hdr (by omega)
    have hlb2 := lbS_pos k (by omega)
    obtain ⟨hu0, hu⟩ := uB .f32
    have ht := e32s
    obtain ⟨ht0, _⟩ := eB .f32
    have h100 := tw100
    generalize fop .sub .f32 one1 (sQ (cntB (fellB ((timesL ls)[k]'(by omega))) ls) (cntB (riskB ((timesL ls)[k]'(by omega))) ls)) = q at *
    have hy0 : 0 ≤ fv .f32 (sK ls k) * fv .f32 q := Rat.mul_nonneg s0 q2
    have hy1 : fv .f32 (sK ls k) * fv .f32 q ≤ 1 := by
      have := Rat.mul_le_mul_of_nonneg_left q3 s0
      grind
    obtain ⟨⟨m1, m2, m3⟩, g1, _⟩ := mul_near (A := fv .f32 (sK ls k) * fv .f32 q) n q1 Rat.le_refl (by grind) (by grind)
    rw [hs]
    obtain ⟨f1, f2⟩ := mul_fall hlb hlb2 s1 q2 q3 hu0 hu ht m2 m3
    refine ⟨m1, g1 hy0, by grind, fun h => ?_, fun j hj => ?_⟩
    · exact f2 (q4 (hless h))
    · obtain rfl : j = k := by omega
      exact f1
theorem hK_all {ls : List Lf} (hd : Drawn ls) (hl : ls.length ≤ 16) : ∀ k, k ≤ (timesL ls).length → Num .f32 (hK ls k) ∧ 0 ≤ fv .f32 (hK ls k) ∧ fv .f32 (hK ls k) ≤ 2 * (k : Rat) ∧ (∀ j, j + 1 = k → fv .f32 (hK ls j) < fv .f32 (hK ls k))
  | 0, _ => by
    obtain ⟨n, v⟩ := zero_val
    have e : hK ls 0 = cn .f32 0 := rfl
    have k0 : ((0 : Nat) : Rat) = 0 := rfl
    rw [e, v, k0]
    exact ⟨n, by grind, by grind, fun j hj => by omega⟩
  | k + 1, hk => by
    obtain ⟨n, s0, s1, _⟩ := hK_all hd hl k (by omega)
    have hlen := timesL_len ls
    have hok := hd.ok
    have hd1 := fell_pos hok (List.getElem_mem (show k < (timesL ls).length by omega))
    have hdr := fell_risk ((timesL ls)[k]'(by omega)) ls
    have hr := cntB_len (riskB ((timesL ls)[k]'(by omega))) ls
    have hs : hK ls (k + 1) = fop .add .f32 (hK ls k) (sQ (cntB (fellB ((timesL ls)[k]'(by omega))) ls) (cntB (riskB ((timesL ls)[k]'(by omega))) ls)) := accK_succ (by omega)
    obtain ⟨_, _, _, _, q1, q2, q3⟩ := q_near hd1 hdr (by omega)
    obtain ⟨hu0, hu⟩ := uB .f32
    obtain ⟨ht0, ht⟩ := eB .f32
    have h100 := tw100
    have hk16 : k ≤ 16 := by omega
    have hkr : (k : Rat) ≤ 16 := by exact_mod_cast hk16
    have ek : ((k + 1 : Nat) : Rat) = (k : Rat) + 1 := Rat.natCast_add k 1
    generalize sQ (cntB (fellB ((timesL ls)[k]'(by omega))) ls) (cntB (riskB ((timesL ls)[k]'(by omega))) ls) = q at *
    obtain ⟨⟨m1, m2, m3⟩, g1, _⟩ := add_near (A := 40) n q1 (by grind) (by grind) (by grind)
    rw [hs, ek]
    refine ⟨m1, g1 (by grind), by grind, fun j hj => ?_⟩
    obtain rfl : j = k := by omega
    grind
theorem sK_mono {ls : List Lf} (hd : Drawn ls) (hl : ls.length ≤ 16) : ∀ i d, i + d ≤ (timesL ls).length → fv .f32 (sK ls (i + d)) ≤ fv .f32 (sK ls i)
  | i, 0, _ => Rat.le_refl
  | i, d + 1, h => by
    have h1 := sK_mono hd hl i d (by omega)
    have h2 := (sK_all hd hl (i + d + 1) (by omega)).2.2.2.2 (i + d) rfl
    exact Rat.le_trans (Rat.le_of_lt h2) h1
theorem survL_get {ls : List Lf} {k : Nat} (h : k < (timesL ls).length) : (survL ls).getD k 0 = sK ls (k + 1) := by
  unfold survL scanK sK
  simp [List.getD_eq_getElem?_getD, h]
theorem hazL_get {ls : List Lf} {k : Nat} (h : k < (timesL ls).length) : (hazL ls).getD k 0 = hK ls (k + 1) := by
  unfold hazL scanK hK
  simp [List.getD_eq_getElem?_getD, h]
theorem hazL_len (ls : List Lf) : (hazL ls).length = (timesL ls).length := by unfold hazL; rw [scanK_len]

/-! ### The same of ordered lives -/
theorem ord_ord (ls : List Lf) : ordL (ordL ls) = ordL ls := (ordL_eq (List.Perm.refl _) (ordL_srt ls)).symm.trans rfl |> fun h => by
  have := ordL_eq (W := ordL ls) (ls := ordL ls) (List.Perm.refl _) (ordL_srt ls)
  exact this.symm
theorem times_ord (ls : List Lf) : timesL (ordL ls) = timesL ls := by unfold timesL; rw [ord_ord, ordL_len]
theorem cnt_ord (p : Lf → Bool) (ls : List Lf) : cntB p (ordL ls) = cntB p ls := by unfold cntB; exact (ordL_perm ls).countP_eq p
theorem surv_ord (ls : List Lf) : survL (ordL ls) = survL ls := by
  unfold survL
  rw [times_ord]
  have : survF (ordL ls) = survF ls := by
    funext s t
    unfold survF quotL
    rw [cnt_ord, cnt_ord]
  rw [this]
theorem Drawn.ord {ls : List Lf} (h : Drawn ls) : Drawn (ordL ls) := fun x hx => h x ((ordL_perm ls).mem_iff.1 hx)
theorem ord_asc {ls : List Lf} {i j : Nat} (hi : i < j) (hj : j < (ordL ls).length) : ((ordL ls)[i]'(by omega)).1 ≤ ((ordL ls)[j]).1 ∧ (((ordL ls)[i]'(by omega)).1 = ((ordL ls)[j]).1 → ((ordL ls)[j]).2 = true → ((ordL ls)[i]'(by omega)).2 = true) := by
  have h := List.pairwise_iff_getElem.1 (ordL_srt ls) i j (by omega) hj hi
  unfold keyL at h
  constructor
  · split at h <;> split at h <;> omega
  · intro h1 h2
    rw [h2] at h
    cases h3 : ((ordL ls)[i]'(by omega)).2
    · rw [h3] at h; simp at h; omega
    · rfl

/-! ### The middle, and how many survive a time -/
def halfB : Nat := cn .f32 1056964608
theorem half_val : Num .f32 halfB ∧ fv .f32 halfB = 1 / 2 := by
  have h : (FloatKind.f32).format.read halfB = .number false 8388608 (-24) := by decide +kernel
  refine ⟨⟨_, _, _, h⟩, ?_⟩
  rw [fv_eq h]
  have h1 := tw_neg 24
  have h2 : tw (-((24 : Nat) : Int)) = tw (-24) := rfl
  have h3 : ((2 ^ 24 : Nat) : Rat) = 16777216 := rfl
  have h4 : ((8388608 : Nat) : Rat) = 8388608 := rfl
  rw [h2, h3] at h1
  simp only [Bool.false_eq_true, if_false, h4]
  grind
theorem mid_at {ls : List Lf} (hd : Drawn ls) (hl : ls.length ≤ 16) (hv : livesB ls = true) {i : Nat} (hi : i < (timesL ls).length) (h1 : fcmp .leq .f32 (sK ls (i + 1)) halfB = true) (h2 : fcmp .gtr .f32 (sK ls i) halfB = true) : midO ls = some ((timesL ls).getD i 0) := by
  obtain ⟨nh, vh⟩ := half_val
  have hf : (survL ls).findIdx? midB = some i := by
    rw [List.findIdx?_eq_some_iff_getElem]
    have hlen := survL_len ls
    refine ⟨by omega, ?_, fun j hj => ?_⟩
    · have := survL_get hi
      rw [List.getD_eq_getElem?_getD, List.getElem?_eq_getElem (by omega)] at this
      have e : (survL ls)[i] = sK ls (i + 1) := this
      rw [e]; exact h1
    · have hjt : j < (timesL ls).length := by omega
      have := survL_get hjt
      rw [List.getD_eq_getElem?_getD, List.getElem?_eq_getElem (by omega)] at this
      have e : (survL ls)[j] = sK ls (j + 1) := this
      rw [e]
      have hm := sK_mono hd hl (j + 1) (i - (j + 1)) (by omega)
      rw [show j + 1 + (i - (j + 1)) = i by omega] at hm
      have ni := (sK_all hd hl i (by omega)).1
      have nj := (sK_all hd hl (j + 1) (by omega)).1
      rw [gtrF_val ni nh, decide_eq_true_eq] at h2
      show ¬ (fcmp .leq .f32 (sK ls (j + 1)) halfB) = true
      rw [leq_val nj nh, decide_eq_true_eq]
      intro h3
      grind
  unfold midO
  rw [hv, hf]; rfl
theorem mid_some {ls : List Lf} (hd : Drawn ls) (hl : ls.length ≤ 16) (hv : livesB ls = true) : (midO ls).isSome = fcmp .leq .f32 (sK ls (timesL ls).length) halfB := by
  obtain ⟨nh, vh⟩ := half_val
  have nT := (sK_all hd hl (timesL ls).length (Nat.le_refl _)).1
  have hlen := survL_len ls
  unfold midO
  rw [hv, leq_val nT nh]
  simp only [if_true, Option.isSome_map]
  rw [Bool.eq_iff_iff, decide_eq_true_eq, List.findIdx?_isSome, List.any_eq_true]
  have get : ∀ j (hj : j < (timesL ls).length), (survL ls)[j]'(by omega) = sK ls (j + 1) := fun j hj => by
    have := survL_get hj
    rw [List.getD_eq_getElem?_getD, List.getElem?_eq_getElem (by omega)] at this
    exact this
  constructor
  · rintro ⟨x, hx, hm⟩
    obtain ⟨j, hj, rfl⟩ := List.getElem_of_mem hx
    have hjt : j < (timesL ls).length := by omega
    rw [get j hjt] at hm
    have nj := (sK_all hd hl (j + 1) (by omega)).1
    have hm' : fcmp .leq .f32 (sK ls (j + 1)) halfB = true := hm
    rw [leq_val nj nh, decide_eq_true_eq] at hm'
    have hmo := sK_mono hd hl (j + 1) ((timesL ls).length - (j + 1)) (by omega)
    rw [show j + 1 + ((timesL ls).length - (j + 1)) = (timesL ls).length by omega] at hmo
    exact Rat.le_trans hmo hm'
  · intro h
    by_cases h0 : (timesL ls).length = 0
    · rw [h0] at h
      have e : sK ls 0 = one1 := rfl
      rw [e, one1_val.2, vh] at h
      exact absurd h (by decide +kernel)
    · refine ⟨(survL ls)[(timesL ls).length - 1]'(by omega), List.getElem_mem _, ?_⟩
      rw [get _ (by omega), show (timesL ls).length - 1 + 1 = (timesL ls).length by omega]
      show fcmp .leq .f32 (sK ls (timesL ls).length) halfB = true
      rw [leq_val nT nh, decide_eq_true_eq]; exact h
theorem sur_at {ls : List Lf} (hd : Drawn ls) (hv : livesB ls = true) {i : Nat} (hi : i < (timesL ls).length) : surO ls (cn .f32 (timesL ls)[i]) = some (sK ls (i + 1)) := by
  have hok := hd.ok
  have hp := timesL_pos hok _ (List.getElem_mem hi)
  have hlt32 : (timesL ls)[i] < 4294967296 := by have := hp.2; omega
  have hle : leastB (cn .f32 (timesL ls)[i]) = true := by
    unfold leastB
    rw [cn_pos hp, num_fin hp.numV, Bool.true_and]
    have z := zero_val
    rw [geq_val hp.numV z.1, z.2, decide_eq_true_eq]
    obtain ⟨m, j, hr, _⟩ := read_pos hp
    rw [fv_eq (show (FloatKind.f32).format.read (timesL ls)[i] = .number false m j from hr)]
    simp only [Bool.false_eq_true, if_false]
    exact Rat.mul_nonneg Rat.natCast_nonneg (Rat.le_of_lt (tw_pos j))
  have hs : surT ls (cn .f32 (timesL ls)[i]) (i + 1) = sK ls (i + 1) := by
    rw [surT_succ, ← survL_get hi]
    have hg : (timesL ls).getD i 0 = (timesL ls)[i] := by simp [hi]
    rw [hg, pos_leq hp hp, decide_eq_true (Nat.le_refl _)]; rfl
  unfold surO
  rw [hv, hle]
  simp only [Bool.and_self, if_true]
  congr 1
  by_cases hlast : i + 1 = (timesL ls).length
  · rw [← hlast]; exact hs
  · have hi1 : i + 1 < (timesL ls).length := by omega
    have hp1 := timesL_pos hok _ (List.getElem_mem hi1)
    have hn : fcmp .leq .f32 (cn .f32 (timesL ls)[i + 1]) (cn .f32 (timesL ls)[i]) = false := by
      rw [pos_leq hp1 hp, decide_eq_false_iff_not]
      have := times_lt (ls := ls) (i := i) (j := i + 1) (by omega) hi1
      omega
    rw [surT_stop hok hlt32 hle hi1 hn _ (by omega) (Nat.le_refl _)]
    exact hs
theorem sur_zero {ls : List Lf} (hd : Drawn ls) (hv : livesB ls = true) : surO ls (cn .f32 0) = some one1 := by
  have hok := hd.ok
  have hle : leastB (cn .f32 0) = true := by decide +kernel
  unfold surO
  rw [hv, hle]
  simp only [Bool.and_self, if_true]
  congr 1
  by_cases h0 : (timesL ls).length = 0
  · rw [h0]; rfl
  · have hp := timesL_pos hok _ (List.getElem_mem (show 0 < (timesL ls).length by omega))
    have hn : fcmp .leq .f32 (cn .f32 ((timesL ls)[0]'(by omega))) (cn .f32 0) = false := by
      rcases least_pos (t := 0) (by decide) hle with h | h
      · exact absurd h.1 (by decide)
      · exact h _ hp
    rw [surT_stop hok (by decide) hle (by omega) hn _ (by omega) (Nat.le_refl _)]
    rfl
end Go.Proofs.Ytlbmjeennpccmaa
/- FnTables returns true for every input and changes nothing that was there. No condition. -/
namespace Go.Proofs.Ytlbmjeennpccmaa
open Go Go.RowKit Go.ChangeShapes Go.WideShapes Go.ChangeAt

attribute [local irreducible] LX tw
theorem bp_val {k : FloatKind} {b : Nat} {c : Int} (h : Bp k b c) : Num k b ∧ 0 ≤ fv k b ∧ fv k b ≤ tw c := by
  obtain ⟨s, m, e, hr, hl, hs⟩ := h
  have hx := mag_nonneg m e
  have hc := tw_pos c
  have hle : (m : Rat) * tw e ≤ tw c := by
    rcases hl with h0 | ⟨h1, h2⟩
    · subst h0
      have : ((0 : Nat) : Rat) * tw e = 0 := Rat.zero_mul _
      rw [this]; exact Rat.le_of_lt hc
    · rw [tw_split h1]
      have : (m : Rat) ≤ ((2 ^ (c - e).toNat : Nat) : Rat) := by exact_mod_cast h2
      exact Rat.mul_le_mul_of_nonneg_right this (Rat.le_of_lt (tw_pos e))
  have hv : fv k b = (m : Rat) * tw e := by
    rw [fv_eq hr]
    rcases hs with h0 | h0
    · subst h0
      cases s
      · rfl
      · simp only [if_true]
        show -((0 : Nat) : Rat) * tw e = ((0 : Nat) : Rat) * tw e
        rw [Rat.neg_mul]
        have : ((0 : Nat) : Rat) * tw e = 0 := Rat.zero_mul _
        rw [this]; rfl
    · rw [h0]; rfl
  rw [hv]
  exact ⟨⟨s, m, e, hr⟩, hx, hle⟩
theorem spreads_fin {ls : List Lf} (hd : Drawn ls) (hl : ls.length ≤ 16) : finAll (spL ls (spK ls)) = true := by
  unfold finAll
  rw [List.all_eq_true]
  intro x hx
  unfold spL at hx
  rw [List.mem_map] at hx
  obtain ⟨k, hk, rfl⟩ := hx
  have hk := List.mem_range.1 hk
  have hkT := spK_le ls
  have hB := spS_48 (ls := ls) (by omega) (show k + 1 ≤ spK ls by omega)
  have hR := (narrow_bp (rootW_eq hB).2 (inF32 (by decide) (by decide))).1
  obtain ⟨n1, r0, r1⟩ := bp_val hR
  obtain ⟨n2, s0, s1, _⟩ := sK_all hd hl (k + 1) (by omega)
  unfold spX
  rw [survL_get (by omega)]
  have e : rootF (spS ls (k + 1)) = narrowF (rootW (spS ls (k + 1))) := rfl
  rw [e]
  have h48 : tw 48 ≤ tw 60 := tw_mono (by decide)
  have h60 : tw 60 ≤ tw 100 := tw_mono (by decide)
  have hp0 := Rat.mul_nonneg s0 r0
  have hp1 := Rat.mul_le_mul_of_nonneg_right s1 r0
  obtain ⟨⟨n, _, _⟩, _⟩ := mul_near (A := tw 60) n2 n1 (by grind) (by have := tw_pos 60; grind) h60
  exact num_fin n
theorem spreads_len {ls : List Lf} (hd : Drawn ls) : spK ls ≤ (timesL ls).length ∧ (timesL ls).length ≤ spK ls + 1 := by
  refine ⟨spK_le ls, ?_⟩
  have h : ∀ k, k + 1 ≤ (timesL ls).length → k ≤ spK ls
    | 0, _ => Nat.zero_le _
    | k + 1, hk => by
      have hless := fell_less hd.ok (k := k) hk
      have h1 : ∀ k', k' + 1 ≤ (timesL ls).length → k' ≤ spK ls → k' + 1 < (timesL ls).length → k' + 1 ≤ spK ls := fun k' h1 h2 h3 => by
        have hl := fell_less hd.ok (k := k') h3
        refine spK_yes h2 (by omega) ?_
        unfold spB
        rw [decide_eq_false (by omega)]; rfl
      have key : ∀ j, j ≤ k + 1 → j ≤ spK ls := by
        intro j
        induction j with
        | zero => intro _; exact Nat.zero_le _
        | succ j ih => intro hj; exact h1 j (by omega) (ih (by omega)) (by omega)
      exact key (k + 1) (Nat.le_refl _)
  by_cases h0 : (timesL ls).length = 0
  · omega
  · have := h ((timesL ls).length - 1) (by omega)
    omega
theorem spreads_some {ls : List Lf} (hd : Drawn ls) (hl : ls.length ≤ 16) (hv : livesB ls = true) : spO ls = some (spL ls (spK ls)) := by
  unfold spO; rw [hv, spreads_fin hd hl]; rfl
/-- A list of numbers by its cells. -/
def CellF (w : World) (g : Nat) (xs : List Nat) : Prop := g < w.heap.size ∧ ∃ os : List Nat, os.map (cn .f32) = xs ∧ ∀ k (h : k < os.length), w.cell? ⟨g, k, none⟩ = some (.float .f32 os[k]) ∧ os[k] < 4294967296
end Go.Proofs.Ytlbmjeennpccmaa
/- The sum of ordered times and the time of the test lie near by each other. No condition. -/
namespace Go.Proofs.Ytlbmjeennpccmaa
open Go Go.RowKit Go.ChangeShapes Go.WideShapes Go.ChangeAt

attribute [local irreducible] LX tw
theorem tw_at (n : Nat) {G : Rat} (hG : ((2 ^ n : Nat) : Rat) = G) : tw (-(n : Int)) * G = 1 := by rw [← hG]; exact tw_neg n
theorem c01_val : Num .f64 4576918229304087675 ∧ 99999 / 10000000 ≤ fv .f64 4576918229304087675 ∧ fv .f64 4576918229304087675 ≤ 1 / 50 := by
  have h : (FloatKind.f64).format.read 4576918229304087675 = .number false 5764607523034235 (-59) := by decide +kernel
  refine ⟨⟨_, _, _, h⟩, ?_⟩
  rw [fv_eq h]
  have h1 : tw (-59) * 576460752303423488 = 1 := tw_at 59 rfl
  have h2 : ((5764607523034235 : Nat) : Rat) = 5764607523034235 := rfl
  simp only [Bool.false_eq_true, if_false, h2]
  constructor <;> grind
/-- The gap of two numbers, not above D. -/
theorem r8Gap_num (x y : Nat) (D : Rat) (w : World) (hx : Num .f32 x) (hy : Num .f32 y) (h1 : fv .f32 x - fv .f32 y ≤ D) (h2 : fv .f32 y - fv .f32 x ≤ D) (hD : D ≤ 1000000000) :
    Calls Try.prog 24 #[.float .f32 x, .float .f32 y] w fun e w' => ∃ z, e = .returned (.float .f64 z) ∧ (Num .f64 z ∧ fv .f64 z ≤ D + 1 / 1000000) ∧ Ext w w' := by
  obtain ⟨u1, v1⟩ := wide_val hx
  obtain ⟨u2, v2⟩ := wide_val hy
  obtain ⟨hu0, hu⟩ := u64
  obtain ⟨he0, he⟩ := e64
  have h100 := tw100
  obtain ⟨⟨m1, p1, q1⟩, -⟩ := (wr_sub u1 u2).nr (A := 1000000000) (by rw [v1, v2]; grind) (by rw [v1, v2]; grind) (by grind)
  obtain ⟨⟨m2, p2, q2⟩, -⟩ := (wr_sub u2 u1).nr (A := 1000000000) (by rw [v1, v2]; grind) (by rw [v1, v2]; grind) (by grind)
  have b1 : fv .f64 (fop .sub .f64 (wide x) (wide y)) ≤ D + 1 / 1000000 := by rw [v1, v2] at p1; grind
  have b2 : fv .f64 (fop .sub .f64 (wide y) (wide x)) ≤ D + 1 / 1000000 := by rw [v1, v2] at p2; grind
  have B1 := Lib.hid b1
  have B2 := Lib.hid b2
  have M1 := Lib.hid m1
  have M2 := Lib.hid m2
  have C1 : Hid (cn .f32 x = x) := hx.cn
  have C2 : Hid (cn .f32 y = y) := hy.cn
  have W1 := Lib.hid u1
  have W2 := Lib.hid u2
  clear p1 q1 p2 q2 b1 b2 m1 m2 h100 hu hu0 he he0 h1 h2 hD u1 u2 v1 v2
  have wa : (Try.prog.underlying 24).isSome = true := by kernel_rfl
  go_enter Try.func24, Try.ntmps24
  go_wp2_with (first | (refine wpList_fop rfl rfl rfl rfl rfl ?_; intro fb nf hfb hfl; replace hfb := Lib.hid hfb; replace hfl := Lib.hid hfl) | (refine wpList_wide wa Try.underlying30 rfl rfl rfl ?_; intro zb zn hzb hzl; clear hzl; replace hzb := Lib.hid hzb))
  rename_i z1 n1 e1 z2 n2 e2 f1 m1 k1 l1 z3 n3 e3 x1 x2
  have a1 : f1 = fop .sub .f64 (wide x) (wide y) := bits_of (by rw [k1.out, e1.out, e2.out, C1.out, C2.out]) M1.out.notN
  have a2 : fb = fop .sub .f64 (wide y) (wide x) := bits_of (by rw [hfb.out, e3.out, hzb.out, C1.out, C2.out]) M2.out.notN
  clear k1 hfb
  subst a1
  subst a2
  obtain ⟨r, hr, he⟩ := max_float #[30, 30] 30 M1.out.notN M2.out.notN
  rw [he]
  replace hr := Lib.hid hr
  clear he
  simp [go_sem, Oper.upon, Result.andThen]
  go_wp2_with fail
  go_ret
  refine ⟨r, rfl, ?_, Ext.drewN _ _⟩
  rcases hr.out with h | h
  · rw [h]; exact ⟨M1.out, B1.out⟩
  · rw [h]; exact ⟨M2.out, B2.out⟩
theorem tab_gap {ls : List Lf} {b tb m : Nat} (hd : Drawn ls) (hl : ls.length ≤ 16) (hm : ls.length = m) (HB : SumT .f64 (ordL ls) m b) (HT : SumT .f32 ls ls.length tb) :
    floatToFloatBits .f64 b .f32 = some (narrowF b) ∧ ∀ W, Calls Try.prog 24 #[.float .f32 (narrowF b), .float .f32 tb] W fun e w' => ∃ z, e = .returned (.float .f64 z) ∧ fcmp .gtr .f64 (cn .f64 z) (cn .f64 4576918229304087675) = false ∧ Ext W w' := by
  have e1 : tSum ((ordL ls).take m) = tSum ls := by rw [List.take_of_length_le (by rw [ordL_len]; omega)]; exact tSum_perm (ordL_perm ls)
  have e2 : tSum (ls.take ls.length) = tSum ls := by rw [List.take_length]
  obtain ⟨t0, t1⟩ := tSum_le hd ls.length (Nat.le_refl _)
  obtain ⟨n1, u1, l1⟩ := HB
  obtain ⟨n2, u2, l2⟩ := HT
  rw [e1] at u1 l1
  rw [e2] at u2 l2 t0 t1
  rw [hm] at u2 l2 t1
  have hk : (m : Rat) ≤ 16 := by have : m ≤ 16 := by omega
                                 exact_mod_cast this
  have hk0 : (0 : Rat) ≤ (m : Rat) := Rat.natCast_nonneg
  obtain ⟨hu0, hu⟩ := uB .f32
  obtain ⟨he0, he⟩ := eB .f32
  have h100 := tw100
  generalize (m : Rat) = K at *
  generalize tSum ls = T at *
  obtain ⟨⟨m1, p1, q1⟩, _, hn⟩ := narrow_val (A := 210) n1 (by grind) (by grind) (by grind)
  refine ⟨hn, fun W => ?_⟩
  refine (r8Gap_num _ _ (1 / 1000) W m1 n2 (by grind) (by grind) (by grind)).mono ?_
  rintro e w' ⟨z, rfl, ⟨nz, hz⟩, X⟩
  refine ⟨z, rfl, ?_, X⟩
  obtain ⟨c1, c2, c3⟩ := c01_val
  rw [nz.cn, c1.cn, gtrF_val nz c1, decide_eq_false_iff_not]
  grind
end Go.Proofs.Ytlbmjeennpccmaa
/- What FnTables compares in its rounds. Plain. Condition: lives that are drawn, at most sixteen. -/
namespace Go.Proofs.Ytlbmjeennpccmaa
open Go Go.RowKit Go.ChangeShapes Go.WideShapes Go.ChangeAt

attribute [local irreducible] LX tw
/-- The failure time at i. -/
def tK (ls : List Lf) (i : Nat) : Nat := (timesL ls).getD i 0
theorem tK_get {ls : List Lf} {i : Nat} (hi : i < (timesL ls).length) : tK ls i = (timesL ls)[i] := by unfold tK; simp [List.getD_eq_getElem?_getD, hi]
theorem tab_num {ls : List Lf} (hd : Drawn ls) (hl : ls.length ≤ 16) {i : Nat} (hi : i ≤ (timesL ls).length) : Num .f32 (sK ls i) ∧ Num .f32 (hK ls i) := ⟨(sK_all hd hl i hi).1, (hK_all hd hl i hi).1⟩
theorem tab_row {ls : List Lf} (hd : Drawn ls) (hl : ls.length ≤ 16) (hv : livesB ls = true) {i : Nat} (hi : i < (timesL ls).length) :
    fcmp .neq .f32 (cn .f32 (sK ls (i + 1))) (cn .f32 (sK ls (i + 1))) = false ∧ fcmp .lss .f32 (cn .f32 (sK ls (i + 1))) (cn .f32 0) = false ∧ fcmp .geq .f32 (cn .f32 (sK ls (i + 1))) (cn .f32 (sK ls i)) = false ∧
    fcmp .leq .f32 (cn .f32 (hK ls (i + 1))) (cn .f32 (hK ls i)) = false ∧ (∀ q, q + 1 = i → fcmp .leq .f32 (cn .f32 (tK ls i)) (cn .f32 (tK ls q)) = false) ∧ surO ls (cn .f32 (tK ls i)) = some (sK ls (i + 1)) ∧ tK ls i < 4294967296 ∧ fcmp .neq .f32 (tK ls i) (cn .f32 (tK ls i)) = false := by
  obtain ⟨n1, s0, s1, _, s2⟩ := sK_all hd hl (i + 1) (by omega)
  obtain ⟨n0, _⟩ := sK_all hd hl i (by omega)
  obtain ⟨m1, h0, h1, h2⟩ := hK_all hd hl (i + 1) (by omega)
  obtain ⟨m0, _⟩ := hK_all hd hl i (by omega)
  have t0 := timesL_pos hd.ok _ (List.getElem_mem hi)
  have z := zero32_val
  rw [n1.cn, n0.cn, m1.cn, m0.cn, z.1.cn, tK_get hi]
  refine ⟨?_, ?_, ?_, ?_, ?_, sur_at hd hv hi, by have := t0.2; omega, ?_⟩
  · have e : fcmp .neq .f32 (sK ls (i + 1)) (sK ls (i + 1)) = !fcmp .eql .f32 (sK ls (i + 1)) (sK ls (i + 1)) := by unfold fcmp; simp [bne]
    rw [e, eql_val n1 n1]; simp
  · rw [lss_val n1 z.1, z.2, decide_eq_false_iff_not]; exact Rat.not_lt.2 s0
  · rw [geq_val n1 n0, decide_eq_false_iff_not]; exact Rat.not_le.2 (s2 i rfl)
  · rw [leq_val m1 m0, decide_eq_false_iff_not]; exact Rat.not_le.2 (h2 i rfl)
  · intro q hq
    subst hq
    have t1 := timesL_pos hd.ok _ (List.getElem_mem (show q < (timesL ls).length by omega))
    rw [tK_get (show q < (timesL ls).length by omega), pos_leq t0 t1, decide_eq_false_iff_not]
    have := times_lt (ls := ls) (i := q) (j := q + 1) (by omega) hi
    omega
  · rw [cn_pos t0]
    have e : fcmp .neq .f32 (timesL ls)[i] (timesL ls)[i] = !fcmp .eql .f32 (timesL ls)[i] (timesL ls)[i] := by unfold fcmp; simp [bne]
    rw [e, eql_val t0.numV t0.numV]; simp
theorem tab_mid {ls : List Lf} (hd : Drawn ls) (hl : ls.length ≤ 16) (hv : livesB ls = true) {i : Nat} (hi : i < (timesL ls).length) (h1 : fcmp .leq .f32 (cn .f32 (sK ls (i + 1))) (cn .f32 1056964608) = true) (h2 : fcmp .gtr .f32 (cn .f32 (sK ls i)) (cn .f32 1056964608) = true) : midO ls = some (tK ls i) := by
  rw [(tab_num hd hl (show i + 1 ≤ (timesL ls).length by omega)).1.cn] at h1
  rw [(tab_num hd hl (show i ≤ (timesL ls).length by omega)).1.cn] at h2
  exact mid_at hd hl hv hi h1 h2
theorem tab_found {ls : List Lf} (hd : Drawn ls) (hl : ls.length ≤ 16) (hv : livesB ls = true) : fcmp .leq .f32 (cn .f32 (sK ls (timesL ls).length)) (cn .f32 1056964608) = (midO ls).isSome := by
  rw [(tab_num hd hl (Nat.le_refl _)).1.cn]
  exact (mid_some hd hl hv).symm
theorem tab_start (ls : List Lf) : Value.float .f32 1065353216 = .float .f32 (sK ls 0) ∧ Value.float .f32 0 = .float .f32 (hK ls 0) := by
  have e1 : sK ls 0 = one1 := rfl
  have e2 : hK ls 0 = cn .f32 0 := rfl
  rw [e1, e2]
  constructor
  · exact congrArg _ (show 1065353216 = one1 by decide +kernel)
  · exact congrArg _ (show 0 = cn .f32 0 by decide +kernel)
theorem one1_bits : one1 = 1065353216 := by decide +kernel
theorem nmPost_u {o : Option Nat} {w w' : World} {e : Ending} (h : NmPost o w e w') : ∃ b, e = .returned (.tuple #[.float .f32 b, .bool o.isSome]) ∧ (∀ x, o = some x → cn .f32 b = x) ∧ Ext w w' := by
  obtain ⟨X, h⟩ := h
  cases o with
  | none => exact ⟨0, h, fun x hx => by simp at hx, X⟩
  | some x =>
    obtain ⟨b, rfl, h1, _⟩ := h
    exact ⟨b, rfl, fun y hy => by rw [h1]; simpa using hy, X⟩
theorem nmPost_num {o : Option Nat} {x : Nat} {w w' : World} {e : Ending} (h : NmPost o w e w') (ho : o = some x) (hn : Num .f32 x) : e = .returned (.tuple #[.float .f32 x, .bool true]) ∧ Ext w w' := by
  subst ho
  obtain ⟨X, b, rfl, h1, _⟩ := h
  rw [bits_of h1 hn.notN]
  exact ⟨rfl, X⟩
theorem hT_lt {k : Nat} (h : k < 24) : hT k < 4294967296 := by have := (hT_pos h).2; omega
/-- The cells of the intervals. -/
def CI (w : World) (g : Nat) (R F L : Nat → Nat) : Prop := ∀ W, Ext w W → ∀ k, k < 16 → g < W.heap.size ∧ W.cell? ⟨g, 3 * k, none⟩ = some (.int .i64 (R k : Nat)) ∧ W.cell? ⟨g, 3 * k + 1, none⟩ = some (.int .i64 (F k : Nat)) ∧ W.cell? ⟨g, 3 * k + 2, none⟩ = some (.int .i64 (L k : Nat))
theorem tab_cells {w : World} {B g cap wd : Nat} {ls : List Lf} (own : w.ownsRow B 2 1 (.slice (some ⟨g, 0, none⟩) 48 cap) 48 (nums3 (ivK wd ls 16))) : CI w g (fun k => ivR wd k ls) (fun k => ivF wd k ls) (fun k => ivL wd k ls) := by
  intro W hW k hk
  have o2 := own_ext own hW
  obtain ⟨h1, h2, h3⟩ := ivK_get (w := wd) (ls := ls) hk
  refine ⟨(World.ownsRow.lt o2 g rfl).2, ?_, ?_, ?_⟩
  · rw [World.ownsRow.cellAt o2 (3 * k) (by omega)]; unfold nums3; rw [List.getElem?_map, h1]; rfl
  · rw [World.ownsRow.cellAt o2 (3 * k + 1) (by omega)]; unfold nums3; rw [List.getElem?_map, h2]; rfl
  · rw [World.ownsRow.cellAt o2 (3 * k + 2) (by omega)]; unfold nums3; rw [List.getElem?_map, h3]; rfl
theorem iv_le (wd k : Nat) (ls : List Lf) : ivR wd k ls ≤ ls.length ∧ ivF wd k ls ≤ ls.length ∧ ivL wd k ls ≤ ls.length := ⟨List.countP_le_length, List.countP_le_length, List.countP_le_length⟩
end Go.Proofs.Ytlbmjeennpccmaa
