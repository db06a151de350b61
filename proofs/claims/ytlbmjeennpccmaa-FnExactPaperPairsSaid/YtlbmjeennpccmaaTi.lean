
/- The logarithm in double precision, as the program and the reference compute it: how often it halves and doubles, and how great what comes is. Plain. -/
import Derived.Test.YtlbmjeennpccmaaTh
import Derived.Test.YtlbmjeennpccmaaLk
namespace Go.Proofs.Ytlbmjeennpccmaa
open Go Go.RowKit

/-! ### Comparing numbers that are not below zero -/
theorem nat_cmp (a b : Nat) : compare (a : Int) (b : Int) = if a < b then .lt else if a = b then .eq else .gt := by
  show compareOfLessAndEq _ _ = _
  unfold compareOfLessAndEq
  by_cases h1 : a < b
  · rw [if_pos (by omega), if_pos h1]
  · rw [if_neg (by omega), if_neg h1]
    by_cases h2 : a = b
    · rw [if_pos (by omega), if_pos h2]
    · rw [if_neg (by omega), if_neg h2]
theorem order_pos {k : FloatKind} {x y m n : Nat} {i j b : Int} (hx : k.format.read x = .number false m i) (hy : k.format.read y = .number false n j) (hb : min i j = b) :
    k.format.order x y = some (if m * 2 ^ (i - b).toNat < n * 2 ^ (j - b).toNat then .lt else if m * 2 ^ (i - b).toNat = n * 2 ^ (j - b).toNat then .eq else .gt) := by
  unfold Ieee.Format.order
  rw [hx, hy]
  simp only [Ieee.Datum.order, hb]
  have e1 : Ieee.signed false m (i - b).toNat = _ := signed_pos (.inr rfl)
  have e2 : Ieee.signed false n (j - b).toNat = _ := signed_pos (.inr rfl)
  rw [e1, e2, nat_cmp]
theorem lss_pos {k : FloatKind} {x y m n : Nat} {i j b : Int} (hx : k.format.read x = .number false m i) (hy : k.format.read y = .number false n j) (hb : min i j = b) :
    fcmp .lss k x y = decide (m * 2 ^ (i - b).toNat < n * 2 ^ (j - b).toNat) := by
  unfold fcmp
  rw [order_pos hx hy hb]
  simp only
  by_cases h : m * 2 ^ (i - b).toNat < n * 2 ^ (j - b).toNat
  · rw [if_pos h, decide_eq_true h]; rfl
  · rw [if_neg h, decide_eq_false h]; split <;> rfl
theorem geq_pos {k : FloatKind} {x y m n : Nat} {i j b : Int} (hx : k.format.read x = .number false m i) (hy : k.format.read y = .number false n j) (hb : min i j = b) :
    fcmp .geq k x y = !decide (m * 2 ^ (i - b).toNat < n * 2 ^ (j - b).toNat) := by
  unfold fcmp
  rw [order_pos hx hy hb]
  simp only
  by_cases h : m * 2 ^ (i - b).toNat < n * 2 ^ (j - b).toNat
  · rw [if_pos h, decide_eq_true h]; rfl
  · rw [if_neg h, decide_eq_false h]; split <;> rfl
theorem gtr_pos {k : FloatKind} {x y m n : Nat} {i j b : Int} (hx : k.format.read x = .number false m i) (hy : k.format.read y = .number false n j) (hb : min i j = b) (h : m * 2 ^ (i - b).toNat ≤ n * 2 ^ (j - b).toNat) :
    fcmp .gtr k x y = false := by
  unfold fcmp
  rw [order_pos hx hy hb]
  simp only
  by_cases h1 : m * 2 ^ (i - b).toNat < n * 2 ^ (j - b).toNat
  · rw [if_pos h1]; rfl
  · rw [if_neg h1, if_pos (by omega)]; rfl
theorem scale_le {m : Nat} {e c b : Int} (h : LeP m e c) (hb : b ≤ e) (hc : b ≤ c) : m * 2 ^ (e - b).toNat ≤ 2 ^ (c - b).toNat := by
  rcases h.scale hb with h | ⟨_, h⟩
  · rw [h]; exact Nat.zero_le _
  · exact h
theorem scale_ge {m : Nat} {e c b : Int} (h : GeP m e c) (hb : b ≤ e) (hc : b ≤ c) : 2 ^ (c - b).toNat ≤ m * 2 ^ (e - b).toNat := by
  have h1 := Nat.log2_self_le h.1
  have h2 : 2 ^ m.log2 * 2 ^ (e - b).toNat ≤ m * 2 ^ (e - b).toNat := Nat.mul_le_mul_right _ h1
  rw [← Nat.pow_add] at h2
  exact Nat.le_trans (Nat.pow_le_pow_right (by omega) (by have := h.2; omega)) h2
theorem ge_of {m : Nat} {e c b : Int} (h : 2 ^ (c - b).toNat ≤ m * 2 ^ (e - b).toNat) (hm : m ≠ 0) (hb : b ≤ e) : GeP m e c := by
  refine ⟨hm, ?_⟩
  have h1 : m * 2 ^ (e - b).toNat < 2 ^ (m.log2 + 1) * 2 ^ (e - b).toNat := Nat.mul_lt_mul_of_pos_right Nat.lt_log2_self (Nat.pow_pos (by omega))
  rw [← Nat.pow_add] at h1
  have h2 := (Nat.pow_lt_pow_iff_right (a := 2) (by omega)).1 (Nat.lt_of_le_of_lt h h1)
  omega
theorem le_of {m : Nat} {e c b : Int} (h : m * 2 ^ (e - b).toNat ≤ 2 ^ (c - b).toNat) (hb : b ≤ e) (hc : b ≤ c) : LeP m e c := by
  by_cases hm : m = 0
  · exact .inl hm
  · right
    have h1 : 2 ^ (e - b).toNat ≤ m * 2 ^ (e - b).toNat := Nat.le_mul_of_pos_left _ (by omega)
    have h2 := (Nat.pow_le_pow_iff_right (a := 2) (by omega)).1 (Nat.le_trans h1 h)
    refine ⟨by omega, ?_⟩
    have h3 : (c - b).toNat = (c - e).toNat + (e - b).toNat := by omega
    rw [h3, Nat.pow_add] at h
    exact Nat.le_of_mul_le_mul_right h (Nat.pow_pos (by omega))

def c15 : Nat := 4609434218613702656
def c075 : Nat := 4604930618986332160
theorem c15_read : (FloatKind.f64).format.read c15 = .number false (3 * 2 ^ 51) (-52) := by decide +kernel
theorem c075_read : (FloatKind.f64).format.read c075 = .number false (3 * 2 ^ 51) (-53) := by decide +kernel
theorem geq15 {x : Nat} {b c : Int} (h : Bg .f64 x b c) : if fcmp .geq .f64 x c15 then Bg .f64 x 0 c ∧ 1 ≤ c else Bg .f64 x b 1 := by
  obtain ⟨m, e, hr, hl, hg⟩ := h
  generalize hb : min e (-52) = base
  have hp : (2 : Nat) ^ (0 - base).toNat = 2 ^ 52 * 2 ^ ((-52 : Int) - base).toNat := by rw [← Nat.pow_add]; congr 1; omega
  have hp1 : (2 : Nat) ^ (1 - base).toNat = 2 ^ 53 * 2 ^ ((-52 : Int) - base).toNat := by rw [← Nat.pow_add]; congr 1; omega
  have hpp := Nat.pow_pos (n := ((-52 : Int) - base).toNat) (show 0 < 2 by omega)
  rw [geq_pos hr c15_read hb]
  by_cases h : m * 2 ^ (e - base).toNat < 3 * 2 ^ 51 * 2 ^ ((-52 : Int) - base).toNat
  · rw [decide_eq_true h]
    refine ⟨m, e, hr, le_of (b := base) ?_ (by omega) (by omega), hg⟩
    rw [hp1]; omega
  · rw [decide_eq_false h]
    refine ⟨⟨m, e, hr, hl, ge_of (b := base) ?_ hg.1 (by omega)⟩, ?_⟩
    · rw [hp]; omega
    · by_cases hc : c ≤ 0
      · exfalso
        have := scale_le (hl.mono hc) (show base ≤ e by omega) (by omega)
        rw [hp] at this
        omega
      · omega
theorem lss075 {x : Nat} {b c : Int} (h : Bg .f64 x b c) : if fcmp .lss .f64 x c075 then Bg .f64 x b 0 ∧ b < 0 else True := by
  obtain ⟨m, e, hr, hl, hg⟩ := h
  generalize hb : min e (-53) = base
  have hp : (2 : Nat) ^ (0 - base).toNat = 2 ^ 53 * 2 ^ ((-53 : Int) - base).toNat := by rw [← Nat.pow_add]; congr 1; omega
  have hpp := Nat.pow_pos (n := ((-53 : Int) - base).toNat) (show 0 < 2 by omega)
  rw [lss_pos hr c075_read hb]
  by_cases h : m * 2 ^ (e - base).toNat < 3 * 2 ^ 51 * 2 ^ ((-53 : Int) - base).toNat
  · rw [decide_eq_true h]
    refine ⟨⟨m, e, hr, le_of (b := base) (by rw [hp]; omega) (by omega) (by omega), hg⟩, ?_⟩
    by_cases hc : 0 ≤ b
    · exfalso
      have := scale_ge (hg.mono hc) (show base ≤ e by omega) (by omega)
      rw [hp] at this
      omega
    · omega
  · rw [decide_eq_false h]; trivial

/-! ### How often it is halved and doubled -/
def hvD (y : Nat) : Nat → Nat
  | 0 => y
  | j + 1 => fop .quo .f64 (hvD y j) twoD
def twD (y : Nat) : Nat → Nat
  | 0 => y
  | j + 1 => fop .mul .f64 (twD y j) twoD
def n1D (y : Nat) : Nat := ((List.range 130).find? fun j => !fcmp .geq .f64 (hvD y j) c15).getD 0
def n2D (y : Nat) : Nat := ((List.range 151).find? fun j => !fcmp .lss .f64 (twD y j) c075).getD 0
theorem find_at {p : Nat → Bool} {N j : Nat} (hj : j < N) (h1 : ∀ i, i < j → p i = false) (h2 : p j = true) : ((List.range N).find? p).getD 0 = j := by
  have : (List.range N).find? p = some j := by
    rw [List.find?_eq_some_iff_getElem]
    refine ⟨h2, j, by simpa using hj, by simp, fun i hi => ?_⟩
    simp [h1 i hi]
  rw [this]; rfl
/-- The rounds so far were all above. -/
def HvOk (y j : Nat) : Prop := j ≤ 128 ∧ (∀ i, i < j → fcmp .geq .f64 (hvD y i) c15 = true) ∧ Bg .f64 (hvD y j) (-149) (128 - (j : Int))
theorem hv_start {y : Nat} (h : Bg .f64 y (-149) 128) : HvOk y 0 := ⟨by omega, fun i hi => by omega, h⟩
theorem hv_on {y j : Nat} (h : HvOk y j) (hc : fcmp .geq .f64 (hvD y j) c15 = true) : HvOk y (j + 1) := by
  have h1 := geq15 h.2.2
  rw [hc, if_pos rfl] at h1
  refine ⟨by omega, fun i hi => ?_, ?_⟩
  · rcases Nat.lt_or_ge i j with h2 | h2
    · exact h.2.1 i h2
    · have : i = j := by omega
      rw [this]; exact hc
  · have := bg_half h1.1 (by omega) (by omega)
    exact this.mono (by omega) (by omega)
theorem hv_out {y j : Nat} (h : HvOk y j) (hc : fcmp .geq .f64 (hvD y j) c15 = false) : n1D y = j ∧ Bg .f64 (hvD y j) (-149) 1 := by
  have h1 := geq15 h.2.2
  rw [hc] at h1
  exact ⟨find_at (by have := h.1; omega) (fun i hi => by rw [h.2.1 i hi]; rfl) (by rw [hc]; rfl), h1⟩
def TwOk (y j : Nat) : Prop := j ≤ 149 ∧ (∀ i, i < j → fcmp .lss .f64 (twD y i) c075 = true) ∧ Bg .f64 (twD y j) (-149 + (j : Int)) 1
theorem tw_start {y : Nat} (h : Bg .f64 y (-149) 1) : TwOk y 0 := ⟨by omega, fun i hi => by omega, h⟩
theorem tw_on {y j : Nat} (h : TwOk y j) (hc : fcmp .lss .f64 (twD y j) c075 = true) : TwOk y (j + 1) := by
  have h1 := lss075 h.2.2
  rw [hc, if_pos rfl] at h1
  refine ⟨by omega, fun i hi => ?_, ?_⟩
  · rcases Nat.lt_or_ge i j with h2 | h2
    · exact h.2.1 i h2
    · have : i = j := by omega
      rw [this]; exact hc
  · have := bg_twice h1.1 (by omega) (by omega)
    exact this.mono (by omega) (by omega)
theorem tw_out {y j : Nat} (h : TwOk y j) (hc : fcmp .lss .f64 (twD y j) c075 = false) : n2D y = j :=
  find_at (by have := h.1; omega) (fun i hi => by rw [h.2.1 i hi]; rfl) (by rw [hc]; rfl)

/-! ### Whole numbers in double precision -/
def ofD (i : Int) : Nat := floatOfInt .f64 i
theorem ofD_all : ((List.range 801).all fun k => fop .add .f64 (ofD ((k : Int) - 400)) oneD == ofD ((k : Int) - 399) && fop .sub .f64 (ofD ((k : Int) - 399)) oneD == ofD ((k : Int) - 400)) = true := by decide +kernel
theorem ofD_add {i : Int} (h1 : -400 ≤ i) (h2 : i ≤ 400) : fop .add .f64 (ofD i) oneD = ofD (i + 1) := by
  have h := ofD_all
  rw [List.all_eq_true] at h
  have h3 := h (i + 400).toNat (List.mem_range.2 (by omega))
  rw [Bool.and_eq_true, beq_iff_eq, beq_iff_eq] at h3
  have e : (((i + 400).toNat : Nat) : Int) = i + 400 := by omega
  rw [e, show i + 400 - 400 = i by omega, show i + 400 - 399 = i + 1 by omega] at h3
  exact h3.1
theorem ofD_sub {i : Int} (h1 : -399 ≤ i) (h2 : i ≤ 401) : fop .sub .f64 (ofD i) oneD = ofD (i - 1) := by
  have h := ofD_all
  rw [List.all_eq_true] at h
  have h3 := h (i + 399).toNat (List.mem_range.2 (by omega))
  rw [Bool.and_eq_true, beq_iff_eq, beq_iff_eq] at h3
  have e : (((i + 399).toNat : Nat) : Int) = i + 399 := by omega
  rw [e, show i + 399 - 400 = i - 1 by omega, show i + 399 - 399 = i by omega] at h3
  exact h3.2
/-- The whole number that the bits of a float stand for. -/
def toI (c : Nat) : Int := (Ieee.Datum.toInt .even ((FloatKind.f64).format.read c)).getD 0
def intD (v : Value) : Int := match v with
  | .float _ c => toI c
  | _ => 0
theorem toI_all : ((List.range 801).all fun k => toI (ofD ((k : Int) - 400)) == (k : Int) - 400) = true := by decide +kernel
theorem toI_ofD {i : Int} (h1 : -400 ≤ i) (h2 : i ≤ 400) : toI (ofD i) = i := by
  have h := toI_all
  rw [List.all_eq_true] at h
  have h3 := h (i + 400).toNat (List.mem_range.2 (by omega))
  rw [beq_iff_eq] at h3
  have e : (((i + 400).toNat : Nat) : Int) = i + 400 := by omega
  rw [e, show i + 400 - 400 = i by omega] at h3
  exact h3
theorem ofD_num (i : Int) : isN .f64 (ofD i) = false := by
  unfold ofD floatOfInt FloatKind.nearest FloatKind.encode
  exact isN_write .f64 rfl
theorem cn_ofD (i : Int) : cn .f64 (ofD i) = ofD i := cn_of_not (ofD_num i)
def baB (c : Int) (b : Nat) : Bool := match (FloatKind.f64).format.read b with
  | .number _ m e => m == 0 || (decide (e ≤ c) && decide (m ≤ 2 ^ (c - e).toNat))
  | _ => false
theorem baB_ba {c : Int} {b : Nat} (h : baB c b = true) : Ba .f64 b c := by
  unfold baB at h
  split at h
  · rename_i s m e he
    simp only [Bool.and_eq_true, Bool.or_eq_true, beq_iff_eq, decide_eq_true_eq] at h
    exact ⟨s, m, e, he, h⟩
  · cases h
theorem ofD9_all : ((List.range 801).all fun k => baB 9 (ofD ((k : Int) - 400))) = true := by decide +kernel
theorem ofD_ba {i : Int} (h1 : -400 ≤ i) (h2 : i ≤ 400) : Ba .f64 (ofD i) 9 := by
  have h := ofD9_all
  rw [List.all_eq_true] at h
  have h3 := h (i + 400).toNat (List.mem_range.2 (by omega))
  have e : (((i + 400).toNat : Nat) : Int) = i + 400 := by omega
  rw [e, show i + 400 - 400 = i by omega] at h3
  exact baB_ba h3

/-! ### The series -/
def lgQ (u : Nat) : Nat → Nat
  | 0 => cn .f64 0
  | j + 1 => fop .add .f64 (fop .quo .f64 oneD (ofD (25 - 2 * (j : Int)))) (fop .mul .f64 u (lgQ u j))
def ln2D : Nat := 4604418534313441775
def lgFin (y : Nat) (e : Int) : Nat :=
  fop .add .f64 (fop .mul .f64 twoD (fop .mul .f64 (fop .quo .f64 (fop .sub .f64 y oneD) (fop .add .f64 y oneD)) (lgQ (fop .mul .f64 (fop .quo .f64 (fop .sub .f64 y oneD) (fop .add .f64 y oneD)) (fop .quo .f64 (fop .sub .f64 y oneD) (fop .add .f64 y oneD))) 13))) (fop .mul .f64 (ofD e) ln2D)
def lgE (y : Nat) : Int := (n1D y : Int) - (n2D (hvD y (n1D y)) : Int)
def logW (y : Nat) : Nat := lgFin (twD (hvD y (n1D y)) (n2D (hvD y (n1D y)))) (lgE y)
theorem inv_all : ((List.range 13).all fun j => baB 0 (fop .quo .f64 oneD (ofD (25 - 2 * (j : Int)))) && fcmp .geq .f64 (ofD (25 - 2 * (j : Int))) oneD && (fop .sub .f64 (ofD (25 - 2 * (j : Int))) twoD == ofD (25 - 2 * ((j + 1 : Nat) : Int)))) = true := by decide +kernel
theorem inv_at {j : Nat} (h : j < 13) : Ba .f64 (fop .quo .f64 oneD (ofD (25 - 2 * (j : Int)))) 0 ∧ fcmp .geq .f64 (ofD (25 - 2 * (j : Int))) oneD = true ∧ fop .sub .f64 (ofD (25 - 2 * (j : Int))) twoD = ofD (25 - 2 * ((j + 1 : Nat) : Int)) := by
  have h0 := inv_all
  rw [List.all_eq_true] at h0
  have h1 := h0 j (List.mem_range.2 h)
  rw [Bool.and_eq_true, Bool.and_eq_true, beq_iff_eq] at h1
  exact ⟨baB_ba h1.1.1, h1.1.2, h1.2⟩
theorem inv_end : fcmp .geq .f64 (ofD (25 - 2 * ((13 : Nat) : Int))) oneD = false := by decide +kernel
theorem lgQ_ba {u : Nat} (hu : Ba .f64 u 6) : ∀ j, j ≤ 13 → Ba .f64 (lgQ u j) (7 * (j : Int))
  | 0, _ => ⟨false, 0, -1074, by show (FloatKind.f64).format.read (cn .f64 0) = _; decide +kernel, .inl rfl⟩
  | j + 1, h => by
    have h1 := ba_mul hu (lgQ_ba hu j (by omega)) (inF64 (by omega) (by omega))
    have h2 := (inv_at (show j < 13 by omega)).1.mono (d := 6 + 7 * (j : Int)) (by omega)
    have h3 := ba_add h2 h1 (inF64 (by omega) (by omega))
    exact h3.mono (by omega)
theorem lgFin_ba {y : Nat} {b : Int} {e : Int} (h : Bg .f64 y b 1) (h1 : -400 ≤ e) (h2 : e ≤ 400) : Ba .f64 (lgFin y e) 97 := by
  have hone : Ba .f64 oneD 1 := baB_ba (by decide +kernel)
  have hnum := ba_sub h.ba hone (inF64 (by omega) (by omega))
  obtain ⟨n, j, hr, _, hg⟩ := bg_one h
  have hs := ba_div hnum hr hg (inF64 (by omega) (by omega))
  have hs3 : Ba .f64 (fop .quo .f64 (fop .sub .f64 y oneD) (fop .add .f64 y oneD)) 3 := hs.mono (by omega)
  unfold lgFin
  generalize fop .quo .f64 (fop .sub .f64 y oneD) (fop .add .f64 y oneD) = s at *
  have hu : Ba .f64 (fop .mul .f64 s s) 6 := ba_mul hs3 hs3 (inF64 (by omega) (by omega))
  have hq := lgQ_ba hu 13 (by omega)
  have hsq := ba_mul hs3 hq (inF64 (by omega) (by omega))
  have htw : Ba .f64 twoD 1 := baB_ba (by decide +kernel)
  have hln : Ba .f64 ln2D 0 := baB_ba (by decide +kernel)
  have h3 := ba_mul htw hsq (inF64 (by omega) (by omega))
  have h4 := ba_mul (ofD_ba h1 h2) hln (inF64 (by omega) (by omega))
  have h5 := ba_add (h3.mono (d := 96) (by omega)) (h4.mono (d := 96) (by omega)) (inF64 (by omega) (by omega))
  exact h5.mono (by omega)
/-- The rounds end. -/
theorem hv_ends {y : Nat} (h : Bg .f64 y (-149) 128) : ∃ j, HvOk y j ∧ fcmp .geq .f64 (hvD y j) c15 = false := by
  have key : ∀ n j, 128 - j ≤ n → HvOk y j → ∃ j, HvOk y j ∧ fcmp .geq .f64 (hvD y j) c15 = false := by
    intro n
    induction n with
    | zero =>
      intro j hn hj
      cases hc : fcmp .geq .f64 (hvD y j) c15
      · exact ⟨j, hj, hc⟩
      · have := (hv_on hj hc).1; omega
    | succ n ih =>
      intro j hn hj
      cases hc : fcmp .geq .f64 (hvD y j) c15
      · exact ⟨j, hj, hc⟩
      · exact ih (j + 1) (by omega) (hv_on hj hc)
  exact key 128 0 (by omega) (hv_start h)
theorem tw_ends {y : Nat} (h : Bg .f64 y (-149) 1) : ∃ j, TwOk y j ∧ fcmp .lss .f64 (twD y j) c075 = false := by
  have key : ∀ n j, 149 - j ≤ n → TwOk y j → ∃ j, TwOk y j ∧ fcmp .lss .f64 (twD y j) c075 = false := by
    intro n
    induction n with
    | zero =>
      intro j hn hj
      cases hc : fcmp .lss .f64 (twD y j) c075
      · exact ⟨j, hj, hc⟩
      · have := (tw_on hj hc).1; omega
    | succ n ih =>
      intro j hn hj
      cases hc : fcmp .lss .f64 (twD y j) c075
      · exact ⟨j, hj, hc⟩
      · exact ih (j + 1) (by omega) (tw_on hj hc)
  exact key 149 0 (by omega) (tw_start h)
theorem logW_ba {y : Nat} (h : Bg .f64 y (-149) 128) : Ba .f64 (logW y) 97 := by
  obtain ⟨j, hj, hc⟩ := hv_ends h
  obtain ⟨h1, h2⟩ := hv_out hj hc
  obtain ⟨i, hi, hd⟩ := tw_ends h2
  have h3 := tw_out hi hd
  unfold logW lgE
  rw [h1, h3]
  exact lgFin_ba hi.2.2 (by have := hi.1; omega) (by have := hj.1; omega)
theorem logW_bits {y : Nat} (h : Bg .f64 y (-149) 128) : floatToFloatBits .f64 (logW y) .f32 = some (narrowF (logW y)) := (ba_narrow (logW_ba h) (inF32 (by omega) (by omega))).2
end Go.Proofs.Ytlbmjeennpccmaa
