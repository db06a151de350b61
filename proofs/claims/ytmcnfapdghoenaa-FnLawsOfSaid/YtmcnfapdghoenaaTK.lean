
/- The logarithm in double precision, as the program and the reference compute it: how often it halves and doubles, and how great what comes is. Plain. -/
import Derived.Test.YtmcnfapdghoenaaRa
import Derived.Test.YtmcnfapdghoenaaEM
import Derived.Outline
import Derived.Test.YtmcnfapdghoenaaFX
namespace Go.Proofs.Ytmcnfapdghoenaa
open Go Go.RowKit

/-! ### Comparing numbers that are not below zero -/
theorem nat_cmp (a b : Nat) : compare (a : Int) (b : Int) = if a < b then .lt else if a = b then .eq else .gt := by
  show compareOfLessAndEq _ _ = _
  unfold compareOfLessAndEq
  by_cases h1 : a < b
  · rw [if_pos (by omega), if_pos h1]
  · rw [if_neg (by omega), if_neg h1]
    by_cases h2 : a = b
    · rw [if_pos (by omega), if_pos h2]
    · rw [if_neg (by omega), if_neg h2]
theorem order_pos {k : FloatKind} {x y m n : Nat} {i j b : Int} (hx : k.format.read x = .number false m i) (hy : k.format.read y = .number false n j) (hb : min i j = b) :
    k.format.order x y = some (if m * 2 ^ (i - b).toNat < n * 2 ^ (j - b).toNat then .lt else if m * 2 ^ (i - b).toNat = n * 2 ^ (j - b).toNat then .eq else .gt) := by
  unfold Ieee.Format.order
  rw [hx, hy]
  simp only [Ieee.Datum.order, hb]
  have e1 : Ieee.signed false m (i - b).toNat = _ := signed_pos (.inr rfl)
  have e2 : Ieee.signed false n (j - b).toNat = _ := signed_pos (.inr rfl)
  rw [e1, e2, nat_cmp]
theorem lss_pos {k : FloatKind} {x y m n : Nat} {i j b : Int} (hx : k.format.read x = .number false m i) (hy : k.format.read y = .number false n j) (hb : min i j = b) :
    fcmp .lss k x y = decide (m * 2 ^ (i - b).toNat < n * 2 ^ (j - b).toNat) := by
  unfold fcmp
  rw [order_pos hx hy hb]
  simp only
  by_cases h : m * 2 ^ (i - b).toNat < n * 2 ^ (j - b).toNat
  · rw [if_pos h, decide_eq_true h]; rfl
  · rw [if_neg h, decide_eq_false h]; split <;> rfl
theorem geq_pos {k : FloatKind} {x y m n : Nat} {i j b : Int} (hx : k.format.read x = .number false m i) (hy : k.format.read y = .number false n j) (hb : min i j = b) :
    fcmp .geq k x y = !decide (m * 2 ^ (i - b).toNat < n * 2 ^ (j - b).toNat) := by
  unfold fcmp
  rw [order_pos hx hy hb]
  simp only
  by_cases h : m * 2 ^ (i - b).toNat < n * 2 ^ (j - b).toNat
  · rw [if_pos h, decide_eq_true h]; rfl
  · rw [if_neg h, decide_eq_false h]; split <;> rfl
theorem gtr_pos {k : FloatKind} {x y m n : Nat} {i j b : Int} (hx : k.format.read x = .number false m i) (hy : k.format.read y = .number false n j) (hb : min i j = b) (h : m * 2 ^ (i - b).toNat ≤ n * 2 ^ (j - b).toNat) :
    fcmp .gtr k x y = false := by
  unfold fcmp
  rw [order_pos hx hy hb]
  simp only
  by_cases h1 : m * 2 ^ (i - b).toNat < n * 2 ^ (j - b).toNat
  · rw [if_pos h1]; rfl
  · rw [if_neg h1, if_pos (by omega)]; rfl
theorem scale_le {m : Nat} {e c b : Int} (h : LeP m e c) (hb : b ≤ e) (hc : b ≤ c) : m * 2 ^ (e - b).toNat ≤ 2 ^ (c - b).toNat := by
  rcases h.scale hb with h | ⟨_, h⟩
  · rw [h]; exact Nat.zero_le _
  · exact h
theorem scale_ge {m : Nat} {e c b : Int} (h : GeP m e c) (hb : b ≤ e) (hc : b ≤ c) : 2 ^ (c - b).toNat ≤ m * 2 ^ (e - b).toNat := by
  have h1 := Nat.log2_self_le h.1
  have h2 : 2 ^ m.log2 * 2 ^ (e - b).toNat ≤ m * 2 ^ (e - b).toNat := Nat.mul_le_mul_right _ h1
  rw [← Nat.pow_add] at h2
  exact Nat.le_trans (Nat.pow_le_pow_right (by omega) (by have := h.2; omega)) h2
theorem ge_of {m : Nat} {e c b : Int} (h : 2 ^ (c - b).toNat ≤ m * 2 ^ (e - b).toNat) (hm : m ≠ 0) (hb : b ≤ e) : GeP m e c := by
  refine ⟨hm, ?_⟩
  have h1 : m * 2 ^ (e - b).toNat < 2 ^ (m.log2 + 1) * 2 ^ (e - b).toNat := Nat.mul_lt_mul_of_pos_right Nat.lt_log2_self (Nat.pow_pos (by omega))
  rw [← Nat.pow_add] at h1
  have h2 := (Nat.pow_lt_pow_iff_right (a := 2) (by omega)).1 (Nat.lt_of_le_of_lt h h1)
  omega
theorem le_of {m : Nat} {e c b : Int} (h : m * 2 ^ (e - b).toNat ≤ 2 ^ (c - b).toNat) (hb : b ≤ e) (hc : b ≤ c) : LeP m e c := by
  by_cases hm : m = 0
  · exact .inl hm
  · right
    have h1 : 2 ^ (e - b).toNat ≤ m * 2 ^ (e - b).toNat := Nat.le_mul_of_pos_left _ (by omega)
    have h2 := (Nat.pow_le_pow_iff_right (a := 2) (by omega)).1 (Nat.le_trans h1 h)
    refine ⟨by omega, ?_⟩
    have h3 : (c - b).toNat = (c - e).toNat + (e - b).toNat := by omega
    rw [h3, Nat.pow_add] at h
    exact Nat.le_of_mul_le_mul_right h (Nat.pow_pos (by omega))

def c15 : Nat := 4609434218613702656
def c075 : Nat := 4604930618986332160
theorem c15_read : (FloatKind.f64).format.read c15 = .number false (3 * 2 ^ 51) (-52) := by decide +kernel
theorem c075_read : (FloatKind.f64).format.read c075 = .number false (3 * 2 ^ 51) (-53) := by decide +kernel
theorem geq15 {x : Nat} {b c : Int} (h : Bg .f64 x b c) : if fcmp .geq .f64 x c15 then Bg .f64 x 0 c ∧ 1 ≤ c else Bg .f64 x b 1 := by
  obtain ⟨m, e, hr, hl, hg⟩ := h
  generalize hb : min e (-52) = base
  have hp : (2 : Nat) ^ (0 - base).toNat = 2 ^ 52 * 2 ^ ((-52 : Int) - base).toNat := by rw [← Nat.pow_add]; congr 1; omega
  have hp1 : (2 : Nat) ^ (1 - base).toNat = 2 ^ 53 * 2 ^ ((-52 : Int) - base).toNat := by rw [← Nat.pow_add]; congr 1; omega
  have hpp := Nat.pow_pos (n := ((-52 : Int) - base).toNat) (show 0 < 2 by omega)
  rw [geq_pos hr c15_read hb]
  by_cases h : m * 2 ^ (e - base).toNat < 3 * 2 ^ 51 * 2 ^ ((-52 : Int) - base).toNat
  · rw [decide_eq_true h]
    refine ⟨m, e, hr, le_of (b := base) ?_ (by omega) (by omega), hg⟩
    rw [hp1]; omega
  · rw [decide_eq_false h]
    refine ⟨⟨m, e, hr, hl, ge_of (b := base) ?_ hg.1 (by omega)⟩, ?_⟩
    · rw [hp]; omega
    · by_cases hc : c ≤ 0
      · exfalso
        have := scale_le (hl.mono hc) (show base ≤ e by omega) (by omega)
        rw [hp] at this
        omega
      · omega
theorem lss075 {x : Nat} {b c : Int} (h : Bg .f64 x b c) : if fcmp .lss .f64 x c075 then Bg .f64 x b 0 ∧ b < 0 else True := by
  obtain ⟨m, e, hr, hl, hg⟩ := h
  generalize hb : min e (-53) = base
  have hp : (2 : Nat) ^ (0 - base).toNat = 2 ^ 53 * 2 ^ ((-53 : Int) - base).toNat := by rw [← Nat.pow_add]; congr 1; omega
  have hpp := Nat.pow_pos (n := ((-53 : Int) - base).toNat) (show 0 < 2 by omega)
  rw [lss_pos hr c075_read hb]
  by_cases h : m * 2 ^ (e - base).toNat < 3 * 2 ^ 51 * 2 ^ ((-53 : Int) - base).toNat
  · rw [decide_eq_true h]
    refine ⟨⟨m, e, hr, le_of (b := base) (by rw [hp]; omega) (by omega) (by omega), hg⟩, ?_⟩
    by_cases hc : 0 ≤ b
    · exfalso
      have := scale_ge (hg.mono hc) (show base ≤ e by omega) (by omega)
      rw [hp] at this
      omega
    · omega
  · rw [decide_eq_false h]; trivial

/-! ### How often it is halved and doubled -/
def hvD (y : Nat) : Nat → Nat
  | 0 => y
  | j + 1 => fop .quo .f64 (hvD y j) twoD
def twD (y : Nat) : Nat → Nat
  | 0 => y
  | j + 1 => fop .mul .f64 (twD y j) twoD
def n1D (y : Nat) : Nat := ((List.range 130).find? fun j => !fcmp .geq .f64 (hvD y j) c15).getD 0
def n2D (y : Nat) : Nat := ((List.range 151).find? fun j => !fcmp .lss .f64 (twD y j) c075).getD 0
theorem find_at {p : Nat → Bool} {N j : Nat} (hj : j < N) (h1 : ∀ i, i < j → p i = false) (h2 : p j = true) : ((List.range N).find? p).getD 0 = j := by
  have : (List.range N).find? p = some j := by
    rw [List.find?_eq_some_iff_getElem]
    refine ⟨h2, j, by simpa using hj, by simp, fun i hi => ?_⟩
    simp [h1 i hi]
  rw [this]; rfl
/-- The rounds so far were all above. -/
def HvOk (y j : Nat) : Prop := j ≤ 128 ∧ (∀ i, i < j → fcmp .geq .f64 (hvD y i) c15 = true) ∧ Bg .f64 (hvD y j) (-149) (128 - (j : Int))
theorem hv_start {y : Nat} (h : Bg .f64 y (-149) 128) : HvOk y 0 := ⟨by omega, fun i hi => by omega, h⟩
theorem hv_on {y j : Nat} (h : HvOk y j) (hc : fcmp .geq .f64 (hvD y j) c15 = true) : HvOk y (j + 1) := by
  have h1 := geq15 h.2.2
  rw [hc, if_pos rfl] at h1
  refine ⟨by omega, fun i hi => ?_, ?_⟩
  · rcases Nat.lt_or_ge i j with h2 | h2
    · exact h.2.1 i h2
    · have : i = j := by omega
      rw [this]; exact hc
  · have := bg_half h1.1 (by omega) (by omega)
    exact this.mono (by omega) (by omega)
theorem hv_out {y j : Nat} (h : HvOk y j) (hc : fcmp .geq .f64 (hvD y j) c15 = false) : n1D y = j ∧ Bg .f64 (hvD y j) (-149) 1 := by
  have h1 := geq15 h.2.2
  rw [hc] at h1
  exact ⟨find_at (by have := h.1; omega) (fun i hi => by rw [h.2.1 i hi]; rfl) (by rw [hc]; rfl), h1⟩
def TwOk (y j : Nat) : Prop := j ≤ 149 ∧ (∀ i, i < j → fcmp .lss .f64 (twD y i) c075 = true) ∧ Bg .f64 (twD y j) (-149 + (j : Int)) 1
theorem tw_start {y : Nat} (h : Bg .f64 y (-149) 1) : TwOk y 0 := ⟨by omega, fun i hi => by omega, h⟩
theorem tw_on {y j : Nat} (h : TwOk y j) (hc : fcmp .lss .f64 (twD y j) c075 = true) : TwOk y (j + 1) := by
  have h1 := lss075 h.2.2
  rw [hc, if_pos rfl] at h1
  refine ⟨by omega, fun i hi => ?_, ?_⟩
  · rcases Nat.lt_or_ge i j with h2 | h2
    · exact h.2.1 i h2
    · have : i = j := by omega
      rw [this]; exact hc
  · have := bg_twice h1.1 (by omega) (by omega)
    exact this.mono (by omega) (by omega)
theorem tw_out {y j : Nat} (h : TwOk y j) (hc : fcmp .lss .f64 (twD y j) c075 = false) : n2D y = j :=
  find_at (by have := h.1; omega) (fun i hi => by rw [h.2.1 i hi]; rfl) (by rw [hc]; rfl)

/-! ### Whole numbers in double precision -/
def ofD (i : Int) : Nat := floatOfInt .f64 i
theorem ofD_all : ((List.range 801).all fun k => fop .add .f64 (ofD ((k : Int) - 400)) oneD == ofD ((k : Int) - 399) && fop .sub .f64 (ofD ((k : Int) - 399)) oneD == ofD ((k : Int) - 400)) = true := by decide +kernel
theorem ofD_add {i : Int} (h1 : -400 ≤ i) (h2 : i ≤ 400) : fop .add .f64 (ofD i) oneD = ofD (i + 1) := by
  have h := ofD_all
  rw [List.all_eq_true] at h
  have h3 := h (i + 400).toNat (List.mem_range.2 (by omega))
  rw [Bool.and_eq_true, beq_iff_eq, beq_iff_eq] at h3
  have e : (((i + 400).toNat : Nat) : Int) = i + 400 := by omega
  rw [e, show i + 400 - 400 = i by omega, show i + 400 - 399 = i + 1 by omega] at h3
  exact h3.1
theorem ofD_sub {i : Int} (h1 : -399 ≤ i) (h2 : i ≤ 401) : fop .sub .f64 (ofD i) oneD = ofD (i - 1) := by
  have h := ofD_all
  rw [List.all_eq_true] at h
  have h3 := h (i + 399).toNat (List.mem_range.2 (by omega))
  rw [Bool.and_eq_true, beq_iff_eq, beq_iff_eq] at h3
  have e : (((i + 399).toNat : Nat) : Int) = i + 399 := by omega
  rw [e, show i + 399 - 400 = i - 1 by omega, show i + 399 - 399 = i by omega] at h3
  exact h3.2
/-- The whole number that the bits of a float stand for. -/
def toI (c : Nat) : Int := (Ieee.Datum.toInt .even ((FloatKind.f64).format.read c)).getD 0
def intD (v : Value) : Int := match v with
  | .float _ c => toI c
  | _ => 0
theorem toI_all : ((List.range 801).all fun k => toI (ofD ((k : Int) - 400)) == (k : Int) - 400) = true := by decide +kernel
theorem toI_ofD {i : Int} (h1 : -400 ≤ i) (h2 : i ≤ 400) : toI (ofD i) = i := by
  have h := toI_all
  rw [List.all_eq_true] at h
  have h3 := h (i + 400).toNat (List.mem_range.2 (by omega))
  rw [beq_iff_eq] at h3
  have e : (((i + 400).toNat : Nat) : Int) = i + 400 := by omega
  rw [e, show i + 400 - 400 = i by omega] at h3
  exact h3
theorem ofD_num (i : Int) : isN .f64 (ofD i) = false := by
  unfold ofD floatOfInt FloatKind.nearest FloatKind.encode
  exact isN_write .f64 rfl
theorem cn_ofD (i : Int) : cn .f64 (ofD i) = ofD i := cn_of_not (ofD_num i)
def baB (c : Int) (b : Nat) : Bool := match (FloatKind.f64).format.read b with
  | .number _ m e => m == 0 || (decide (e ≤ c) && decide (m ≤ 2 ^ (c - e).toNat))
  | _ => false
theorem baB_ba {c : Int} {b : Nat} (h : baB c b = true) : Ba .f64 b c := by
  unfold baB at h
  split at h
  · rename_i s m e he
    simp only [Bool.and_eq_true, Bool.or_eq_true, beq_iff_eq, decide_eq_true_eq] at h
    exact ⟨s, m, e, he, h⟩
  · cases h
theorem ofD9_all : ((List.range 801).all fun k => baB 9 (ofD ((k : Int) - 400))) = true := by decide +kernel
theorem ofD_ba {i : Int} (h1 : -400 ≤ i) (h2 : i ≤ 400) : Ba .f64 (ofD i) 9 := by
  have h := ofD9_all
  rw [List.all_eq_true] at h
  have h3 := h (i + 400).toNat (List.mem_range.2 (by omega))
  have e : (((i + 400).toNat : Nat) : Int) = i + 400 := by omega
  rw [e, show i + 400 - 400 = i by omega] at h3
  exact baB_ba h3

/-! ### The series -/
def lgQ (u : Nat) : Nat → Nat
  | 0 => cn .f64 0
  | j + 1 => fop .add .f64 (fop .quo .f64 oneD (ofD (25 - 2 * (j : Int)))) (fop .mul .f64 u (lgQ u j))
def ln2D : Nat := 4604418534313441775
def lgFin (y : Nat) (e : Int) : Nat :=
  fop .add .f64 (fop .mul .f64 twoD (fop .mul .f64 (fop .quo .f64 (fop .sub .f64 y oneD) (fop .add .f64 y oneD)) (lgQ (fop .mul .f64 (fop .quo .f64 (fop .sub .f64 y oneD) (fop .add .f64 y oneD)) (fop .quo .f64 (fop .sub .f64 y oneD) (fop .add .f64 y oneD))) 13))) (fop .mul .f64 (ofD e) ln2D)
def lgE (y : Nat) : Int := (n1D y : Int) - (n2D (hvD y (n1D y)) : Int)
def logW (y : Nat) : Nat := lgFin (twD (hvD y (n1D y)) (n2D (hvD y (n1D y)))) (lgE y)
theorem inv_all : ((List.range 13).all fun j => baB 0 (fop .quo .f64 oneD (ofD (25 - 2 * (j : Int)))) && fcmp .geq .f64 (ofD (25 - 2 * (j : Int))) oneD && (fop .sub .f64 (ofD (25 - 2 * (j : Int))) twoD == ofD (25 - 2 * ((j + 1 : Nat) : Int)))) = true := by decide +kernel
theorem inv_at {j : Nat} (h : j < 13) : Ba .f64 (fop .quo .f64 oneD (ofD (25 - 2 * (j : Int)))) 0 ∧ fcmp .geq .f64 (ofD (25 - 2 * (j : Int))) oneD = true ∧ fop .sub .f64 (ofD (25 - 2 * (j : Int))) twoD = ofD (25 - 2 * ((j + 1 : Nat) : Int)) := by
  have h0 := inv_all
  rw [List.all_eq_true] at h0
  have h1 := h0 j (List.mem_range.2 h)
  rw [Bool.and_eq_true, Bool.and_eq_true, beq_iff_eq] at h1
  exact ⟨baB_ba h1.1.1, h1.1.2, h1.2⟩
theorem inv_end : fcmp .geq .f64 (ofD (25 - 2 * ((13 : Nat) : Int))) oneD = false := by decide +kernel
theorem lgQ_ba {u : Nat} (hu : Ba .f64 u 6) : ∀ j, j ≤ 13 → Ba .f64 (lgQ u j) (7 * (j : Int))
  | 0, _ => ⟨false, 0, -1074, by show (FloatKind.f64).format.read (cn .f64 0) = _; decide +kernel, .inl rfl⟩
  | j + 1, h => by
    have h1 := ba_mul hu (lgQ_ba hu j (by omega)) (inF64 (by omega) (by omega))
    have h2 := (inv_at (show j < 13 by omega)).1.mono (d := 6 + 7 * (j : Int)) (by omega)
    have h3 := ba_add h2 h1 (inF64 (by omega) (by omega))
    exact h3.mono (by omega)
theorem lgFin_ba {y : Nat} {b : Int} {e : Int} (h : Bg .f64 y b 1) (h1 : -400 ≤ e) (h2 : e ≤ 400) : Ba .f64 (lgFin y e) 97 := by
  have hone : Ba .f64 oneD 1 := baB_ba (by decide +kernel)
  have hnum := ba_sub h.ba hone (inF64 (by omega) (by omega))
  obtain ⟨n, j, hr, _, hg⟩ := bg_one h
  have hs := ba_div hnum hr hg (inF64 (by omega) (by omega))
  have hs3 : Ba .f64 (fop .quo .f64 (fop .sub .f64 y oneD) (fop .add .f64 y oneD)) 3 := hs.mono (by omega)
  unfold lgFin
  generalize fop .quo .f64 (fop .sub .f64 y oneD) (fop .add .f64 y oneD) = s at *
  have hu : Ba .f64 (fop .mul .f64 s s) 6 := ba_mul hs3 hs3 (inF64 (by omega) (by omega))
  have hq := lgQ_ba hu 13 (by omega)
  have hsq := ba_mul hs3 hq (inF64 (by omega) (by omega))
  have htw : Ba .f64 twoD 1 := baB_ba (by decide +kernel)
  have hln : Ba .f64 ln2D 0 := baB_ba (by decide +kernel)
  have h3 := ba_mul htw hsq (inF64 (by omega) (by omega))
  have h4 := ba_mul (ofD_ba h1 h2) hln (inF64 (by omega) (by omega))
  have h5 := ba_add (h3.mono (d := 96) (by omega)) (h4.mono (d := 96) (by omega)) (inF64 (by omega) (by omega))
  exact h5.mono (by omega)
/-- The rounds end. -/
theorem hv_ends {y : Nat} (h : Bg .f64 y (-149) 128) : ∃ j, HvOk y j ∧ fcmp .geq .f64 (hvD y j) c15 = false := by
  have key : ∀ n j, 128 - j ≤ n → HvOk y j → ∃ j, HvOk y j ∧ fcmp .geq .f64 (hvD y j) c15 = false := by
    intro n
    induction n with
    | zero =>
      intro j hn hj
      cases hc : fcmp .geq .f64 (hvD y j) c15
      · exact ⟨j, hj, hc⟩
      · have := (hv_on hj hc).1; omega
    | succ n ih =>
      intro j hn hj
      cases hc : fcmp .geq .f64 (hvD y j) c15
      · exact ⟨j, hj, hc⟩
      · exact ih (j + 1) (by omega) (hv_on hj hc)
  exact key 128 0 (by omega) (hv_start h)
theorem tw_ends {y : Nat} (h : Bg .f64 y (-149) 1) : ∃ j, TwOk y j ∧ fcmp .lss .f64 (twD y j) c075 = false := by
  have key : ∀ n j, 149 - j ≤ n → TwOk y j → ∃ j, TwOk y j ∧ fcmp .lss .f64 (twD y j) c075 = false := by
    intro n
    induction n with
    | zero =>
      intro j hn hj
      cases hc : fcmp .lss .f64 (twD y j) c075
      · exact ⟨j, hj, hc⟩
      · have := (tw_on hj hc).1; omega
    | succ n ih =>
      intro j hn hj
      cases hc : fcmp .lss .f64 (twD y j) c075
      · exact ⟨j, hj, hc⟩
      · exact ih (j + 1) (by omega) (tw_on hj hc)
  exact key 149 0 (by omega) (tw_start h)
theorem logW_ba {y : Nat} (h : Bg .f64 y (-149) 128) : Ba .f64 (logW y) 97 := by
  obtain ⟨j, hj, hc⟩ := hv_ends h
  obtain ⟨h1, h2⟩ := hv_out hj hc
  obtain ⟨i, hi, hd⟩ := tw_ends h2
  have h3 := tw_out hi hd
  unfold logW lgE
  rw [h1, h3]
  exact lgFin_ba hi.2.2 (by have := hi.1; omega) (by have := hj.1; omega)
theorem logW_bits {y : Nat} (h : Bg .f64 y (-149) 128) : floatToFloatBits .f64 (logW y) .f32 = some (narrowF (logW y)) := (ba_narrow (logW_ba h) (inF32 (by omega) (by omega))).2
end Go.Proofs.Ytmcnfapdghoenaa
/- The logarithm: what the program and the reference compute of a number above zero, in double precision. Condition: a number from 2^-149 to 2^128. -/
namespace Go.Proofs.Ytmcnfapdghoenaa
open Go Go.RowKit Go.ChangeShapes Go.WideShapes Go.ChangeAt

theorem cn_15 : cn .f64 4609434218613702656 = c15 := by decide +kernel
theorem cn_075 : cn .f64 4604930618986332160 = c075 := by decide +kernel
theorem cn_twoD : cn .f64 4611686018427387904 = twoD := by decide +kernel
theorem cn_oneL : cn .f64 4607182418800017408 = oneD := by decide +kernel
theorem cn_ln2 : cn .f64 4604418534313441775 = ln2D := by decide +kernel
theorem ofD_zero : ofD 0 = 0 := by decide +kernel
theorem ofD_25 : ofD 25 = 4627730092099895296 := by decide +kernel
theorem ba_cn {b : Nat} {c : Int} (h : Ba .f64 b c) : cn .f64 b = b := cn_of_not h.notN
theorem HvOk.cn {y j : Nat} (h : HvOk y j) : cn .f64 (hvD y j) = hvD y j := cn_of_not h.2.2.notN
theorem TwOk.cn {y j : Nat} (h : TwOk y j) : cn .f64 (twD y j) = twD y j := cn_of_not h.2.2.notN

set_option maxRecDepth 100000 in
set_option maxHeartbeats 4000000 in
theorem naturalLog_any (y : Nat) (w : World) (hy : Bg .f64 y (-149) 128) :
    Calls Try.prog 35 #[.float .f64 y] w fun e w' => e = .returned (.float .f64 (logW y)) ∧ Ext w w' := by
  have HY := Lib.hid hy
  clear hy
  go_enter Try.func35, Try.ntmps35
  go_wp2_with (first | (refine wpList_fcmp rfl rfl rfl rfl rfl (by first | with_reducible assumption | exact rfl) ?_) | (refine wpList_fop rfl rfl rfl rfl rfl ?_; intro fb nf hfb hfl; replace hfb := Lib.hid hfb; replace hfl := Lib.hid hfl))
  go_loopw [0, 3] (fun x i wr => ∃ j, x = .float .f64 (hvD y j) ∧ i = .float .f64 (ofD j) ∧ HvOk y j ∧ Ext w wr) (fun _ i _ => 200 - (intD i).toNat)
  case atStart => exact ⟨0, rfl, by show Value.float .f64 0 = .float .f64 (ofD 0); rw [ofD_zero], hv_start HY.out, Ext.refl _⟩
  case round =>
    obtain ⟨j, rfl, rfl, hj, X⟩ := hrel
    have hj8 := hj.1
    cases q : fcmp .geq .f64 (hvD y j) c15
    · obtain ⟨hn1, hbg⟩ := hv_out hj q
      have HN1 := Lib.hid hn1
      have HBG := Lib.hid hbg
      have q' : fcmp .geq .f64 (cn .f64 (hvD y j)) (cn .f64 4609434218613702656) = false := by rw [hj.cn, cn_15]; exact q
      clear hn1 hbg hj q
      go_wp2_with (first | (refine wpList_fcmp rfl rfl rfl rfl rfl (by first | with_reducible assumption | exact rfl) ?_) | (refine wpList_fop rfl rfl rfl rfl rfl ?_; intro fb nf hfb hfl; replace hfb := Lib.hid hfb; replace hfl := Lib.hid hfl))
      clear q'
      simp only [Act.put, List.setIfInBounds_toArray, List.set_cons_succ, List.set_cons_zero]
      go_loopw [0, 3] (fun x i wr => ∃ n, x = .float .f64 (twD (hvD y j) n) ∧ i = .float .f64 (ofD ((j : Int) - (n : Int))) ∧ TwOk (hvD y j) n ∧ Ext w wr) (fun _ i _ => (intD i + 400).toNat)
      case atStart => exact ⟨0, rfl, by rw [show (j : Int) - ((0 : Nat) : Int) = j by omega], tw_start HBG.out, X⟩
      case round =>
        obtain ⟨n, rfl, rfl, hn, X2⟩ := hrel
        have hn8 := hn.1
        cases q : fcmp .lss .f64 (twD (hvD y j) n) c075
        · have hn2 := tw_out hn q
          have HN2 := Lib.hid hn2
          have HFB := Lib.hid (lgFin_ba hn.2.2 (e := (j : Int) - (n : Int)) (by omega) (by omega))
          have HBT : Hid (Bg .f64 (twD (hvD y j) n) (-149 + (n : Int)) 1) := hn.2.2
          have q' : fcmp .lss .f64 (cn .f64 (twD (hvD y j) n)) (cn .f64 4604930618986332160) = false := by rw [hn.cn, cn_075]; exact q
          have HW : Hid (logW y = lgFin (twD (hvD y j) n) ((j : Int) - (n : Int))) := by
            show _ = _
            unfold logW lgE
            rw [HN1.out, HN2.out]
          have HTC : Hid (cn .f64 (twD (hvD y j) n) = twD (hvD y j) n) := hn.cn
          clear hn2 hn q HN1 HN2 HBG
          generalize twD (hvD y j) n = t at *
          go_wp2_with (first | (refine wpList_fcmp rfl rfl rfl rfl rfl (by first | with_reducible assumption | exact rfl) ?_) | (refine wpList_fop rfl rfl rfl rfl rfl ?_; intro fb nf hfb hfl; replace hfb := Lib.hid hfb; replace hfl := Lib.hid hfl))
          rename_i b1 m1 e1 l1 b2 m2 e2 l2 b3 m3 e3 l3 K0 a0
          obtain ⟨S, hS⟩ : ∃ S, S = fop .quo .f64 (fop .sub .f64 t oneD) (fop .add .f64 t oneD) := ⟨_, rfl⟩
          have HS : Hid (cn .f64 b3 = S) := by
            show _ = _; rw [e3.out, e2.out, e1.out, HTC.out, cn_oneL, hS]
          have HU : Hid (cn .f64 fb = fop .mul .f64 S S) := by show _ = _; rw [hfb.out, HS.out]
          have HW2 : Hid (logW y = fop .add .f64 (fop .mul .f64 twoD (fop .mul .f64 S (lgQ (fop .mul .f64 S S) 13))) (fop .mul .f64 (ofD ((j : Int) - (n : Int))) ln2D)) := by show _ = _; rw [HW.out, hS]; rfl
          have HFB2 : Hid (isN .f64 (logW y) = false) := by show _ = _; rw [HW.out]; exact HFB.out.notN
          clear hS HW HFB e1 e2 e3 hfb l1 l2 l3 hfl HTC q' HBT
          generalize fop .mul .f64 S S = U at *
          go_loopw [6, 7] (fun q k wq => ∃ (i b : Nat), i ≤ 13 ∧ q = .float .f64 b ∧ k = .float .f64 (ofD (25 - 2 * (i : Int))) ∧ Hid (cn .f64 b = lgQ U i) ∧ Ext w wq) (fun _ k _ => (intD k + 10).toNat)
          case atStart => exact ⟨0, 0, by omega, rfl, by show Value.float .f64 4627730092099895296 = .float .f64 (ofD 25); rw [ofD_25], rfl, X2.trans (Ext.drewN _ _)⟩
          case round =>
            obtain ⟨i, b, hi, rfl, rfl, HB, X3⟩ := hrel
            by_cases hlt : i < 13
            · have q5 : fcmp .geq .f64 (cn .f64 (ofD (25 - 2 * (i : Int)))) (cn .f64 4607182418800017408) = true := by rw [cn_ofD, cn_oneL]; exact (inv_at hlt).2.1
              go_wp2_with (first | (refine wpList_fcmp rfl rfl rfl rfl rfl (by first | with_reducible assumption | exact rfl) ?_) | (refine wpList_fop rfl rfl rfl rfl rfl ?_; intro fb nf hfb hfl; replace hfb := Lib.hid hfb; replace hfl := Lib.hid hfl))
              rename_i c1 k1 f1 g1 c2 k2 f2 g2 c3 k3 f3 g3
              have HN : Hid (cn .f64 c3 = lgQ U (i + 1)) := by
                show _ = _
                rw [f3.out, f2.out, f1.out, HB.out, HU.out, cn_oneL, cn_ofD]; rfl
              have hce : fb = ofD (25 - 2 * ((i + 1 : Nat) : Int)) := bits_of (by rw [hfb.out, cn_ofD, cn_twoD]; exact (inv_at hlt).2.2) (ofD_num _)
              have HM1 : Hid (intD (.float .f64 fb) = 25 - 2 * ((i + 1 : Nat) : Int)) := by show _ = _; rw [hce]; exact toI_ofD (by omega) (by omega)
              have HM2 : Hid (intD (.float .f64 (ofD (25 - 2 * (i : Int)))) = 25 - 2 * (i : Int)) := by show _ = _; exact toI_ofD (by omega) (by omega)
              go_roundw
              case rel => exact ⟨i + 1, c3, by omega, rfl, by rw [hce], HN, X3.trans (Ext.drewN _ _)⟩
              case measure => show (intD (.float .f64 fb) + 10).toNat < (intD (.float .f64 (ofD (25 - 2 * (i : Int)))) + 10).toNat; rw [HM1.out, HM2.out]; omega
            · obtain rfl : i = 13 := by omega
              have q5 : fcmp .geq .f64 (cn .f64 (ofD (25 - 2 * ((13 : Nat) : Int)))) (cn .f64 4607182418800017408) = false := by rw [cn_ofD, cn_oneL]; exact inv_end
              go_wp2_with (first | (refine wpList_fcmp rfl rfl rfl rfl rfl (by first | with_reducible assumption | exact rfl) ?_) | (refine wpList_fop rfl rfl rfl rfl rfl ?_; intro fb nf hfb hfl; replace hfb := Lib.hid hfb; replace hfl := Lib.hid hfl))
              rename_i c1 k1 f1 g1 c2 k2 f2 g2 c3 k3 f3 g3
              have HN : Hid (fb = logW y) := by
                refine bits_of ?_ HFB2.out
                rw [hfb.out, f3.out, f2.out, f1.out, HB.out, HS.out, cn_twoD, cn_ln2, cn_ofD, HW2.out]
              go_ret
              exact ⟨by rw [HN.out]; rfl, X3.trans (Ext.drewN _ _)⟩
        · have q' : fcmp .lss .f64 (cn .f64 (twD (hvD y j) n)) (cn .f64 4604930618986332160) = true := by rw [hn.cn, cn_075]; exact q
          have hn' := tw_on hn q
          have hn9 := hn'.1
          have HT := Lib.hid hn'
          have HTC : Hid (cn .f64 (twD (hvD y j) n) = twD (hvD y j) n) := hn.cn
          have HF : Hid (twD (hvD y j) (n + 1) = fop .mul .f64 (twD (hvD y j) n) twoD) := rfl
          clear hn hn' q
          go_wp2_with (first | (refine wpList_fcmp rfl rfl rfl rfl rfl (by first | with_reducible assumption | exact rfl) ?_) | (refine wpList_fop rfl rfl rfl rfl rfl ?_; intro fb nf hfb hfl; replace hfb := Lib.hid hfb; replace hfl := Lib.hid hfl))
          rename_i c1 k1 f1 g1
          have hfe : c1 = twD (hvD y j) (n + 1) := bits_of (by rw [f1.out, HTC.out, cn_twoD, HF.out]) HT.out.2.2.notN
          have hce : fb = ofD ((j : Int) - ((n + 1 : Nat) : Int)) := bits_of (by rw [hfb.out, cn_ofD, cn_oneL, ofD_sub (by omega) (by omega)]; congr 1; omega) (ofD_num _)
          have HM1 : Hid (intD (.float .f64 fb) = (j : Int) - ((n + 1 : Nat) : Int)) := by show _ = _; rw [hce]; exact toI_ofD (by omega) (by omega)
          have HM2 : Hid (intD (.float .f64 (ofD ((j : Int) - (n : Int)))) = (j : Int) - (n : Int)) := by show _ = _; exact toI_ofD (by omega) (by omega)
          go_roundw
          case rel => exact ⟨n + 1, by rw [hfe], by rw [hce], HT.out, X2.trans (Ext.drewN _ _)⟩
          case measure => show (intD (.float .f64 fb) + 400).toNat < (intD (.float .f64 (ofD ((j : Int) - (n : Int)))) + 400).toNat; rw [HM1.out, HM2.out]; omega
    · have q' : fcmp .geq .f64 (cn .f64 (hvD y j)) (cn .f64 4609434218613702656) = true := by rw [hj.cn, cn_15]; exact q
      have hj' := hv_on hj q
      have hj9 := hj'.1
      have HT := Lib.hid hj'
      have HTC : Hid (cn .f64 (hvD y j) = hvD y j) := hj.cn
      have HF : Hid (hvD y (j + 1) = fop .quo .f64 (hvD y j) twoD) := rfl
      clear hj hj' q
      go_wp2_with (first | (refine wpList_fcmp rfl rfl rfl rfl rfl (by first | with_reducible assumption | exact rfl) ?_) | (refine wpList_fop rfl rfl rfl rfl rfl ?_; intro fb nf hfb hfl; replace hfb := Lib.hid hfb; replace hfl := Lib.hid hfl))
      rename_i c1 k1 f1 g1
      have hfe : c1 = hvD y (j + 1) := bits_of (by rw [f1.out, HTC.out, cn_twoD, HF.out]) HT.out.2.2.notN
      have hce : fb = ofD ((j + 1 : Nat) : Int) := bits_of (by rw [hfb.out, cn_ofD, cn_oneL, ofD_add (by omega) (by omega)]; rfl) (ofD_num _)
      have HM1 : Hid (intD (.float .f64 fb) = ((j + 1 : Nat) : Int)) := by show _ = _; rw [hce]; exact toI_ofD (by omega) (by omega)
      have HM2 : Hid (intD (.float .f64 (ofD (j : Int))) = (j : Int)) := by show _ = _; exact toI_ofD (by omega) (by omega)
      go_roundw
      case rel => exact ⟨j + 1, by rw [hfe], by rw [hce], HT.out, X.trans (Ext.drewN _ _)⟩
      case measure => show 200 - (intD (.float .f64 fb)).toNat < 200 - (intD (.float .f64 (ofD (j : Int)))).toNat; rw [HM1.out, HM2.out]; omega
end Go.Proofs.Ytmcnfapdghoenaa
/- The logarithm in single precision of every number, infinity or not-a-number: what the program and the reference compute. Condition: 32 bits. -/
namespace Go.Proofs.Ytmcnfapdghoenaa
open Go Go.RowKit Go.ChangeShapes Go.WideShapes Go.ChangeAt

/-! ### Narrowing -/
/-- W narrows to r, a not-a-number to the one that stands for all. -/
def NarR (W r : Nat) : Prop := (isN .f64 W = true ∧ r = nanW .f32) ∨ (floatToFloatBits .f64 W .f32 = some r ∧ r < 4294967296 ∧ isN .f32 r = false)
theorem run_narrow {P : Program} (w : World) (src dst : TypeId) (hs : (P.underlying src).isSome = true) (hd : P.underlying dst = some (.float .f32)) {W r : Nat} (h : NarR W r) :
    ∃ v n, (convert src dst (.float .f64 W)).run P w = .ok v (w.drewN n) ∧ FV .f32 r v := by
  rcases h with ⟨h, rfl⟩ | ⟨h, h1, h2⟩
  · obtain ⟨u, hs'⟩ := Option.isSome_iff_exists.1 hs
    obtain ⟨s, f, e0⟩ := read_nan h
    have e0 : (FloatKind.f64).decode W = .nan s f := e0
    have hc : isN .f32 ((Question.nanConv .f32 W).cut (w.tape w.drawn (.nanConv .f32 W))) = true ∧ (Question.nanConv .f32 W).cut (w.tape w.drawn (.nanConv .f32 W)) < 2 ^ 32 := isN_cut .f32 W W _
    refine ⟨.float .f32 ((Question.nanConv .f32 W).cut (w.tape w.drawn (.nanConv .f32 W))), 1, ?_, _, rfl, ?_, hc.2⟩
    · cases u <;> simp [convert, run_underlying hs', run_underlying hd, Conv.floatToFloat, e0, choose, Sem.run, Question.forced, World.drewN]
    · unfold cn; rw [if_pos hc.1]
  · exact ⟨.float .f32 r, 0, run_convert_float_float (P := P) w src dst .f64 .f32 W r hs hd h, r, rfl, cn_of_not h2, h1⟩
theorem wpList_narrowC {P : Program} {ops : Array Oper} {Q : Exit → Act → World → Prop} {o : Oper} {rest : List Oper} {a : Act} {w : World} {src dst : TypeId} {x : Operand} {p r : Nat}
    (hs : (P.underlying src).isSome = true) (hd : P.underlying dst = some (.float .f32)) (hw : Region.wanted o (yielded ops a.tmps) = true) (hop : o.op = .convert src dst x)
    (hx : a.eval x = .float .f64 p) (hr : NarR p r) (hK : ∀ b n, cn .f32 b = r → b < 4294967296 → wpList P ops Q rest (a.put o.dst (.float .f32 b)) (w.drewN n)) : wpList P ops Q (o :: rest) a w := by
  obtain ⟨v, n, hrun, b, rfl, h1, h2⟩ := run_narrow (P := P) w src dst hs hd hr
  unfold wpList
  rw [if_pos hw]
  left
  unfold Oper.wp
  simp [execOp, hop, hx, hrun, Result.andThen]
  exact hK b n h1 h2

/-! ### What kind of number it is -/
def logF (x : Nat) : Nat := match Ieee.single.read x with
  | .nan _ _ => nanW .f32
  | .infinity s => if s then nanW .f32 else 2139095040
  | .number s m _ => if m = 0 then 4286578688 else if s then nanW .f32 else narrowF (logW (wide x))
theorem order_zero {k : FloatKind} {x m : Nat} {s : Bool} {e : Int} (h : k.format.read x = .number s m e) (z : Nat) (hz : ∃ j, k.format.read z = .number false 0 j) :
    k.format.order x z = some (if m = 0 then .eq else if s then .lt else .gt) := by
  obtain ⟨j, hz⟩ := hz
  unfold Ieee.Format.order
  rw [h, hz]
  simp only [Ieee.Datum.order]
  generalize (e - min e j).toNat = a
  generalize (j - min e j).toNat = b
  have h0 : Ieee.signed false 0 b = 0 := by unfold Ieee.signed; simp
  rw [h0]
  have hp : 0 < 2 ^ a := Nat.pow_pos (by omega)
  by_cases hm : m = 0
  · subst hm
    have : Ieee.signed s 0 a = 0 := by unfold Ieee.signed; cases s <;> simp
    rw [this]; rfl
  · have hpos : 0 < m * 2 ^ a := Nat.mul_pos (by omega) hp
    rw [if_neg hm]
    cases s
    · have : Ieee.signed false m a = ((m * 2 ^ a : Nat) : Int) := signed_pos (.inr rfl)
      rw [this]
      show some (compareOfLessAndEq _ _) = _
      unfold compareOfLessAndEq
      rw [if_neg (by omega), if_neg (by omega)]; rfl
    · have : Ieee.signed true m a = -((m * 2 ^ a : Nat) : Int) := by unfold Ieee.signed; rw [Nat.shiftLeft_eq]; rfl
      rw [this]
      show some (compareOfLessAndEq _ _) = _
      unfold compareOfLessAndEq
      rw [if_pos (by omega)]; rfl
theorem order_inf {k : FloatKind} {x : Nat} {s : Bool} (h : k.format.read x = .infinity s) (z : Nat) (hz : ∃ j, k.format.read z = .number false 0 j) :
    k.format.order x z = some (if s then .lt else .gt) := by
  obtain ⟨j, hz⟩ := hz
  unfold Ieee.Format.order
  rw [h, hz]
  cases s <;> rfl
theorem zero32 : ∃ j, (FloatKind.f32).format.read (cn .f32 0) = .number false 0 j := ⟨-149, by decide +kernel⟩
theorem zero64 : ∃ j, (FloatKind.f64).format.read (cn .f64 0) = .number false 0 j := ⟨-1074, by decide +kernel⟩
theorem inf_bits {x : Nat} {s : Bool} (hx : x < 4294967296) (h : Ieee.single.read x = .infinity s) : x = if s then 4286578688 else 2139095040 := by
  unfold Ieee.Format.read at h
  have h1 : Ieee.single.signWeight = 2147483648 := by decide
  have h2 : Ieee.single.binade = 8388608 := by decide
  have h3 : Ieee.single.infRung = 2139095040 := by decide
  simp only [h1, h2, h3] at h
  split at h
  · cases h
  · split at h
    · cases h
    · split at h
      · rename_i h4 h5 h6
        injection h with h
        have h6 : x % 2147483648 = 2139095040 := by omega
        rcases Nat.lt_or_ge x 2147483648 with h7 | h7
        · have : x / 2147483648 = 0 := Nat.div_eq_of_lt h7
          rw [this] at h
          subst h
          rw [Nat.mod_eq_of_lt h7] at h6
          exact h6
        · have : x / 2147483648 = 1 := by omega
          rw [this] at h
          subst h
          show x = 4286578688
          omega
      · cases h
theorem wide_num {x m : Nat} {s : Bool} {e : Int} (h : Ieee.single.read x = .number s m e) (hm : m ≠ 0) :
    ∃ m' e', (FloatKind.f64).format.read (wide x) = .number s m' e' ∧ LeP m' e' 128 ∧ GeP m' e' (-149) := by
  obtain ⟨h1, h2, h3⟩ := single_read h
  have : wide x = (FloatKind.f64).format.write (.number s m e) := by unfold wide; rw [h]; rfl
  rw [this]
  refine nearest_ge (k := .f64) (c := 128) (.inr ⟨by omega, ?_⟩) ⟨hm, by omega⟩ (by decide +kernel) (inF64 (by decide) (by decide))
  have : m < 2 ^ (128 - e).toNat := Nat.lt_of_lt_of_le h1 (Nat.pow_le_pow_right (by omega) (by omega))
  omega
theorem wide_zero {x : Nat} {s : Bool} {e : Int} (h : Ieee.single.read x = .number s 0 e) : ∃ j, (FloatKind.f64).format.read (wide x) = .number s 0 j := by
  have : wide x = (FloatKind.f64).format.word s 0 := by unfold wide; rw [h]; rfl
  rw [this]
  exact ⟨_, read_zero .f64 s⟩
theorem wide_bg {x m : Nat} {e : Int} (h : Ieee.single.read x = .number false m e) (hm : m ≠ 0) : Bg .f64 (wide x) (-149) 128 := by
  obtain ⟨m', e', h1, h2, h3⟩ := wide_num h hm
  exact ⟨m', e', h1, h2, h3⟩
theorem narrow_log {y : Nat} (h : Bg .f64 y (-149) 128) : NarR (logW y) (narrowF (logW y)) := by
  have h1 := ba_narrow (logW_ba h) (inF32 (by omega) (by omega))
  refine .inr ⟨h1.2, ?_, h1.1.notN⟩
  exact Ieee.single.write_lt _
theorem fin_num {x m : Nat} {s : Bool} {e : Int} (h : Ieee.single.read x = .number s m e) (hm : m ≠ 0) (hs : s = false) : finB x = true := by
  obtain ⟨h1, h2, h3⟩ := single_read h
  refine finB_num (c := 128) ⟨s, m, e, h, .inr ⟨by omega, ?_⟩, .inr hs⟩
  have : m < 2 ^ (128 - e).toNat := Nat.lt_of_lt_of_le h1 (Nat.pow_le_pow_right (by omega) (by omega))
  omega

/-! ### The contracts -/
theorem inf_minus (w : World) : Calls Try.prog 33 #[.int .i64 (-1)] w fun e w' => e = .returned (.float .f64 18442240474082181120) ∧ w = w' := by
  have hrun := fun n w => ex_f64frombits n w
  go_enter Try.func33, Try.ntmps33
  go_wp2_with fail
  go_ret
  exact ⟨rfl, rfl⟩
theorem nan_any (w : World) : Calls Try.prog 34 #[] w fun e w' => e = .returned (.float .f64 9221120237041090561) ∧ w = w' := by
  have hrun := fun n w => ex_f64frombits n w
  go_enter Try.func34, Try.ntmps34
  go_wp2_with fail
  go_ret
  exact ⟨rfl, rfl⟩
set_option maxHeartbeats 4000000 in
theorem logNumber_any (x : Nat) (w : World) (hx : x < 4294967296) :
    Calls Try.prog 23 #[.float .f32 x] w fun e w' => ∃ b, e = .returned (.float .f32 b) ∧ cn .f32 b = logF (cn .f32 x) ∧ b < 4294967296 ∧ Ext w w' := by
  have wa : (Try.prog.underlying 24).isSome = true := by kernel_rfl
  have wb : (Try.prog.underlying 32).isSome = true := by kernel_rfl
  cases hr : Ieee.single.read x with
  | nan s f =>
    have hN : isN .f32 x = true := by unfold isN; rw [show (FloatKind.f32).format.read x = .nan s f from hr]; rfl
    have q1 : fcmp .eql .f32 (cn .f32 x) (cn .f32 0) = false := by rw [fcmp_cn]; unfold fcmp; rw [order_nan _ _ _ hN]; rfl
    have q2 : fcmp .lss .f32 (cn .f32 x) (cn .f32 0) = false := by rw [fcmp_cn]; unfold fcmp; rw [order_nan _ _ _ hN]; rfl
    have q3 : fcmp .neq .f32 (cn .f32 x) (cn .f32 x) = true := by rw [fcmp_self_neq, isN_cn, hN]
    have HR : Hid (NarR 9221120237041090561 (nanW .f32)) := .inl ⟨by decide +kernel, rfl⟩
    have HL : Hid (logF (cn .f32 x) = nanW .f32) := by
      obtain ⟨s', f', e'⟩ := read_nan (k := .f32) (b := cn .f32 x) (by rw [isN_cn, hN])
      show _ = _; unfold logF; rw [show Ieee.single.read (cn .f32 x) = .nan s' f' from e']
    clear hN hr hx
    go_enter Try.func23, Try.ntmps23
    go_wp2_with (refine wpList_fcmp rfl rfl rfl rfl rfl (by first | with_reducible assumption | exact rfl) ?_)
    refine (nan_any _).mono ?_
    rintro e w1 ⟨rfl, rfl⟩
    go_wp2_with (refine wpList_narrowC wb Try.underlying24 rfl rfl rfl HR.out ?_; intro zb zn hzb hzl; replace hzb := Lib.hid hzb)
    go_ret
    exact ⟨_, rfl, by rw [hzb.out, HL.out], hzl, Ext.drewN _ _⟩
  | infinity s =>
    have hb := inf_bits hx hr
    cases s
    · have q1 : fcmp .eql .f32 (cn .f32 2139095040) (cn .f32 0) = false := by decide +kernel
      have q2 : fcmp .lss .f32 (cn .f32 2139095040) (cn .f32 0) = false := by decide +kernel
      have q3 : fcmp .neq .f32 (cn .f32 2139095040) (cn .f32 2139095040) = false := by decide +kernel
      have HF : Hid (finB (cn .f32 2139095040) = false) := by show _ = _; decide +kernel
      have HL : Hid (cn .f32 2139095040 = logF (cn .f32 2139095040)) := by show _ = _; decide +kernel
      simp only [Bool.false_eq_true, if_false] at hb
      subst hb
      clear hr hx
      go_enter Try.func23, Try.ntmps23
      go_wp2_with (refine wpList_fcmp rfl rfl rfl rfl rfl (by first | with_reducible assumption | exact rfl) ?_)
      refine (isFinite_eq HF.out _).mono ?_
      rintro e w1 ⟨rfl, X⟩
      go_wp2_with fail
      go_ret
      exact ⟨_, rfl, HL.out, by decide, X⟩
    · have q1 : fcmp .eql .f32 (cn .f32 4286578688) (cn .f32 0) = false := by decide +kernel
      have q2 : fcmp .lss .f32 (cn .f32 4286578688) (cn .f32 0) = true := by decide +kernel
      have HR : Hid (NarR 9221120237041090561 (nanW .f32)) := .inl ⟨by decide +kernel, rfl⟩
      have HL : Hid (nanW .f32 = logF (cn .f32 4286578688)) := by show _ = _; decide +kernel
      simp only [if_true] at hb
      subst hb
      clear hr hx
      go_enter Try.func23, Try.ntmps23
      go_wp2_with (refine wpList_fcmp rfl rfl rfl rfl rfl (by first | with_reducible assumption | exact rfl) ?_)
      refine (nan_any _).mono ?_
      rintro e w1 ⟨rfl, rfl⟩
      go_wp2_with (refine wpList_narrowC wb Try.underlying24 rfl rfl rfl HR.out ?_; intro zb zn hzb hzl; replace hzb := Lib.hid hzb)
      go_ret
      exact ⟨_, rfl, by rw [hzb.out, HL.out], hzl, Ext.drewN _ _⟩
  | number s m e =>
    have hN : isN .f32 x = false := by unfold isN; rw [show (FloatKind.f32).format.read x = .number s m e from hr]; rfl
    have hc : cn .f32 x = x := cn_of_not hN
    have ho := order_zero (k := .f32) (show (FloatKind.f32).format.read x = .number s m e from hr) (cn .f32 0) zero32
    have q3 : fcmp .neq .f32 (cn .f32 x) (cn .f32 x) = false := by rw [fcmp_self_neq, isN_cn, hN]
    have hL : logF (cn .f32 x) = if m = 0 then 4286578688 else if s then nanW .f32 else narrowF (logW (wide x)) := by rw [hc]; unfold logF; rw [hr]
    by_cases hm : m = 0
    · have q1 : fcmp .eql .f32 (cn .f32 x) (cn .f32 0) = true := by rw [hc]; unfold fcmp; rw [ho, if_pos hm]; rfl
      have HR : Hid (NarR 18442240474082181120 4286578688) := .inr ⟨by decide +kernel, by decide, by decide +kernel⟩
      rw [if_pos hm] at hL
      have HL := Lib.hid hL
      clear hN hc ho q3 hL hr hx hm
      go_enter Try.func23, Try.ntmps23
      go_wp2_with (refine wpList_fcmp rfl rfl rfl rfl rfl (by first | with_reducible assumption | exact rfl) ?_)
      refine (inf_minus _).mono ?_
      rintro e w1 ⟨rfl, rfl⟩
      go_wp2_with (refine wpList_narrowC wb Try.underlying24 rfl rfl rfl HR.out ?_; intro zb zn hzb hzl; replace hzb := Lib.hid hzb)
      go_ret
      exact ⟨_, rfl, by rw [hzb.out, HL.out], hzl, Ext.drewN _ _⟩
    · have q1 : fcmp .eql .f32 (cn .f32 x) (cn .f32 0) = false := by rw [hc]; unfold fcmp; rw [ho, if_neg hm]; cases s <;> rfl
      rw [if_neg hm] at hL ho
      cases s
      · have q2 : fcmp .lss .f32 (cn .f32 x) (cn .f32 0) = false := by rw [hc]; unfold fcmp; rw [ho]; rfl
        have HF : Hid (finB (cn .f32 x) = true) := by show _ = _; rw [hc]; exact fin_num hr hm rfl
        have hbg := wide_bg hr hm
        have HB := Lib.hid hbg
        have HR := Lib.hid (narrow_log hbg)
        have HNW : Hid (isN .f64 (wide x) = false) := hbg.notN
        simp only [Bool.false_eq_true, if_false] at hL
        have HL := Lib.hid hL
        have HC := Lib.hid hc
        clear hN hc ho hL hr hx hm hbg
        go_enter Try.func23, Try.ntmps23
        go_wp2_with (refine wpList_fcmp rfl rfl rfl rfl rfl (by first | with_reducible assumption | exact rfl) ?_)
        refine (isFinite_eq HF.out _).mono ?_
        rintro e w1 ⟨rfl, X⟩
        go_wp2_with (refine wpList_wide wa Try.underlying32 rfl rfl rfl ?_; intro zb zn hzb hzl; clear hzl; replace hzb := Lib.hid hzb)
        obtain rfl : zb = wide x := bits_of (by rw [hzb.out, HC.out]) HNW.out
        refine (naturalLog_any _ _ HB.out).mono ?_
        rintro e w2 ⟨rfl, X2⟩
        go_wp2_with (refine wpList_narrowC wb Try.underlying24 rfl rfl rfl HR.out ?_; intro ub un hub hul; replace hub := Lib.hid hub)
        go_ret
        exact ⟨_, rfl, by rw [hub.out, HL.out], hul, X.trans ((Ext.drewN _ _).trans (X2.trans (Ext.drewN _ _)))⟩
      · have q2 : fcmp .lss .f32 (cn .f32 x) (cn .f32 0) = true := by rw [hc]; unfold fcmp; rw [ho]; rfl
        have HR : Hid (NarR 9221120237041090561 (nanW .f32)) := .inl ⟨by decide +kernel, rfl⟩
        simp only [if_true] at hL
        have HL := Lib.hid hL
        clear hN hc ho q3 hL hr hx hm
        go_enter Try.func23, Try.ntmps23
        go_wp2_with (refine wpList_fcmp rfl rfl rfl rfl rfl (by first | with_reducible assumption | exact rfl) ?_)
        refine (nan_any _).mono ?_
        rintro e w1 ⟨rfl, rfl⟩
        go_wp2_with (refine wpList_narrowC wb Try.underlying24 rfl rfl rfl HR.out ?_; intro zb zn hzb hzl; replace hzb := Lib.hid hzb)
        go_ret
        exact ⟨_, rfl, by rw [hzb.out, HL.out], hzl, Ext.drewN _ _⟩
end Go.Proofs.Ytmcnfapdghoenaa
