
/- Sums, roots and small quotients of numbers not below zero: how great they are; the sums of SurvivorSpreads. Plain. -/
import Derived.Test.YtlbmjeennpccmaaEx
import Derived.Test.YtlbmjeennpccmaaTa
import Derived.Test.YtlbmjeennpccmaaLv
namespace Go.Proofs.Ytlbmjeennpccmaa
open Go Go.RowKit

theorem LeP.scale {m : Nat} {p c b : Int} (h : LeP m p c) (hb : b ≤ p) : LeP (m * 2 ^ (p - b).toNat) b c := by
  rcases h with rfl | ⟨h1, h2⟩
  · exact .inl (Nat.zero_mul _)
  · right
    refine ⟨by omega, ?_⟩
    have : (c - b).toNat = (c - p).toNat + (p - b).toNat := by omega
    rw [this, Nat.pow_add]
    exact Nat.mul_le_mul_right _ h2
theorem LeP.add {m n : Nat} {p c : Int} (h : LeP m p c) (h' : LeP n p c) : LeP (m + n) p (c + 1) := by
  rcases h with rfl | ⟨h1, h2⟩
  · rw [Nat.zero_add]; exact h'.mono (by omega)
  · rcases h' with rfl | ⟨_, h3⟩
    · exact LeP.mono (.inr ⟨h1, h2⟩) (by omega)
    · right
      refine ⟨by omega, ?_⟩
      have : (c + 1 - p).toNat = (c - p).toNat + 1 := by omega
      rw [this, Nat.pow_succ]
      omega
theorem signed_pos {s : Bool} {m u : Nat} (h : m = 0 ∨ s = false) : Ieee.signed s m u = ((m * 2 ^ u : Nat) : Int) := by
  unfold Ieee.signed
  rw [Nat.shiftLeft_eq]
  rcases h with rfl | rfl
  · cases s <;> simp
  · simp
theorem bp_add {k : FloatKind} {x y : Nat} {c : Int} (hx : Bp k x c) (hy : Bp k y c) (hc : InF k (c + 1)) : Bp k (fop .add k x y) (c + 1) := by
  obtain ⟨s, m, i, h1, h2, h3⟩ := hx
  obtain ⟨t, n, j, h4, h5, h6⟩ := hy
  generalize hb : min i j = base
  have hi := h2.scale (b := base) (by omega)
  have hj := h5.scale (b := base) (by omega)
  have e1 : Ieee.signed s m (i - base).toNat = _ := signed_pos h3
  have e2 : Ieee.signed t n (j - base).toNat = _ := signed_pos h6
  generalize hM : m * 2 ^ (i - base).toNat = M at *
  generalize hN : n * 2 ^ (j - base).toNat = N at *
  have hf : ∃ g, fop .add k x y = k.format.write (.number g (M + N) base) ∧ (M + N = 0 ∨ g = false) := by
    refine ⟨if ((M : Int) + N) = 0 then s && t else decide ((M : Int) + N < 0), ?_, ?_⟩
    · unfold fop floatBits Ieee.Format.add
      rw [h1, h4]
      simp only [Ieee.Datum.sum, hb, e1, e2]
      have : ((M : Int) + N).natAbs = M + N := by omega
      rw [this]
      rfl
    · by_cases h0 : (M : Int) + N = 0
      · left; omega
      · right; rw [if_neg h0, decide_eq_false_iff_not]; omega
  obtain ⟨g, e, hg⟩ := hf
  rw [e]
  exact bp_write (hi.add hj) hg hc

theorem rootFrom_lt (n : Nat) : ∀ (todo r : Nat), Ieee.Datum.rootFrom n todo r < r + 2 ^ todo
  | 0, r => by unfold Ieee.Datum.rootFrom; simp
  | todo + 1, r => by
    unfold Ieee.Datum.rootFrom
    have h1 := rootFrom_lt n todo r
    have h2 := rootFrom_lt n todo (r + 1 <<< todo)
    rw [Nat.shiftLeft_eq, Nat.one_mul] at h2
    rw [Nat.shiftLeft_eq, Nat.one_mul, Nat.pow_succ]
    simp only
    split <;> omega
theorem bp_root {k : FloatKind} {x : Nat} {d : Int} (hx : Bp k x (2 * d)) (hc : InF k (d + 1)) (hd : InF k (2 * d)) : ∃ r, k.format.sqrt x = some r ∧ (Bp k r (d + 1) ∨ Bp k r (2 * d)) := by
  obtain ⟨s, m, i, h1, h2, h3⟩ := hx
  unfold Ieee.Format.sqrt
  rw [h1]
  by_cases hm : m = 0
  · refine ⟨k.format.write (.number s m i), ?_, .inr (bp_write (.inl hm) (.inl hm) hd)⟩
    unfold Ieee.Datum.root
    dsimp only
    rw [if_pos hm]; rfl
  · have hs : s = false := h3.resolve_left hm
    subst hs
    have hlog := h2.log hm
    generalize hdg : k.format.fractionBits + 2 = dg
    generalize hm0 : 2 * dg - m.log2 = more0
    generalize hm1 : more0 + ((i - (more0 : Int)) % 2).toNat = more
    have hlg : (m <<< more).log2 ≤ m.log2 + more := by
      have hne : m <<< more ≠ 0 := by rw [Nat.shiftLeft_eq]; exact Nat.mul_ne_zero hm (Nat.pos_iff_ne_zero.1 (Nat.pow_pos (by omega)))
      have hlt : m <<< more < 2 ^ (m.log2 + more + 1) := by
        rw [Nat.shiftLeft_eq, show m.log2 + more + 1 = (m.log2 + 1) + more by omega, Nat.pow_add]
        exact Nat.mul_lt_mul_of_pos_right Nat.lt_log2_self (Nat.pow_pos (by omega))
      have := (Nat.log2_lt hne).2 hlt
      omega
    have hw := rootFrom_lt (m <<< more) ((m <<< more).log2 / 2 + 1) 0
    generalize hW : Ieee.Datum.rootFrom (m <<< more) ((m <<< more).log2 / 2 + 1) 0 = W at hw
    refine ⟨k.format.write (.number false (2 * W + (W * W != m <<< more).toNat) ((i - more) / 2 - 1)), ?_, .inl (bp_write ?_ (.inr rfl) hc)⟩
    · unfold Ieee.Datum.root
      dsimp only
      rw [if_neg hm]
      simp only [Bool.false_eq_true, if_false, hm0, hm1, hW]
      rfl
    · right
      have hbt : ∀ b : Bool, b.toNat ≤ 1 := fun b => by cases b <;> simp
      have := hbt (W * W != m <<< more)
      refine ⟨by omega, ?_⟩
      have h4 : 2 * W + (W * W != m <<< more).toNat ≤ 2 ^ ((m <<< more).log2 / 2 + 2) := by
        rw [Nat.pow_succ _ ((m <<< more).log2 / 2 + 1)]; omega
      exact Nat.le_trans h4 (Nat.pow_le_pow_right (by omega) (by omega))
theorem wide_bp {x : Nat} {c : Int} (h : Bp .f32 x c) (hc : InF .f64 c) : Bp .f64 (wide x) c := by
  obtain ⟨s, m, e, h1, h2, h3⟩ := h
  have : wide x = Ieee.double.write (.number s m e) := by
    unfold wide
    have h1' : Ieee.single.read x = .number s m e := h1
    rw [h1']
  rw [this]
  exact bp_write (k := .f64) h2 h3 hc
/-- The root of a number not above 2^48, in double precision and narrowed. -/
def rootW (x : Nat) : Nat := ((FloatKind.f64).format.sqrt (wide x)).getD 0
def rootF (x : Nat) : Nat := narrowF (rootW x)
theorem rootW_eq {x : Nat} (h : Bp .f32 x 48) : (FloatKind.f64).format.sqrt (wide x) = some (rootW x) ∧ Bp .f64 (rootW x) 48 := by
  have hw := wide_bp h (inF64 (by decide) (by decide))
  obtain ⟨r, h1, h2⟩ := bp_root (k := .f64) (d := 24) hw (inF64 (by decide) (by decide)) (inF64 (by decide) (by decide))
  unfold rootW
  rw [h1]
  exact ⟨rfl, h2.elim (fun h => h.mono (by decide)) id⟩
theorem rootF_bits {x : Nat} (h : Bp .f32 x 48) : floatToFloatBits .f64 (rootW x) .f32 = some (rootF x) := (narrow_bp (rootW_eq h).2 (inF32 (by decide) (by decide))).2

/-! ### Small quotients -/
def bp0B (b : Nat) : Bool := match (FloatKind.f32).format.read b with
  | .number s m e => (m == 0 || (decide (e ≤ 0) && decide (m ≤ 2 ^ (0 - e).toNat))) && (m == 0 || !s)
  | _ => false
theorem bp0B_bp {b : Nat} (h : bp0B b = true) : Bp .f32 b 0 := by
  unfold bp0B at h
  split at h
  · rename_i s m e he
    simp only [Bool.and_eq_true, Bool.or_eq_true, beq_iff_eq, decide_eq_true_eq, Bool.not_eq_true'] at h
    exact ⟨s, m, e, he, h.1, h.2⟩
  · cases h
theorem quoI_all : ((List.range 49).all fun r => (List.range r).all fun d => bp0B (fop .quo .f32 (ofI (d : Int)) (ofI ((r * (r - d) : Nat) : Int)))) = true := by decide +kernel
theorem quoI_bp {d r : Nat} (h : d < r) (hr : r ≤ 48) : Bp .f32 (fop .quo .f32 (ofI (d : Int)) (ofI ((r * (r - d) : Nat) : Int))) 0 := by
  have h0 := quoI_all
  rw [List.all_eq_true] at h0
  have h1 := h0 r (List.mem_range.2 (by omega))
  rw [List.all_eq_true] at h1
  exact bp0B_bp (h1 d (List.mem_range.2 h))

/-! ### The sums -/
theorem eql_geq {k : FloatKind} {x y : Nat} (h : fcmp .eql k x y = true) : fcmp .geq k x y = true := by
  unfold fcmp at h ⊢
  simp only [beq_iff_eq] at h
  simp [h]
theorem fell_risk (t : Nat) (ls : List Lf) : cntB (fellB t) ls ≤ cntB (riskB t) ls := by
  unfold cntB
  refine List.countP_mono_left fun x _ h => ?_
  unfold fellB at h
  rw [Bool.and_eq_true] at h
  exact eql_geq h.2
def spQ (ls : List Lf) (t : Nat) : Nat := fop .quo .f32 (ofI (cntB (fellB t) ls)) (ofI ((cntB (riskB t) ls * (cntB (riskB t) ls - cntB (fellB t) ls) : Nat) : Int))
def spF (ls : List Lf) (s t : Nat) : Nat := fop .add .f32 s (spQ ls t)
/-- Some are left behind t. -/
def spB (ls : List Lf) (t : Nat) : Bool := !decide (cntB (fellB t) ls = cntB (riskB t) ls)
def spK (ls : List Lf) : Nat := ((timesL ls).takeWhile (spB ls)).length
def spS (ls : List Lf) (k : Nat) : Nat := accK (spF ls) (cn .f32 0) (timesL ls) k
def spX (ls : List Lf) (k : Nat) : Nat := fop .mul .f32 ((survL ls).getD k 0) (rootF (spS ls (k + 1)))
def spL (ls : List Lf) (k : Nat) : List Nat := (List.range k).map (spX ls)
def spO (ls : List Lf) : Option (List Nat) := if livesB ls && finAll (spL ls (spK ls)) then some (spL ls (spK ls)) else none
theorem spL_succ (ls : List Lf) (k : Nat) : spL ls (k + 1) = spL ls k ++ [spX ls k] := by
  unfold spL; rw [List.range_succ, List.map_append]; rfl
theorem spL_len (ls : List Lf) (k : Nat) : (spL ls k).length = k := by simp [spL]
theorem while_at {α : Type _} (p : α → Bool) : ∀ (T : List α), (∀ j (h : j < (T.takeWhile p).length) (h' : j < T.length), p T[j] = true) ∧ (∀ h : (T.takeWhile p).length < T.length, p (T[(T.takeWhile p).length]) = false)
  | [] => ⟨fun j h => by simp at h, fun h => by simp at h⟩
  | x :: T => by
    obtain ⟨h1, h2⟩ := while_at p T
    cases hx : p x
    · have e : (x :: T).takeWhile p = [] := by rw [List.takeWhile_cons, hx]; rfl
      rw [e]
      exact ⟨fun j h => by simp at h, fun _ => hx⟩
    · have e : (x :: T).takeWhile p = x :: T.takeWhile p := by rw [List.takeWhile_cons, hx]; rfl
      rw [e]
      refine ⟨fun j h h' => ?_, fun h => ?_⟩
      · cases j with
        | zero => exact hx
        | succ j => exact h1 j (by simpa using h) (by simpa using h')
      · exact h2 (by simpa using h)
theorem spK_le (ls : List Lf) : spK ls ≤ (timesL ls).length := (List.takeWhile_prefix _).length_le
theorem spK_yes {ls : List Lf} {k : Nat} (hk : k ≤ spK ls) (h : k < (timesL ls).length) (hp : spB ls ((timesL ls)[k]) = true) : k + 1 ≤ spK ls := by
  rcases Nat.lt_or_ge k (spK ls) with h1 | h1
  · exact h1
  · have e : k = spK ls := by omega
    have := (while_at (spB ls) (timesL ls)).2 (by rw [e] at h; exact h)
    subst e
    unfold spK at hp
    rw [this] at hp; cases hp
theorem spK_no {ls : List Lf} {k : Nat} (hk : k ≤ spK ls) (h : k < (timesL ls).length) (hp : spB ls ((timesL ls)[k]) = false) : spK ls = k := by
  rcases Nat.lt_or_ge k (spK ls) with h1 | h1
  · have := (while_at (spB ls) (timesL ls)).1 k h1 h
    rw [this] at hp; cases hp
  · omega
theorem spQ_bp {ls : List Lf} {t : Nat} (hl : ls.length ≤ 48) (h : spB ls t = true) : Bp .f32 (spQ ls t) 0 := by
  have h1 := fell_risk t ls
  have h2 : cntB (riskB t) ls ≤ ls.length := List.countP_le_length
  have h3 : cntB (fellB t) ls ≠ cntB (riskB t) ls := by simpa [spB] using h
  exact quoI_bp (by omega) (by omega)
theorem spS_bp {ls : List Lf} (hl : ls.length ≤ 48) : ∀ k, k ≤ spK ls → Bp .f32 (spS ls k) k
  | 0, _ => ⟨false, 0, -149, by show (FloatKind.f32).format.read (cn .f32 0) = _; decide +kernel, .inl rfl, .inl rfl⟩
  | k + 1, h => by
    have hk := spK_le ls
    have ht := timesL_len ls
    have h0 : k < (timesL ls).length := by omega
    have e : spS ls (k + 1) = fop .add .f32 (spS ls k) (spQ ls (timesL ls)[k]) := accK_succ h0
    rw [e]
    have h1 := spS_bp hl k (by omega)
    have h2 := (spQ_bp hl ((while_at (spB ls) (timesL ls)).1 k (by show k < spK ls; omega) h0)).mono (d := (k : Int)) (by omega)
    exact bp_add h1 h2 (inF32 (by omega) (by omega))
theorem spS_48 {ls : List Lf} (hl : ls.length ≤ 48) {k : Nat} (h : k ≤ spK ls) : Bp .f32 (spS ls k) 48 := by
  have := spK_le ls
  have := timesL_len ls
  exact (spS_bp hl k h).mono (by omega)
end Go.Proofs.Ytlbmjeennpccmaa
