
/- The chance that the diagram of a tree tells is the tree's, nearly. Plain. Condition: at most five parts. -/
import Derived.Test.YtgmdoboeenpjpaaVA
import Derived.Test.YtgmdoboeenpjpaaZ23
import Derived.Test.YtgmdoboeenpjpaaDI2
import Derived.Test.YtgmdoboeenpjpaaBb
namespace Go.Proofs.Ytgmdoboeenpjpaa
open Go Go.RowKit

attribute [local irreducible] tw
/-- The chance from a place on, of what has failed before. -/
def DgR (C : Nat → Rat) (f : Nat → Bool) : Nat → Nat → Nat → Rat
  | 0, _, set => ind f set
  | k + 1, place, set => (1 - C place) * DgR C f k (place + 1) set + C place * DgR C f k (place + 1) (set + 2 ^ place)
theorem Ex_two {C : Nat → Rat} {p : Nat} : ∀ (q : Nat) (G : Nat → Rat), Ex C (p + q) G = Ex C p (fun u => Ex (fun i => C (p + i)) q (fun v => G (u + v * 2 ^ p)))
  | 0, G => by
    show Ex C p G = Ex C p (fun u => G (u + 0 * 2 ^ p))
    exact Ex_congr fun s _ => by rw [Nat.zero_mul, Nat.add_zero]
  | q + 1, G => by
    show (1 - C (p + q)) * Ex C (p + q) G + C (p + q) * Ex C (p + q) (fun t => G (t + 2 ^ (p + q))) = Ex C p (fun u => (1 - C (p + q)) * Ex (fun i => C (p + i)) q (fun v => G (u + v * 2 ^ p)) + C (p + q) * Ex (fun i => C (p + i)) q (fun v => G (u + (v + 2 ^ q) * 2 ^ p)))
    rw [Ex_two q G, Ex_two q fun t => G (t + 2 ^ (p + q))]
    have e : (fun u => Ex (fun i => C (p + i)) q (fun v => G (u + v * 2 ^ p + 2 ^ (p + q)))) = fun u => Ex (fun i => C (p + i)) q (fun v => G (u + (v + 2 ^ q) * 2 ^ p)) := by
      funext u
      congr 1
      funext v
      rw [Nat.add_mul, ← Nat.pow_add, Nat.add_comm q p, Nat.add_assoc]
    rw [e]
    have hl : ∀ (a b : Rat) (p : Nat) (A B : Nat → Rat), Ex C p (fun u => a * A u + b * B u) = a * Ex C p A + b * Ex C p B := by
      intro a b p
      induction p with
      | zero => intro A B; rfl
      | succ p ih =>
        intro A B
        show (1 - C p) * Ex C p (fun u => a * A u + b * B u) + C p * Ex C p (fun u => a * A (u + 2 ^ p) + b * B (u + 2 ^ p)) = a * ((1 - C p) * Ex C p A + C p * Ex C p (fun t => A (t + 2 ^ p))) + b * ((1 - C p) * Ex C p B + C p * Ex C p (fun t => B (t + 2 ^ p)))
        rw [ih A B, ih (fun t => A (t + 2 ^ p)) (fun t => B (t + 2 ^ p))]
        grind
    exact (hl (1 - C (p + q)) (C (p + q)) p (fun u => Ex (fun i => C (p + i)) q (fun v => G (u + v * 2 ^ p))) (fun u => Ex (fun i => C (p + i)) q (fun v => G (u + (v + 2 ^ q) * 2 ^ p)))).symm
/-- The lowest part first. -/
theorem Ex_low (C : Nat → Rat) (k : Nat) (G : Nat → Rat) : Ex C (1 + k) G = (1 - C 0) * Ex (fun i => C (1 + i)) k (fun v => G (v * 2)) + C 0 * Ex (fun i => C (1 + i)) k (fun v => G (1 + v * 2)) := by
  rw [Ex_two]
  show (1 - C 0) * Ex (fun i => C (1 + i)) k (fun v => G (0 + v * 2 ^ 1)) + C 0 * Ex (fun i => C (1 + i)) k (fun v => G (0 + 2 ^ 0 + v * 2 ^ 1)) = _
  have e1 : (fun v => G (0 + v * 2 ^ 1)) = fun v => G (v * 2) := by funext v; rw [Nat.zero_add]
  have e2 : (fun v => G (0 + 2 ^ 0 + v * 2 ^ 1)) = fun v => G (1 + v * 2) := by funext v; rfl
  rw [e1, e2]
theorem DgR_ex (f : Nat → Bool) : ∀ (k place set : Nat) (C : Nat → Rat), DgR C f k place set = Ex (fun i => C (place + i)) k (fun t => ind f (set + t * 2 ^ place))
  | 0, place, set, C => by show ind f set = ind f (set + 0 * 2 ^ place); rw [Nat.zero_mul, Nat.add_zero]
  | k + 1, place, set, C => by
    have h := Ex_low (fun i => C (place + i)) k (fun t => ind f (set + t * 2 ^ place))
    rw [Nat.add_comm 1 k] at h
    rw [h]
    show (1 - C place) * DgR C f k (place + 1) set + C place * DgR C f k (place + 1) (set + 2 ^ place) = _
    rw [DgR_ex f k (place + 1) set C, DgR_ex f k (place + 1) (set + 2 ^ place) C]
    have a1 : (fun i => C (place + 1 + i)) = fun i => C (place + (1 + i)) := by funext i; rw [Nat.add_assoc]
    have a2 : (fun t => ind f (set + t * 2 ^ (place + 1))) = fun v => ind f (set + v * 2 * 2 ^ place) := by funext t; rw [Nat.pow_succ, Nat.mul_assoc, Nat.mul_comm 2]
    have a3 : (fun t => ind f (set + 2 ^ place + t * 2 ^ (place + 1))) = fun v => ind f (set + (1 + v * 2) * 2 ^ place) := by
      funext t; rw [Nat.pow_succ, Nat.add_mul, Nat.one_mul, Nat.add_assoc, Nat.mul_assoc, Nat.mul_comm 2]
    rw [a1, a2, a3, Nat.add_zero]
theorem DgR_all (f : Nat → Bool) (p : Nat) (C : Nat → Rat) : DgR C f p 0 0 = Ex C p (ind f) := by
  rw [DgR_ex]
  have a1 : (fun i => C (0 + i)) = C := by funext i; rw [Nat.zero_add]
  have a2 : (fun t => ind f (0 + t * 2 ^ 0)) = ind f := by funext t; rw [Nat.zero_add, Nat.pow_zero, Nat.mul_one]
  rw [a1, a2]
theorem DgR_in {C : Nat → Rat} {p : Nat} (hC : InU C p) (f : Nat → Bool) : ∀ k place set, place + k ≤ p → 0 ≤ DgR C f k place set ∧ DgR C f k place set ≤ 1
  | 0, _, set, _ => ⟨ind_nn f set, ind_le f set⟩
  | k + 1, place, set, h => by
    obtain ⟨a0, a1⟩ := DgR_in hC f k (place + 1) set (by omega)
    obtain ⟨b0, b1⟩ := DgR_in hC f k (place + 1) (set + 2 ^ place) (by omega)
    obtain ⟨c0, c1⟩ := hC place (by omega)
    have m1 := rmul_nn (show (0 : Rat) ≤ 1 - C place by grind) a0
    have m2 := rmul_nn c0 b0
    have m3 := rmul_le a1 (show (0 : Rat) ≤ 1 - C place by grind)
    have m4 := rmul_le b1 c0
    unfold DgR
    constructor <;> grind
/-! ### What nodes are worth -/
/-- How much a node of so many parts errs. -/
def erD : Nat → Rat
  | 0 => 0
  | k + 1 => 4 * erD k + 4 * dl
theorem erD_nn : ∀ k, 0 ≤ erD k
  | 0 => Rat.le_refl
  | k + 1 => by have := erD_nn k; have := dl_pos; unfold erD; grind
theorem erD_mono (k : Nat) : erD k ≤ erD (k + 1) := by have := erD_nn k; have := dl_pos; show _ ≤ 4 * erD k + 4 * dl; grind
theorem erD_5 : ∀ k, k ≤ 5 → erD k ≤ 3 / 10000 := by
  intro k hk
  have : k = 0 ∨ k = 1 ∨ k = 2 ∨ k = 3 ∨ k = 4 ∨ k = 5 := by omega
  rcases this with h | h | h | h | h | h <;> subst h <;> decide +kernel
/-- The number that a list of nodes gives to a reference. -/
def refV (C : List Nat) (L : List Nd) (x : Int) : Nat := ofN (toldL (flatN L) C L.length) x
theorem toldL_app (C : List Nat) (L M : List Nd) : ∀ k, k ≤ L.length → toldL (flatN (L ++ M)) C k = toldL (flatN L) C k
  | 0, _ => rfl
  | k + 1, h => by
    have ih := toldL_app C L M k (by omega)
    obtain ⟨h1, h2, h3⟩ := flatN_at L k (by omega)
    obtain ⟨g1, g2, g3⟩ := flatN_at (L ++ M) k (by rw [List.length_append]; omega)
    have hk : (L ++ M)[k]'(by rw [List.length_append]; omega) = L[k]'(by omega) := List.getElem_append_left (by omega)
    rw [hk] at g1 g2 g3
    have e : nodeV (flatN (L ++ M)) C (toldL (flatN L) C k) k = nodeV (flatN L) C (toldL (flatN L) C k) k := by
      unfold nodeV
      simp only [List.getD_eq_getElem?_getD, h1, h2, h3, g1, g2, g3]
    show toldL (flatN (L ++ M)) C k ++ [nodeV (flatN (L ++ M)) C (toldL (flatN (L ++ M)) C k) k] = toldL (flatN L) C k ++ [nodeV (flatN L) C (toldL (flatN L) C k) k]
    rw [ih, e]
theorem told_get (D : List Int) (C : List Nat) : ∀ k n, n ≤ k → (toldL D C k).take n = toldL D C n
  | 0, n, h => by have : n = 0 := by omega
                  subst this; rfl
  | k + 1, n, h => by
    show (toldL D C k ++ [nodeV D C (toldL D C k) k]).take n = _
    by_cases hn : n = k + 1
    · subst hn
      rw [List.take_of_length_le (by rw [List.length_append, toldL_len]; simp)]; rfl
    · rw [List.take_append_of_le_length (by rw [toldL_len]; omega)]
      exact told_get D C k n (by omega)
theorem told_at (D : List Int) (C : List Nat) {k n : Nat} (h : n < k) (d : Nat) : (toldL D C k).getD n d = nodeV D C (toldL D C n) n := by
  have h1 := told_get D C k (n + 1) (by omega)
  have h2 : (toldL D C k)[n]? = ((toldL D C k).take (n + 1))[n]? := by rw [List.getElem?_take_of_lt (by omega)]
  rw [List.getD_eq_getElem?_getD, h2, h1]
  show ((toldL D C n ++ [nodeV D C (toldL D C n) n])[n]?).getD d = _
  rw [List.getElem?_append_right (by rw [toldL_len]; omega), toldL_len, Nat.sub_self]; rfl
theorem refV_app (C : List Nat) (L M : List Nd) {x : Int} (h1 : -2 ≤ x) (h2 : x < (L.length : Int)) : refV C (L ++ M) x = refV C L x := by
  unfold refV ofN
  split
  · rfl
  split
  · rfl
  · have hx : x.toNat < L.length := by omega
    rw [told_at _ _ (show x.toNat < (L ++ M).length by rw [List.length_append]; omega), told_at _ _ hx, toldL_app C L M _ (by omega)]
    obtain ⟨a1, a2, a3⟩ := flatN_at L _ hx
    obtain ⟨g1, g2, g3⟩ := flatN_at (L ++ M) x.toNat (by rw [List.length_append]; omega)
    have hk : (L ++ M)[x.toNat]'(by rw [List.length_append]; omega) = L[x.toNat]'hx := List.getElem_append_left hx
    rw [hk] at g1 g2 g3
    unfold nodeV
    simp only [List.getD_eq_getElem?_getD, a1, a2, a3, g1, g2, g3]
/-- What a node's number is made of. -/
theorem refV_node (C : List Nat) (L : List Nd) {i : Nat} (h : i < L.length) (hl : -2 ≤ L[i].2.1 ∧ L[i].2.1 < (i : Int)) (hh : -2 ≤ L[i].2.2 ∧ L[i].2.2 < (i : Int)) :
    refV C L (i : Int) = fop .add .f32 (fop .mul .f32 (fop .sub .f32 oneF (C.getD L[i].1.toNat 0)) (refV C L L[i].2.1)) (fop .mul .f32 (C.getD L[i].1.toNat 0) (refV C L L[i].2.2)) := by
  obtain ⟨a1, a2, a3⟩ := flatN_at L i h
  have hr : ∀ x : Int, -2 ≤ x → x < (i : Int) → ofN (toldL (flatN L) C i) x = refV C L x := by
    intro x h1 h2
    unfold refV ofN
    split
    · rfl
    split
    · rfl
    · rw [told_at _ _ (show x.toNat < i by omega), told_at _ _ (show x.toNat < L.length by omega)]
  rw [← hr _ hl.1 hl.2, ← hr _ hh.1 hh.2]
  have e : refV C L (i : Int) = nodeV (flatN L) C (toldL (flatN L) C i) i := by
    unfold refV ofN
    rw [if_neg (by omega), if_neg (by omega), Int.toNat_natCast, told_at _ _ h]
  rw [e]
  unfold nodeV
  simp only [List.getD_eq_getElem?_getD, a1, a2, a3, Option.getD_some]
/-- All nodes tell of earlier ones, of places from a least one on. -/
def LOk (p m : Nat) (L : List Nd) : Prop := ∀ i (h : i < L.length), ((m : Int) ≤ L[i].1 ∧ L[i].1 < (p : Int)) ∧ (-2 ≤ L[i].2.1 ∧ L[i].2.1 < (i : Int)) ∧ (-2 ≤ L[i].2.2 ∧ L[i].2.2 < (i : Int))
theorem LOk.app {p m : Nat} {L : List Nd} (h : LOk p m L) {t : Nd} (h1 : (m : Int) ≤ t.1 ∧ t.1 < (p : Int)) (h2 : -2 ≤ t.2.1 ∧ t.2.1 < (L.length : Int)) (h3 : -2 ≤ t.2.2 ∧ t.2.2 < (L.length : Int)) : LOk p m (L ++ [t]) := by
  intro i hi
  rw [List.length_append, List.length_singleton] at hi
  by_cases hl : i < L.length
  · have e : (L ++ [t])[i]'(by rw [List.length_append, List.length_singleton]; exact hi) = L[i] := List.getElem_append_left hl
    rw [e]; exact h i hl
  · have hil : i = L.length := by omega
    subst hil
    have e : (L ++ [t])[L.length]'(by rw [List.length_append, List.length_singleton]; omega) = t := by simp
    rw [e]; exact ⟨h1, h2, h3⟩
theorem LOk.mono {p m n : Nat} {L : List Nd} (h : LOk p m L) (hn : n ≤ m) : LOk p n L := fun i hi => ⟨⟨by have := (h i hi).1.1; omega, (h i hi).1.2⟩, (h i hi).2⟩
theorem near_node {C : List Nat} {p i : Nat} {a b : Nat} {x y e : Rat} (h : ShR p C) (hi : i < p) (ha : Nr .f32 a x e) (hb : Nr .f32 b y e) (x0 : 0 ≤ x) (x1 : x ≤ 1) (y0 : 0 ≤ y) (y1 : y ≤ 1) (e0 : 0 ≤ e) (e1 : e ≤ 1 / 100) :
    Nr .f32 (fop .add .f32 (fop .mul .f32 (fop .sub .f32 oneF (C.getD i 0)) a) (fop .mul .f32 (C.getD i 0) b)) ((1 - cR C i) * x + cR C i * y) (4 * e + 4 * dl) := by
  obtain ⟨n, c0, c1⟩ := h i hi
  have hd : dl ≤ 1 / 1000 := by decide +kernel
  have hd0 := dl_pos
  have s := near_sub oneF_near (Nr.of n) (by grind) (by grind) c0 c1 (by grind)
  have m1 := near_mul (s.mono (e' := dl) (by grind)) ha (by grind) (by grind) x0 x1 hd0 (by grind) e0 e1
  have m2 := near_mul (Nr.of n) hb c0 c1 y0 y1 (by grind) (by grind) e0 e1
  have k1 := rmul_nn (show (0 : Rat) ≤ 1 - fv .f32 (C.getD i 0) by grind) x0
  have k2 := rmul_nn c0 y0
  have k3 := rmul_le x1 (show (0 : Rat) ≤ 1 - fv .f32 (C.getD i 0) by grind)
  have k4 := rmul_le y1 c0
  have r := near_add m1 m2 k1 k2 (by grind) (by grind)
  unfold cR
  exact r.mono (by grind)
/-- What is told of a place is nearly its chance. -/
theorem tell_near {p m : Nat} {C : List Nat} (hp : p ≤ 5) (hC : ShR p C) (f : Nat → Bool) : ∀ (k place set : Nat) (L : List Nd), place + k = p → m ≤ place → LOk p m L →
    (∃ M, (tellP f k place set L).2 = L ++ M) ∧ LOk p m (tellP f k place set L).2 ∧ (-2 ≤ (tellP f k place set L).1 ∧ (tellP f k place set L).1 < ((tellP f k place set L).2.length : Int)) ∧ Nr .f32 (refV C (tellP f k place set L).2 (tellP f k place set L).1) (DgR (cR C) f k place set) (erD k)
  | 0, place, set, L, _, _, hL => by
    refine ⟨⟨[], (List.append_nil _).symm⟩, hL, ?_, ?_⟩
    · unfold tellP; cases f set <;> simp <;> omega
    · unfold tellP DgR ind refV ofN
      cases f set
      · simp only [Bool.false_eq_true, if_false]
        exact zeroF_near
      · simp only [if_true]
        exact oneF_near
  | k + 1, place, set, L, hk, hm, hL => by
    obtain ⟨⟨M1, f1⟩, o1, g1, n1⟩ := tell_near hp hC f k (place + 1) set L (by omega) (by omega) hL
    obtain ⟨⟨M2, f2⟩, o2, g2, n2⟩ := tell_near hp hC f k (place + 1) (set + 2 ^ place) (tellP f k (place + 1) set L).2 (by omega) (by omega) o1
    obtain ⟨x0, x1⟩ := DgR_in hC.inU f k (place + 1) set (by omega)
    obtain ⟨y0, y1⟩ := DgR_in hC.inU f k (place + 1) (set + 2 ^ place) (by omega)
    have hi : place < p := by omega
    obtain ⟨c0, c1⟩ := hC.inU place hi
    have e0 := erD_nn k
    have e1 := erD_5 k (by omega)
    have hd := dl_pos
    unfold tellP DgR
    show _ ∧ _ ∧ _ ∧ Nr .f32 _ _ (4 * erD k + 4 * dl)
    generalize hR1 : tellP f k (place + 1) set L = R1 at *
    generalize hR2 : tellP f k (place + 1) (set + 2 ^ place) R1.2 = R2 at *
    generalize DgR (cR C) f k (place + 1) set = x at *
    generalize DgR (cR C) f k (place + 1) (set + 2 ^ place) = y at *
    obtain ⟨r1, L1⟩ := R1
    obtain ⟨r2, L2⟩ := R2
    simp only at *
    have hv1 : refV C L2 r1 = refV C L1 r1 := by rw [f2]; exact refV_app C L1 M2 g1.1 g1.2
    have hlen : L1.length ≤ L2.length := by rw [f2, List.length_append]; omega
    rw [← hv1] at n1
    have g1' : r1 < (L2.length : Int) := by omega
    by_cases hr : r1 = r2
    · subst hr
      rw [if_pos rfl]
      refine ⟨⟨M1 ++ M2, by rw [f2, f1, List.append_assoc]⟩, o2, ⟨g1.1, g1'⟩, ?_⟩
      obtain ⟨a, b, c⟩ := n1
      obtain ⟨_, b2, c2⟩ := n2
      have q1 := rmul_le b (show (0 : Rat) ≤ 1 - cR C place by grind)
      have q2 := rmul_le b2 c0
      have q3 := rmul_le c (show (0 : Rat) ≤ 1 - cR C place by grind)
      have q4 := rmul_le c2 c0
      exact ⟨a, by grind, by grind⟩
    · rw [if_neg hr]
      have nn := near_node hC hi n1 n2 x0 x1 y0 y1 e0 (by grind)
      unfold nodeP
      by_cases ht : ((place : Int), r1, r2) ∈ L2
      · rw [if_pos ht]
        have hx := List.idxOf_lt_length_of_mem ht
        have hg : L2[L2.idxOf ((place : Int), r1, r2)] = ((place : Int), r1, r2) := List.getElem_idxOf hx
        obtain ⟨q1, q2, q3⟩ := o2 _ hx
        refine ⟨⟨M1 ++ M2, by rw [f2, f1, List.append_assoc]⟩, o2, ⟨by simp only; omega, by simp only; omega⟩, ?_⟩
        rw [refV_node C L2 hx q2 q3, hg]
        simp only [Int.toNat_natCast]
        exact nn
      · rw [if_neg ht]
        have o3 : LOk p m (L2 ++ [((place : Int), r1, r2)]) := o2.app ⟨by simp only; omega, by simp only; omega⟩ ⟨g1.1, g1'⟩ g2
        have hx : L2.length < (L2 ++ [((place : Int), r1, r2)]).length := by simp
        have hg : (L2 ++ [((place : Int), r1, r2)])[L2.length] = ((place : Int), r1, r2) := by simp
        obtain ⟨q1, q2, q3⟩ := o3 _ hx
        refine ⟨⟨M1 ++ M2 ++ [((place : Int), r1, r2)], by rw [f2, f1, List.append_assoc, List.append_assoc, List.append_assoc]⟩, o3, ⟨by omega, by simp; omega⟩, ?_⟩
        rw [refV_node C _ hx q2 q3, hg]
        simp only [Int.toNat_natCast]
        rw [refV_app C L2 _ g1.1 g1', refV_app C L2 _ g2.1 g2.2]
        exact nn
/-! ### The top is told last -/
/-- What a reference says of given parts. -/
inductive Ev (L : List Nd) (T : Nat → Bool) : Int → Bool → Prop
  | one : Ev L T (-2) true
  | zero : Ev L T (-1) false
  | node (i : Nat) (h : i < L.length) (b : Bool) (e : Ev L T (if T L[i].1.toNat then L[i].2.2 else L[i].2.1) b) : Ev L T (i : Int) b
theorem Ev.det {L : List Nd} {T : Nat → Bool} {x : Int} {b : Bool} (h : Ev L T x b) : ∀ {c : Bool}, Ev L T x c → b = c := by
  induction h with
  | one => intro c hc; cases hc with
    | one => rfl
  | zero => intro c hc; cases hc with
    | zero => rfl
  | node i h b e ih =>
    intro c hc
    generalize hx : (i : Int) = x at hc
    cases hc with
    | one => omega
    | zero => omega
    | node j hj c e2 =>
      have : i = j := by omega
      subst this
      exact ih e2
theorem Ev.app {L : List Nd} {T : Nat → Bool} {x : Int} {b : Bool} (h : Ev L T x b) (M : List Nd) : Ev (L ++ M) T x b := by
  induction h with
  | one => exact .one
  | zero => exact .zero
  | node i h b e ih =>
    have hk : (L ++ M)[i]'(by rw [List.length_append]; omega) = L[i] := List.getElem_append_left h
    exact .node i (by rw [List.length_append]; omega) b (by rw [hk]; exact ih)
/-- The parts of some places, as a number. -/
def vlT (T : Nat → Bool) : Nat → Nat → Nat
  | _, 0 => 0
  | place, k + 1 => (if T place then 2 ^ place else 0) + vlT T (place + 1) k
theorem tell_ext (f : Nat → Bool) : ∀ k place set L, ∃ M, (tellP f k place set L).2 = L ++ M
  | 0, _, _, L => ⟨[], (List.append_nil _).symm⟩
  | k + 1, place, set, L => by
    obtain ⟨M1, h1⟩ := tell_ext f k (place + 1) set L
    obtain ⟨M2, h2⟩ := tell_ext f k (place + 1) (set + 2 ^ place) (tellP f k (place + 1) set L).2
    unfold tellP
    generalize tellP f k (place + 1) set L = R1 at *
    generalize tellP f k (place + 1) (set + 2 ^ place) R1.2 = R2 at *
    split
    · exact ⟨M1 ++ M2, by simp only; rw [h2, h1, List.append_assoc]⟩
    · unfold nodeP
      split
      · exact ⟨M1 ++ M2, by simp only; rw [h2, h1, List.append_assoc]⟩
      · exact ⟨M1 ++ M2 ++ [((place : Int), R1.1, R2.1)], by simp only; rw [h2, h1]; simp only [List.append_assoc]⟩
theorem tell_ev (f : Nat → Bool) (T : Nat → Bool) : ∀ k place set L, Ev (tellP f k place set L).2 T (tellP f k place set L).1 (f (set + vlT T place k))
  | 0, _, set, L => by
    unfold tellP vlT
    rw [Nat.add_zero]
    cases f set
    · exact .zero
    · exact .one
  | k + 1, place, set, L => by
    have e1 := tell_ev f T k (place + 1) set L
    have e2 := tell_ev f T k (place + 1) (set + 2 ^ place) (tellP f k (place + 1) set L).2
    obtain ⟨M2, h2⟩ := tell_ext f k (place + 1) (set + 2 ^ place) (tellP f k (place + 1) set L).2
    replace e1 := e1.app M2
    rw [← h2] at e1
    have hv : vlT T place (k + 1) = (if T place then 2 ^ place else 0) + vlT T (place + 1) k := rfl
    rw [hv]
    unfold tellP
    generalize tellP f k (place + 1) set L = R1 at *
    generalize tellP f k (place + 1) (set + 2 ^ place) R1.2 = R2 at *
    have key : Ev R2.2 T (if T place then R2.1 else R1.1) (f (set + ((if T place then 2 ^ place else 0) + vlT T (place + 1) k))) := by
      cases T place
      · simp only [Bool.false_eq_true, if_false, Nat.zero_add]; exact e1
      · simp only [if_true]; rw [← Nat.add_assoc]; exact e2
    split
    · rename_i h
      rw [← h, ite_self] at key
      exact key
    · unfold nodeP
      split
      · rename_i ht
        have hx := List.idxOf_lt_length_of_mem ht
        have hg : R2.2[R2.2.idxOf ((place : Int), R1.1, R2.1)] = ((place : Int), R1.1, R2.1) := List.getElem_idxOf hx
        exact .node _ hx _ (by rw [hg]; simp only [Int.toNat_natCast]; exact key)
      · have hx : R2.2.length < (R2.2 ++ [((place : Int), R1.1, R2.1)]).length := by simp
        have hg : (R2.2 ++ [((place : Int), R1.1, R2.1)])[R2.2.length] = ((place : Int), R1.1, R2.1) := by simp
        exact .node _ hx _ (by rw [hg]; simp only [Int.toNat_natCast]; exact key.app _)
/-- What has been told once is told again without a new node. -/
theorem tell_again (f : Nat → Bool) : ∀ k place set set' L M, (∀ T, f (set + vlT T place k) = f (set' + vlT T place k)) → tellP f k place set' ((tellP f k place set L).2 ++ M) = ((tellP f k place set L).1, (tellP f k place set L).2 ++ M)
  | 0, place, set, set', L, M, h => by
    have h0 := h fun _ => false
    unfold vlT at h0
    rw [Nat.add_zero, Nat.add_zero] at h0
    show ((if f set' then -2 else -1 : Int), L ++ M) = ((if f set then -2 else -1 : Int), L ++ M)
    rw [h0]
  | k + 1, place, set, set', L, M, h => by
    have hT : ∀ (b : Bool) (T : Nat → Bool), ∃ T' : Nat → Bool, T' place = b ∧ ∀ j n, place < j → vlT T' j n = vlT T j n := by
      intro b T
      refine ⟨fun i => if i = place then b else T i, by simp, ?_⟩
      intro j n
      induction n generalizing j with
      | zero => intro _; rfl
      | succ n ih =>
        intro hj
        have : ¬ j = place := by omega
        unfold vlT
        rw [ih (j + 1) (by omega)]
        simp [this]
    have ha : ∀ T, f (set + vlT T (place + 1) k) = f (set' + vlT T (place + 1) k) := by
      intro T
      obtain ⟨T', t1, t2⟩ := hT false T
      have := h T'
      unfold vlT at this
      rw [t1, t2 _ _ (Nat.lt_succ_self _)] at this
      simpa using this
    have hb : ∀ T, f (set + 2 ^ place + vlT T (place + 1) k) = f (set' + 2 ^ place + vlT T (place + 1) k) := by
      intro T
      obtain ⟨T', t1, t2⟩ := hT true T
      have := h T'
      unfold vlT at this
      rw [t1, t2 _ _ (Nat.lt_succ_self _)] at this
      simp only [if_true, ← Nat.add_assoc] at this
      exact this
    obtain ⟨M2, f2⟩ := tell_ext f k (place + 1) (set + 2 ^ place) (tellP f k (place + 1) set L).2
    have i1 := fun N => tell_again f k (place + 1) set set' L N ha
    have i2 := fun N => tell_again f k (place + 1) (set + 2 ^ place) (set' + 2 ^ place) (tellP f k (place + 1) set L).2 N hb
    have step : ∀ N, tellP f (k + 1) place set' ((tellP f k (place + 1) (set + 2 ^ place) (tellP f k (place + 1) set L).2).2 ++ N) =
        if (tellP f k (place + 1) set L).1 = (tellP f k (place + 1) (set + 2 ^ place) (tellP f k (place + 1) set L).2).1 then ((tellP f k (place + 1) set L).1, (tellP f k (place + 1) (set + 2 ^ place) (tellP f k (place + 1) set L).2).2 ++ N)
        else nodeP ((place : Int), (tellP f k (place + 1) set L).1, (tellP f k (place + 1) (set + 2 ^ place) (tellP f k (place + 1) set L).2).1) ((tellP f k (place + 1) (set + 2 ^ place) (tellP f k (place + 1) set L).2).2 ++ N) := by
      intro N
      have j1 : tellP f k (place + 1) set' ((tellP f k (place + 1) (set + 2 ^ place) (tellP f k (place + 1) set L).2).2 ++ N) = ((tellP f k (place + 1) set L).1, (tellP f k (place + 1) (set + 2 ^ place) (tellP f k (place + 1) set L).2).2 ++ N) := by
        rw [f2, List.append_assoc]; exact i1 _
      conv => lhs; unfold tellP
      simp only [j1, i2]
    have ex : tellP f (k + 1) place set L = if (tellP f k (place + 1) set L).1 = (tellP f k (place + 1) (set + 2 ^ place) (tellP f k (place + 1) set L).2).1 then ((tellP f k (place + 1) set L).1, (tellP f k (place + 1) (set + 2 ^ place) (tellP f k (place + 1) set L).2).2)
        else nodeP ((place : Int), (tellP f k (place + 1) set L).1, (tellP f k (place + 1) (set + 2 ^ place) (tellP f k (place + 1) set L).2).1) (tellP f k (place + 1) (set + 2 ^ place) (tellP f k (place + 1) set L).2).2 := rfl
    rw [ex]
    clear ex i1 i2 f2
    generalize tellP f k (place + 1) set L = R1 at *
    generalize tellP f k (place + 1) (set + 2 ^ place) R1.2 = R2 at *
    by_cases hr : R1.1 = R2.1
    · simp only [if_pos hr] at step ⊢
      exact step M
    · simp only [if_neg hr] at step ⊢
      unfold nodeP at step ⊢
      by_cases ht : ((place : Int), R1.1, R2.1) ∈ R2.2
      · rw [if_pos ht]
        have := step M
        rw [if_pos (List.mem_append_left _ ht)] at this
        rw [this, List.idxOf_append, if_pos ht]
      · rw [if_neg ht]
        have := step ([((place : Int), R1.1, R2.1)] ++ M)
        rw [← List.append_assoc, if_pos (List.mem_append_left _ (List.mem_append_right _ (List.mem_singleton.2 rfl)))] at this
        rw [this, List.idxOf_append, if_pos (List.mem_append_right _ (List.mem_singleton.2 rfl)), List.idxOf_append, if_neg ht]
        simp
/-- Told into an empty list, the top is the last node. -/
theorem tell_last (f : Nat → Bool) : ∀ k place set, ¬ (tellP f k place set []).1 < 0 → (tellP f k place set []).1 + 1 = ((tellP f k place set []).2.length : Int)
  | 0, _, set, h => by
    exfalso; apply h
    unfold tellP
    cases f set <;> simp
  | k + 1, place, set, h => by
    have hv : ∀ k p s L, (∀ t ∈ L, (place : Int) < t.1) → place < p → ∀ t ∈ (tellP f k p s L).2, (place : Int) < t.1 := by
      intro k
      induction k with
      | zero => intro p s L hL _ t ht; exact hL t ht
      | succ k ih =>
        intro p s L hL hp t ht
        have a := ih (p + 1) s L hL (by omega)
        have b := ih (p + 1) (s + 2 ^ p) _ a (by omega)
        unfold tellP at ht
        split at ht
        · exact b t ht
        · unfold nodeP at ht
          split at ht
          · exact b t ht
          · rcases List.mem_append.1 ht with h1 | h1
            · exact b t h1
            · rw [List.mem_singleton.1 h1]; simp only; omega
    have a := hv k (place + 1) set [] (fun t ht => by simp at ht) (by omega)
    have b := hv k (place + 1) (set + 2 ^ place) _ a (by omega)
    have ih := tell_last f k (place + 1) set
    have ag := tell_again f k (place + 1) set (set + 2 ^ place) []
    have ev1 := fun T => tell_ev f T k (place + 1) set []
    have ev2 := fun T => tell_ev f T k (place + 1) (set + 2 ^ place) (tellP f k (place + 1) set []).2
    obtain ⟨M2, f2⟩ := tell_ext f k (place + 1) (set + 2 ^ place) (tellP f k (place + 1) set []).2
    revert h
    unfold tellP
    by_cases hr : (tellP f k (place + 1) set []).1 = (tellP f k (place + 1) (set + 2 ^ place) (tellP f k (place + 1) set []).2).1
    · rw [if_pos hr]
      intro h
      have same : ∀ T, f (set + vlT T (place + 1) k) = f (set + 2 ^ place + vlT T (place + 1) k) := fun T => by
        have e1 := (ev1 T).app M2
        rw [← f2] at e1
        have e2 := ev2 T
        rw [← hr] at e2
        exact e1.det e2
      have := ag [] same
      rw [List.append_nil] at this
      rw [this]
      exact ih h
    · rw [if_neg hr]
      intro _
      unfold nodeP
      rw [if_neg (fun ht => by have := b _ ht; simp only at this; omega)]
      simp
/-- The diagram's chance, where there is a diagram. -/
theorem diagram_near {p : Nat} {C : List Nat} (h1 : 1 ≤ p) (hp : p ≤ 5) (hl : C.length = p) (hC : ShR p C) (hs : C.all shareB = true) (f : Nat → Bool) (h : ¬ (tellP f p 0 0 []).1 < 0) :
    ∃ v, dcRes (flatN (tellP f p 0 0 []).2) C = some v ∧ Nr .f32 v (Ex (cR C) p (ind f)) (3 / 10000) := by
  have hL0 : LOk p 0 [] := fun i hi => by simp at hi
  obtain ⟨-, o, g, n⟩ := tell_near hp hC f p 0 0 [] (by omega) (Nat.zero_le _) hL0
  have hroot := tell_last f p 0 0 h
  have hlen := (tellP_len f p 0 0 []).1
  rw [DgR_all] at n
  have h32 : 2 ^ p ≤ 32 := Nat.pow_le_pow_right (n := 2) (by decide) hp
  generalize tellP f p 0 0 [] = R at *
  obtain ⟨r, L⟩ := R
  simp only [List.length_nil] at *
  have hfl := flatN_len L
  have hd3 : (flatN L).length / 3 = L.length := by omega
  refine ⟨refV C L r, ?_, n.mono (erD_5 p hp)⟩
  have hpre : dcPre (flatN L) C = true := by
    unfold dcPre
    rw [inB_true (by omega) (by omega), inB_true (by omega) (by omega), hs, decide_eq_true (by omega)]; rfl
  have hall : (List.range ((flatN L).length / 3)).all (nodeOk (flatN L) C.length) = true := by
    rw [List.all_eq_true]
    intro k hk
    have hk := List.mem_range.1 hk
    rw [hd3] at hk
    obtain ⟨⟨a1, a2⟩, ⟨b1, b2⟩, c1, c2⟩ := o k hk
    obtain ⟨e1, e2, e3⟩ := flatN_at L k hk
    unfold nodeOk
    simp only [List.getD_eq_getElem?_getD, e1, e2, e3, Option.getD_some]
    rw [inB_true (by omega) (by omega), inB_true b1 (by omega), inB_true c1 (by omega)]; rfl
  unfold dcRes dcOk
  rw [hpre, hall, hd3]
  simp only [Bool.and_self, if_true]
  congr 1
  unfold refV ofN
  rw [if_neg (by omega), if_neg (by omega), show r.toNat = L.length - 1 by omega]
end Go.Proofs.Ytgmdoboeenpjpaa
/- Phases: more of them work no more likely than the first of them, nearly. Plain. Condition: at most five parts, two phases, chances from 0 to 1. -/
namespace Go.Proofs.Ytgmdoboeenpjpaa
open Go Go.RowKit

attribute [local irreducible] tw
/-- The chance that a part fails just in its phase: the first factors. -/
def wtT (C : Nat → Rat) (P i d : Nat) : Nat → Rat
  | 0 => 1
  | t + 1 => wtT C P i d t * (if t < d then 1 - C (t * P + i) else C (t * P + i))
def tmR (C : Nat → Rat) (P n : Nat) (c : List Nat) : Nat → Rat
  | 0 => 1
  | i + 1 => tmR C P n c i * wtT C P i (c.getD i 0) (min n (c.getD i 0 + 1))
theorem wtT_in {C : Nat → Rat} {P n i d : Nat} (hC : InU C (n * P)) (hi : i < P) : ∀ k, k ≤ n → 0 ≤ wtT C P i d k ∧ wtT C P i d k ≤ 1
  | 0, _ => by unfold wtT; constructor <;> decide
  | t + 1, hk => by
    obtain ⟨a0, a1⟩ := wtT_in (d := d) hC hi t (by omega)
    have hx : t * P + i < n * P := by
      have : (t + 1) * P ≤ n * P := Nat.mul_le_mul_right P hk
      rw [Nat.succ_mul] at this; omega
    obtain ⟨c0, c1⟩ := hC _ hx
    have hb : 0 ≤ (if t < d then 1 - C (t * P + i) else C (t * P + i)) ∧ (if t < d then 1 - C (t * P + i) else C (t * P + i)) ≤ 1 := by split <;> constructor <;> grind
    have m0 := rmul_nn a0 hb.1
    have m1 := rmul_le hb.2 a0
    unfold wtT
    exact ⟨m0, by grind⟩
theorem tmR_in {C : Nat → Rat} {P n : Nat} {c : List Nat} (hC : InU C (n * P)) : ∀ i, i ≤ P → 0 ≤ tmR C P n c i ∧ tmR C P n c i ≤ 1
  | 0, _ => by unfold tmR; constructor <;> decide
  | i + 1, hi => by
    obtain ⟨a0, a1⟩ := tmR_in (c := c) hC i (by omega)
    obtain ⟨b0, b1⟩ := wtT_in (d := c.getD i 0) hC (show i < P by omega) (min n (c.getD i 0 + 1)) (Nat.min_le_left _ _)
    have m0 := rmul_nn a0 b0
    have m1 := rmul_le b1 a0
    unfold tmR
    exact ⟨m0, by grind⟩
theorem rel_fac {p j : Nat} {C : List Nat} (h : ShR p C) (hj : j < p) (b : Bool) : Nr .f32 (if b then fop .sub .f32 oneF (C.getD j 0) else C.getD j 0) (if b then 1 - cR C j else cR C j) ((if b then 1 - cR C j else cR C j) / 16000000 + 1 / 1000000000000) := by
  obtain ⟨n, c0, c1⟩ := h j hj
  have h100 := tw100
  unfold cR
  cases b
  · simp only [Bool.false_eq_true, if_false]
    exact ⟨n, by grind, by grind⟩
  · simp only [if_true]
    obtain ⟨o1, o2⟩ := oneF_val
    obtain ⟨⟨m, l, u⟩, _⟩ := (wr_sub o1 n).nr (A := 1 - fv .f32 (C.getD j 0)) (by rw [o2]; grind) (by rw [o2]; grind) (by grind)
    rw [o2] at l u
    obtain ⟨w1, w2, w3, w4⟩ := u32f
    have r := Rat.mul_le_mul_of_nonneg_right w1 (show (0 : Rat) ≤ 1 - fv .f32 (C.getD j 0) by grind)
    generalize uu .f32 * (1 - fv .f32 (C.getD j 0)) = R at *
    exact ⟨m, by grind, by grind⟩
theorem prT_rel {P n i d x : Nat} {C : List Nat} {X e t : Rat} (h : ShR (n * P) C) (hi : i < P) (hn : n ≤ 2) (hx : Nr .f32 x X (e * X + t)) (x0 : 0 ≤ X) (x1 : X ≤ 1) (e0 : 0 ≤ e) (e1 : e ≤ 5 / 1000000) (t0 : 0 ≤ t) (t1 : t ≤ 5 / 100000000) :
    ∀ k, k ≤ n → Nr .f32 (prT x C P i d k) (X * wtT (cR C) P i d k) ((e + (k : Rat) * (4 / 16000000)) * (X * wtT (cR C) P i d k) + (t + (k : Rat) * (1 / 1000000000)))
  | 0, _ => by
    have z1 : ((0 : Nat) : Rat) * (4 / 16000000) = 0 := Rat.zero_mul _
    have z2 : ((0 : Nat) : Rat) * (1 / 1000000000) = 0 := Rat.zero_mul _
    unfold prT wtT
    rw [z1, z2, Rat.mul_one, Rat.add_zero, Rat.add_zero]; exact hx
  | k + 1, hk => by
    obtain ⟨a0, a1⟩ := wtT_in (d := d) h.inU hi k (by omega)
    have hj : k * P + i < n * P := by
      have : (k + 1) * P ≤ n * P := Nat.mul_le_mul_right P hk
      rw [Nat.succ_mul] at this; omega
    obtain ⟨c0, c1⟩ := h.inU _ hj
    have ih := prT_rel (d := d) h hi hn hx x0 x1 e0 e1 t0 t1 k (by omega)
    have hf := rel_fac h hj (decide (k < d))
    have hb : 0 ≤ (if k < d then 1 - cR C (k * P + i) else cR C (k * P + i)) ∧ (if k < d then 1 - cR C (k * P + i) else cR C (k * P + i)) ≤ 1 := by split <;> constructor <;> grind
    have m0 := rmul_nn x0 a0
    have m1 := rmul_le a1 x0
    have ek : ((k + 1 : Nat) : Rat) = (k : Rat) + 1 := Rat.natCast_add k 1
    have hk2 : (k : Rat) ≤ 2 := by have : k ≤ 2 := by omega
                                   exact_mod_cast this
    have hk0 : (0 : Rat) ≤ (k : Rat) := Rat.natCast_nonneg
    simp only [decide_eq_true_eq] at hf
    have r := rel_mul ih hf m0 (by grind) hb.1 hb.2 (by grind) (by grind) (by grind) (by grind)
    unfold prT wtT
    rw [ek, ← Rat.mul_assoc]
    generalize (if k < d then 1 - cR C (k * P + i) else cR C (k * P + i)) = y at *
    generalize X * wtT (cR C) P i d k = Z at *
    exact r.mono (by grind)
theorem prA_rel {P n : Nat} {C c : List Nat} (h : ShR (n * P) C) (hP : P ≤ 5) (hn : n ≤ 2) : ∀ i, i ≤ P → Nr .f32 (prA C P n c i) (tmR (cR C) P n c i) (((i : Rat) * (8 / 16000000)) * tmR (cR C) P n c i + (i : Rat) * (2 / 1000000000))
  | 0, _ => by
    have z1 : ((0 : Nat) : Rat) * (8 / 16000000) = 0 := Rat.zero_mul _
    have z2 : ((0 : Nat) : Rat) * (2 / 1000000000) = 0 := Rat.zero_mul _
    rw [z1, z2, Rat.zero_mul, Rat.add_zero]; exact oneF_near
  | i + 1, hi => by
    obtain ⟨a0, a1⟩ := tmR_in (c := c) h.inU i (by omega)
    obtain ⟨b0, b1⟩ := wtT_in (d := c.getD i 0) h.inU (show i < P by omega) (min n (c.getD i 0 + 1)) (Nat.min_le_left _ _)
    have ei : ((i + 1 : Nat) : Rat) = (i : Rat) + 1 := Rat.natCast_add i 1
    have hi5 : (i : Rat) ≤ 5 := by have : i ≤ 5 := by omega
                                   exact_mod_cast this
    have hi0 : (0 : Rat) ≤ (i : Rat) := Rat.natCast_nonneg
    have r := prT_rel (d := c.getD i 0) h (show i < P by omega) hn (prA_rel h hP hn i (by omega)) a0 a1 (by grind) (by grind) (by grind) (by grind) (min n (c.getD i 0 + 1)) (Nat.min_le_left _ _)
    have hm : ((min n (c.getD i 0 + 1) : Nat) : Rat) ≤ 2 := by have : min n (c.getD i 0 + 1) ≤ 2 := by omega
                                                               exact_mod_cast this
    have hm0 : (0 : Rat) ≤ ((min n (c.getD i 0 + 1) : Nat) : Rat) := Rat.natCast_nonneg
    have m0 := rmul_nn a0 b0
    show Nr .f32 (prT (prA C P n c i) C P i (c.getD i 0) (min n (c.getD i 0 + 1))) (tmR (cR C) P n c i * wtT (cR C) P i (c.getD i 0) (min n (c.getD i 0 + 1))) _
    rw [show tmR (cR C) P n c (i + 1) = tmR (cR C) P n c i * wtT (cR C) P i (c.getD i 0) (min n (c.getD i 0 + 1)) from rfl, ei]
    generalize tmR (cR C) P n c i * wtT (cR C) P i (c.getD i 0) (min n (c.getD i 0 + 1)) = Z at *
    generalize ((min n (c.getD i 0 + 1) : Nat) : Rat) = m at *
    have q := Rat.mul_le_mul_of_nonneg_right (show (i : Rat) * (8 / 16000000) + m * (4 / 16000000) ≤ ((i : Rat) + 1) * (8 / 16000000) by grind) m0
    exact r.mono (by grind)
/-- The sum, as a sum over the ways that work. -/
theorem sumP_list (ss : List (List Nat)) (C : List Nat) (P n : Nat) : ∀ m, sumP ss C P n m = sumF (cn .f32 0) (((List.range m).filter fun k => okK ss P (digs (n + 1) P k) n).map fun k => prA C P n (digs (n + 1) P k) P)
  | 0 => rfl
  | m + 1 => by
    show leafP ss C P n (digs (n + 1) P m) (sumP ss C P n m) = _
    rw [List.range_succ, List.filter_append, List.map_append, sumP_list ss C P n m]
    unfold leafP
    cases h : okK ss P (digs (n + 1) P m) n
    · simp [h, sumF]
    · simp [h, sumF]
/-- The exact chance. -/
def phR (ss : List (List Nat)) (C : Nat → Rat) (P n : Nat) : Rat := ((List.range ((n + 1) ^ P)).map fun k => ind (fun k => okK ss P (digs (n + 1) P k) n) k * tmR C P n (digs (n + 1) P k) P).sum
/-! ### Sums over ways -/
def RD (b : Nat) (w : Nat → Nat → Rat) (g : List Nat → Rat) : Nat → Nat → List Nat → Rat
  | 0, _, acc => g acc
  | k + 1, i, acc => ((List.range b).map fun d => w i d * RD b w g k (i + 1) (acc ++ [d])).sum
def WD (w : Nat → Nat → Rat) : Nat → List Nat → Rat
  | _, [] => 1
  | i, d :: ds => w i d * WD w (i + 1) ds
theorem sum_blocks (F : Nat → Rat) (N : Nat) : ∀ b, ((List.range (b * N)).map F).sum = ((List.range b).map fun d => ((List.range N).map fun m => F (d * N + m)).sum).sum
  | 0 => by simp
  | b + 1 => by
    rw [Nat.succ_mul, List.range_add, List.map_append, sum_app, sum_blocks F N b, List.range_succ, List.map_append, sum_app, List.map_map]
    simp only [List.map_cons, List.map_nil, List.sum_cons, List.sum_nil, Rat.add_zero]
    rfl
theorem sum_congr {f g : Nat → Rat} {l : List Nat} (h : ∀ x ∈ l, f x = g x) : (l.map f).sum = (l.map g).sum := by rw [List.map_congr_left h]
theorem RD_sum {b : Nat} (hb : 0 < b) (w : Nat → Nat → Rat) (g : List Nat → Rat) : ∀ k i acc, ((List.range (b ^ k)).map fun m => g (acc ++ digs b k m) * WD w i (digs b k m)).sum = RD b w g k i acc
  | 0, i, acc => by simp [RD, digs, WD, Rat.add_zero, Rat.mul_one]
  | k + 1, i, acc => by
    have hp : 0 < b ^ k := Nat.pow_pos hb
    rw [Nat.pow_succ, Nat.mul_comm, sum_blocks]
    unfold RD
    refine sum_congr fun d hd => ?_
    rw [← RD_sum hb w g k (i + 1) (acc ++ [d]), ← sum_mul]
    refine sum_congr fun m hm => ?_
    have hm := List.mem_range.1 hm
    have e : digs b (k + 1) (d * b ^ k + m) = d :: digs b k m := by
      show (d * b ^ k + m) / b ^ k :: digs b k ((d * b ^ k + m) % b ^ k) = _
      rw [Nat.mul_comm d, Nat.mul_add_div hp, Nat.div_eq_of_lt hm, Nat.add_zero, Nat.mul_add_mod, Nat.mod_eq_of_lt hm]
    rw [e]
    have e2 : acc ++ d :: digs b k m = acc ++ [d] ++ digs b k m := by simp
    rw [e2]
    show _ * (w i d * WD w (i + 1) (digs b k m)) = _
    grind
theorem tm_WD {C : Nat → Rat} {P n : Nat} (c : List Nat) : ∀ (ds : List Nat) (acc : List Nat), c = acc ++ ds → tmR C P n c (acc.length + ds.length) = tmR C P n c acc.length * WD (fun i d => wtT C P i d (min n (d + 1))) acc.length ds
  | [], acc, _ => by simp [WD, Rat.mul_one]
  | d :: ds, acc, h => by
    have ih := tm_WD (C := C) (P := P) (n := n) c ds (acc ++ [d]) (by rw [h]; simp)
    have hd : c.getD acc.length 0 = d := by rw [h]; simp [List.getD_eq_getElem?_getD]
    rw [List.length_append, List.length_singleton] at ih
    have e : acc.length + (d :: ds).length = acc.length + 1 + ds.length := by simp; omega
    rw [e, ih]
    show tmR C P n c acc.length * wtT C P acc.length (c.getD acc.length 0) (min n (c.getD acc.length 0 + 1)) * _ = _ * (_ * _)
    rw [hd]
    grind
theorem phR_RD (ss : List (List Nat)) (C : Nat → Rat) (P n : Nat) : phR ss C P n = RD (n + 1) (fun i d => wtT C P i d (min n (d + 1))) (fun c => ind1 (okK ss P c n)) P 0 [] := by
  rw [← RD_sum (Nat.succ_pos n)]
  unfold phR
  refine sum_congr fun k _ => ?_
  have h := tm_WD (C := C) (P := P) (n := n) (digs (n + 1) P k) (digs (n + 1) P k) [] rfl
  rw [List.length_nil, Nat.zero_add, digs_len] at h
  rw [h]
  show ind1 _ * (1 * _) = ind1 _ * _
  rw [Rat.one_mul]; rfl
/-- Two phases against the first of them. -/
theorem RD_two {w2 w1 : Nat → Nat → Rat} {g2 g1 : List Nat → Rat} {P : Nat} (hw : ∀ i, i < P → w2 i 0 = w1 i 0 ∧ w2 i 1 + w2 i 2 = w1 i 1 ∧ 0 ≤ w2 i 0 ∧ 0 ≤ w2 i 1 ∧ 0 ≤ w2 i 2) (hg : ∀ c, g2 c ≤ g1 (c.map (min 1))) :
    ∀ k i acc, i + k ≤ P → RD 3 w2 g2 k i acc ≤ RD 2 w1 g1 k i (acc.map (min 1))
  | 0, _, acc, _ => hg acc
  | k + 1, i, acc, h => by
    obtain ⟨h0, h12, p0, p1, p2⟩ := hw i (by omega)
    have a0 := RD_two hw hg k (i + 1) (acc ++ [0]) (by omega)
    have a1 := RD_two hw hg k (i + 1) (acc ++ [1]) (by omega)
    have a2 := RD_two hw hg k (i + 1) (acc ++ [2]) (by omega)
    rw [List.map_append] at a0 a1 a2
    have e0 : [0].map (min 1) = [0] := rfl
    have e1 : [1].map (min 1) = [1] := rfl
    have e2 : [2].map (min 1) = [1] := rfl
    rw [e0] at a0
    rw [e1] at a1
    rw [e2] at a2
    have m0 := rmul_le a0 p0
    have m1 := rmul_le a1 p1
    have m2 := rmul_le a2 p2
    have r3 : List.range 3 = [0, 1, 2] := rfl
    have r2 : List.range 2 = [0, 1] := rfl
    unfold RD
    rw [r3, r2]
    simp only [List.map_cons, List.map_nil, List.sum_cons, List.sum_nil]
    rw [← h0, ← h12]
    grind
theorem RD_in {b : Nat} {w : Nat → Nat → Rat} {g : List Nat → Rat} {P : Nat} (hw : ∀ i, i < P → (∀ d, d < b → 0 ≤ w i d) ∧ ((List.range b).map (w i)).sum ≤ 1) (hg : ∀ c, 0 ≤ g c ∧ g c ≤ 1) : ∀ k i acc, i + k ≤ P → 0 ≤ RD b w g k i acc ∧ RD b w g k i acc ≤ 1
  | 0, _, acc, _ => hg acc
  | k + 1, i, acc, h => by
    obtain ⟨h0, h1⟩ := hw i (by omega)
    have ih := fun d => RD_in hw hg k (i + 1) (acc ++ [d]) (by omega)
    have key : ∀ l : List Nat, (∀ d ∈ l, 0 ≤ w i d) → 0 ≤ (l.map fun d => w i d * RD b w g k (i + 1) (acc ++ [d])).sum ∧ (l.map fun d => w i d * RD b w g k (i + 1) (acc ++ [d])).sum ≤ (l.map (w i)).sum := by
      intro l
      induction l with
      | nil => intro _; exact ⟨Rat.le_refl, Rat.le_refl⟩
      | cons d l ihl =>
        intro hd
        obtain ⟨q0, q1⟩ := ihl fun x hx => hd x (List.mem_cons_of_mem _ hx)
        have hd0 := hd d (by simp)
        have m0 := rmul_nn hd0 (ih d).1
        have m1 := rmul_le (ih d).2 hd0
        simp only [List.map_cons, List.sum_cons]
        constructor <;> grind
    obtain ⟨q0, q1⟩ := key (List.range b) fun d hd => h0 d (List.mem_range.1 hd)
    exact ⟨q0, Rat.le_trans q1 h1⟩
theorem wt_2 {C : Nat → Rat} {P i : Nat} : wtT C P i 0 (min 2 (0 + 1)) = C i ∧ wtT C P i 1 (min 2 (1 + 1)) = (1 - C i) * C (P + i) ∧ wtT C P i 2 (min 2 (2 + 1)) = (1 - C i) * (1 - C (P + i)) := by
  refine ⟨?_, ?_, ?_⟩
  · show 1 * (if 0 < 0 then 1 - C (0 * P + i) else C (0 * P + i)) = _
    rw [if_neg (by decide), Nat.zero_mul, Nat.zero_add, Rat.one_mul]
  · show 1 * (if 0 < 1 then 1 - C (0 * P + i) else C (0 * P + i)) * (if 1 < 1 then 1 - C (1 * P + i) else C (1 * P + i)) = _
    rw [if_pos (by decide), if_neg (by decide), Nat.zero_mul, Nat.zero_add, Nat.one_mul, Rat.one_mul]
  · show 1 * (if 0 < 2 then 1 - C (0 * P + i) else C (0 * P + i)) * (if 1 < 2 then 1 - C (1 * P + i) else C (1 * P + i)) = _
    rw [if_pos (by decide), if_pos (by decide), Nat.zero_mul, Nat.zero_add, Nat.one_mul, Rat.one_mul]
theorem wt_1 {C : Nat → Rat} {P i : Nat} : wtT C P i 0 (min 1 (0 + 1)) = C i ∧ wtT C P i 1 (min 1 (1 + 1)) = 1 - C i := by
  constructor
  · show 1 * (if 0 < 0 then 1 - C (0 * P + i) else C (0 * P + i)) = _
    rw [if_neg (by decide), Nat.zero_mul, Nat.zero_add, Rat.one_mul]
  · show 1 * (if 0 < 1 then 1 - C (0 * P + i) else C (0 * P + i)) = _
    rw [if_pos (by decide), Nat.zero_mul, Nat.zero_add, Rat.one_mul]
theorem setK_clip (c : List Nat) : ∀ k, setK (c.map (min 1)) 0 k = setK c 0 k
  | 0 => rfl
  | k + 1 => by
    unfold setK
    rw [setK_clip c k]
    congr 1
    have : (0 < (c.map (min 1)).getD k 0) ↔ (0 < c.getD k 0) := by
      rw [List.getD_eq_getElem?_getD, List.getD_eq_getElem?_getD, List.getElem?_map]
      cases c[k]? with
      | none => simp
      | some x => simp only [Option.map_some, Option.getD_some]; omega
    by_cases h : 0 < c.getD k 0
    · rw [if_pos h, if_pos (this.2 h)]
    · rw [if_neg h, if_neg (fun x => h (this.1 x))]
theorem ind1_le {a b : Bool} (h : a = true → b = true) : ind1 a ≤ ind1 b := by
  cases a
  · cases b <;> decide +kernel
  · rw [h rfl]; exact Rat.le_refl
theorem ind1_in (a : Bool) : 0 ≤ ind1 a ∧ ind1 a ≤ 1 := by cases a <;> constructor <;> decide +kernel
theorem phR_two {na nb : List Nat} {C D : Nat → Rat} {P : Nat} (hC : InU C (2 * P)) (hD : ∀ i, i < P → D i = C i) : phR [na, nb] C P 2 ≤ phR [na] D P 1 ∧ 0 ≤ phR [na, nb] C P 2 ∧ phR [na, nb] C P 2 ≤ 1 ∧ 0 ≤ phR [na] D P 1 ∧ phR [na] D P 1 ≤ 1 := by
  have hin : ∀ i, i < P → (0 ≤ C i ∧ C i ≤ 1) ∧ (0 ≤ C (P + i) ∧ C (P + i) ≤ 1) := fun i hi => ⟨hC i (by omega), hC (P + i) (by omega)⟩
  rw [phR_RD, phR_RD]
  have hpos : ∀ i, i < P → 0 ≤ C i ∧ 0 ≤ (1 - C i) * C (P + i) ∧ 0 ≤ (1 - C i) * (1 - C (P + i)) := fun i hi => by
    obtain ⟨⟨a, b⟩, c, d⟩ := hin i hi
    exact ⟨a, rmul_nn (by grind) c, rmul_nn (by grind) (by grind)⟩
  refine ⟨?_, ?_⟩
  · have := RD_two (w2 := fun i d => wtT C P i d (min 2 (d + 1))) (w1 := fun i d => wtT D P i d (min 1 (d + 1))) (g2 := fun c => ind1 (okK [na, nb] P c 2)) (g1 := fun c => ind1 (okK [na] P c 1)) (P := P) (fun i hi => by
      obtain ⟨a0, a1, a2⟩ := wt_2 (C := C) (P := P) (i := i)
      obtain ⟨b0, b1⟩ := wt_1 (C := D) (P := P) (i := i)
      obtain ⟨p0, p1, p2⟩ := hpos i hi
      rw [a0, a1, a2, b0, b1, hD i hi]
      exact ⟨rfl, by grind, p0, p1, p2⟩) (fun c => by
      refine ind1_le fun h => ?_
      have e1 : okK [na, nb] P c 2 = (worksB na (setK c 0 P) && worksB nb (setK c 1 P)) := by simp [okK, List.range_succ]
      have e2 : okK [na] P (c.map (min 1)) 1 = worksB na (setK (c.map (min 1)) 0 P) := by simp [okK, List.range_succ]
      rw [e1, Bool.and_eq_true] at h
      rw [e2, setK_clip]; exact h.1) P 0 [] (by omega)
    exact this
  · have r3 : List.range 3 = [0, 1, 2] := rfl
    have r2 : List.range 2 = [0, 1] := rfl
    obtain ⟨x0, x1⟩ := RD_in (b := 3) (w := fun i d => wtT C P i d (min 2 (d + 1))) (g := fun c => ind1 (okK [na, nb] P c 2)) (P := P) (fun i hi => by
      obtain ⟨a0, a1, a2⟩ := wt_2 (C := C) (P := P) (i := i)
      obtain ⟨p0, p1, p2⟩ := hpos i hi
      refine ⟨fun d hd => ?_, ?_⟩
      · have : d = 0 ∨ d = 1 ∨ d = 2 := by omega
        rcases this with h | h | h <;> subst h
        · rw [a0]; exact p0
        · rw [a1]; exact p1
        · rw [a2]; exact p2
      · rw [r3]
        simp only [List.map_cons, List.map_nil, List.sum_cons, List.sum_nil]
        rw [a0, a1, a2]; grind) (fun c => ind1_in _) P 0 [] (by omega)
    obtain ⟨y0, y1⟩ := RD_in (b := 2) (w := fun i d => wtT D P i d (min 1 (d + 1))) (g := fun c => ind1 (okK [na] P c 1)) (P := P) (fun i hi => by
      obtain ⟨b0, b1⟩ := wt_1 (C := D) (P := P) (i := i)
      obtain ⟨⟨a, b⟩, _⟩ := hin i hi
      refine ⟨fun d hd => ?_, ?_⟩
      · have : d = 0 ∨ d = 1 := by omega
        rcases this with h | h <;> subst h
        · rw [b0, hD i hi]; exact a
        · rw [b1, hD i hi]; grind
      · rw [r2]
        simp only [List.map_cons, List.map_nil, List.sum_cons, List.sum_nil]
        rw [b0, b1]; grind) (fun c => ind1_in _) P 0 [] (by omega)
    exact ⟨x0, x1, y0, y1⟩
/-- What the program computes, nearly. -/
theorem phase_near {ss : List (List Nat)} {C : List Nat} {P n : Nat} (h : ShR (n * P) C) (hP : P ≤ 5) (hn : n ≤ 2) (hb : 0 ≤ phR ss (cR C) P n ∧ phR ss (cR C) P n ≤ 1) : Nr .f32 (sumP ss C P n ((n + 1) ^ P)) (phR ss (cR C) P n) (1 / 10000) := by
  have hs : (((List.range ((n + 1) ^ P)).filter fun k => okK ss P (digs (n + 1) P k) n).map fun k => tmR (cR C) P n (digs (n + 1) P k) P).sum = phR ss (cR C) P n := sum_filter _ _ _
  have hlen : ((List.range ((n + 1) ^ P)).filter fun k => okK ss P (digs (n + 1) P k) n).length ≤ 243 := by
    refine Nat.le_trans (List.length_filter_le _ _) ?_
    rw [List.length_range]
    have h1 : (n + 1) ^ P ≤ 3 ^ P := Nat.pow_le_pow_left (by omega) P
    have h2 : 3 ^ P ≤ 3 ^ 5 := Nat.pow_le_pow_right (by decide) hP
    omega
  have hlr : ((((List.range ((n + 1) ^ P)).filter fun k => okK ss P (digs (n + 1) P k) n).length : Nat) : Rat) ≤ 243 := by exact_mod_cast hlen
  have hd0 := dl_pos
  have hpr : (P : Rat) ≤ 5 := by exact_mod_cast hP
  have hp0 : (0 : Rat) ≤ (P : Rat) := Rat.natCast_nonneg
  have k1 := Rat.mul_le_mul_of_nonneg_right hlr (show (0 : Rat) ≤ 1 / 100000000 + dl by grind)
  have hk : (243 : Rat) * (1 / 100000000 + dl) ≤ 6 / 100000 := by decide +kernel
  have key := near_sumR (f := fun k => prA C P n (digs (n + 1) P k) P) (r := fun k => tmR (cR C) P n (digs (n + 1) P k) P) (η := 3 / 1000000) (τ := 1 / 100000000) (by decide +kernel) (by decide +kernel) (by decide +kernel) ((List.range ((n + 1) ^ P)).filter fun k => okK ss P (digs (n + 1) P k) n) (cn .f32 0) 0 0
    (fun k _ => by
      have q0 := (tmR_in (c := digs (n + 1) P k) h.inU P (Nat.le_refl P)).1
      have q1 := Rat.mul_le_mul_of_nonneg_right (show (P : Rat) * (8 / 16000000) ≤ 3 / 1000000 by grind) q0
      exact ⟨(prA_rel h hP hn P (Nat.le_refl P)).mono (by grind), q0⟩) zeroF_near (by grind) (by rw [hs]; grind) (by grind) (by rw [hs]; grind)
  rw [hs, show (0 : Rat) + phR ss (cR C) P n = phR ss (cR C) P n by grind] at key
  rw [sumP_list]
  exact key.mono (by grind)
end Go.Proofs.Ytgmdoboeenpjpaa
/- Cuts of a tree and its top; the sum of chances in 64 bits. Plain. Condition: at most five parts, chances from 0 to 1. -/
namespace Go.Proofs.Ytgmdoboeenpjpaa
open Go Go.RowKit

attribute [local irreducible] tw
/-- A set without which nothing less has the property. -/
theorem least_below {p : Nat} {f : Nat → Bool} (hp : p ≤ 20) {s : Nat} (hs : s < 2 ^ p) (hf : f s = true) : ∃ q, q < 2 ^ p ∧ hasB s q = true ∧ f q = true ∧ ∀ b, b < p → q.testBit b = true → f (q - 2 ^ b) = false := by
  have hps := pow_small hp
  obtain ⟨q, hq, hh⟩ := minL_below (List.mem_filter.2 ⟨List.mem_range.2 hs, hf⟩)
  rw [mem_minL, List.mem_filter, List.mem_range] at hq
  obtain ⟨⟨q1, q2⟩, q3⟩ := hq
  refine ⟨q, q1, hh, q2, fun b _ hb => ?_⟩
  have hle : 2 ^ b ≤ q := Nat.ge_two_pow_of_testBit hb
  have hpos : 0 < 2 ^ b := Nat.pow_pos (by decide)
  cases hf2 : f (q - 2 ^ b)
  · rfl
  · have := q3 (q - 2 ^ b) (List.mem_filter.2 ⟨List.mem_range.2 (by omega), hf2⟩) (hasB_bits.2 fun i hi => by
      rw [testBit_drop (by omega) hb, Bool.and_eq_true] at hi; exact hi.1)
    omega
/-- The top fails by a set just if the set holds one of the cuts. -/
theorem cutsT_any {p : Nat} {f : Nat → Bool} {L : List Nat} (hp : p ≤ 20) (hm : ∀ s t, s < 2 ^ p → t < 2 ^ p → hasB t s = true → f s = true → f t = true)
    (hL : ∀ q, q ∈ L ↔ q < 2 ^ p ∧ f q = true ∧ ∀ b, b < p → q.testBit b = true → f (q - 2 ^ b) = false) {s : Nat} (hs : s < 2 ^ p) : L.any (fun c => hasB s c) = f s := by
  rw [Bool.eq_iff_iff, List.any_eq_true]
  constructor
  · rintro ⟨c, hc, hh⟩
    obtain ⟨c1, c2, -⟩ := (hL c).1 hc
    exact hm c s c1 hs hh c2
  · intro hf
    obtain ⟨q, q1, q2, q3, q4⟩ := least_below hp hs hf
    exact ⟨q, (hL q).2 ⟨q1, q3, q4⟩, q2⟩

/-! ### In 64 bits -/
theorem rndD {A : Rat} (h : A ≤ 3) : uu .f64 * A + eta .f64 ≤ dl := by
  have h1 : uu .f64 ≤ 1 / 16000000 := by rw [uu64]; decide +kernel
  have h2 : 0 < uu .f64 := tw_pos _
  have h3 : eta .f64 ≤ 1 / 100000000000 := Rat.le_trans eta64.2 (by decide +kernel)
  have := rmul_le h (Rat.le_of_lt h2)
  unfold dl; grind
theorem nearD_mul {a b : Nat} {x y e f : Rat} (h1 : Nr .f64 a x e) (h2 : Nr .f64 b y f) (x0 : 0 ≤ x) (x1 : x ≤ 1) (y0 : 0 ≤ y) (y1 : y ≤ 1) (e0 : 0 ≤ e) (e1 : e ≤ 1 / 100) (f0 : 0 ≤ f) (f1 : f ≤ 1 / 100) :
    Nr .f64 (fop .mul .f64 a b) (x * y) (e + 2 * f + dl) := by
  obtain ⟨n1, l1, u1⟩ := h1
  obtain ⟨n2, l2, u2⟩ := h2
  have h100 := tw100
  obtain ⟨p1, p2⟩ := abs_mul (u := fv .f64 a - x) (v := fv .f64 b) (e := e) (B := 1 + f) (by grind) (by grind) (by grind) (by grind)
  obtain ⟨q1, q2⟩ := abs_mul (u := fv .f64 b - y) (v := x) (e := f) (B := 1) (by grind) (by grind) (by grind) (by grind)
  have r := rmul_le e1 f0
  have xy0 := rmul_nn x0 y0
  have xy1 := rmul_le y1 x0
  have e2 : fv .f64 a * fv .f64 b = x * y + (fv .f64 a - x) * fv .f64 b + (fv .f64 b - y) * x := by grind
  generalize (fv .f64 a - x) * fv .f64 b = P at *
  generalize (fv .f64 b - y) * x = Q at *
  obtain ⟨⟨n, l, u⟩, _⟩ := (wr_mul n1 n2).nr (A := 2) (by rw [e2]; grind) (by rw [e2]; grind) (by grind)
  have hr := rndD (A := 2) (by grind)
  rw [e2] at l u
  exact ⟨n, by grind, by grind⟩
theorem nearD_add {a b : Nat} {x y e f : Rat} (h1 : Nr .f64 a x e) (h2 : Nr .f64 b y f) (x0 : 0 ≤ x) (y0 : 0 ≤ y) (s : x + y ≤ 2) (h : e + f ≤ 1) : Nr .f64 (fop .add .f64 a b) (x + y) (e + f + dl) := by
  have h100 := tw100
  have h := h1.add h2 (A := 3) (by grind) (by grind) (by grind)
  have hr := rndD (A := 3) (by grind)
  exact h.mono (by grind)
theorem nearD_sub {a b : Nat} {x y e f : Rat} (h1 : Nr .f64 a x e) (h2 : Nr .f64 b y f) (x0 : 0 ≤ x) (x1 : x ≤ 1) (y0 : 0 ≤ y) (y1 : y ≤ 1) (h : e + f ≤ 1) : Nr .f64 (fop .sub .f64 a b) (x - y) (e + f + dl) := by
  have h100 := tw100
  have h := h1.sub h2 (A := 3) (by grind) (by grind) (by grind)
  have hr := rndD (A := 3) (by grind)
  exact h.mono (by grind)
def oneD' : Nat := 4607182418800017408
theorem oneD_near : Nr .f64 oneD' 1 0 := by
  have h : (FloatKind.f64).format.read oneD' = .number false 4503599627370496 (-52) := by decide +kernel
  have n : Num .f64 oneD' := ⟨_, _, _, h⟩
  have v : fv .f64 oneD' = 1 := by
    rw [fv_eq h]
    have h1 := tw_neg 52
    have h2 : tw (-((52 : Nat) : Int)) = tw (-52) := rfl
    have h3 : ((2 ^ 52 : Nat) : Rat) = 4503599627370496 := rfl
    have h4 : ((4503599627370496 : Nat) : Rat) = 4503599627370496 := rfl
    rw [h2, h3] at h1
    simp only [Bool.false_eq_true, if_false, h4]
    grind
  have := Nr.of n
  rw [v] at this
  exact this
theorem zeroD_near : Nr .f64 0 0 0 := by
  have h : (FloatKind.f64).format.read 0 = .number false 0 (-1074) := by decide +kernel
  have n : Num .f64 0 := ⟨_, _, _, h⟩
  have v : fv .f64 0 = 0 := by rw [fv_eq h]; show ((0 : Nat) : Rat) * tw (-1074) = 0; exact Rat.zero_mul _
  have := Nr.of n
  rw [v] at this
  exact this
/-- The chance of just a set, in 64 bits, of the first parts. -/
def xD (s : Nat) (C : List Nat) : Nat → Nat
  | 0 => oneD'
  | i + 1 => if s.testBit i then fop .mul .f64 (xD s C i) (wide (C.getD i 0)) else fop .mul .f64 (xD s C i) (fop .sub .f64 oneD' (wide (C.getD i 0)))
theorem pickD_near {p i : Nat} {C : List Nat} (h : ShR p C) (hi : i < p) : Nr .f64 (wide (C.getD i 0)) (cR C i) 0 ∧ Nr .f64 (fop .sub .f64 oneD' (wide (C.getD i 0))) (1 - cR C i) dl := by
  obtain ⟨n, c0, c1⟩ := h i hi
  obtain ⟨m, v⟩ := wide_val n
  have hw := Nr.of m
  rw [v] at hw
  refine ⟨hw, ?_⟩
  have := nearD_sub oneD_near hw (by grind) (by grind) c0 c1 (by grind)
  exact this.mono (by grind)
theorem xD_near {p s : Nat} {C : List Nat} (h : ShR p C) : ∀ i, i ≤ p → i ≤ 5 → Nr .f64 (xD s C i) (pkR s (cR C) i) ((i : Rat) * (3 * dl))
  | 0, _, _ => by
    have : ((0 : Nat) : Rat) * (3 * dl) = 0 := Rat.zero_mul _
    rw [this]; exact oneD_near
  | i + 1, hi, h5 => by
    obtain ⟨a0, a1⟩ := pkR_in h.inU (s := s) i (by omega)
    obtain ⟨c0, c1⟩ := h.inU i (by omega)
    have ih := xD_near (s := s) h i (by omega) (by omega)
    obtain ⟨q1, q2⟩ := pickD_near h (show i < p by omega)
    have e : ((i + 1 : Nat) : Rat) = (i : Rat) + 1 := Rat.natCast_add i 1
    have hi5 : (i : Rat) ≤ 5 := by have : i ≤ 5 := by omega
                                   exact_mod_cast this
    have hi0 : (0 : Rat) ≤ (i : Rat) := Rat.natCast_nonneg
    have hd := dl_pos
    have hd1 : dl ≤ 1 / 5000000 := by unfold dl; grind
    have k0 := rmul_nn hi0 (show (0 : Rat) ≤ 3 * dl by grind)
    have k1 := Rat.mul_le_mul_of_nonneg_right hi5 (show (0 : Rat) ≤ 3 * dl by grind)
    unfold xD pkR
    rw [e]
    split
    · exact (nearD_mul ih (q1.mono hd) a0 a1 c0 c1 k0 (by grind) hd (by grind)).mono (by grind)
    · exact (nearD_mul ih q2 a0 a1 (by grind) (by grind) k0 (by grind) hd (by grind)).mono (by grind)
/-- The sum over the first sets. -/
def sD (f : Nat → Bool) (C : List Nat) (p : Nat) : Nat → Nat
  | 0 => 0
  | m + 1 => if f m then fop .add .f64 (sD f C p m) (xD m C p) else sD f C p m
def pS (f : Nat → Bool) (C : Nat → Rat) (p m : Nat) : Rat := ((List.range m).map fun s => ind f s * pkR s C p).sum
theorem pS_succ (f : Nat → Bool) (C : Nat → Rat) (p m : Nat) : pS f C p (m + 1) = pS f C p m + ind f m * pkR m C p := by
  unfold pS
  rw [List.range_succ, List.map_append, sum_app]
  simp only [List.map_cons, List.map_nil, List.sum_cons, List.sum_nil, Rat.add_zero]
theorem pS_mono {f : Nat → Bool} {C : Nat → Rat} {p : Nat} (hC : InU C p) (m : Nat) : ∀ d, pS f C p m ≤ pS f C p (m + d)
  | 0 => Rat.le_refl
  | d + 1 => by
    have ih := pS_mono (f := f) hC m d
    have h := rmul_nn (ind_nn f (m + d)) (pkR_in hC (s := m + d) p (Nat.le_refl p)).1
    have e : pS f C p (m + (d + 1)) = pS f C p (m + d) + ind f (m + d) * pkR (m + d) C p := pS_succ f C p (m + d)
    rw [e]; grind
theorem sD_near {p : Nat} {f : Nat → Bool} {C : List Nat} (hp : p ≤ 5) (h : ShR p C) : ∀ m, m ≤ 2 ^ p → Nr .f64 (sD f C p m) (pS f (cR C) p m) ((m : Rat) * (16 * dl)) ∧ 0 ≤ pS f (cR C) p m ∧ pS f (cR C) p m ≤ 1
  | 0, _ => by
    have : ((0 : Nat) : Rat) * (16 * dl) = 0 := Rat.zero_mul _
    rw [this]
    exact ⟨zeroD_near, Rat.le_refl, by show (0 : Rat) ≤ 1; decide⟩
  | m + 1, hm => by
    obtain ⟨ih, a0, a1⟩ := sD_near (f := f) hp h m (by omega)
    have e : ((m + 1 : Nat) : Rat) = (m : Rat) + 1 := Rat.natCast_add m 1
    have hd := dl_pos
    have hd1 : dl ≤ 1 / 5000000 := by unfold dl; grind
    have hm0 : (0 : Rat) ≤ (m : Rat) := Rat.natCast_nonneg
    have h32 : 2 ^ p ≤ 32 := Nat.pow_le_pow_right (n := 2) (by decide) hp
    have hm5 : (m : Rat) ≤ 32 := by have : m ≤ 32 := by omega
                                    exact_mod_cast this
    have hpr : (p : Rat) ≤ 5 := by exact_mod_cast hp
    have k0 := rmul_nn hm0 (show (0 : Rat) ≤ 16 * dl by grind)
    have k1 := Rat.mul_le_mul_of_nonneg_right hm5 (show (0 : Rat) ≤ 16 * dl by grind)
    have k2 := Rat.mul_le_mul_of_nonneg_right hpr (show (0 : Rat) ≤ 3 * dl by grind)
    obtain ⟨x0, x1⟩ := pkR_in h.inU (s := m) p (Nat.le_refl p)
    have hx := xD_near (s := m) h p (Nat.le_refl p) hp
    have htot : pS f (cR C) p (2 ^ p) ≤ 1 := by
      have : pS f (cR C) p (2 ^ p) = Ex (cR C) p (ind f) := Ex_sum _ _ _
      rw [this]
      exact (Ex_bounds h.inU (fun s _ => ind_nn f s) fun s _ => ind_le f s).2
    have hmo := pS_mono (f := f) h.inU (m + 1) (2 ^ p - (m + 1))
    rw [show m + 1 + (2 ^ p - (m + 1)) = 2 ^ p by omega] at hmo
    have h1 : pS f (cR C) p (m + 1) ≤ 1 := Rat.le_trans hmo htot
    rw [pS_succ] at h1 ⊢
    unfold sD
    rw [e]
    cases hf : f m
    · have hi : ind f m = 0 := by unfold ind; rw [hf]; rfl
      rw [hi] at h1 ⊢
      simp only [Bool.false_eq_true, if_false]
      rw [Rat.zero_mul, Rat.add_zero] at h1 ⊢
      exact ⟨ih.mono (by grind), a0, h1⟩
    · have hi : ind f m = 1 := by unfold ind; rw [hf]; rfl
      rw [hi] at h1 ⊢
      simp only [if_true]
      rw [Rat.one_mul] at h1 ⊢
      exact ⟨(nearD_add ih hx a0 x0 (by grind) (by grind)).mono (by grind), by grind, h1⟩
theorem sD_all {p : Nat} {f : Nat → Bool} {C : List Nat} (hp : p ≤ 5) (h : ShR p C) : Nr .f64 (sD f C p (2 ^ p)) (Ex (cR C) p (ind f)) ep := by
  obtain ⟨n, -, -⟩ := sD_near (f := f) hp h (2 ^ p) (Nat.le_refl _)
  have e : pS f (cR C) p (2 ^ p) = Ex (cR C) p (ind f) := Ex_sum _ _ _
  rw [e] at n
  have h32 : ((2 ^ p : Nat) : Rat) ≤ 32 := by have : 2 ^ p ≤ 32 := Nat.pow_le_pow_right (n := 2) (by decide) hp
                                              exact_mod_cast this
  have := Rat.mul_le_mul_of_nonneg_right h32 (show (0 : Rat) ≤ 16 * dl by decide +kernel)
  exact n.mono (Rat.le_trans this (by decide +kernel))
end Go.Proofs.Ytgmdoboeenpjpaa
