
/- Plain facts on lists that are sorted by a key: how two sorted lists are split and joined, how elements are exchanged, that a sorted list is one. No condition. -/
import Derived.WalkKit
namespace Go.Proofs.Ytlbmjeennpccmaa

section
variable {α : Type} (key : α → Nat)

/-- Sorted by the key. -/
def Srt (xs : List α) : Prop := xs.Pairwise fun x y => key x ≤ key y
variable {key}
theorem Srt.at {xs : List α} (h : Srt key xs) {i j : Nat} (hij : i < j) (hj : j < xs.length) : key (xs[i]'(by omega)) ≤ key xs[j] := List.pairwise_iff_getElem.1 h i j (by omega) hj hij
theorem Srt.at' {xs : List α} (h : Srt key xs) {i j : Nat} (hij : i ≤ j) (hj : j < xs.length) : key (xs[i]'(by omega)) ≤ key xs[j] := by
  by_cases e : i = j
  · subst e; exact Nat.le_refl _
  · exact h.at (by omega) hj
theorem Srt.take {xs : List α} (h : Srt key xs) (k : Nat) : Srt key (xs.take k) := List.Pairwise.sublist (List.take_sublist _ _) h
theorem Srt.drop {xs : List α} (h : Srt key xs) (k : Nat) : Srt key (xs.drop k) := List.Pairwise.sublist (List.drop_sublist _ _) h
theorem srt_nil : Srt key ([] : List α) := List.Pairwise.nil
theorem srt_one (x : α) : Srt key [x] := List.pairwise_singleton _ _
theorem srt_app {xs ys : List α} (h1 : Srt key xs) (h2 : Srt key ys) (h : ∀ u ∈ xs, ∀ v ∈ ys, key u ≤ key v) : Srt key (xs ++ ys) := List.pairwise_append.2 ⟨h1, h2, h⟩
theorem Srt.perm_le {xs ys xs' ys' : List α} (h : ∀ u ∈ xs, ∀ v ∈ ys, key u ≤ key v) (p : xs'.Perm xs) (q : ys'.Perm ys) : ∀ u ∈ xs', ∀ v ∈ ys', key u ≤ key v :=
  fun u hu v hv => h u (p.mem_iff.1 hu) v (q.mem_iff.1 hv)

/-- A split of two sorted lists: all of the first parts are at most all of the others. -/
theorem split_le {X Y : List α} (hX : Srt key X) (hY : Srt key Y) (s e : Nat)
    (h1 : ∀ (_ : 0 < s) (_ : s ≤ X.length) (_ : e < Y.length), key (X[s - 1]'(by omega)) ≤ key Y[e])
    (h2 : ∀ (_ : 0 < e) (_ : e ≤ Y.length) (_ : s < X.length), key (Y[e - 1]'(by omega)) ≤ key X[s]) (hs : s ≤ X.length) (he : e ≤ Y.length) :
    ∀ u ∈ X.take s ++ Y.take e, ∀ v ∈ X.drop s ++ Y.drop e, key u ≤ key v := by
  intro u hu v hv
  rcases List.mem_append.1 hu with hu | hu <;> rcases List.mem_append.1 hv with hv | hv
  · obtain ⟨i, hi, rfl⟩ := List.getElem_of_mem hu
    obtain ⟨j, hj, rfl⟩ := List.getElem_of_mem hv
    simp only [List.length_take, List.length_drop] at hi hj
    rw [List.getElem_take, List.getElem_drop]
    exact hX.at (by omega) (by omega)
  · obtain ⟨i, hi, rfl⟩ := List.getElem_of_mem hu
    obtain ⟨j, hj, rfl⟩ := List.getElem_of_mem hv
    simp only [List.length_take, List.length_drop] at hi hj
    rw [List.getElem_take, List.getElem_drop]
    exact Nat.le_trans (hX.at' (i := i) (j := s - 1) (by omega) (by omega)) (Nat.le_trans (h1 (by omega) hs (by omega)) (hY.at' (by omega) (by omega)))
  · obtain ⟨i, hi, rfl⟩ := List.getElem_of_mem hu
    obtain ⟨j, hj, rfl⟩ := List.getElem_of_mem hv
    simp only [List.length_take, List.length_drop] at hi hj
    rw [List.getElem_take, List.getElem_drop]
    exact Nat.le_trans (hY.at' (i := i) (j := e - 1) (by omega) (by omega)) (Nat.le_trans (h2 (by omega) he (by omega)) (hX.at' (by omega) (by omega)))
  · obtain ⟨i, hi, rfl⟩ := List.getElem_of_mem hu
    obtain ⟨j, hj, rfl⟩ := List.getElem_of_mem hv
    simp only [List.length_take, List.length_drop] at hi hj
    rw [List.getElem_take, List.getElem_drop]
    exact hY.at (by omega) (by omega)

/-- Sorted, and a key tells the element: one list. -/
theorem srt_one_list (inj : ∀ x y : α, key x = key y → x = y) {xs ys : List α} (h1 : Srt key xs) (h2 : Srt key ys) (p : xs.Perm ys) : xs = ys :=
  List.Perm.eq_of_pairwise (le := fun x y => key x ≤ key y) (fun a b _ _ h h' => inj a b (Nat.le_antisymm h h')) h1 h2 p
end

section
variable {α : Type}
/-- Exchange of two places. -/
def swp2 (xs : List α) (i j : Nat) : List α := match xs[i]?, xs[j]? with
  | some x, some y => (xs.set i y).set j x
  | _, _ => xs
theorem swp2_eq {xs : List α} {i j : Nat} (hi : i < xs.length) (hj : j < xs.length) : swp2 xs i j = (xs.set i xs[j]).set j xs[i] := by
  unfold swp2; rw [List.getElem?_eq_getElem hi, List.getElem?_eq_getElem hj]
theorem swp2_len (xs : List α) (i j : Nat) : (swp2 xs i j).length = xs.length := by unfold swp2; split <;> simp
/-- Exchange across a middle part. -/
theorem swp2_mid (A M Z : List α) (x y : α) : swp2 (A ++ x :: (M ++ y :: Z)) A.length (A.length + (M.length + 1)) = A ++ y :: (M ++ x :: Z) := by
  unfold swp2
  have e1 : (A ++ x :: (M ++ y :: Z))[A.length]? = some x := by simp
  have e2 : (A ++ x :: (M ++ y :: Z))[A.length + (M.length + 1)]? = some y := by
    rw [List.getElem?_append_right (by omega), Nat.add_sub_cancel_left, List.getElem?_cons_succ, List.getElem?_append_right (by omega), Nat.sub_self]; rfl
  rw [e1, e2]
  simp only
  rw [List.set_append_right _ _ (by omega), Nat.sub_self, List.set_cons_zero, List.set_append_right _ _ (by omega), Nat.add_sub_cancel_left, List.set_cons_succ, List.set_append_right _ _ (by omega), Nat.sub_self, List.set_cons_zero]
theorem swp2_comm (xs : List α) (i j : Nat) : swp2 xs i j = swp2 xs j i := by
  unfold swp2
  cases h1 : xs[i]? <;> cases h2 : xs[j]? <;> simp only
  by_cases e : i = j
  · subst e; rw [h1] at h2; cases h2; rfl
  · exact List.set_comm _ _ e
theorem swp2_mid' {xs A M Z : List α} {x y : α} {i j : Nat} (h : xs = A ++ x :: (M ++ y :: Z)) (hi : i = A.length) (hj : j = A.length + (M.length + 1)) : swp2 xs i j = A ++ y :: (M ++ x :: Z) := by
  subst h; subst hi; subst hj; exact swp2_mid A M Z x y
/-- Two ranges, of which the first i places are exchanged. -/
def srL (A U M V Z : List α) (i : Nat) : List α := A ++ (V.take i ++ (U.drop i ++ (M ++ (U.take i ++ (V.drop i ++ Z)))))
theorem srL_0 (A U M V Z : List α) : srL A U M V Z 0 = A ++ (U ++ (M ++ (V ++ Z))) := by simp [srL]
theorem srL_all {A U M V Z : List α} {n : Nat} (hu : U.length = n) (hv : V.length = n) : srL A U M V Z n = A ++ (V ++ (M ++ (U ++ Z))) := by
  unfold srL; rw [List.take_of_length_le (by omega), List.take_of_length_le (by omega), List.drop_of_length_le (by omega), List.drop_of_length_le (by omega)]; simp
theorem srL_len {A U M V Z : List α} (i : Nat) (h : U.length = V.length) : (srL A U M V Z i).length = A.length + (U.length + (M.length + (V.length + Z.length))) := by
  unfold srL; simp only [List.length_append, List.length_take, List.length_drop]; omega
theorem srL_step {A U M V Z : List α} {i n a b : Nat} (hu : U.length = n) (hv : V.length = n) (ha : A.length = a) (hb : a + (n + M.length) = b) (hi : i < n) : swp2 (srL A U M V Z i) (a + i) (b + i) = srL A U M V Z (i + 1) := by
  have e1 : U.drop i = U[i] :: U.drop (i + 1) := List.drop_eq_getElem_cons (by omega)
  have e2 : V.drop i = V[i] :: V.drop (i + 1) := List.drop_eq_getElem_cons (by omega)
  have e3 : U.take (i + 1) = U.take i ++ [U[i]] := by rw [List.take_add_one, List.getElem?_eq_getElem (by omega)]; rfl
  have e4 : V.take (i + 1) = V.take i ++ [V[i]] := by rw [List.take_add_one, List.getElem?_eq_getElem (by omega)]; rfl
  rw [swp2_mid' (A := A ++ V.take i) (M := U.drop (i + 1) ++ (M ++ U.take i)) (Z := V.drop (i + 1) ++ Z) (x := U[i]) (y := V[i])]
  · unfold srL; rw [e3, e4]; simp only [List.append_assoc, List.cons_append, List.nil_append]
  · unfold srL; rw [e1, e2]; simp only [List.append_assoc, List.cons_append, List.nil_append]
  · rw [List.length_append, List.length_take]; omega
  · simp only [List.length_append, List.length_take, List.length_drop]; omega
/-- One element that is moved up through the first i of the elements behind it. -/
def upL (A Y Z : List α) (x : α) (i : Nat) : List α := A ++ (Y.take i ++ x :: (Y.drop i ++ Z))
theorem upL_step {A Y Z : List α} {x : α} {i a : Nat} (ha : A.length = a) (hi : i < Y.length) : swp2 (upL A Y Z x i) (a + i) (a + i + 1) = upL A Y Z x (i + 1) := by
  have e2 : Y.drop i = Y[i] :: Y.drop (i + 1) := List.drop_eq_getElem_cons (by omega)
  have e4 : Y.take (i + 1) = Y.take i ++ [Y[i]] := by rw [List.take_add_one, List.getElem?_eq_getElem (by omega)]; rfl
  rw [swp2_mid' (A := A ++ Y.take i) (M := []) (Z := Y.drop (i + 1) ++ Z) (x := x) (y := Y[i])]
  · unfold upL; rw [e4]; simp only [List.append_assoc, List.cons_append, List.nil_append]
  · unfold upL; rw [e2]; simp only [List.append_assoc, List.cons_append, List.nil_append]
  · rw [List.length_append, List.length_take]; omega
  · simp only [List.length_append, List.length_take, List.length_nil]; omega
theorem upL_0 (A Y Z : List α) (x : α) : upL A Y Z x 0 = A ++ (x :: (Y ++ Z)) := by simp [upL]
theorem upL_len (A Y Z : List α) (x : α) (i : Nat) : (upL A Y Z x i).length = A.length + (1 + (Y.length + Z.length)) := by
  unfold upL; simp only [List.length_append, List.length_cons, List.length_take, List.length_drop]; omega
/-- One element that is moved down: what is below it. -/
theorem upL_down {A Y Z : List α} {x : α} {i a : Nat} (ha : A.length = a) (hi : i < Y.length) : swp2 (upL A Y Z x (i + 1)) (a + i + 1) (a + i) = upL A Y Z x i := by
  have e2 : Y.drop i = Y[i] :: Y.drop (i + 1) := List.drop_eq_getElem_cons (by omega)
  have e4 : Y.take (i + 1) = Y.take i ++ [Y[i]] := by rw [List.take_add_one, List.getElem?_eq_getElem (by omega)]; rfl
  rw [swp2_comm, swp2_mid' (A := A ++ Y.take i) (M := []) (Z := Y.drop (i + 1) ++ Z) (x := Y[i]) (y := x)]
  · unfold upL; rw [e2]; simp only [List.append_assoc, List.cons_append, List.nil_append]
  · unfold upL; rw [e4]; simp only [List.append_assoc, List.cons_append, List.nil_append]
  · rw [List.length_append, List.length_take]; omega
  · simp only [List.length_append, List.length_take, List.length_nil]; omega
theorem upL_perm (A Y Z : List α) (x : α) (i : Nat) : (Y.take i ++ x :: Y.drop i).Perm (x :: Y) := by
  have h := List.perm_middle (a := x) (l₁ := Y.take i) (l₂ := Y.drop i)
  rw [List.take_append_drop] at h
  exact h
/-- One element between two parts of a sorted list. -/
theorem srt_ins {key : α → Nat} {Y : List α} {x : α} (h : Srt key Y) (e : Nat) (he : e ≤ Y.length)
    (h1 : ∀ (_ : 0 < e), key (Y[e - 1]'(by omega)) ≤ key x) (h2 : ∀ (_ : e < Y.length), key x ≤ key Y[e]) : Srt key (Y.take e ++ x :: Y.drop e) := by
  refine srt_app (h.take e) ?_ ?_
  · refine List.pairwise_cons.2 ⟨fun v hv => ?_, h.drop e⟩
    obtain ⟨j, hj, rfl⟩ := List.getElem_of_mem hv
    simp only [List.length_drop] at hj
    rw [List.getElem_drop]
    exact Nat.le_trans (h2 (by omega)) (h.at' (by omega) (by omega))
  · intro u hu v hv
    obtain ⟨i, hi, rfl⟩ := List.getElem_of_mem hu
    simp only [List.length_take] at hi
    rw [List.getElem_take]
    have h3 : key (Y[i]'(by omega)) ≤ key x := Nat.le_trans (h.at' (i := i) (j := e - 1) (by omega) (by omega)) (h1 (by omega))
    rcases List.mem_cons.1 hv with rfl | hv
    · exact h3
    · obtain ⟨j, hj, rfl⟩ := List.getElem_of_mem hv
      simp only [List.length_drop] at hj
      rw [List.getElem_drop]
      exact h.at (by omega) (by omega)
end
end Go.Proofs.Ytlbmjeennpccmaa
/- Plain facts on lists whose blocks of a size are sorted. No condition. -/
namespace Go.Proofs.Ytlbmjeennpccmaa

section
variable {α : Type} {key : α → Nat}
/-- Each block of so many elements is sorted. -/
def Blk (key : α → Nat) (k : Nat) (xs : List α) : Prop := ∀ i, Srt key ((xs.drop (i * k)).take k)
theorem blk_nil (k : Nat) : Blk key k [] := fun i => by rw [List.drop_nil, List.take_nil]; exact srt_nil
theorem Blk.first {k : Nat} {xs : List α} (h : Blk key k xs) : Srt key (xs.take k) := by have := h 0; rw [Nat.zero_mul, List.drop_zero] at this; exact this
theorem Blk.rest {k : Nat} {xs : List α} (h : Blk key k xs) : Blk key k (xs.drop k) := fun i => by
  rw [List.drop_drop, show k + i * k = (i + 1) * k by rw [Nat.succ_mul]; omega]; exact h (i + 1)
theorem Blk.whole {k : Nat} {xs : List α} (h : Blk key k xs) (hl : xs.length ≤ k) : Srt key xs := by have := h.first; rw [List.take_of_length_le hl] at this; exact this
theorem blk_one {k : Nat} {xs : List α} (h : Srt key xs) : xs.length ≤ k → Blk key k xs := fun hl i => by
  cases i with
  | zero => rw [Nat.zero_mul, List.drop_zero, List.take_of_length_le hl]; exact h
  | succ i =>
    rw [List.drop_of_length_le (by rw [Nat.succ_mul]; omega), List.take_nil]
    exact srt_nil
theorem blk_app {k j : Nat} {xs ys : List α} (h1 : Blk key k xs) (h2 : Blk key k ys) (hl : xs.length = j * k) : Blk key k (xs ++ ys) := fun i => by
  by_cases h : i < j
  · have h3 : (i + 1) * k ≤ j * k := Nat.mul_le_mul_right k h
    rw [Nat.succ_mul] at h3
    rw [List.drop_append_of_le_length (by omega), List.take_append_of_le_length (by rw [List.length_drop]; omega)]
    exact h1 i
  · have h3 : j * k ≤ i * k := Nat.mul_le_mul_right k (by omega)
    have h4 : i * k - xs.length = (i - j) * k := by rw [hl, Nat.sub_mul]
    rw [List.drop_append, List.drop_of_length_le (by omega), List.nil_append, h4]
    exact h2 (i - j)
end
end Go.Proofs.Ytlbmjeennpccmaa
