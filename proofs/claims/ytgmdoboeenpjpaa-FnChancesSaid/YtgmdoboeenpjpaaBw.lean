
/- A list sorted and freed of what stands twice: the sets of the list, ascending. Plain laws. -/
import Derived.Test.YtgmdoboeenpjpaaBu
import Derived.Lib.SlicesCompact
namespace Go.Proofs.Ytgmdoboeenpjpaa
open Go Go.RowKit

theorem asc_extI : ∀ {xs ys : List Int}, xs.Pairwise (· < ·) → ys.Pairwise (· < ·) → (∀ x, x ∈ xs ↔ x ∈ ys) → xs = ys
  | [], [], _, _, _ => rfl
  | [], y :: ys, _, _, h => by have := (h y).2 (by simp); simp at this
  | x :: xs, [], _, _, h => by have := (h x).1 (by simp); simp at this
  | x :: xs, y :: ys, hx, hy, h => by
    obtain ⟨hx1, hx2⟩ := List.pairwise_cons.1 hx
    obtain ⟨hy1, hy2⟩ := List.pairwise_cons.1 hy
    have e : x = y := by
      rcases List.mem_cons.1 ((h x).1 (by simp)) with e | h1
      · exact e
      · rcases List.mem_cons.1 ((h y).2 (by simp)) with e | h2
        · exact e.symm
        · have := hx1 y h2; have := hy1 x h1; omega
    subst e
    rw [asc_extI hx2 hy2 fun z => ?_]
    constructor
    · intro hz
      rcases List.mem_cons.1 ((h z).1 (by simp [hz])) with e | h2
      · subst e; have := hx1 z hz; omega
      · exact h2
    · intro hz
      rcases List.mem_cons.1 ((h z).2 (by simp [hz])) with e | h2
      · subst e; have := hy1 z hz; omega
      · exact h2

theorem compact_upto (d : Array Int) (hs : ∀ i j, i ≤ j → j < d.size → d[i]! ≤ d[j]!) : ∀ m, m ≤ d.size → (Lib.compactUpTo d m).Pairwise (· < ·) ∧ (∀ x ∈ Lib.compactUpTo d m, ∃ j, j < m ∧ d[j]! = x) ∧ (∀ j, j < m → d[j]! ∈ Lib.compactUpTo d m)
  | 0, _ => by simp [Lib.compactUpTo]
  | m + 1, hm => by
    obtain ⟨h1, h2, h3⟩ := compact_upto d hs m (by omega)
    rw [Lib.compactUpTo_succ]
    cases hk : Lib.keeps d m with
    | true =>
      simp only [if_true]
      refine ⟨List.pairwise_append.2 ⟨h1, List.pairwise_singleton _ _, fun x hx y hy => ?_⟩, fun x hx => ?_, fun j hj => ?_⟩
      · obtain ⟨j, hj, rfl⟩ := h2 x hx
        obtain rfl := List.mem_singleton.1 hy
        simp only [Lib.keeps, decide_eq_true_eq] at hk
        rcases hk with e | hk
        · omega
        · have a := hs j (m - 1) (by omega) (by omega)
          have b := hs (m - 1) m (by omega) (by omega)
          omega
      · rcases List.mem_append.1 hx with h | h
        · obtain ⟨j, hj, e⟩ := h2 x h; exact ⟨j, by omega, e⟩
        · obtain rfl := List.mem_singleton.1 h; exact ⟨m, by omega, rfl⟩
      · by_cases e : j = m
        · subst e; exact List.mem_append_right _ (by simp)
        · exact List.mem_append_left _ (h3 j (by omega))
    | false =>
      simp only [Bool.false_eq_true, if_false, List.append_nil]
      refine ⟨h1, fun x hx => ?_, fun j hj => ?_⟩
      · obtain ⟨j, hj, e⟩ := h2 x hx; exact ⟨j, by omega, e⟩
      · by_cases e : j = m
        · subst e
          simp only [Lib.keeps, decide_eq_false_iff_not, not_or, ne_eq, Decidable.not_not] at hk
          rw [hk.2]
          exact h3 (j - 1) (by omega)
        · exact h3 j (by omega)

theorem compact_sorted (zs : List Int) : (Lib.compact (zs.mergeSort fun x y => decide (x ≤ y))).Pairwise (· < ·) ∧ ∀ x, x ∈ Lib.compact (zs.mergeSort fun x y => decide (x ≤ y)) ↔ x ∈ zs := by
  have hp : (zs.mergeSort fun x y => decide (x ≤ y)).Pairwise (fun a b => decide (a ≤ b) = true) :=
    List.pairwise_mergeSort (fun a b c h1 h2 => by simp only [decide_eq_true_eq] at *; omega) (fun a b => by simp only [Bool.or_eq_true, decide_eq_true_eq]; omega) zs
  have hm : ∀ x, x ∈ (zs.mergeSort fun x y => decide (x ≤ y)) ↔ x ∈ zs := fun x => List.mem_mergeSort
  generalize (zs.mergeSort fun x y => decide (x ≤ y)) = ys at *
  have hs : ∀ i j, i ≤ j → j < ys.toArray.size → ys.toArray[i]! ≤ ys.toArray[j]! := by
    intro i j hij hj
    have hj' : j < ys.length := by simpa using hj
    rw [getElem!_pos ys.toArray i (by simp; omega), getElem!_pos ys.toArray j (by simpa using hj)]
    simp only [List.getElem_toArray]
    rcases Nat.lt_or_ge i j with h | h
    · have := List.pairwise_iff_getElem.1 hp i j (by omega) hj' h
      simpa using this
    · have : i = j := by omega
      subst this; exact Int.le_refl _
  obtain ⟨h1, h2, h3⟩ := compact_upto ys.toArray hs ys.length (by simp)
  refine ⟨h1, fun x => ?_⟩
  rw [← hm x]
  constructor
  · intro hx
    obtain ⟨j, hj, rfl⟩ := h2 x hx
    rw [getElem!_pos ys.toArray j (by simpa using hj)]
    simp
  · intro hx
    obtain ⟨j, hj, rfl⟩ := List.getElem_of_mem hx
    have := h3 j hj
    rw [getElem!_pos ys.toArray j (by simpa using hj)] at this
    simp at this
    exact this

def ups (ns : List Nat) : List Int := ns.map fun (n : Nat) => (n : Int)
theorem ups_len (ns : List Nat) : (ups ns).length = ns.length := by simp [ups]
theorem mem_ups {ns : List Nat} {x : Int} : x ∈ ups ns ↔ ∃ n ∈ ns, (n : Int) = x := by simp [ups]
theorem ups_lt {ns : List Nat} (h : ns.Pairwise (· < ·)) : (ups ns).Pairwise (· < ·) := by
  unfold ups
  rw [List.pairwise_map]
  exact h.imp fun h => by omega
theorem compact_ups {N : Nat} {ns : List Nat} (hb : ∀ z ∈ ns, z < N) : Lib.compact ((ups ns).mergeSort fun x y => decide (x ≤ y)) = ups (setsOf N ns) := by
  obtain ⟨h1, h2⟩ := compact_sorted (ups ns)
  refine asc_extI h1 (ups_lt (setsOf_asc _ _)) fun x => ?_
  rw [h2, mem_ups, mem_ups]
  exact ⟨fun ⟨n, hn, e⟩ => ⟨n, (mem_setsOf hb).2 hn, e⟩, fun ⟨n, hn, e⟩ => ⟨n, (mem_setsOf hb).1 hn, e⟩⟩
/-- A set of ints has all parts of another one: 'part &^ set == 0'. -/
def hasI (set part : Int) : Bool := bits .andNot .i64 part set == 0
theorem hasI_nat {a b : Nat} (ha : a < 9223372036854775808) (hb : b < 9223372036854775808) : hasI a b = hasB a b := by
  unfold hasI
  rw [bits_andNot b a hb ha, Bool.eq_iff_iff, ← has_zero]
  simp
/-- What 'least' leaves out: sets that have all parts of another one of the list. -/
def aboveI (cs : List Int) (s : Int) : Bool := cs.any fun p => p != s && hasI s p
theorem least_ups {cs : List Nat} (hb : ∀ z ∈ cs, z < 9223372036854775808) : (ups cs).filter (fun x => !aboveI (ups cs) x) = ups (minL cs) := by
  unfold minL ups
  rw [List.filter_map]
  congr 1
  apply List.filter_congr
  intro s hs
  have hs' := hb s hs
  simp only [Function.comp, aboveI]
  congr 1
  rw [List.any_map, Bool.eq_iff_iff, List.any_eq_true, List.any_eq_true]
  constructor
  · rintro ⟨q, hq, h⟩
    simp only [Function.comp, Bool.and_eq_true, bne_iff_ne, ne_eq, Int.natCast_inj] at h
    exact ⟨q, hq, by rw [← hasI_nat hs' (hb q hq)]; simp [h.1, h.2]⟩
  · rintro ⟨q, hq, h⟩
    simp only [Bool.and_eq_true, bne_iff_ne, ne_eq] at h
    exact ⟨q, hq, by simp only [Function.comp, Bool.and_eq_true, bne_iff_ne, ne_eq, Int.natCast_inj]; exact ⟨h.1, by rw [hasI_nat hs' (hb q hq)]; exact h.2⟩⟩
end Go.Proofs.Ytgmdoboeenpjpaa
