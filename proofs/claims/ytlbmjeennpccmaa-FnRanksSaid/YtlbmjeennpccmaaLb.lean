
/- Plain facts on lists whose blocks of a size are sorted. No condition. -/
import Derived.Test.YtlbmjeennpccmaaLo
namespace Go.Proofs.Ytlbmjeennpccmaa

section
variable {α : Type} {key : α → Nat}
/-- Each block of so many elements is sorted. -/
def Blk (key : α → Nat) (k : Nat) (xs : List α) : Prop := ∀ i, Srt key ((xs.drop (i * k)).take k)
theorem blk_nil (k : Nat) : Blk key k [] := fun i => by rw [List.drop_nil, List.take_nil]; exact srt_nil
theorem Blk.first {k : Nat} {xs : List α} (h : Blk key k xs) : Srt key (xs.take k) := by have := h 0; rw [Nat.zero_mul, List.drop_zero] at this; exact this
theorem Blk.rest {k : Nat} {xs : List α} (h : Blk key k xs) : Blk key k (xs.drop k) := fun i => by
  rw [List.drop_drop, show k + i * k = (i + 1) * k by rw [Nat.succ_mul]; omega]; exact h (i + 1)
theorem Blk.whole {k : Nat} {xs : List α} (h : Blk key k xs) (hl : xs.length ≤ k) : Srt key xs := by have := h.first; rw [List.take_of_length_le hl] at this; exact this
theorem blk_one {k : Nat} {xs : List α} (h : Srt key xs) : xs.length ≤ k → Blk key k xs := fun hl i => by
  cases i with
  | zero => rw [Nat.zero_mul, List.drop_zero, List.take_of_length_le hl]; exact h
  | succ i =>
    rw [List.drop_of_length_le (by rw [Nat.succ_mul]; omega), List.take_nil]
    exact srt_nil
theorem blk_app {k j : Nat} {xs ys : List α} (h1 : Blk key k xs) (h2 : Blk key k ys) (hl : xs.length = j * k) : Blk key k (xs ++ ys) := fun i => by
  by_cases h : i < j
  · have h3 : (i + 1) * k ≤ j * k := Nat.mul_le_mul_right k h
    rw [Nat.succ_mul] at h3
    rw [List.drop_append_of_le_length (by omega), List.take_append_of_le_length (by rw [List.length_drop]; omega)]
    exact h1 i
  · have h3 : j * k ≤ i * k := Nat.mul_le_mul_right k (by omega)
    have h4 : i * k - xs.length = (i - j) * k := by rw [hl, Nat.sub_mul]
    rw [List.drop_append, List.drop_of_length_le (by omega), List.nil_append, h4]
    exact h2 (i - j)
end
end Go.Proofs.Ytlbmjeennpccmaa
