
/- Contracts of the functions of the laws that write marks into a list of 32-bit numbers and look whether they hold. No condition. -/
import Derived.Test.YtgmdoboeenpjpaaSN
import Derived.Test.YtgmdoboeenpjpaaD
namespace Go.Proofs.Ytgmdoboeenpjpaa
open Go Go.RowKit Go.ChangeShapes Go.WideShapes Go.ChangeAt

attribute [local go_sem] run_store_float

/-- The marks from k on. -/
def marksF (k : Int) (n : Nat) : List Nat := (List.range n).map fun (i : Nat) => floatOfInt .f32 (k + (i : Int))
theorem marksF_len (k : Int) (n : Nat) : (marksF k n).length = n := by simp [marksF]
theorem marksF_get (k : Int) (n i : Nat) (h : i < n) : (marksF k n)[i]'(by rw [marksF_len]; exact h) = floatOfInt .f32 (k + (i : Int)) := by simp [marksF]
theorem marksF_succ (k : Int) (n : Nat) : marksF k (n + 1) = marksF k n ++ [floatOfInt .f32 (k + (n : Int))] := by
  unfold marksF; rw [List.range_succ, List.map_append]; rfl
theorem floatOfInt_lt (n : Int) : floatOfInt .f32 n < 4294967296 := by
  have h : floatOfInt .f32 n < 2 ^ FloatKind.f32.format.width := by
    unfold floatOfInt FloatKind.nearest FloatKind.encode; exact Ieee.Format.write_lt _ _
  exact h
theorem marksF_lt (k : Int) (n : Nat) : ∀ b ∈ marksF k n, b < 4294967296 := by
  intro b hb
  obtain ⟨i, _, rfl⟩ := List.mem_map.1 hb
  exact floatOfInt_lt _
theorem floatOfInt_neq (n : Int) : fcmp .neq .f32 (cn .f32 (floatOfInt .f32 n)) (cn .f32 (floatOfInt .f32 n)) = false := by
  rw [neq_self]
  unfold floatOfInt FloatKind.nearest FloatKind.encode
  exact isN_write .f32 rfl


end Go.Proofs.Ytgmdoboeenpjpaa
