
/- How many parts a set has, both sides. Condition: sets below 1024. -/
import Derived.Test.YtgmdoboeenpjpaaYn
namespace Go.Proofs.Ytgmdoboeenpjpaa
open Go Go.RowKit Go.ChangeShapes Go.WideShapes Go.ChangeAt

attribute [local irreducible] LX

theorem wrapU_nat (n : Nat) (h : n < 18446744073709551616) : IntKind.u64.wrap (n : Int) = (n : Int) := by
  have e : IntKind.u64.wrap (n : Int) = (n : Int) % 18446744073709551616 := by simp [IntKind.wrap, IntKind.bits, IntKind.signed]
  rw [e]; omega
theorem bitsU_and (a b : Nat) (ha : a < 18446744073709551616) (hb : b < 18446744073709551616) : bits .and .u64 (a : Int) (b : Int) = ((a &&& b : Nat) : Int) := by
  show IntKind.u64.wrap ((BitVec.ofInt 64 (a : Int) &&& BitVec.ofInt 64 (b : Int)).toNat : Int) = _
  rw [BitVec.toNat_and, ofInt_nat a (by omega), ofInt_nat b (by omega)]
  exact wrapU_nat _ (Nat.lt_of_le_of_lt Nat.and_le_left ha)

def oc1 (s : Nat) : Nat := ((s / 2) &&& 6148914691236517205) + (s &&& 6148914691236517205)
def oc2 (s : Nat) : Nat := ((s / 4) &&& 3689348814741910323) + (s &&& 3689348814741910323)
def oc3 (s : Nat) : Nat := (s / 16 + s) &&& 1085102592571150095
def oc4 (s : Nat) : Nat := s + s / 256
def oc5 (s : Nat) : Nat := s + s / 65536
def oc6 (s : Nat) : Nat := s + s / 4294967296
theorem oc_all : ∀ s : Fin 1024, (oc6 (oc5 (oc4 (oc3 (oc2 (oc1 s.val)))))) &&& 127 = popF 10 s.val := by decide +kernel
theorem oc_pop {s : Nat} (hs : s < 1024) : (oc6 (oc5 (oc4 (oc3 (oc2 (oc1 s)))))) &&& 127 = pop s := by
  rw [oc_all ⟨s, hs⟩]
  exact (popF_more 10 64 s (by have : (2 : Nat) ^ 10 = 1024 := by decide
                               omega) (by decide)).symm
theorem oc_le1 (s : Nat) : oc1 s ≤ 2 * s := by unfold oc1; have := @Nat.and_le_left (s / 2) 6148914691236517205; have := @Nat.and_le_left s 6148914691236517205; omega
theorem oc_le2 (s : Nat) : oc2 s ≤ 2 * s := by unfold oc2; have := @Nat.and_le_left (s / 4) 3689348814741910323; have := @Nat.and_le_left s 3689348814741910323; omega
theorem oc_le3 (s : Nat) : oc3 s ≤ 2 * s := by unfold oc3; have := @Nat.and_le_left (s / 16 + s) 1085102592571150095; omega
theorem oc_le4 (s : Nat) : oc4 s ≤ 2 * s := by unfold oc4; omega
theorem oc_le5 (s : Nat) : oc5 s ≤ 2 * s := by unfold oc5; omega
theorem oc_le6 (s : Nat) : oc6 s ≤ 2 * s := by unfold oc6; omega

set_option maxHeartbeats 2000000 in
theorem onesCount_any (s : Nat) (w : World) (hs : s < 1024) : Calls Try.prog 102 #[.int .u64 s] w fun e w' => e = .returned (.int .i64 (pop s)) ∧ w = w' := by
  have HP := Lib.hid (oc_pop hs)
  have l1 := oc_le1 s
  have l2 := oc_le2 (oc1 s)
  have l3 := oc_le3 (oc2 (oc1 s))
  have l4 := oc_le4 (oc3 (oc2 (oc1 s)))
  have l5 := oc_le5 (oc4 (oc3 (oc2 (oc1 s))))
  have l6 := oc_le6 (oc5 (oc4 (oc3 (oc2 (oc1 s)))))
  generalize e1 : oc1 s = x1 at *
  unfold oc1 at e1
  generalize e2 : oc2 x1 = x2 at *
  unfold oc2 at e2
  generalize e3 : oc3 x2 = x3 at *
  unfold oc3 at e3
  generalize e4 : oc4 x3 = x4 at *
  unfold oc4 at e4
  generalize e5 : oc5 x4 = x5 at *
  unfold oc5 at e5
  generalize e6 : oc6 x5 = x6 at *
  unfold oc6 at e6
  have b1 : bits .and .u64 ((s / 2 : Nat) : Int) 6148914691236517205 = _ := bitsU_and (s / 2) 6148914691236517205 (by omega) (by decide)
  have b2 : bits .and .u64 (s : Int) 6148914691236517205 = _ := bitsU_and s 6148914691236517205 (by omega) (by decide)
  have b3 : bits .and .u64 ((x1 / 4 : Nat) : Int) 3689348814741910323 = _ := bitsU_and (x1 / 4) 3689348814741910323 (by omega) (by decide)
  have b4 : bits .and .u64 (x1 : Int) 3689348814741910323 = _ := bitsU_and x1 3689348814741910323 (by omega) (by decide)
  have b5 : bits .and .u64 ((x2 / 16 + x2 : Nat) : Int) 1085102592571150095 = _ := bitsU_and (x2 / 16 + x2) 1085102592571150095 (by omega) (by decide)
  have b6 : bits .and .i64 (x6 : Int) 127 = _ := bits_and x6 127 (by omega) (by decide)
  rw [HP.out] at b6
  have c1 : IntKind.u64.wrap (bits .and .u64 ((s : Int) / 2) 6148914691236517205 + bits .and .u64 (s : Int) 6148914691236517205) = (x1 : Int) := by
    rw [show ((s : Int) / 2) = ((s / 2 : Nat) : Int) by omega, b1, b2, ← Int.natCast_add, e1]; exact wrapU_nat _ (by omega)
  have c2 : IntKind.u64.wrap (bits .and .u64 ((x1 : Int) / 4) 3689348814741910323 + bits .and .u64 (x1 : Int) 3689348814741910323) = (x2 : Int) := by
    rw [show ((x1 : Int) / 4) = ((x1 / 4 : Nat) : Int) by omega, b3, b4, ← Int.natCast_add, e2]; exact wrapU_nat _ (by omega)
  have c3 : bits .and .u64 (IntKind.u64.wrap ((x2 : Int) / 16 + (x2 : Int))) 1085102592571150095 = (x3 : Int) := by
    rw [show ((x2 : Int) / 16 + (x2 : Int)) = ((x2 / 16 + x2 : Nat) : Int) by omega, wrapU_nat _ (by omega), b5, e3]
  have c4 : IntKind.u64.wrap ((x3 : Int) + (x3 : Int) / 256) = (x4 : Int) := by
    rw [show ((x3 : Int) + (x3 : Int) / 256) = (x4 : Int) by omega]; exact wrapU_nat _ (by omega)
  have c5 : IntKind.u64.wrap ((x4 : Int) + (x4 : Int) / 65536) = (x5 : Int) := by
    rw [show ((x4 : Int) + (x4 : Int) / 65536) = (x5 : Int) by omega]; exact wrapU_nat _ (by omega)
  have c6 : IntKind.u64.wrap ((x5 : Int) + (x5 : Int) / 4294967296) = (x6 : Int) := by
    rw [show ((x5 : Int) + (x5 : Int) / 4294967296) = (x6 : Int) by omega]; exact wrapU_nat _ (by omega)
  have hx6 : x6 ≤ 65536 := by omega
  clear e1 e2 e3 e4 e5 e6 l1 l2 l3 l4 l5 l6 b1 b2 b3 b4 b5 HP
  go_enter Try.func102, Try.ntmps102
  go_wp2_with fail
  go_ret
  exact ⟨rfl, rfl⟩

theorem sizeOf_any (s : Nat) (w : World) (hs : s < 1024) : Calls Try.prog 72 #[.int .i64 s] w fun e w' => e = .returned (.int .i64 (pop s)) ∧ w = w' := by
  have hw := wrapU_nat s (by omega)
  go_enter Try.func72, Try.ntmps72
  go_wp2_with fail
  refine (onesCount_any s w hs).mono ?_
  rintro e w1 ⟨rfl, rfl⟩
  go_wp2_with fail
  go_ret
  exact ⟨rfl, rfl⟩

set_option maxHeartbeats 1000000 in
theorem l03Size_any (s : Nat) (w : World) (hs : s < 1024) : Calls Try.prog 51 #[.int .i64 s] w fun e w' => e = .returned (.int .i64 (pop s)) ∧ w = w' := by
  have hple : pop s ≤ 64 := pop_le s 64 (by have : (2 : Nat) ^ 64 = 18446744073709551616 := by decide
                                            omega) (by decide)
  go_enter Try.func51, Try.ntmps51
  go_wp2_with fail
  go_loopw [0, 3] (fun a b wr => ∃ x n : Nat, a = .int .i64 x ∧ b = .int .i64 n ∧ x ≤ s ∧ Hid (n + pop x = pop s) ∧ n ≤ 64 ∧ wr = w) (fun a _ _ => (intOf a).toNat)
  case atStart => exact ⟨s, 0, rfl, rfl, Nat.le_refl _, Nat.zero_add _, by omega, rfl⟩
  case round =>
    obtain ⟨x, n, rfl, rfl, hx, HN, hn, rfl⟩ := hrel
    by_cases h0 : 0 < x
    · have hph := pop_half x (by omega)
      have HN2 : Hid (n + x % 2 + pop (x / 2) = pop s) := by show _ = _; have := HN.out; omega
      have hn2 : n + x % 2 ≤ 64 := by have := HN2.out; omega
      have hxi : (0 : Int) < (x : Int) := by omega
      clear hph
      go_wp2_with fail
      go_roundw
      case rel => exact ⟨x / 2, n + x % 2, by go_num, by go_num, by omega, HN2, hn2, by first | rfl | trivial⟩
      case measure => simp [intOf]; omega
    · obtain rfl : x = 0 := by omega
      have HE : Hid (n = pop s) := by show _ = _; have := HN.out; rw [pop_zero] at this; omega
      go_wp2_with fail
      go_ret
      exact ⟨by rw [← HE.out]; rfl, rfl⟩
end Go.Proofs.Ytgmdoboeenpjpaa
