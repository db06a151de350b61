
/- Contracts of the laws' helpers for lists of integers and for systems, and of the two functions SameSystem. Conditions: lists that can be read, of at most 2^20 numbers where they are copied. -/
import Derived.Test.YtgmdoboeenpjpaaProg
import Derived.Test.YtgmdoboeenpjpaaLib
import Derived.Test.YtgmdoboeenpjpaaRg
import Derived.Deep.QuietTactic
import Derived.BigQuiet
import Derived.Outline
namespace Go.Proofs.Ytgmdoboeenpjpaa
open Go Go.RowKit

theorem infoI64 : (Try.prog.info? 2).map (fun i => (i.zero, i.size, i.bytes)) = some (some (.int .i64 0), 1, 8) := by kernel_rfl

set_option maxHeartbeats 1000000 in
theorem slicesEqualI_any (v1 v2 : Value) (zs ys : List Int) (w : World) (r1 : RdI w v1 zs) (r2 : RdI w v2 ys) :
    Calls Try.prog 97 #[v1, v2] w fun e w' => e = .returned (.bool (decide (zs = ys))) ∧ ∃ m, w' = w.drewN m := by
  have r1' := r1
  have r2' := r2
  obtain ⟨_, a1, c1, rfl, p1, p2, _, _⟩ := r1
  obtain ⟨_, a2, c2, rfl, q1, q2, _, _⟩ := r2
  unfold maxLen at p2 q2
  by_cases hl : zs.length = ys.length
  · have hne : ((zs.length : Int) != (ys.length : Int)) = false := by simp [hl]
    have Hl := Lib.hid hl
    clear hl
    go_enter Try.func97, Try.ntmps97
    go_wp2_with fail
    go_loopw [13] (fun i wr => ∃ k : Nat, k ≤ zs.length ∧ i = .int .i64 k ∧ Hid (zs.take k = ys.take k) ∧ ∃ m, wr = w.drewN m) (fun i _ => zs.length - (intOf i).toNat)
    case atStart => exact ⟨0, Nat.zero_le _, rfl, rfl, 0, rfl⟩
    case round =>
      obtain ⟨k, hk, rfl, Hs, m, rfl⟩ := hrel
      by_cases hlt : k < zs.length
      · have hlt2 : k < ys.length := by rw [← Hl.out]; exact hlt
        obtain ⟨b1, o1, rfl, hb1, hc1⟩ := r1'.at hlt
        obtain ⟨b2, o2, rfl, hb2, hc2⟩ := r2'.at hlt2
        by_cases he : zs[k] = ys[k]
        · have he1 : (zs[k] != ys[k]) = false := by simp [he]
          have Ht := Lib.hid (take_same hlt hlt2 Hs.out he)
          clear he
          go_wp2_with fail
          go_quiet (fail)
          go_wp2_with fail
          go_roundw
          case rel => exact ⟨k + 1, by omega, by go_num, Ht, _, rfl⟩
          case measure => simp [intOf]; omega
        · have he1 : (zs[k] != ys[k]) = true := by simp [he]
          have hd : decide (zs = ys) = false := by
            simp only [decide_eq_false_iff_not]; rintro rfl; exact he rfl
          have Hd := Lib.hid hd
          clear he hd
          go_wp2_with fail
          go_quiet (fail)
          go_wp2_with fail
          go_ret
          exact ⟨ret_bool Hd.out.symm, _, World.drewN_drewN _ _ _⟩
      · have hd : decide (zs = ys) = true := by
          have h := Hs.out
          rw [List.take_of_length_le (by omega), List.take_of_length_le (by rw [← Hl.out]; omega)] at h
          simp [h]
        have Hd := Lib.hid hd
        clear hd
        go_wp2_with fail
        go_ret
        exact ⟨ret_bool Hd.out.symm, _, rfl⟩
  · have hne : ((zs.length : Int) != (ys.length : Int)) = true := by simp; omega
    have hd : decide (zs = ys) = false := by
      simp only [decide_eq_false_iff_not]; rintro rfl; exact hl rfl
    have Hd := Lib.hid hd
    clear hl hd
    go_enter Try.func97, Try.ntmps97
    go_wp2_with fail
    go_ret
    exact ⟨ret_bool Hd.out.symm, 0, rfl⟩

def sysEqB (p q : Int) (zs ys : List Int) : Bool := decide (p = q ∧ zs = ys)
theorem sysEqB_self (p : Int) (zs : List Int) : sysEqB p p zs zs = true := by simp [sysEqB]




end Go.Proofs.Ytgmdoboeenpjpaa
