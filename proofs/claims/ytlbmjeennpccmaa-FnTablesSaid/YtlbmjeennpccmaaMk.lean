
/- Contracts of the functions of the laws that write marks into a list of 32-bit numbers and look whether they hold. No condition. -/
import Derived.Test.YtlbmjeennpccmaaSN
import Derived.Test.YtlbmjeennpccmaaD
namespace Go.Proofs.Ytlbmjeennpccmaa
open Go Go.RowKit Go.ChangeShapes Go.WideShapes Go.ChangeAt

attribute [local go_sem] run_store_float

/-- The marks from k on. -/
def marksF (k : Int) (n : Nat) : List Nat := (List.range n).map fun (i : Nat) => floatOfInt .f32 (k + (i : Int))
theorem marksF_len (k : Int) (n : Nat) : (marksF k n).length = n := by simp [marksF]
theorem marksF_get (k : Int) (n i : Nat) (h : i < n) : (marksF k n)[i]'(by rw [marksF_len]; exact h) = floatOfInt .f32 (k + (i : Int)) := by simp [marksF]
theorem marksF_succ (k : Int) (n : Nat) : marksF k (n + 1) = marksF k n ++ [floatOfInt .f32 (k + (n : Int))] := by
  unfold marksF; rw [List.range_succ, List.map_append]; rfl
theorem floatOfInt_lt (n : Int) : floatOfInt .f32 n < 4294967296 := by
  have h : floatOfInt .f32 n < 2 ^ FloatKind.f32.format.width := by
    unfold floatOfInt FloatKind.nearest FloatKind.encode; exact Ieee.Format.write_lt _ _
  exact h
theorem marksF_lt (k : Int) (n : Nat) : ∀ b ∈ marksF k n, b < 4294967296 := by
  intro b hb
  obtain ⟨i, _, rfl⟩ := List.mem_map.1 hb
  exact floatOfInt_lt _
theorem floatOfInt_neq (n : Int) : fcmp .neq .f32 (cn .f32 (floatOfInt .f32 n)) (cn .f32 (floatOfInt .f32 n)) = false := by
  rw [neq_self]
  unfold floatOfInt FloatKind.nearest FloatKind.encode
  exact isN_write .f32 rfl

set_option maxHeartbeats 1000000 in
theorem markF_any (k0 : Int) (g n cap B : Nat) (bs : List Nat) (w : World) (own : w.ownsRow B 24 1 (.slice (some ⟨g, 0, none⟩) n cap) n (bs.map (Value.float .f32))) (h0 : 0 ≤ k0) (h1 : k0 ≤ 1048576) (hn : n ≤ 1048576) :
    Calls Try.prog 19 #[.slice (some ⟨g, 0, none⟩) n cap, .int .i64 k0] w fun e w' => e = .returned (.int .i64 (k0 + n)) ∧ Below B w w' ∧
      w'.ownsRow B 24 1 (.slice (some ⟨g, 0, none⟩) n cap) n ((marksF k0 n).map (Value.float .f32)) := by
  have hl : bs.length = n := by simpa using own.1
  have hgB : B ≤ g := (own.lt g rfl).1
  go_enter Try.func19, Try.ntmps19
  go_wp2_with fail
  go_loopw [1, 5] (fun q i wr => ∃ j : Nat, j ≤ n ∧ i = .int .i64 j ∧ q = .int .i64 (k0 + j) ∧
    wr.ownsRow B 24 1 (.slice (some ⟨g, 0, none⟩) n cap) n ((marksF k0 j ++ bs.drop j).map (Value.float .f32)) ∧ Below B w wr) (fun _ i _ => n - (intOf i).toNat)
  case atStart => exact ⟨0, Nat.zero_le _, rfl, by simp, by simpa [marksF] using own, Below.refl _ _⟩
  case round =>
    obtain ⟨j, hj, rfl, rfl, own1, X⟩ := hrel
    clear own
    by_cases hlt : j < n
    · have hc0 := own1.cellAt j (by omega)
      have hf0 := own1.frozenAt j
      have hj1 : j < bs.length := by omega
      have hst := own1.stored j (.float .f32 (floatOfInt .f32 (k0 + (j : Int))))
      have Hst := Lib.hid hst
      clear hst
      rw [List.getElem?_map, List.getElem?_append_right (by rw [marksF_len]; omega), marksF_len, Nat.sub_self, List.getElem?_drop, Nat.add_zero, List.getElem?_eq_getElem hj1] at hc0
      simp only [Option.map_some] at hc0
      go_wp2_with fail
      go_roundw
      case rel =>
        have e : ((marksF k0 j ++ bs.drop j).map (Value.float .f32)).set j (.float .f32 (floatOfInt .f32 (k0 + (j : Int)))) = (marksF k0 (j + 1) ++ bs.drop (j + 1)).map (Value.float .f32) := by
          rw [← List.map_set]
          congr 1
          rw [List.set_append_right _ _ (by rw [marksF_len]; omega), marksF_len, Nat.sub_self, List.drop_eq_getElem_cons hj1, List.set_cons_zero, marksF_succ]
          simp
        refine ⟨j + 1, by omega, by go_num, by go_num, e ▸ Hst.out.1, X.setCell hgB _⟩
      case measure => simp [intOf]; omega
    · have hjn : j = n := by omega
      subst hjn
      rw [List.drop_of_length_le (by omega), List.append_nil] at own1
      go_wp2_with fail
      go_ret
      exact ⟨rfl, X, own1⟩
theorem markF_nil (k0 : Int) (w : World) : Calls Try.prog 19 #[.slice none 0 0, .int .i64 k0] w fun e w' => e = .returned (.int .i64 k0) ∧ w = w' := by
  go_enter Try.func19, Try.ntmps19
  go_wp2_with fail
  go_loopw [1, 5] (fun q i wr => i = .int .i64 0 ∧ q = .int .i64 k0 ∧ wr = w) (fun _ _ _ => 0)
  case atStart => exact ⟨rfl, rfl, rfl⟩
  case round =>
    obtain ⟨rfl, rfl, rfl⟩ := hrel
    go_wp2_with fail
    go_ret
    exact ⟨rfl, rfl⟩

set_option maxHeartbeats 1000000 in
theorem heldF_any (k0 : Int) (v : Value) (n : Nat) (w : World) (r : RdF w v (marksF k0 n)) (h0 : 0 ≤ k0) (h1 : k0 ≤ 1048576) (hn : n ≤ 1048576) :
    Calls Try.prog 20 #[v, .int .i64 k0] w fun e w' => e = .returned (.int .i64 (k0 + n)) ∧ w = w' := by
  have r' := r
  obtain ⟨⟨-, a1, c1, rfl, p1, p2, -, -⟩, l1⟩ := r
  rw [marksF_len] at *
  clear l1 p1 p2
  go_enter Try.func20, Try.ntmps20
  go_wp2_with fail
  go_loopw [1, 5] (fun q i wr => ∃ j : Nat, j ≤ n ∧ i = .int .i64 j ∧ q = .int .i64 (k0 + j) ∧ wr = w) (fun _ i _ => n - (intOf i).toNat)
  case atStart => exact ⟨0, Nat.zero_le _, rfl, by simp, rfl⟩
  case round =>
    obtain ⟨j, hj, rfl, rfl, rfl⟩ := hrel
    by_cases hlt : j < n
    · obtain ⟨b1, o1, rfl, hb1, hc1⟩ := r'.at (k := j) (by rw [marksF_len]; exact hlt)
      rw [marksF_get _ _ _ hlt] at hc1
      have hne := floatOfInt_neq (k0 + (j : Int))
      clear r'
      go_wp2_with (refine wpList_fcmp rfl rfl rfl rfl rfl (by first | with_reducible assumption | exact rfl) ?_)
      go_roundw
      case rel => exact ⟨j + 1, by omega, by go_num, by go_num, by first | rfl | trivial⟩
      case measure => simp [intOf]; omega
    · have hjn : j = n := by omega
      subst hjn
      go_wp2_with fail
      go_ret
      exact ⟨rfl, rfl⟩
end Go.Proofs.Ytlbmjeennpccmaa
