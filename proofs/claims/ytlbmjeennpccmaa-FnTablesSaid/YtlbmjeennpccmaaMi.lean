
/- Marks in lists of integers and of 32-bit numbers: what is written lies in the list's own block. Condition: at most 2^20 numbers. -/
import Derived.Test.YtlbmjeennpccmaaMk
import Derived.Maps.AppendAt
namespace Go.Proofs.Ytlbmjeennpccmaa
open Go Go.RowKit Go.ChangeShapes Go.WideShapes Go.ChangeAt

theorem grownBy_setCell (W : World) (b j : Nat) (v : Value) : W.grownBy (W.setCell ⟨b, j, none⟩ v) (some b) :=
  ⟨rfl, rfl, rfl, (Below.setCell (Below.refl b W) (Nat.le_refl _) v).size, fun k _ hk => Below.heap_setCell _ _ _ k (fun e => hk (by rw [e]))⟩
theorem grownBy_refl (W : World) (row : Option Nat) : W.grownBy W row := ⟨rfl, rfl, rfl, Nat.le_refl _, fun _ _ _ => rfl⟩
theorem grown_ext {w w' : World} {B g : Nat} (h : w.grownBy w' (some g)) (hb : B ≤ g) (hB : B ≤ w.heap.size) : Below B w w' := (Below.refl _ _).grown h hB fun k hk => by cases hk; exact hb
theorem own_grown {w w' : World} {B g g2 n cap k : Nat} {e : TypeId} {xs : List Value} (h : w.ownsRow B e k (.slice (some ⟨g2, 0, none⟩) n cap) n xs) (hg : w.grownBy w' (some g)) (hne : g < B) :
    w'.ownsRow B e k (.slice (some ⟨g2, 0, none⟩) n cap) n xs :=
  h.kept hg (.inr fun he => by
    have := (h.lt g2 rfl).1
    simp [Value.ownBlock] at he
    omega)

/-- The marks from k on. -/
def marksI (k : Int) (n : Nat) : List Int := (List.range n).map fun (i : Nat) => k + (i : Int)
theorem marksI_len (k : Int) (n : Nat) : (marksI k n).length = n := by simp [marksI]
theorem marksI_get (k : Int) (n i : Nat) (h : i < n) : (marksI k n)[i]'(by rw [marksI_len]; exact h) = k + (i : Int) := by simp [marksI]
theorem marksI_succ (k : Int) (n : Nat) : marksI k (n + 1) = marksI k n ++ [k + (n : Int)] := by
  unfold marksI; rw [List.range_succ, List.map_append]; rfl

attribute [local go_sem] run_store_float

set_option maxHeartbeats 1000000 in
theorem markF_g (k0 : Int) (g n cap B : Nat) (bs : List Nat) (w : World) (own : w.ownsRow B 24 1 (.slice (some ⟨g, 0, none⟩) n cap) n (bs.map (Value.float .f32))) (h0 : 0 ≤ k0) (h1 : k0 ≤ 1048576) (hn : n ≤ 1048576) :
    Calls Try.prog 19 #[.slice (some ⟨g, 0, none⟩) n cap, .int .i64 k0] w fun e w' => e = .returned (.int .i64 (k0 + n)) ∧ w.grownBy w' (some g) ∧
      w'.ownsRow B 24 1 (.slice (some ⟨g, 0, none⟩) n cap) n ((marksF k0 n).map (Value.float .f32)) := by
  have hl : bs.length = n := by simpa using own.1
  go_enter Try.func19, Try.ntmps19
  go_wp2_with fail
  go_loopw [1, 5] (fun q i wr => ∃ j : Nat, j ≤ n ∧ i = .int .i64 j ∧ q = .int .i64 (k0 + j) ∧
    wr.ownsRow B 24 1 (.slice (some ⟨g, 0, none⟩) n cap) n ((marksF k0 j ++ bs.drop j).map (Value.float .f32)) ∧ w.grownBy wr (some g)) (fun _ i _ => n - (intOf i).toNat)
  case atStart => exact ⟨0, Nat.zero_le _, rfl, by simp, by simpa [marksF] using own, grownBy_refl _ _⟩
  case round =>
    obtain ⟨j, hj, rfl, rfl, own1, X⟩ := hrel
    clear own
    by_cases hlt : j < n
    · have hc0 := own1.cellAt j (by omega)
      have hf0 := own1.frozenAt j
      have hj1 : j < bs.length := by omega
      have hst := own1.stored j (.float .f32 (floatOfInt .f32 (k0 + (j : Int))))
      have Hst := Lib.hid hst
      clear hst
      rw [List.getElem?_map, List.getElem?_append_right (by rw [marksF_len]; omega), marksF_len, Nat.sub_self, List.getElem?_drop, Nat.add_zero, List.getElem?_eq_getElem hj1] at hc0
      simp only [Option.map_some] at hc0
      go_wp2_with fail
      go_roundw
      case rel =>
        have e : ((marksF k0 j ++ bs.drop j).map (Value.float .f32)).set j (.float .f32 (floatOfInt .f32 (k0 + (j : Int)))) = (marksF k0 (j + 1) ++ bs.drop (j + 1)).map (Value.float .f32) := by
          rw [← List.map_set]
          congr 1
          rw [List.set_append_right _ _ (by rw [marksF_len]; omega), marksF_len, Nat.sub_self, List.drop_eq_getElem_cons hj1, List.set_cons_zero, marksF_succ]
          simp
        refine ⟨j + 1, by omega, by go_num, by go_num, e ▸ Hst.out.1, X.trans (grownBy_setCell _ _ _ _)⟩
      case measure => simp [intOf]; omega
    · have hjn : j = n := by omega
      subst hjn
      rw [List.drop_of_length_le (by omega), List.append_nil] at own1
      go_wp2_with fail
      go_ret
      exact ⟨rfl, X, own1⟩



/-- A list of integers is nothing or its own. -/
theorem RdI_nil (w : World) : RdI w (.slice none 0 0) [] := ⟨rfl, none, 0, rfl, Nat.le_refl _, Nat.zero_le _, fun _ => rfl, fun _ h => by cases h⟩
end Go.Proofs.Ytlbmjeennpccmaa
