
/- slices.Grow and slices.Concat at lives: a list of two lists' lives. Condition: lists that can be read, each of 1 to 2^20 lives. -/
import Derived.Test.YtlbmjeennpccmaaLq
import Derived.Lib.AppendZeros
namespace Go.Proofs.Ytlbmjeennpccmaa
open Go Go.RowKit Go.ChangeShapes Go.WideShapes Go.ChangeAt

set_option maxHeartbeats 1000000 in
theorem growL_any (n : Nat) (w : World) (h0 : 0 < n) (hz : n ≤ 2097152) :
    Calls Try.prog 83 #[.slice none 0 0, .int .i64 n] w fun e w' => ∃ g cap, e = .returned (.slice (some ⟨g, 0, none⟩) 0 cap) ∧ w'.ownsRow w.heap.size 61 2 (.slice (some ⟨g, 0, none⟩) 0 cap) 0 [] ∧ Ext w w' := by
  obtain ⟨i, hi, i1, i2, i3⟩ := info_parts infoLife
  have hrz : ∀ ty, (Builtin.append_ #[27, 3] ty #[.slice none 0 0, .int .i64 n]).run Try.prog w = _ := fun ty =>
    Lib.run_append_nil_zeros w 27 3 ty 61 i _ .i64 .i64 Try.underlying27 Try.underlying3 hi i1 n h0 (by omega) (by omega) (by rw [i3]; omega)
  have hG1 := grownCap_ge w n 0 61
  have hG2 := grownCap_le_maxLen w n 0 61 (by unfold maxLen; omega)
  clear hi i1 i2 i3
  generalize grownCap w n 0 61 = G at *
  have HG2 := Lib.hid hG2
  have hG63 : G ≤ 9223372036854775807 := by unfold maxLen at hG2; omega
  clear hG2
  go_enter Try.func83, Try.ntmps83
  go_wp2_with (at_builtin; refine Lib.wpList_append_run _ rfl _ _ _ _ rfl _ _ rfl rfl _ _ (hrz _) ?_)
  go_ret
  refine ⟨_, _, rfl, ?_, ?_⟩
  · refine ⟨rfl, .inr ⟨_, G, _, rfl, Nat.le_refl _, heap_alloc_new w.drew _, Nat.zero_le _, HG2.out, ?_, ?_⟩⟩
    · simp only [Array.size_append, size_zeroCells]
      show n * 2 + (G - n) * 2 = G * 2
      omega
    · rfl
  · exact (below_alloc w _).drew

theorem lfs_append (a b : List Lf) : lfs (a ++ b) = lfs a ++ lfs b := by unfold lfs; rw [List.map_append, List.flatten_append]
set_option maxRecDepth 100000 in
set_option maxHeartbeats 4000000 in
theorem concatL_any (va vb : Value) (la lb : List Lf) (bk c : Nat) (w : World) (ra : RdL w va la) (rb : RdL w vb lb) (hbk : bk < w.heap.size) (ha0 : 0 < la.length) (hb0 : 0 < lb.length) (haz : la.length ≤ 1048576) (hbz : lb.length ≤ 1048576)
    (h1 : w.cell? ⟨bk, 0, none⟩ = some va) (h2 : w.cell? ⟨bk, 1, none⟩ = some vb) :
    Calls Try.prog 50 #[.slice (some ⟨bk, 0, none⟩) 2 2] w fun e w' => ∃ g cap, e = .returned (.slice (some ⟨g, 0, none⟩) (la ++ lb).length cap) ∧ OwnL w.heap.size w' g cap (la ++ lb) ∧ Ext w w' := by
  have ra' := ra
  have rb' := rb
  obtain ⟨⟨-, a1, c1, rfl, -, -, -, -⟩, -⟩ := ra
  obtain ⟨⟨-, a2, c2, rfl, -, -, -, -⟩, -⟩ := rb
  go_enter Try.func50, Try.ntmps50
  go_wp2_with fail
  go_loopw [11, 3] (fun i s wr => ((i = .int .i64 0 ∧ s = .int .i64 0) ∨ (i = .int .i64 1 ∧ s = .int .i64 la.length) ∨ (i = .int .i64 2 ∧ s = .int .i64 ((la.length : Int) + lb.length))) ∧ wr = w) (fun i _ _ => 2 - (intOf i).toNat)
  case atStart => exact ⟨.inl ⟨rfl, rfl⟩, rfl⟩
  case round =>
    obtain ⟨hv, rfl⟩ := hrel
    rcases hv with ⟨rfl, rfl⟩ | ⟨rfl, rfl⟩ | ⟨rfl, rfl⟩
    · go_wp2_with fail
      go_roundw
      case rel => exact ⟨.inr (.inl ⟨by go_num, by go_num⟩), by first | rfl | trivial⟩
      case measure => simp [intOf]
    · go_wp2_with fail
      go_roundw
      case rel => exact ⟨.inr (.inr ⟨by go_num, by go_num⟩), by first | rfl | trivial⟩
      case measure => simp [intOf]
    · go_wp2_with fail
      refine (growL_any (la.length + lb.length) _ (by omega) (by omega)).mono ?_
      rintro e w1 ⟨g, cap, rfl, own, X⟩
      have rA := ra'
      have rB := rb'
      clear ra' rb'
      go_wp2_with fail
      go_loopw [27, 6] (fun i s wq => ∃ g cap, Ext wr wq ∧ ((i = .int .i64 0 ∧ s = .slice (some ⟨g, 0, none⟩) 0 cap ∧ OwnL wr.heap.size wq g cap []) ∨ (i = .int .i64 1 ∧ s = .slice (some ⟨g, 0, none⟩) la.length cap ∧ OwnL wr.heap.size wq g cap la) ∨ (i = .int .i64 2 ∧ s = .slice (some ⟨g, 0, none⟩) (la ++ lb).length cap ∧ OwnL wr.heap.size wq g cap (la ++ lb)))) (fun i _ _ => 2 - (intOf i).toNat)
      case atStart => exact ⟨g, cap, X, .inl ⟨rfl, rfl, own⟩⟩
      case round =>
        obtain ⟨g1, cap1, Z, hv⟩ := hrel
        replace rA := rA.ext Z
        replace rB := rB.ext Z
        replace h1 := (Below.cell Z (p := ⟨bk, 0, none⟩) hbk).trans h1
        replace h2 := (Below.cell Z (p := ⟨bk, 1, none⟩) hbk).trans h2
        replace hbk := Nat.lt_of_lt_of_le hbk Z.size
        have hZ := Z.size
        rcases hv with ⟨rfl, rfl, own1⟩ | ⟨rfl, rfl, own1⟩ | ⟨rfl, rfl, own1⟩
        · go_wp2_with (at_builtin; refine wpList_copy infoLife rfl (by decide) Try.underlying27 rfl rfl rfl own1 rfl rA.1 ha0 (lfs_one la) (by omega) (by decide) (by omega) ?_; intro g2 cap2 w2 hg2 own2 hgr2)
          go_roundw
          case rel => exact ⟨g2, cap2, Z.grown hgr2 (by omega) (fun k hk => by cases hk; exact (OwnL.lt own1).1), .inr (.inl ⟨by go_num, rfl, own2⟩)⟩
          case measure => simp [intOf]
        · go_wp2_with (at_builtin; refine wpList_all infoLife rfl (by decide) Try.underlying27 rfl rfl rfl own1 rfl rB.1 hb0 (lfs_one lb) (by omega) (by decide) (by omega) ?_; intro g2 cap2 w2 hg2 own2 hgr2)
          go_roundw
          case rel => exact ⟨g2, cap2, Z.grown hgr2 (by omega) (fun k hk => by cases hk; exact (OwnL.lt own1).1), .inr (.inr ⟨by go_num, by rw [List.length_append], by unfold OwnL; rw [lfs_append, List.length_append]; exact own2⟩)⟩
          case measure => simp [intOf]
        · go_wp2_with fail
          go_ret
          exact ⟨g1, cap1, rfl, own1, Z⟩
theorem concatL_eq (va vb : Value) (la lb ab : List Lf) (hab : la ++ lb = ab) (bk c : Nat) (w : World) (ra : RdL w va la) (rb : RdL w vb lb) (hbk : Bx w bk [va, vb]) (ha0 : 0 < la.length) (hb0 : 0 < lb.length) (haz : la.length ≤ 1048576) (hbz : lb.length ≤ 1048576) :
    Calls Try.prog 50 #[.slice (some ⟨bk, 0, none⟩) 2 2] w fun e w' => ∃ g cap, e = .returned (.slice (some ⟨g, 0, none⟩) ab.length cap) ∧ OwnL w.heap.size w' g cap ab ∧ Ext w w' := by
  subst hab
  exact concatL_any va vb la lb bk c w ra rb hbk.1 ha0 hb0 haz hbz hbk.two.1 hbk.two.2
end Go.Proofs.Ytlbmjeennpccmaa
