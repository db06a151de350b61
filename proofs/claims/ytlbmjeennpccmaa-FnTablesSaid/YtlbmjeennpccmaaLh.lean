
/- The laws' own functions on lives: sizes, copies, comparisons, marks. Condition: at most 2^20 lives. -/
import Derived.Test.YtlbmjeennpccmaaLr
import Derived.Test.YtlbmjeennpccmaaNm
namespace Go.Proofs.Ytlbmjeennpccmaa
open Go Go.RowKit Go.ChangeShapes Go.WideShapes Go.ChangeAt

attribute [local go_sem] run_store_float
attribute [local irreducible] LX

theorem szLifeS_any (a : Option Addr) (n c : Nat) (l : Int) (w : World) (hn : n ≤ maxLen) (h0 : 0 ≤ l) (h1 : l ≤ 1048576) :
    Calls Try.prog 9 #[.slice a n c, .int .i64 l] w fun e w' => e = .returned (.int .i64 (if l - n < 0 then -1 else l - n)) ∧ w = w' := by
  unfold maxLen at hn
  by_cases h : l - n < 0
  · rw [if_pos h]
    go_enter Try.func9, Try.ntmps9
    go_wp2
    go_ret
    exact ⟨rfl, rfl⟩
  · rw [if_neg h]
    go_enter Try.func9, Try.ntmps9
    go_wp2
    go_ret
    exact ⟨rfl, rfl⟩
theorem toLife_any (x : Lf) (w : World) : Calls Try.prog 49 #[.agg #[.float .f32 x.1, .bool x.2]] w fun e w' => e = .returned (.agg #[.float .f32 x.1, .bool x.2]) ∧ Ext w w' := by
  obtain ⟨a, b⟩ := x
  go_enter Try.func49, Try.ntmps49
  go_wp2_with fail
  refine bodyPost_ret (v := .agg #[.float .f32 a, .bool b]) (by simp [results, Try.results49, go_sem]) rfl ⟨rfl, ?_⟩
  first
    | exact ((Ext.alloc w _).trans (Ext.alloc _ _)).trans (Ext.alloc _ _)
    | exact (Ext.alloc w _).trans (Ext.alloc _ _)

theorem made_lives (n : Nat) : (madeCells #[.float .f32 0, .bool false] (n * 2)).toList = lfs (List.replicate n (0, false)) := by
  apply List.ext_getElem
  · rw [lfs_len, List.length_replicate, Array.length_toList, size_madeCells]
  · intro i h1 h2
    rw [lfs_len, List.length_replicate] at h2
    have e1 : (madeCells #[.float .f32 0, .bool false] (n * 2)).toList[i] = #[Value.float .f32 0, .bool false][i % 2]! := by
      unfold madeCells; simp
    have h3 : i / 2 < (List.replicate n ((0 : Nat), false)).length := by rw [List.length_replicate]; omega
    rw [e1]
    rcases Nat.mod_two_eq_zero_or_one i with h | h
    · have e : i = (i / 2) * 2 := by omega
      have k := lfs_0 (List.replicate n ((0 : Nat), false)) (i / 2) h3
      rw [← e, List.getElem?_eq_getElem (by rw [lfs_len, List.length_replicate]; exact h2)] at k
      rw [Option.some.inj k, h]; simp
    · have e : i = (i / 2) * 2 + 1 := by omega
      have k := lfs_1 (List.replicate n ((0 : Nat), false)) (i / 2) h3
      rw [← e, List.getElem?_eq_getElem (by rw [lfs_len, List.length_replicate]; exact h2)] at k
      rw [Option.some.inj k, h]; simp

set_option maxHeartbeats 2000000 in
theorem toLifeS_any (v : Value) (ls : List Lf) (w : World) (hr : RdL w v ls) (hn : ls.length ≤ 1048576) :
    Calls Try.prog 11 #[v] w fun e w' => ∃ g, e = .returned (.slice (some ⟨g, 0, none⟩) ls.length ls.length) ∧ Ext w w' ∧ OwnL w.heap.size w' g ls.length ls := by
  have hr' := hr
  obtain ⟨⟨-, a, cap, rfl, h3, h4, -, -⟩, -⟩ := hr
  obtain ⟨i0, hi0, hz0, hz1, hz2⟩ := info_parts infoLife
  unfold maxLen at h4
  go_enter Try.func11, Try.ntmps11
  go_wp2_with (at_make; refine wpList_make_full _ rfl _ _ 27 rfl w.heap.size 61 i0 (.agg #[.float .f32 0, .bool false]) 2 Try.underlying27 hi0 hz0 hz1 _ _ _ _ ls.length rfl rfl rfl rfl ?c1 ?c2 ?c3 ?_)
  case c1 => rw [hz2]; omega
  case c2 => unfold maxLen; omega
  case c3 => exact Nat.le_refl _
  intro w1 hown hg
  have own0 : OwnL w.heap.size w1 w.heap.size ls.length (List.replicate ls.length (0, false)) := by
    unfold OwnL; rw [List.length_replicate, ← made_lives]; exact hown
  have X0 : Ext w w1 := (Below.refl _ _).grown hg (Nat.le_refl _) (fun _ h => by cases h)
  clear hown hg
  generalize hn' : ls.length = n at *
  have HN := Lib.hid hn'
  clear hn'
  have hbw : w.heap.size ≤ w.heap.size := Nat.le_refl _
  generalize hB : w.heap.size = B at own0 hbw
  have HB := Lib.hid hB
  have hBle : w.heap.size ≤ B := by omega
  clear hB
  go_wp2_with fail
  go_loopw [4] (fun i wr => ∃ (k : Nat) (Y : List Lf), k ≤ n ∧ i = .int .i64 k ∧ Hid (Y.length = n) ∧ Hid (Y.take k = ls.take k) ∧ OwnL B wr B n Y ∧ Ext w wr) (fun i _ => n - (intOf i).toNat)
  case atStart => exact ⟨0, _, Nat.zero_le _, rfl, List.length_replicate, rfl, own0, X0⟩
  case round =>
    clear own0 X0
    obtain ⟨k, Y, hk, rfl, HY, HT, own, X⟩ := hrel
    by_cases hlt : k < n
    · have hYn := HY.out
      have hln := HN.out
      obtain ⟨b, off, rfl, hb, hc0, hc1⟩ := (hr'.ext X).at (k := k) (by omega)
      have hc2 := own.cells (k := k) (by omega)
      have f0 := own.frozen (k * 2)
      have f1 := own.frozen (k * 2 + 1)
      have HPUT := Lib.hid (fun (W : World) (o : OwnL B W B n Y) => o.put k (ls[k]'(by omega)))
      have HNX : Hid ((Y.set k (ls[k]'(by omega))).take (k + 1) = ls.take (k + 1)) := by
        show _ = _
        rw [List.take_add_one, List.take_add_one, List.take_set_of_le (Nat.le_refl _), HT.out, List.getElem?_set]
        simp [show k < Y.length by omega, show k < ls.length by omega]
      have HNL : Hid ((Y.set k (ls[k]'(by omega))).length = n) := by show _ = _; rw [List.length_set]; exact HY.out
      generalize ls[k]'(by omega) = x at *
      obtain ⟨d0, d1⟩ := hc2
      generalize Y[k]'(by omega) = y at *
      have hgl := own.lt.2
      clear hYn hln
      go_wp2_with fail
      refine (toLife_any x _).mono ?_
      rintro e w2 ⟨rfl, hx⟩
      have X2 := X.trans hx
      have own2 := own.ext hx
      have d0' := (Below.cell hx (p := ⟨B, k * 2, none⟩) hgl).trans d0
      have d1' := (Below.cell hx (p := ⟨B, k * 2 + 1, none⟩) hgl).trans d1
      have f0' := own2.frozen (k * 2)
      have f1' := own2.frozen (k * 2 + 1)
      clear hc0 hc1 d0 d1 f0 f1 hgl hx own X
      obtain ⟨xa, xb⟩ := x
      go_wp2_with fail
      go_roundw
      case rel => exact ⟨k + 1, _, by omega, by go_num, HNL, HNX, HPUT.out _ own2, Below.setCell (Below.setCell X2 hBle _) hBle _⟩
      case measure => simp [intOf]; omega
    · obtain rfl : k = n := by omega
      go_wp2_with fail
      go_ret
      have h := HT.out
      rw [List.take_of_length_le (by have := HY.out; omega), List.take_of_length_le (by have := HN.out; omega)] at h
      subst h
      have hy := HY.out
      exact ⟨B, by rw [hy]; rfl, X, by rw [HB.out, hy]; exact own⟩

/-- Two lists of lives that are the same by their canonical bits. -/
def SameL (xs ys : List Lf) : Prop := xs.map (fun x => (cn .f32 x.1, x.2)) = ys.map fun x => (cn .f32 x.1, x.2)
theorem SameL.len {xs ys : List Lf} (h : SameL xs ys) : xs.length = ys.length := by have := congrArg List.length h; simpa using this
theorem SameL.at {xs ys : List Lf} (h : SameL xs ys) {k : Nat} (h1 : k < xs.length) (h2 : k < ys.length) : cn .f32 xs[k].1 = cn .f32 ys[k].1 ∧ xs[k].2 = ys[k].2 := by
  have e : (xs.map (fun x => (cn .f32 x.1, x.2)))[k]? = (ys.map fun x => (cn .f32 x.1, x.2))[k]? := by rw [show xs.map (fun x => (cn .f32 x.1, x.2)) = ys.map fun x => (cn .f32 x.1, x.2) from h]
  simp only [List.getElem?_map, List.getElem?_eq_getElem h1, List.getElem?_eq_getElem h2, Option.map_some, Option.some.injEq, Prod.mk.injEq] at e
  exact e

set_option maxHeartbeats 1000000 in
theorem eqLife_any (x y : Lf) (h1 : cn .f32 x.1 = cn .f32 y.1) (h2 : x.2 = y.2) (w : World) :
    Calls Try.prog 54 #[.agg #[.float .f32 x.1, .bool x.2], .agg #[.float .f32 y.1, .bool y.2]] w fun e w' => e = .returned (.bool true) ∧ Ext w w' := by
  obtain ⟨a, p⟩ := x
  obtain ⟨b, q⟩ := y
  simp only at h1 h2
  subst h2
  have H1 := Lib.hid h1
  have wa : (Try.prog.underlying 24).isSome = true := by kernel_rfl
  clear h1
  have hpp : (p != p) = false := by simp
  go_enter Try.func54, Try.ntmps54
  go_wp2_with (first | (refine wpList_wide wa Try.underlying30 rfl rfl rfl ?_; intro zb zn hzb hzl; clear hzl; first | (have hsame := Lib.hid (wide_same H1.out hza.out hzb); clear hzb) | (have hza := Lib.hid hzb; clear hzb)))
  refine (sameFloat_any _ _ _ hsame.out).mono ?_
  rintro e w3 ⟨rfl, X3⟩
  have b1 : Bx w3 w.heap.size [.float .f32 a, .bool p] := (((Bx.new w [.float .f32 a, .bool p] 61).ext (Ext.alloc _ _)).ext (Ext.drewN _ _)).ext X3
  have b2 : Bx w3 (w.heap.size + 1) [.float .f32 b, .bool p] := ((Bx.new' (w.alloc (.cells #[.float .f32 a, .bool p] 61)) [.float .f32 b, .bool p] 61 (by simp)).ext (Ext.drewN _ _)).ext X3
  have X : Ext w w3 := (((Ext.alloc w _).trans (Ext.alloc _ _)).trans (Ext.drewN _ _)).trans X3
  clear X3
  obtain ⟨k1, k2⟩ := b1.two
  obtain ⟨k3, k4⟩ := b2.two
  go_wp2_with fail
  go_ret
  exact ⟨rfl, X⟩

set_option maxHeartbeats 2000000 in
theorem eqLifeS_any (v1 v2 : Value) (xs ys : List Lf) (w : World) (r1 : RdL w v1 xs) (r2 : RdL w v2 ys) (h : SameL xs ys) :
    Calls Try.prog 14 #[v1, v2] w fun e w' => e = .returned (.bool true) ∧ Ext w w' := by
  have r1' := r1
  have r2' := r2
  obtain ⟨⟨-, a1, c1, rfl, p1, p2, -, -⟩, -⟩ := r1
  obtain ⟨⟨-, a2, c2, rfl, q1, q2, -, -⟩, -⟩ := r2
  unfold maxLen at p2 q2
  have hl := h.len
  have Hl := Lib.hid hl
  have H := Lib.hid h
  have hne : ((xs.length : Int) != (ys.length : Int)) = false := by simp [hl]
  clear hl h
  go_enter Try.func14, Try.ntmps14
  go_wp2_with fail
  go_loopw [5] (fun i wr => ∃ k : Nat, k ≤ xs.length ∧ i = .int .i64 k ∧ Ext w wr) (fun i _ => xs.length - (intOf i).toNat)
  case atStart => exact ⟨0, Nat.zero_le _, rfl, Ext.refl _⟩
  case round =>
    obtain ⟨k, hk, rfl, X⟩ := hrel
    by_cases hlt : k < xs.length
    · have hlt2 : k < ys.length := by rw [← Hl.out]; exact hlt
      obtain ⟨b1, o1, rfl, hb1, hc1, hd1⟩ := (r1'.ext X).at hlt
      obtain ⟨b2, o2, rfl, hb2, hc2, hd2⟩ := (r2'.ext X).at hlt2
      have he := Lib.hid (H.out.at hlt hlt2)
      generalize xs[k] = x at *
      generalize ys[k] = y at *
      go_wp2_with fail
      refine wp_region_rel 9 (fun _ v => v = .bool true) (fun _ _ _ => True) (by kernel_rfl) (by kernel_rfl) (by kernel_rfl) ?_
      dsimp only [List.take, List.drop, List.length]
      refine LX_det (.slice (some ⟨b1, o1, none⟩) xs.length c1) (by kernel_rfl) rfl (fun w' hx _ => ?_) ?_
      · go_simp
      refine LX_det (.int .i64 k) (by kernel_rfl) rfl (fun w' hx _ => ?_) ?_
      · go_simp
      refine LX_det (.pointer (some ⟨b1, o1 + k * 2, none⟩)) (by kernel_rfl) rfl (fun w' hx _ => ?_) ?_
      · go_simp
      refine LX_det (.agg #[.float .f32 x.1, .bool x.2]) (by kernel_rfl) rfl (fun w' hx _ => ?_) ?_
      · have m0 := (Below.cell hx (p := ⟨b1, o1 + k * 2, none⟩) hb1).trans hc1; have m1 := (Below.cell hx (p := ⟨b1, o1 + k * 2 + 1, none⟩) hb1).trans hd1
        go_simp
      refine LX_det (.slice (some ⟨b2, o2, none⟩) ys.length c2) (by kernel_rfl) rfl (fun w' hx _ => ?_) ?_
      · go_simp
      refine LX_det (.int .i64 k) (by kernel_rfl) rfl (fun w' hx _ => ?_) ?_
      · go_simp
      refine LX_det (.pointer (some ⟨b2, o2 + k * 2, none⟩)) (by kernel_rfl) rfl (fun w' hx _ => ?_) ?_
      · go_simp
      refine LX_det (.agg #[.float .f32 y.1, .bool y.2]) (by kernel_rfl) rfl (fun w' hx _ => ?_) ?_
      · have m0 := (Below.cell hx (p := ⟨b2, o2 + k * 2, none⟩) hb2).trans hc2; have m1 := (Below.cell hx (p := ⟨b2, o2 + k * 2 + 1, none⟩) hb2).trans hd2
        go_simp
      refine LX_call (by kernel_rfl) rfl (fun _ => St.top) (fun w' hx _ => ?_) ?_
      · go_simp
        refine UponC.enter ((eqLife_any x y he.out.1 he.out.2 _).mono ?_)
        rintro e w'' ⟨rfl, hx'⟩
        exact ⟨_, rfl, hx', rfl, trivial⟩
      rintro _ rfl
      refine LX_nil fun w2 hx _ => ?_
      simp only [Act.put, List.setIfInBounds_toArray, List.set_cons_succ, List.set_cons_zero]
      clear hc1 hd1 hc2 hd2
      go_wp2_with fail
      go_roundw
      case rel => exact ⟨k + 1, by omega, by go_num, X.trans hx⟩
      case measure => simp [intOf]; omega
    · go_wp2_with fail
      go_ret
      exact ⟨rfl, X⟩

/-- The marks from k on. -/
def markL1 (k : Int) (i : Nat) : Lf := (floatOfInt .f32 (k + 2 * (i : Int)), (k + 2 * (i : Int) + 1) % 3 == 0)
def marksL (k : Int) (n : Nat) : List Lf := (List.range n).map (markL1 k)
theorem marksL_len (k : Int) (n : Nat) : (marksL k n).length = n := by simp [marksL]
theorem marksL_get (k : Int) (n i : Nat) (h : i < n) : (marksL k n)[i]'(by rw [marksL_len]; exact h) = markL1 k i := by simp [marksL]
theorem marksL_succ (k : Int) (n : Nat) : marksL k (n + 1) = marksL k n ++ [markL1 k n] := by
  unfold marksL; rw [List.range_succ, List.map_append]; rfl
theorem marksL_lt (k : Int) (n : Nat) : ∀ x ∈ marksL k n, x.1 < 4294967296 := by
  intro b hb
  obtain ⟨i, _, rfl⟩ := List.mem_map.1 hb
  exact floatOfInt_lt _

set_option maxHeartbeats 1000000 in
theorem markL_g (k0 : Int) (g cap B : Nat) (ls : List Lf) (w : World) (own : OwnL B w g cap ls) (h0 : 0 ≤ k0) (h1 : k0 ≤ 1048576) (hn : ls.length ≤ 1048576) :
    Calls Try.prog 18 #[.slice (some ⟨g, 0, none⟩) ls.length cap, .int .i64 k0] w fun e w' => e = .returned (.int .i64 (k0 + 2 * ls.length)) ∧ w.grownBy w' (some g) ∧ OwnL B w' g cap (marksL k0 ls.length) := by
  generalize hl : ls.length = n at *
  have HL := Lib.hid hl
  clear hl
  go_enter Try.func18, Try.ntmps18
  go_wp2_with fail
  go_loopw [1, 5] (fun q i wr => ∃ j : Nat, j ≤ n ∧ i = .int .i64 j ∧ q = .int .i64 (k0 + 2 * j) ∧ OwnL B wr g cap (marksL k0 j ++ ls.drop j) ∧ w.grownBy wr (some g)) (fun _ i _ => n - (intOf i).toNat)
  case atStart => exact ⟨0, Nat.zero_le _, rfl, by simp, by simpa [marksL] using own, grownBy_refl _ _⟩
  case round =>
    obtain ⟨j, hj, rfl, rfl, own1, X⟩ := hrel
    clear own
    by_cases hlt : j < n
    · have hll := HL.out
      have hYl : (marksL k0 j ++ ls.drop j).length = n := by rw [List.length_append, marksL_len, List.length_drop]; omega
      have hc := own1.cells (k := j) (by omega)
      have f0 := own1.frozen (j * 2)
      have f1 := own1.frozen (j * 2 + 1)
      have hput := own1.put j (markL1 k0 j)
      have e : (marksL k0 j ++ ls.drop j).set j (markL1 k0 j) = marksL k0 (j + 1) ++ ls.drop (j + 1) := by
        rw [List.set_append_right _ _ (by rw [marksL_len]; omega), marksL_len, Nat.sub_self, List.drop_eq_getElem_cons (by omega), List.set_cons_zero, marksL_succ]
        simp
      rw [e] at hput
      generalize (marksL k0 j ++ ls.drop j)[j]'(by omega) = y at *
      obtain ⟨d0, d1⟩ := hc
      have Hput : Hid (OwnL B ((wr.setCell ⟨g, j * 2, none⟩ (.float .f32 (floatOfInt .f32 (k0 + 2 * (j : Int))))).setCell ⟨g, j * 2 + 1, none⟩ (.bool ((k0 + 2 * (j : Int) + 1) % 3 == 0))) g cap (marksL k0 (j + 1) ++ ls.drop (j + 1))) := hput
      clear hput e hYl own1 hll
      go_wp2_with fail
      go_roundw
      case rel => exact ⟨j + 1, by omega, by go_num, by go_num, Hput.out, (X.trans (grownBy_setCell _ _ _ _)).trans (grownBy_setCell _ _ _ _)⟩
      case measure => simp [intOf]; omega
    · have hjn : j = n := by omega
      subst hjn
      have hll := HL.out
      rw [List.drop_of_length_le (by omega), List.append_nil] at own1
      clear hll
      go_wp2_with fail
      go_ret
      exact ⟨rfl, X, own1⟩
theorem markL_nil (k0 : Int) (w : World) : Calls Try.prog 18 #[.slice none 0 0, .int .i64 k0] w fun e w' => e = .returned (.int .i64 k0) ∧ w = w' := by
  go_enter Try.func18, Try.ntmps18
  go_wp2_with fail
  go_loopw [1, 5] (fun q i wr => i = .int .i64 0 ∧ q = .int .i64 k0 ∧ wr = w) (fun _ _ _ => 0)
  case atStart => exact ⟨rfl, rfl, rfl⟩
  case round =>
    obtain ⟨rfl, rfl, rfl⟩ := hrel
    go_wp2_with fail
    go_ret
    exact ⟨rfl, rfl⟩

end Go.Proofs.Ytlbmjeennpccmaa
