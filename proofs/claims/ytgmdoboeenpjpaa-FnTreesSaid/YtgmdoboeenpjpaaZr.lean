
/- Roads between places, both sides: a list cut into pairs by slices.Chunk. Condition: a list of ints that can be read. -/
import Derived.Test.YtgmdoboeenpjpaaZp
import Derived.Test.YtgmdoboeenpjpaaRH
import Derived.RangeFuncNested
import Derived.RangeFuncBound
import Derived.RangeFuncCalls
import Derived.RangeFuncLeaves
import Derived.Shelf.Abstract
import Derived.Shelf.RegionOpen
import Derived.OwnWalkIn
import Derived.TacticsInMore
import Derived.LoopNIn
import Derived.LoopIn
namespace Go.Proofs.Ytgmdoboeenpjpaa
open Go Go.RowKit Go.ChangeShapes Go.WideShapes Go.ChangeAt

attribute [local irreducible] LX
attribute [local go_sem] Oper.semAt_some

set_option maxRecDepth 100000 in
set_option maxHeartbeats 2000000 in
theorem chunk1_in (n : Nat) (hn : 1 ≤ n) (l Bs Bn n₀ b off L m cap : Nat) (hL : L = 2 * m) (hm : m ≤ 10) (hcap : L ≤ cap) (hcm : cap ≤ maxLen) (hbs : Bs < n₀) (hbn : Bn < n₀) (J Jx : List Nat → World → Prop)
    (hJ : ∀ W W' pre, J pre W → Ext W W' → J pre W')
    (hY : ∀ pre x W, x < m → J pre W → pre.length < m → YieldAt Fence.wide (n - 1) Try.prog l #[.slice (some ⟨b, off + 2 * x, none⟩) 2 2] W fun e W' =>
      (e = .returned (.bool true) ∧ J (pre ++ [x]) W' ∧ Below n₀ W W') ∨ (e = .returned (.bool false) ∧ Jx (pre ++ [x]) W'))
    (W : World) (hBs : W.cell? ⟨Bs, 0, none⟩ = some (.slice (some ⟨b, off, none⟩) L cap)) (hBn : W.cell? ⟨Bn, 0, none⟩ = some (.int .i64 2)) (h0 : J [] W) (hn0 : n₀ ≤ W.heap.size) :
    CallsIn Fence.wide n Try.prog 116 #[.func (.yield l) #[] #[], .pointer (some ⟨Bs, 0, none⟩), .pointer (some ⟨Bn, 0, none⟩)] W fun e W' => (∃ v, e = .returned v) ∧
      ((∃ ys, ys = List.range m ∧ J ys W') ∨ (∃ pre, (∃ k, k ≤ m ∧ pre = List.range k) ∧ Jx pre W')) := by
  unfold maxLen at hcm
  refine callsIn_of_wp Try.func116 rfl trivial ?_ rfl
  simp only [Try.ntmps116, List.size_toArray, List.length_cons, List.length_nil, Nat.reduceAdd, Nat.reduceSub, Array.replicate_succ, Array.replicate_zero, List.push_toArray, List.append_toArray, List.nil_append, List.cons_append]
  have HL := Lib.hid hL
  have hL20 : L ≤ 20 := by omega
  clear hL
  gi_wp2
  gi_loopw [4] (fun i wr => ∃ k j : Nat, k ≤ m ∧ Hid (j = 2 * k) ∧ i = .int .i64 j ∧ J (List.range k) wr ∧ Below n₀ W wr)
    (fun i _ => L + 2 - (intOf i).toNat)
  case atStart => exact ⟨0, 0, Nat.zero_le _, rfl, rfl, by exact h0, Below.refl _ _⟩
  case round =>
    obtain ⟨k, j, hk, HJ, rfl, hJs, hnx⟩ := hrel
    have hc1 := (hnx.cell (p := ⟨Bs, 0, none⟩) hbs).trans hBs
    have hc2 := (hnx.cell (p := ⟨Bn, 0, none⟩) hbn).trans hBn
    by_cases hlt : k < m
    · have hjL : j + 2 ≤ L := by have := HJ.out; have := HL.out; omega
      have hjl : (j : Int) < (L : Int) := by omega
      have hz := hnx.size
      have hj2 : (2 : Int) ≤ ((L - j : Nat) : Int) := by omega
      have hmin : min (2 : Int) ((L - j : Nat) : Int) = 2 := by omega
      have hjL2 : j ≤ L := by omega
      have hjL3 : j + 2 ≤ cap := by omega
      have hcj : ¬ cap = j := by omega
      have hjw : IntKind.i64.wrap ((j : Int) + 2) = (j : Int) + 2 := IntWalk.i64_in _ (by omega)
      gi_wp2
      refine wpIn_wide.2 ?_
      refine wp_region_rel 6 (fun _ _ => True) (fun _ _ _ => True) (by kernel_rfl) (by kernel_rfl) (by kernel_rfl) ?_
      dsimp only [List.take, List.drop, List.length]
      refine LX_det (.int .i64 2) (by kernel_rfl) rfl (fun w' hx _ => ?_) ?_
      · have m0 := (Below.cell hx (p := ⟨Bn, 0, none⟩) (by show Bn < _; omega)).trans hc2
        go_simp
      refine LX_det (.slice (some ⟨b, off, none⟩) L cap) (by kernel_rfl) rfl (fun w' hx _ => ?_) ?_
      · have m0 := (Below.cell hx (p := ⟨Bs, 0, none⟩) (by show Bs < _; omega)).trans hc1
        go_simp
      refine LX_det (.int .i64 j) (by kernel_rfl) rfl (fun w' hx _ => ?_) ?_
      · go_simp
      refine LX_det (.slice (some ⟨b, off + j, none⟩) (L - j) (cap - j)) (by kernel_rfl) rfl (fun w' hx _ => ?_) ?_
      · go_simp
      refine LX_det (.int .i64 (L - j : Nat)) (by kernel_rfl) rfl (fun w' hx _ => ?_) ?_
      · go_simp
      refine LX_det (.int .i64 2) (by kernel_rfl) rfl (fun w' hx _ => ?_) ?_
      · go_simp
      refine LX_nil fun w2 hx _ => ?_
      simp only [Act.put, List.setIfInBounds_toArray, List.set_cons_succ, List.set_cons_zero]
      have hc3 := (Below.cell hx (p := ⟨Bn, 0, none⟩) (by show Bn < _; omega)).trans hc2
      have hc4 := (Below.cell hx (p := ⟨Bs, 0, none⟩) (by show Bs < _; omega)).trans hc1
      have hYk := hY (List.range k) k w2 hlt (hJ _ _ _ hJs hx) (by simp; omega)
      rw [← HJ.out] at hYk
      replace hnx := hnx.trans (Below.mono hx (show n₀ ≤ wr.heap.size by omega))
      clear hx hc1 hc2 hJs
      obtain ⟨fn, tmps, assign, body, hy, hR⟩ := hYk
      go_wp2_with fail
      gi_wp2
      refine hR.mono ?_
      rintro e W3 (⟨rfl, hJ3, hk3⟩ | ⟨rfl, hJx3⟩)
      · have hc5 := (hk3.cell (p := ⟨Bn, 0, none⟩) hbn).trans hc3
        gi_wp2
        go_roundw
        case rel => exact ⟨k + 1, j + 2, by omega, by show _ = _; have := HJ.out; omega, by simp, by rw [List.range_succ]; exact hJ3, hnx.trans hk3⟩
        case measure => simp [intOf]; omega
      · gi_wp2
        refine bodyPost_ret (results_none rfl _ _ _) rfl ?_
        exact ⟨⟨_, rfl⟩, .inr ⟨_, ⟨k + 1, by omega, (List.range_succ).symm⟩, hJx3⟩⟩
    · obtain rfl : k = m := by omega
      have hjl : ¬ (j : Int) < (L : Int) := by have := HJ.out; have := HL.out; omega
      gi_wp2
      go_end0
      exact ⟨⟨_, rfl⟩, .inl hJs⟩

set_option maxHeartbeats 1000000 in
theorem chunk_in (n : Nat) (a : Option Addr) (len cap : Nat) (w : World) :
    CallsIn Fence.wide n Try.prog 104 #[.slice a len cap, .int .i64 2] w fun e w' => e = .returned (.func (.func 116) #[] #[.pointer (some ⟨w.heap.size, 0, none⟩), .pointer (some ⟨w.heap.size + 1, 0, none⟩)]) ∧
      w' = (w.alloc (.cells #[.slice a len cap] 25)).alloc (.cells #[.int .i64 2] 3) := by
  refine callsIn_of_wp Try.func104 rfl trivial ?_ rfl
  simp only [Try.ntmps104, List.size_toArray, List.length_cons, List.length_nil, Nat.reduceAdd, Nat.reduceSub, Array.replicate_succ, Array.replicate_zero, List.push_toArray, List.append_toArray, List.nil_append, List.cons_append]
  gi_wp2
  go_ret
  exact ⟨rfl, rfl⟩
theorem chunk_stops (n : Nat) (hn : 1 ≤ n) (Bs Bn b off L m cap : Nat) (hL : L = 2 * m) (hm : m ≤ 10) (hcap : L ≤ cap) (hcm : cap ≤ maxLen) (w : World) (hBs : w.cell? ⟨Bs, 0, none⟩ = some (.slice (some ⟨b, off, none⟩) L cap)) (hBn : w.cell? ⟨Bn, 0, none⟩ = some (.int .i64 2)) :
    SeqStopsK Fence.wide n Try.prog 116 #[.pointer (some ⟨Bs, 0, none⟩), .pointer (some ⟨Bn, 0, none⟩)] (fun x : Fin m => #[Value.slice (some ⟨b, off + 2 * x.val, none⟩) 2 2]) (Below w.heap.size)
      (fun ys => ys.map (fun x => x.val) = List.range m) (fun pre => ∃ k, k ≤ m ∧ pre.map (fun x => x.val) = List.range k) m w := fun l J Jx W hW hJ _ hY h0 => by
  have hbs := World.block_lt_of_cell? w _ hBs
  have hbn := World.block_lt_of_cell? w _ hBn
  refine (chunk1_in n hn l Bs Bn w.heap.size b off L m cap hL hm hcap hcm hbs hbn (fun pre W => ∃ ys : List (Fin m), ys.map (fun x => x.val) = pre ∧ J ys W) (fun pre W => ∃ ys : List (Fin m), ys.map (fun x => x.val) = pre ∧ Jx ys W) ?_ ?_ W
    ((Below.cell hW (p := ⟨Bs, 0, none⟩) hbs).trans hBs) ((Below.cell hW (p := ⟨Bn, 0, none⟩) hbn).trans hBn) ⟨[], rfl, h0⟩ hW.size).mono ?_
  · rintro W1 W2 pre ⟨ys, e, hj⟩ hx
    exact ⟨ys, e, hJ ys W1 W2 none hj ⟨hx.os, hx.tape, hx.output, hx.size, fun j hj _ => hx.block j hj⟩ (fun r e => by cases e)⟩
  · rintro pre x W1 hx ⟨ys, e, hj⟩ hl
    have h := hY ys ⟨x, hx⟩ W1 hj (by rw [← e] at hl; simpa using hl)
    refine YieldAt.mono h ?_
    rintro e2 W2 (⟨h1, h2, h3⟩ | ⟨h1, h2⟩)
    · exact .inl ⟨h1, ⟨_, by simp [e], h2⟩, h3⟩
    · exact .inr ⟨h1, ⟨_, by simp [e], h2⟩⟩
  · rintro e W' ⟨he, ⟨ys, rfl, zs, e2, hj⟩ | ⟨pre, ⟨k, hk, rfl⟩, zs, e2, hj⟩⟩
    · exact ⟨he, .inl ⟨zs, e2, hj⟩⟩
    · exact ⟨he, .inr ⟨zs, ⟨k, hk, e2⟩, hj⟩⟩

/-- No road leads from a place to itself. -/
def pairsB (zs : List Int) : Bool := (List.range (zs.length / 2)).all fun k => zs.getD (2 * k) 0 != zs.getD (2 * k + 1) 0
def roadsB (p : Int) (zs : List Int) : Bool := inB p 2 6 && manyB zs 2 20 0 (p - 1) && decide (zs.length % 2 = 0) && pairsB zs

set_option maxRecDepth 100000 in
set_option maxHeartbeats 4000000 in
theorem areRoads_any (p : Int) (v : Value) (zs : List Int) (w : World) (r : RdI w v zs) :
    Calls Try.prog 77 #[.int .i64 p, v] w fun e w' => e = .returned (.bool (roadsB p zs)) ∧ Ext w w' := by
  have r' := r
  obtain ⟨-, a1, c1, rfl, p1, p2, -, -⟩ := r
  have hin := within_any p 2 6
  have HM := Lib.hid (fun W (x : Ext w W) => areMany_any _ zs 2 20 0 (p - 1) W (r'.ext x))
  by_cases hok : (inB p 2 6 && manyB zs 2 20 0 (p - 1) && decide (zs.length % 2 = 0)) = false
  · have HF : Hid (roadsB p zs = false) := by show _ = _; unfold roadsB; rw [hok]; rfl
    have bR := Boxed.new w 4 (.bool false)
    cases h1 : inB p 2 6
    · have H1 := Lib.hid h1
      clear h1 hok HM
      have hR := bR.cell
      have hRf := bR.frozen
      go_enter Try.func77, Try.ntmps77
      go_wp2_with fail
      refine (within_eq H1.out _).mono ?_
      rintro e w1 ⟨rfl, rfl⟩
      go_wp2_with fail
      have hc5 := World.cell?_setCell_same' (w.alloc (.cells #[.bool false] 4)) ⟨w.heap.size, 0, none⟩ (.bool false) (by rw [hR]; rfl)
      refine bodyPost_ret (v := .bool false) (by simp [results, Try.results77, go_sem, hc5]) rfl ?_
      exact ⟨by rw [HF.out], Ext.alloc _ _⟩
    have H1 := Lib.hid h1
    have hp2 := inB_iff.1 h1
    have hpw : IntKind.i64.wrap (p - 1) = p - 1 := IntWalk.i64_in _ (by omega)
    cases h2 : manyB zs 2 20 0 (p - 1)
    · rw [h2] at HM
      clear h1 h2 hok
      go_enter Try.func77, Try.ntmps77
      go_wp2_with fail
      refine (within_eq H1.out _).mono ?_
      rintro e w1 ⟨rfl, rfl⟩
      go_wp2_with fail
      refine (HM.out _ (Ext.alloc _ _)).mono ?_
      rintro e w2 ⟨rfl, hx⟩
      have bR1 : Boxed w2 w.heap.size 4 (.bool false) := (hx.block _ bR.lt).trans bR
      have hR := bR1.cell
      have hRf := bR1.frozen
      go_wp2_with fail
      have hc5 := World.cell?_setCell_same' w2 ⟨w.heap.size, 0, none⟩ (.bool false) (by rw [hR]; rfl)
      refine bodyPost_ret (v := .bool false) (by simp [results, Try.results77, go_sem, hc5]) rfl ?_
      exact ⟨by rw [HF.out], ((Ext.alloc _ _).trans hx).setCell (Nat.le_refl _) _⟩
    have hlen : 2 ≤ zs.length ∧ zs.length ≤ 20 := by
      have h3 := h2
      unfold manyB at h3
      rw [Bool.and_eq_true] at h3
      have := inB_iff.1 h3.1
      omega
    have h3i : (zs.length : Int) % 2 = 1 := by
      rw [h1, h2] at hok
      simp at hok
      omega
    rw [h2] at HM
    clear h1 h2 hok
    go_enter Try.func77, Try.ntmps77
    go_wp2_with fail
    refine (within_eq H1.out _).mono ?_
    rintro e w1 ⟨rfl, rfl⟩
    go_wp2_with fail
    refine (HM.out _ (Ext.alloc _ _)).mono ?_
    rintro e w2 ⟨rfl, hx⟩
    have bR1 : Boxed w2 w.heap.size 4 (.bool false) := (hx.block _ bR.lt).trans bR
    have hR := bR1.cell
    have hRf := bR1.frozen
    go_wp2_with fail
    have hc5 := World.cell?_setCell_same' w2 ⟨w.heap.size, 0, none⟩ (.bool false) (by rw [hR]; rfl)
    refine bodyPost_ret (v := .bool false) (by simp [results, Try.results77, go_sem, hc5]) rfl ?_
    exact ⟨by rw [HF.out], ((Ext.alloc _ _).trans hx).setCell (Nat.le_refl _) _⟩
  · rw [Bool.not_eq_false, Bool.and_eq_true, Bool.and_eq_true, decide_eq_true_eq] at hok
    obtain ⟨⟨h1, h2⟩, h3⟩ := hok
    have HR : Hid (roadsB p zs = pairsB zs) := by show _ = _; unfold roadsB; rw [h1, h2, decide_eq_true h3]; rfl
    have hp2 := inB_iff.1 h1
    have hpw : IntKind.i64.wrap (p - 1) = p - 1 := IntWalk.i64_in _ (by omega)
    rw [h1] at hin
    rw [h2] at HM
    have H1 := Lib.hid h1
    have H2 := Lib.hid h2
    have hlen : 2 ≤ zs.length ∧ zs.length ≤ 20 := by
      unfold manyB at h2
      rw [Bool.and_eq_true] at h2
      have := inB_iff.1 h2.1
      omega
    obtain ⟨m, hm⟩ : ∃ m, zs.length = 2 * m := ⟨zs.length / 2, by omega⟩
    have h3i : (zs.length : Int) % 2 = 0 := by omega
    have HLM := Lib.hid hm
    clear h1 h2 h3 hm
    refine (callsIn_wide (n := 5)).1 ?_
    refine callsIn_of_wp_marks Try.func77 rfl trivial ?_ rfl
    simp only [Try.ntmps77, List.size_toArray, List.length_cons, List.length_nil, Nat.reduceAdd, Nat.reduceSub, Array.replicate_succ, Array.replicate_zero, List.push_toArray, List.append_toArray, List.nil_append, List.cons_append]
    gi_wp2_with fail
    have bR := Boxed.new w 4 (.bool false)
    refine ⟨trivial, ?_⟩
    refine (callsIn_wide.2 (within_eq H1.out _)).mono ?_
    rintro e w1 ⟨rfl, rfl⟩
    gi_wp2_with fail
    refine ⟨trivial, ?_⟩
    refine (callsIn_wide.2 (HM.out _ (Ext.alloc _ _))).mono ?_
    rintro e w2 ⟨rfl, hx⟩
    gi_wp2_with fail
    refine ⟨trivial, ?_⟩
    refine (chunk_in _ _ _ _ _).mono ?_
    rintro e w3 ⟨rfl, rfl⟩
    gi_wp2_with fail
    have p2' := p2
    have hm10 : m ≤ 10 := by have := HLM.out; omega
    obtain ⟨b, off, e0, hb, -⟩ := r'.at (k := 0) (by omega)
    subst e0
    have hcell : ∀ j, j < zs.length → w.cell? ⟨b, off + j, none⟩ = some (.int .i64 (zs.getD j 0)) := fun j hj => by
      obtain ⟨b', o', e, -, h⟩ := r'.at hj
      cases e
      rw [h, List.getD_eq_getElem?_getD, List.getElem?_eq_getElem hj]; rfl
    have X0 : Ext w ((w2.alloc (.cells #[.slice (some ⟨b, off, none⟩) zs.length c1] 25)).alloc (.cells #[.int .i64 2] 3)) := ((Ext.alloc _ _).trans hx).trans ((Ext.alloc _ _).trans (Ext.alloc _ _))
    have bS := Boxed.new w2 25 (.slice (some ⟨b, off, none⟩) zs.length c1)
    have bN := Boxed.new (w2.alloc (.cells #[.slice (some ⟨b, off, none⟩) zs.length c1] 25)) 3 (.int .i64 2)
    replace bS := bS.alloc (.cells #[.int .i64 2] 3)
    rw [World.size_alloc] at bN
    have bR1 : Boxed w2 w.heap.size 4 (.bool false) := (hx.block _ bR.lt).trans bR
    have bR0 : Boxed ((w2.alloc (.cells #[.slice (some ⟨b, off, none⟩) zs.length c1] 25)).alloc (.cells #[.int .i64 2] 3)) w.heap.size 4 (.bool false) :=
      (bR1.alloc _).alloc _
    have hsz : w2.heap.size ≤ ((w2.alloc (.cells #[.slice (some ⟨b, off, none⟩) zs.length c1] 25)).alloc (.cells #[.int .i64 2] 3)).heap.size := by simp; omega
    generalize (w2.alloc (.cells #[.slice (some ⟨b, off, none⟩) zs.length c1] 25)).alloc (.cells #[.int .i64 2] 3) = W0 at *
    have hRlt := bR0.lt
    have hR0 := bR0.cell
    have hRf := bR0.frozen
    refine wpIn_rangeFunc_ownG rfl (by omega) (gf := 116) (lb := #[.pointer (some ⟨w2.heap.size, 0, none⟩), .pointer (some ⟨w2.heap.size + 1, 0, none⟩)]) rfl trivial (enters_of Try.func116 (by kernel_rfl) rfl)
      (chunk_stops 4 (by omega) w2.heap.size (w2.heap.size + 1) b off zs.length m c1 HLM.out hm10 p1 p2 W0 bS.cell bN.cell) belowK_t (belowK_b (Nat.le_refl _)) (Below.refl _ _) (fun _ => rfl)
      (fun pre W => (∀ k ∈ pre, zs.getD (2 * k.val) 0 ≠ zs.getD (2 * k.val + 1) 0) ∧ Below W0.heap.size W0 W)
      (fun c pre W => (c = .ret ∧ (∃ k ∈ pre, zs.getD (2 * k.val) 0 = zs.getD (2 * k.val + 1) 0) ∧ W.cell? ⟨w.heap.size, 0, none⟩ = some (.bool false) ∧ W.frozen? ⟨w.heap.size, 0, none⟩ = false) ∧ Below w.heap.size w W)
      (OwnFrom.and (Own.from (fun s A B row hs hg hr => hs) _) (ownFrom_below (Nat.le_refl _) (Nat.le_refl _)))
      (fun c => OwnFrom.and (Own.from (fun s A B row hs hg hr => ⟨hs.1, hs.2.1, cell_kept hs.2.2.1 hg hr, (frozen_kept hs.2.2.1 hg hr).trans hs.2.2.2⟩) _) (ownFrom_below (Nat.le_refl _) (Ext.size X0)))
      ⟨by simp, Below.refl _ _⟩
      (fun x => { tmps := #[.int .i64 p, .slice (some ⟨b, off, none⟩) zs.length c1, undef, undef, .pointer (some ⟨w.heap.size, 0, none⟩), .slice (some ⟨b, off + 2 * x.val, none⟩) 2 2, .int .i64 p, .bool true, .bool false, .bool false, .slice (some ⟨b, off, none⟩) zs.length c1, .int .i64 p, .int .i64 (p - 1), .bool true, .bool false, .bool false, .bool false, .slice (some ⟨b, off, none⟩) zs.length c1, .int .i64 zs.length, .int .i64 0, .bool false, .bool false, .slice (some ⟨b, off, none⟩) zs.length c1, .func (.func 116) #[] #[.pointer (some ⟨w2.heap.size, 0, none⟩), .pointer (some ⟨w2.heap.size + 1, 0, none⟩)], .slice (some ⟨b, off + 2 * x.val, none⟩) 2 2, undef, undef, undef, undef, undef, undef, undef], defers := [] }) ?assign ?body ?done ?stop
    case assign =>
      intro l x W K hK
      gi_wp2
      exact hK
    case body =>
      rintro l pre x W ⟨hp, hB⟩ _
      have hx1 : 2 * x.val < zs.length := by have := HLM.out; have := x.isLt; omega
      have hx2 : 2 * x.val + 1 < zs.length := by have := HLM.out; have := x.isLt; omega
      have BW : Below w.heap.size w W := Below.trans X0 (Below.mono hB (Ext.size X0))
      have hz := BW.size
      have hca := (BW.cell (p := ⟨b, off + 2 * x.val, none⟩) hb).trans (hcell _ hx1)
      have hcb := (BW.cell (p := ⟨b, off + 2 * x.val + 1, none⟩) hb).trans (hcell _ hx2)
      have hcr := (hB.cell (p := ⟨w.heap.size, 0, none⟩) hRlt).trans hR0
      have hfr := (hB.frozen (p := ⟨w.heap.size, 0, none⟩) hRlt).trans hRf
      have HEQ : Hid (zs.getD (2 * x.val) 0 = zs.getD (2 * x.val) 0 ∧ zs.getD (2 * x.val + 1) 0 = zs.getD (2 * x.val + 1) 0) := ⟨rfl, rfl⟩
      generalize hAA : zs.getD (2 * x.val) 0 = za at *
      generalize hBB : zs.getD (2 * x.val + 1) 0 = zb at *
      have HAA := Lib.hid hAA
      have HBB := Lib.hid hBB
      clear hAA hBB HEQ
      generalize hcc : (za == zb) = cc at *
      have HCC := Lib.hid hcc
      gi_wp2
      refine wpIn_region_rel 7 (fun _ _ => True) (fun _ _ _ => True) (by kernel_rfl) (by kernel_rfl) (by kernel_rfl) (by kernel_rfl) (by rintro ⟨a, w, h⟩; exact h) ?_
      dsimp only [List.take, List.drop, List.length]
      refine LX_det (.slice (some ⟨b, off + 2 * x.val, none⟩) 2 2) (by kernel_rfl) rfl (fun w' hx _ => ?_) ?_
      · go_simp
      refine LX_det (.pointer (some ⟨b, off + 2 * x.val, none⟩)) (by kernel_rfl) rfl (fun w' hx _ => ?_) ?_
      · go_simp
      refine LX_det (.int .i64 za) (by kernel_rfl) rfl (fun w' hx _ => ?_) ?_
      · have m0 := (Below.cell hx (p := ⟨b, off + 2 * x.val, none⟩) (by show b < _; omega)).trans hca
        go_simp
      refine LX_det (.slice (some ⟨b, off + 2 * x.val, none⟩) 2 2) (by kernel_rfl) rfl (fun w' hx _ => ?_) ?_
      · go_simp
      refine LX_det (.pointer (some ⟨b, off + 2 * x.val + 1, none⟩)) (by kernel_rfl) rfl (fun w' hx _ => ?_) ?_
      · go_simp
      refine LX_det (.int .i64 zb) (by kernel_rfl) rfl (fun w' hx _ => ?_) ?_
      · have m0 := (Below.cell hx (p := ⟨b, off + 2 * x.val + 1, none⟩) (by show b < _; omega)).trans hcb
        go_simp
      refine LX_det (.bool cc) (by kernel_rfl) rfl (fun w' hx _ => ?_) ?_
      · go_simp
      refine LX_nil fun w3 hx3 _ => ?_
      have hcr3 := (Below.cell hx3 (p := ⟨w.heap.size, 0, none⟩) (by have := hB.size; show w.heap.size < _; omega)).trans hcr
      have hfr3 := (Below.frozen hx3 (p := ⟨w.heap.size, 0, none⟩) (by have := hB.size; show w.heap.size < _; omega)).trans hfr
      simp only [Act.put, List.setIfInBounds_toArray, List.set_cons_succ, List.set_cons_zero]
      have hG : W.grownBy w3 none := ⟨hx3.os, hx3.tape, hx3.output, hx3.size, fun j hj _ => hx3.block j hj⟩
      cases cc
      · go_wp2_with fail
        gi_wp2
        refine ⟨KeepsFrom.of_grownBy hG (fun j e => by cases e), Below.mono hx3 hB.size, ?_, hB.trans (Below.mono hx3 hB.size)⟩
        intro k hk
        rcases List.mem_append.1 hk with hk | hk
        · exact hp k hk
        · simp only [List.mem_singleton] at hk
          subst hk
          rw [HAA.out, HBB.out]
          exact fun e => by rw [e] at hcc; simp at hcc
      · go_wp2_with fail
        gi_wp2
        refine ⟨(KeepsFrom.of_grownBy hG (fun j e => by cases e)).trans ((KeepsOthers.setCell _ _ _).from _), ⟨rfl, ⟨x, by simp, ?_⟩, World.cell?_setCell_same' _ _ _ (by rw [hcr3]; rfl), by rw [World.frozen?_setCell]; exact hfr3⟩, (BW.trans (Below.mono hx3 hz)).setCell (p := ⟨w.heap.size, 0, none⟩) (Nat.le_refl _) _⟩
        rw [HAA.out, HBB.out]
        simpa using hcc
    case done =>
      rintro D ys W hD hys ⟨hne, hB⟩ hK
      have BW : Below w.heap.size w W := Below.trans X0 (Below.mono hB (Ext.size X0))
      have hcr := (hB.cell (p := ⟨w.heap.size, 0, none⟩) hRlt).trans hR0
      have hfr := (hB.frozen (p := ⟨w.heap.size, 0, none⟩) hRlt).trans hRf
      have HT : Hid (pairsB zs = true) := by
        show _ = _
        unfold pairsB
        rw [List.all_eq_true]
        intro k hk
        rw [← show m = zs.length / 2 by have := HLM.out; omega, ← hys] at hk
        obtain ⟨x, hx, rfl⟩ := List.mem_map.1 hk
        simpa using hne x hx
      gi_wp2
      have hK' := (KeepsOthers.setCell W ⟨w.heap.size, 0, none⟩ (.bool true)).same D _ hK rfl
      refine ⟨by simp, .inl ⟨_, _, rfl, run_takeDeferred hK', ?_⟩⟩
      have hc5 := cell_kept (World.cell?_setCell_same' W ⟨w.heap.size, 0, none⟩ (.bool true) (by rw [hcr]; rfl)) (grownBy_putObj' _ D (.deferred none)) (fun r e => by cases e; exact ⟨_, hK', rfl⟩)
      refine ⟨.bool true, ?_, by rw [HR.out, HT.out], (BW.setCell (p := ⟨w.heap.size, 0, none⟩) (Nat.le_refl _) _).trans (belowK_b (w := W0) (Ext.size X0) _ D _ _ hD hK' rfl rfl)⟩
      simp [results, Try.results77, go_sem, hc5]
    case stop =>
      rintro D c pre W hD ⟨k, hk, hpre⟩ ⟨⟨rfl, ⟨x, hx, hxe⟩, hcr, hfr⟩, BW⟩ hK
      have HT : Hid (pairsB zs = false) := by
        show _ = _
        unfold pairsB
        rw [List.all_eq_false]
        refine ⟨x.val, List.mem_range.2 (by have := HLM.out; have := x.isLt; omega), ?_⟩
        rw [hxe]; simp
      gi_wp2
      refine ⟨by simp, .inl ⟨_, _, rfl, run_takeDeferred hK, ?_⟩⟩
      have hc5 := cell_kept hcr (grownBy_putObj' _ D (.deferred none)) (fun r e => by cases e; exact ⟨_, hK, rfl⟩)
      refine ⟨.bool false, ?_, by rw [HR.out, HT.out], BW.trans (belowK_b (w := W0) (Ext.size X0) W D _ _ hD hK rfl rfl)⟩
      simp [results, Try.results77, go_sem, hc5]

/-- A place stands where it may, and its road has two ends. -/
def placeB (p : Int) (zs : List Int) (i : Nat) : Bool := inB (zs.getD i 0) 0 (p - 1) && !(decide (i % 2 = 1) && (zs.getD i 0 == zs.getD (i - 1) 0))
theorem places_all (p : Int) (zs : List Int) (h2 : zs.length % 2 = 0) : (List.range zs.length).all (placeB p zs) = (zs.all (fun z => inB z 0 (p - 1)) && pairsB zs) := by
  rw [Bool.eq_iff_iff, Bool.and_eq_true, List.all_eq_true, List.all_eq_true]
  unfold pairsB
  rw [List.all_eq_true]
  constructor
  · intro h
    constructor
    · intro z hz
      obtain ⟨i, hi, rfl⟩ := List.getElem_of_mem hz
      have := h i (List.mem_range.2 hi)
      unfold placeB at this
      rw [Bool.and_eq_true] at this
      simpa [hi] using this.1
    · intro k hk
      rw [List.mem_range] at hk
      have := h (2 * k + 1) (List.mem_range.2 (by omega))
      unfold placeB at this
      rw [Bool.and_eq_true] at this
      have h3 := this.2
      rw [show (2 * k + 1) % 2 = 1 by omega, show 2 * k + 1 - 1 = 2 * k by omega] at h3
      simp only [decide_true, Bool.true_and, Bool.not_eq_true', beq_eq_false_iff_ne, ne_eq] at h3
      simp only [bne_iff_ne, ne_eq]
      exact fun e => h3 e.symm
  · rintro ⟨h1, h3⟩ i hi
    rw [List.mem_range] at hi
    unfold placeB
    rw [Bool.and_eq_true]
    constructor
    · have := h1 zs[i] (List.getElem_mem hi)
      simpa [hi] using this
    · by_cases e : i % 2 = 1
      · have := h3 (i / 2) (List.mem_range.2 (by omega))
        rw [show 2 * (i / 2) = i - 1 by omega, show i - 1 + 1 = i by omega] at this
        simp only [bne_iff_ne, ne_eq] at this
        simp only [e, decide_true, Bool.true_and, Bool.not_eq_true', beq_eq_false_iff_ne, ne_eq]
        exact fun e => this e.symm
      · simp [e]
theorem roadsB_alt (p : Int) (zs : List Int) : roadsB p zs = (inB p 2 6 && (inB zs.length 2 20 && decide (zs.length % 2 = 0)) && (List.range zs.length).all (placeB p zs)) := by
  unfold roadsB manyB
  by_cases h : zs.length % 2 = 0
  · rw [places_all p zs h, decide_eq_true h]
    cases inB p 2 6 <;> cases inB zs.length 2 20 <;> simp
  · rw [decide_eq_false h]; simp

end Go.Proofs.Ytgmdoboeenpjpaa
