
/- The least sets of a list that may be empty, and the system of them. Condition: at most 2^20 sets that are natural numbers up to 2^20. -/
import Derived.Test.YtepgkhcfeaklmaaYk
namespace Go.Proofs.Ytepgkhcfeaklmaa
open Go Go.RowKit Go.ChangeShapes Go.WideShapes Go.ChangeAt

set_option maxHeartbeats 1000000 in
theorem cloneS_any (b o c : Nat) (ns : List Nat) (w : World) (r : RdI w (.slice (some ⟨b, o, none⟩) ns.length c) (ups ns)) (hn : ns.length ≤ 1048576) :
    Calls Try.prog 105 #[.slice (some ⟨b, o, none⟩) ns.length c] w fun e w' => ∃ g cap, e = .returned (.slice (some ⟨g, 0, none⟩) ns.length cap) ∧ w'.ownsRow w.heap.size 2 1 (.slice (some ⟨g, 0, none⟩) ns.length cap) ns.length ((ups ns).map (Value.int .i64)) ∧ Ext w w' := by
  have hc : ∀ j, j < (ups ns).length → w.cell? ⟨b, o + j, none⟩ = some (.int .i64 ((ups ns).getD j 0)) := fun j hj => by
    obtain ⟨b', o', e, -, h⟩ := r.at hj
    cases e
    rw [h, List.getD_eq_getElem?_getD, List.getElem?_eq_getElem hj]; rfl
  have h := AnyG.slices_Clone_int laysCloneI b o ns.length c (ups ns) w (by rw [ups_len]; exact Nat.le_refl _) (by omega) hc
  refine h.mono ?_
  rintro e w' ⟨v', rfl, own, hv, X⟩
  rw [show (ups ns).take ns.length = ups ns by rw [← ups_len ns]; exact List.take_length] at own
  obtain ⟨g, cap, rfl, -⟩ := Lib.holds_of_ownsRow own hv
  exact ⟨g, cap, rfl, own, X⟩

set_option maxHeartbeats 2000000 in
theorem leastG_any (b o c1 : Nat) (ns : List Nat) (w : World) (r : RdI w (.slice (some ⟨b, o, none⟩) ns.length c1) (ups ns)) (hn : ns.length ≤ 1048576) (hb : ∀ z ∈ ns, z < 1048577) :
    Calls Try.prog 72 #[.slice (some ⟨b, o, none⟩) ns.length c1] w fun e w' => ∃ g cap, e = .returned (.slice (some ⟨g, 0, none⟩) (leastN ns).length cap) ∧ Ext w w' ∧ OwnS w.heap.size w' g cap (leastN ns) := by
  have r' := r
  have hcs : Hid (Lib.compact ((ups ns).mergeSort fun x y => decide (x ≤ y)) = ups (setsOf 1048577 ns)) := compact_ups hb
  have hlt : ∀ z ∈ setsOf 1048577 ns, z < 1048577 := fun z hz => hb z ((mem_setsOf hb).1 hz)
  have hmin : Hid ((ups (setsOf 1048577 ns)).filter (fun x => !aboveI (ups (setsOf 1048577 ns)) x) = ups (leastN ns)) := least_ups fun z hz => by have := hlt z hz; omega
  have hcn : (setsOf 1048577 ns).length ≤ 1048576 := by
    have h1 := compact_le ((ups ns).mergeSort fun x y => decide (x ≤ y))
    rw [hcs.out, ups_len, List.length_mergeSort, ups_len] at h1
    omega
  generalize setsOf 1048577 ns = cs at *
  have HLT := Lib.hid hlt
  clear hlt
  go_enter Try.func72, Try.ntmps72
  go_wp2_with fail
  refine (cloneS_any b o c1 ns w r' hn).mono ?_
  rintro e w1 ⟨g, cap, rfl, own, X⟩
  have hg := own.lt g rfl
  go_wp2_with fail
  have bx : Bx (w1.alloc (.cells #[.slice (some ⟨g, 0, none⟩) ns.length cap] 22)) w1.heap.size [.slice (some ⟨g, 0, none⟩) ns.length cap] := Bx.new _ _ _
  generalize hW : World.alloc w1 _ = W at bx
  have hx : Ext w1 W := hW ▸ Ext.alloc _ _
  have hblk : W.heap[w1.heap.size]? = some (.cells #[.slice (some ⟨g, 0, none⟩) ns.length cap] 22 (0, 0)) := by rw [← hW]; exact heap_alloc_new w1 _
  have hbb : w1.heap.size < W.heap.size := by rw [← hW]; simp
  clear hW
  replace own := own_ext' own hx
  replace X := X.trans hx
  clear hx
  generalize w1.heap.size = bb at *
  have k1 := bx.one
  refine (sortI_any g ns.length cap w.heap.size (ups ns) W own hn).mono ?_
  rintro e w2 ⟨rfl, G, own2⟩
  replace k1 := G.cell k1 (by simp; omega)
  replace hblk := (G.block bb hbb (by simp; omega)).trans hblk
  have hz2 := G.size
  replace X := Below.trans X (grown_ext G hg.1 X.size)
  clear G own bx
  go_wp2_with fail
  refine (compactI_any g ns.length cap w.heap.size _ w2 own2 hn).mono ?_
  rintro e w3 ⟨rfl, G, own3⟩
  rw [hcs.out, ups_len] at own3 ⊢
  replace k1 := G.cell k1 (by simp; omega)
  replace hblk := (G.block bb (by omega) (by simp; omega)).trans hblk
  have hz3 := G.size
  have f1 : w3.frozen? ⟨bb, 0, none⟩ = false := by simp [World.frozen?, hblk]
  clear hblk
  replace X := Below.trans X (grown_ext G hg.1 X.size)
  clear G own2
  have hbb3 : bb < w3.heap.size := by omega
  go_wp2_with fail
  have k2 : (w3.setCell ⟨bb, 0, none⟩ (.slice (some ⟨g, 0, none⟩) cs.length cap)).cell? ⟨bb, 0, none⟩ = some (.slice (some ⟨g, 0, none⟩) cs.length cap) := by
    simp [go_sem, k1]
  have own4 : OwnS w.heap.size (w3.setCell ⟨bb, 0, none⟩ (.slice (some ⟨g, 0, none⟩) cs.length cap)) g cap cs := ownsRow_setCell_other own3 (by simp [Value.ownBlock]; omega) _
  have X4 : Ext w (w3.setCell ⟨bb, 0, none⟩ (.slice (some ⟨g, 0, none⟩) cs.length cap)) := Below.setCell X (by show w.heap.size ≤ bb; omega) _
  have hbb4 : bb < (w3.setCell ⟨bb, 0, none⟩ (.slice (some ⟨g, 0, none⟩) cs.length cap)).heap.size := by simpa using hbb3
  generalize World.setCell w3 _ _ = w4 at *
  clear k1 f1 own3 X hz2 hz3 hbb hbb3
  have r4 := own4.rd
  refine (cloneS_any g 0 cap cs w4 r4 hcn).mono ?_
  rintro e w5 ⟨g5, cap5, rfl, own5, X5⟩
  clear own4
  go_wp2_with fail
  refine (deleteFuncI_own 109 #[.pointer (some ⟨bb, 0, none⟩)] (aboveI (ups cs)) g5 cs.length cap5 (ups cs) w4 w5 own5 hcn X5 (enterOk Try.func109 (by kernel_rfl) rfl)
    (fun w' hx z => least1_any bb _ (ups cs) z w' ((Below.cell hx (p := ⟨bb, 0, none⟩) hbb4).trans k2) (r4.ext hx))).mono ?_
  rintro e w6 ⟨rfl, X6, own6⟩
  rw [hmin.out, ups_len] at own6 ⊢
  go_wp2_with fail
  go_ret
  exact ⟨g5, cap5, rfl, X4.trans X6, World.ownsRow.mono own6 X4.size⟩


set_option maxHeartbeats 4000000 in
theorem ifSystemG_any (p : Int) (b o c1 : Nat) (ns : List Nat) (w : World) (r : RdI w (.slice (some ⟨b, o, none⟩) ns.length c1) (ups ns)) (hn : ns.length ≤ 1048576) (hb : ∀ z ∈ ns, z < 1048577) :
    Calls Try.prog 70 #[.int .i64 p, .slice (some ⟨b, o, none⟩) ns.length c1] w (YsPost (sysO p (ups (leastN ns))) w) := by
  have r' := r
  have b2 : Bz (w.alloc (.cells #[.int .i64 0, .slice none 0 0] 33)) w.heap.size 33 [.int .i64 0, .slice none 0 0] := Bz.new _ _ _
  have HLE := Lib.hid (leastG_any b o c1 ns _ (r'.ext (Ext.alloc w (.cells #[.int .i64 0, .slice none 0 0] 33))) hn hb)
  clear hb
  generalize hL : leastN ns = ls at *
  clear hL
  have HV := Lib.hid (fun W v (r : RdI W v (ups ls)) => implValidSystem_any p v (ups ls) W r)
  cases hv : sysB p (ups ls)
  · have HO : Hid (sysO p (ups ls) = none) := by show _ = _; unfold sysO; rw [hv]; rfl
    rw [hv] at HV
    clear hv
    go_enter Try.func70, Try.ntmps70
    go_wp2_with fail
    refine HLE.out.mono ?_
    rintro e w1 ⟨g, cap, rfl, hx, own⟩
    replace b2 := b2.ext hx
    have X := (Ext.alloc _ _).trans hx
    clear hx
    go_wp2_with fail
    refine (HV.out _ _ (own.rd.ext (Ext.alloc _ _))).mono ?_
    rintro e w2 ⟨rfl, hx⟩
    replace hx := (Ext.alloc _ _).trans hx
    replace b2 := b2.ext hx
    replace X := X.trans hx
    obtain ⟨k0, k1⟩ := b2.bx.two
    have z2 := b2.lt
    have f0 := b2.frozen (j := 0)
    have f1 := b2.frozen (j := 1)
    clear b2
    go_wp2_with fail
    refine bodyPost_ret (v := .tuple #[.agg #[.int .i64 0, .slice none 0 0], .bool false]) (by simp [results, Try.results70, go_sem, k0, k1, f0, f1]) rfl ?_
    unfold YsPost
    rw [HO.out]
    exact ⟨(X.setCell (by simp) _).setCell (by simp) _, rfl⟩
  · have HO : Hid (sysO p (ups ls) = some (p, ups ls)) := by show _ = _; unfold sysO; rw [hv]; rfl
    rw [hv] at HV
    clear hv
    go_enter Try.func70, Try.ntmps70
    go_wp2_with fail
    refine HLE.out.mono ?_
    rintro e w1 ⟨g, cap, rfl, hx, own⟩
    replace b2 := b2.ext hx
    have X := (Ext.alloc _ _).trans hx
    clear hx
    go_wp2_with fail
    have bx : Bx (w1.alloc (.cells #[.int .i64 p, .slice (some ⟨g, 0, none⟩) ls.length cap] 33)) w1.heap.size [.int .i64 p, .slice (some ⟨g, 0, none⟩) ls.length cap] := Bx.new _ _ _
    refine (HV.out _ _ (own.rd.ext (Ext.alloc _ _))).mono ?_
    rintro e w2 ⟨rfl, hx⟩
    replace bx := bx.ext hx
    replace hx := (Ext.alloc _ _).trans hx
    replace b2 := b2.ext hx
    replace own := own.ext hx
    replace X := X.trans hx
    obtain ⟨k0, k1⟩ := b2.bx.two
    obtain ⟨k2, k3⟩ := bx.two
    have z2 := b2.lt
    have f0 := b2.frozen (j := 0)
    have f1 := b2.frozen (j := 1)
    have hgl := own.lt g rfl
    have hgw : w.heap.size < g := by have := hgl.1; simp at this; omega
    clear b2 bx
    go_wp2_with fail
    refine bodyPost_ret (v := .tuple #[.agg #[.int .i64 p, .slice (some ⟨g, 0, none⟩) ls.length cap], .bool true]) (by simp [results, Try.results70, go_sem, k0, k1, f0, f1]) rfl ?_
    unfold YsPost
    rw [HO.out]
    refine ⟨(X.setCell (by simp) _).setCell (by simp) _, g, cap, by rw [ups_len], ?_⟩
    show World.ownsRow _ _ _ _ _ (ups ls).length _
    rw [ups_len]
    exact World.ownsRow.mono (ownsRow_setCell_other (ownsRow_setCell_other own (by simp [Value.ownBlock]; omega) _) (by simp [Value.ownBlock]; omega) _) (by simp)
end Go.Proofs.Ytepgkhcfeaklmaa
