
/- The least sets of a list that may be empty, and the system of them. Condition: at most 2^20 sets that are natural numbers up to 2^20. -/
import Derived.Test.YtgmdoboeenpjpaaYk
import Derived.Test.YtgmdoboeenpjpaaZs
import Derived.Test.YtgmdoboeenpjpaaYN
namespace Go.Proofs.Ytgmdoboeenpjpaa
open Go Go.RowKit Go.ChangeShapes Go.WideShapes Go.ChangeAt

set_option maxHeartbeats 1000000 in
theorem cloneS_any (b o c : Nat) (ns : List Nat) (w : World) (r : RdI w (.slice (some ⟨b, o, none⟩) ns.length c) (ups ns)) (hn : ns.length ≤ 1048576) :
    Calls Try.prog 67 #[.slice (some ⟨b, o, none⟩) ns.length c] w fun e w' => ∃ g cap, e = .returned (.slice (some ⟨g, 0, none⟩) ns.length cap) ∧ w'.ownsRow w.heap.size 2 1 (.slice (some ⟨g, 0, none⟩) ns.length cap) ns.length ((ups ns).map (Value.int .i64)) ∧ Ext w w' := by
  have hc : ∀ j, j < (ups ns).length → w.cell? ⟨b, o + j, none⟩ = some (.int .i64 ((ups ns).getD j 0)) := fun j hj => by
    obtain ⟨b', o', e, -, h⟩ := r.at hj
    cases e
    rw [h, List.getD_eq_getElem?_getD, List.getElem?_eq_getElem hj]; rfl
  have h := AnyG.slices_Clone_int laysCloneI b o ns.length c (ups ns) w (by rw [ups_len]; exact Nat.le_refl _) (by omega) hc
  refine h.mono ?_
  rintro e w' ⟨v', rfl, own, hv, X⟩
  rw [show (ups ns).take ns.length = ups ns by rw [← ups_len ns]; exact List.take_length] at own
  obtain ⟨g, cap, rfl, -⟩ := Lib.holds_of_ownsRow own hv
  exact ⟨g, cap, rfl, own, X⟩

set_option maxHeartbeats 2000000 in
theorem leastG_any (b o c1 : Nat) (ns : List Nat) (w : World) (r : RdI w (.slice (some ⟨b, o, none⟩) ns.length c1) (ups ns)) (hn : ns.length ≤ 1048576) (hb : ∀ z ∈ ns, z < 1048577) :
    Calls Try.prog 82 #[.slice (some ⟨b, o, none⟩) ns.length c1] w fun e w' => ∃ g cap, e = .returned (.slice (some ⟨g, 0, none⟩) (leastN ns).length cap) ∧ Ext w w' ∧ OwnS w.heap.size w' g cap (leastN ns) := by
  have r' := r
  have hcs : Hid (Lib.compact ((ups ns).mergeSort fun x y => decide (x ≤ y)) = ups (setsOf 1048577 ns)) := compact_ups hb
  have hlt : ∀ z ∈ setsOf 1048577 ns, z < 1048577 := fun z hz => hb z ((mem_setsOf hb).1 hz)
  have hmin : Hid ((ups (setsOf 1048577 ns)).filter (fun x => !aboveI (ups (setsOf 1048577 ns)) x) = ups (leastN ns)) := least_ups fun z hz => by have := hlt z hz; omega
  have hcn : (setsOf 1048577 ns).length ≤ 1048576 := by
    have h1 := compact_le ((ups ns).mergeSort fun x y => decide (x ≤ y))
    rw [hcs.out, ups_len, List.length_mergeSort, ups_len] at h1
    omega
  generalize setsOf 1048577 ns = cs at *
  have HLT := Lib.hid hlt
  clear hlt
  go_enter Try.func82, Try.ntmps82
  go_wp2_with fail
  refine (cloneS_any b o c1 ns w r' hn).mono ?_
  rintro e w1 ⟨g, cap, rfl, own, X⟩
  have hg := own.lt g rfl
  go_wp2_with fail
  have bx : Bx (w1.alloc (.cells #[.slice (some ⟨g, 0, none⟩) ns.length cap] 25)) w1.heap.size [.slice (some ⟨g, 0, none⟩) ns.length cap] := Bx.new _ _ _
  generalize hW : World.alloc w1 _ = W at bx
  have hx : Ext w1 W := hW ▸ Ext.alloc _ _
  have hblk : W.heap[w1.heap.size]? = some (.cells #[.slice (some ⟨g, 0, none⟩) ns.length cap] 25 (0, 0)) := by rw [← hW]; exact heap_alloc_new w1 _
  have hbb : w1.heap.size < W.heap.size := by rw [← hW]; simp
  clear hW
  replace own := own_ext' own hx
  replace X := X.trans hx
  clear hx
  generalize w1.heap.size = bb at *
  have k1 := bx.one
  refine (sortI_any g ns.length cap w.heap.size (ups ns) W own hn).mono ?_
  rintro e w2 ⟨rfl, G, own2⟩
  replace k1 := G.cell k1 (by simp; omega)
  replace hblk := (G.block bb hbb (by simp; omega)).trans hblk
  have hz2 := G.size
  replace X := Below.trans X (grown_ext G hg.1 X.size)
  clear G own bx
  go_wp2_with fail
  refine (compactI_any g ns.length cap w.heap.size _ w2 own2 hn).mono ?_
  rintro e w3 ⟨rfl, G, own3⟩
  rw [hcs.out, ups_len] at own3 ⊢
  replace k1 := G.cell k1 (by simp; omega)
  replace hblk := (G.block bb (by omega) (by simp; omega)).trans hblk
  have hz3 := G.size
  have f1 : w3.frozen? ⟨bb, 0, none⟩ = false := by simp [World.frozen?, hblk]
  clear hblk
  replace X := Below.trans X (grown_ext G hg.1 X.size)
  clear G own2
  have hbb3 : bb < w3.heap.size := by omega
  go_wp2_with fail
  have k2 : (w3.setCell ⟨bb, 0, none⟩ (.slice (some ⟨g, 0, none⟩) cs.length cap)).cell? ⟨bb, 0, none⟩ = some (.slice (some ⟨g, 0, none⟩) cs.length cap) := by
    simp [go_sem, k1]
  have own4 : OwnS w.heap.size (w3.setCell ⟨bb, 0, none⟩ (.slice (some ⟨g, 0, none⟩) cs.length cap)) g cap cs := ownsRow_setCell_other own3 (by simp [Value.ownBlock]; omega) _
  have X4 : Ext w (w3.setCell ⟨bb, 0, none⟩ (.slice (some ⟨g, 0, none⟩) cs.length cap)) := Below.setCell X (by show w.heap.size ≤ bb; omega) _
  have hbb4 : bb < (w3.setCell ⟨bb, 0, none⟩ (.slice (some ⟨g, 0, none⟩) cs.length cap)).heap.size := by simpa using hbb3
  generalize World.setCell w3 _ _ = w4 at *
  clear k1 f1 own3 X hz2 hz3 hbb hbb3
  have r4 := own4.rd
  refine (cloneS_any g 0 cap cs w4 r4 hcn).mono ?_
  rintro e w5 ⟨g5, cap5, rfl, own5, X5⟩
  clear own4
  go_wp2_with fail
  refine (deleteFuncI_own 109 #[.pointer (some ⟨bb, 0, none⟩)] (aboveI (ups cs)) g5 cs.length cap5 (ups cs) w4 w5 own5 hcn X5 (enterOk Try.func109 (by kernel_rfl) rfl)
    (fun w' hx z => least1_any bb _ (ups cs) z w' ((Below.cell hx (p := ⟨bb, 0, none⟩) hbb4).trans k2) (r4.ext hx))).mono ?_
  rintro e w6 ⟨rfl, X6, own6⟩
  rw [hmin.out, ups_len] at own6 ⊢
  go_wp2_with fail
  go_ret
  exact ⟨g5, cap5, rfl, X4.trans X6, World.ownsRow.mono own6 X4.size⟩


set_option maxHeartbeats 4000000 in
theorem ifSystemG_any (p : Int) (b o c1 : Nat) (ns : List Nat) (w : World) (r : RdI w (.slice (some ⟨b, o, none⟩) ns.length c1) (ups ns)) (hn : ns.length ≤ 1048576) (hb : ∀ z ∈ ns, z < 1048577) :
    Calls Try.prog 64 #[.int .i64 p, .slice (some ⟨b, o, none⟩) ns.length c1] w (YsPost (sysO p (ups (leastN ns))) w) := by
  have r' := r
  have b2 : Bz (w.alloc (.cells #[.int .i64 0, .slice none 0 0] 27)) w.heap.size 27 [.int .i64 0, .slice none 0 0] := Bz.new _ _ _
  have HLE := Lib.hid (leastG_any b o c1 ns _ (r'.ext (Ext.alloc w (.cells #[.int .i64 0, .slice none 0 0] 27))) hn hb)
  clear hb
  generalize hL : leastN ns = ls at *
  clear hL
  have HV := Lib.hid (fun W v (r : RdI W v (ups ls)) => implValidSystem_any p v (ups ls) W r)
  cases hv : sysB p (ups ls)
  · have HO : Hid (sysO p (ups ls) = none) := by show _ = _; unfold sysO; rw [hv]; rfl
    rw [hv] at HV
    clear hv
    go_enter Try.func64, Try.ntmps64
    go_wp2_with fail
    refine HLE.out.mono ?_
    rintro e w1 ⟨g, cap, rfl, hx, own⟩
    replace b2 := b2.ext hx
    have X := (Ext.alloc _ _).trans hx
    clear hx
    go_wp2_with fail
    refine (HV.out _ _ (own.rd.ext (Ext.alloc _ _))).mono ?_
    rintro e w2 ⟨rfl, hx⟩
    replace hx := (Ext.alloc _ _).trans hx
    replace b2 := b2.ext hx
    replace X := X.trans hx
    obtain ⟨k0, k1⟩ := b2.bx.two
    have z2 := b2.lt
    have f0 := b2.frozen (j := 0)
    have f1 := b2.frozen (j := 1)
    clear b2
    go_wp2_with fail
    refine bodyPost_ret (v := .tuple #[.agg #[.int .i64 0, .slice none 0 0], .bool false]) (by simp [results, Try.results64, go_sem, k0, k1, f0, f1]) rfl ?_
    unfold YsPost
    rw [HO.out]
    exact ⟨(X.setCell (by simp) _).setCell (by simp) _, rfl⟩
  · have HO : Hid (sysO p (ups ls) = some (p, ups ls)) := by show _ = _; unfold sysO; rw [hv]; rfl
    rw [hv] at HV
    clear hv
    go_enter Try.func64, Try.ntmps64
    go_wp2_with fail
    refine HLE.out.mono ?_
    rintro e w1 ⟨g, cap, rfl, hx, own⟩
    replace b2 := b2.ext hx
    have X := (Ext.alloc _ _).trans hx
    clear hx
    go_wp2_with fail
    have bx : Bx (w1.alloc (.cells #[.int .i64 p, .slice (some ⟨g, 0, none⟩) ls.length cap] 27)) w1.heap.size [.int .i64 p, .slice (some ⟨g, 0, none⟩) ls.length cap] := Bx.new _ _ _
    refine (HV.out _ _ (own.rd.ext (Ext.alloc _ _))).mono ?_
    rintro e w2 ⟨rfl, hx⟩
    replace bx := bx.ext hx
    replace hx := (Ext.alloc _ _).trans hx
    replace b2 := b2.ext hx
    replace own := own.ext hx
    replace X := X.trans hx
    obtain ⟨k0, k1⟩ := b2.bx.two
    obtain ⟨k2, k3⟩ := bx.two
    have z2 := b2.lt
    have f0 := b2.frozen (j := 0)
    have f1 := b2.frozen (j := 1)
    have hgl := own.lt g rfl
    have hgw : w.heap.size < g := by have := hgl.1; simp at this; omega
    clear b2 bx
    go_wp2_with fail
    refine bodyPost_ret (v := .tuple #[.agg #[.int .i64 p, .slice (some ⟨g, 0, none⟩) ls.length cap], .bool true]) (by simp [results, Try.results64, go_sem, k0, k1, f0, f1]) rfl ?_
    unfold YsPost
    rw [HO.out]
    refine ⟨(X.setCell (by simp) _).setCell (by simp) _, g, cap, by rw [ups_len], ?_⟩
    show World.ownsRow _ _ _ _ _ (ups ls).length _
    rw [ups_len]
    exact World.ownsRow.mono (ownsRow_setCell_other (ownsRow_setCell_other own (by simp [Value.ownBlock]; omega) _) (by simp [Value.ownBlock]; omega) _) (by simp)
end Go.Proofs.Ytgmdoboeenpjpaa
/- RoadSystem, both sides. Condition: lists of ints that can be read. -/
namespace Go.Proofs.Ytgmdoboeenpjpaa
open Go Go.RowKit Go.ChangeShapes Go.WideShapes Go.ChangeAt

attribute [local irreducible] LX

/-- A set has the property, and none of the first j parts can be left out. -/
def lowTo (f : Nat → Bool) (s j : Nat) : Bool := f s && (List.range j).all fun b => !(s.testBit b) || !(f (s - 2 ^ b))
theorem lowTo_zero (f : Nat → Bool) (s : Nat) : lowTo f s 0 = f s := by unfold lowTo; simp
theorem lowTo_succ (f : Nat → Bool) (s j : Nat) : lowTo f s (j + 1) = (lowTo f s j && (!(s.testBit j) || !(f (s - 2 ^ j)))) := by
  unfold lowTo
  rw [List.range_succ, List.all_append, Bool.and_assoc]; simp
theorem lowTo_no {f : Nat → Bool} {s j k : Nat} (h : lowTo f s j = false) (hk : j ≤ k) : lowTo f s k = false := by
  induction k with
  | zero => have : j = 0 := by omega
            subst this; exact h
  | succ k ih =>
    rcases Nat.lt_or_ge j (k + 1) with h1 | h1
    · rw [lowTo_succ, ih (by omega), Bool.false_and]
    · have : j = k + 1 := by omega
      subst this; exact h
theorem joinsB_zero {q : Nat} {rs : List Nat} (h : RoadN q rs) : joinsB q rs 0 = false := by
  have h1 : itR rs 0 (0 + 1) = itR rs 0 0 := by
    show rnd rs 0 1 _ = 1
    generalize rs.length / 2 = m
    induction m with
    | zero => rfl
    | succ m ih =>
      show stepR rs 0 (rnd rs 0 1 m) m = 1
      rw [ih]
      unfold stepR grows
      simp
  have h2 := itR_end h h1
  unfold joinsB
  rw [← h2]
  show Nat.testBit 1 (q - 1) = false
  have := h.q2
  rw [show (1 : Nat) = 2 ^ 0 from rfl, Nat.testBit_two_pow]
  simp; omega
def roadO (p : Int) (zs : List Int) : Option (Int × List Int) := if roadsB p zs then sysO ((zs.length / 2 : Nat) : Int) (ups (lowL (zs.length / 2) (joinsB p.toNat (downs zs)))) else none
theorem roadO_len (p : Int) (zs : List Int) : ((roadO p zs).getD (0, [])).2.length ≤ 1048576 := by
  unfold roadO
  split
  · exact sysO_len _ _
  · simp

set_option maxRecDepth 100000 in
set_option maxHeartbeats 4000000 in
theorem road1_any (q s : Nat) (v : Value) (rs : List Nat) (b1 b2 : Nat) (w : World) (h1 : w.cell? ⟨b1, 0, none⟩ = some v) (h2 : w.cell? ⟨b2, 0, none⟩ = some (.int .i64 q)) (r : RdI w v (ups rs)) (h : RoadN q rs) (hs : s < 1024) :
    Calls Try.prog 80 #[.int .i64 s, .pointer (some ⟨b1, 0, none⟩), .pointer (some ⟨b2, 0, none⟩)] w fun e w' => e = .returned (.bool (joinsB q rs s)) ∧ Ext w w' := by
  have hb1 := World.block_lt_of_cell? w _ h1
  have hb2 := World.block_lt_of_cell? w _ h2
  have HJ := Lib.hid (fun W (x : Ext w W) => joinedPlaces_any q s v rs W (r.ext x) h hs)
  have hlt : joinN q rs s < 64 := Nat.lt_of_lt_of_le (joinN_lt h s) (Nat.pow_le_pow_right (by decide) h.q6)
  obtain ⟨q1, hq1⟩ : ∃ q1, q1 = q - 1 := ⟨_, rfl⟩
  have hq2 := h.q2
  have hq6 := h.q6
  have hqi : (q : Int) - 1 = (q1 : Int) := by omega
  have hw1 : IntKind.i64.wrap ((q : Int) - 1) = (q1 : Int) := by rw [hqi]; exact wrap_nat _ (by omega)
  have hq63 : (q1 : Int) < 64 := by omega
  have hDEF : Hid (joinsB q rs s = (joinN q rs s).testBit q1) := by show _ = _; rw [hq1]; rfl
  generalize joinN q rs s = P at *
  have hba := road_bit P q1 (by omega)
  have hsd : 0 ≤ (P : Int) / 2 ^ q1 := Int.ediv_nonneg (by omega) (by exact_mod_cast Nat.zero_le _)
  clear hlt hq2 hq1 hqi
  obtain ⟨u, hu, hub⟩ : ∃ u : Int, bits .and .i64 ((P : Int) / 2 ^ q1) 1 = u ∧ (u == 1) = P.testBit q1 := ⟨_, rfl, by rw [hba]; cases P.testBit q1 <;> rfl⟩
  clear hba
  generalize P.testBit q1 = bb at *
  go_enter Try.func80, Try.ntmps80
  go_wp2_with fail
  refine wp_region_rel 8 (fun _ v => v = .int .i64 P) (fun _ _ _ => True) (by kernel_rfl) (by kernel_rfl) (by kernel_rfl) ?_
  dsimp only [List.take, List.drop, List.length]
  refine LX_det (v) (by kernel_rfl) rfl (fun w' hx _ => ?_) ?_
  · have m0 := (Below.cell hx (p := ⟨b1, 0, none⟩) hb1).trans h1
    go_simp
  refine LX_det (.int .i64 s) (by kernel_rfl) rfl (fun w' hx _ => ?_) ?_
  · go_simp
  refine LX_call (by kernel_rfl) rfl (fun _ => St.top) (fun w' hx _ => ?_) ?_
  · go_simp
    refine UponC.enter ((HJ.out _ hx).mono ?_)
    rintro e w'' ⟨rfl, hx'⟩
    exact ⟨_, rfl, hx', rfl, trivial⟩
  rintro _ rfl
  refine LX_det (.int .i64 q) (by kernel_rfl) rfl (fun w' hx _ => ?_) ?_
  · have m0 := (Below.cell hx (p := ⟨b2, 0, none⟩) hb2).trans h2
    go_simp
  refine LX_det (.int .i64 q1) (by kernel_rfl) rfl (fun w' hx _ => ?_) ?_
  · go_simp
  refine LX_det (.int .i64 ((P : Int) / 2 ^ q1)) (by kernel_rfl) rfl (fun w' hx _ => ?_) ?_
  · go_simp
  refine LX_det (.int .i64 u) (by kernel_rfl) rfl (fun w' hx _ => ?_) ?_
  · go_simp
  refine LX_det (.bool bb) (by kernel_rfl) rfl (fun w' hx _ => ?_) ?_
  · go_simp
  refine LX_nil fun w2 hx _ => ?_
  simp only [Act.put, List.setIfInBounds_toArray, List.set_cons_succ, List.set_cons_zero]
  go_wp2_with fail
  go_ret
  exact ⟨ret_bool hDEF.out.symm, hx⟩

set_option maxHeartbeats 4000000 in
theorem implRoadSystem_any (p : Int) (v : Value) (zs : List Int) (w : World) (r : RdI w v zs) : Calls Try.prog 28 #[.int .i64 p, v] w (YsPost (roadO p zs) w) := by
  have r' := r
  obtain ⟨-, a1, c1, rfl, -, -, -, -⟩ := r
  generalize hWA : (w.alloc (.cells #[.int .i64 p] 2)).alloc (.cells #[.slice a1 zs.length c1] 25) = WA
  have XA : Ext w WA := hWA ▸ (Ext.alloc _ _).trans (Ext.alloc _ _)
  have bA1 : Bx WA w.heap.size [.int .i64 p] := hWA ▸ (Bx.new _ _ _).ext (Ext.alloc _ _)
  have bA2 : Bx WA (w.heap.size + 1) [.slice a1 zs.length c1] := hWA ▸ Bx.new' _ _ _ (by simp)
  have hAs : WA.heap.size = w.heap.size + 2 := by rw [← hWA]; simp
  generalize hW0 : WA.alloc (.cells #[.int .i64 0, .slice none 0 0] 27) = W0
  have X : Ext w W0 := XA.trans (hW0 ▸ Ext.alloc _ _)
  have b1 : Bx W0 w.heap.size [.int .i64 p] := hW0 ▸ bA1.ext (Ext.alloc _ _)
  have b2 : Bx W0 (w.heap.size + 1) [.slice a1 zs.length c1] := hW0 ▸ bA2.ext (Ext.alloc _ _)
  have b3 : Bz W0 (w.heap.size + 2) 27 [.int .i64 0, .slice none 0 0] := by rw [← hW0, ← hAs]; exact Bz.new _ _ _
  have hle1 : w.heap.size ≤ w.heap.size + 2 := by omega
  clear bA1 bA2 XA
  have HV := Lib.hid (fun W (x : Ext w W) => areRoads_any p _ zs W (r'.ext x))
  cases hv : roadsB p zs
  · have HO : Hid (roadO p zs = none) := by show _ = _; unfold roadO; rw [hv]; rfl
    rw [hv] at HV
    clear hv
    have k1 := b1.one
    have k2 := b2.one
    go_enter Try.func28, Try.ntmps28
    go_wp2_with fail
    clear hWA hW0 hAs
    refine (HV.out _ X).mono ?_
    rintro e w1 ⟨rfl, hx⟩
    replace b3 := b3.ext hx
    replace X := X.trans hx
    obtain ⟨k0, k3⟩ := b3.bx.two
    have z2 := b3.lt
    have f0 := b3.frozen (j := 0)
    have f1 := b3.frozen (j := 1)
    clear b3 b1 b2 k1 k2 hx
    go_wp2_with fail
    refine bodyPost_ret (v := .tuple #[.agg #[.int .i64 0, .slice none 0 0], .bool false]) (by simp [results, Try.results28, go_sem, k0, k3, f0, f1]) rfl ?_
    unfold YsPost
    rw [HO.out]
    exact ⟨(X.setCell hle1 _).setCell hle1 _, rfl⟩
  · obtain ⟨m, hm⟩ : ∃ m, m = zs.length / 2 := ⟨_, rfl⟩
    have HO : Hid (roadO p zs = sysO (m : Int) (ups (lowL m (joinsB p.toNat (downs zs))))) := by show _ = _; unfold roadO; rw [hv, hm]; rfl
    rw [hv] at HV
    obtain ⟨hr, hpn, hzn⟩ := roads_N hv
    have hl20 : zs.length ≤ 20 := by have := hr.l20; rw [downs_len] at this; exact this
    have hm10 : m ≤ 10 := by omega
    have hmi : (zs.length : Int) / 2 = (m : Int) := by omega
    have hb := (pow10N hm10).2.2.2
    have HC := Lib.hid (fun W (x : Ext w W) (d1 : Bx W w.heap.size [.int .i64 p]) (d2 : Bx W (w.heap.size + 1) [.slice a1 zs.length c1]) => setsWhere_any m 80 #[.pointer (some ⟨w.heap.size + 1, 0, none⟩), .pointer (some ⟨w.heap.size, 0, none⟩)] (joinsB p.toNat (downs zs)) W hm10 (enterOk Try.func80 (by kernel_rfl) rfl)
      (fun w' hx s hlt => road1_any p.toNat s _ (downs zs) _ _ w' (d2.ext hx).one (by rw [← hpn]; exact (d1.ext hx).one) (by rw [← hzn]; exact r'.ext (x.trans hx)) hr (by omega)))
    have hlow : leastN ((List.range (2 ^ m)).filter (joinsB p.toNat (downs zs))) = lowL m (joinsB p.toNat (downs zs)) := low_least (by omega) fun s t => joinsB_mono _ _
    have hlt : ∀ z ∈ (List.range (2 ^ m)).filter (joinsB p.toNat (downs zs)), z < 1048577 := fun z hz => by rw [List.mem_filter, List.mem_range] at hz; omega
    have hle : ((List.range (2 ^ m)).filter (joinsB p.toNat (downs zs))).length ≤ 1048576 := Nat.le_trans (List.length_filter_le _ _) (by rw [List.length_range]; omega)
    have HIF := Lib.hid (fun W g c (r : RdI W _ (ups ((List.range (2 ^ m)).filter (joinsB p.toNat (downs zs))))) => ifSystemG_any (m : Int) g 0 c ((List.range (2 ^ m)).filter (joinsB p.toNat (downs zs))) W r hle hlt)
    rw [hlow] at HIF
    clear hv hr hpn hzn hb hm hlow hlt hle
    generalize (List.range (2 ^ m)).filter (joinsB p.toNat (downs zs)) = xs at *
    generalize lowL m (joinsB p.toNat (downs zs)) = cs at *
    have k1 := b1.one
    have k2 := b2.one
    go_enter Try.func28, Try.ntmps28
    go_wp2_with fail
    clear hWA hW0 hAs
    refine (HV.out _ X).mono ?_
    rintro e w1 ⟨rfl, hx⟩
    clear k1 k2
    replace X := X.trans hx
    replace b1 := b1.ext hx
    replace b2 := b2.ext hx
    replace b3 := b3.ext hx
    clear hx
    have k1 := b1.one
    have k2 := b2.one
    go_wp2_with fail
    refine (HC.out _ X b1 b2).mono ?_
    rintro e w3 ⟨g, cap, rfl, hx, own⟩
    replace b3 := b3.ext hx
    replace X := X.trans hx
    clear hx k1 k2 b1 b2
    go_wp2_with fail
    refine (HIF.out _ _ _ own.rd).mono ?_
    intro e w4 h2
    have hgt : w.heap.size + 2 < w3.heap.size := b3.lt
    generalize sysO (m : Int) (ups cs) = oo at *
    clear own
    obtain ⟨hxY, h2⟩ := h2
    replace b3 := b3.ext hxY
    have hszY := X.size
    replace X := X.trans hxY
    obtain ⟨k0, k1⟩ := b3.bx.two
    have z2 := b3.lt
    have f0 := b3.frozen (j := 0)
    have f1 := b3.frozen (j := 1)
    clear b3
    cases oo with
    | none =>
      simp only at h2
      subst h2
      go_wp2_with fail
      refine bodyPost_ret (v := .tuple #[.agg #[.int .i64 0, .slice none 0 0], .bool false]) (by simp [results, Try.results28, go_sem, k0, k1, f0, f1]) rfl ?_
      unfold YsPost
      rw [HO.out]
      exact ⟨(X.setCell hle1 _).setCell hle1 _, rfl⟩
    | some q =>
      obtain ⟨g2, cap2, rfl, own⟩ := h2
      obtain ⟨p0, qs⟩ := q
      have hgl := own.lt g2 rfl
      simp only at own hgl
      simp only
      go_wp2_with fail
      refine bodyPost_ret (v := .tuple #[.agg #[.int .i64 p0, .slice (some ⟨g2, 0, none⟩) qs.length cap2], .bool true]) (by simp [results, Try.results28, go_sem, k0, k1, f0, f1]) rfl ?_
      unfold YsPost
      rw [HO.out]
      refine ⟨(X.setCell hle1 _).setCell hle1 _, g2, cap2, rfl, ?_⟩
      exact World.ownsRow.mono (ownsRow_setCell_other (ownsRow_setCell_other own (by simp [Value.ownBlock]; omega) _) (by simp [Value.ownBlock]; omega) _) hszY

end Go.Proofs.Ytgmdoboeenpjpaa
