
/- FnExactBesideSystems returns true for every input and changes nothing that was there. No condition. -/
import Derived.Test.YtifhmkkgmchcmaaRows
import Derived.Test.YtifhmkkgmchcmaaZk
import Derived.Test.YtifhmkkgmchcmaaYp
import Derived.Test.YtifhmkkgmchcmaaRl
namespace Go.Proofs.Ytifhmkkgmchcmaa
open Go Go.RowKit Go.ChangeShapes Go.WideShapes Go.ChangeAt

attribute [local irreducible] LX

set_option maxRecDepth 100000 in
set_option maxHeartbeats 8000000 in
theorem FnExactBesideSystems_law (p0 : Int) (v0 : Value) (zs0 : List Int) (p1 : Int) (v1 : Value) (zs1 : List Int) (o : Option (Int × List Int)) (w : World) (r0 : RdI w v0 zs0) (r1 : RdI w v1 zs1)
    (hs : zs0.length ≤ 1048576 → zs1.length ≤ 1048576 → ∀ (w : World) (v0 v1 : Value), RdI w v0 zs0 → RdI w v1 zs1 → Calls Try.prog 31 #[.agg #[.int .i64 p0, v0], .agg #[.int .i64 p1, v1]] w (YsPost o w))
    (hi : zs0.length ≤ 1048576 → zs1.length ≤ 1048576 → ∀ (w : World) (v0 v1 : Value), RdI w v0 zs0 → RdI w v1 zs1 → Calls Try.prog 32 #[.agg #[.int .i64 p0, v0], .agg #[.int .i64 p1, v1]] w (YsPost o w))
    (hlen : (o.getD (0, [])).2.length ≤ 1048576) :
    Calls Try.prog 6 #[.agg #[.int .i64 p0, v0], .agg #[.int .i64 p1, v1]] w fun e w' => e = .returned (.bool true) ∧ Ext w w' := by
  have r0' := r0
  obtain ⟨-, a0, c0, rfl, pp0, qq0, -, -⟩ := r0
  have hm0 : zs0.length ≤ maxLen := by omega
  have hq0 : zs0.length ≤ 9223372036854775807 := by unfold maxLen at hm0; omega
  have r1' := r1
  obtain ⟨-, a1, c1, rfl, pp1, qq1, -, -⟩ := r1
  have hm1 : zs1.length ≤ maxLen := by omega
  have hq1 : zs1.length ≤ 9223372036854775807 := by unfold maxLen at hm1; omega
  have HS0 := Lib.hid hs
  have HI0 := Lib.hid hi
  clear hs hi pp0 qq0 pp1 qq1
  go_enter Try.func6, Try.ntmps6
  go_wp2_with fail
  generalize hW : World.alloc (World.alloc w _) _ = W
  have X : Ext w W := hW ▸ (Ext.alloc _ _).trans (Ext.alloc _ _)
  have b0 : Bx W w.heap.size [.int .i64 p0, .slice a0 zs0.length c0] := hW ▸ (Bx.new w _ _).ext (Ext.alloc _ _)
  have b1 : Bx W (w.heap.size + 1) [.int .i64 p1, .slice a1 zs1.length c1] := hW ▸ (Bx.new' (w.alloc _) _ _ (by simp))
  clear hW
  obtain ⟨k0, k1⟩ := b0.two
  try (go_wp2_with fail)
  refine (szSystem_any _ _ _ _ _ _ hm0 (by omega) (by omega)).mono ?_
  rintro e w1 ⟨rfl, hx⟩
  clear k0 k1
  replace X := Ext.trans X hx
  replace b0 := b0.ext hx
  replace b1 := b1.ext hx
  clear hx
  by_cases hz0 : (1048576 : Int) - zs0.length < 0
  · rw [if_pos hz0]
    go_wp2_with fail
    go_ret
    exact ⟨rfl, X⟩
  rw [if_neg hz0]
  obtain ⟨k0, k1⟩ := b1.two
  try (go_wp2_with fail)
  refine (szSystem_any _ _ _ _ _ _ hm1 (by omega) (by omega)).mono ?_
  rintro e w2 ⟨rfl, hx⟩
  clear k0 k1
  replace X := Ext.trans X hx
  replace b0 := b0.ext hx
  replace b1 := b1.ext hx
  clear hx
  by_cases hz1 : (1048576 : Int) - zs0.length - zs1.length < 0
  · rw [if_pos hz1]
    go_wp2_with fail
    go_ret
    exact ⟨rfl, X⟩
  rw [if_neg hz1]
  have hzz0 : zs0.length ≤ 1048576 := by omega
  have hzz1 : zs1.length ≤ 1048576 := by omega
  have HS := Lib.hid (HS0.out hzz0 hzz1)
  have HI := Lib.hid (HI0.out hzz0 hzz1)
  clear HS0 HI0
  obtain ⟨P0, hP⟩ : ∃ P0, (o.getD (0, [])).1 = P0 := ⟨_, rfl⟩
  obtain ⟨zz, hZ⟩ : ∃ zz, (o.getD (0, [])).2 = zz := ⟨_, rfl⟩
  rw [hZ] at hlen
  go_wp2_with fail
  refine wp_region_lateK 9 7 9 (fun i v => match i with | 1 => SysV p0 zs0 v | 3 => SysV p1 zs1 v | _ => YqV P0 o.isSome v)
    (fun i v w => match i with | 1 => SysW p0 zs0 v w | 3 => SysW p1 zs1 v w | _ => YqW w2.heap.size P0 o.isSome zz v w) (by kernel_rfl) (by kernel_rfl) (by kernel_rfl) (by kernel_rfl) ?_
  intro QQ
  dsimp only [addEdge, List.modify, List.modifyTailIdx, List.modifyTailIdx.go, List.modifyHead, List.take, List.drop, List.length]
  refine LX_det (.agg #[.int .i64 p0, .slice a0 zs0.length c0]) (by kernel_rfl) rfl (fun w' hx _ => ?_) ?_
  · obtain ⟨k1, k2⟩ := (b0.ext hx).two
    go_simp
  refine LX_call (by kernel_rfl) rfl (SysW.st p0 zs0) (fun w' hx _ => ?_) ?_
  · go_simp
    refine UponC.enter ((toSystem_any p0 a0 c0 _ zs0 _ (r0'.ext (X.trans hx)) hzz0).mono ?_)
    rintro e w'' ⟨g, rfl, hx', hr⟩
    exact ⟨_, rfl, hx', ⟨g, rfl⟩, g, rfl, hr⟩
  rintro _ ⟨gg0, rfl⟩
  refine LX_det (.agg #[.int .i64 p1, .slice a1 zs1.length c1]) (by kernel_rfl) rfl (fun w' hx _ => ?_) ?_
  · obtain ⟨k1, k2⟩ := (b1.ext hx).two
    go_simp
  refine LX_call (by kernel_rfl) rfl (SysW.st p1 zs1) (fun w' hx _ => ?_) ?_
  · go_simp
    refine UponC.enter ((toSystem_any p1 a1 c1 _ zs1 _ (r1'.ext (X.trans hx)) hzz1).mono ?_)
    rintro e w'' ⟨g, rfl, hx', hr⟩
    exact ⟨_, rfl, hx', ⟨g, rfl⟩, g, rfl, hr⟩
  rintro _ ⟨gg1, rfl⟩
  refine LX_call (by kernel_rfl) rfl (YqW.st _ P0 o.isSome zz) (fun w' hx hg => ?_) ?_
  · have h0 := SysW.rd (show SysW p0 zs0 _ w' from (hg 29 (by decide)).1.1.2 rfl)
    have h1 := SysW.rd (show SysW p1 zs1 _ w' from (hg 31 (by decide)).2 rfl)
    clear hg
    go_simp
    refine UponC.enter ((HS.out _ _ _ h0 h1).mono ?_)
    intro e w'' h4
    obtain ⟨e1, h5, h6, h7⟩ := yqPost hP hZ h4 hx.size
    exact ⟨e1, h5, h6, h7⟩
  rintro _ ⟨avos, nvos, cvos, rfl⟩
  refine LX_det (.tuple #[.agg #[.int .i64 P0, .slice avos nvos cvos], .bool o.isSome]) (by kernel_rfl) rfl (fun w' hx _ => ?_) ?_
  · go_simp
  refine LX_det (.agg #[.int .i64 P0, .slice avos nvos cvos]) (by kernel_rfl) rfl (fun w' hx _ => ?_) ?_
  · go_simp
  refine LX_det (.bool o.isSome) (by kernel_rfl) rfl (fun w' hx _ => ?_) ?_
  · go_simp
  refine LX_alloc [.int .i64 0, .slice none 0 0] 27 (by kernel_rfl) rfl (fun w' hx => ?_) ?_
  · go_simp
  intro bkos hbkos
  refine LX_nil fun w3 hx hg => ?_
  obtain ⟨TT, -, os⟩ := (show YqW _ P0 o.isSome zz _ w3 from (hg 32).1.1.1.1.2 rfl) _ rfl
  have bb0 : Bz w3 bkos 27 [.int .i64 0, .slice none 0 0] := by
    obtain ⟨b', e, -, h3⟩ := ((hg 6).2 rfl : NewB _ _ _ _ _)
    cases e; exact h3
  clear hg
  simp only [Act.put, List.setIfInBounds_toArray, List.set_cons_succ, List.set_cons_zero]
  have hx0 := hx
  have os' := os.setBox bb0 0 (.int .i64 P0)
  have bb1 := bb0.set 0 (.int .i64 P0)
  replace os := os'.setBox bb1 1 (.slice avos nvos cvos)
  have bw := (bb1.set 1 (.slice avos nvos cvos)).bx
  replace hx := Below.setCell (p := ⟨bkos, 1, none⟩) (Below.setCell (p := ⟨bkos, 0, none⟩) hx0 hbkos (.int .i64 P0)) hbkos (.slice avos nvos cvos)
  obtain ⟨k4, k5⟩ := bb0.bx.two
  have f0 := bb0.frozen (j := 0)
  have f1 := bb0.frozen (j := 1)
  have zb := bb0.lt
  obtain ⟨k0, k1⟩ := (b0.ext hx0).two
  have hn0 : w.heap.size ≠ bkos := by have := b0.1; omega
  clear os' bb1 bb0
  go_wp2_with fail
  clear k0 k1 k4 k5 f0 f1 zb hn0 hx0
  generalize hW : (w3.setCell ⟨bkos, 0, none⟩ (.int .i64 P0)).setCell ⟨bkos, 1, none⟩ (.slice avos nvos cvos) = WB at *
  clear hW
  replace X := Ext.trans X hx
  replace b0 := b0.ext hx
  replace b1 := b1.ext hx
  clear hx
  have Y : Ext WB WB := Ext.refl _
  have BW := Lib.hid (fun W (x : Ext WB W) => bw.ext x)
  clear bw
  have B0 := Lib.hid (fun W (x : Ext WB W) => b0.ext x)
  clear b0
  have B1 := Lib.hid (fun W (x : Ext WB W) => b1.ext x)
  clear b1
  obtain ⟨k0, k1⟩ := (B0.out _ Y).two
  try (go_wp2_with fail)
  refine (toSystem_own p0 a0 c0 _ zs0 _ (r0'.ext (X.trans Y)) hzz0).mono ?_
  rintro e w4 ⟨g0, rfl, hx, own0⟩
  clear k0 k1
  replace hx : Ext _ w4 := hx
  have hg0 := own0.lt g0 rfl
  have hB0 : WB.heap.size ≤ g0 := Nat.le_trans Y.size hg0.1
  have hs0 := hg0.2
  replace own0 := World.ownsRow.mono own0 Y.size
  clear hg0
  replace Y := Ext.trans Y hx
  clear hx
  obtain ⟨k0, k1⟩ := (B1.out _ Y).two
  have zk := (B1.out _ Y).1
  go_wp2_with fail
  have bx0 : Bx (w4.alloc (.cells #[.int .i64 p0, .slice (some ⟨g0, 0, none⟩) zs0.length zs0.length] 27)) w4.heap.size [.int .i64 p0, .slice (some ⟨g0, 0, none⟩) zs0.length zs0.length] := Bx.new _ _ _
  have hbx0 : g0 < w4.heap.size := hs0
  have hbB0 : WB.heap.size ≤ w4.heap.size := Y.size
  generalize hW : World.alloc w4 _ = WW0 at bx0
  have hx : Ext w4 WW0 := hW ▸ Ext.alloc _ _
  clear hW
  clear k0 k1 zk
  replace Y := Ext.trans Y hx
  replace own0 := own_ext' own0 hx
  replace hs0 := Nat.lt_of_lt_of_le hs0 hx.size
  clear hx
  generalize w4.heap.size = BB0 at *
  obtain ⟨k0, k1⟩ := (B1.out _ Y).two
  try (go_wp2_with fail)
  refine (toSystem_own p1 a1 c1 _ zs1 _ (r1'.ext (X.trans Y)) hzz1).mono ?_
  rintro e w5 ⟨g1, rfl, hx, own1⟩
  clear k0 k1
  replace hx : Ext _ w5 := hx
  have hg1 := own1.lt g1 rfl
  have hB1 : WB.heap.size ≤ g1 := Nat.le_trans Y.size hg1.1
  have hne0_1 : g0 < g1 := Nat.lt_of_lt_of_le hs0 hg1.1
  have hs1 := hg1.2
  replace own1 := World.ownsRow.mono own1 Y.size
  clear hg1
  replace Y := Ext.trans Y hx
  replace own0 := own_ext' own0 hx
  replace hs0 := Nat.lt_of_lt_of_le hs0 hx.size
  replace bx0 := bx0.ext hx
  clear hx
  obtain ⟨kk0, kl0⟩ := bx0.two
  have zz0 := bx0.1
  go_wp2_with fail
  have bx1 : Bx (w5.alloc (.cells #[.int .i64 p1, .slice (some ⟨g1, 0, none⟩) zs1.length zs1.length] 27)) w5.heap.size [.int .i64 p1, .slice (some ⟨g1, 0, none⟩) zs1.length zs1.length] := Bx.new _ _ _
  have hbx1 : g1 < w5.heap.size := hs1
  have hbB1 : WB.heap.size ≤ w5.heap.size := Y.size
  have hbl0_1 : g0 < w5.heap.size := hs0
  generalize hW : World.alloc w5 _ = WW1 at bx1
  have hx : Ext w5 WW1 := hW ▸ Ext.alloc _ _
  clear hW
  clear kk0 kl0 zz0
  replace Y := Ext.trans Y hx
  replace own0 := own_ext' own0 hx
  replace hs0 := Nat.lt_of_lt_of_le hs0 hx.size
  replace bx0 := bx0.ext hx
  replace own1 := own_ext' own1 hx
  replace hs1 := Nat.lt_of_lt_of_le hs1 hx.size
  clear hx
  generalize w5.heap.size = BB1 at *
  obtain ⟨kk0, kl0⟩ := bx0.two
  obtain ⟨kk1, kl1⟩ := bx1.two
  try (go_wp2_with fail)
  refine (HI.out _ _ _ (own_rd own0) (own_rd own1)).mono ?_
  intro e w6 h7
  obtain ⟨vi, rfl, oi, hx⟩ := ysPost_own h7
  clear h7
  clear kk0 kl0
  clear kk1 kl1
  rw [hZ] at oi
  rw [hP]
  have hB6 := Y.size
  have hz7 := hx.size
  have hlt0 := hs0
  clear hs0
  have hlt1 := hs1
  clear hs1
  replace Y := Ext.trans Y hx
  replace own0 := own_ext' own0 hx
  replace bx0 := bx0.ext hx
  replace own1 := own_ext' own1 hx
  replace bx1 := bx1.ext hx
  clear hx
  obtain ⟨ai, ni, ci, rfl⟩ := oi.shape
  obtain ⟨kw0, kw1⟩ := (BW.out _ Y).two
  have zw := (BW.out _ Y).1
  go_wp2_with fail
  have bg : Bx (w6.alloc (.cells #[.int .i64 P0, .slice ai ni ci] 27)) w6.heap.size [.int .i64 P0, .slice ai ni ci] := Bx.new _ _ _
  have hTg : w6.heap.size ≤ w6.heap.size := Nat.le_refl _
  have hgb0 : g0 < w6.heap.size := Nat.lt_of_lt_of_le hlt0 hz7
  have hgb1 : g1 < w6.heap.size := Nat.lt_of_lt_of_le hlt1 hz7
  generalize hW : World.alloc w6 _ = WG at bg
  have hx : Ext w6 WG := hW ▸ Ext.alloc _ _
  clear hW kw0 kw1 zw
  replace Y := Ext.trans Y hx
  replace own0 := own_ext' own0 hx
  replace bx0 := bx0.ext hx
  replace own1 := own_ext' own1 hx
  replace bx1 := bx1.ext hx
  replace oi := oi.ext hx
  replace hz7 := Nat.le_trans hz7 hx.size
  clear hx
  obtain ⟨kw0, kw1⟩ := (BW.out _ Y).two
  obtain ⟨kg0, kg1⟩ := bg.two
  try (go_wp2_with fail)
  clear kw0 kw1 kg0 kg1
  refine (eqSys_eq P0 oi.rd (os.ext Y).rd).mono ?_
  rintro e w7 ⟨rfl, hx⟩
  replace Y := Ext.trans Y hx
  replace own0 := own_ext' own0 hx
  replace bx0 := bx0.ext hx
  replace own1 := own_ext' own1 hx
  replace bx1 := bx1.ext hx
  replace oi := oi.ext hx
  replace hz7 := Nat.le_trans hz7 hx.size
  replace bg := bg.ext hx
  clear hx
  go_wp2_with fail
  refine wp_region_rel 5 (fun i v => match i with | 2 => SysV p0 zs0 v | _ => v = .bool true)
    (fun i v w => match i with | 2 => SysW p0 zs0 v w | _ => True) (by kernel_rfl) (by kernel_rfl) (by kernel_rfl) ?_
  dsimp only [List.take, List.drop, List.length]
  refine LX_det (.agg #[.int .i64 p0, .slice (some ⟨g0, 0, none⟩) zs0.length zs0.length]) (by kernel_rfl) rfl (fun w' hx _ => ?_) ?_
  · obtain ⟨k1, k2⟩ := (bx0.ext hx).two
    go_simp
  refine LX_det (.agg #[.int .i64 p0, .slice a0 zs0.length c0]) (by kernel_rfl) rfl (fun w' hx _ => ?_) ?_
  · obtain ⟨k1, k2⟩ := (B0.out _ (Y.trans hx)).two
    go_simp
  refine LX_call (by kernel_rfl) rfl (SysW.st p0 zs0) (fun w' hx _ => ?_) ?_
  · go_simp
    refine UponC.enter ((toSystem_any p0 a0 c0 _ zs0 _ (r0'.ext (X.trans (Y.trans hx))) hzz0).mono ?_)
    rintro e w'' ⟨g, rfl, hx', hr⟩
    exact ⟨_, rfl, hx', ⟨g, rfl⟩, g, rfl, hr⟩
  rintro _ ⟨gg, rfl⟩
  refine LX_call (by kernel_rfl) rfl (fun _ => St.top) (fun w' hx hg => ?_) ?_
  · have h1 := SysW.rd (show SysW p0 zs0 _ w' from (hg 56 (by decide)).2 rfl)
    clear hg
    go_simp
    refine UponC.enter ((eqSys_eq p0 (own_rd (own_ext' own0 hx)) h1).mono ?_)
    rintro e w'' ⟨rfl, hx'⟩
    exact ⟨_, rfl, hx', rfl, trivial⟩
  rintro _ rfl
  refine LX_det (.bool false) (by kernel_rfl) rfl (fun w' hx _ => ?_) ?_
  · go_simp
  refine LX_nil fun w8 hx hg => ?_
  clear hg
  replace Y := Ext.trans Y hx
  replace own0 := own_ext' own0 hx
  replace bx0 := bx0.ext hx
  replace own1 := own_ext' own1 hx
  replace bx1 := bx1.ext hx
  replace oi := oi.ext hx
  replace hz7 := Nat.le_trans hz7 hx.size
  replace bg := bg.ext hx
  clear hx
  refine wpList_nil ?_
  simp only [Act.put, List.setIfInBounds_toArray, List.set_cons_succ, List.set_cons_zero]
  go_wp2_with fail
  refine wp_region_rel 5 (fun i v => match i with | 2 => SysV p1 zs1 v | _ => v = .bool true)
    (fun i v w => match i with | 2 => SysW p1 zs1 v w | _ => True) (by kernel_rfl) (by kernel_rfl) (by kernel_rfl) ?_
  dsimp only [List.take, List.drop, List.length]
  refine LX_det (.agg #[.int .i64 p1, .slice (some ⟨g1, 0, none⟩) zs1.length zs1.length]) (by kernel_rfl) rfl (fun w' hx _ => ?_) ?_
  · obtain ⟨k1, k2⟩ := (bx1.ext hx).two
    go_simp
  refine LX_det (.agg #[.int .i64 p1, .slice a1 zs1.length c1]) (by kernel_rfl) rfl (fun w' hx _ => ?_) ?_
  · obtain ⟨k1, k2⟩ := (B1.out _ (Y.trans hx)).two
    go_simp
  refine LX_call (by kernel_rfl) rfl (SysW.st p1 zs1) (fun w' hx _ => ?_) ?_
  · go_simp
    refine UponC.enter ((toSystem_any p1 a1 c1 _ zs1 _ (r1'.ext (X.trans (Y.trans hx))) hzz1).mono ?_)
    rintro e w'' ⟨g, rfl, hx', hr⟩
    exact ⟨_, rfl, hx', ⟨g, rfl⟩, g, rfl, hr⟩
  rintro _ ⟨gg, rfl⟩
  refine LX_call (by kernel_rfl) rfl (fun _ => St.top) (fun w' hx hg => ?_) ?_
  · have h1 := SysW.rd (show SysW p1 zs1 _ w' from (hg 61 (by decide)).2 rfl)
    clear hg
    go_simp
    refine UponC.enter ((eqSys_eq p1 (own_rd (own_ext' own1 hx)) h1).mono ?_)
    rintro e w'' ⟨rfl, hx'⟩
    exact ⟨_, rfl, hx', rfl, trivial⟩
  rintro _ rfl
  refine LX_det (.bool false) (by kernel_rfl) rfl (fun w' hx _ => ?_) ?_
  · go_simp
  refine LX_nil fun w9 hx hg => ?_
  clear hg
  replace Y := Ext.trans Y hx
  replace own0 := own_ext' own0 hx
  replace bx0 := bx0.ext hx
  replace own1 := own_ext' own1 hx
  replace bx1 := bx1.ext hx
  replace oi := oi.ext hx
  replace hz7 := Nat.le_trans hz7 hx.size
  replace bg := bg.ext hx
  clear hx
  refine wpList_nil ?_
  simp only [Act.put, List.setIfInBounds_toArray, List.set_cons_succ, List.set_cons_zero]
  obtain ⟨k0, k1⟩ := bx0.two
  go_wp2_with fail
  refine (markSystem_g p0 (1) g0 zs0.length zs0.length _ zs0 _ own0 (by omega) (by omega) hzz0).mono ?_
  rintro e w10 ⟨rfl, G, -⟩
  clear k0 k1 bx0
  clear own0
  replace own1 := World.ownsRow.kept own1 G (.inr fun he => by simp [Value.ownBlock] at he; omega)
  replace bx1 := bx1.grown G (by omega)
  replace oi := oi.grown G hlt0
  replace bg := bg.grown G (by omega)
  replace Y := Below.trans Y (grown_ext G hB0 Y.size)
  replace hz7 := Nat.le_trans hz7 G.size
  clear G
  obtain ⟨k0, k1⟩ := bx1.two
  go_wp2_with fail
  refine (markSystem_g p1 (1 + (zs0.length : Int)) g1 zs1.length zs1.length _ zs1 _ own1 (by omega) (by omega) hzz1).mono ?_
  rintro e w11 ⟨rfl, G, -⟩
  clear k0 k1 bx1
  clear own1
  replace oi := oi.grown G hlt1
  replace bg := bg.grown G (by omega)
  replace Y := Below.trans Y (grown_ext G hB1 Y.size)
  replace hz7 := Nat.le_trans hz7 G.size
  clear G
  have hpos : ¬ (1 + (zs0.length : Int) + (zs1.length : Int)) < 0 := by omega
  obtain ⟨kw0, kw1⟩ := (BW.out _ Y).two
  obtain ⟨kg0, kg1⟩ := bg.two
  go_wp2_with fail
  clear kw0 kw1 kg0 kg1
  refine (eqSys_eq P0 oi.rd (os.ext Y).rd).mono ?_
  rintro e w12 ⟨rfl, hx⟩
  replace Y := Ext.trans Y hx
  replace oi := oi.ext hx
  replace hz7 := Nat.le_trans hz7 hx.size
  replace bg := bg.ext hx
  clear hx
  obtain ⟨kg0, kg1⟩ := bg.two
  go_wp2_with fail
  refine (markSys_own P0 1 _ _ _ _ _ oi hz7 (by decide) (by decide) hlen).mono ?_
  rintro e w13 ⟨rfl, G10, KF, RM⟩
  clear kg0 kg1
  replace bg := bg.kept G10.size KF hTg
  replace Y := Below.trans Y (G10.mono hB6)
  clear G10 oi KF
  obtain ⟨kg0, kg1⟩ := bg.two
  go_wp2_with fail
  refine (heldSys_own P0 1 _ _ zz.length _ _ RM (by decide) (by decide) hlen).mono ?_
  rintro e w14 ⟨rfl, hx⟩
  clear kg0 kg1
  replace Y := Ext.trans Y hx
  replace RM := RM.ext hx
  replace bg := bg.ext hx
  clear hx
  go_wp2_with fail
  refine wp_region_lateK 9 7 9 (fun i v => match i with | 1 => SysV p0 zs0 v | 3 => SysV p1 zs1 v | _ => YqV P0 o.isSome v)
    (fun i v w => match i with | 1 => SysW p0 zs0 v w | 3 => SysW p1 zs1 v w | _ => YqW w14.heap.size P0 o.isSome zz v w) (by kernel_rfl) (by kernel_rfl) (by kernel_rfl) (by kernel_rfl) ?_
  intro QQ
  dsimp only [addEdge, List.modify, List.modifyTailIdx, List.modifyTailIdx.go, List.modifyHead, List.take, List.drop, List.length]
  refine LX_det (.agg #[.int .i64 p0, .slice a0 zs0.length c0]) (by kernel_rfl) rfl (fun w' hx _ => ?_) ?_
  · obtain ⟨k1, k2⟩ := (B0.out _ (Y.trans hx)).two
    go_simp
  refine LX_call (by kernel_rfl) rfl (SysW.st p0 zs0) (fun w' hx _ => ?_) ?_
  · go_simp
    refine UponC.enter ((toSystem_any p0 a0 c0 _ zs0 _ (r0'.ext (X.trans (Y.trans hx))) hzz0).mono ?_)
    rintro e w'' ⟨g, rfl, hx', hr⟩
    exact ⟨_, rfl, hx', ⟨g, rfl⟩, g, rfl, hr⟩
  rintro _ ⟨gg0, rfl⟩
  refine LX_det (.agg #[.int .i64 p1, .slice a1 zs1.length c1]) (by kernel_rfl) rfl (fun w' hx _ => ?_) ?_
  · obtain ⟨k1, k2⟩ := (B1.out _ (Y.trans hx)).two
    go_simp
  refine LX_call (by kernel_rfl) rfl (SysW.st p1 zs1) (fun w' hx _ => ?_) ?_
  · go_simp
    refine UponC.enter ((toSystem_any p1 a1 c1 _ zs1 _ (r1'.ext (X.trans (Y.trans hx))) hzz1).mono ?_)
    rintro e w'' ⟨g, rfl, hx', hr⟩
    exact ⟨_, rfl, hx', ⟨g, rfl⟩, g, rfl, hr⟩
  rintro _ ⟨gg1, rfl⟩
  refine LX_call (by kernel_rfl) rfl (YqW.st _ P0 o.isSome zz) (fun w' hx hg => ?_) ?_
  · have h0 := SysW.rd (show SysW p0 zs0 _ w' from (hg 96 (by decide)).1.1.2 rfl)
    have h1 := SysW.rd (show SysW p1 zs1 _ w' from (hg 98 (by decide)).2 rfl)
    clear hg
    go_simp
    refine UponC.enter ((HI.out _ _ _ h0 h1).mono ?_)
    intro e w'' h4
    obtain ⟨e1, h5, h6, h7⟩ := yqPost hP hZ h4 hx.size
    exact ⟨e1, h5, h6, h7⟩
  rintro _ ⟨avoh, nvoh, cvoh, rfl⟩
  refine LX_det (.tuple #[.agg #[.int .i64 P0, .slice avoh nvoh cvoh], .bool o.isSome]) (by kernel_rfl) rfl (fun w' hx _ => ?_) ?_
  · go_simp
  refine LX_det (.agg #[.int .i64 P0, .slice avoh nvoh cvoh]) (by kernel_rfl) rfl (fun w' hx _ => ?_) ?_
  · go_simp
  refine LX_det (.bool o.isSome) (by kernel_rfl) rfl (fun w' hx _ => ?_) ?_
  · go_simp
  refine LX_alloc [.int .i64 0, .slice none 0 0] 27 (by kernel_rfl) rfl (fun w' hx => ?_) ?_
  · go_simp
  intro bkoh hbkoh
  refine LX_nil fun w15 hx hg => ?_
  obtain ⟨TT, -, oh⟩ := (show YqW _ P0 o.isSome zz _ w15 from (hg 99).1.1.1.1.2 rfl) _ rfl
  have bb0 : Bz w15 bkoh 27 [.int .i64 0, .slice none 0 0] := by
    obtain ⟨b', e, -, h3⟩ := ((hg 15).2 rfl : NewB _ _ _ _ _)
    cases e; exact h3
  clear hg
  simp only [Act.put, List.setIfInBounds_toArray, List.set_cons_succ, List.set_cons_zero]
  have hx0 := hx
  have oh' := oh.setBox bb0 0 (.int .i64 P0)
  have bb1 := bb0.set 0 (.int .i64 P0)
  replace oh := oh'.setBox bb1 1 (.slice avoh nvoh cvoh)
  have bh := (bb1.set 1 (.slice avoh nvoh cvoh)).bx
  replace hx := Below.setCell (p := ⟨bkoh, 1, none⟩) (Below.setCell (p := ⟨bkoh, 0, none⟩) hx0 hbkoh (.int .i64 P0)) hbkoh (.slice avoh nvoh cvoh)
  obtain ⟨k4, k5⟩ := bb0.bx.two
  have f0 := bb0.frozen (j := 0)
  have f1 := bb0.frozen (j := 1)
  have zb := bb0.lt
  obtain ⟨kw0, kw1⟩ := (BW.out _ (Y.trans hx0)).two
  have zw := (BW.out _ Y).1
  have hnw : bkos ≠ bkoh := by omega
  obtain ⟨kg0, kg1⟩ := bh.two
  clear oh' bb1 bb0
  go_wp2_with fail
  clear k4 k5 f0 f1 zb hx0 kw0 kw1 zw hnw kg0 kg1
  generalize hW : (w15.setCell ⟨bkoh, 0, none⟩ (.int .i64 P0)).setCell ⟨bkoh, 1, none⟩ (.slice avoh nvoh cvoh) = WH at *
  clear hW
  replace Y := Ext.trans Y hx
  replace RM := RM.ext hx
  replace bg := bg.ext hx
  clear hx
  obtain ⟨kw0, kw1⟩ := (BW.out _ Y).two
  obtain ⟨kg0, kg1⟩ := bh.two
  try (go_wp2_with fail)
  clear kw0 kw1 kg0 kg1
  refine (eqSys_eq P0 oh.rd (os.ext Y).rd).mono ?_
  rintro e w16 ⟨rfl, hx⟩
  replace Y := Ext.trans Y hx
  replace RM := RM.ext hx
  replace bg := bg.ext hx
  clear hx
  obtain ⟨kg0, kg1⟩ := bg.two
  go_wp2_with fail
  refine (heldSys_own P0 1 _ _ zz.length _ _ RM (by decide) (by decide) hlen).mono ?_
  rintro e w17 ⟨rfl, hx⟩
  clear kg0 kg1
  replace Y := Ext.trans Y hx
  replace RM := RM.ext hx
  replace bg := bg.ext hx
  clear hx
  go_wp2_with fail
  go_ret
  exact ⟨rfl, X.trans Y⟩


theorem besideSystems_walk (v1 v2 : Value) (w : World) (h1 : ArgSys w v1) (h2 : ArgSys w v2) :
    Calls Try.prog 6 #[v1, v2] w fun e w' => e = .returned (.bool true) ∧ Ext w w' := by
  obtain ⟨p, a, l, c, zs, rfl, _, r1, _⟩ := h1
  obtain ⟨q, a2, l2, c2, ys, rfl, _, r2, _⟩ := h2
  exact FnExactBesideSystems_law p _ zs q _ ys (besideO p q zs ys) w r1 r2 (fun _ _ w v u r r' => specBesideSystems_any p q v u zs ys w r r') (fun _ _ w v u r r' => implBesideSystems_any p q v u zs ys w r r') (besideO_len p q zs ys)

theorem fnExactBesideSystems_own : ownKnob Try.prog.godebug = none := by kernel_rfl
theorem fnExactBesideSystems_laid : laidOutB Try.prog = true := by kernel_rfl

set_option maxRecDepth 100000 in
theorem fnExactBesideSystems_lifted (os : Os) (started : os.Started) (H : Type) (enc : TypeId × Value → H) :
    ReturnsInHanded {} Try.checked os 6 .any (Rows.fnExactBesideSystemsSpec.pre6 enc Try.prog Try.f6 Rows.fnExactBesideSystemsRow.domain false) (Rows.fnExactBesideSystemsSpec.post enc Try.prog Try.f6 false true false false) := by
  refine returnsInHanded_of_change (C := Try.checked) fnExactBesideSystems_own started (by kernel_rfl) Try.func6
    (ChangeSpec.witness6 (enc := enc) (C := Try.checked) false ⟨#[], #[.agg #[.int .i64 0, .slice none 0 0], .agg #[.int .i64 0, .slice none 0 0]], []⟩ 8 (by kernel_rfl) (by kernel_rfl) (by kernel_rfl) (by kernel_rfl)) ?_
  intro W base args ds gs before hval0 hW hcnd _
  have hval : ∀ (j : Nat) t v, Try.f6.params[j]? = some t → args[j]? = some v → Value.okWide Try.prog W .any base t v := hval0
  have hW' := hW
  obtain ⟨p, q, hA0, hV, rfl, hfz, hnd⟩ := hW
  have hA : DataW.TrodAll enc Try.prog W 0 (fun _ => true) true Try.f6.params.toList args.toList ds p := hA0
  rw [Try.params6] at hA hval
  obtain ⟨v0, vs0, d0, ds0, p0, q0, hargs, rfl, rfl, h0, r0⟩ := trodAll_cons hA
  obtain ⟨v1, vs1, d1, ds1, p1, q1, rfl, rfl, rfl, h1, r1⟩ := trodAll_cons r0
  obtain ⟨rfl, rfl, rfl⟩ := trodAll_nil r1
  obtain rfl : args = #[v0, v1] := by cases args; simp_all
  obtain ⟨rfl, rfl⟩ := trodVars_none hV
  have lt0 : ∀ x ∈ p0, x.block < W.heap.size := by obtain ⟨m, hm⟩ := h0; exact DataW.trod_lt m _ _ _ hm
  have w0 := argSys Try.underlying24 (by kernel_rfl) (by kernel_rfl) Try.underlying2 Try.underlying22 Try.underlying2 (by kernel_rfl) (hval 0 24 v0 rfl rfl) h0
  have lt1 : ∀ x ∈ p1, x.block < W.heap.size := by obtain ⟨m, hm⟩ := h1; exact DataW.trod_lt m _ _ _ hm
  have w1 := argSys Try.underlying24 (by kernel_rfl) (by kernel_rfl) Try.underlying2 Try.underlying22 Try.underlying2 (by kernel_rfl) (hval 1 24 v1 rfl rfl) h1
  clear hA0 hval0
  refine (besideSystems_walk v0 v1 W w0 w1).mono fun e W' ⟨he, bel⟩ => ?_
  subst he
  exact ⟨_, rfl, _, _, _, [], _, [], hW', trodAll_mk1 (shut_bool Try.underlying4 _), (trodAll_cons_mk (Below.trod fnExactBesideSystems_laid (by kernel_rfl) (of_decide_eq_true (by kernel_rfl)) h0 bel lt0) (trodAll_cons_mk (Below.trod fnExactBesideSystems_laid (by kernel_rfl) (of_decide_eq_true (by kernel_rfl)) h1 bel lt1) trodAll_mk0)), rfl, bel.below.frame _, fun h => by cases h⟩

theorem fnExactBesideSystems_toL {s : String} {L : List Char} (h : s = String.ofList L) : s.toList = L := by rw [h]; exact String.toList_ofList
def fnExactBesideSystems_enterF (P : Program) : { F : List Char → Bool // P.mayEnter = F P.initOrder.toList } :=
  ⟨_, by unfold Program.mayEnter; generalize P.initOrder.toList = l; exact rfl⟩
def fnExactBesideSystems_liftsF (P : Program) : { F : List Char → Bool // P.liftsFinal = F P.initOrder.toList } :=
  ⟨_, by unfold Program.liftsFinal Program.headLifts; generalize P.initOrder.toList = l; exact rfl⟩
def fnExactBesideSystems_makeF (P : Program) : { F : List Char → Option Make // P.make = F P.initOrder.toList } :=
  ⟨_, by unfold Program.make; generalize P.initOrder.toList = l; exact rfl⟩
set_option maxRecDepth 100000 in
theorem fnExactBesideSystems_enter : Try.checked.prog.mayEnter = true :=
  ((fnExactBesideSystems_enterF Try.checked.prog).2.trans (congrArg (fnExactBesideSystems_enterF Try.checked.prog).1 (fnExactBesideSystems_toL (rfl : Try.checked.prog.initOrder = String.ofList _)))).trans (by kernel_rfl)
set_option maxRecDepth 100000 in
theorem fnExactBesideSystems_lifts : Try.checked.prog.liftsFinal = false :=
  ((fnExactBesideSystems_liftsF Try.checked.prog).2.trans (congrArg (fnExactBesideSystems_liftsF Try.checked.prog).1 (fnExactBesideSystems_toL (rfl : Try.checked.prog.initOrder = String.ofList _)))).trans (by kernel_rfl)
set_option maxRecDepth 100000 in
theorem fnExactBesideSystems_make : Try.checked.prog.make = some .cut :=
  ((fnExactBesideSystems_makeF Try.checked.prog).2.trans (congrArg (fnExactBesideSystems_makeF Try.checked.prog).1 (fnExactBesideSystems_toL (rfl : Try.checked.prog.initOrder = String.ofList _)))).trans (by kernel_rfl)
set_option maxRecDepth 100000 in
theorem fnExactBesideSystems_closed : joinedFacts Try.checked.prog 6 Try.f6 Rows.fnExactBesideSystemsSpec Rows.fnExactBesideSystemsRow = true := by
  unfold joinedFacts
  rw [fnExactBesideSystems_enter, fnExactBesideSystems_lifts, fnExactBesideSystems_make]
  decide +kernel

theorem fnExactBesideSystems_over : Rows.fnExactBesideSystemsRow.holds Try.pinned (OpenSpec.ofChange Rows.fnExactBesideSystemsSpec) :=
  OpenClaim.holds_of_wide 6 Try.f6 rfl rfl rfl rfl rfl rfl rfl ⟨rfl, rfl, rfl, rfl, rfl⟩ rfl rfl rfl rfl rfl (by kernel_rfl) Try.func6 fnExactBesideSystems_closed
    (of_decide_eq_true (by kernel_rfl)) (by unfold Func.isWrapper; first | (rw [if_pos (by decide +kernel)]; kernel_rfl) | (rw [if_neg (by decide +kernel)]; exact ⟨rfl, rfl⟩))
    (fun os started H enc _ => fnExactBesideSystems_lifted os started H enc)

/-- The statement. -/
theorem fnExactBesideSystems_holds : Rows.FnExactBesideSystemsSaid := fnExactBesideSystems_over

end Go.Proofs.Ytifhmkkgmchcmaa
