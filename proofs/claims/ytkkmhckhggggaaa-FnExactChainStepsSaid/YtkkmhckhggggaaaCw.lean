
/- FnExactChainSteps returns true for every input and changes nothing that was there. No condition. -/
import Derived.Test.YtkkmhckhggggaaaCu
import Derived.Test.YtkkmhckhggggaaaLw
namespace Go.Proofs.Ytkkmhckhggggaaa
open Go Go.RowKit Go.ChangeShapes Go.WideShapes Go.ChangeAt

attribute [local go_sem] run_store_float
attribute [local irreducible] LX

set_option maxHeartbeats 1000000 in
theorem toChain_own (p : Int) (a : Option Addr) (cap n : Nat) (bs : List Nat) (w : World) (hr : RdF w (.slice a n cap) bs) (hn : n ≤ 1048576) :
    Calls Try.prog 62 #[.agg #[.int .i64 p, .slice a n cap]] w fun e w' => ∃ g, e = .returned (.agg #[.int .i64 p, .slice (some ⟨g, 0, none⟩) n n]) ∧ Ext w w' ∧
      w'.ownsRow w.heap.size 36 1 (.slice (some ⟨g, 0, none⟩) n n) n (bs.map (Value.float .f32)) := by
  have hnz : n = bs.length := by obtain ⟨⟨_, _, _, h2, _⟩, _⟩ := hr; cases h2; rfl
  subst hnz
  go_enter Try.func62, Try.ntmps62
  go_wp2_with fail
  refine (toFloat32S_any _ bs.length (bs.map (Value.float .f32)) _ (((hr.1.alloc _).alloc _).alloc _) (by intro x hx; obtain ⟨z, _, rfl⟩ := List.mem_map.1 hx; exact ⟨z, rfl⟩) hn).mono ?_
  rintro e w1 ⟨g, rfl, hb, hown⟩
  obtain ⟨hc, hf⟩ := bcell hb
  have hz := hb.size
  simp at hz
  have hg := (hown.lt g rfl).1
  simp at hg
  go_wp2
  refine bodyPost_ret (v := .agg #[.int .i64 p, .slice (some ⟨g, 0, none⟩) bs.length bs.length]) (by simp [results, Try.results62, go_sem, hc]) rfl ⟨g, rfl, ?_, ?_⟩
  · have h1 := (((below_alloc w _).trans ((below_alloc _ _).mono (by simp))).trans ((below_alloc _ _).mono (by simp; omega))).trans (hb.mono (by simp; omega))
    exact ((h1.setCell (by simp; omega) _).setCell (by simp) _).setCell (by simp) _
  · exact World.ownsRow.mono (ownsRow_setCell_below (ownsRow_setCell_below (ownsRow_setCell_below hown (by simp) _) (by simp) _) (by simp) _) (by simp; omega)

theorem markChain_g (p k0 : Int) (g n cap B : Nat) (bs : List Nat) (w : World) (own : w.ownsRow B 36 1 (.slice (some ⟨g, 0, none⟩) n cap) n (bs.map (Value.float .f32))) (h0 : 0 ≤ k0) (h1 : k0 ≤ 1048576) (hn : n ≤ 1048576) :
    Calls Try.prog 65 #[.agg #[.int .i64 p, .slice (some ⟨g, 0, none⟩) n cap], .int .i64 k0] w fun e w' => e = .returned (.int .i64 (k0 + n)) ∧ w.grownBy w' (some g) := by
  go_enter Try.func65, Try.ntmps65
  go_wp2_with fail
  refine (markF_g k0 g n cap B bs _ (own_ext own (Ext.alloc _ _)) h0 h1 hn).mono ?_
  rintro e w1 ⟨rfl, hg, -⟩
  go_wp2_with fail
  go_ret
  exact ⟨rfl, (World.grownBy_alloc _ _ _).trans hg⟩

set_option maxHeartbeats 1000000 in
theorem markF_h (k0 : Int) (g n cap B : Nat) (bs : List Nat) (w : World) (own : w.ownsRow B 36 1 (.slice (some ⟨g, 0, none⟩) n cap) n (bs.map (Value.float .f32))) (h0 : 0 ≤ k0) (h1 : k0 ≤ 16777216) (hn : n ≤ 1048576) :
    Calls Try.prog 27 #[.slice (some ⟨g, 0, none⟩) n cap, .int .i64 k0] w fun e w' => e = .returned (.int .i64 (k0 + n)) ∧ w.grownBy w' (some g) ∧
      w'.ownsRow B 36 1 (.slice (some ⟨g, 0, none⟩) n cap) n ((marksF k0 n).map (Value.float .f32)) := by
  have hl : bs.length = n := by simpa using own.1
  go_enter Try.func27, Try.ntmps27
  go_wp2_with fail
  go_loopw [1, 5] (fun q i wr => ∃ j : Nat, j ≤ n ∧ i = .int .i64 j ∧ q = .int .i64 (k0 + j) ∧
    wr.ownsRow B 36 1 (.slice (some ⟨g, 0, none⟩) n cap) n ((marksF k0 j ++ bs.drop j).map (Value.float .f32)) ∧ w.grownBy wr (some g)) (fun _ i _ => n - (intOf i).toNat)
  case atStart => exact ⟨0, Nat.zero_le _, rfl, by simp, by simpa [marksF] using own, grownBy_refl _ _⟩
  case round =>
    obtain ⟨j, hj, rfl, rfl, own1, X⟩ := hrel
    clear own
    by_cases hlt : j < n
    · have hc0 := own1.cellAt j (by omega)
      have hf0 := own1.frozenAt j
      have hj1 : j < bs.length := by omega
      have hst := own1.stored j (.float .f32 (floatOfInt .f32 (k0 + (j : Int))))
      have Hst := Lib.hid hst
      clear hst
      rw [List.getElem?_map, List.getElem?_append_right (by rw [marksF_len]; omega), marksF_len, Nat.sub_self, List.getElem?_drop, Nat.add_zero, List.getElem?_eq_getElem hj1] at hc0
      simp only [Option.map_some] at hc0
      go_wp2_with fail
      go_roundw
      case rel =>
        have e : ((marksF k0 j ++ bs.drop j).map (Value.float .f32)).set j (.float .f32 (floatOfInt .f32 (k0 + (j : Int)))) = (marksF k0 (j + 1) ++ bs.drop (j + 1)).map (Value.float .f32) := by
          rw [← List.map_set]
          congr 1
          rw [List.set_append_right _ _ (by rw [marksF_len]; omega), marksF_len, Nat.sub_self, List.drop_eq_getElem_cons hj1, List.set_cons_zero, marksF_succ]
          simp
        refine ⟨j + 1, by omega, by go_num, by go_num, e ▸ Hst.out.1, X.trans (grownBy_setCell _ _ _ _)⟩
      case measure => simp [intOf]; omega
    · have hjn : j = n := by omega
      subst hjn
      rw [List.drop_of_length_le (by omega), List.append_nil] at own1
      go_wp2_with fail
      go_ret
      exact ⟨rfl, X, own1⟩

theorem chO_len (n : Int) (bs ss : List Nat) (h : Nat) (t : Int) : ((chO n bs ss h t).getD []).length ≤ 1048576 := by
  unfold chO
  split
  · rename_i hok
    obtain ⟨m, k, rfl, rfl, h1, h2, h3, h4, h5, h6, -⟩ := chOk_parts hok
    unfold finL
    split
    · show (chIter _ _ _ _ _).length ≤ _
      rw [chIter_len (by rw [List.length_map]; exact h4)]
      show m ≤ _
      omega
    · simp
  · simp

set_option maxRecDepth 100000 in
set_option maxHeartbeats 8000000 in
theorem chainSteps_law (p : Int) (v1 v2 : Value) (bs ss : List Nat) (h : Nat) (st : Int) (o : Option (List Nat)) (w : World) (r1 : RdF w v1 bs) (r2 : RdF w v2 ss)
    (hs : bs.length ≤ 1048576 → ss.length ≤ 1048576 → ∀ w v1 v2, RdF w v1 bs → RdF w v2 ss → Calls Try.prog 61 #[.agg #[.int .i64 p, v1], v2, .float .f32 h, .int .i64 st] w (FlPost o w))
    (hi : bs.length ≤ 1048576 → ss.length ≤ 1048576 → ∀ w v1 v2, RdF w v1 bs → RdF w v2 ss → Calls Try.prog 63 #[.agg #[.int .i64 p, v1], v2, .float .f32 h, .int .i64 st] w (FlPost o w)) (hlen : (o.getD []).length ≤ 1048576) :
    Calls Try.prog 15 #[.agg #[.int .i64 p, v1], v2, .float .f32 h, .int .i64 st] w fun e w' => e = .returned (.bool true) ∧ Ext w w' := by
  have r1' := r1
  have r2' := r2
  obtain ⟨⟨-, a1, c1, rfl, p1, p2, -, -⟩, -⟩ := r1
  obtain ⟨⟨-, a2, c2, rfl, q1, q2, -, -⟩, -⟩ := r2
  have hm1 : bs.length ≤ maxLen := by omega
  have hm2 : ss.length ≤ maxLen := by omega
  unfold maxLen at hm2
  have HS0 := Lib.hid hs
  have HI0 := Lib.hid hi
  clear p1 p2 q1 q2 hs hi
  by_cases hn2 : ¬ ss.length ≤ 1048576
  · go_enter Try.func15, Try.ntmps15
    go_wp2_with fail
    go_ret
    exact ⟨rfl, Ext.alloc _ _⟩
  replace hn2 : ss.length ≤ 1048576 := Decidable.not_not.1 hn2
  go_enter Try.func15, Try.ntmps15
  go_wp2_with fail
  generalize hW : World.alloc w _ = W
  have X : Ext w W := hW ▸ Ext.alloc _ _
  have b1 : Bx W w.heap.size [.int .i64 p, .slice a1 bs.length c1] := hW ▸ Bx.new w _ _
  clear hW
  obtain ⟨k0, k1⟩ := b1.two
  go_wp2_with fail
  refine (szChain_any _ _ _ _ _ _ hm1 (by omega) (by omega)).mono ?_
  rintro e w1 ⟨rfl, hx⟩
  clear k0 k1
  replace X := X.trans hx; replace b1 := b1.ext hx
  clear hx W
  by_cases hn1 : (1048576 : Int) - bs.length < 0
  · rw [if_pos hn1]
    go_wp2_with fail
    go_ret
    exact ⟨rfl, X⟩
  · rw [if_neg hn1]
    have hz1 : bs.length ≤ 1048576 := by omega
    have HS := Lib.hid (HS0.out hz1 hn2)
    have HI := Lib.hid (HI0.out hz1 hn2)
    clear HS0 HI0
    obtain ⟨k0, k1⟩ := b1.two
    go_wp2_with fail
    refine (toChain_any p a1 c1 _ bs _ (r1'.ext X) hz1).mono ?_
    rintro e w2 ⟨g2, rfl, hx, R2⟩
    clear k0 k1
    replace X := X.trans hx; replace b1 := b1.ext hx
    clear hx w1
    go_wp2_with fail
    refine (toFloat32S_rd _ ss _ (r2'.ext X) hn2).mono ?_
    rintro e w3 ⟨g3, rfl, hx, R3⟩
    replace X := X.trans hx; replace b1 := b1.ext hx; replace R2 := R2.ext hx
    clear hx w2
    go_wp2_with fail
    refine (HS.out _ _ _ R2 R3).mono ?_
    intro e w4 h4
    obtain ⟨vs, rfl, os, hx⟩ := postF_own h4
    clear h4 R2 R3
    generalize hZ : o.getD [] = zs at *
    replace X := X.trans hx; replace b1 := b1.ext hx
    clear hx
    obtain ⟨k0, k1⟩ := b1.two
    go_wp2_with fail
    refine (toChain_own p a1 c1 _ bs _ (r1'.ext X) hz1).mono ?_
    rintro e w5 ⟨g5, rfl, hx, own5⟩
    clear k0 k1
    have Y : Ext w4 w5 := hx
    have B1 := Lib.hid (fun W (x : Ext w4 W) => b1.ext x)
    clear b1
    clear hx
    have hg5 := own5.lt g5 rfl
    go_wp2_with fail
    have b3 : Bx (w5.alloc (.cells #[.int .i64 p, .slice (some ⟨g5, 0, none⟩) bs.length bs.length] 70)) w5.heap.size [.int .i64 p, .slice (some ⟨g5, 0, none⟩) bs.length bs.length] := Bx.new _ _ _
    generalize hW : World.alloc w5 _ = W at b3
    have hx : Ext w5 W := hW ▸ Ext.alloc _ _
    clear hW
    replace Y := Y.trans hx; replace own5 := own_ext own5 hx
    have hz5 : g5 < W.heap.size := Nat.lt_of_lt_of_le hg5.2 hx.size
    clear hx
    generalize w5.heap.size = B3 at *
    refine (toFloat32S_any _ ss.length (ss.map (Value.float .f32)) _ (r2'.ext (X.trans Y)).1 (by intro x hx; obtain ⟨z, _, rfl⟩ := List.mem_map.1 hx; exact ⟨z, rfl⟩) hn2).mono ?_
    rintro e w6 ⟨g6, rfl, hx, own6⟩
    have hg6 := own6.lt g6 rfl
    have h56 : g5 < g6 := Nat.lt_of_lt_of_le hz5 hg6.1
    replace own6 := World.ownsRow.mono own6 Y.size
    replace hx : Ext W w6 := hx
    have R6 : RdF w6 (.slice (some ⟨g6, 0, none⟩) ss.length ss.length) ss := ⟨own_rd own6, r2'.2⟩
    replace Y := Y.trans hx; replace own5 := own_ext own5 hx; replace b3 := b3.ext hx
    clear hx
    obtain ⟨k0, k1⟩ := b3.two
    go_wp2_with fail
    refine (HI.out _ _ _ (⟨own_rd own5, r1'.2⟩ : RdF w6 (.slice (some ⟨g5, 0, none⟩) bs.length bs.length) bs) R6).mono ?_
    intro e w7 h7
    obtain ⟨vi, rfl, oi, hx⟩ := postF_own h7
    rw [hZ] at oi
    clear h7 R6 k0 k1
    have hz6 : g6 < w6.heap.size := hg6.2
    have hz7 : w6.heap.size ≤ w7.heap.size := hx.size
    replace Y := Y.trans hx; replace own5 := own_ext own5 hx; replace own6 := own_ext own6 hx; replace b3 := b3.ext hx
    clear hx
    go_wp2_with fail
    refine (eqF_eq oi (os.ext Y)).mono ?_
    rintro e w8 ⟨rfl, hx⟩
    replace Y := Y.trans hx; replace own5 := own_ext own5 hx; replace own6 := own_ext own6 hx; replace b3 := b3.ext hx; replace oi := oi.ext hx; replace hz7 := Nat.le_trans hz7 hx.size
    clear hx
    go_wp2_with fail
    refine wp_region_rel 5 (fun i v => match i with | 2 => ChV p bs v | _ => v = .bool true)
      (fun i v w => match i with | 2 => ChW p bs v w | _ => True) (by kernel_rfl) (by kernel_rfl) (by kernel_rfl) ?_
    dsimp only [List.take, List.drop, List.length]
    refine LX_det (.agg #[.int .i64 p, .slice (some ⟨g5, 0, none⟩) bs.length bs.length]) rfl rfl (fun w' hx _ => ?_) ?_
    · obtain ⟨k1, k2⟩ := (b3.ext hx).two
      go_simp
    refine LX_det (.agg #[.int .i64 p, .slice a1 bs.length c1]) rfl rfl (fun w' hx _ => ?_) ?_
    · obtain ⟨k1, k2⟩ := (B1.out _ (Y.trans hx)).two
      go_simp
    refine LX_call rfl rfl (ChW.st p bs) (fun w' hx _ => ?_) ?_
    · go_simp
      refine UponC.enter ((toChain_any p a1 c1 _ bs _ (r1'.ext (X.trans (Y.trans hx))) hz1).mono ?_)
      rintro e w'' ⟨g, rfl, hx', hr⟩
      exact ⟨_, rfl, hx', ⟨g, rfl⟩, g, rfl, hr⟩
    rintro _ ⟨gg, rfl⟩
    refine LX_call rfl rfl (fun _ => St.top) (fun w' hx hg => ?_) ?_
    · have h1 := ChW.rd (show ChW p bs _ w' from (hg 62 (by decide)).2 rfl)
      clear hg
      go_simp
      refine UponC.enter ((eqChain_any p _ _ bs bs _ (⟨own_rd (own_ext own5 hx), r1'.2⟩) h1 rfl).mono ?_)
      rintro e w'' ⟨rfl, hx'⟩
      exact ⟨_, rfl, hx', rfl, trivial⟩
    rintro _ rfl
    refine LX_det (.bool false) rfl rfl (fun w' hx _ => ?_) ?_
    · go_simp
    refine LX_nil fun W hx hg => ?_
    replace Y := Y.trans hx; replace own5 := own_ext own5 hx; replace own6 := own_ext own6 hx; replace b3 := b3.ext hx; replace oi := oi.ext hx; replace hz7 := Nat.le_trans hz7 hx.size
    clear hx hg
    refine wpList_nil ?_
    simp only [Act.put, List.setIfInBounds_toArray, List.set_cons_succ, List.set_cons_zero]
    go_wp2_with fail
    refine (toFloat32S_rd _ ss _ (r2'.ext (X.trans Y)) hn2).mono ?_
    rintro e w9 ⟨g9, rfl, hx, R9⟩
    replace Y := Y.trans hx; replace own5 := own_ext own5 hx; replace own6 := own_ext own6 hx; replace b3 := b3.ext hx; replace oi := oi.ext hx; replace hz7 := Nat.le_trans hz7 hx.size
    clear hx
    go_wp2_with fail
    refine (eqFloat32S_any _ _ ss ss _ (⟨own_rd own6, r2'.2⟩) R9 rfl).mono ?_
    rintro e w10 ⟨rfl, hx⟩
    replace Y := Y.trans hx; replace own5 := own_ext own5 hx; replace own6 := own_ext own6 hx; replace b3 := b3.ext hx; replace oi := oi.ext hx; replace hz7 := Nat.le_trans hz7 hx.size
    clear hx R9
    obtain ⟨k0, k1⟩ := b3.two
    go_wp2_with fail
    refine (markChain_g p 1 g5 bs.length bs.length _ bs _ own5 (by decide) (by decide) hz1).mono ?_
    rintro e w11 ⟨rfl, G⟩
    clear k0 k1 b3 own5
    replace own6 := World.ownsRow.kept own6 G (.inr fun he => by simp [Value.ownBlock] at he; omega)
    replace oi := oi.grown G (Nat.lt_trans h56 hz6)
    replace Y := Below.trans Y (grown_ext G hg5.1 Y.size)
    replace hz7 := Nat.le_trans hz7 G.size
    clear G
    go_wp2_with fail
    refine (markF_h (1 + bs.length) g6 ss.length ss.length _ ss _ own6 (by omega) (by omega) hn2).mono ?_
    rintro e w12 ⟨rfl, G, -⟩
    clear own6
    replace oi := oi.grown G hz6
    replace Y := Below.trans Y (grown_ext G (Nat.le_trans hg5.1 (Nat.le_of_lt h56)) Y.size)
    replace hz7 := Nat.le_trans hz7 G.size
    clear G
    have hpos : ¬ (1 + (bs.length : Int) + ss.length) < 0 := by omega
    go_wp2_with fail
    refine (eqF_eq oi (os.ext Y)).mono ?_
    rintro e w13 ⟨rfl, hx⟩
    replace Y := Ext.trans Y hx; replace oi := oi.ext hx; replace hz7 := Nat.le_trans hz7 hx.size
    clear hx
    go_wp2_with fail
    refine (markF_own 1 _ _ _ _ oi hz7 (by decide) (by decide) hlen).mono ?_
    rintro e w14 ⟨rfl, G10, RM⟩
    replace Y := Below.trans Y (G10.mono (by omega))
    clear G10 oi
    go_wp2_with fail
    refine (heldF_any 1 _ zs.length _ RM (by decide) (by decide) hlen).mono ?_
    rintro e w15 ⟨rfl, rfl⟩
    obtain ⟨k0, k1⟩ := (B1.out _ Y).two
    go_wp2_with fail
    refine (toChain_any p a1 c1 _ bs _ (r1'.ext (X.trans Y)) hz1).mono ?_
    rintro e w16 ⟨g16, rfl, hx, R16⟩
    clear k0 k1
    replace Y := Ext.trans Y hx; replace RM := RM.ext hx
    clear hx
    go_wp2_with fail
    refine (toFloat32S_rd _ ss _ (r2'.ext (X.trans Y)) hn2).mono ?_
    rintro e w17 ⟨g17, rfl, hx, R17⟩
    replace Y := Ext.trans Y hx; replace RM := RM.ext hx; replace R16 := R16.ext hx
    clear hx
    go_wp2_with fail
    refine (HI.out _ _ _ R16 R17).mono ?_
    intro e w18 h18
    obtain ⟨vh, rfl, oh, hx⟩ := postF_own h18
    rw [hZ] at oh
    clear h18 R16 R17
    replace Y := Ext.trans Y hx; replace RM := RM.ext hx
    clear hx
    go_wp2_with fail
    refine (eqF_eq oh (os.ext Y)).mono ?_
    rintro e w19 ⟨rfl, hx⟩
    replace Y := Ext.trans Y hx; replace RM := RM.ext hx
    clear hx
    go_wp2_with fail
    refine (heldF_any 1 _ zs.length _ RM (by decide) (by decide) hlen).mono ?_
    rintro e w20 ⟨rfl, rfl⟩
    go_wp2_with fail
    go_ret
    exact ⟨rfl, X.trans Y⟩

theorem chainSteps_walk (v1 v2 v3 v4 : Value) (w : World) (h1 : ArgChain w v1) (h2 : ArgFloats w v2) (h3 : ArgF32 w v3) (h4 : ArgInt w v4) :
    Calls Try.prog 15 #[v1, v2, v3, v4] w fun e w' => e = .returned (.bool true) ∧ Ext w w' := by
  obtain ⟨p, a, l, c, bs, rfl, _, r1⟩ := h1
  obtain ⟨a2, l2, c2, ss, rfl, r2⟩ := h2
  obtain ⟨h, rfl, hh⟩ := h3
  obtain ⟨st, rfl, _⟩ := h4
  exact chainSteps_law p _ _ bs ss h st _ w r1 r2 (fun z1 z2 w v1 v2 r1 r2 => specChainSteps_any p v1 v2 bs ss h st w r1 r2 z1 z2)
    (fun z1 z2 w v1 v2 r1 r2 => implChainSteps_any p v1 v2 bs ss h st w r1 r2 z1 z2 hh) (chO_len _ _ _ _ _)

theorem fnExactChainSteps_own : ownKnob Try.prog.godebug = none := by kernel_rfl
theorem fnExactChainSteps_laid : laidOutB Try.prog = true := by kernel_rfl

set_option maxRecDepth 100000 in
theorem fnExactChainSteps_lifted (os : Os) (started : os.Started) (H : Type) (enc : TypeId × Value → H) :
    ReturnsInHanded {} Try.checked os 15 .any (Rows.fnExactChainStepsSpec.pre6 enc Try.prog Try.f15 Rows.fnExactChainStepsRow.domain false) (Rows.fnExactChainStepsSpec.post enc Try.prog Try.f15 false true false false) := by
  refine returnsInHanded_of_change (C := Try.checked) fnExactChainSteps_own started (by kernel_rfl) Try.func15
    (ChangeSpec.witness6 (enc := enc) (C := Try.checked) false ⟨#[], #[.agg #[.int .i64 0, .slice none 0 0], .slice none 0 0, .float .f32 0, .int .i64 0], []⟩ 8 (by kernel_rfl) (by kernel_rfl) (by kernel_rfl) (by kernel_rfl)) ?_
  intro W base args ds gs before hval0 hW hcnd _
  have hval : ∀ (j : Nat) t v, Try.f15.params[j]? = some t → args[j]? = some v → Value.okWide Try.prog W .any base t v := hval0
  have hW' := hW
  obtain ⟨p, q, hA0, hV, rfl, hfz, hnd⟩ := hW
  have hA : DataW.TrodAll enc Try.prog W 0 (fun _ => true) true Try.f15.params.toList args.toList ds p := hA0
  rw [Try.params15] at hA hval
  obtain ⟨v0, vs0, d0, ds0, p0, q0, hargs, rfl, rfl, h0, r0⟩ := trodAll_cons hA
  obtain ⟨v1, vs1, d1, ds1, p1, q1, rfl, rfl, rfl, h1, r1⟩ := trodAll_cons r0
  obtain ⟨v2, vs2, d2, ds2, p2, q2, rfl, rfl, rfl, h2, r2⟩ := trodAll_cons r1
  obtain ⟨v3, vs3, d3, ds3, p3, q3, rfl, rfl, rfl, h3, r3⟩ := trodAll_cons r2
  obtain ⟨rfl, rfl, rfl⟩ := trodAll_nil r3
  obtain rfl : args = #[v0, v1, v2, v3] := by cases args; simp_all
  obtain ⟨rfl, rfl⟩ := trodVars_none hV
  have lt0 : ∀ x ∈ p0, x.block < W.heap.size := by obtain ⟨m, hm⟩ := h0; exact DataW.trod_lt m _ _ _ hm
  have w0 := argChain Try.underlying67 (by kernel_rfl) (by kernel_rfl) Try.underlying2 Try.underlying31 Try.underlying36 (by kernel_rfl) (hval 0 67 v0 rfl rfl) h0
  have lt1 : ∀ x ∈ p1, x.block < W.heap.size := by obtain ⟨m, hm⟩ := h1; exact DataW.trod_lt m _ _ _ hm
  have w1 := argFloats Try.underlying31 Try.underlying36 (by kernel_rfl) (hval 1 31 v1 rfl rfl) h1
  have lt2 : ∀ x ∈ p2, x.block < W.heap.size := by obtain ⟨m, hm⟩ := h2; exact DataW.trod_lt m _ _ _ hm
  have w2 := argF32 Try.underlying36 (hval 2 36 v2 rfl rfl) h2
  have lt3 : ∀ x ∈ p3, x.block < W.heap.size := by obtain ⟨m, hm⟩ := h3; exact DataW.trod_lt m _ _ _ hm
  have w3 := argInt Try.underlying2 (hval 3 2 v3 rfl rfl) h3
  clear hA0 hval0
  refine (chainSteps_walk v0 v1 v2 v3 W w0 w1 w2 w3).mono fun e W' ⟨he, bel⟩ => ?_
  subst he
  exact ⟨_, rfl, _, _, _, [], _, [], hW', trodAll_mk1 (shut_bool Try.underlying4 _), (trodAll_cons_mk (Below.trod fnExactChainSteps_laid (by kernel_rfl) (of_decide_eq_true (by kernel_rfl)) h0 bel lt0) (trodAll_cons_mk (Below.trod fnExactChainSteps_laid (by kernel_rfl) (of_decide_eq_true (by kernel_rfl)) h1 bel lt1) (trodAll_cons_mk (Below.trod fnExactChainSteps_laid (by kernel_rfl) (of_decide_eq_true (by kernel_rfl)) h2 bel lt2) (trodAll_cons_mk (Below.trod fnExactChainSteps_laid (by kernel_rfl) (of_decide_eq_true (by kernel_rfl)) h3 bel lt3) trodAll_mk0)))), rfl, bel.below.frame _, fun h => by cases h⟩

theorem fnExactChainSteps_toL {s : String} {L : List Char} (h : s = String.ofList L) : s.toList = L := by rw [h]; exact String.toList_ofList
def fnExactChainSteps_enterF (P : Program) : { F : List Char → Bool // P.mayEnter = F P.initOrder.toList } :=
  ⟨_, by unfold Program.mayEnter; generalize P.initOrder.toList = l; exact rfl⟩
def fnExactChainSteps_liftsF (P : Program) : { F : List Char → Bool // P.liftsFinal = F P.initOrder.toList } :=
  ⟨_, by unfold Program.liftsFinal Program.headLifts; generalize P.initOrder.toList = l; exact rfl⟩
def fnExactChainSteps_makeF (P : Program) : { F : List Char → Option Make // P.make = F P.initOrder.toList } :=
  ⟨_, by unfold Program.make; generalize P.initOrder.toList = l; exact rfl⟩
set_option maxRecDepth 100000 in
theorem fnExactChainSteps_enter : Try.checked.prog.mayEnter = true :=
  ((fnExactChainSteps_enterF Try.checked.prog).2.trans (congrArg (fnExactChainSteps_enterF Try.checked.prog).1 (fnExactChainSteps_toL (rfl : Try.checked.prog.initOrder = String.ofList _)))).trans (by kernel_rfl)
set_option maxRecDepth 100000 in
theorem fnExactChainSteps_lifts : Try.checked.prog.liftsFinal = false :=
  ((fnExactChainSteps_liftsF Try.checked.prog).2.trans (congrArg (fnExactChainSteps_liftsF Try.checked.prog).1 (fnExactChainSteps_toL (rfl : Try.checked.prog.initOrder = String.ofList _)))).trans (by kernel_rfl)
set_option maxRecDepth 100000 in
theorem fnExactChainSteps_make : Try.checked.prog.make = some .cut :=
  ((fnExactChainSteps_makeF Try.checked.prog).2.trans (congrArg (fnExactChainSteps_makeF Try.checked.prog).1 (fnExactChainSteps_toL (rfl : Try.checked.prog.initOrder = String.ofList _)))).trans (by kernel_rfl)
set_option maxRecDepth 100000 in
theorem fnExactChainSteps_closed : joinedFacts Try.checked.prog 15 Try.f15 Rows.fnExactChainStepsSpec Rows.fnExactChainStepsRow = true := by
  unfold joinedFacts
  rw [fnExactChainSteps_enter, fnExactChainSteps_lifts, fnExactChainSteps_make]
  decide +kernel

theorem fnExactChainSteps_over : Rows.fnExactChainStepsRow.holds Try.pinned (OpenSpec.ofChange Rows.fnExactChainStepsSpec) :=
  OpenClaim.holds_of_wide 15 Try.f15 rfl rfl rfl rfl rfl rfl rfl ⟨rfl, rfl, rfl, rfl, rfl⟩ rfl rfl rfl rfl rfl (by kernel_rfl) Try.func15 fnExactChainSteps_closed
    (of_decide_eq_true (by kernel_rfl)) (by unfold Func.isWrapper; first | (rw [if_pos (by decide +kernel)]; kernel_rfl) | (rw [if_neg (by decide +kernel)]; exact ⟨rfl, rfl⟩))
    (fun os started H enc _ => fnExactChainSteps_lifted os started H enc)

/-- The statement. -/
theorem fnExactChainSteps_holds : Rows.FnExactChainStepsSaid := fnExactChainSteps_over

end Go.Proofs.Ytkkmhckhggggaaa
