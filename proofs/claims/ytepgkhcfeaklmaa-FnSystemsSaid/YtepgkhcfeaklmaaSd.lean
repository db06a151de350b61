
/- FnSystems returns true for every input and changes nothing that was there. No condition. -/
import Derived.Test.YtepgkhcfeaklmaaRows
import Derived.Test.YtepgkhcfeaklmaaSa
import Derived.Test.YtepgkhcfeaklmaaSc
import Derived.Test.YtepgkhcfeaklmaaYl
import Derived.Test.YtepgkhcfeaklmaaYf
import Derived.Test.YtepgkhcfeaklmaaYw
import Derived.Test.YtepgkhcfeaklmaaZq
import Derived.Test.YtepgkhcfeaklmaaRl
namespace Go.Proofs.Ytepgkhcfeaklmaa
open Go Go.RowKit Go.ChangeShapes Go.WideShapes Go.ChangeAt

attribute [local irreducible] LX pop cntL

theorem zl_some {zs : List Int} {w w' : World} {e : Ending} (h : ZlPost (some zs) w e w') : ∃ g cap, e = .returned (.tuple #[.slice (some ⟨g, 0, none⟩) zs.length cap, .bool true]) ∧ Ext w w' ∧ RdI w' (.slice (some ⟨g, 0, none⟩) zs.length cap) zs := by
  obtain ⟨hx, g, cap, rfl, own⟩ := h
  exact ⟨g, cap, rfl, hx, own_rd own⟩
theorem ys_some {p : Int} {zs : List Int} {w w' : World} {e : Ending} (h : YsPost (some (p, zs)) w e w') : ∃ g cap, e = .returned (.tuple #[.agg #[.int .i64 p, .slice (some ⟨g, 0, none⟩) zs.length cap], .bool true]) ∧ Ext w w' ∧ RdI w' (.slice (some ⟨g, 0, none⟩) zs.length cap) zs := by
  obtain ⟨hx, g, cap, rfl, own⟩ := h
  exact ⟨g, cap, rfl, hx, own_rd own⟩

set_option maxRecDepth 100000 in
set_option maxHeartbeats 16000000 in
theorem systems_walk (v1 v2 : Value) (w : World) (h1 : ArgBytes w v1) (h2 : ArgBytes w v2) :
    Calls Try.prog 4 #[v1, v2] w fun e w' => e = .returned (.bool true) ∧ Ext w w' := by
  obtain ⟨a1, l1, c1, xs, rfl, r1⟩ := h1
  obtain ⟨a2, l2, c2, ys, rfl, r2⟩ := h2
  have hl1 : l1 = xs.length := by obtain ⟨⟨_, _, _, e, _⟩, _⟩ := r1; cases e; rfl
  have hl2 : l2 = ys.length := by obtain ⟨⟨_, _, _, e, _⟩, _⟩ := r2; cases e; rfl
  subst hl1 hl2
  by_cases hlong : 1048576 < xs.length ∨ 1048576 < ys.length
  · have HL := Lib.hid (b10Long_any _ _ xs ys w r1 r2)
    rw [decide_eq_true hlong] at HL
    clear hlong
    go_enter Try.func4, Try.ntmps4
    go_wp2_with fail
    refine HL.out.mono ?_
    rintro e w1 ⟨rfl, rfl⟩
    go_wp2_with fail
    go_ret
    exact ⟨rfl, Ext.refl _⟩
  · have HL := Lib.hid (b10Long_any _ _ xs ys w r1 r2)
    rw [decide_eq_false hlong] at HL
    have hx20 : xs.length ≤ 1048576 := by omega
    clear hlong
    go_enter Try.func4, Try.ntmps4
    go_wp2_with fail
    refine HL.out.mono ?_
    rintro e w1 ⟨rfl, rfl⟩
    go_wp2_with fail
    refine (b10At_any _ ys 0 5 w r2 (by decide) (by decide) (by decide)).mono ?_
    rintro e w1 ⟨x, hx5, rfl, rfl⟩
    obtain ⟨P, hP⟩ : ∃ P, P = x + 1 := ⟨_, rfl⟩
    have hPw : IntKind.i64.wrap (1 + (x : Int)) = (P : Int) := by rw [show 1 + (x : Int) = (P : Int) by omega]; exact wrap_nat _ (by omega)
    have hP1 : 1 ≤ P := by omega
    have hP5 : P ≤ 5 := by omega
    clear hP hx5
    go_wp2_with fail
    refine (b10System_any P _ xs w r1 hx20 hP1 hP5).mono ?_
    rintro e w2 ⟨g, cap, ns, rfl, X, own, hsys⟩
    have bx : Bx (w2.alloc (.cells #[.int .i64 P, .slice (some ⟨g, 0, none⟩) ns.length cap] 33)) w2.heap.size [.int .i64 P, .slice (some ⟨g, 0, none⟩) ns.length cap] := Bx.new _ _ _
    obtain ⟨hs, -, -⟩ := SysN.of (sys_good' hsys)
    rw [Int.toNat_natCast, downs_ups] at hs
    obtain ⟨hasc, hanti⟩ := sysB_ups hsys
    rw [downs_ups] at hasc hanti
    have rz := own.rd.ext (Ext.alloc w2 (.cells #[.int .i64 P, .slice (some ⟨g, 0, none⟩) ns.length cap] 33))
    replace X := X.trans (Ext.alloc w2 (.cells #[.int .i64 P, .slice (some ⟨g, 0, none⟩) ns.length cap] 33))
    have e1 : cutsO (P : Int) (ups ns) = some (ups (cutsS P ns)) := by unfold cutsO; rw [hsys, Int.toNat_natCast, downs_ups]; rfl
    have e2 : wcO (P : Int) (ups ns) = some (cntL P ((List.range (2 ^ P)).filter (worksB ns))) := by unfold wcO; rw [hsys, Int.toNat_natCast, downs_ups]; rfl
    have e3 : swO (P : Int) (ups ns) = some (swL P ns) := by unfold swO; rw [hsys, Int.toNat_natCast, downs_ups]; rfl
    have e5 : ∀ n ∈ ns, n < 1048577 := fun n hn => by have := hs.small n hn; omega
    have e4 : sysOfO (P : Int) (ups ns) = some ((P : Int), ups ns) := by
      unfold sysOfO
      rw [sys_good' hsys, downs_ups]
      have : leastN ns = ns := by unfold leastN; rw [setsOf_self e5 hasc, minL_of_anti hanti]
      rw [this]
      unfold sysO
      rw [hsys]; rfl
    have C1 := Lib.hid (fun W v r => implCutsOf_any (P : Int) v (ups ns) W r)
    have C2 := Lib.hid (fun W v r => implWorkingCounts_any (P : Int) v (ups ns) W r)
    have C3 := Lib.hid (fun W v r => implSwingCounts_any (P : Int) v (ups ns) W r)
    have C4 := Lib.hid (fun W v r => implSystemOf_any (P : Int) v (ups ns) W r)
    have C5 := Lib.hid (fun W v r => implValidSystem_any (P : Int) v (ups ns) W r)
    rw [e1] at C1
    rw [e2] at C2
    rw [e3] at C3
    rw [e4] at C4
    rw [hsys] at C5
    have hul := ups_len ns
    have HSYS := Lib.hid hsys
    clear e1 e2 e3 e4 own r2 HL hsys
    obtain ⟨k0, k1⟩ := bx.two
    have hblk := bx.1
    go_wp2_with fail
    generalize hWW : w2.alloc (.cells #[.int .i64 P, .slice (some ⟨g, 0, none⟩) ns.length cap] 33) = W3 at *
    clear hWW
    try (go_wp2_with fail)
    refine (C1.out _ _ rz).mono ?_
    intro e w4 h4
    obtain ⟨gc, cc, rfl, hx, rc⟩ := zl_some h4
    rw [ups_len] at rc ⊢
    replace bx := bx.ext hx
    replace rz := rz.ext hx
    replace X := X.trans hx
    clear h4 hx k0 k1 C1
    obtain ⟨k0, k1⟩ := bx.two
    go_wp2_with fail
    refine (C2.out _ _ rz).mono ?_
    intro e w5 h4
    obtain ⟨gw, cw, rfl, hx, rw5⟩ := zl_some h4
    replace bx := bx.ext hx
    replace rz := rz.ext hx
    replace rc := rc.ext hx
    replace X := X.trans hx
    clear h4 hx k0 k1 C2
    obtain ⟨k0, k1⟩ := bx.two
    go_wp2_with fail
    refine (C3.out _ _ rz).mono ?_
    intro e w6 h4
    obtain ⟨gs, cs, rfl, hx, rs⟩ := zl_some h4
    replace bx := bx.ext hx
    replace rz := rz.ext hx
    replace rc := rc.ext hx
    replace rw5 := rw5.ext hx
    replace X := X.trans hx
    clear h4 hx k0 k1 C3
    obtain ⟨k0, k1⟩ := bx.two
    go_wp2_with fail
    refine (C4.out _ _ rz).mono ?_
    intro e w7 h4
    obtain ⟨ga, ca, rfl, hx, ra⟩ := ys_some h4
    replace bx := bx.ext hx
    replace rz := rz.ext hx
    replace rc := rc.ext hx
    replace rw5 := rw5.ext hx
    replace rs := rs.ext hx
    replace X := X.trans hx
    clear h4 hx k0 k1 C4
    rw [hul] at ra ⊢
    have ba : Bx (w7.alloc (.cells #[.int .i64 P, .slice (some ⟨ga, 0, none⟩) ns.length ca] 33)) w7.heap.size [.int .i64 P, .slice (some ⟨ga, 0, none⟩) ns.length ca] := Bx.new _ _ _
    have hxa : Ext w7 (w7.alloc (.cells #[.int .i64 P, .slice (some ⟨ga, 0, none⟩) ns.length ca] 33)) := Ext.alloc _ _
    obtain ⟨k0, k1⟩ := bx.two
    obtain ⟨m0, m1⟩ := (bx.ext hxa).two
    obtain ⟨m2, m3⟩ := ba.two
    have hblk7 := bx.1
    have hul2 : (cntL P ((List.range (2 ^ P)).filter (worksB ns))).length = P + 1 := cntL_len _ _
    have hul3 : (swL P ns).length = P := swL_len _ _
    have hcs1 : 1 ≤ (cutsS P ns).length := cuts_some hs
    rw [hul2] at rw5
    rw [hul3] at rs
    have hcs2 : ¬ ((cutsS P ns).length : Int) < 1 := by omega
    have hPw2 : IntKind.i64.wrap ((P : Int) + 1) = (P : Int) + 1 := IntWalk.i64_in _ (by omega)
    go_wp2_with fail
    generalize hWW : w7.alloc (.cells #[.int .i64 P, .slice (some ⟨ga, 0, none⟩) ns.length ca] 33) = W8 at *
    clear hWW
    replace bx := bx.ext hxa
    replace rz := rz.ext hxa
    replace rc := rc.ext hxa
    replace rw5 := rw5.ext hxa
    replace rs := rs.ext hxa
    replace ra := ra.ext hxa
    replace X := X.trans hxa
    clear hxa k0 k1 m0 m1 m2 m3
    refine (C5.out _ _ rz).mono ?_
    rintro e w9 ⟨rfl, hx⟩
    replace bx := bx.ext hx
    replace ba := ba.ext hx
    replace rz := rz.ext hx
    replace rc := rc.ext hx
    replace rw5 := rw5.ext hx
    replace rs := rs.ext hx
    replace ra := ra.ext hx
    replace X := X.trans hx
    clear hx C5
    obtain ⟨m0, m1⟩ := bx.two
    obtain ⟨m2, m3⟩ := ba.two
    have hbx := bx.1
    have hba := ba.1
    go_wp2_with fail
    refine (implSameSystem_any (P : Int) P _ _ (ups ns) (ups ns) w9 ra rz).mono ?_
    rintro e w10 ⟨rfl, hx⟩
    have hse : sysEqB (P : Int) P (ups ns) (ups ns) = true := by simp [sysEqB]
    rw [hse]
    replace hx : Ext w9 w10 := hx
    replace bx := bx.ext hx
    replace ba := ba.ext hx
    replace rz := rz.ext hx
    replace rc := rc.ext hx
    replace rw5 := rw5.ext hx
    replace rs := rs.ext hx
    replace ra := ra.ext hx
    replace X := X.trans hx
    clear hx m0 m1 m2 m3 hbx hba hse
    obtain ⟨m0, m1⟩ := bx.two
    obtain ⟨m2, m3⟩ := ba.two
    have hbx := bx.1
    have hba := ba.1
    go_wp2_with fail
    refine (b10Ints_any _ _ (ups ns) (ups ns) w10 ra rz).mono ?_
    rintro e w11 ⟨rfl, hx⟩
    rw [decide_eq_true (rfl : ups ns = ups ns)]
    replace bx := bx.ext hx
    replace ba := ba.ext hx
    replace rz := rz.ext hx
    replace rc := rc.ext hx
    replace rw5 := rw5.ext hx
    replace rs := rs.ext hx
    replace ra := ra.ext hx
    replace X := X.trans hx
    clear hx m0 m1 m2 m3 hbx hba ba ra
    obtain ⟨m0, m1⟩ := bx.two
    go_wp2_with fail
    have HMEET := Lib.hid (fun i (hi : i < (cutsS P ns).length) k (hk : k < ns.length) => cut_meets (p := P) (by omega) hs.lt (List.getElem_mem hi) (List.getElem_mem hk))
    have HCL := Lib.hid (fun i (hi : i < (cutsS P ns).length) => (cutsS_lt (List.getElem_mem hi)).2)
    have HNL := Lib.hid (fun k (hk : k < ns.length) => hs.lt _ (List.getElem_mem hk))
    obtain ⟨q1, q2, q3, q4⟩ := pow10N hs.p10
    have hl64 := hs.l64
    have hbx := bx.1
    have HSN := Lib.hid hs
    have hcl1024 : (cutsS P ns).length ≤ 1024 := by
      unfold cutsS
      refine Nat.le_trans (List.length_filter_le _ _) ?_
      rw [List.length_range]; exact q4
    clear hs
    generalize hcN : cutsS P ns = cN at *
    clear hcs1 hcs2
    go_loopw [118] (fun i wr => ∃ j : Nat, j ≤ cN.length ∧ i = .int .i64 j ∧ Ext w11 wr) (fun i _ => cN.length - (intOf i).toNat)
    case atStart => exact ⟨0, Nat.zero_le _, rfl, Ext.refl _⟩
    case round =>
      obtain ⟨i, hi, rfl, Y⟩ := hrel
      by_cases hil : i < cN.length
      · have hii : (i : Int) < (cN.length : Int) := by omega
        obtain ⟨b1, o1, e1, hb1, hc1⟩ := RdN_at (rc.ext Y) hil
        cases e1
        obtain ⟨k0, k1⟩ := (bx.ext Y).two
        have hbl := (bx.ext Y).1
        have hcl := HCL.out i hil
        have HM := Lib.hid (fun k hk => HMEET.out i hil k hk)
        generalize cN[i] = c at *
        go_wp2_with fail
        clear k0 k1
        obtain ⟨wo, rfl⟩ : ∃ wo : World, wo = wr := ⟨_, rfl⟩
        go_loopw [124] (fun k wq => ∃ j : Nat, j ≤ ns.length ∧ k = .int .i64 j ∧ Ext wo wq) (fun k _ => ns.length - (intOf k).toNat)
        case atStart => exact ⟨0, Nat.zero_le _, rfl, Ext.refl _⟩
        case round =>
          obtain ⟨k, hk, rfl, Z⟩ := hrel
          by_cases hkl : k < ns.length
          · have hki : (k : Int) < (ns.length : Int) := by omega
            obtain ⟨b2, o2, e2, hb2, hc2⟩ := RdN_at (rz.ext (Y.trans Z)) hkl
            cases e2
            obtain ⟨k0, k1⟩ := (bx.ext (Y.trans Z)).two
            have hbl2 := (bx.ext (Y.trans Z)).1
            have hc1' := (Below.cell Z (p := ⟨gc, 0 + i, none⟩) hb1).trans hc1
            have hb1' : gc < wr.heap.size := Nat.lt_of_lt_of_le hb1 Z.size
            have hnl := HNL.out k hkl
            have hne := HM.out k hkl
            generalize ns[k] = n at *
            have hand := bits_and c n (by omega) (by omega)
            obtain ⟨u, hu⟩ : ∃ u, u = c &&& n := ⟨_, rfl⟩
            rw [← hu] at hand hne
            have hue : ((u : Int) == 0) = false := by simp; omega
            clear hu
            rw [Nat.zero_add] at hc1' hc2
            go_wp2_with fail
            refine wp_region_rel 11 (fun _ _ => True) (fun _ _ _ => True) (by kernel_rfl) (by kernel_rfl) (by kernel_rfl) ?_
            dsimp only [List.take, List.drop, List.length]
            refine LX_det (.slice (some ⟨gc, 0, none⟩) cN.length cc) (by kernel_rfl) rfl (fun w' hx _ => ?_) ?_
            · go_simp
            refine LX_det (.int .i64 i) (by kernel_rfl) rfl (fun w' hx _ => ?_) ?_
            · go_simp
            refine LX_det (.pointer (some ⟨gc, i, none⟩)) (by kernel_rfl) rfl (fun w' hx _ => ?_) ?_
            · go_simp
            refine LX_det (.int .i64 c) (by kernel_rfl) rfl (fun w' hx _ => ?_) ?_
            · have m0 := (Below.cell hx (p := ⟨gc, i, none⟩) hb1').trans hc1'
              go_simp
            refine LX_det (.pointer (some ⟨w2.heap.size, 1, none⟩)) (by kernel_rfl) rfl (fun w' hx _ => ?_) ?_
            · go_simp
            refine LX_det (.slice (some ⟨g, 0, none⟩) ns.length cap) (by kernel_rfl) rfl (fun w' hx _ => ?_) ?_
            · have m0 := (Below.cell hx (p := ⟨w2.heap.size, 1, none⟩) hbl2).trans k1
              go_simp
            refine LX_det (.int .i64 k) (by kernel_rfl) rfl (fun w' hx _ => ?_) ?_
            · go_simp
            refine LX_det (.pointer (some ⟨g, k, none⟩)) (by kernel_rfl) rfl (fun w' hx _ => ?_) ?_
            · go_simp
            refine LX_det (.int .i64 n) (by kernel_rfl) rfl (fun w' hx _ => ?_) ?_
            · have m0 := (Below.cell hx (p := ⟨g, k, none⟩) hb2).trans hc2
              go_simp
            refine LX_det (.int .i64 u) (by kernel_rfl) rfl (fun w' hx _ => ?_) ?_
            · go_simp
            refine LX_det (.bool false) (by kernel_rfl) rfl (fun w' hx _ => ?_) ?_
            · go_simp
            refine LX_nil fun w12 hx _ => ?_
            simp only [Act.put, List.setIfInBounds_toArray, List.set_cons_succ, List.set_cons_zero]
            go_wp2_with fail
            go_roundw
            case rel => exact ⟨k + 1, by omega, by go_num, Z.trans hx⟩
            case measure => simp [intOf]; omega
          · obtain rfl : k = ns.length := by omega
            have hkn : ¬ (ns.length : Int) < (ns.length : Int) := by omega
            go_wp2_with fail
            go_roundw
            case rel => exact ⟨i + 1, by omega, by go_num, Y.trans Z⟩
            case measure => simp [intOf]; omega
      · obtain rfl : i = cN.length := by omega
        have hin : ¬ (cN.length : Int) < (cN.length : Int) := by omega
        replace bx := bx.ext Y
        replace rz := rz.ext Y
        replace rc := rc.ext Y
        replace rw5 := rw5.ext Y
        replace rs := rs.ext Y
        replace X := X.trans Y
        clear HMEET
        obtain ⟨wB, rfl⟩ : ∃ wB : World, wB = wr := ⟨_, rfl⟩
        clear Y
        obtain ⟨i0, hi0, hz0, hz1, hz2⟩ := info_parts infoI64
        go_wp2_with (at_make; refine wpList_make_full _ rfl _ _ 22 rfl wB.heap.size 2 i0 (.int .i64 0) 1 Try.underlying22 hi0 hz0 hz1 _ _ _ _ (P + 1) rfl rfl rfl rfl ?c1 ?c2 (Nat.le_refl _) ?_)
        case c1 => first | omega | (rw [hz2]; omega)
        case c2 => unfold maxLen; omega
        intro w13 hown hg
        have X13 : Ext wB w13 := (Ext.refl wB).grown hg (Nat.le_refl _) (fun _ h => by cases h)
        rw [toList_madeCells_one] at hown
        have told0 : w13.ownsRow wB.heap.size 2 1 (.slice (some ⟨wB.heap.size, 0, none⟩) (P + 1) (P + 1)) (P + 1) ((cntL P []).map (Value.int .i64)) := by
          rw [cntL_nil]; simpa using hown
        have hgt := (told0.lt _ rfl).2
        clear hown hg
        go_wp2_with (at_make; refine wpList_make_full _ rfl _ _ 22 rfl w13.heap.size 2 i0 (.int .i64 0) 1 Try.underlying22 hi0 hz0 hz1 _ _ _ _ P rfl rfl rfl rfl ?d1 ?d2 (Nat.le_refl _) ?_)
        case d1 => first | omega | (rw [hz2]; omega)
        case d2 => unfold maxLen; omega
        intro w14 hown hg
        have X14 : Ext w13 w14 := (Ext.refl w13).grown hg (Nat.le_refl _) (fun _ h => by cases h)
        rw [toList_madeCells_one] at hown
        have turn0 : w14.ownsRow w13.heap.size 2 1 (.slice (some ⟨w13.heap.size, 0, none⟩) P P) P ((trJ P ns 0 0).map (Value.int .i64)) := by
          rw [trJ_zero]; simpa using hown
        replace told0 := own_ext' told0 X14
        have hX : Ext wB w14 := X13.trans X14
        obtain ⟨gt, hgte⟩ : ∃ gt, gt = wB.heap.size := ⟨_, rfl⟩
        obtain ⟨gu, hgue⟩ : ∃ gu, gu = w13.heap.size := ⟨_, rfl⟩
        rw [← hgte] at told0 hgt ⊢
        rw [← hgue] at turn0 ⊢
        have hlt : gt < gu := by omega
        have hgB : wB.heap.size ≤ gt := by omega
        clear hown hg hi0 hz0 hz1 hz2 X13 X14 hgue hgte
        go_wp2_with fail
        obtain ⟨N, hN⟩ : ∃ N, N = 2 ^ P := ⟨_, rfl⟩
        rw [← hN] at q3 q4
        have HN := Lib.hid hN
        clear hN
        have hP63 : (P : Int) < 64 := by omega
        have HWW : Hid (∀ s : Nat, s < N → wwRes (P : Int) (ups ns) s = worksB ns s ∧ wwOk (P : Int) (ups ns) s = true) := fun s hs => by
          have h1 : wwOk (P : Int) (ups ns) s = true := by
            unfold wwOk
            rw [HSYS.out, Bool.true_and, inB_iff, Int.toNat_natCast, q3]
            omega
          refine ⟨?_, h1⟩
          unfold wwRes
          rw [h1, Bool.true_and, downs_ups, Int.toNat_natCast]
        have HST := Lib.hid (fun k => range_filter_succ (worksB ns) k)
        have HPL := Lib.hid (fun s (h : s < N) => pop_lt (p := P) (s := s) (by omega) (by rw [← HN.out]; exact h))
        have HPS := Lib.hid (fun s (h : s < N) => pop_sz (p := P) (s := s) (by omega) (by rw [← HN.out]; exact h))
        have HP10 := Lib.hid (fun j (hj : j ≤ 10) => pow10N (p := j) hj)
        have hN32 : N ≤ 32 := by
          have : 2 ^ P ≤ 2 ^ 5 := Nat.pow_le_pow_right (by decide) hP5
          have := HN.out
          omega
        go_loopw [19] (fun t wr => ∃ k : Nat, k ≤ N ∧ t = .int .i64 k ∧ Ext wB wr ∧
          wr.ownsRow gt 2 1 (.slice (some ⟨gt, 0, none⟩) (P + 1) (P + 1)) (P + 1) ((cntL P ((List.range k).filter (worksB ns))).map (Value.int .i64)) ∧
          wr.ownsRow gu 2 1 (.slice (some ⟨gu, 0, none⟩) P P) P ((trJ P ns k 0).map (Value.int .i64))) (fun t _ => N - (intOf t).toNat)
        case atStart => exact ⟨0, Nat.zero_le _, rfl, hX, told0, turn0⟩
        case round =>
          clear told0 turn0 hX
          obtain ⟨k, hk, rfl, Z, told, turn⟩ := hrel
          by_cases hkN : k < N
          · have hki : (k : Int) < (N : Int) := by omega
            obtain ⟨k0, k1⟩ := (bx.ext Z).two
            have hbl := (bx.ext Z).1
            obtain ⟨h9, h10⟩ := HWW.out k hkN
            go_wp2_with fail
            refine (implWorksWith_any (P : Int) k _ (ups ns) wr (rz.ext Z)).mono ?_
            rintro e w15 ⟨rfl, hx⟩
            rw [h9, h10]
            have HB : Hid (worksB ns k = ns.any fun q => hasB k q) := rfl
            replace Z := Z.trans hx
            replace told := own_ext' told hx
            replace turn := own_ext' turn hx
            clear hx k0 k1 h9 h10 hbl
            obtain ⟨b, hb⟩ : ∃ b, b = worksB ns k := ⟨_, rfl⟩
            rw [← hb] at HB ⊢
            obtain ⟨k0, k1⟩ := (bx.ext Z).two
            have hbl := (bx.ext Z).1
            have HBW := Lib.hid hb
            clear hb
            go_wp2_with fail
            clear k0 k1
            go_loopw [160, 22] (fun j t wq => ∃ i : Nat, i ≤ ns.length ∧ j = .int .i64 i ∧ t = .bool ((ns.take i).any fun q => hasB k q) ∧ Ext w15 wq) (fun j _ _ => ns.length - (intOf j).toNat)
            case atStart => exact ⟨0, Nat.zero_le _, rfl, by simp, Ext.refl _⟩
            case round =>
              obtain ⟨i, hi, rfl, rfl, V⟩ := hrel
              by_cases hil : i < ns.length
              · have hii : (i : Int) < (ns.length : Int) := by omega
                obtain ⟨b2, o2, e2, hb2, hc2⟩ := RdN_at (rz.ext (Z.trans V)) hil
                cases e2
                obtain ⟨k0, k1⟩ := (bx.ext (Z.trans V)).two
                have hbl2 := (bx.ext (Z.trans V)).1
                have hnl := HNL.out i hil
                rw [← HN.out] at hnl
                have HTK : Hid ((ns.take (i + 1)).any (fun q => hasB k q) = ((ns.take i).any (fun q => hasB k q) || hasB k ns[i])) := by
                  show _ = _
                  rw [List.take_succ_eq_append_getElem hil, List.any_append]; simp
                generalize hal : (ns.take i).any (fun q => hasB k q) = al at *
                clear hal
                generalize ns[i] = n at *
                have hand := bits_and n k (by omega) (by omega)
                have hdef : Hid (hasB k n = (((n &&& k : Nat) : Int) == (n : Int))) := by
                  show _ = _
                  unfold hasB
                  rw [Bool.eq_iff_iff, beq_iff_eq, beq_iff_eq]; omega
                obtain ⟨u, hu⟩ : ∃ u, u = n &&& k := ⟨_, rfl⟩
                rw [← hu] at hand hdef
                obtain ⟨f, hf⟩ : ∃ f, f = ((u : Int) == (n : Int)) := ⟨_, rfl⟩
                rw [← hf] at hdef
                have hf2 := hf.symm
                clear hu hf
                rw [Nat.zero_add] at hc2
                go_wp2_with fail
                refine wp_region_rel 16 (fun _ _ => True) (fun _ _ _ => True) (by kernel_rfl) (by kernel_rfl) (by kernel_rfl) ?_
                dsimp only [List.take, List.drop, List.length]
                cases al
                · skip
                  refine LX_det (.bool false) (by kernel_rfl) rfl (fun w' hx _ => ?_) ?_
                  · go_simp
                  refine LX_det (.bool false) (by kernel_rfl) rfl (fun w' hx _ => ?_) ?_
                  · go_simp
                  refine LX_det (.pointer (some ⟨w2.heap.size, 1, none⟩)) (by kernel_rfl) rfl (fun w' hx _ => ?_) ?_
                  · go_simp
                  refine LX_det (.slice (some ⟨g, 0, none⟩) ns.length cap) (by kernel_rfl) rfl (fun w' hx _ => ?_) ?_
                  · have m0 := (Below.cell hx (p := ⟨w2.heap.size, 1, none⟩) hbl2).trans k1
                    go_simp
                  refine LX_det (.int .i64 i) (by kernel_rfl) rfl (fun w' hx _ => ?_) ?_
                  · go_simp
                  refine LX_det (.pointer (some ⟨g, i, none⟩)) (by kernel_rfl) rfl (fun w' hx _ => ?_) ?_
                  · go_simp
                  refine LX_det (.int .i64 n) (by kernel_rfl) rfl (fun w' hx _ => ?_) ?_
                  · have m0 := (Below.cell hx (p := ⟨g, i, none⟩) hb2).trans hc2
                    go_simp
                  refine LX_det (.int .i64 k) (by kernel_rfl) rfl (fun w' hx _ => ?_) ?_
                  · go_simp
                  refine LX_det (.int .i64 u) (by kernel_rfl) rfl (fun w' hx _ => ?_) ?_
                  · go_simp
                  refine LX_det (.pointer (some ⟨w2.heap.size, 1, none⟩)) (by kernel_rfl) rfl (fun w' hx _ => ?_) ?_
                  · go_simp
                  refine LX_det (.slice (some ⟨g, 0, none⟩) ns.length cap) (by kernel_rfl) rfl (fun w' hx _ => ?_) ?_
                  · have m0 := (Below.cell hx (p := ⟨w2.heap.size, 1, none⟩) hbl2).trans k1
                    go_simp
                  refine LX_det (.int .i64 i) (by kernel_rfl) rfl (fun w' hx _ => ?_) ?_
                  · go_simp
                  refine LX_det (.pointer (some ⟨g, i, none⟩)) (by kernel_rfl) rfl (fun w' hx _ => ?_) ?_
                  · go_simp
                  refine LX_det (.int .i64 n) (by kernel_rfl) rfl (fun w' hx _ => ?_) ?_
                  · have m0 := (Below.cell hx (p := ⟨g, i, none⟩) hb2).trans hc2
                    go_simp
                  refine LX_det (.bool f) (by kernel_rfl) rfl (fun w' hx _ => ?_) ?_
                  · go_simp
                  refine LX_det (.bool f) (by kernel_rfl) rfl (fun w' hx _ => ?_) ?_
                  · go_simp
                  refine LX_nil fun w16 hx _ => ?_
                  simp only [Act.put, List.setIfInBounds_toArray, List.set_cons_succ, List.set_cons_zero]
                  go_wp2_with fail
                  go_roundw
                  case rel => exact ⟨i + 1, by omega, by go_num, by rw [HTK.out, hdef.out]; rfl, V.trans hx⟩
                  case measure => simp [intOf]; omega
                · skip
                  refine LX_det (.bool true) (by kernel_rfl) rfl (fun w' hx _ => ?_) ?_
                  · go_simp
                  refine LX_det (.bool true) (by kernel_rfl) rfl (fun w' hx _ => ?_) ?_
                  · go_simp
                  iterate 13 refine LX_skip (by kernel_rfl) ?_
                  refine LX_det (.bool true) (by kernel_rfl) rfl (fun w' hx _ => ?_) ?_
                  · go_simp
                  refine LX_nil fun w16 hx _ => ?_
                  simp only [Act.put, List.setIfInBounds_toArray, List.set_cons_succ, List.set_cons_zero]
                  go_wp2_with fail
                  go_roundw
                  case rel => exact ⟨i + 1, by omega, by go_num, by rw [HTK.out]; rfl, V.trans hx⟩
                  case measure => simp [intOf]; omega
              · obtain rfl : i = ns.length := by omega
                have hin : ¬ (ns.length : Int) < (ns.length : Int) := by omega
                rw [List.take_length, ← HB.out]
                replace Z := Z.trans V
                replace told := own_ext' told V
                replace turn := own_ext' turn V
                have hbb : (b != b) = false := by cases b <;> rfl
                clear V
                go_wp2_with fail
                obtain ⟨wo, rfl⟩ : ∃ wo : World, wo = wr := ⟨_, rfl⟩
                go_loopw [25, 24] (fun t z wq => ∃ j : Nat, j ≤ P ∧ t = .int .i64 j ∧ z = .int .i64 (szJ k j) ∧ Ext wB wq ∧
                  wq.ownsRow gt 2 1 (.slice (some ⟨gt, 0, none⟩) (P + 1) (P + 1)) (P + 1) ((cntL P ((List.range k).filter (worksB ns))).map (Value.int .i64)) ∧
                  wq.ownsRow gu 2 1 (.slice (some ⟨gu, 0, none⟩) P P) P ((trJ P ns k j).map (Value.int .i64))) (fun t _ _ => P - (intOf t).toNat)
                case atStart => exact ⟨0, Nat.zero_le _, rfl, rfl, Z, told, turn⟩
                case round =>
                  clear told turn Z
                  obtain ⟨j, hj, rfl, rfl, Z, told, turn⟩ := hrel
                  by_cases hjP : j < P
                  · have hji : (j : Int) < (P : Int) := by omega
                    have hj63 : (j : Int) < 64 := by omega
                    have hju := wrapU_nat j (by omega)
                    have hba := road_bit k j (by omega)
                    have hsz := szJ_le k j
                    have HSZ := Lib.hid (szJ_succ k j)
                    have hsd : 0 ≤ (k : Int) / 2 ^ j := Int.ediv_nonneg (by omega) (by exact_mod_cast Nat.zero_le _)
                    cases hbt : k.testBit j
                    · rw [hbt] at hba HSZ
                      have HTR := Lib.hid (trJ_no (p := P) (ns := ns) (k := k) (j := j) (by unfold tB; rw [hbt]; rfl))
                      simp only [Bool.false_eq_true, if_false] at hba
                      clear hbt
                      go_wp2_with fail
                      go_roundw
                      case rel => exact ⟨j + 1, by omega, by go_num, by rw [HSZ.out]; simp, Z, told, by rw [HTR.out]; exact turn⟩
                      case measure => simp [intOf]; omega
                    · have hble : 2 ^ j ≤ k := Nat.ge_two_pow_of_testBit hbt
                      obtain ⟨b1, b2', b3, b4⟩ := HP10.out j (by omega)
                      obtain ⟨c, hc⟩ : ∃ c, c = k - 2 ^ j := ⟨_, rfl⟩
                      have hsub : (k : Int) - 2 ^ j = (c : Int) := by rw [b3]; omega
                      have hsubw : IntKind.i64.wrap ((k : Int) - 2 ^ j) = (c : Int) := by rw [hsub]; exact wrap_nat _ (by omega)
                      have hpw2 : IntKind.i64.wrap ((2 : Int) ^ j) = (2 : Int) ^ j := IntWalk.i64_in _ (by omega)
                      obtain ⟨h9, h10⟩ := HWW.out c (by omega)
                      obtain ⟨d, hd⟩ : ∃ d, d = worksB ns c := ⟨_, rfl⟩
                      rw [← hd] at h9
                      have HTB : Hid (tB ns j k = (b && !d)) := by show _ = _; unfold tB; rw [hbt, Bool.true_and, ← hc, ← hd, ← HBW.out]
                      have hmono : d = true → b = true := fun e => by
                        rw [HBW.out]
                        exact worksB_mono (hasB_bits.2 fun i hi => by
                          rw [hc, testBit_drop (by omega) hbt, Bool.and_eq_true] at hi
                          exact hi.1) (hd.symm.trans e)
                      have HSW : ∀ W, Ext wr W → Calls Try.prog 27 #[.agg #[.int .i64 P, .slice (some ⟨g, 0, none⟩) ns.length cap], .int .i64 c] W fun e w' => e = .returned (.tuple #[.bool d, .bool true]) ∧ Ext W w' := fun W x => by
                        have h := specWorksWith_any (P : Int) c _ (ups ns) W (rz.ext (Z.trans x))
                        rw [h9, h10] at h
                        exact h
                      have HSW2 := Lib.hid HSW
                      have HBXZ := Lib.hid (fun W (x : Ext wr W) => (bx.ext (Z.trans x)).two)
                      rw [hbt] at hba HSZ
                      simp only [if_true] at hba HSZ
                      have hszw : IntKind.i64.wrap ((szJ k j : Int) + 1) = (szJ k j : Int) + 1 := IntWalk.i64_in _ (by omega)
                      have htC := tC_small ns j k
                      have hcc := turn.cellAt j (by omega)
                      have hff := turn.frozenAt j
                      rw [List.getElem?_map, List.getElem?_eq_getElem (by rw [trJ_len]; exact hjP), trJ_at _ _ _ _ hjP] at hcc
                      simp only [Option.map_some] at hcc
                      have hgu := (turn.lt gu rfl).2
                      have hTw : IntKind.i64.wrap (tC ns j k + 1) = tC ns j k + 1 := IntWalk.i64_in _ (by omega)
                      clear hbt hc hsub h9 h10 HSW hd hble b3 b1 b2' b4
                      go_wp2_with fail
                      refine wp_region_lateK 9 8 9 (fun _ v => v = .tuple #[.bool d, .bool true]) (fun _ _ _ => True) (by kernel_rfl) (by kernel_rfl) (by kernel_rfl) (by kernel_rfl) ?_
                      intro QQ
                      dsimp only [addEdge, List.modify, List.modifyTailIdx, List.modifyTailIdx.go, List.modifyHead, List.take, List.drop, List.length]
                      refine LX_det (.agg #[.int .i64 P, .slice (some ⟨g, 0, none⟩) ns.length cap]) (by kernel_rfl) rfl (fun w' hx _ => ?_) ?_
                      · obtain ⟨m0, m1⟩ := HBXZ.out _ hx
                        go_simp
                      refine LX_det (.int .i64 k) (by kernel_rfl) rfl (fun w' hx _ => ?_) ?_
                      · go_simp
                      refine LX_det (.int .i64 j) (by kernel_rfl) rfl (fun w' hx _ => ?_) ?_
                      · go_simp
                      refine LX_det (.int .i64 (2 ^ j)) (by kernel_rfl) rfl (fun w' hx _ => ?_) ?_
                      · go_simp
                      refine LX_det (.int .i64 c) (by kernel_rfl) rfl (fun w' hx _ => ?_) ?_
                      · go_simp
                      refine LX_call (by kernel_rfl) rfl (fun _ => St.top) (fun w' hx _ => ?_) ?_
                      · go_simp
                        refine UponC.enter ((HSW2.out _ hx).mono ?_)
                        rintro e w'' ⟨rfl, hx'⟩
                        exact ⟨_, rfl, hx', rfl, trivial⟩
                      rintro _ rfl
                      refine LX_det (.tuple #[.bool d, .bool true]) (by kernel_rfl) rfl (fun w' hx _ => ?_) ?_
                      · go_simp
                      refine LX_det (.bool d) (by kernel_rfl) rfl (fun w' hx _ => ?_) ?_
                      · go_simp
                      refine LX_det (.bool true) (by kernel_rfl) rfl (fun w' hx _ => ?_) ?_
                      · go_simp
                      refine LX_nil fun w16 hx _ => ?_
                      simp only [Act.put, List.setIfInBounds_toArray, List.set_cons_succ, List.set_cons_zero]
                      have hcc2 := (Below.cell hx (p := ⟨gu, j, none⟩) hgu).trans hcc
                      have hff2 := (Below.frozen hx (p := ⟨gu, j, none⟩) hgu).trans hff
                      have Z2 := Z.trans hx
                      have told2 := own_ext' told hx
                      have turn2 := own_ext' turn hx
                      have HST2 := Lib.hid (World.ownsRow.stored turn2 j (.int .i64 (tC ns j k + 1))).1
                      rw [← List.map_set] at HST2
                      have told3 := Lib.hid (fun u => ownsRow_setCell_other (a := ⟨gu, j, none⟩) told2 (by simp [Value.ownBlock]; omega) u)
                      clear hx hcc hff HSW2 HBXZ told turn Z
                      cases d
                      · cases b
                        · have HTR := Lib.hid (trJ_no (p := P) (ns := ns) (k := k) (j := j) HTB.out)
                          go_wp2_with fail
                          go_roundw
                          case rel => exact ⟨j + 1, by omega, by go_num, by rw [HSZ.out]; simp, Z2, told2, by rw [HTR.out]; exact turn2⟩
                          case measure => simp [intOf]; omega
                        · have HTR := Lib.hid (trJ_yes (p := P) (ns := ns) (k := k) (j := j) hjP HTB.out)
                          go_wp2_with fail
                          go_roundw
                          case rel => exact ⟨j + 1, by omega, by go_num, by rw [HSZ.out]; simp, Z2.setCell (show wB.heap.size ≤ gu by omega) _, told3.out _, by rw [HTR.out]; exact HST2.out⟩
                          case measure => simp [intOf]; omega
                      · have hbT := hmono rfl
                        subst hbT
                        have HTR := Lib.hid (trJ_no (p := P) (ns := ns) (k := k) (j := j) HTB.out)
                        go_wp2_with fail
                        go_roundw
                        case rel => exact ⟨j + 1, by omega, by go_num, by rw [HSZ.out]; simp, Z2, told2, by rw [HTR.out]; exact turn2⟩
                        case measure => simp [intOf]; omega
                  · obtain rfl : j = P := by omega
                    have hjn : ¬ (j : Int) < (j : Int) := by omega
                    have hst := HST.out k
                    rw [← HBW.out] at hst
                    rw [trJ_next] at turn
                    cases b
                    · have HE : Hid ((List.range (k + 1)).filter (worksB ns) = (List.range k).filter (worksB ns)) := by show _ = _; rw [hst]; simp
                      clear hst
                      go_wp2_with fail
                      go_roundw
                      case rel => exact ⟨k + 1, by omega, by go_num, Z, by rw [HE.out]; exact told, turn⟩
                      case measure => simp [intOf]; omega
                    · have HE : Hid ((List.range (k + 1)).filter (worksB ns) = (List.range k).filter (worksB ns) ++ [k]) := by show _ = _; rw [hst]; simp
                      have hpp := HPL.out k hkN
                      have hps := HPS.out k hkN
                      have HC := Lib.hid (cntL_snoc j ((List.range k).filter (worksB ns)) k hpp)
                      have hsm := cntL_small j ((List.range k).filter (worksB ns)) (pop k) hpp
                      have hlk : ((List.range k).filter (worksB ns)).length ≤ 1024 := Nat.le_trans (List.length_filter_le _ _) (by rw [List.length_range]; omega)
                      have hcc := told.cellAt (pop k) (by omega)
                      have hff := told.frozenAt (pop k)
                      rw [List.getElem?_map, List.getElem?_eq_getElem (by rw [cntL_len]; exact hpp)] at hcc
                      simp only [Option.map_some] at hcc
                      have hsto := Lib.hid (fun u => World.ownsRow.stored told (pop k) u)
                      have turn3 := Lib.hid (fun u => ownsRow_setCell_other (a := ⟨gt, pop k, none⟩) turn (by simp [Value.ownBlock]; omega) u)
                      generalize (cntL j ((List.range k).filter (worksB ns)))[pop k]'(by rw [cntL_len]; exact hpp) = y at *
                      rw [← hps]
                      obtain ⟨n, hn⟩ : ∃ n, n = pop k := ⟨_, rfl⟩
                      rw [← hn] at hcc hff hsto hpp HC turn3 ⊢
                      clear hn hst hps
                      have hn1 : (n : Int) < (j : Int) + 1 := by omega
                      have hyw : IntKind.i64.wrap (y + 1) = y + 1 := IntWalk.i64_in _ (by omega)
                      go_wp2_with fail
                      go_roundw
                      case rel =>
                        refine ⟨k + 1, by omega, by go_num, Z.setCell hgB _, ?_, turn3.out _⟩
                        rw [HE.out, HC.out, List.map_set]
                        exact (hsto.out _).1
                      case measure => simp [intOf]; omega
          · obtain rfl : k = N := by omega
            have hkn : ¬ (k : Int) < (k : Int) := by omega
            have hT : cntL P ((List.range k).filter (worksB ns)) = cntL P ((List.range (2 ^ P)).filter (worksB ns)) := by rw [HN.out]
            have hU : trJ P ns k 0 = swL P ns := by rw [HN.out]; exact turns_swings (by omega)
            rw [hT] at told
            rw [hU] at turn
            have rt : RdI wr (.slice (some ⟨gt, 0, none⟩) (P + 1) (P + 1)) (cntL P ((List.range (2 ^ P)).filter (worksB ns))) := by
              have h := own_rd told
              unfold RdI
              rw [hul2]
              exact h
            have ru : RdI wr (.slice (some ⟨gu, 0, none⟩) P P) (swL P ns) := by
              have h := own_rd turn
              unfold RdI
              rw [hul3]
              exact h
            clear told turn hT hU
            generalize cntL P ((List.range (2 ^ P)).filter (worksB ns)) = cw5 at *
            generalize swL P ns = sw5 at *
            replace bx := bx.ext Z
            replace rz := rz.ext Z
            replace rc := rc.ext Z
            replace rw5 := rw5.ext Z
            replace rs := rs.ext Z
            replace X := X.trans Z
            clear Z HWW HST HPL HPS HP10 hul2 hul3 HCL HNL
            go_wp2_with fail
            refine (b10Ints_any _ _ cw5 cw5 wr rt rw5).mono ?_
            rintro e w17 ⟨rfl, hx⟩
            rw [decide_eq_true (rfl : cw5 = cw5)]
            replace bx := bx.ext hx
            replace rz := rz.ext hx
            replace rc := rc.ext hx
            replace ru := ru.ext hx
            replace rs := rs.ext hx
            replace X := X.trans hx
            clear hx rt rw5
            go_wp2_with fail
            refine (b10Ints_any _ _ sw5 sw5 w17 ru rs).mono ?_
            rintro e w18 ⟨rfl, hx⟩
            rw [decide_eq_true (rfl : sw5 = sw5)]
            replace bx := bx.ext hx
            replace rz := rz.ext hx
            replace rc := rc.ext hx
            replace X := X.trans hx
            clear hx ru rs
            have O1 := Lib.hid (fun W v r => implOtherSystem_any (P : Int) v (ups ns) W r)
            have O2 := Lib.hid (fun W v r => specOtherSystem_any (P : Int) v (ups ns) W r)
            have e1 : otherO (P : Int) (ups ns) = sysO (P : Int) (ups cN) := by unfold otherO; rw [HSYS.out, Int.toNat_natCast, downs_ups, hcN]; rfl
            rw [e1] at O1 O2
            obtain ⟨k0, k1⟩ := bx.two
            have hbl := bx.1
            cases hso : sysB (P : Int) (ups cN)
            · have e2 : sysO (P : Int) (ups cN) = none := by unfold sysO; rw [hso]; rfl
              rw [e2] at O1 O2
              clear e1 e2 hso
              go_wp2_with fail
              refine (O1.out _ _ rz).mono ?_
              intro e w19 h4
              obtain ⟨hx, rfl⟩ := h4
              replace bx := bx.ext hx
              replace rz := rz.ext hx
              replace X := X.trans hx
              clear hx k0 k1 hbl
              obtain ⟨k0, k1⟩ := bx.two
              have hbl := bx.1
              go_wp2_with fail
              have hxa : Ext w19 (w19.alloc (.cells #[.int .i64 0, .slice none 0 0] 33)) := Ext.alloc _ _
              have rz2 := rz.ext hxa
              have X2 := X.trans hxa
              refine (O2.out _ _ rz2).mono ?_
              intro e w20 h4
              obtain ⟨hx, rfl⟩ := h4
              clear k0 k1 hbl
              go_wp2_with fail
              go_ret
              exact ⟨rfl, (X2.trans hx).trans (Ext.alloc _ _)⟩
            · have e2 : sysO (P : Int) (ups cN) = some ((P : Int), ups cN) := by unfold sysO; rw [hso]; rfl
              rw [e2] at O1 O2
              have e3 : otherO (P : Int) (ups cN) = some ((P : Int), ups ns) := by
                unfold otherO
                rw [hso, Int.toNat_natCast, downs_ups, ← hcN, cuts_cuts HSN.out hasc hanti]
                show sysO _ _ = _
                unfold sysO
                rw [HSYS.out]; rfl
              have O3 := Lib.hid (fun W v r => implOtherSystem_any (P : Int) v (ups cN) W r)
              rw [e3] at O3
              clear e1 e2 e3 hso
              go_wp2_with fail
              refine (O1.out _ _ rz).mono ?_
              intro e w19 h4
              obtain ⟨g1, c1', rfl, hx, ro⟩ := ys_some h4
              rw [ups_len] at ro ⊢
              replace bx := bx.ext hx
              replace rz := rz.ext hx
              replace rc := rc.ext hx
              replace X := X.trans hx
              have bo : Bx (w19.alloc (.cells #[.int .i64 P, .slice (some ⟨g1, 0, none⟩) cN.length c1'] 33)) w19.heap.size [.int .i64 P, .slice (some ⟨g1, 0, none⟩) cN.length c1'] := Bx.new _ _ _
              have hxa : Ext w19 (w19.alloc (.cells #[.int .i64 P, .slice (some ⟨g1, 0, none⟩) cN.length c1'] 33)) := Ext.alloc _ _
              clear hx k0 k1 hbl h4
              obtain ⟨k0, k1⟩ := bx.two
              have hbl := bx.1
              go_wp2_with fail
              generalize hWW : w19.alloc (.cells #[.int .i64 P, .slice (some ⟨g1, 0, none⟩) cN.length c1'] 33) = W20 at *
              clear hWW
              replace bx := bx.ext hxa
              replace rz := rz.ext hxa
              replace rc := rc.ext hxa
              replace ro := ro.ext hxa
              replace X := X.trans hxa
              clear hxa k0 k1
              refine (O2.out _ _ rz).mono ?_
              intro e w21 h4
              obtain ⟨g2, c2', rfl, hx, -⟩ := ys_some h4
              rw [ups_len]
              replace bx := bx.ext hx
              replace bo := bo.ext hx
              replace rz := rz.ext hx
              replace rc := rc.ext hx
              replace ro := ro.ext hx
              replace X := X.trans hx
              have hxa : Ext w21 (w21.alloc (.cells #[.int .i64 P, .slice (some ⟨g2, 0, none⟩) cN.length c2'] 33)) := Ext.alloc _ _
              clear hx h4 hbl
              obtain ⟨k0, k1⟩ := bo.two
              have hbl := bo.1
              go_wp2_with fail
              generalize hWW : w21.alloc (.cells #[.int .i64 P, .slice (some ⟨g2, 0, none⟩) cN.length c2'] 33) = W22 at *
              clear hWW
              replace bx := bx.ext hxa
              replace bo := bo.ext hxa
              replace rz := rz.ext hxa
              replace rc := rc.ext hxa
              replace ro := ro.ext hxa
              replace X := X.trans hxa
              clear hxa k0 k1 hbl
              refine (O3.out _ _ ro).mono ?_
              intro e w23 h4
              obtain ⟨g3, c3', rfl, hx, r3⟩ := ys_some h4
              rw [ups_len] at r3 ⊢
              replace bx := bx.ext hx
              replace bo := bo.ext hx
              replace rz := rz.ext hx
              replace rc := rc.ext hx
              replace ro := ro.ext hx
              replace X := X.trans hx
              have bq : Bx (w23.alloc (.cells #[.int .i64 P, .slice (some ⟨g3, 0, none⟩) ns.length c3'] 33)) w23.heap.size [.int .i64 P, .slice (some ⟨g3, 0, none⟩) ns.length c3'] := Bx.new _ _ _
              have hxa : Ext w23 (w23.alloc (.cells #[.int .i64 P, .slice (some ⟨g3, 0, none⟩) ns.length c3'] 33)) := Ext.alloc _ _
              clear hx h4
              obtain ⟨k0, k1⟩ := bo.two
              have hbl := bo.1
              go_wp2_with fail
              generalize hWW : w23.alloc (.cells #[.int .i64 P, .slice (some ⟨g3, 0, none⟩) ns.length c3'] 33) = W24 at *
              clear hWW
              replace bx := bx.ext hxa
              replace rz := rz.ext hxa
              replace rc := rc.ext hxa
              replace ro := ro.ext hxa
              replace r3 := r3.ext hxa
              replace X := X.trans hxa
              clear hxa k0 k1 hbl bo
              refine (b10Ints_any _ _ (ups cN) (ups cN) W24 ro rc).mono ?_
              rintro e w25 ⟨rfl, hx⟩
              rw [decide_eq_true (rfl : ups cN = ups cN)]
              replace bx := bx.ext hx
              replace bq := bq.ext hx
              replace rz := rz.ext hx
              replace r3 := r3.ext hx
              replace X := X.trans hx
              clear hx ro rc
              obtain ⟨k0, k1⟩ := bx.two
              obtain ⟨k2, k3⟩ := bq.two
              go_wp2_with fail
              refine (b10Ints_any _ _ (ups ns) (ups ns) w25 r3 rz).mono ?_
              rintro e w26 ⟨rfl, hx⟩
              rw [decide_eq_true (rfl : ups ns = ups ns)]
              clear k0 k1 k2 k3
              go_wp2_with fail
              go_ret
              exact ⟨rfl, X.trans hx⟩

theorem fnSystems_own : ownKnob Try.prog.godebug = none := by kernel_rfl
theorem fnSystems_laid : laidOutB Try.prog = true := by kernel_rfl

set_option maxRecDepth 100000 in
theorem fnSystems_lifted (os : Os) (started : os.Started) (H : Type) (enc : TypeId × Value → H) :
    ReturnsInHanded {} Try.checked os 4 .any (Rows.fnSystemsSpec.pre6 enc Try.prog Try.f4 Rows.fnSystemsRow.domain false) (Rows.fnSystemsSpec.post enc Try.prog Try.f4 false true false false) := by
  refine returnsInHanded_of_change (C := Try.checked) fnSystems_own started (by kernel_rfl) Try.func4
    (ChangeSpec.witness6 (enc := enc) (C := Try.checked) false ⟨#[], #[.slice none 0 0, .slice none 0 0], []⟩ 8 (by kernel_rfl) (by kernel_rfl) (by kernel_rfl) (by kernel_rfl)) ?_
  intro W base args ds gs before hval0 hW hcnd _
  have hval : ∀ (j : Nat) t v, Try.f4.params[j]? = some t → args[j]? = some v → Value.okWide Try.prog W .any base t v := hval0
  have hW' := hW
  obtain ⟨p, q, hA0, hV, rfl, hfz, hnd⟩ := hW
  have hA : DataW.TrodAll enc Try.prog W 0 (fun _ => true) true Try.f4.params.toList args.toList ds p := hA0
  rw [Try.params4] at hA hval
  obtain ⟨v0, vs0, d0, ds0, p0, q0, hargs, rfl, rfl, h0, r0⟩ := trodAll_cons hA
  obtain ⟨v1, vs1, d1, ds1, p1, q1, rfl, rfl, rfl, h1, r1⟩ := trodAll_cons r0
  obtain ⟨rfl, rfl, rfl⟩ := trodAll_nil r1
  obtain rfl : args = #[v0, v1] := by cases args; simp_all
  obtain ⟨rfl, rfl⟩ := trodVars_none hV
  have lt0 : ∀ x ∈ p0, x.block < W.heap.size := by obtain ⟨m, hm⟩ := h0; exact DataW.trod_lt m _ _ _ hm
  have w0 := argBytes Try.underlying29 Try.underlying5 (by kernel_rfl) (hval 0 29 v0 rfl rfl) h0
  have lt1 : ∀ x ∈ p1, x.block < W.heap.size := by obtain ⟨m, hm⟩ := h1; exact DataW.trod_lt m _ _ _ hm
  have w1 := argBytes Try.underlying29 Try.underlying5 (by kernel_rfl) (hval 1 29 v1 rfl rfl) h1
  clear hA0 hval0
  refine (systems_walk v0 v1 W w0 w1).mono fun e W' ⟨he, bel⟩ => ?_
  subst he
  exact ⟨_, rfl, _, _, _, [], _, [], hW', trodAll_mk1 (shut_bool Try.underlying4 _), (trodAll_cons_mk (Below.trod fnSystems_laid (by kernel_rfl) (of_decide_eq_true (by kernel_rfl)) h0 bel lt0) (trodAll_cons_mk (Below.trod fnSystems_laid (by kernel_rfl) (of_decide_eq_true (by kernel_rfl)) h1 bel lt1) trodAll_mk0)), rfl, bel.below.frame _, fun h => by cases h⟩

theorem fnSystems_over : Rows.fnSystemsRow.holds Try.pinned (OpenSpec.ofChange Rows.fnSystemsSpec) :=
  OpenClaim.holds_of_wide 4 Try.f4 rfl rfl rfl rfl rfl rfl rfl ⟨rfl, rfl, rfl, rfl, rfl⟩ rfl rfl rfl rfl rfl (by kernel_rfl) Try.func4 (by kernel_rfl)
    (of_decide_eq_true (by kernel_rfl)) (by unfold Func.isWrapper; first | (rw [if_pos (by decide +kernel)]; kernel_rfl) | (rw [if_neg (by decide +kernel)]; exact ⟨rfl, rfl⟩))
    (fun os started H enc _ => fnSystems_lifted os started H enc)

/-- The statement. -/
theorem fnSystems_holds : Rows.FnSystemsSaid := fnSystems_over

end Go.Proofs.Ytepgkhcfeaklmaa
