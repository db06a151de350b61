
/- ChainSteps: what the reference hands back. Condition: lists that can be read, of at most 2^20 numbers. -/
import Derived.Test.YtkkmhckhggggaaaCs
import Derived.Test.YtkkmhckhggggaaaCB
import Derived.Test.YtkkmhckhggggaaaRh
namespace Go.Proofs.Ytkkmhckhggggaaa
open Go Go.RowKit Go.ChangeShapes Go.WideShapes Go.ChangeAt

attribute [local go_sem] run_store_float
attribute [local irreducible] LX

set_option maxRecDepth 100000 in
set_option maxHeartbeats 16000000 in
theorem specChainSteps_ok (n : Nat) (v1 v2 : Value) (bs ss : List Nat) (h : Nat) (st : Nat) (w : World) (r1 : RdF w v1 bs) (r2 : RdF w v2 ss) (hz1 : bs.length ≤ 1048576) (hz2 : ss.length ≤ 1048576)
    (hn : n ≤ 8) (hn1 : 1 ≤ n) (hl : bs.length = n * n) (hsl : ss.length = n) (hst : 1 ≤ st ∧ st ≤ 256)
    (hc : chainOk n bs = true) (hs : ((ss.map (cn .f32)).all leastB && decide ((ss.length : Int) = n)) = true) (hh : aboveB (cn .f32 h) = true) (ht : inB st 1 256 = true) :
    Calls Try.prog 61 #[.agg #[.int .i64 n, v1], v2, .float .f32 h, .int .i64 st] w
      (FlPost (finL (chIter (ss.map (cn .f32)) (bs.map (cn .f32)) n (cn .f32 h) st)) w) := by
  have r1' := r1
  have r2' := r2
  obtain ⟨⟨-, a1, c1, rfl, -, -, -, -⟩, -⟩ := r1
  obtain ⟨⟨-, a2, c2, rfl, -, -, -, -⟩, -⟩ := r2
  have HC := Lib.hid hc
  have HS := Lib.hid hs
  have HH := Lib.hid hh
  have HT := Lib.hid ht
  have HL := Lib.hid hl
  have HSL := Lib.hid hsl
  clear hc hs hh ht
  have hss0 : 0 < ss.length := by omega
  have hnl : ss.length ≤ 8 := by omega
  generalize hbl : bs.length = N1 at *
  generalize hsn : ss.length = N2 at *
  have HBL := Lib.hid hbl
  have HSN := Lib.hid hsn
  clear hbl hsn hl hsl
  go_enter Try.func61, Try.ntmps61
  go_wp2_with fail
  have bx : Bx (w.alloc (.cells #[.int .i64 n, .slice a1 N1 c1] 70)) w.heap.size [.int .i64 n, .slice a1 N1 c1] := Bx.new _ _ _
  refine (l04Is_any n _ bs w.heap.size _ bx (r1'.ext (Ext.alloc _ _)) (by rw [HBL.out]; exact hz1)).mono ?_
  rintro e w1 ⟨rfl, X1⟩
  rw [HC.out]
  replace bx := bx.ext X1
  have X : Ext w w1 := (Ext.alloc _ _).trans X1
  generalize w.heap.size = bb at *
  clear X1
  go_wp2_with fail
  refine (l04Shares_any n _ _ ss bb _ bx (r2'.ext X) (by rw [HSN.out]; exact hz2)).mono ?_
  rintro e w2 ⟨rfl, X2⟩
  rw [HSN.out, HS.out]
  replace bx := bx.ext X2
  replace X := X.trans X2
  clear X2
  go_wp2_with fail
  refine (l02Above_eq HH.out _).mono ?_
  rintro e w3 ⟨rfl, X2⟩
  replace bx := bx.ext X2
  replace X := X.trans X2
  clear X2
  go_wp2_with fail
  refine (l00In_eq HT.out _).mono ?_
  rintro e w4 ⟨rfl, rfl⟩
  go_wp2_with (at_builtin; refine wpList_copy infoF32 rfl (by decide) Try.underlying31 rfl rfl rfl (World.ownsRow_lit (base := w3.heap.size) (e := 36) (size := 1) w3 #[] 0 (Nat.le_refl _) (by decide) rfl) rfl (by have h := (r2'.ext X).1.alloc (.cells #[] 36); rw [HSN.out] at h; exact h) hss0 (floats_one ss) (by omega) (by decide) (by simp) ?_; intro g cap w5 hg own hgr)
  have X5 : Ext w3 w5 := (below_alloc w3 _).grown hgr (by simp) (fun k hk => by cases hk; exact Nat.le_refl _)
  replace bx := bx.ext X5
  have Y := X.trans X5
  clear hgr hg
  have hN := HSL.out
  subst hN
  have HSN2 := HSN
  have X55 : Ext w5 w5 := Ext.refl _
  generalize hS : ss.map (cn .f32) = S at *
  generalize hM : bs.map (cn .f32) = M at *
  generalize hH : cn .f32 h = hh at *
  have HSs := Lib.hid hS
  have HMm := Lib.hid hM
  have HHh := Lib.hid hH
  have R1 := Lib.hid (fun W (x : Ext w5 W) => r1'.ext (Y.trans x))
  have HSB : Hid (∀ b ∈ ss, b < 4294967296) := r2'.2
  have hb35 := X5.size
  have own' : w5.ownsRow w3.heap.size 36 1 (.slice (some ⟨g, 0, none⟩) N2 cap) N2 (ss.map (Value.float .f32)) := own
  clear hS hM hH own
  go_wp2_with fail
  go_loopw [11, 10] (fun t v wr => ∃ (k g cap : Nat) (us : List Nat), k ≤ st ∧ t = .int .i64 k ∧ v = .slice (some ⟨g, 0, none⟩) N2 cap ∧ us.length = N2 ∧ Hid (us.map (cn .f32) = chIter S M N2 hh k) ∧ Hid (∀ b ∈ us, b < 4294967296) ∧
      wr.ownsRow w3.heap.size 36 1 (.slice (some ⟨g, 0, none⟩) N2 cap) N2 (us.map (Value.float .f32)) ∧ Ext w5 wr) (fun t _ _ => st - (intOf t).toNat)
  case atStart => exact ⟨0, g, cap, ss, Nat.zero_le _, rfl, rfl, HSN.out, HSs.out, HSB, own', Ext.refl _⟩
  case round =>
    clear own'
    obtain ⟨k, g, cap, us, hk, rfl, rfl, hul, HU, HB, own, Z⟩ := hrel
    by_cases hlt : k < st
    · obtain ⟨wo, rfl⟩ : ∃ wo : World, wo = wr := ⟨_, rfl⟩
      have HIT : Hid (chIter S M N2 hh (k + 1) = chNextK (us.map (cn .f32)) M N2 hh N2) := by show _ = _; rw [HU.out]; rfl
      go_wp2_with fail
      go_loopw [13, 12] (fun i v wq => ∃ (j g2 cap2 : Nat) (ns : List Nat), j ≤ N2 ∧ i = .int .i64 j ∧ v = .slice (some ⟨g2, 0, none⟩) j cap2 ∧ ns.length = j ∧ Hid (ns.map (cn .f32) = chNextK (us.map (cn .f32)) M N2 hh j) ∧ Hid (∀ b ∈ ns, b < 4294967296) ∧
          wq.ownsRow wo.heap.size 36 1 (.slice (some ⟨g2, 0, none⟩) j cap2) j (ns.map (Value.float .f32)) ∧ Ext wo wq) (fun i _ _ => N2 - (intOf i).toNat)
      case atStart => exact ⟨0, _, _, [], Nat.zero_le _, rfl, rfl, rfl, rfl, (by show ∀ _ ∈ _, _; simp), World.ownsRow_lit wo #[] 0 (Nat.le_refl _) (by decide) rfl, Ext.alloc _ _⟩
      case round =>
        obtain ⟨j, g2, cap2, ns, hj, rfl, rfl, hnl2, HNS, HNB, own2, Z2⟩ := hrel
        obtain ⟨k0, k1⟩ := (bx.ext (Z.trans Z2)).two
        by_cases hlt2 : j < N2
        · have hjn : (j : Int) < (N2 : Int) := by omega
          obtain ⟨wp, rfl⟩ : ∃ wp : World, wp = wr := ⟨_, rfl⟩
          have HNX : Hid (chNextK (us.map (cn .f32)) M N2 hh (j + 1) = chNextK (us.map (cn .f32)) M N2 hh j ++ [chNext (us.map (cn .f32)) M N2 hh j]) := chNextK_succ _ _ _ _ _
          go_wp2_with fail
          go_loopw [15, 14] (fun i s wz => ∃ (l x : Nat), l ≤ N2 ∧ i = .int .i64 l ∧ s = .float .f32 x ∧ Hid (cn .f32 x = chCome (us.map (cn .f32)) M N2 j l) ∧ Hid (x < 4294967296) ∧ Ext wp wz) (fun i _ _ => N2 - (intOf i).toNat)
          case atStart => exact ⟨0, 0, Nat.zero_le _, rfl, rfl, rfl, (by show (0 : Nat) < _; decide), Ext.refl _⟩
          case round =>
            clear k0 k1
            obtain ⟨l, x, hl, rfl, rfl, HX, HXB, Z3⟩ := hrel
            obtain ⟨k0, k1⟩ := (bx.ext (Z.trans (Z2.trans Z3))).two
            have hbb := (bx.ext (Z.trans (Z2.trans Z3))).1
            by_cases hlt3 : l < N2
            · have hidx : l * N2 + j < bs.length := by
                have h1 : (l + 1) * N2 ≤ N2 * N2 := Nat.mul_le_mul_right N2 hlt3
                have h2 : (l + 1) * N2 = l * N2 + N2 := Nat.succ_mul l N2
                have h3 := HL.out
                have h4 := HBL.out
                omega
              have hp8 : l * N2 ≤ 64 := Nat.le_trans (Nat.mul_le_mul (Nat.le_of_lt hlt3) (Nat.le_refl _)) (by have := Nat.mul_le_mul hn hn; omega)
              obtain ⟨b1, o1, hbo1, hb1, hc1⟩ := (R1.out _ (Z.trans (Z2.trans Z3))).at hidx
              subst hbo1
              have ownz := own_ext own (Z2.trans Z3)
              have hcu := World.ownsRow.cellAt ownz l (by omega)
              have hgl := (World.ownsRow.lt ownz g rfl).2
              rw [List.getElem?_map, List.getElem?_eq_getElem (by omega)] at hcu
              simp only [Option.map_some] at hcu
              have hsum : Hid (chCome (us.map (cn .f32)) M N2 j (l + 1) = fop .add .f32 (chCome (us.map (cn .f32)) M N2 j l) (fop .mul .f32 (cn .f32 (us[l]'(by omega))) (cn .f32 (bs[l * N2 + j]'hidx)))) := by
                show _ = _
                have e1 : (us.map (cn .f32)).getD l 0 = cn .f32 (us[l]'(by omega)) := by simp [show l < us.length by omega]
                have e2 : M.getD (l * N2 + j) 0 = cn .f32 (bs[l * N2 + j]'hidx) := by rw [← HMm.out]; simp [hidx]
                show fop .add .f32 _ (fop .mul .f32 ((us.map (cn .f32)).getD l 0) (M.getD (l * N2 + j) 0)) = _
                rw [e1, e2]
              obtain ⟨p, hp⟩ : ∃ p, p = l * N2 := ⟨_, rfl⟩
              have hp1 : (l : Int) * (N2 : Int) = (p : Int) := by rw [hp]; exact_mod_cast rfl
              have s1 : IntKind.i64.wrap ((l : Int) * (N2 : Int)) = (p : Int) := by rw [hp1]; exact IntWalk.i64_in _ (by omega)
              obtain ⟨q, hq⟩ : ∃ q, q = p + j := ⟨_, rfl⟩
              have s2 : IntKind.i64.wrap ((p : Int) + (j : Int)) = (q : Int) := by have := IntWalk.i64_in ((p : Int) + (j : Int)) (by omega); rw [this]; omega
              have e9 : l * N2 + j = q := by omega
              have s4 : q < N1 := by have := HBL.out; omega
              have s3 : (q : Int) < (N1 : Int) := by omega
              simp only [e9] at hc1 hsum
              generalize bs[q]'(by have := HBL.out; omega) = y at *
              generalize us[l]'(by omega) = u at *
              have hl3 : (l : Int) < (N2 : Int) := by omega
              have HP := Lib.hid hp
              have HQ := Lib.hid hq
              clear hp hq hp1 e9 hidx ownz hp8
              go_wp2_with fail
              refine wp_region_rel 17 (fun _ _ => True) (fun _ _ _ => True) (by kernel_rfl) (by kernel_rfl) (by kernel_rfl) ?_
              dsimp only [List.take, List.drop, List.length]
              refine LX_det (.float .f32 x) (by kernel_rfl) rfl (fun w' hx _ => ?_) ?_
              · go_simp
              refine LX_det (.slice (some ⟨g, 0, none⟩) N2 cap) (by kernel_rfl) rfl (fun w' hx _ => ?_) ?_
              · go_simp
              refine LX_det (.int .i64 l) (by kernel_rfl) rfl (fun w' hx _ => ?_) ?_
              · go_simp
              refine LX_det (.pointer (some ⟨g, l, none⟩)) (by kernel_rfl) rfl (fun w' hx _ => ?_) ?_
              · go_simp
              refine LX_det (.float .f32 u) (by kernel_rfl) rfl (fun w' hx _ => ?_) ?_
              · have m0 := (Below.cell hx (p := ⟨g, l, none⟩) hgl).trans hcu
                go_simp
              refine LX_det (.pointer (some ⟨bb, 1, none⟩)) (by kernel_rfl) rfl (fun w' hx _ => ?_) ?_
              · go_simp
              refine LX_det (.slice (some ⟨b1, o1, none⟩) N1 c1) (by kernel_rfl) rfl (fun w' hx _ => ?_) ?_
              · have m0 := (Below.cell hx (p := ⟨bb, 1, none⟩) hbb).trans k1
                go_simp
              refine LX_det (.int .i64 l) (by kernel_rfl) rfl (fun w' hx _ => ?_) ?_
              · go_simp
              refine LX_det (.pointer (some ⟨bb, 0, none⟩)) (by kernel_rfl) rfl (fun w' hx _ => ?_) ?_
              · go_simp
              refine LX_det (.int .i64 N2) (by kernel_rfl) rfl (fun w' hx _ => ?_) ?_
              · have m0 := (Below.cell hx (p := ⟨bb, 0, none⟩) hbb).trans k0
                go_simp
              refine LX_det (.int .i64 p) (by kernel_rfl) rfl (fun w' hx _ => ?_) ?_
              · go_simp
              refine LX_det (.int .i64 j) (by kernel_rfl) rfl (fun w' hx _ => ?_) ?_
              · go_simp
              refine LX_det (.int .i64 q) (by kernel_rfl) rfl (fun w' hx _ => ?_) ?_
              · go_simp
              refine LX_det (.pointer (some ⟨b1, o1 + q, none⟩)) (by kernel_rfl) rfl (fun w' hx _ => ?_) ?_
              · go_simp
              refine LX_det (.float .f32 y) (by kernel_rfl) rfl (fun w' hx _ => ?_) ?_
              · have m0 := (Below.cell hx (p := ⟨b1, o1 + q, none⟩) hb1).trans hc1
                go_simp
              simp only [Act.put, List.setIfInBounds_toArray, List.set_cons_succ, List.set_cons_zero]
              refine LX_fop (by kernel_rfl) rfl rfl rfl rfl ?_
              intro f1 hf1 hl1
              replace hf1 := Lib.hid hf1
              replace hl1 := Lib.hid hl1
              simp only [Act.put, List.setIfInBounds_toArray, List.set_cons_succ, List.set_cons_zero]
              refine LX_fop (by kernel_rfl) rfl rfl rfl rfl ?_
              intro f2 hf2 hl2
              replace hf2 := Lib.hid hf2
              replace hl2 := Lib.hid hl2
              refine LX_nil fun w6 hx _ => ?_
              simp only [Act.put, List.setIfInBounds_toArray, List.set_cons_succ, List.set_cons_zero]
              go_wp2_with fail
              go_roundw
              case rel =>
                refine ⟨l + 1, f2, by omega, by go_num, rfl, ?_, hl2, Z3.trans hx⟩
                show _ = _; rw [hsum.out, hf2.out, hf1.out, HX.out]
              case measure => simp [intOf]; omega
            · obtain rfl : l = N2 := by omega
              have ownz := own_ext own (Z2.trans Z3)
              have own3 := own_ext own2 Z3
              have hcu := World.ownsRow.cellAt ownz j (by omega)
              have hgl := (World.ownsRow.lt ownz g rfl).2
              rw [List.getElem?_map, List.getElem?_eq_getElem (by omega)] at hcu
              simp only [Option.map_some] at hcu
              have hlb : bs.length = l * l := HBL.out.trans HL.out
              have HOUT := Lib.hid (fun W (xx : Ext wr W) => l04Out_any l j _ bs bb W (bx.ext (Z.trans (Z2.trans (Z3.trans xx)))) (R1.out W (Z.trans (Z2.trans (Z3.trans xx)))) hn hlt2 hlb)
              rw [HMm.out] at HOUT
              have HNE : Hid (chNext (us.map (cn .f32)) M l hh j = fop .add .f32 (cn .f32 (us[j]'(by omega))) (fop .mul .f32 hh (fop .sub .f32 (chCome (us.map (cn .f32)) M l j l) (fop .mul .f32 (cn .f32 (us[j]'(by omega))) (chOut M l j))))) := by
                show _ = _
                have e1 : (us.map (cn .f32)).getD j 0 = cn .f32 (us[j]'(by omega)) := by simp [show j < us.length by omega]
                unfold chNext; rw [e1]
              generalize us[j]'(by omega) = u at *
              clear ownz hlb
              go_wp2_with fail
              refine wp_region_rel 18 (fun _ v => ∃ b, v = .float .f32 b ∧ cn .f32 b = chOut M l j ∧ b < 4294967296) (fun _ _ _ => True) (by kernel_rfl) (by kernel_rfl) (by kernel_rfl) ?_
              dsimp only [List.take, List.drop, List.length]
              refine LX_det (.slice (some ⟨g2, 0, none⟩) j cap2) (by kernel_rfl) rfl (fun w' hx _ => ?_) ?_
              · go_simp
              refine LX_det (.slice (some ⟨g, 0, none⟩) l cap) (by kernel_rfl) rfl (fun w' hx _ => ?_) ?_
              · go_simp
              refine LX_det (.int .i64 j) (by kernel_rfl) rfl (fun w' hx _ => ?_) ?_
              · go_simp
              refine LX_det (.pointer (some ⟨g, j, none⟩)) (by kernel_rfl) rfl (fun w' hx _ => ?_) ?_
              · go_simp
              refine LX_det (.float .f32 u) (by kernel_rfl) rfl (fun w' hx _ => ?_) ?_
              · have m0 := (Below.cell hx (p := ⟨g, j, none⟩) hgl).trans hcu
                go_simp
              refine LX_det (.float .f32 h) (by kernel_rfl) rfl (fun w' hx _ => ?_) ?_
              · go_simp
              refine LX_det (.float .f32 x) (by kernel_rfl) rfl (fun w' hx _ => ?_) ?_
              · go_simp
              refine LX_det (.slice (some ⟨g, 0, none⟩) l cap) (by kernel_rfl) rfl (fun w' hx _ => ?_) ?_
              · go_simp
              refine LX_det (.int .i64 j) (by kernel_rfl) rfl (fun w' hx _ => ?_) ?_
              · go_simp
              refine LX_det (.pointer (some ⟨g, j, none⟩)) (by kernel_rfl) rfl (fun w' hx _ => ?_) ?_
              · go_simp
              refine LX_det (.float .f32 u) (by kernel_rfl) rfl (fun w' hx _ => ?_) ?_
              · have m0 := (Below.cell hx (p := ⟨g, j, none⟩) hgl).trans hcu
                go_simp
              refine LX_det (.int .i64 j) (by kernel_rfl) rfl (fun w' hx _ => ?_) ?_
              · go_simp
              refine LX_call (by kernel_rfl) rfl (fun _ => St.top) (fun w' hx _ => ?_) ?_
              · go_simp
                refine UponC.enter ((HOUT.out _ hx).mono ?_)
                rintro e w'' ⟨b, rfl, hb1, hb2, hx'⟩
                exact ⟨_, rfl, hx', ⟨b, rfl, hb1, hb2⟩, trivial⟩
              rintro _ ⟨b, rfl, hb1, hb2⟩
              simp only [Act.put, List.setIfInBounds_toArray, List.set_cons_succ, List.set_cons_zero]
              refine LX_fop (by kernel_rfl) rfl rfl rfl rfl ?_
              intro f1 hf1 hl1
              replace hf1 := Lib.hid hf1
              replace hl1 := Lib.hid hl1
              simp only [Act.put, List.setIfInBounds_toArray, List.set_cons_succ, List.set_cons_zero]
              refine LX_fop (by kernel_rfl) rfl rfl rfl rfl ?_
              intro f2 hf2 hl2
              replace hf2 := Lib.hid hf2
              replace hl2 := Lib.hid hl2
              simp only [Act.put, List.setIfInBounds_toArray, List.set_cons_succ, List.set_cons_zero]
              refine LX_fop (by kernel_rfl) rfl rfl rfl rfl ?_
              intro f3 hf3 hl3
              replace hf3 := Lib.hid hf3
              replace hl3 := Lib.hid hl3
              simp only [Act.put, List.setIfInBounds_toArray, List.set_cons_succ, List.set_cons_zero]
              refine LX_fop (by kernel_rfl) rfl rfl rfl rfl ?_
              intro f4 hf4 hl4
              replace hf4 := Lib.hid hf4
              replace hl4 := Lib.hid hl4
              refine LX_build [.float .f32 f4] 36 1 (by kernel_rfl) rfl (fun w' hx => ?_) ?_
              · go_simp
              intro B8 hB8
              refine LX_nil fun w6 hx hg => ?_
              have hNw := ((hg 88).2 rfl : NewS _ _ _ _ _ _).bx
              clear hg
              replace own3 := own_ext own3 hx
              have Z4 := Z2.trans (Z3.trans hx)
              clear hx
              simp only [Act.put, List.setIfInBounds_toArray, List.set_cons_succ, List.set_cons_zero]
              refine wpList_push infoF32 rfl Try.underlying31 rfl rfl rfl own3 rfl hNw.one rfl (by omega) (by decide) Z4.size ?_
              intro g4 cap4 w7 hg4 own4 bel4 sz4
              simp only [Act.put, List.setIfInBounds_toArray, List.set_cons_succ, List.set_cons_zero]
              have N1' : Hid (cn .f32 f4 = chNext (us.map (cn .f32)) M l hh j) := by
                show _ = _; rw [HNE.out, hf4.out, hf3.out, hf2.out, hf1.out, hb1, HX.out, HHh.out]
              have N2' : Hid ((ns ++ [f4]).map (cn .f32) = chNextK (us.map (cn .f32)) M l hh (j + 1)) := by
                show _ = _; rw [List.map_append, HNS.out, HNX.out, List.map_cons, N1'.out]; rfl
              have N3' : Hid (∀ b ∈ ns ++ [f4], b < 4294967296) := by
                show ∀ _ ∈ _, _
                intro x hx
                rcases List.mem_append.1 hx with h | h
                · exact HNB.out x h
                · obtain rfl := List.mem_singleton.1 h; exact hl4.out
              clear hb1 hb2
              go_wp2_with fail
              go_roundw
              case rel => exact ⟨j + 1, g4, cap4, ns ++ [f4], by omega, by go_num, rfl, by simp [hnl2], N2', N3', by rw [List.map_append]; exact own4, bel4 _ Z4⟩
              case measure => simp [intOf]; omega
        · obtain rfl : j = N2 := by omega
          go_wp2_with fail
          go_roundw
          case rel => exact ⟨k + 1, g2, cap2, ns, by omega, by go_num, rfl, hnl2, by show _ = _; rw [HIT.out]; exact HNS.out, HNB, World.ownsRow.mono own2 (Nat.le_trans hb35 Z.size), Z.trans Z2⟩
          case measure => simp [intOf]; omega
    · obtain rfl : k = st := by omega
      have R : RdF wr (.slice (some ⟨g, 0, none⟩) us.length cap) us := ⟨by rw [hul]; exact own_rd own, HB.out⟩
      have hul' := Lib.hid hul
      go_wp2_with fail
      refine (l02List_any _ us _ (by rw [hul] at R; exact R)).mono ?_
      rintro e w6 ⟨rfl, X6⟩
      rw [HU.out]
      have hU := HU.out
      cases hf : finAll (chIter S M N2 hh k)
      · have HF : Hid (finL (chIter S M N2 hh k) = none) := by show _ = _; unfold finL; rw [hf]; rfl
        clear hf hU
        unfold orNil
        go_wp2_with fail
        go_ret2
        rw [HF.out]
        exact ⟨Y.trans (Z.trans X6), rfl⟩
      · have HF : Hid (finL (chIter S M N2 hh k) = some (chIter S M N2 hh k)) := by show _ = _; unfold finL; rw [hf]; rfl
        have HU2 := Lib.hid hU
        clear hf hU
        unfold orNil
        go_wp2_with fail
        go_ret2
        rw [HF.out]
        exact ⟨Y.trans (Z.trans X6), g, cap, us, by rw [hul'.out]; rfl, HU2.out, HB.out, by rw [hul'.out]; exact World.ownsRow.mono (own_ext own X6) X.size⟩
end Go.Proofs.Ytkkmhckhggggaaa
