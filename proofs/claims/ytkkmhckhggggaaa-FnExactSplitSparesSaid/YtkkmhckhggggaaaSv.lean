
/- How spares are split: what the reference computes. No condition. -/
import Derived.Test.YtkkmhckhggggaaaSp
import Derived.Test.YtkkmhckhggggaaaSt
namespace Go.Proofs.Ytkkmhckhggggaaa
open Go Go.RowKit Go.ChangeShapes Go.WideShapes Go.ChangeAt

/-- A number by its canonical bits. -/
def FvP (x : Nat) (v : Value) : Prop := ∃ b, v = .float .f32 b ∧ cn .f32 b = x ∧ b < 4294967296

set_option maxRecDepth 100000 in
set_option maxHeartbeats 4000000 in
theorem specSplit_any (v : Value) (bs : List Nat) (t : Int) (w : World) (r : RdF w v bs) :
    Calls Try.prog 54 #[v, .int .i64 t] w (IlPost (spO (bs.map (cn .f32)) t) w) := by
  have r' := r
  obtain ⟨⟨-, a1, c1, rfl, p1, p2, -, -⟩, -⟩ := r
  have p3 : bs.length ≤ maxLen := Nat.le_trans p1 p2
  clear p1 p2
  unfold maxLen at p3
  obtain ⟨i0, hi0, hz0, hz1, hz2⟩ := info_parts infoI64
  go_enter Try.func54, Try.ntmps54
  go_wp2_with (first | (go_at_call 104; refine (l00In_any _ _ _ _).mono ?_; rintro e w' ⟨rfl, rfl⟩))
  any_goals
    go_ret2
    refine ilPost_eq (ilPost_no (Ext.refl _)) ?_
    first
      | exact spO_n (by rw [List.length_map]; omega)
      | (refine spO_t ?_
         have h : ((bs.length : Int) < 1 ∨ 8 < (bs.length : Int)) ∨ (!inB t 0 32) = true := by assumption
         rcases h with h | h
         · exact absurd h (by omega)
         · simpa using h)
  have ht : inB t 0 32 = true := by
    have h : (1 ≤ (bs.length : Int) ∧ (bs.length : Int) ≤ 8) ∧ (!inB t 0 32) = false := by assumption
    simpa using h.2
  have ht0 := inB_iff.1 ht
  have m1 : 1 ≤ bs.length := by omega
  have m8 : bs.length ≤ 8 := by omega
  clear ‹(1 ≤ (bs.length : Int) ∧ (bs.length : Int) ≤ 8) ∧ (!inB t 0 32) = false›
  obtain ⟨n, rfl⟩ := Int.eq_ofNat_of_zero_le ht0.1
  have HT := Lib.hid ht
  have n32 : n ≤ 32 := by omega
  clear ht ht0
  go_loopw [6] (fun i wr => ∃ k : Nat, k ≤ bs.length ∧ i = .int .i64 k ∧ Hid (∀ j, (h : j < k) → (h' : j < bs.length) → meanB (cn .f32 bs[j]) = true) ∧ wr = w) (fun i _ => bs.length - (intOf i).toNat)
  case atStart => exact ⟨0, Nat.zero_le _, rfl, fun j h => absurd h (Nat.not_lt_zero _), rfl⟩
  case round =>
    obtain ⟨k, hk, rfl, HN, rfl⟩ := hrel
    by_cases hlt : k < bs.length
    · obtain ⟨b1, o1, rfl, hb1, hc1⟩ := r'.at hlt
      cases hm : meanB (cn .f32 bs[k])
      · have HM := Lib.hid hm
        clear hm
        go_wp2_with fail
        refine (l04Mean_eq HM.out _).mono ?_
        rintro e w1 ⟨rfl, rfl⟩
        go_wp2_with fail
        go_ret2
        refine ilPost_eq (ilPost_no (Ext.refl _)) (spO_m ?_)
        rw [List.all_eq_false]
        exact ⟨cn .f32 bs[k], List.mem_map_of_mem (List.getElem_mem hlt), by rw [HM.out]; simp⟩
      · have HM := Lib.hid hm
        clear hm
        go_wp2_with fail
        refine (l04Mean_eq HM.out _).mono ?_
        rintro e w1 ⟨rfl, rfl⟩
        go_wp2_with fail
        go_roundw
        case rel =>
          refine ⟨k + 1, by omega, by go_num, (fun j hj hj' => ?_), by first | rfl | trivial⟩
          by_cases hjk : j = k
          · subst hjk; exact HM.out
          · exact HN.out j (by omega) hj'
        case measure => simp [intOf]; omega
    · obtain rfl : k = bs.length := by omega
      have hall : (bs.map (cn .f32)).all meanB = true := by
        rw [List.all_eq_true]
        intro x hx
        obtain ⟨b, hb, rfl⟩ := List.mem_map.1 hx
        obtain ⟨j, hj, rfl⟩ := List.getElem_of_mem hb
        exact HN.out j hj hj
      have HALL := Lib.hid hall
      have HO := Lib.hid (spO_yes (M := bs.map (cn .f32)) (t := n) (by rw [List.length_map]; omega) hall HT.out)
      clear hall HN HT
      go_wp2_with (at_make; refine wpList_make_full _ rfl _ _ 58 rfl wr.heap.size 2 i0 (.int .i64 0) 1 Try.underlying58 hi0 hz0 hz1 _ _ _ _ bs.length rfl rfl rfl rfl ?c1 ?c2 ?c3 ?_)
      case c1 => rw [hz2]; omega
      case c2 => unfold maxLen; omega
      case c3 => exact Nat.le_refl _
      obtain ⟨wo, rfl⟩ : ∃ wo : World, wo = wr := ⟨_, rfl⟩
      intro w1 hown hg
      have X1 : Ext wo w1 := (Ext.refl _).grown hg (Nat.le_refl _) (fun _ h => by cases h)
      rw [toList_madeCells_one] at hown
      have own0 : w1.ownsRow wo.heap.size 2 1 (.slice (some ⟨wo.heap.size, 0, none⟩) bs.length bs.length) bs.length ((spState (bs.map (cn .f32)) 0).map natV) := by
        simpa [spState, natV] using hown
      have hwB : wo.heap.size ≤ wo.heap.size := Nat.le_refl _
      generalize hB : wo.heap.size = B at own0 hwB
      have HB := Lib.hid hB
      clear hown hg hz0 hz1 hz2 hi0 hB
      go_wp2
      go_loopw [1] (fun t wq => ∃ k : Nat, k ≤ n ∧ t = .int .i64 ((n : Int) - k) ∧ wq.ownsRow B 2 1 (.slice (some ⟨B, 0, none⟩) bs.length bs.length) bs.length ((spState (bs.map (cn .f32)) k).map natV) ∧ Ext wo wq) (fun t _ => (intOf t).toNat)
      case atStart => exact ⟨0, Nat.zero_le _, by simp, own0, X1⟩
      case round =>
        clear own0 X1
        obtain ⟨k, hk, rfl, own, X⟩ := hrel
        have hol := spState_len (bs.map (cn .f32)) k
        rw [List.length_map] at hol
        by_cases hlt : k < n
        · have HLE := Lib.hid (spState_le (bs.map (cn .f32)) k)
          have HBL := Lib.hid (spBest_lt (bs.map (cn .f32)) (spState (bs.map (cn .f32)) k))
          have HST : Hid (spState (bs.map (cn .f32)) (k + 1) = (spState (bs.map (cn .f32)) k).set (spBest (bs.map (cn .f32)) (spState (bs.map (cn .f32)) k) bs.length).1 ((spState (bs.map (cn .f32)) k).getD (spBest (bs.map (cn .f32)) (spState (bs.map (cn .f32)) k) bs.length).1 0 + 1)) := by
            show _ = _; conv => lhs; unfold spState
            rw [List.length_map]
          generalize spState (bs.map (cn .f32)) k = o at *
          go_wp2_with fail
          go_loopw [10, 8, 9] (fun i b m wz => ∃ (j bb mb : Nat), j ≤ bs.length ∧ i = .int .i64 j ∧ b = .int .i64 bb ∧ m = .float .f32 mb ∧ Hid (bb = (spBest (bs.map (cn .f32)) o j).1) ∧ Hid (cn .f32 mb = (spBest (bs.map (cn .f32)) o j).2) ∧ Ext wr wz) (fun i _ _ _ => bs.length - (intOf i).toNat)
          case atStart => exact ⟨0, 0, 0, Nat.zero_le _, rfl, rfl, rfl, rfl, rfl, Ext.refl _⟩
          case round =>
            obtain ⟨j, bb, mb, hj, rfl, rfl, rfl, Hbb, Hmb, X2⟩ := hrel
            by_cases hlt2 : j < bs.length
            · obtain ⟨b1, o1, rfl, hb1, hc1⟩ := ((r'.ext X).ext X2).at hlt2
              have own2 := own_ext own X2
              have hc2 := own2.cellAt j (by omega)
              have hgl := (own2.lt B rfl).2
              rw [List.getElem?_map, List.getElem?_eq_getElem (by omega)] at hc2
              simp only [Option.map_some, natV] at hc2
              have hoj : o[j]'(by omega) = o.getD j 0 := by simp [show j < o.length by omega]
              rw [hoj] at hc2
              have hok := HLE.out j
              have hmj : meanB (cn .f32 bs[j]) = true := by
                have h := HALL.out
                rw [List.all_eq_true] at h
                exact h _ (List.mem_map_of_mem (List.getElem_mem hlt2))
              have HMJ := Lib.hid hmj
              have HOK : o.getD j 0 ≤ 32 := by omega
              have HXJ : Hid (spX (bs.map (cn .f32)) o j = fop .sub .f32 sp1 (sumF (cn .f32 0) (needL (cn .f32 bs[j]) (o.getD j 0)))) := by
                show _ = _; unfold spX; simp [hlt2]
              generalize o.getD j 0 = oj at *
              clear hmj hoj hok
              go_wp2_with fail
              refine wp_region_rel 9 (fun _ v => FvP (sumF (cn .f32 0) (needL (cn .f32 bs[j]) oj)) v) (fun _ _ _ => True) (by kernel_rfl) (by kernel_rfl) (by kernel_rfl) ?_
              dsimp only [List.take, List.drop, List.length]
              refine LX_det (.slice (some ⟨b1, o1, none⟩) bs.length c1) rfl rfl (fun w' hx _ => ?_) ?_
              · go_simp
              refine LX_det (.int .i64 j) rfl rfl (fun w' hx _ => ?_) ?_
              · go_simp
              refine LX_det (.pointer (some ⟨b1, o1 + j, none⟩)) rfl rfl (fun w' hx _ => ?_) ?_
              · go_simp
              refine LX_det (.float .f32 bs[j]) rfl rfl (fun w' hx _ => ?_) ?_
              · have m := (Below.cell hx (p := ⟨b1, o1 + j, none⟩) hb1).trans hc1
                go_simp
              refine LX_det (.slice (some ⟨B, 0, none⟩) bs.length bs.length) rfl rfl (fun w' hx _ => ?_) ?_
              · go_simp
              refine LX_det (.int .i64 j) rfl rfl (fun w' hx _ => ?_) ?_
              · go_simp
              refine LX_det (.pointer (some ⟨B, j, none⟩)) rfl rfl (fun w' hx _ => ?_) ?_
              · go_simp
              refine LX_det (.int .i64 oj) rfl rfl (fun w' hx _ => ?_) ?_
              · have m := (Below.cell hx (p := ⟨B, j, none⟩) hgl).trans hc2
                go_simp
              refine LX_call rfl rfl (fun _ => St.top) (fun w' hx _ => ?_) ?_
              · go_simp
                refine UponC.enter ((l04Service_any bs[j] oj _ HMJ.out HOK).mono ?_)
                rintro e w'' ⟨x, rfl, hx1, hx2, hx'⟩
                exact ⟨_, rfl, hx', ⟨x, rfl, hx1, hx2⟩, trivial⟩
              rintro _ ⟨x, rfl, hx1, hx2⟩
              refine LX_nil fun w2 hx _ => ?_
              have HX1 := Lib.hid hx1
              have X3 := X2.trans hx
              clear hx hx1 hx2 hc2 own2 hgl
              simp only [Act.put, List.setIfInBounds_toArray, List.set_cons_succ, List.set_cons_zero]
              by_cases hj0 : j = 0
              · have HB1 : Hid (spBest (bs.map (cn .f32)) o (j + 1) = (j, spX (bs.map (cn .f32)) o j)) := spBest_yes (.inl hj0)
                have q0 : ((j : Int) == 0) = true := by rw [beq_iff_eq]; omega
                clear hj0
                go_wp2_with (first | (refine wpList_fop rfl rfl rfl rfl rfl ?_; intro fb nf hfb hfl; replace hfb := Lib.hid hfb; replace hfl := Lib.hid hfl))
                have hfx : Hid (cn .f32 fb = spX (bs.map (cn .f32)) o j) := by
                  show _ = _; rw [HXJ.out, hfb.out, HX1.out]; rfl
                go_roundw
                case rel => exact ⟨j + 1, j, fb, by omega, by go_num, rfl, rfl, by show _ = _; rw [HB1.out], by rw [HB1.out]; exact hfx.out, X3.trans (Ext.drewN _ _)⟩
                case measure => simp [intOf]; omega
              · have q0 : ((j : Int) == 0) = false := by rw [beq_eq_false_iff_ne]; omega
                cases hgt : fcmp .gtr .f32 (spX (bs.map (cn .f32)) o j) (spBest (bs.map (cn .f32)) o j).2
                · have HB1 : Hid (spBest (bs.map (cn .f32)) o (j + 1) = spBest (bs.map (cn .f32)) o j) := spBest_no hj0 hgt
                  have HG := Lib.hid hgt
                  clear hgt hj0
                  go_wp2_with (first | (refine wpList_fop rfl rfl rfl rfl rfl ?_; intro fb nf hfb hfl; replace hfb := Lib.hid hfb; replace hfl := Lib.hid hfl) | (refine wpList_fcmp (c := false) rfl rfl rfl rfl rfl (by rw [hfb.out, Hmb.out, HX1.out]; have h := HG.out; rw [HXJ.out] at h; exact h) ?_))
                  go_roundw
                  case rel => exact ⟨j + 1, bb, mb, by omega, by go_num, rfl, rfl, by rw [HB1.out]; exact Hbb.out, by rw [HB1.out]; exact Hmb.out, X3.trans (Ext.drewN _ _)⟩
                  case measure => simp [intOf]; omega
                · have HB1 : Hid (spBest (bs.map (cn .f32)) o (j + 1) = (j, spX (bs.map (cn .f32)) o j)) := spBest_yes (.inr hgt)
                  have HG := Lib.hid hgt
                  clear hgt hj0
                  go_wp2_with (first | (refine wpList_fop rfl rfl rfl rfl rfl ?_; intro fb nf hfb hfl; replace hfb := Lib.hid hfb; replace hfl := Lib.hid hfl) | (refine wpList_fcmp (c := true) rfl rfl rfl rfl rfl (by rw [hfb.out, Hmb.out, HX1.out]; have h := HG.out; rw [HXJ.out] at h; exact h) ?_))
                  have hfx : Hid (cn .f32 fb = spX (bs.map (cn .f32)) o j) := by
                    show _ = _; rw [HXJ.out, hfb.out, HX1.out]; rfl
                  go_roundw
                  case rel => exact ⟨j + 1, j, fb, by omega, by go_num, rfl, rfl, by show _ = _; rw [HB1.out], by rw [HB1.out]; exact hfx.out, X3.trans (Ext.drewN _ _)⟩
                  case measure => simp [intOf]; omega
            · obtain rfl : j = bs.length := by omega
              have own2 := own_ext own X2
              have hbl := HBL.out bs.length
              have hbb : bb < bs.length := by have := Hbb.out; omega
              have hc2 := own2.cellAt bb (by omega)
              rw [List.getElem?_map, List.getElem?_eq_getElem (by omega)] at hc2
              simp only [Option.map_some, natV] at hc2
              have hob : o[bb]'(by omega) = o.getD bb 0 := by simp [show bb < o.length by omega]
              rw [hob] at hc2
              have hle := HLE.out bb
              have hf2 := own2.frozenAt bb
              have HSB : Hid (spState (bs.map (cn .f32)) (k + 1) = o.set bb (o.getD bb 0 + 1)) := by show _ = _; rw [HST.out, ← Hbb.out]
              generalize o.getD bb 0 = ob at *
              clear hbl hob
              go_wp2_with fail
              go_roundw
              case rel =>
                refine ⟨k + 1, by omega, by go_num, ?_, Below.setCell (X.trans X2) (Nat.le_of_eq HB.out) _⟩
                have h := (own2.stored bb (natV (ob + 1))).1
                rw [← List.map_set, ← HSB.out] at h
                exact h
              case measure => simp [intOf]; omega
        · obtain rfl : k = n := by omega
          go_wp2_with fail
          go_ret2
          rw [HO.out]
          refine ⟨X, B, bs.length, ?_, ?_⟩
          · simp [hol]
          · rw [natV_map, List.length_map, hol, HB.out]; exact own
end Go.Proofs.Ytkkmhckhggggaaa
