
/- The times of failures: the reference. Condition: valid lives. -/
import Derived.Test.YtlbmjeennpccmaaLt
namespace Go.Proofs.Ytlbmjeennpccmaa
open Go Go.RowKit Go.ChangeShapes Go.WideShapes Go.ChangeAt

attribute [local go_sem] run_store_float
attribute [local irreducible] LX

set_option maxRecDepth 100000 in
set_option maxHeartbeats 8000000 in
theorem l02Times_any (v : Value) (ls : List Lf) (w : World) (r : RdL w v ls) (h0 : 0 < ls.length) (hz : ls.length ≤ 1048576) (hok : AllOk ls) :
    Calls Try.prog 44 #[v] w fun e w' => ∃ g cap, e = .returned (.slice (some ⟨g, 0, none⟩) (timesL ls).length cap) ∧ w'.ownsRow w.heap.size 24 1 (.slice (some ⟨g, 0, none⟩) (timesL ls).length cap) (timesL ls).length ((timesL ls).map (Value.float .f32)) ∧ Ext w w' := by
  have HOK : Hid (AllOk (ordL ls)) := hok.perm (ordL_perm ls)
  have HO := Lib.hid (l02Order_any v ls w r h0 hz hok)
  have HLT : Hid (∀ x ∈ ordL ls, x.1 < 4294967296) := fun x hx => r.2 x ((ordL_perm ls).mem_iff.1 hx)
  clear hok
  obtain ⟨⟨-, a1, c1, rfl, -, -, -, -⟩, -⟩ := r
  go_enter Try.func44, Try.ntmps44
  go_wp2_with fail
  refine HO.out.mono ?_
  rintro e w1 ⟨g, cap, rfl, own, X⟩
  have R : RdL w1 (.slice (some ⟨g, 0, none⟩) ls.length cap) (ordL ls) := by have := own.rd HLT.out; rw [ordL_len] at this; exact this
  have hol := ordL_len ls
  have HTL : Hid (timesL ls = timesK (ordL ls) ls.length) := rfl
  generalize ordL ls = os at *
  generalize hn : ls.length = n at *
  clear HO own
  go_wp2_with fail
  go_loopw [5, 4] (fun i v wr => ∃ (k m g2 cap2 : Nat), k ≤ n ∧ i = .int .i64 k ∧ v = .slice (some ⟨g2, 0, none⟩) m cap2 ∧ Hid (m = (timesK os k).length) ∧ wr.ownsRow w1.heap.size 24 1 (.slice (some ⟨g2, 0, none⟩) m cap2) m ((timesK os k).map (Value.float .f32)) ∧ Ext w1 wr) (fun i _ _ => n - (intOf i).toNat)
  case atStart => exact ⟨0, 0, _, _, Nat.zero_le _, rfl, rfl, rfl, World.ownsRow_lit w1 #[] 0 (Nat.le_refl _) (by decide) rfl, Ext.alloc _ _⟩
  case round =>
    obtain ⟨k, m, g2, cap2, hk, rfl, rfl, HM, own, X2⟩ := hrel
    by_cases hlt : k < n
    · obtain ⟨b1, o1, hbo, hb1, hc1, hd1⟩ := (R.ext X2).at (k := k) (by omega)
      have hlo : k < os.length := by omega
      have HST := Lib.hid (timesK_succ hlo)
      have hpx : okL os[k] := HOK.out _ (List.getElem_mem hlo)
      have hml := timesK_len os k
      have HPT := Lib.hid (timesK_pos HOK.out k)
      have hkn : (k : Int) < (n : Int) := by omega
      generalize os[k] = x at *
      generalize timesK os k = T at *
      have HPX := Lib.hid hpx
      obtain ⟨rfl, rfl⟩ : g = b1 ∧ 0 = o1 := by simpa using hbo
      rw [Nat.zero_add] at hc1 hd1
      clear hpx hbo
      have hgl := (World.ownsRow.lt own g2 rfl).2
      obtain ⟨xa, xb⟩ := x
      simp only at hc1 hd1
      cases xb
      · have HN : Hid (timesK os (k + 1) = T) := by show _ = _; rw [HST.out]; exact timeStep_no rfl
        clear HST
        go_wp2_with fail
        refine wp_region_rel 22 (fun _ _ => True) (fun _ _ _ => True) (by kernel_rfl) (by kernel_rfl) (by kernel_rfl) ?_
        dsimp only [List.take, List.drop, List.length]
        refine LX_det (.slice (some ⟨g, 0, none⟩) n cap) (by kernel_rfl) rfl (fun w' hx _ => ?_) ?_
        · go_simp
        refine LX_det (.int .i64 k) (by kernel_rfl) rfl (fun w' hx _ => ?_) ?_
        · go_simp
        refine LX_det (.pointer (some ⟨g, k * 2, none⟩)) (by kernel_rfl) rfl (fun w' hx _ => ?_) ?_
        · go_simp
        refine LX_det (.pointer (some ⟨g, k * 2 + 1, none⟩)) (by kernel_rfl) rfl (fun w' hx _ => ?_) ?_
        · go_simp
        refine LX_det (.bool false) (by kernel_rfl) rfl (fun w' hx _ => ?_) ?_
        · have m0 := (Below.cell hx (p := ⟨g, k * 2 + 1, none⟩) hb1).trans hd1
          go_simp
        refine LX_det (.bool false) (by kernel_rfl) rfl (fun w' hx _ => ?_) ?_
        · go_simp
        iterate 15 refine LX_skip (by kernel_rfl) ?_
        refine LX_det (.bool false) (by kernel_rfl) rfl (fun w' hx _ => ?_) ?_
        · go_simp
        refine LX_nil fun w2 hx _ => ?_
        refine wpList_nil ?_
        simp only [Act.put, List.setIfInBounds_toArray, List.set_cons_succ, List.set_cons_zero]
        replace own := own_ext own hx
        replace X2 := X2.trans hx
        clear hx hc1 hd1 hb1 hgl
        go_wp2_with fail
        go_roundw
        case rel => exact ⟨k + 1, m, g2, cap2, by omega, by go_num, rfl, by rw [HN.out]; exact HM, by rw [HN.out]; exact own, X2⟩
        case measure => simp [intOf]; omega
      · by_cases hT0 : T = []
        · have hm0 : m = 0 := by rw [HM.out, hT0]; rfl
          have HN : Hid (timesK os (k + 1) = [xa]) := by show _ = _; rw [HST.out, hT0]; exact timeStep_new rfl
          subst hm0
          rw [hT0] at own
          clear HST hT0
          go_wp2_with fail
          refine wp_region_rel 22 (fun _ _ => True) (fun _ _ _ => True) (by kernel_rfl) (by kernel_rfl) (by kernel_rfl) ?_
          dsimp only [List.take, List.drop, List.length]
          refine LX_det (.slice (some ⟨g, 0, none⟩) n cap) (by kernel_rfl) rfl (fun w' hx _ => ?_) ?_
          · go_simp
          refine LX_det (.int .i64 k) (by kernel_rfl) rfl (fun w' hx _ => ?_) ?_
          · go_simp
          refine LX_det (.pointer (some ⟨g, k * 2, none⟩)) (by kernel_rfl) rfl (fun w' hx _ => ?_) ?_
          · go_simp
          refine LX_det (.pointer (some ⟨g, k * 2 + 1, none⟩)) (by kernel_rfl) rfl (fun w' hx _ => ?_) ?_
          · go_simp
          refine LX_det (.bool true) (by kernel_rfl) rfl (fun w' hx _ => ?_) ?_
          · have m0 := (Below.cell hx (p := ⟨g, k * 2 + 1, none⟩) hb1).trans hd1
            go_simp
          refine LX_det (.bool true) (by kernel_rfl) rfl (fun w' hx _ => ?_) ?_
          · go_simp
          refine LX_det (.int .i64 0) (by kernel_rfl) rfl (fun w' hx _ => ?_) ?_
          · go_simp
          refine LX_det (.bool true) (by kernel_rfl) rfl (fun w' hx _ => ?_) ?_
          · go_simp
          refine LX_det (.bool true) (by kernel_rfl) rfl (fun w' hx _ => ?_) ?_
          · go_simp
          iterate 11 refine LX_skip (by kernel_rfl) ?_
          refine LX_det (.bool true) (by kernel_rfl) rfl (fun w' hx _ => ?_) ?_
          · go_simp
          refine LX_det (.bool true) (by kernel_rfl) rfl (fun w' hx _ => ?_) ?_
          · go_simp
          refine LX_nil fun w2 hx _ => ?_
          refine wpList_nil ?_
          simp only [Act.put, List.setIfInBounds_toArray, List.set_cons_succ, List.set_cons_zero]
          replace own := own_ext own hx
          replace X2 := X2.trans hx
          have hc1' := (Below.cell hx (p := ⟨g, k * 2, none⟩) hb1).trans hc1
          clear hx hc1 hd1 hb1 hgl
          go_wp2_with (at_builtin; refine wpList_push (v := .slice (some ⟨g2, 0, none⟩) 0 cap2) infoF32 rfl Try.underlying33 rfl rfl rfl (World.ownsRow.alloc own _) rfl (Bx.new _ [_] _).one rfl (by omega) (by decide) (X2.trans (Ext.alloc _ _)).size ?_; intro g3 cap3 w4 hg3 own3 bel3 sz3)
          go_roundw
          case rel => exact ⟨k + 1, 1, g3, cap3, by omega, by go_num, rfl, by rw [HN.out]; rfl, by rw [HN.out]; exact own3, bel3 _ (X2.trans (Ext.alloc _ _))⟩
          case measure => simp [intOf]; omega
        · have hm0 : 0 < m := by rw [HM.out]; exact List.length_pos_iff.2 hT0
          have hmT : T.length = m := HM.out.symm
          have ht0 := World.ownsRow.cellAt own (m - 1) (by omega)
          rw [List.getElem?_map, List.getElem?_eq_getElem (by omega)] at ht0
          simp only [Option.map_some] at ht0
          have hgd : T.getD (T.length - 1) 0 = T[m - 1]'(by omega) := by
            have e : T.length - 1 = m - 1 := by omega
            rw [e, List.getD_eq_getElem?_getD, List.getElem?_eq_getElem (by omega)]; rfl
          have hpt : posW (T[m - 1]'(by omega)) := HPT.out _ (List.getElem_mem _)
          have hcm := (pos_cmp hpt HPX.out).1
          have HSAME : Hid (T[m - 1]'(by omega) = xa → timesK os (k + 1) = T) := fun h => by rw [HST.out]; exact timeStep_same hT0 (hgd.trans h)
          have HDIFF : Hid (T[m - 1]'(by omega) ≠ xa → timesK os (k + 1) = T ++ [xa]) := fun h => by rw [HST.out]; exact timeStep_other rfl (by rw [hgd]; exact h)
          generalize T[m - 1]'(by omega) = tl at *
          obtain ⟨q, hq⟩ : ∃ q, q + 1 = m := ⟨m - 1, by omega⟩
          rw [show m - 1 = q by omega] at ht0
          have q0 : ((m : Int) == 0) = false := by rw [beq_eq_false_iff_ne]; omega
          have q1 : ¬ (m : Int) = 0 := by omega
          have q2 : ¬ m = 0 := by omega
          have hqm : m ≤ 1048576 := by omega
          have s1 : IntKind.i64.wrap ((m : Int) - 1) = (q : Int) := by have := IntWalk.i64_in ((m : Int) - 1) (by omega); rw [this]; omega
          have s2 : (q : Int) < (m : Int) := by omega
          have s3 : q < m := by omega
          have HQ := Lib.hid hq
          clear hq HST hT0 hgd hpt hmT hm0
          go_wp2_with fail
          refine wp_region_rel 22 (fun _ _ => True) (fun _ _ _ => True) (by kernel_rfl) (by kernel_rfl) (by kernel_rfl) ?_
          dsimp only [List.take, List.drop, List.length]
          refine LX_det (.slice (some ⟨g, 0, none⟩) n cap) (by kernel_rfl) rfl (fun w' hx _ => ?_) ?_
          · go_simp
          refine LX_det (.int .i64 k) (by kernel_rfl) rfl (fun w' hx _ => ?_) ?_
          · go_simp
          refine LX_det (.pointer (some ⟨g, k * 2, none⟩)) (by kernel_rfl) rfl (fun w' hx _ => ?_) ?_
          · go_simp
          refine LX_det (.pointer (some ⟨g, k * 2 + 1, none⟩)) (by kernel_rfl) rfl (fun w' hx _ => ?_) ?_
          · go_simp
          refine LX_det (.bool true) (by kernel_rfl) rfl (fun w' hx _ => ?_) ?_
          · have m0 := (Below.cell hx (p := ⟨g, k * 2 + 1, none⟩) hb1).trans hd1
            go_simp
          refine LX_det (.bool true) (by kernel_rfl) rfl (fun w' hx _ => ?_) ?_
          · go_simp
          refine LX_det (.int .i64 m) (by kernel_rfl) rfl (fun w' hx _ => ?_) ?_
          · go_simp
          refine LX_det (.bool false) (by kernel_rfl) rfl (fun w' hx _ => ?_) ?_
          · go_simp
          refine LX_det (.bool false) (by kernel_rfl) rfl (fun w' hx _ => ?_) ?_
          · go_simp
          refine LX_det (.slice (some ⟨g2, 0, none⟩) m cap2) (by kernel_rfl) rfl (fun w' hx _ => ?_) ?_
          · go_simp
          refine LX_det (.int .i64 m) (by kernel_rfl) rfl (fun w' hx _ => ?_) ?_
          · go_simp
          refine LX_det (.int .i64 q) (by kernel_rfl) rfl (fun w' hx _ => ?_) ?_
          · go_simp
          refine LX_det (.pointer (some ⟨g2, q, none⟩)) (by kernel_rfl) rfl (fun w' hx _ => ?_) ?_
          · go_simp
          refine LX_det (.float .f32 tl) (by kernel_rfl) rfl (fun w' hx _ => ?_) ?_
          · have m0 := (Below.cell hx (p := ⟨g2, q, none⟩) hgl).trans ht0
            go_simp
          refine LX_det (.slice (some ⟨g, 0, none⟩) n cap) (by kernel_rfl) rfl (fun w' hx _ => ?_) ?_
          · go_simp
          refine LX_det (.int .i64 k) (by kernel_rfl) rfl (fun w' hx _ => ?_) ?_
          · go_simp
          refine LX_det (.pointer (some ⟨g, k * 2, none⟩)) (by kernel_rfl) rfl (fun w' hx _ => ?_) ?_
          · go_simp
          refine LX_det (.pointer (some ⟨g, k * 2, none⟩)) (by kernel_rfl) rfl (fun w' hx _ => ?_) ?_
          · go_simp
          refine LX_det (.float .f32 xa) (by kernel_rfl) rfl (fun w' hx _ => ?_) ?_
          · have m0 := (Below.cell hx (p := ⟨g, k * 2, none⟩) hb1).trans hc1
            go_simp
          simp only [Act.put, List.setIfInBounds_toArray, List.set_cons_succ, List.set_cons_zero]
          refine LX_fcmp (by kernel_rfl) rfl rfl rfl rfl hcm ?_
          by_cases he : tl = xa
          · have hd : decide (tl ≠ xa) = false := by simp [he]
            have HN := Lib.hid (HSAME.out he)
            rw [hd]
            clear hcm hd he HSAME HDIFF
            refine LX_det (.bool false) (by kernel_rfl) rfl (fun w' hx _ => ?_) ?_
            · go_simp
            refine LX_det (.bool false) (by kernel_rfl) rfl (fun w' hx _ => ?_) ?_
            · go_simp
            refine LX_nil fun w2 hx _ => ?_
            refine wpList_nil ?_
            simp only [Act.put, List.setIfInBounds_toArray, List.set_cons_succ, List.set_cons_zero]
            replace own := own_ext own hx
            replace X2 := X2.trans hx
            clear hx hc1 hd1 hb1 hgl ht0
            go_wp2_with fail
            go_roundw
            case rel => exact ⟨k + 1, m, g2, cap2, by omega, by go_num, rfl, by rw [HN.out]; exact HM, by rw [HN.out]; exact own, X2⟩
            case measure => simp [intOf]; omega
          · have hd : decide (tl ≠ xa) = true := by simp [he]
            have HN := Lib.hid (HDIFF.out he)
            rw [hd]
            clear hcm hd he HSAME HDIFF
            refine LX_det (.bool true) (by kernel_rfl) rfl (fun w' hx _ => ?_) ?_
            · go_simp
            refine LX_det (.bool true) (by kernel_rfl) rfl (fun w' hx _ => ?_) ?_
            · go_simp
            refine LX_nil fun w2 hx _ => ?_
            refine wpList_nil ?_
            simp only [Act.put, List.setIfInBounds_toArray, List.set_cons_succ, List.set_cons_zero]
            replace own := own_ext own hx
            replace X2 := X2.trans hx
            have hc1' := (Below.cell hx (p := ⟨g, k * 2, none⟩) hb1).trans hc1
            clear hx hc1 hd1 hb1 hgl ht0
            go_wp2_with (at_builtin; refine wpList_push (v := .slice (some ⟨g2, 0, none⟩) m cap2) infoF32 rfl Try.underlying33 rfl rfl rfl (World.ownsRow.alloc own _) rfl (Bx.new _ [_] _).one rfl (by omega) (by decide) (X2.trans (Ext.alloc _ _)).size ?_; intro g3 cap3 w4 hg3 own3 bel3 sz3)
            go_roundw
            case rel => exact ⟨k + 1, m + 1, g3, cap3, by omega, by go_num, rfl, by rw [HN.out, List.length_append, ← HM.out]; rfl, by rw [HN.out, List.map_append]; exact own3, bel3 _ (X2.trans (Ext.alloc _ _))⟩
            case measure => simp [intOf]; omega
    · obtain rfl : k = n := by omega
      go_wp2_with fail
      go_ret
      have h := HM.out
      have hT := HTL.out
      rw [hT]
      subst h
      exact ⟨g2, cap2, rfl, World.ownsRow.mono own X.size, X.trans X2⟩
end Go.Proofs.Ytlbmjeennpccmaa
