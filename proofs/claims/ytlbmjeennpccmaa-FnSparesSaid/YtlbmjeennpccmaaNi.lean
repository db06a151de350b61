
/- The program's NeedShares: what it computes. No condition. -/
import Derived.Test.YtlbmjeennpccmaaNs
namespace Go.Proofs.Ytlbmjeennpccmaa
open Go Go.RowKit Go.ChangeShapes Go.WideShapes Go.ChangeAt

set_option maxRecDepth 100000 in
set_option maxHeartbeats 2000000 in
theorem implNeedShares_any (b : Nat) (c : Int) (w : World) :
    Calls Try.prog 23 #[.float .f32 b, .int .i64 c] w (FlPost (needO (cn .f32 b) c) w) := by
  cases hm : meanB (cn .f32 b)
  · have H : Hid (needO (cn .f32 b) c = none) := by show _ = _; simp [needO, hm]
    have Hm := Lib.hid hm
    clear hm
    go_enter Try.func23, Try.ntmps23
    go_wp2_with fail
    refine (isMean_eq Hm.out _).mono ?_
    rintro e w1 ⟨rfl, rfl⟩
    go_wp2_with fail
    go_ret2
    rw [H.out]
    exact ⟨Ext.refl _, rfl⟩
  · have Hm := Lib.hid hm
    clear hm
    cases hc : inB c 0 32
    · have H : Hid (needO (cn .f32 b) c = none) := by show _ = _; simp [needO, hc]
      have Hc := Lib.hid hc
      clear hc
      go_enter Try.func23, Try.ntmps23
      go_wp2_with fail
      refine (isMean_eq Hm.out _).mono ?_
      rintro e w1 ⟨rfl, rfl⟩
      go_wp2_with fail
      refine (within_eq Hc.out _).mono ?_
      rintro e w1 ⟨rfl, rfl⟩
      go_wp2_with fail
      go_ret2
      rw [H.out]
      exact ⟨Ext.refl _, rfl⟩
    · have hc0 := inB_iff.1 hc
      obtain ⟨n, rfl⟩ := Int.eq_ofNat_of_zero_le hc0.1
      have H : Hid (needO (cn .f32 b) n = some (needL (cn .f32 b) n)) := by show _ = _; simp [needO, hc, Hm.out]
      have Hc := Lib.hid hc
      have hn : n ≤ 32 := by omega
      clear hc
      go_enter Try.func23, Try.ntmps23
      go_wp2_with fail
      refine (isMean_eq Hm.out _).mono ?_
      rintro e w1 ⟨rfl, rfl⟩
      go_wp2_with fail
      refine (within_eq Hc.out _).mono ?_
      rintro e w1 ⟨rfl, rfl⟩
      have hx := neg_mean (mean_bp Hm.out) (inF32 (by decide) (by decide))
      have HX := Lib.hid hx
      clear hx
      go_wp2_with (first | (refine wpList_fcmp rfl rfl rfl rfl rfl (by first | with_reducible assumption | exact rfl) ?_) | (refine wpList_fop rfl rfl rfl rfl rfl ?_; intro fb nf hfb hfl; replace hfb := Lib.hid hfb; replace hfl := Lib.hid hfl))
      have hbb : fb = fop .sub .f32 (cn .f32 0) (cn .f32 b) := bits_of hfb.out HX.out.notN
      have HBB := Lib.hid hbb
      clear hbb
      refine (expNumber_any fb _ (by rw [HBB.out]; exact HX.out)).mono ?_
      rintro e w1 ⟨rfl, X⟩
      rw [HBB.out]
      replace X : Ext w w1 := (Ext.drewN _ _).trans X
      generalize hE : expF (fop .sub .f32 (cn .f32 0) (cn .f32 b)) = E
      have HE := Lib.hid hE
      clear hE
      have HE1 : Hid (cn .f32 E = E ∧ E < 4294967296) := by
        rw [← HE.out]
        refine ⟨cn_of_not (expF_bp HX.out).notN, ?_⟩
        rw [expF_eq]; unfold narrowF
        exact Ieee.Format.write_lt Ieee.single _
      go_wp2_with fail
      go_loopw [6, 7] (fun l i wr => ∃ (j g cap : Nat) (us : List Nat), j ≤ n ∧ l = .slice (some ⟨g, 0, none⟩) (j + 1) cap ∧ i = .int .i64 ((j : Int) + 1) ∧ us.length = j + 1 ∧ Hid (us.map (cn .f32) = needL (cn .f32 b) j) ∧ Hid (∀ b ∈ us, b < 4294967296) ∧
          wr.ownsRow w.heap.size 24 1 (.slice (some ⟨g, 0, none⟩) (j + 1) cap) (j + 1) (us.map (Value.float .f32)) ∧ Ext w wr) (fun _ i _ => n + 1 - (intOf i).toNat)
      case atStart =>
        refine ⟨0, w1.heap.size, 1, [E], by omega, rfl, rfl, rfl, ?_, ?_, ?_, Ext.trans X (Ext.alloc _ _)⟩
        · show _ = _
          rw [List.map_cons, List.map_nil, HE1.out.1, ← HE.out]
          rfl
        · show ∀ _ ∈ _, _; intro b hb; simp at hb; subst hb; exact HE1.out.2
        · exact World.ownsRow.mono (World.ownsRow_lit w1 #[.float .f32 E] 1 (Nat.le_refl _) (by decide) rfl) X.size
      case round =>
        obtain ⟨j, g, cap, us, hj, rfl, rfl, hus, Hl, Hb, own, X1⟩ := hrel
        by_cases hlt : j < n
        · have hc0 := own.cellAt j (by omega)
          rw [List.getElem?_map, List.getElem?_eq_getElem (by omega)] at hc0
          simp only [Option.map_some] at hc0
          have hg0 := (own.lt g rfl).2
          go_wp2_with (first | (refine wpList_fop rfl rfl rfl rfl rfl ?_; intro fb nf hfb hfl; replace hfb := Lib.hid hfb; replace hfl := Lib.hid hfl) | (at_builtin; refine wpList_push (v := .slice (some ⟨g, 0, none⟩) (j + 1) cap) infoF32 rfl Try.underlying33 rfl rfl rfl (World.ownsRow.alloc (w := World.drewN _ _) own _) rfl (Bx.new _ [_] _).one rfl (by omega) (by decide) (X1.trans ((Ext.drewN _ _).trans (Ext.alloc _ _))).size ?_; intro g2 cap2 w4 hg2 own2 bel2 sz2))
          rename_i a1 n1 e1 l1
          go_roundw
          case rel =>
            have hX : Hid (cn .f32 fb = needStep (cn .f32 b) ((needL (cn .f32 b) j).getD j 0) (j + 1)) := by
              show _ = _
              rw [← Hl.out]
              simp only [List.getD_eq_getElem?_getD, List.getElem?_map, List.getElem?_eq_getElem (show j < us.length by omega), Option.map_some, Option.getD_some]
              rw [hfb.out, e1.out, cn_ofI]
              rfl
            refine ⟨j + 1, g2, cap2, us ++ [fb], by omega, rfl, by go_num, by simp [hus], ?_, ?_, by rw [List.map_append]; exact own2, bel2 _ (X1.trans ((Ext.drewN _ _).trans (Ext.alloc _ _)))⟩
            · show _ = _
              rw [List.map_append, Hl.out, List.map_cons, hX.out]
              rfl
            · show ∀ _ ∈ _, _
              intro x hx
              rcases List.mem_append.1 hx with h | h
              · exact Hb.out x h
              · obtain rfl := List.mem_singleton.1 h
                exact hfl.out
          case measure => simp [intOf]; omega
        · have hjn : j = n := by omega
          have Hl2 : Hid (us.map (cn .f32) = needL (cn .f32 b) n) := by rw [← hjn]; exact Hl
          clear hjn
          have R : RdF wr (.slice (some ⟨g, 0, none⟩) (j + 1) cap) us := ⟨by rw [hus]; exact own_rd own, Hb.out⟩
          go_wp2_with fail
          refine (ifAll_any _ us _ R).mono ?_
          rintro e w2 ⟨rfl, hx⟩
          have HF : Hid (finAll (us.map (cn .f32)) = true) := by show _ = _; rw [Hl2.out]; exact need_fin Hm.out n hn
          rw [HF.out]
          dsimp only [orNil, if_true]
          go_wp2_with fail
          go_ret2
          rw [H.out]
          rw [← hus] at own ⊢
          exact ⟨X1.trans hx, g, cap, us, rfl, Hl2.out, Hb.out, own_ext own hx⟩
end Go.Proofs.Ytlbmjeennpccmaa
