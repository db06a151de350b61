
/- FnExactHazardSums returns true for every input and changes nothing that was there. No condition. -/
import Derived.Test.YtlbmjeennpccmaaLv
import Derived.Test.YtlbmjeennpccmaaLA
namespace Go.Proofs.Ytlbmjeennpccmaa
open Go Go.RowKit Go.ChangeShapes Go.WideShapes Go.ChangeAt

attribute [local go_sem] run_store_float

def hzO (ls : List Lf) : Option (List Nat) := if livesB ls then some (hazL ls) else none

set_option maxRecDepth 100000 in
set_option maxHeartbeats 8000000 in
theorem implHazardSums_any (v : Value) (ls : List Lf) (w : World) (r : RdL w v ls) : Calls Try.prog 38 #[v] w (FlPost (hzO ls) w) := by
  cases h : livesB ls
  · have H : Hid (hzO ls = none) := by show _ = _; unfold hzO; rw [h]; rfl
    have HA := Lib.hid (areLives_any v ls w r)
    rw [h] at HA
    clear h
    obtain ⟨⟨_, a1, c1, rfl, p1, p2, _, _⟩, _⟩ := r
    go_enter Try.func38, Try.ntmps38
    go_wp2_with fail
    refine HA.out.mono ?_
    rintro e w1 ⟨rfl, X⟩
    go_wp2_with fail
    go_ret2
    rw [H.out]
    exact ⟨X, rfl⟩
  · have H : Hid (hzO ls = some (hazL ls)) := by show _ = _; unfold hzO; rw [h]; rfl
    have HV := Lib.hid (areLives_any v ls w r)
    have hl := livesB_len h
    have hok := livesB_ok h r.2
    have hz : ls.length ≤ 1048576 := by omega
    have HF := Lib.hid (fun W r => failures_any v ls W r hl.1 hz hok)
    have HA := Lib.hid (fun W r t => at_any v ls t W r hz)
    have HTR := Lib.hid (fun (W : World) (B g cap : Nat) => times_rd (w := W) (B := B) (g := g) (cap := cap) hok)
    have hlen := timesL_len ls
    have r' := r
    rw [h] at HV
    clear h hok hl
    obtain ⟨⟨-, a1, c1, rfl, -, -, -, -⟩, -⟩ := r
    go_enter Try.func38, Try.ntmps38
    go_wp2_with fail
    refine HV.out.mono ?_
    rintro e w0 ⟨rfl, X0⟩
    go_wp2_with fail
    refine (HF.out _ ((r'.ext X0).ext (Ext.alloc _ _))).mono ?_
    rintro e w1 ⟨g, cap, rfl, own, X1⟩
    have X : Ext w0 w1 := (Ext.alloc _ _).trans X1
    have R := HTR.out _ _ _ _ own
    have o0 : w1.ownsRow w0.heap.size 24 1 (.slice (some ⟨w0.heap.size, 0, none⟩) 0 0) 0 [] := own_ext (World.ownsRow_lit (base := w0.heap.size) (e := 24) (size := 1) w0 #[] 0 (Nat.le_refl _) (by decide) rfl) X1
    have HTS : Hid (hazL ls = scanK (hazF ls) (cn .f32 0) (timesL ls) (timesL ls).length) := rfl
    generalize timesL ls = T at *
    clear HF HTR own X1 HV
    go_wp2_with fail
    go_loopw [17, 5, 4] (fun i s o wr => ∃ (k sb g2 cap2 : Nat) (us : List Nat), k ≤ T.length ∧ i = .int .i64 k ∧ s = .float .f32 sb ∧ o = .slice (some ⟨g2, 0, none⟩) k cap2 ∧ us.length = k ∧ Hid (cn .f32 sb = accK (hazF ls) (cn .f32 0) T k) ∧ Hid (us.map (cn .f32) = scanK (hazF ls) (cn .f32 0) T k) ∧ Hid (∀ b ∈ us, b < 4294967296) ∧
        OutF w0.heap.size w1.heap.size wr g2 cap2 k (us.map (Value.float .f32)) ∧ Ext w1 wr) (fun i _ _ _ => T.length - (intOf i).toNat)
    case atStart => exact ⟨0, 0, _, _, [], Nat.zero_le _, rfl, rfl, rfl, rfl, rfl, rfl, (by show ∀ _ ∈ _, _; simp), .inl ⟨rfl, rfl, rfl, rfl⟩, Ext.refl _⟩
    case round =>
      obtain ⟨k, sb, g2, cap2, us, hk, rfl, rfl, rfl, hul, HS, HU, HB, own, X2⟩ := hrel
      by_cases hlt : k < T.length
      · obtain ⟨b1, o1, hbo, hb1, hc1⟩ := (R.ext X2).at hlt
        obtain ⟨rfl, rfl⟩ : g = b1 ∧ 0 = o1 := by simpa using hbo
        rw [Nat.zero_add] at hc1
        have HSU : Hid (accK (hazF ls) (cn .f32 0) T (k + 1) = fop .add .f32 (accK (hazF ls) (cn .f32 0) T k) (quotL ls T[k])) := accK_succ hlt
        have HSC := Lib.hid (scanK_succ (hazF ls) (cn .f32 0) T k)
        generalize T[k] = t at *
        have HQ : Hid (quotL ls t = fop .quo .f32 (cn .f32 (floatOfInt .f32 (cntB (fellB t) ls))) (cn .f32 (floatOfInt .f32 (cntB (riskB t) ls)))) := by show _ = _; rw [cn_ofI, cn_ofI]; rfl
        have HAT := Lib.hid (fun W r => HA.out W r t)
        generalize floatOfInt .f32 (cntB (fellB t) ls) = fa at *
        generalize floatOfInt .f32 (cntB (riskB t) ls) = ra at *
        clear hbo
        go_wp2_with fail
        refine (HAT.out _ (((r'.ext X0).ext X).ext X2)).mono ?_
        rintro e w2 ⟨rfl, hx⟩
        replace X2 := X2.trans hx
        replace own := own.ext hx
        clear hx hc1 hb1
        rcases own with ⟨rfl, rfl, rfl, hv⟩ | ⟨hk0, own⟩
        · have hu0 : us = [] := List.eq_nil_of_length_eq_zero hul
          subst hu0
          clear hv
          go_wp2_with (first | (refine wpList_fop rfl rfl rfl rfl rfl ?_; intro fb nf hfb hfl; replace hfb := Lib.hid hfb; replace hfl := Lib.hid hfl) | (at_builtin; refine wpList_push0 infoF32 rfl Try.underlying33 rfl rfl rfl rfl (Bx.new _ [_] _).one rfl (by decide) ?_; intro g3 cap3 w4 own3 hx3))
          rename_i b1 n1 e1 l1
          have N1 : Hid (cn .f32 fb = accK (hazF ls) (cn .f32 0) T (0 + 1)) := by
            show _ = _; rw [HSU.out, hfb.out, e1.out, HS.out, HQ.out]
          have N2 : Hid (([] ++ [fb]).map (cn .f32) = scanK (hazF ls) (cn .f32 0) T (0 + 1)) := by
            show _ = _; rw [List.map_append, HU.out, HSC.out, List.map_cons, N1.out]; rfl
          have N3 : Hid (∀ b ∈ [] ++ [fb], b < 4294967296) := by
            show ∀ _ ∈ _, _
            intro x hx
            rcases List.mem_append.1 hx with h | h
            · exact HB.out x h
            · obtain rfl := List.mem_singleton.1 h; exact hfl.out
          go_roundw
          case rel => exact ⟨1, fb, g3, cap3, [] ++ [fb], by omega, by go_num, rfl, rfl, rfl, N1, N2, N3, .inr ⟨by omega, World.ownsRow.mono own3 (by have := X2.size; simp; omega)⟩, X2.trans ((Ext.drewN _ _).trans ((Ext.alloc _ _).trans hx3))⟩
          case measure => simp [intOf]; omega
        · go_wp2_with (first | (refine wpList_fop rfl rfl rfl rfl rfl ?_; intro fb nf hfb hfl; replace hfb := Lib.hid hfb; replace hfl := Lib.hid hfl) | (at_builtin; refine wpList_push (v := .slice (some ⟨g2, 0, none⟩) k cap2) infoF32 rfl Try.underlying33 rfl rfl rfl (World.ownsRow.alloc (w := World.drewN _ _) (own_ext own (Ext.drewN _ _)) _) rfl (Bx.new _ [_] _).one rfl (by omega) (by decide) (X2.trans ((Ext.drewN _ _).trans (Ext.alloc _ _))).size ?_; intro g3 cap3 w4 hg3 own3 bel3 sz3))
          rename_i b1 n1 e1 l1
          have N1 : Hid (cn .f32 fb = accK (hazF ls) (cn .f32 0) T (k + 1)) := by
            show _ = _; rw [HSU.out, hfb.out, e1.out, HS.out, HQ.out]
          have N2 : Hid ((us ++ [fb]).map (cn .f32) = scanK (hazF ls) (cn .f32 0) T (k + 1)) := by
            show _ = _; rw [List.map_append, HU.out, HSC.out, List.map_cons, N1.out]; rfl
          have N3 : Hid (∀ b ∈ us ++ [fb], b < 4294967296) := by
            show ∀ _ ∈ _, _
            intro x hx
            rcases List.mem_append.1 hx with h | h
            · exact HB.out x h
            · obtain rfl := List.mem_singleton.1 h; exact hfl.out
          go_roundw
          case rel => exact ⟨k + 1, fb, g3, cap3, us ++ [fb], by omega, by go_num, rfl, rfl, by simp [hul], N1, N2, N3, .inr ⟨by omega, by rw [List.map_append]; exact own3⟩, bel3 _ (X2.trans ((Ext.drewN _ _).trans (Ext.alloc _ _)))⟩
          case measure => simp [intOf]; omega
      · obtain rfl : k = T.length := by omega
        go_wp2_with fail
        go_ret2
        rw [H.out, HTS.out]
        have hU := HU.out
        have hB := HB.out
        rcases own with ⟨h1, rfl, rfl, hv⟩ | ⟨_, own⟩
        · refine ⟨X0.trans (X.trans X2), w0.heap.size, 0, us, by rw [hul]; rfl, hU, hB, ?_⟩
          rw [hul, h1, hv]; exact World.ownsRow.mono (own_ext o0 X2) X0.size
        · exact ⟨X0.trans (X.trans X2), g2, cap2, us, by rw [hul]; rfl, hU, hB, by rw [hul]; exact World.ownsRow.mono own (X0.trans X).size⟩


end Go.Proofs.Ytlbmjeennpccmaa
