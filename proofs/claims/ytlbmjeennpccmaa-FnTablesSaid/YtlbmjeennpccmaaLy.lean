
/- Tables behind failures: the reference; FnExactSurvivorTable and FnExactHazardSums, what both sides hand back. Condition: valid lives. -/
import Derived.Test.YtlbmjeennpccmaaLv
import Derived.Test.YtlbmjeennpccmaaLA
namespace Go.Proofs.Ytlbmjeennpccmaa
open Go Go.RowKit Go.ChangeShapes Go.WideShapes Go.ChangeAt

attribute [local go_sem] run_store_float

set_option maxRecDepth 100000 in
set_option maxHeartbeats 8000000 in
theorem l02Table_any (v : Value) (ls : List Lf) (w : World) (r : RdL w v ls) (h0 : 0 < ls.length) (hz : ls.length ≤ 1048576) (hok : AllOk ls) :
    Calls Try.prog 55 #[v] w fun e w' => ∃ v', e = .returned v' ∧ OwN w.heap.size w' v' (survL ls) ∧ Ext w w' := by
  have HF := Lib.hid (l02Times_any v ls w r h0 hz hok)
  have HA := Lib.hid (fun W r t => l02Quotient_any v ls t W r hz)
  have HTR := Lib.hid (fun (W : World) (B g cap : Nat) => times_rd (w := W) (B := B) (g := g) (cap := cap) hok)
  have hlen := timesL_len ls
  have r' := r
  clear hok
  obtain ⟨⟨-, a1, c1, rfl, -, -, -, -⟩, -⟩ := r
  go_enter Try.func55, Try.ntmps55
  go_wp2_with fail
  refine HF.out.mono ?_
  rintro e w1 ⟨g, cap, rfl, own, X⟩
  have R := HTR.out _ _ _ _ own
  have HTS : Hid (survL ls = scanK (survF ls) one1 (timesL ls) (timesL ls).length) := rfl
  generalize timesL ls = T at *
  clear HF HTR own
  go_wp2_with fail
  go_loopw [6, 5, 4] (fun i s o wr => ∃ (k sb g2 cap2 : Nat) (us : List Nat), k ≤ T.length ∧ i = .int .i64 k ∧ s = .float .f32 sb ∧ o = .slice (some ⟨g2, 0, none⟩) k cap2 ∧ us.length = k ∧ Hid (cn .f32 sb = accK (survF ls) one1 T k) ∧ Hid (us.map (cn .f32) = scanK (survF ls) one1 T k) ∧ Hid (∀ b ∈ us, b < 4294967296) ∧
      wr.ownsRow w1.heap.size 24 1 (.slice (some ⟨g2, 0, none⟩) k cap2) k (us.map (Value.float .f32)) ∧ Ext w1 wr) (fun i _ _ _ => T.length - (intOf i).toNat)
  case atStart => exact ⟨0, 1065353216, _, _, [], Nat.zero_le _, rfl, rfl, rfl, rfl, rfl, rfl, (by show ∀ _ ∈ _, _; simp), World.ownsRow_lit w1 #[] 0 (Nat.le_refl _) (by decide) rfl, Ext.alloc _ _⟩
  case round =>
    obtain ⟨k, sb, g2, cap2, us, hk, rfl, rfl, rfl, hul, HS, HU, HB, own, X2⟩ := hrel
    by_cases hlt : k < T.length
    · obtain ⟨b1, o1, hbo, hb1, hc1⟩ := (R.ext X2).at hlt
      obtain ⟨rfl, rfl⟩ : g = b1 ∧ 0 = o1 := by simpa using hbo
      rw [Nat.zero_add] at hc1
      have HSU : Hid (accK (survF ls) one1 T (k + 1) = fop .mul .f32 (accK (survF ls) one1 T k) (fop .sub .f32 one1 (quotL ls T[k]))) := accK_succ hlt
      have HSC := Lib.hid (scanK_succ (survF ls) one1 T k)
      generalize T[k] = t at *
      clear hbo
      go_wp2_with fail
      refine (HA.out _ ((r'.ext X).ext X2) t).mono ?_
      rintro e w2 ⟨qb, rfl, hq1, hq2, hx⟩
      have HQ1 := Lib.hid hq1
      have HQ2 := Lib.hid hq2
      replace X2 := X2.trans hx
      replace own := own_ext own hx
      clear hx hc1 hb1 hq1 hq2
      go_wp2_with (first | (refine wpList_fop rfl rfl rfl rfl rfl ?_; intro fb nf hfb hfl; replace hfb := Lib.hid hfb; replace hfl := Lib.hid hfl) | (at_builtin; refine wpList_push (v := .slice (some ⟨g2, 0, none⟩) k cap2) infoF32 rfl Try.underlying33 rfl rfl rfl (World.ownsRow.alloc (w := World.drewN _ _) (own_ext own (Ext.drewN _ _)) _) rfl (Bx.new _ [_] _).one rfl (by omega) (by decide) (X2.trans ((Ext.drewN _ _).trans (Ext.alloc _ _))).size ?_; intro g3 cap3 w4 hg3 own3 bel3 sz3))
      rename_i b1 n1 e1 l1
      have N1 : Hid (cn .f32 fb = accK (survF ls) one1 T (k + 1)) := by
        show _ = _; rw [HSU.out, hfb.out, e1.out, HS.out, HQ1.out]; rfl
      have N2 : Hid ((us ++ [fb]).map (cn .f32) = scanK (survF ls) one1 T (k + 1)) := by
        show _ = _; rw [List.map_append, HU.out, HSC.out, List.map_cons, N1.out]; rfl
      have N3 : Hid (∀ b ∈ us ++ [fb], b < 4294967296) := by
        show ∀ _ ∈ _, _
        intro x hx
        rcases List.mem_append.1 hx with h | h
        · exact HB.out x h
        · obtain rfl := List.mem_singleton.1 h; exact hfl.out
      go_roundw
      case rel => exact ⟨k + 1, fb, g3, cap3, us ++ [fb], by omega, by go_num, rfl, rfl, by simp [hul], N1, N2, N3, by rw [List.map_append]; exact own3, bel3 _ (X2.trans ((Ext.drewN _ _).trans (Ext.alloc _ _)))⟩
      case measure => simp [intOf]; omega
    · obtain rfl : k = T.length := by omega
      go_wp2_with fail
      go_ret
      have hU := HU.out
      have hB := HB.out
      exact ⟨_, rfl, ⟨g2, cap2, us, by rw [hul]; rfl, by rw [HTS.out]; exact hU, hB, by rw [hul]; exact World.ownsRow.mono own X.size⟩, X.trans X2⟩

def stbO (ls : List Lf) : Option (List Nat) := if livesB ls then some (survL ls) else none
theorem implSurvivorTable_any (v : Value) (ls : List Lf) (w : World) (r : RdL w v ls) : Calls Try.prog 37 #[v] w (FlPost (stbO ls) w) := by
  cases h : livesB ls
  · have H : Hid (stbO ls = none) := by show _ = _; unfold stbO; rw [h]; rfl
    have HA := Lib.hid (areLives_any v ls w r)
    rw [h] at HA
    clear h
    obtain ⟨⟨_, a1, c1, rfl, p1, p2, _, _⟩, _⟩ := r
    go_enter Try.func37, Try.ntmps37
    go_wp2_with fail
    refine HA.out.mono ?_
    rintro e w1 ⟨rfl, X⟩
    go_wp2_with fail
    go_ret2
    rw [H.out]
    exact ⟨X, rfl⟩
  · have H : Hid (stbO ls = some (survL ls)) := by show _ = _; unfold stbO; rw [h]; rfl
    have HA := Lib.hid (areLives_any v ls w r)
    have hl := livesB_len h
    have hk := livesB_ok h r.2
    have HK := Lib.hid hk
    have r' := r
    rw [h] at HA
    clear h hk
    obtain ⟨⟨_, a1, c1, rfl, p1, p2, _, _⟩, _⟩ := r
    go_enter Try.func37, Try.ntmps37
    go_wp2_with fail
    refine HA.out.mono ?_
    rintro e w1 ⟨rfl, X⟩
    go_wp2_with fail
    refine (survivors_any _ ls _ (r'.ext X) hl.1 (by omega) HK.out).mono ?_
    rintro e w2 ⟨v', rfl, own, X2⟩
    go_wp2_with fail
    go_ret2
    rw [H.out]
    exact own.post X X2

end Go.Proofs.Ytlbmjeennpccmaa
