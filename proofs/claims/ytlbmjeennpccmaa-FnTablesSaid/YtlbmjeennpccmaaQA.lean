
/- FnExactOrderLives returns true for every input and changes nothing that was there. No condition. -/
import Derived.Test.YtlbmjeennpccmaaLw
import Derived.Test.YtlbmjeennpccmaaLA
import Derived.Test.YtlbmjeennpccmaaLs
namespace Go.Proofs.Ytlbmjeennpccmaa
open Go Go.RowKit Go.ChangeShapes Go.WideShapes Go.ChangeAt

def ordO (ls : List Lf) : Option (List Lf) := if livesB ls then some (ordL ls) else none

theorem implOrderLives_any (v : Value) (ls : List Lf) (w : World) (r : RdL w v ls) : Calls Try.prog 33 #[v] w (LfPost (ordO ls) w) := by
  cases h : livesB ls
  · have H : Hid (ordO ls = none) := by show _ = _; unfold ordO; rw [h]; rfl
    have HA := Lib.hid (areLives_any v ls w r)
    rw [h] at HA
    clear h
    obtain ⟨⟨_, a1, c1, rfl, p1, p2, _, _⟩, _⟩ := r
    go_enter Try.func33, Try.ntmps33
    go_wp2_with fail
    refine HA.out.mono ?_
    rintro e w1 ⟨rfl, X⟩
    go_wp2_with fail
    go_ret2
    rw [H.out]
    exact ⟨X, rfl⟩
  · have H : Hid (ordO ls = some (ordL ls)) := by show _ = _; unfold ordO; rw [h]; rfl
    have HA := Lib.hid (areLives_any v ls w r)
    have hl := livesB_len h
    have HK := Lib.hid (livesB_ok h r.2)
    have r' := r
    rw [h] at HA
    clear h
    obtain ⟨⟨_, a1, c1, rfl, p1, p2, _, _⟩, _⟩ := r
    go_enter Try.func33, Try.ntmps33
    go_wp2_with fail
    refine HA.out.mono ?_
    rintro e w1 ⟨rfl, X⟩
    go_wp2_with fail
    refine (ordered_any _ ls _ (r'.ext X) hl.1 (by omega) HK.out).mono ?_
    rintro e w2 ⟨g, cap, rfl, own, X2⟩
    go_wp2_with fail
    go_ret2
    rw [H.out]
    exact ⟨X.trans X2, g, cap, by rw [ordL_len]; rfl, World.ownsRow.mono own X.size⟩

end Go.Proofs.Ytlbmjeennpccmaa
/- FnExactFailureTimes returns true for every input and changes nothing that was there. No condition. -/
namespace Go.Proofs.Ytlbmjeennpccmaa
open Go Go.RowKit Go.ChangeShapes Go.WideShapes Go.ChangeAt

def ftO (ls : List Lf) : Option (List Nat) := if livesB ls then some (timesL ls) else none
theorem map_cn_pos : ∀ {T : List Nat}, (∀ t ∈ T, posW t) → T.map (cn .f32) = T
  | [], _ => rfl
  | t :: T, h => by rw [List.map_cons, cn_pos (h t (by simp)), map_cn_pos fun x hx => h x (by simp [hx])]

theorem implFailureTimes_any (v : Value) (ls : List Lf) (w : World) (r : RdL w v ls) : Calls Try.prog 36 #[v] w (FlPost (ftO ls) w) := by
  cases h : livesB ls
  · have H : Hid (ftO ls = none) := by show _ = _; unfold ftO; rw [h]; rfl
    have HA := Lib.hid (areLives_any v ls w r)
    rw [h] at HA
    clear h
    obtain ⟨⟨_, a1, c1, rfl, p1, p2, _, _⟩, _⟩ := r
    go_enter Try.func36, Try.ntmps36
    go_wp2_with fail
    refine HA.out.mono ?_
    rintro e w1 ⟨rfl, X⟩
    go_wp2_with fail
    go_ret2
    rw [H.out]
    exact ⟨X, rfl⟩
  · have H : Hid (ftO ls = some (timesL ls)) := by show _ = _; unfold ftO; rw [h]; rfl
    have HA := Lib.hid (areLives_any v ls w r)
    have hl := livesB_len h
    have hk := livesB_ok h r.2
    have HK := Lib.hid hk
    have HT := Lib.hid (timesL_pos hk)
    have r' := r
    rw [h] at HA
    clear h hk
    obtain ⟨⟨_, a1, c1, rfl, p1, p2, _, _⟩, _⟩ := r
    go_enter Try.func36, Try.ntmps36
    go_wp2_with fail
    refine HA.out.mono ?_
    rintro e w1 ⟨rfl, X⟩
    go_wp2_with fail
    refine (failures_any _ ls _ (r'.ext X) hl.1 (by omega) HK.out).mono ?_
    rintro e w2 ⟨g, cap, rfl, own, X2⟩
    go_wp2_with fail
    go_ret2
    rw [H.out]
    exact ⟨X.trans X2, g, cap, timesL ls, rfl, map_cn_pos HT.out, fun b hb => by have := (HT.out b hb).2; omega, World.ownsRow.mono own X.size⟩

end Go.Proofs.Ytlbmjeennpccmaa
