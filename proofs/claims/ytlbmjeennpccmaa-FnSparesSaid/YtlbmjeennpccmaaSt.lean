
/- FnExactStandbySurvives returns true for every input and changes nothing that was there. No condition. -/
import Derived.Test.YtlbmjeennpccmaaNL
import Derived.Test.YtlbmjeennpccmaaMD
namespace Go.Proofs.Ytlbmjeennpccmaa
open Go Go.RowKit Go.ChangeShapes Go.WideShapes Go.ChangeAt


def stOk (r : Nat) (s : Int) (t : Nat) : Bool := leastB r && leastB t && meanB (fop .mul .f32 r t) && inB s 0 32
def stO (r : Nat) (s : Int) (t : Nat) : Option Nat := if stOk r s t then finO (sumF (cn .f32 0) (needL (fop .mul .f32 r t) s.toNat)) else none


theorem RdF_two (w : World) (x y : Nat) (hx : x < 4294967296) (hy : y < 4294967296) : RdF (w.alloc (.cells #[.float .f32 x, .float .f32 y] 24)) (.slice (some ⟨w.heap.size, 0, none⟩) 2 2) [x, y] :=
  ⟨own_rd (World.ownsRow_lit (base := w.heap.size) (e := 24) (size := 1) w #[.float .f32 x, .float .f32 y] 2 (Nat.le_refl _) (by decide) rfl), by intro b hb; simp at hb; rcases hb with rfl | rfl <;> assumption⟩
theorem two_least (x y : Nat) : ([x, y].map (cn .f32)).all leastB = (leastB (cn .f32 x) && leastB (cn .f32 y)) := by simp
set_option maxHeartbeats 2000000 in
theorem implStandby_any (r : Nat) (s : Int) (t : Nat) (w : World) (hr : r < 4294967296) (htt : t < 4294967296) :
    Calls Try.prog 26 #[.float .f32 r, .int .i64 s, .float .f32 t] w (NmPost (stO (cn .f32 r) s (cn .f32 t)) w) := by
  have HR := Lib.hid hr
  have HT := Lib.hid htt
  clear hr htt
  cases h1 : leastB (cn .f32 r) && leastB (cn .f32 t)
  · have H : Hid (stO (cn .f32 r) s (cn .f32 t) = none) := by show _ = _; simp only [stO, stOk, h1, Bool.false_and]; rfl
    have H1 := Lib.hid ((two_least _ _).trans h1)
    clear h1
    go_enter Try.func26, Try.ntmps26
    go_wp2_with fail
    refine (areNotLess_eq H1.out _ (RdF_two _ _ _ HR.out HT.out)).mono ?_
    rintro e w1 ⟨rfl, X⟩
    go_wp2_with fail
    go_ret2
    rw [H.out]
    exact ⟨(Ext.alloc _ _).trans X, rfl⟩
  · have H1 := Lib.hid ((two_least _ _).trans h1)
    have HO : Hid (stO (cn .f32 r) s (cn .f32 t) = (needO (fop .mul .f32 (cn .f32 r) (cn .f32 t)) s).bind fun xs => finO (sumF (cn .f32 0) xs)) := by
      show _ = _
      unfold stO stOk needO
      rw [h1, Bool.true_and]
      cases meanB (fop .mul .f32 (cn .f32 r) (cn .f32 t)) && inB s 0 32 <;> rfl
    clear h1
    go_enter Try.func26, Try.ntmps26
    go_wp2_with fail
    refine (areNotLess_eq H1.out _ (RdF_two _ _ _ HR.out HT.out)).mono ?_
    rintro e w1 ⟨rfl, X⟩
    replace X : Ext w w1 := (Ext.alloc _ _).trans X
    go_wp2_with (first | (refine wpList_fop rfl rfl rfl rfl rfl ?_; intro fb nf hfb hfl; replace hfb := Lib.hid hfb; replace hfl := Lib.hid hfl))
    refine (implNeedShares_any fb s _).mono ?_
    rw [hfb.out]
    intro e w2 h
    cases ho : needO (fop .mul .f32 (cn .f32 r) (cn .f32 t)) s with
    | none =>
      rw [ho] at h
      obtain ⟨hx, rfl⟩ := h
      have HO2 : Hid (stO (cn .f32 r) s (cn .f32 t) = none) := by show _ = _; rw [HO.out, ho]; rfl
      clear ho
      go_wp2_with fail
      go_ret2
      rw [HO2.out]
      exact ⟨X.trans ((Ext.drewN _ _).trans hx), rfl⟩
    | some xs =>
      rw [ho] at h
      obtain ⟨hx, g, cap, os, rfl, hu, hb, own⟩ := h
      have R : RdF w2 (.slice (some ⟨g, 0, none⟩) os.length cap) os := ⟨own_rd own, hb⟩
      have HO2 : Hid (stO (cn .f32 r) s (cn .f32 t) = finO (sumF (cn .f32 0) (os.map (cn .f32)))) := by show _ = _; rw [HO.out, ho, hu]; rfl
      clear ho hu hb own
      go_wp2_with fail
      refine (addUp_any _ os _ R).mono ?_
      rintro e w3 ⟨x, rfl, hx1, hx2, hx'⟩
      have HX1 := Lib.hid hx1
      have HX2 := Lib.hid hx2
      clear hx1 hx2
      go_wp2_with fail
      refine (ifFinite_any x _).mono ?_
      rintro e w4 ⟨rfl, hx''⟩
      go_wp2_with fail
      go_ret2
      rw [HO2.out, ← HX1.out]
      exact nmPost_of (X.trans ((Ext.drewN _ _).trans (hx.trans (hx'.trans hx'')))) HX2.out


end Go.Proofs.Ytlbmjeennpccmaa
