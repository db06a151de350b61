
/- ChanceOf, both sides. Condition: lists that can be read. -/
import Derived.Test.YtgmdoboeenpjpaaZa
namespace Go.Proofs.Ytgmdoboeenpjpaa
open Go Go.RowKit Go.ChangeShapes Go.WideShapes Go.ChangeAt

attribute [local irreducible] LX

theorem l03Chances_eq {v : Value} {bs : List Nat} {n : Int} {c : Bool} (h : chancesB bs n = c) (w : World) (r : RdF w v bs) :
    Calls Try.prog 55 #[v, .int .i64 n] w fun e w' => e = .returned (.bool c) ∧ w = w' := by subst h; exact l03Chances_any v bs n w r

set_option maxHeartbeats 2000000 in
theorem implChanceOf_any (p : Int) (v u : Value) (zs : List Int) (bs : List Nat) (w : World) (r : RdI w v zs) (rb : RdF w u bs) :
    Calls Try.prog 10 #[.agg #[.int .i64 p, v], u] w (NmPost (chanceO p zs bs) w) := by
  have r' := r
  have rb' := rb
  obtain ⟨-, a1, c1, rfl, -, -, -, -⟩ := r
  obtain ⟨⟨-, a2, c2, rfl, -, -, -, -⟩, -⟩ := rb
  have bx : Bx (w.alloc (.cells #[.int .i64 p, .slice a1 zs.length c1] 27)) w.heap.size [.int .i64 p, .slice a1 zs.length c1] := Bx.new _ _ _
  cases hok : chOk p zs bs
  · have HO : Hid (chanceO p zs bs = none) := by show _ = _; unfold chanceO; rw [hok]; rfl
    have HK := Lib.hid hok
    clear hok
    go_enter Try.func10, Try.ntmps10
    go_wp2_with fail
    refine (chanced_eq HK.out _ (r'.ext (Ext.alloc _ _)) (rb'.ext (Ext.alloc _ _))).mono ?_
    rintro e w1 ⟨rfl, hx⟩
    go_wp2_with fail
    go_ret2
    unfold NmPost
    rw [HO.out]
    exact ⟨(Ext.alloc _ _).trans hx, rfl⟩
  · have HO : Hid (chanceO p zs bs = some (chS p.toNat (downs zs) (bs.map (cn .f32)))) := by show _ = _; unfold chanceO; rw [hok]; rfl
    have HK := Lib.hid hok
    obtain ⟨h1, h2, h3, h4⟩ := chOk_get hok
    have HC := Lib.hid (fun W (x : Ext w W) => chance_any p.toNat (.slice a1 zs.length c1) (.slice a2 bs.length c2) (downs zs) bs W (by rw [← h3]; exact r'.ext x) (rb'.ext x) h1 h4)
    rw [← h2] at HC
    clear hok h1 h2 h3 h4
    go_enter Try.func10, Try.ntmps10
    go_wp2_with fail
    refine (chanced_eq HK.out _ (r'.ext (Ext.alloc _ _)) (rb'.ext (Ext.alloc _ _))).mono ?_
    rintro e w1 ⟨rfl, hx⟩
    replace bx := bx.ext hx
    have X : Ext w w1 := (Ext.alloc _ _).trans hx
    obtain ⟨k0, k1⟩ := bx.two
    clear hx
    go_wp2_with fail
    refine (HC.out _ X).mono ?_
    rintro e w2 ⟨b, rfl, hb, hbl, hx⟩
    have HB := Lib.hid hb
    have HBL := Lib.hid hbl
    clear hb hbl
    go_wp2_with fail
    go_ret2
    unfold NmPost
    rw [HO.out]
    exact ⟨X.trans hx, b, rfl, HB.out, HBL.out⟩

set_option maxHeartbeats 2000000 in
theorem specChanceOf_any (p : Int) (v u : Value) (zs : List Int) (bs : List Nat) (w : World) (r : RdI w v zs) (rb : RdF w u bs) :
    Calls Try.prog 22 #[.agg #[.int .i64 p, v], u] w (NmPost (chanceO p zs bs) w) := by
  have r' := r
  have rb' := rb
  obtain ⟨-, a1, c1, rfl, -, -, -, -⟩ := r
  obtain ⟨⟨-, a2, c2, rfl, -, -, -, -⟩, -⟩ := rb
  have bx : Bx (w.alloc (.cells #[.int .i64 p, .slice a1 zs.length c1] 27)) w.heap.size [.int .i64 p, .slice a1 zs.length c1] := Bx.new _ _ _
  have HV := Lib.hid (l03Is_sys p _ zs w.heap.size _ bx (r'.ext (Ext.alloc _ _)))
  cases hv : sysB p zs
  · have HO : Hid (chanceO p zs bs = none) := by show _ = _; unfold chanceO chOk; rw [hv]; rfl
    rw [hv] at HV
    clear hv
    go_enter Try.func22, Try.ntmps22
    go_wp2_with fail
    refine HV.out.mono ?_
    rintro e w1 ⟨rfl, hx⟩
    go_wp2_with fail
    go_ret2
    unfold NmPost
    rw [HO.out]
    exact ⟨(Ext.alloc _ _).trans hx, rfl⟩
  rw [hv] at HV
  cases hc : chancesB bs p
  · have HO : Hid (chanceO p zs bs = none) := by show _ = _; unfold chanceO chOk; rw [hc, Bool.and_false]; rfl
    have HC := Lib.hid hc
    clear hv hc
    go_enter Try.func22, Try.ntmps22
    go_wp2_with fail
    refine HV.out.mono ?_
    rintro e w1 ⟨rfl, hx⟩
    replace bx := bx.ext hx
    have X : Ext w w1 := (Ext.alloc _ _).trans hx
    obtain ⟨k0, k1⟩ := bx.two
    clear hx
    go_wp2_with fail
    refine (l03Chances_eq HC.out _ (rb'.ext X)).mono ?_
    rintro e w2 ⟨rfl, rfl⟩
    go_wp2_with fail
    go_ret2
    unfold NmPost
    rw [HO.out]
    exact ⟨X, rfl⟩
  · have hok : chOk p zs bs = true := by unfold chOk; rw [hv, hc]; rfl
    have HO : Hid (chanceO p zs bs = some (chS p.toNat (downs zs) (bs.map (cn .f32)))) := by show _ = _; unfold chanceO; rw [hok]; rfl
    have HC := Lib.hid hc
    obtain ⟨h1, h2, h3, h4⟩ := chOk_get hok
    have HCH := Lib.hid (fun W (x : Ext w W) (b : Bx W w.heap.size [.int .i64 (p.toNat : Int), .slice a1 zs.length c1]) => l03Chance_any p.toNat (.slice a1 zs.length c1) (.slice a2 bs.length c2) (downs zs) bs w.heap.size W b (by rw [← h3]; exact r'.ext x) (rb'.ext x) h1 h4)
    rw [← h2] at HCH
    clear hok h1 h2 h3 h4 hv hc
    go_enter Try.func22, Try.ntmps22
    go_wp2_with fail
    refine HV.out.mono ?_
    rintro e w1 ⟨rfl, hx⟩
    replace bx := bx.ext hx
    have X : Ext w w1 := (Ext.alloc _ _).trans hx
    obtain ⟨k0, k1⟩ := bx.two
    clear hx
    go_wp2_with fail
    refine (l03Chances_eq HC.out _ (rb'.ext X)).mono ?_
    rintro e w2 ⟨rfl, rfl⟩
    clear k0 k1
    go_wp2_with fail
    refine (HCH.out _ X bx).mono ?_
    rintro e w3 ⟨b, rfl, hb, hbl, hx⟩
    have HB := Lib.hid hb
    have HBL := Lib.hid hbl
    clear hb hbl
    go_wp2_with fail
    go_ret2
    unfold NmPost
    rw [HO.out]
    exact ⟨X.trans hx, b, rfl, HB.out, HBL.out⟩
end Go.Proofs.Ytgmdoboeenpjpaa
