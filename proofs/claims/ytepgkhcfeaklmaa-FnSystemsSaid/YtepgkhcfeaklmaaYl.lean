
/- SystemOf, both sides. Condition: lists of ints that can be read, of at most 2^20. -/
import Derived.Test.YtepgkhcfeaklmaaYk
namespace Go.Proofs.Ytepgkhcfeaklmaa
open Go Go.RowKit Go.ChangeShapes Go.WideShapes Go.ChangeAt

attribute [local irreducible] LX

def sysOfO (p : Int) (zs : List Int) : Option (Int × List Int) := if goodI p zs then sysO p (ups (leastN (downs zs))) else none
theorem least_leastS {p : Int} {zs : List Int} (h : goodI p zs = true) : leastN (downs zs) = leastS (downs zs) := by
  obtain ⟨h1, h2, h3, h4, h5⟩ := good_get h
  exact least_same (fun z hz => by have := h5 z hz; omega) fun z hz => by have := h5 z hz; omega

set_option maxHeartbeats 4000000 in
theorem implSystemOf_any (p : Int) (v : Value) (zs : List Int) (w : World) (r : RdI w v zs) :
    Calls Try.prog 22 #[.int .i64 p, v] w (YsPost (sysOfO p zs) w) := by
  have r' := r
  obtain ⟨-, a1, c1, rfl, -, -, -, -⟩ := r
  have b2 : Bz (w.alloc (.cells #[.int .i64 0, .slice none 0 0] 33)) w.heap.size 33 [.int .i64 0, .slice none 0 0] := Bz.new _ _ _
  have X0 : Ext w (w.alloc (.cells #[.int .i64 0, .slice none 0 0] 33)) := Ext.alloc _ _
  cases hp : inB p 1 10
  · have HO : Hid (sysOfO p zs = none) := by show _ = _; unfold sysOfO goodI; rw [hp]; rfl
    have HP := Lib.hid hp
    clear hp
    obtain ⟨k0, k1⟩ := b2.bx.two
    have z2 := b2.lt
    have f0 := b2.frozen (j := 0)
    have f1 := b2.frozen (j := 1)
    go_enter Try.func22, Try.ntmps22
    go_wp2_with fail
    refine (areParts_eq HP.out _).mono ?_
    rintro e w1 ⟨rfl, rfl⟩
    go_wp2_with fail
    refine bodyPost_ret (v := .tuple #[.agg #[.int .i64 0, .slice none 0 0], .bool false]) (by simp [results, Try.results22, go_sem]) rfl ?_
    unfold YsPost
    rw [HO.out]
    first | exact ⟨Ext.alloc _ _, rfl⟩ | exact ⟨(X0.setCell (Nat.le_refl _) _).setCell (Nat.le_refl _) _, rfl⟩
  have hp2 := inB_iff.1 hp
  have hpw := pow10' hp2.1 hp2.2
  have hp0 : 0 ≤ p := by omega
  have hp63 : p < 64 := by omega
  cases hm : manyB zs 1 64 1 (2 ^ p.toNat - 1)
  · have HO : Hid (sysOfO p zs = none) := by show _ = _; unfold sysOfO goodI; rw [hp, hm]; rfl
    have HP := Lib.hid hp
    have HM := Lib.hid hm
    clear hp hm
    go_enter Try.func22, Try.ntmps22
    go_wp2_with fail
    refine (areParts_eq HP.out _).mono ?_
    rintro e w1 ⟨rfl, rfl⟩
    go_wp2_with fail
    refine (areMany_eq HM.out _ (r'.ext (Ext.alloc _ _))).mono ?_
    rintro e w1 ⟨rfl, hx⟩
    replace b2 := b2.ext hx
    have X := (Ext.alloc _ _).trans hx
    obtain ⟨k0, k1⟩ := b2.bx.two
    have z2 := b2.lt
    have f0 := b2.frozen (j := 0)
    have f1 := b2.frozen (j := 1)
    clear b2
    go_wp2_with fail
    refine bodyPost_ret (v := .tuple #[.agg #[.int .i64 0, .slice none 0 0], .bool false]) (by simp [results, Try.results22, go_sem, k0, k1, f0, f1]) rfl ?_
    unfold YsPost
    rw [HO.out]
    exact ⟨(X.setCell (Nat.le_refl _) _).setCell (Nat.le_refl _) _, rfl⟩
  · have hgood : goodI p zs = true := by unfold goodI; rw [hp, hm]; rfl
    have HO : Hid (sysOfO p zs = sysO p (ups (leastN (downs zs)))) := by show _ = _; unfold sysOfO; rw [if_pos hgood]
    obtain ⟨-, hl, -, hud, hdn⟩ := good_get hgood
    have HIF := Lib.hid (fun W (x : Ext w W) => ifSystem_any p (.slice a1 zs.length c1) (downs zs) W (by rw [← hud]; exact r'.ext x) (by rw [downs_len]; omega) (by rw [downs_len]; omega) fun z hz => by have := hdn z hz; omega)
    have HP := Lib.hid hp
    have HM := Lib.hid hm
    clear hp hm hgood hud hdn hl
    go_enter Try.func22, Try.ntmps22
    go_wp2_with fail
    refine (areParts_eq HP.out _).mono ?_
    rintro e w1 ⟨rfl, rfl⟩
    go_wp2_with fail
    refine (areMany_eq HM.out _ (r'.ext (Ext.alloc _ _))).mono ?_
    rintro e w1 ⟨rfl, hx⟩
    replace b2 := b2.ext hx
    have X := (Ext.alloc _ _).trans hx
    clear hx
    go_wp2_with fail
    refine (HIF.out _ X).mono ?_
    intro e w2 h2
    have hgt : w.heap.size < w1.heap.size := b2.lt
    generalize sysO p (ups (leastN (downs zs))) = oo at *
    obtain ⟨hxY, h2⟩ := h2
    replace b2 := b2.ext hxY
    have hszY := X.size
    replace X := X.trans hxY
    obtain ⟨k0, k1⟩ := b2.bx.two
    have z2 := b2.lt
    have f0 := b2.frozen (j := 0)
    have f1 := b2.frozen (j := 1)
    clear b2
    cases oo with
    | none =>
      simp only at h2
      subst h2
      go_wp2_with fail
      refine bodyPost_ret (v := .tuple #[.agg #[.int .i64 0, .slice none 0 0], .bool false]) (by simp [results, Try.results22, go_sem, k0, k1, f0, f1]) rfl ?_
      unfold YsPost
      rw [HO.out]
      exact ⟨(X.setCell (Nat.le_refl _) _).setCell (Nat.le_refl _) _, rfl⟩
    | some q =>
      obtain ⟨g, cap, rfl, own⟩ := h2
      obtain ⟨p0, qs⟩ := q
      have hgl := own.lt g rfl
      simp only at own hgl
      simp only
      go_wp2_with fail
      refine bodyPost_ret (v := .tuple #[.agg #[.int .i64 p0, .slice (some ⟨g, 0, none⟩) qs.length cap], .bool true]) (by simp [results, Try.results22, go_sem, k0, k1, f0, f1]) rfl ?_
      unfold YsPost
      rw [HO.out]
      refine ⟨(X.setCell (Nat.le_refl _) _).setCell (Nat.le_refl _) _, g, cap, rfl, ?_⟩
      exact World.ownsRow.mono (ownsRow_setCell_other (ownsRow_setCell_other own (by simp [Value.ownBlock]; omega) _) (by simp [Value.ownBlock]; omega) _) hszY

end Go.Proofs.Ytepgkhcfeaklmaa
