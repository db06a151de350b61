
/- PhasesChance as the program finds it. Condition: lists that can be read. -/
import Derived.Test.YtepgkhcfeaklmaaPd
import Derived.Test.YtepgkhcfeaklmaaZb
import Derived.Test.YtepgkhcfeaklmaaNm
import Derived.Test.YtepgkhcfeaklmaaRh
import Derived.Deep.RegionHeld3
namespace Go.Proofs.Ytepgkhcfeaklmaa
open Go Go.RowKit Go.ChangeShapes Go.WideShapes Go.ChangeAt

attribute [local irreducible] LX
attribute [local go_sem] run_store_float
theorem run_store_fnP (P : Program) (w : World) (a : Addr) (m : Mode) (fn : Fn) (x y : Array Value) : (store a (.func fn x y) m).run P w = stored P w a (.func fn x y) m := run_store P w a _ m rfl
attribute [local go_sem] run_store_fnP

def phHead (ss : List Sy) : Int := (ss.map Sy.parts).headD 0
def phRow (p : Int) (s : Sy) : Bool := sysB s.parts s.zs && (decide (s.parts = p) && decide (s.parts ≤ 6))
def phOk (ss : List Sy) (bs : List Nat) : Bool := (decide (1 ≤ ss.length) && decide (ss.length ≤ 3)) && (ss.all (phRow (phHead ss)) && chancesB bs (phHead ss * ss.length))
def phO (ss : List Sy) (bs : List Nat) : Option Nat :=
  if phOk ss bs then some (sumP (dn ss) (bs.map (cn .f32)) (phHead ss).toNat ss.length ((ss.length + 1) ^ (phHead ss).toNat)) else none
theorem phO_no {ss : List Sy} {bs : List Nat} (h : phOk ss bs = false) : phO ss bs = none := by unfold phO; rw [h]; rfl
theorem phOk_row {ss : List Sy} {bs : List Nat} {i : Nat} (hi : i < ss.length) (h : phRow (phHead ss) ss[i] = false) : phOk ss bs = false := by
  have : ss.all (phRow (phHead ss)) = false := by rw [List.all_eq_false]; exact ⟨ss[i], List.getElem_mem hi, by rw [h]; exact Bool.false_ne_true⟩
  unfold phOk; rw [this]; simp
theorem phHead_at {ss : List Sy} (h : 0 < ss.length) : phHead ss = ss[0].parts := by
  cases ss with
  | nil => simp at h
  | cons s _ => rfl
theorem phHead_dat {a b : List Sy} (e : a.map Sy.dat = b.map Sy.dat) : phHead a = phHead b := by
  have h := congrArg (List.map fun q : Int × List Int => q.1) e
  unfold phHead
  have h2 : a.map Sy.parts = b.map Sy.parts := by simpa [Sy.dat, Function.comp_def] using h
  rw [h2]
theorem phO_dat {a b : List Sy} (bs : List Nat) (e : a.map Sy.dat = b.map Sy.dat) : phO a bs = phO b bs := by
  have hl : a.length = b.length := by simpa using congrArg List.length e
  have hh := phHead_dat e
  have ha : a.all (phRow (phHead a)) = b.all (phRow (phHead b)) := by
    rw [hh]
    have h := congrArg (fun l : List (Int × List Int) => l.all fun q => sysB q.1 q.2 && (decide (q.1 = phHead b) && decide (q.1 ≤ 6))) e
    simp only [List.all_map] at h
    exact h
  unfold phO phOk
  rw [ha, hh, hl, dn_dat e]
/-- All is as asked. -/
structure PhG (ss : List Sy) (bs : List Nat) (P n : Nat) : Prop where
  hn : 1 ≤ n ∧ n ≤ 3
  hsn : ss.length = n
  hP : 1 ≤ P ∧ P ≤ 6
  hp : phHead ss = (P : Int)
  hss : SysP P ss
theorem phG_of {ss : List Sy} {bs : List Nat} (h1 : 1 ≤ ss.length) (h3 : ss.length ≤ 3) (hr : ∀ i, (h : i < ss.length) → phRow (phHead ss) ss[i] = true) : PhG ss bs (phHead ss).toNat ss.length := by
  have h := fun i (hi : i < ss.length) => by
    have := hr i hi
    simp only [phRow, Bool.and_eq_true, decide_eq_true_eq] at this
    exact this
  have hs0 := h 0 (by omega)
  have hg0 := hs0.1
  unfold sysB at hg0
  simp only [Bool.and_eq_true] at hg0
  have hgood := (good_get hg0.1).1
  refine ⟨⟨h1, h3⟩, rfl, ⟨by omega, by omega⟩, by omega, fun s hm => ?_⟩
  obtain ⟨i, hi, rfl⟩ := List.getElem_of_mem hm
  obtain ⟨q1, q2, q3⟩ := h i hi
  unfold sysB at q1
  simp only [Bool.and_eq_true] at q1
  obtain ⟨a1, a2, a3⟩ := SysN.of q1.1
  rw [q2] at a1
  exact ⟨a1, a3⟩

theorem keepS {wr W : World} {a b : Addr} {x y : Value} (ha : a.block < wr.heap.size) (hb : b.block < wr.heap.size) (k1 : wr.cell? a = some x) (k2 : wr.cell? b = some y) (h : Ext wr W) : W.cell? a = some x ∧ W.cell? b = some y ∧ Ext wr W :=
  ⟨(Below.cell h ha).trans k1, (Below.cell h hb).trans k2, h⟩
theorem keepS_d (W : World) : Ext W W.drew := Ext.drewN _ 1
theorem keepS_a {wr W : World} {o : Obj} (h : Ext wr W) : Ext wr (W.alloc o) := h.trans (Ext.alloc _ _)
theorem twoBz {wr W : World} {s t : TypeId} {x y : Value} (h : W = ((wr.alloc (.cells #[x] s)).alloc (.cells #[y] t)).drew) : Bz W wr.heap.size s [x] ∧ Bz W (wr.heap.size + 1) t [y] := by
  subst h
  have h1 : Bz (wr.alloc (.cells #[x] s)) wr.heap.size s [x] := Bz.new _ _ _
  have h2 : Bz ((wr.alloc (.cells #[x] s)).alloc (.cells #[y] t)) (wr.alloc (.cells #[x] s)).heap.size t [y] := Bz.new _ _ _
  have e : (wr.alloc (.cells #[x] s)).heap.size = wr.heap.size + 1 := by simp
  rw [e] at h2
  exact ⟨(h1.ext (Ext.alloc _ _)).ext (keepS_d _), h2.ext (keepS_d _)⟩
set_option maxRecDepth 100000 in
set_option maxHeartbeats 8000000 in
theorem implPhasesChance_any (v u : Value) (ss : List Sy) (bs : List Nat) (w : World) (r : RdY w v ss) (rb : RdF w u bs) :
    Calls Try.prog 51 #[v, u] w (NmPost (phO ss bs) w) := by
  have r' := r
  have rb' := rb
  obtain ⟨⟨-, a1, c1, rfl, p1, p2, -, -⟩, -⟩ := r
  obtain ⟨⟨-, a2, c2, rfl, -, -, -, -⟩, -⟩ := rb
  unfold maxLen at p2
  generalize hW0 : (w.alloc (.cells #[.slice a1 ss.length c1] 64)).alloc (.cells #[.slice a2 bs.length c2] 59) = W0
  have X0 : Ext w W0 := hW0 ▸ (Ext.alloc _ _).trans (Ext.alloc _ _)
  have b1 : Bx W0 w.heap.size [.slice a1 ss.length c1] := hW0 ▸ (Bx.new _ _ _).ext (Ext.alloc _ _)
  have b2 : Bx W0 (w.heap.size + 1) [.slice a2 bs.length c2] := hW0 ▸ Bx.new' _ _ _ (by simp)
  have k1 := b1.one
  by_cases h1 : ss.length < 1
  · have HO : Hid (phO ss bs = none) := phO_no (by unfold phOk; simp; omega)
    have h1i : (ss.length : Int) < 1 := by omega
    go_enter Try.func51, Try.ntmps51
    go_wp2_with fail
    go_ret2
    unfold NmPost
    rw [HO.out]
    exact ⟨X0, rfl⟩
  by_cases h3 : 3 < ss.length
  · have HO : Hid (phO ss bs = none) := phO_no (by unfold phOk; simp; omega)
    have h1i : ¬ (ss.length : Int) < 1 := by omega
    have h3i : (3 : Int) < (ss.length : Int) := by omega
    go_enter Try.func51, Try.ntmps51
    go_wp2_with fail
    go_ret2
    unfold NmPost
    rw [HO.out]
    exact ⟨X0, rfl⟩
  have h1i : ¬ (ss.length : Int) < 1 := by omega
  have h3i : ¬ (3 : Int) < (ss.length : Int) := by omega
  have H0 : 0 < ss.length := by omega
  have HH := Lib.hid (phHead_at H0)
  go_enter Try.func51, Try.ntmps51
  go_wp2_with fail
  clear k1 h1i h3i
  go_loopw [23] (fun i wr => ∃ k : Nat, k ≤ ss.length ∧ i = .int .i64 k ∧ Hid (∀ j, (h : j < ss.length) → j < k → phRow (phHead ss) ss[j] = true) ∧ Ext W0 wr) (fun i _ => ss.length - (intOf i).toNat)
  case atStart => exact ⟨0, Nat.zero_le _, rfl, fun j _ h => absurd h (Nat.not_lt_zero _), Ext.refl _⟩
  case round =>
    obtain ⟨k, hk, rfl, HR, X⟩ := hrel
    by_cases hlt : k < ss.length
    · have hki : (k : Int) < (ss.length : Int) := by omega
      have HNO : Hid (phRow (phHead ss) ss[k] = false → phO ss bs = none) := fun h => phO_no (phOk_row hlt h)
      have HYES : Hid (phRow (phHead ss) ss[k] = true → ∀ j, (h : j < ss.length) → j < k + 1 → phRow (phHead ss) ss[j] = true) := fun h j hj hjk => by
        by_cases e : j = k
        · subst e; exact h
        · exact HR.out j hj (by omega)
      have HROW : Hid (phRow (phHead ss) ss[k] = (sysB ss[k].parts ss[k].zs && (decide (ss[k].parts = phHead ss) && decide (ss[k].parts ≤ 6)))) := rfl
      obtain ⟨bb, oo, rfl, hbb, m0, m1⟩ := (r'.ext (X0.trans X)).at hlt
      obtain ⟨_, _, e0, -, z0, -⟩ := (r'.ext (X0.trans X)).at H0
      cases e0
      rw [← HH.out, Nat.zero_mul, Nat.add_zero] at z0
      have hok : RdI _ ss[k].kv ss[k].zs := (r'.ext (X0.trans X)).2 _ (List.getElem_mem hlt)
      have B1 := b1.ext X
      have k1 := B1.one
      have hb1 := B1.1
      generalize ss[k] = sy at *
      obtain ⟨pt, kv, zs⟩ := sy
      simp only at *
      have HOKR := Lib.hid hok
      obtain ⟨-, a3, c3, rfl, -, -, -, -⟩ := hok
      generalize phHead ss = p at *
      go_wp2_with fail
      have bx : Bx (wr.alloc (.cells #[.int .i64 pt, .slice a3 zs.length c3] 33)) wr.heap.size [.int .i64 pt, .slice a3 zs.length c3] := Bx.new _ _ _
      have X1 : Ext wr (wr.alloc (.cells #[.int .i64 pt, .slice a3 zs.length c3] 33)) := Ext.alloc _ _
      generalize hW1 : World.alloc wr _ = W1 at *
      have z1 := (Below.cell X1 (p := ⟨bb, oo, none⟩) hbb).trans z0
      have kk1 := (B1.ext X1).one
      have hbb1 : bb < W1.heap.size := Nat.lt_of_lt_of_le hbb X1.size
      have hb11 := (B1.ext X1).1
      have RI := Lib.hid (RdI.ext HOKR.out X1)
      generalize hbx0 : wr.heap.size = bx0 at *
      clear hW1 m0 m1 hbb z0 k1 hb1 B1
      obtain ⟨q0, q1⟩ := bx.two
      have hq := bx.1
      cases hv : sysB pt zs
      · have HV := Lib.hid hv
        have HNO2 := Lib.hid (HNO.out (by rw [HROW.out, hv]; rfl))
        clear hv
        refine wp_region_rel 17 (fun _ v => v = .bool false) (fun _ _ _ => True) (by kernel_rfl) (by kernel_rfl) (by kernel_rfl) ?_
        dsimp only [List.take, List.drop, List.length]
        refine LX_det (.agg #[.int .i64 pt, .slice a3 zs.length c3]) (by kernel_rfl) rfl (fun w' hx _ => ?_) ?_
        · obtain ⟨m0, m1⟩ := (bx.ext hx).two
          go_simp
        refine LX_call (by kernel_rfl) rfl (fun _ => St.top) (fun w' hx _ => ?_) ?_
        · go_simp
          refine UponC.enter ((implValidSystem_any pt _ zs _ (RI.out.ext hx)).mono ?_)
          rw [HV.out]
          rintro e w'' ⟨rfl, hx'⟩
          exact ⟨_, rfl, hx', rfl, trivial⟩
        rintro _ rfl
        refine LX_det (.bool true) (by kernel_rfl) rfl (fun w' hx _ => ?_) ?_
        · go_simp
        refine LX_det (.bool true) (by kernel_rfl) rfl (fun w' hx _ => ?_) ?_
        · go_simp
        iterate 7 refine LX_skip (by kernel_rfl) ?_
        refine LX_det (.bool true) (by kernel_rfl) rfl (fun w' hx _ => ?_) ?_
        · go_simp
        refine LX_det (.bool true) (by kernel_rfl) rfl (fun w' hx _ => ?_) ?_
        · go_simp
        iterate 3 refine LX_skip (by kernel_rfl) ?_
        refine LX_det (.bool true) (by kernel_rfl) rfl (fun w' hx _ => ?_) ?_
        · go_simp
        refine LX_nil fun w2 hx _ => ?_
        simp only [Act.put, List.setIfInBounds_toArray, List.set_cons_succ, List.set_cons_zero]
        go_wp2_with fail
        go_ret2
        unfold NmPost
        rw [HNO2.out]
        exact ⟨((X0.trans X).trans X1).trans hx, rfl⟩
      · have HV := Lib.hid hv
        rw [hv, Bool.true_and] at HROW
        clear hv
        by_cases hpt : pt = p
        · subst hpt
          simp only [decide_true, Bool.true_and] at HROW
          refine wp_region_rel 17 (fun _ v => v = .bool true) (fun _ _ _ => True) (by kernel_rfl) (by kernel_rfl) (by kernel_rfl) ?_
          dsimp only [List.take, List.drop, List.length]
          refine LX_det (.agg #[.int .i64 pt, .slice a3 zs.length c3]) (by kernel_rfl) rfl (fun w' hx _ => ?_) ?_
          · obtain ⟨m0, m1⟩ := (bx.ext hx).two
            go_simp
          refine LX_call (by kernel_rfl) rfl (fun _ => St.top) (fun w' hx _ => ?_) ?_
          · go_simp
            refine UponC.enter ((implValidSystem_any pt _ zs _ (RI.out.ext hx)).mono ?_)
            rw [HV.out]
            rintro e w'' ⟨rfl, hx'⟩
            exact ⟨_, rfl, hx', rfl, trivial⟩
          rintro _ rfl
          refine LX_det (.bool false) (by kernel_rfl) rfl (fun w' hx _ => ?_) ?_
          · go_simp
          refine LX_det (.bool false) (by kernel_rfl) rfl (fun w' hx _ => ?_) ?_
          · go_simp
          refine LX_det (.pointer (some ⟨bx0, 0, none⟩)) (by kernel_rfl) rfl (fun w' hx _ => ?_) ?_
          · go_simp
          refine LX_det (.int .i64 pt) (by kernel_rfl) rfl (fun w' hx _ => ?_) ?_
          · obtain ⟨m0, m1⟩ := (bx.ext hx).two
            go_simp
          refine LX_det (.slice (some ⟨bb, oo, none⟩) ss.length c1) (by kernel_rfl) rfl (fun w' hx _ => ?_) ?_
          · have m0 := (Below.cell hx (p := ⟨w.heap.size, 0, none⟩) hb11).trans kk1
            go_simp
          refine LX_det (.pointer (some ⟨bb, oo, none⟩)) (by kernel_rfl) rfl (fun w' hx _ => ?_) ?_
          · go_simp
          refine LX_det (.pointer (some ⟨bb, oo, none⟩)) (by kernel_rfl) rfl (fun w' hx _ => ?_) ?_
          · go_simp
          refine LX_det (.int .i64 pt) (by kernel_rfl) rfl (fun w' hx _ => ?_) ?_
          · have m0 := (Below.cell hx (p := ⟨bb, oo, none⟩) hbb1).trans z1
            go_simp
          refine LX_det (.bool false) (by kernel_rfl) rfl (fun w' hx _ => ?_) ?_
          · go_simp
          refine LX_det (.bool false) (by kernel_rfl) rfl (fun w' hx _ => ?_) ?_
          · go_simp
          refine LX_det (.bool false) (by kernel_rfl) rfl (fun w' hx _ => ?_) ?_
          · go_simp
          refine LX_det (.pointer (some ⟨bx0, 0, none⟩)) (by kernel_rfl) rfl (fun w' hx _ => ?_) ?_
          · go_simp
          refine LX_det (.int .i64 pt) (by kernel_rfl) rfl (fun w' hx _ => ?_) ?_
          · obtain ⟨m0, m1⟩ := (bx.ext hx).two
            go_simp
          refine LX_det (.bool (decide ((6 : Int) < pt))) (by kernel_rfl) rfl (fun w' hx _ => ?_) ?_
          · go_simp
          refine LX_det (.bool (decide ((6 : Int) < pt))) (by kernel_rfl) rfl (fun w' hx _ => ?_) ?_
          · go_simp
          refine LX_nil fun w2 hx _ => ?_
          simp only [Act.put, List.setIfInBounds_toArray, List.set_cons_succ, List.set_cons_zero]
          by_cases h6 : (6 : Int) < pt
          · have HNO2 := Lib.hid (HNO.out (by rw [HROW.out]; simp; omega))
            go_wp2_with fail
            go_ret2
            unfold NmPost
            rw [HNO2.out]
            exact ⟨((X0.trans X).trans X1).trans hx, rfl⟩
          · have HYES2 := Lib.hid (HYES.out (by rw [HROW.out]; simp; omega))
            go_wp2_with fail
            go_roundw
            case rel => exact ⟨k + 1, by omega, by go_num, HYES2, (X.trans X1).trans hx⟩
            case measure => simp [intOf]; omega
        · have HNO2 := Lib.hid (HNO.out (by rw [HROW.out]; simp [hpt]))
          refine wp_region_rel 17 (fun _ v => v = .bool true) (fun _ _ _ => True) (by kernel_rfl) (by kernel_rfl) (by kernel_rfl) ?_
          dsimp only [List.take, List.drop, List.length]
          refine LX_det (.agg #[.int .i64 pt, .slice a3 zs.length c3]) (by kernel_rfl) rfl (fun w' hx _ => ?_) ?_
          · obtain ⟨m0, m1⟩ := (bx.ext hx).two
            go_simp
          refine LX_call (by kernel_rfl) rfl (fun _ => St.top) (fun w' hx _ => ?_) ?_
          · go_simp
            refine UponC.enter ((implValidSystem_any pt _ zs _ (RI.out.ext hx)).mono ?_)
            rw [HV.out]
            rintro e w'' ⟨rfl, hx'⟩
            exact ⟨_, rfl, hx', rfl, trivial⟩
          rintro _ rfl
          refine LX_det (.bool false) (by kernel_rfl) rfl (fun w' hx _ => ?_) ?_
          · go_simp
          refine LX_det (.bool false) (by kernel_rfl) rfl (fun w' hx _ => ?_) ?_
          · go_simp
          refine LX_det (.pointer (some ⟨bx0, 0, none⟩)) (by kernel_rfl) rfl (fun w' hx _ => ?_) ?_
          · go_simp
          refine LX_det (.int .i64 pt) (by kernel_rfl) rfl (fun w' hx _ => ?_) ?_
          · obtain ⟨m0, m1⟩ := (bx.ext hx).two
            go_simp
          refine LX_det (.slice (some ⟨bb, oo, none⟩) ss.length c1) (by kernel_rfl) rfl (fun w' hx _ => ?_) ?_
          · have m0 := (Below.cell hx (p := ⟨w.heap.size, 0, none⟩) hb11).trans kk1
            go_simp
          refine LX_det (.pointer (some ⟨bb, oo, none⟩)) (by kernel_rfl) rfl (fun w' hx _ => ?_) ?_
          · go_simp
          refine LX_det (.pointer (some ⟨bb, oo, none⟩)) (by kernel_rfl) rfl (fun w' hx _ => ?_) ?_
          · go_simp
          refine LX_det (.int .i64 p) (by kernel_rfl) rfl (fun w' hx _ => ?_) ?_
          · have m0 := (Below.cell hx (p := ⟨bb, oo, none⟩) hbb1).trans z1
            go_simp
          refine LX_det (.bool true) (by kernel_rfl) rfl (fun w' hx _ => ?_) ?_
          · go_simp
          refine LX_det (.bool true) (by kernel_rfl) rfl (fun w' hx _ => ?_) ?_
          · go_simp
          refine LX_det (.bool true) (by kernel_rfl) rfl (fun w' hx _ => ?_) ?_
          · go_simp
          iterate 3 refine LX_skip (by kernel_rfl) ?_
          refine LX_det (.bool true) (by kernel_rfl) rfl (fun w' hx _ => ?_) ?_
          · go_simp
          refine LX_nil fun w2 hx _ => ?_
          simp only [Act.put, List.setIfInBounds_toArray, List.set_cons_succ, List.set_cons_zero]
          go_wp2_with fail
          go_ret2
          unfold NmPost
          rw [HNO2.out]
          exact ⟨((X0.trans X).trans X1).trans hx, rfl⟩
    · obtain hkn : k = ss.length := by omega
      have G : PhG ss bs (phHead ss).toNat ss.length := phG_of (by omega) (by omega) fun i hi => HR.out i hi (by omega)
      have HALL : Hid (phOk ss bs = chancesB bs (phHead ss * ss.length)) := by
        show _ = _
        have h1 : ss.all (phRow (phHead ss)) = true := by
          rw [List.all_eq_true]
          intro s hs
          obtain ⟨i, hi, rfl⟩ := List.getElem_of_mem hs
          exact HR.out i hi (by omega)
        unfold phOk
        rw [h1, show decide (1 ≤ ss.length) = true by simp; omega, show decide (ss.length ≤ 3) = true by simp; omega]
        rfl
      have HDO : Hid (phO ss bs = if phOk ss bs then some (sumP (dn ss) (bs.map (cn .f32)) (phHead ss).toNat ss.length ((ss.length + 1) ^ (phHead ss).toNat)) else none) := rfl
      obtain ⟨bb, oo, rfl, hbb, z0, -⟩ := (r'.ext (X0.trans X)).at H0
      rw [← HH.out, Nat.zero_mul, Nat.add_zero] at z0
      rw [HALL.out] at HDO
      clear HR HALL HH
      obtain ⟨gn, hsn, gP, hp, hss⟩ := G
      generalize phHead ss = p at *
      generalize hPP : p.toNat = P at *
      subst hp
      clear hPP
      subst hkn
      have GSS := Lib.hid hss
      clear hss hsn
      have hPn : (P : Int) * (ss.length : Int) = ((ss.length * P : Nat) : Int) := by rw [Nat.mul_comm]; exact_mod_cast rfl
      have hle : ss.length * P ≤ 3 * 6 := Nat.mul_le_mul gn.2 gP.2
      have hw1 : IntKind.i64.wrap ((P : Int) * (ss.length : Int)) = ((ss.length * P : Nat) : Int) := by rw [hPn]; exact wrap_nat _ (by omega)
      rw [hPn] at HDO
      have B1 := b1.ext X
      have B2 := b2.ext X
      have k1 := B1.one
      have k2 := B2.one
      have hb1 := B1.1
      have hb2 := B2.1
      generalize hkP : ss.length * P = kP at *
      clear hPn
      have H0i : (0 : Int) < (ss.length : Int) := by omega
      go_wp2_with fail
      go_region_held3 (fun w' => w'.cell? ⟨w.heap.size, 0, none⟩ = some (.slice (some ⟨bb, oo, none⟩) ss.length c1) ∧ w'.cell? ⟨bb, oo, none⟩ = some (.int .i64 P) ∧ Ext wr w')
        ((refine keepS hb1 hbb k1 z0 ?_; repeat (first | exact Ext.refl _ | refine Ext.trans ?_ (keepS_d _) | refine keepS_a ?_ | refine Below.setCell ?_ (by simp) _)))
        (first | fail)
      all_goals
      rename_i hS
      replace hS := hS.2.2
      first
      | (obtain ⟨W3, hW3⟩ : ∃ W3, W3 = ((wr.alloc (.cells #[.int .i64 P] 2)).alloc (.cells #[.int .i64 ss.length] 3)).drew := ⟨_, rfl⟩
         rw [← hW3] at hS ⊢
         obtain ⟨bz3, bz4⟩ := twoBz hW3
         obtain ⟨bn, hbn⟩ : ∃ b, b = wr.heap.size + 1 := ⟨_, rfl⟩
         obtain ⟨bp, hbp⟩ : ∃ b, b = wr.heap.size := ⟨_, rfl⟩
         rw [← hbn, ← hbp]
         rw [← hbp] at bz3
         rw [← hbn] at bz4)
      | (obtain ⟨W3, hW3⟩ : ∃ W3, W3 = ((wr.alloc (.cells #[.int .i64 ss.length] 3)).alloc (.cells #[.int .i64 P] 2)).drew := ⟨_, rfl⟩
         rw [← hW3] at hS ⊢
         obtain ⟨bz4, bz3⟩ := twoBz hW3
         obtain ⟨bp, hbp⟩ : ∃ b, b = wr.heap.size + 1 := ⟨_, rfl⟩
         obtain ⟨bn, hbn⟩ : ∃ b, b = wr.heap.size := ⟨_, rfl⟩
         rw [← hbp, ← hbn]
         rw [← hbp] at bz3
         rw [← hbn] at bz4)
      all_goals
      have X3 : Ext wr W3 := hS
      clear hS hW3
      replace hbp : wr.heap.size ≤ bp := by omega
      replace hbn : wr.heap.size ≤ bn := by omega
      have hne : bp ≠ bn := by
        rintro rfl
        have := bz3.symm.trans bz4
        simp at this
      have c1' := b1.ext (X.trans X3)
      have c2' := b2.ext (X.trans X3)
      have q1 := bz3.bx.one
      have q2 := bz4.bx.one
      have z1 := bz3.lt
      have z2 := bz4.lt
      have kk2 := c2'.one
      have hbb2 := c2'.1
      clear k1 k2 B1 B2
      go_wp2_with fail
      clear kk2 hbb2 z0 hw1 q1 q2 z1 z2
      have HCH := Lib.hid (areChances_any _ bs kP W3 (rb'.ext ((X0.trans X).trans X3)))
      generalize hch : chancesB bs kP = ch at *
      refine HCH.out.mono ?_
      rintro e w4 ⟨rfl, X4⟩
      cases ch
      · have HNO : Hid (phO ss bs = none) := HDO.out
        clear hch
        go_wp2_with fail
        go_ret2
        unfold NmPost
        rw [HNO.out]
        exact ⟨((X0.trans X).trans X3).trans X4, rfl⟩
      · have HYES : Hid (phO ss bs = some (sumP (dn ss) (bs.map (cn .f32)) P ss.length ((ss.length + 1) ^ P))) := HDO.out
        have hbl : bs.length = ss.length * P := by
          simp only [chancesB, Bool.and_eq_true, decide_eq_true_eq] at hch
          have := hch.2
          rw [hkP]; omega
        have HBL := Lib.hid hbl
        clear hch hbl HDO HCH
        have Y4 : Ext w w4 := ((X0.trans X).trans X3).trans X4
        replace c1' := c1'.ext X4
        replace c2' := c2'.ext X4
        replace bz3 := bz3.ext X4
        replace bz4 := bz4.ext X4
        have hp4 := bz3.lt
        have hn4 := bz4.lt
        have k3 := bz3.bx.one
        have hbbp : w.heap.size ≤ bp := Nat.le_trans (X0.trans X).size hbp
        have hbbn : w.heap.size ≤ bn := Nat.le_trans (X0.trans X).size hbn
        have hw1le : W0.heap.size = w.heap.size + 2 := by rw [← hW0]; simp
        have hWw : W0.heap.size ≤ wr.heap.size := X.size
        clear hW0
        obtain ⟨i0, hi0, hz0, hz1, hz2⟩ := info_parts infoIntP
        have hP6 : (P : Int) ≤ 6 := by omega
        have hP0 : ¬ (P : Int) < 0 := by omega
        go_wp2_with (at_make; refine wpList_make_full _ rfl _ _ 107 rfl w.heap.size 3 i0 (.int .i64 0) 1 Try.underlying107 hi0 hz0 hz1 _ _ _ _ P rfl rfl rfl rfl ?c1 ?c2 ?c3 ?_)
        case c1 => first | omega | (rw [hz2]; omega)
        case c2 => unfold maxLen; omega
        case c3 => exact Nat.le_trans Y4.size (by simp)
        intro w6 hown hg
        rw [toList_madeCells_one] at hown
        have bo5 : Bz (w4.alloc (.cells #[.float .f32 0] 61)) w4.heap.size 61 [.float .f32 0] := Bz.new _ _ _
        have Y5 : Ext w4 (w4.alloc (.cells #[.float .f32 0] 61)) := Ext.alloc _ _
        have e5 : (w4.alloc (.cells #[.float .f32 0] 61)).heap.size = w4.heap.size + 1 := by simp
        have X6 : Ext (w4.alloc (.cells #[.float .f32 0] 61)) w6 := (Ext.refl _).grown hg (Nat.le_refl _) (fun _ h => by cases h)
        generalize hA5 : w4.alloc (.cells #[.float .f32 0] 61) = A5 at *
        have own0 : w6.ownsRow w.heap.size 3 1 (.slice (some ⟨w4.heap.size + 1, 0, none⟩) P P) P (nums (List.replicate P 0)) := by
          have : nums (List.replicate P 0) = List.replicate P (Value.int .i64 0) := by unfold nums; rw [List.map_replicate]; rfl
          rw [this]; exact hown
        have hg6 := (own0.lt _ rfl).2
        have bo6 := bo5.ext X6
        clear hown hg hi0 hz0 hz1 hz2 hA5
        have b7 : Bx (w6.alloc (.cells #[.slice (some ⟨w4.heap.size + 1, 0, none⟩) P P] 107)) w6.heap.size [.slice (some ⟨w4.heap.size + 1, 0, none⟩) P P] := Bx.new _ _ _
        have e7 : (w6.alloc (.cells #[.slice (some ⟨w4.heap.size + 1, 0, none⟩) P P] 107)).heap.size = w6.heap.size + 1 := by simp
        generalize hfv : Value.func (.func 95) #[] #[.pointer (some ⟨bp, 0, none⟩), .pointer (some ⟨bn, 0, none⟩), .pointer (some ⟨w6.heap.size, 0, none⟩), .pointer (some ⟨w6.heap.size + 1, 0, none⟩), .pointer (some ⟨w.heap.size, 0, none⟩), .pointer (some ⟨w.heap.size + 1, 0, none⟩), .pointer (some ⟨w4.heap.size, 0, none⟩)] = fv
        have X8 : Ext w6 ((w6.alloc (.cells #[.slice (some ⟨w4.heap.size + 1, 0, none⟩) P P] 107)).alloc (.cells #[fv] 108)) := (Ext.alloc _ _).trans (Ext.alloc _ _)
        have b8 : Bx ((w6.alloc (.cells #[.slice (some ⟨w4.heap.size + 1, 0, none⟩) P P] 107)).alloc (.cells #[fv] 108)) w6.heap.size [.slice (some ⟨w4.heap.size + 1, 0, none⟩) P P] := b7.ext (Ext.alloc _ _)
        have b9 : Bx ((w6.alloc (.cells #[.slice (some ⟨w4.heap.size + 1, 0, none⟩) P P] 107)).alloc (.cells #[fv] 108)) (w6.heap.size + 1) [fv] := by rw [← e7]; exact Bx.new _ _ _
        have e8 : ((w6.alloc (.cells #[.slice (some ⟨w4.heap.size + 1, 0, none⟩) P P] 107)).alloc (.cells #[fv] 108)).heap.size = w6.heap.size + 2 := by simp
        generalize hA8 : (w6.alloc (.cells #[.slice (some ⟨w4.heap.size + 1, 0, none⟩) P P] 107)).alloc (.cells #[fv] 108) = A8 at *
        have X48 := (Y5.trans X6).trans X8
        have hz6 : w4.heap.size + 1 < w6.heap.size := hg6
        have pl : PlP w A8.heap.size bp bn w6.heap.size (w6.heap.size + 1) w.heap.size (w.heap.size + 1) w4.heap.size (w4.heap.size + 1) :=
          ⟨⟨by omega, by omega, by omega, by omega, by omega, by omega, by omega, by omega⟩, ⟨by omega, by omega, by omega, by omega, by omega, by omega, by omega⟩, ⟨by omega, by omega, by omega, by omega, by omega, by omega⟩, ⟨Y4.size, Nat.le_trans Y4.size (Nat.le_succ _)⟩⟩
        have st : StP w A8.heap.size P ss.length bp bn w6.heap.size (w6.heap.size + 1) w.heap.size (w.heap.size + 1) w4.heap.size (w4.heap.size + 1) (.slice (some ⟨bb, oo, none⟩) ss.length c1) (.slice a2 bs.length c2) fv (dn ss) (bs.map (cn .f32)) A8 (0 * (ss.length + 1) ^ P) (digs (ss.length + 1) 0 0) :=
          ⟨Y4.trans X48, Nat.le_refl _, (bz3.ext X48).bx.one, (bz4.ext X48).bx.one, b8.one, b9.one, (c1'.ext X48).one, (c2'.ext X48).one, ⟨List.replicate P 0, by simp, rfl, own_ext' own0 X8⟩,
            ⟨0, (bo6.ext X8).bx.one, by rw [Nat.zero_mul]; rfl, by decide⟩, (bo6.ext X8).frozen⟩
        have HT := Lib.hid (put_any ss bs r' rb' gP.2 gn.2 rfl GSS.out HBL.out pl hfv.symm P 0 0 A8 (by omega) (by simp) st)
        subst hfv
        subst hA8
        clear st b9 b8 bo6 bo5 own0 b7 e7 c1' c2' bz3 bz4
        go_wp2_with fail
        refine HT.out.mono ?_
        rintro e w9 ⟨rfl, st9⟩
        obtain ⟨x, hx1, hx2, hx3⟩ := st9.co
        have XX := st9.x
        rw [Nat.zero_add, Nat.one_mul] at hx2
        have HX2 := Lib.hid hx2
        have HX3 := Lib.hid hx3
        clear hx2 hx3 st9 HT
        go_wp2_with fail
        go_ret2
        unfold NmPost
        rw [HYES.out]
        exact ⟨XX, x, rfl, HX2.out, HX3.out⟩
end Go.Proofs.Ytepgkhcfeaklmaa
