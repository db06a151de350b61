
/- Valid systems on both sides: the same answer. Condition: a list of ints that can be read. -/
import Derived.Test.YtgmdoboeenpjpaaYc
namespace Go.Proofs.Ytgmdoboeenpjpaa
open Go Go.RowKit Go.ChangeShapes Go.WideShapes Go.ChangeAt

attribute [local irreducible] LX

def downs (zs : List Int) : List Nat := zs.map Int.toNat
theorem downs_len (zs : List Int) : (downs zs).length = zs.length := by simp [downs]
theorem ups_downs {zs : List Int} (h : ∀ z ∈ zs, 0 ≤ z) : ups (downs zs) = zs := by
  unfold ups downs
  rw [List.map_map]
  conv => rhs; rw [← List.map_id zs]
  apply List.map_congr_left
  intro z hz
  have := h z hz
  simp; omega
theorem downs_ups (ns : List Nat) : downs (ups ns) = ns := by
  unfold ups downs
  rw [List.map_map]
  conv => rhs; rw [← List.map_id ns]
  apply List.map_congr_left
  intro z _
  simp
/-- The least asked of a system: so many parts, so many paths, each a set of its parts. -/
def goodI (p : Int) (zs : List Int) : Bool := inB p 1 10 && manyB zs 1 64 1 (2 ^ p.toNat - 1)
/-- A valid system. -/
def sysB (p : Int) (zs : List Int) : Bool := goodI p zs && (asc (downs zs) && anti (downs zs))

theorem apart_nat {x y : Nat} (hx : x < 9223372036854775808) (hy : y < 9223372036854775808) : apartI x y = (!(hasB x y) && !(hasB y x)) := by
  unfold apartI hasB
  rw [bits_and x y hx hy, Nat.and_comm y x]
  congr 2
  · rw [Bool.eq_iff_iff]; simp; omega
  · rw [Bool.eq_iff_iff]; simp; omega

theorem good_get {p : Int} {zs : List Int} (h : goodI p zs = true) : (1 ≤ p ∧ p ≤ 10) ∧ (1 ≤ zs.length ∧ zs.length ≤ 64) ∧ (∀ z ∈ zs, 1 ≤ z ∧ z ≤ 2 ^ p.toNat - 1) ∧ zs = ups (downs zs) ∧ (∀ n ∈ downs zs, 1 ≤ n ∧ n < 2 ^ p.toNat ∧ n < 1024) := by
  simp only [goodI, manyB, Bool.and_eq_true, List.all_eq_true] at h
  obtain ⟨h1, h2, h3⟩ := h
  have a1 := inB_iff.1 h1
  have a2 := inB_iff.1 h2
  have a3 : ∀ z ∈ zs, 1 ≤ z ∧ z ≤ 2 ^ p.toNat - 1 := fun z hz => inB_iff.1 (h3 z hz)
  have hw := pow10' a1.1 a1.2
  refine ⟨a1, by omega, a3, (ups_downs fun z hz => by have := a3 z hz; omega).symm, fun n hn => ?_⟩
  obtain ⟨z, hz, rfl⟩ := List.mem_map.1 hn
  have := a3 z hz
  have hc : ((2 ^ p.toNat : Nat) : Int) = 2 ^ p.toNat := by exact_mod_cast rfl
  refine ⟨by omega, ?_, ?_⟩
  · have : ((z.toNat : Nat) : Int) < ((2 ^ p.toNat : Nat) : Int) := by rw [hc]; omega
    exact_mod_cast this
  · omega

theorem sysI_eq (p : Int) (zs : List Int) : sysI p zs = sysB p zs := by
  unfold sysI sysB goodI manyB
  cases h1 : inB p 1 10
  · rfl
  cases h2 : inB zs.length 1 64
  · rfl
  simp only [Bool.true_and]
  cases h3 : (zs.all fun z => inB z 1 (2 ^ p.toNat - 1))
  · rw [List.all_eq_false] at h3
    obtain ⟨z, hz, hf⟩ := h3
    obtain ⟨k, hk, rfl⟩ := List.getElem_of_mem hz
    rw [Bool.false_and, List.all_eq_false]
    refine ⟨k, List.mem_range.2 hk, ?_⟩
    have hg : zs.getD k 0 = zs[k] := by simp [hk]
    have hf2 : inB zs[k] 1 (2 ^ p.toNat - 1) = false := by simpa using hf
    unfold rowI
    rw [hg, hf2]
    simp
  · have hg : goodI p zs = true := by unfold goodI manyB; rw [h1, h2, h3]; rfl
    obtain ⟨-, -, h4, h5, h6⟩ := good_get hg
    rw [Bool.true_and, pair_all, downs_len]
    rw [Bool.eq_iff_iff, List.all_eq_true, List.all_eq_true]
    refine forall_congr' fun i => forall_congr' fun hi => ?_
    rw [List.mem_range] at hi
    have hgd : ∀ k, zs.getD k 0 = ((downs zs).getD k 0 : Nat) := fun k => by
      conv => lhs; rw [h5]
      unfold ups
      by_cases hk : k < (downs zs).length
      · simp [hk]
      · simp [hk]
    have hlt : ∀ k, (downs zs).getD k 0 < 9223372036854775808 := fun k => by
      by_cases hk : k < (downs zs).length
      · have := h6 _ (List.getElem_mem hk)
        simp [hk]; omega
      · simp [hk]
    have hin : inB (zs.getD i 0) 1 (2 ^ p.toNat - 1) = true := by
      have : zs.getD i 0 = zs[i] := by simp [hi]
      rw [this]; exact List.all_eq_true.1 h3 _ (List.getElem_mem hi)
    unfold rowI pairOk
    rw [hin, Bool.true_and]
    have e1 : decide (zs.getD (i - 1) 0 < zs.getD i 0) = decide ((downs zs).getD (i - 1) 0 < (downs zs).getD i 0) := by rw [hgd, hgd, decide_eq_decide]; omega
    have e2 : ((List.range i).all fun k => apartI (zs.getD i 0) (zs.getD k 0)) = ((List.range i).all fun k => !(hasB ((downs zs).getD i 0) ((downs zs).getD k 0)) && !(hasB ((downs zs).getD k 0) ((downs zs).getD i 0))) := by
      congr 1
      funext k
      rw [hgd, hgd k, apart_nat (hlt i) (hlt k)]
    rw [e1, e2]

theorem sys_least {p : Int} {zs : List Int} (h : goodI p zs = true) : decide (zs = ups (leastN (downs zs))) = (asc (downs zs) && anti (downs zs)) := by
  obtain ⟨h1, h2, h3, h4, h5⟩ := good_get h
  have hl := least_self (N := 1048577) (ns := downs zs) fun z hz => by have := h5 z hz; omega
  rw [Bool.eq_iff_iff, decide_eq_true_eq, ← hl]
  unfold leastN
  constructor
  · intro e
    have := congrArg downs e
    rw [downs_ups] at this
    exact this
  · intro e
    rw [← e]; exact h4

theorem l03Is_sys (p : Int) (v : Value) (zs : List Int) (blk : Nat) (w : World) (hbx : Bx w blk [.int .i64 p, v]) (r : RdI w v zs) :
    Calls Try.prog 49 #[.pointer (some ⟨blk, 0, none⟩)] w fun e w' => e = .returned (.bool (sysB p zs)) ∧ Ext w w' := by
  rw [← sysI_eq]; exact l03Is_any p v zs blk w hbx r

theorem areParts_eq {p : Int} {c : Bool} (h : inB p 1 10 = c) (w : World) : Calls Try.prog 69 #[.int .i64 p] w fun e w' => e = .returned (.bool c) ∧ w = w' := by subst h; exact areParts_any p w
theorem areMany_eq {v : Value} {zs : List Int} {few many lo hi : Int} {c : Bool} (h : manyB zs few many lo hi = c) (w : World) (r : RdI w v zs) :
    Calls Try.prog 87 #[v, .int .i64 few, .int .i64 many, .int .i64 lo, .int .i64 hi] w fun e w' => e = .returned (.bool c) ∧ Ext w w' := by subst h; exact areMany_any v zs few many lo hi w r

def LeV (ns : List Nat) (v : Value) : Prop := ∃ g cap, v = .slice (some ⟨g, 0, none⟩) (leastN ns).length cap
def LeW (ns : List Nat) (v : Value) (w : World) : Prop := RdI w v (ups (leastN ns))
theorem LeW.st (ns : List Nat) (v : Value) : St (LeW ns v) := fun _ _ h hx => h.ext hx

set_option maxRecDepth 100000 in
set_option maxHeartbeats 8000000 in
theorem implValidSystem_any (p : Int) (v : Value) (zs : List Int) (w : World) (r : RdI w v zs) :
    Calls Try.prog 59 #[.agg #[.int .i64 p, v]] w fun e w' => e = .returned (.bool (sysB p zs)) ∧ Ext w w' := by
  have r' := r
  obtain ⟨-, a1, c1, rfl, p1, p2, -, -⟩ := r
  clear p1 p2
  have bx : Bx (w.alloc (.cells #[.int .i64 p, .slice a1 zs.length c1] 27)) w.heap.size [.int .i64 p, .slice a1 zs.length c1] := Bx.new _ _ _
  cases hp : inB p 1 10
  · have HF : Hid (sysB p zs = false) := by show _ = _; simp [sysB, goodI, hp]
    have HP := Lib.hid hp
    clear hp
    go_enter Try.func59, Try.ntmps59
    go_wp2_with fail
    generalize hW : World.alloc w _ = W at *
    have X : Ext w W := hW ▸ Ext.alloc _ _
    generalize w.heap.size = blk at *
    obtain ⟨k0, k1⟩ := bx.two
    have hbl := bx.1
    refine wp_region_rel 20 (fun _ v => v = .bool false) (fun _ _ _ => True) (by kernel_rfl) (by kernel_rfl) (by kernel_rfl) ?_
    dsimp only [List.take, List.drop, List.length]
    refine LX_det (.pointer (some ⟨blk, 0, none⟩)) (by kernel_rfl) rfl (fun w' hx _ => ?_) ?_
    · go_simp
    refine LX_det (.int .i64 p) (by kernel_rfl) rfl (fun w' hx _ => ?_) ?_
    · have m0 := (Below.cell hx (p := ⟨blk, 0, none⟩) hbl).trans k0
      go_simp
    refine LX_call (by kernel_rfl) rfl (fun _ => St.top) (fun w' hx _ => ?_) ?_
    · go_simp
      refine UponC.enter ((areParts_eq HP.out _).mono ?_)
      rintro e w'' ⟨rfl, rfl⟩
      exact ⟨_, rfl, Ext.refl _, rfl, trivial⟩
    rintro _ rfl
    refine LX_det (.bool false) (by kernel_rfl) rfl (fun w' hx _ => ?_) ?_
    · go_simp
    iterate 7 refine LX_skip (by kernel_rfl) ?_
    refine LX_det (.bool false) (by kernel_rfl) rfl (fun w' hx _ => ?_) ?_
    · go_simp
    refine LX_det (.bool false) (by kernel_rfl) rfl (fun w' hx _ => ?_) ?_
    · go_simp
    iterate 6 refine LX_skip (by kernel_rfl) ?_
    refine LX_det (.bool false) (by kernel_rfl) rfl (fun w' hx _ => ?_) ?_
    · go_simp
    refine LX_nil fun w2 hx _ => ?_
    simp only [Act.put, List.setIfInBounds_toArray, List.set_cons_succ, List.set_cons_zero]
    go_wp2_with fail
    go_ret
    exact ⟨ret_bool HF.out.symm, X.trans hx⟩
  have hp2 := inB_iff.1 hp
  have hpw := pow10' hp2.1 hp2.2
  have hp0 : 0 ≤ p := by omega
  have hp63 : p < 64 := by omega
  have s1 : IntKind.i64.wrap (2 ^ p.toNat) = 2 ^ p.toNat := IntWalk.i64_in _ (by omega)
  have s2 : IntKind.i64.wrap (2 ^ p.toNat - 1) = 2 ^ p.toNat - 1 := IntWalk.i64_in _ (by omega)
  cases hm : manyB zs 1 64 1 (2 ^ p.toNat - 1)
  · have HF : Hid (sysB p zs = false) := by show _ = _; simp [sysB, goodI, hm]
    have HP := Lib.hid hp
    have HM := Lib.hid hm
    clear hp hm
    go_enter Try.func59, Try.ntmps59
    go_wp2_with fail
    generalize hW : World.alloc w _ = W at *
    have X : Ext w W := hW ▸ Ext.alloc _ _
    generalize w.heap.size = blk at *
    obtain ⟨k0, k1⟩ := bx.two
    have hbl := bx.1
    refine wp_region_rel 20 (fun i v => v = .bool (i == 2)) (fun _ _ _ => True) (by kernel_rfl) (by kernel_rfl) (by kernel_rfl) ?_
    dsimp only [List.take, List.drop, List.length]
    refine LX_det (.pointer (some ⟨blk, 0, none⟩)) (by kernel_rfl) rfl (fun w' hx _ => ?_) ?_
    · go_simp
    refine LX_det (.int .i64 p) (by kernel_rfl) rfl (fun w' hx _ => ?_) ?_
    · have m0 := (Below.cell hx (p := ⟨blk, 0, none⟩) hbl).trans k0
      go_simp
    refine LX_call (by kernel_rfl) rfl (fun _ => St.top) (fun w' hx _ => ?_) ?_
    · go_simp
      refine UponC.enter ((areParts_eq HP.out _).mono ?_)
      rintro e w'' ⟨rfl, rfl⟩
      exact ⟨_, rfl, Ext.refl _, rfl, trivial⟩
    rintro _ rfl
    refine LX_det (.bool true) (by kernel_rfl) rfl (fun w' hx _ => ?_) ?_
    · go_simp
    refine LX_det (.pointer (some ⟨blk, 1, none⟩)) (by kernel_rfl) rfl (fun w' hx _ => ?_) ?_
    · go_simp
    refine LX_det (.slice a1 zs.length c1) (by kernel_rfl) rfl (fun w' hx _ => ?_) ?_
    · have m0 := (Below.cell hx (p := ⟨blk, 1, none⟩) hbl).trans k1
      go_simp
    refine LX_det (.pointer (some ⟨blk, 0, none⟩)) (by kernel_rfl) rfl (fun w' hx _ => ?_) ?_
    · go_simp
    refine LX_det (.int .i64 p) (by kernel_rfl) rfl (fun w' hx _ => ?_) ?_
    · have m0 := (Below.cell hx (p := ⟨blk, 0, none⟩) hbl).trans k0
      go_simp
    refine LX_det (.int .i64 (2 ^ p.toNat)) (by kernel_rfl) rfl (fun w' hx _ => ?_) ?_
    · go_simp
    refine LX_det (.int .i64 (2 ^ p.toNat - 1)) (by kernel_rfl) rfl (fun w' hx _ => ?_) ?_
    · go_simp
    refine LX_call (by kernel_rfl) rfl (fun _ => St.top) (fun w' hx _ => ?_) ?_
    · go_simp
      refine UponC.enter ((areMany_eq HM.out _ (r'.ext (X.trans hx))).mono ?_)
      rintro e w'' ⟨rfl, hx'⟩
      exact ⟨_, rfl, hx', rfl, trivial⟩
    rintro _ rfl
    refine LX_det (.bool false) (by kernel_rfl) rfl (fun w' hx _ => ?_) ?_
    · go_simp
    refine LX_det (.bool false) (by kernel_rfl) rfl (fun w' hx _ => ?_) ?_
    · go_simp
    iterate 6 refine LX_skip (by kernel_rfl) ?_
    refine LX_det (.bool false) (by kernel_rfl) rfl (fun w' hx _ => ?_) ?_
    · go_simp
    refine LX_nil fun w2 hx _ => ?_
    simp only [Act.put, List.setIfInBounds_toArray, List.set_cons_succ, List.set_cons_zero]
    go_wp2_with fail
    go_ret
    exact ⟨ret_bool HF.out.symm, X.trans hx⟩
  · have hgood : goodI p zs = true := by unfold goodI; rw [hp, hm]; rfl
    have HF : Hid (sysB p zs = decide (zs = ups (leastN (downs zs)))) := by show _ = _; unfold sysB; rw [hgood, Bool.true_and, sys_least hgood]
    obtain ⟨-, hl, -, hud, hdn⟩ := good_get hgood
    have hle : ∀ W v, RdI W v zs → Calls Try.prog 82 #[v] W fun e w' => ∃ g cap, e = .returned (.slice (some ⟨g, 0, none⟩) (leastN (downs zs)).length cap) ∧ Ext W w' ∧ OwnS W.heap.size w' g cap (leastN (downs zs)) := fun W v hr =>
      least_any v (downs zs) W (by rw [← hud]; exact hr) (by rw [downs_len]; omega) (by rw [downs_len]; omega) fun z hz => by have := hdn z hz; omega
    have HLE := Lib.hid hle
    have HP := Lib.hid hp
    have HM := Lib.hid hm
    clear hp hm hle hud hdn hgood hl
    go_enter Try.func59, Try.ntmps59
    go_wp2_with fail
    generalize hW : World.alloc w _ = W at *
    have X : Ext w W := hW ▸ Ext.alloc _ _
    generalize w.heap.size = blk at *
    obtain ⟨k0, k1⟩ := bx.two
    have hbl := bx.1
    refine wp_region_rel 20 (fun i v => match i with | 17 => LeV (downs zs) v | 18 => v = .bool (decide (zs = ups (leastN (downs zs)))) | _ => v = .bool true)
      (fun i v w => match i with | 17 => LeW (downs zs) v w | _ => True) (by kernel_rfl) (by kernel_rfl) (by kernel_rfl) ?_
    dsimp only [List.take, List.drop, List.length]
    refine LX_det (.pointer (some ⟨blk, 0, none⟩)) (by kernel_rfl) rfl (fun w' hx _ => ?_) ?_
    · go_simp
    refine LX_det (.int .i64 p) (by kernel_rfl) rfl (fun w' hx _ => ?_) ?_
    · have m0 := (Below.cell hx (p := ⟨blk, 0, none⟩) hbl).trans k0
      go_simp
    refine LX_call (by kernel_rfl) rfl (fun _ => St.top) (fun w' hx _ => ?_) ?_
    · go_simp
      refine UponC.enter ((areParts_eq HP.out _).mono ?_)
      rintro e w'' ⟨rfl, rfl⟩
      exact ⟨_, rfl, Ext.refl _, rfl, trivial⟩
    rintro _ rfl
    refine LX_det (.bool true) (by kernel_rfl) rfl (fun w' hx _ => ?_) ?_
    · go_simp
    refine LX_det (.pointer (some ⟨blk, 1, none⟩)) (by kernel_rfl) rfl (fun w' hx _ => ?_) ?_
    · go_simp
    refine LX_det (.slice a1 zs.length c1) (by kernel_rfl) rfl (fun w' hx _ => ?_) ?_
    · have m0 := (Below.cell hx (p := ⟨blk, 1, none⟩) hbl).trans k1
      go_simp
    refine LX_det (.pointer (some ⟨blk, 0, none⟩)) (by kernel_rfl) rfl (fun w' hx _ => ?_) ?_
    · go_simp
    refine LX_det (.int .i64 p) (by kernel_rfl) rfl (fun w' hx _ => ?_) ?_
    · have m0 := (Below.cell hx (p := ⟨blk, 0, none⟩) hbl).trans k0
      go_simp
    refine LX_det (.int .i64 (2 ^ p.toNat)) (by kernel_rfl) rfl (fun w' hx _ => ?_) ?_
    · go_simp
    refine LX_det (.int .i64 (2 ^ p.toNat - 1)) (by kernel_rfl) rfl (fun w' hx _ => ?_) ?_
    · go_simp
    refine LX_call (by kernel_rfl) rfl (fun _ => St.top) (fun w' hx _ => ?_) ?_
    · go_simp
      refine UponC.enter ((areMany_eq HM.out _ (r'.ext (X.trans hx))).mono ?_)
      rintro e w'' ⟨rfl, hx'⟩
      exact ⟨_, rfl, hx', rfl, trivial⟩
    rintro _ rfl
    refine LX_det (.bool true) (by kernel_rfl) rfl (fun w' hx _ => ?_) ?_
    · go_simp
    refine LX_det (.bool true) (by kernel_rfl) rfl (fun w' hx _ => ?_) ?_
    · go_simp
    refine LX_det (.pointer (some ⟨blk, 1, none⟩)) (by kernel_rfl) rfl (fun w' hx _ => ?_) ?_
    · go_simp
    refine LX_det (.slice a1 zs.length c1) (by kernel_rfl) rfl (fun w' hx _ => ?_) ?_
    · have m0 := (Below.cell hx (p := ⟨blk, 1, none⟩) hbl).trans k1
      go_simp
    refine LX_det (.pointer (some ⟨blk, 1, none⟩)) (by kernel_rfl) rfl (fun w' hx _ => ?_) ?_
    · go_simp
    refine LX_det (.slice a1 zs.length c1) (by kernel_rfl) rfl (fun w' hx _ => ?_) ?_
    · have m0 := (Below.cell hx (p := ⟨blk, 1, none⟩) hbl).trans k1
      go_simp
    refine LX_call (by kernel_rfl) rfl (LeW.st (downs zs)) (fun w' hx _ => ?_) ?_
    · go_simp
      refine UponC.enter ((HLE.out _ _ (r'.ext (X.trans hx))).mono ?_)
      rintro e w'' ⟨g, cap, rfl, hx', own⟩
      exact ⟨_, rfl, hx', ⟨g, cap, rfl⟩, own.rd⟩
    rintro _ ⟨g, cap, rfl⟩
    refine LX_call (by kernel_rfl) rfl (fun _ => St.top) (fun w' hx hg => ?_) ?_
    · have h1 : LeW (downs zs) (.slice (some ⟨g, 0, none⟩) (leastN (downs zs)).length cap) w' := (hg 20 (by decide)).2 rfl
      clear hg
      go_simp
      refine UponC.enter ((slicesEqualI_any _ _ zs _ _ (r'.ext (X.trans hx)) h1).mono ?_)
      rintro e w'' ⟨rfl, m, rfl⟩
      exact ⟨_, rfl, Ext.drewN _ _, rfl, trivial⟩
    rintro _ rfl
    refine LX_det (.bool (decide (zs = ups (leastN (downs zs))))) (by kernel_rfl) rfl (fun w' hx _ => ?_) ?_
    · go_simp
    refine LX_nil fun w2 hx _ => ?_
    generalize hc : decide (zs = ups (leastN (downs zs))) = c at *
    clear hc
    simp only [Act.put, List.setIfInBounds_toArray, List.set_cons_succ, List.set_cons_zero]
    go_wp2_with fail
    go_ret
    exact ⟨ret_bool HF.out.symm, X.trans hx⟩
end Go.Proofs.Ytgmdoboeenpjpaa
