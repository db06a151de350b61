
/- JoinedCounts, both sides. Condition: lists of ints that can be read. -/
import Derived.Test.YtgmdoboeenpjpaaZq
import Derived.Test.YtgmdoboeenpjpaaZr
import Derived.Test.YtgmdoboeenpjpaaYV
namespace Go.Proofs.Ytgmdoboeenpjpaa
open Go Go.RowKit Go.ChangeShapes Go.WideShapes Go.ChangeAt

attribute [local irreducible] LX pop cntL

theorem downs_getD (zs : List Int) (i : Nat) (h : ∀ z ∈ zs, 0 ≤ z) : ((downs zs).getD i 0 : Int) = zs.getD i 0 := by
  unfold downs
  simp only [List.getD_eq_getElem?_getD, List.getElem?_map]
  cases e : zs[i]? with
  | none => rfl
  | some z =>
    have := h z (List.mem_of_getElem? e)
    simp only [Option.map_some, Option.getD_some]
    omega
theorem roads_N {p : Int} {zs : List Int} (h : roadsB p zs = true) : RoadN p.toNat (downs zs) ∧ p = (p.toNat : Int) ∧ zs = ups (downs zs) := by
  unfold roadsB manyB at h
  rw [Bool.and_eq_true, Bool.and_eq_true, Bool.and_eq_true, Bool.and_eq_true, decide_eq_true_eq] at h
  obtain ⟨⟨⟨h1, h2, h3⟩, h4⟩, h5⟩ := h
  have h1' := inB_iff.1 h1
  have h2' := inB_iff.1 h2
  rw [List.all_eq_true] at h3
  have h0 : ∀ z ∈ zs, 0 ≤ z ∧ z ≤ p - 1 := fun z hz => inB_iff.1 (h3 z hz)
  refine ⟨⟨by omega, by omega, by rw [downs_len]; omega, by rw [downs_len]; omega, by rw [downs_len]; exact h4, ?_, ?_⟩, by omega, (ups_downs fun z hz => (h0 z hz).1).symm⟩
  · intro r hr
    unfold downs at hr
    obtain ⟨z, hz, rfl⟩ := List.mem_map.1 hr
    have := h0 z hz
    omega
  · intro j hj e
    unfold pairsB at h5
    rw [List.all_eq_true] at h5
    rw [downs_len] at hj
    have h6 := h5 j (List.mem_range.2 hj)
    simp only [bne_iff_ne, ne_eq] at h6
    apply h6
    rw [← downs_getD zs _ fun z hz => (h0 z hz).1, ← downs_getD zs _ fun z hz => (h0 z hz).1]
    unfold rA rB at e
    rw [e]

def jcO (p : Int) (zs : List Int) : Option (List Int) := if roadsB p zs then some (cntL (zs.length / 2) ((List.range (2 ^ (zs.length / 2))).filter (wholeB p.toNat (downs zs)))) else none
theorem jcO_len (p : Int) (zs : List Int) : ((jcO p zs).getD []).length ≤ 1048576 := by
  unfold jcO
  split
  · rename_i h
    have := (roads_N h).1.l20
    rw [downs_len] at this
    simp only [Option.getD_some, cntL_len]; omega
  · simp

set_option maxRecDepth 100000 in
set_option maxHeartbeats 4000000 in
theorem joined1_any (q s : Nat) (v : Value) (rs : List Nat) (b1 b2 : Nat) (w : World) (h1 : w.cell? ⟨b1, 0, none⟩ = some v) (h2 : w.cell? ⟨b2, 0, none⟩ = some (.int .i64 q)) (r : RdI w v (ups rs)) (h : RoadN q rs) (hs : s < 1024) :
    Calls Try.prog 78 #[.int .i64 s, .pointer (some ⟨b1, 0, none⟩), .pointer (some ⟨b2, 0, none⟩)] w fun e w' => e = .returned (.bool (wholeB q rs s)) ∧ Ext w w' := by
  have hb1 := World.block_lt_of_cell? w _ h1
  have hb2 := World.block_lt_of_cell? w _ h2
  have HJ := Lib.hid (fun W (x : Ext w W) => joinedPlaces_any q s v rs W (r.ext x) h hs)
  obtain ⟨z1, z2, z3, z4⟩ := pow10N (p := q) (by have := h.q6; omega)
  have hq63 : (q : Int) < 64 := by have := h.q6; omega
  have hlt := joinN_lt h s
  have hw1 : IntKind.i64.wrap ((2 : Int) ^ q) = (2 : Int) ^ q := IntWalk.i64_in _ (by omega)
  have hw2 : IntKind.i64.wrap ((2 : Int) ^ q - 1) = (2 : Int) ^ q - 1 := IntWalk.i64_in _ (by omega)
  have hDEF : Hid (wholeB q rs s = decide (((joinN q rs s : Nat) : Int) = (2 : Int) ^ q - 1)) := by
    show _ = _
    unfold wholeB
    rw [Bool.eq_iff_iff, beq_iff_eq, decide_eq_true_eq, z3]
    have : 0 < 2 ^ q := Nat.pow_pos (by decide)
    omega
  generalize joinN q rs s = P at *
  have hb0 : (((P : Nat) : Int) == (2 : Int) ^ q - 1) = decide (((P : Nat) : Int) = (2 : Int) ^ q - 1) := rfl
  generalize hbb : decide (((P : Nat) : Int) = (2 : Int) ^ q - 1) = bb at *
  clear z3 z4 hlt hbb
  go_enter Try.func78, Try.ntmps78
  go_wp2_with fail
  refine wp_region_rel 7 (fun _ v => v = .int .i64 P) (fun _ _ _ => True) (by kernel_rfl) (by kernel_rfl) (by kernel_rfl) ?_
  dsimp only [List.take, List.drop, List.length]
  refine LX_det (v) (by kernel_rfl) rfl (fun w' hx _ => ?_) ?_
  · have m0 := (Below.cell hx (p := ⟨b1, 0, none⟩) hb1).trans h1
    go_simp
  refine LX_det (.int .i64 s) (by kernel_rfl) rfl (fun w' hx _ => ?_) ?_
  · go_simp
  refine LX_call (by kernel_rfl) rfl (fun _ => St.top) (fun w' hx _ => ?_) ?_
  · go_simp
    refine UponC.enter ((HJ.out _ hx).mono ?_)
    rintro e w'' ⟨rfl, hx'⟩
    exact ⟨_, rfl, hx', rfl, trivial⟩
  rintro _ rfl
  refine LX_det (.int .i64 q) (by kernel_rfl) rfl (fun w' hx _ => ?_) ?_
  · have m0 := (Below.cell hx (p := ⟨b2, 0, none⟩) hb2).trans h2
    go_simp
  refine LX_det (.int .i64 (2 ^ q)) (by kernel_rfl) rfl (fun w' hx _ => ?_) ?_
  · go_simp
  refine LX_det (.int .i64 (2 ^ q - 1)) (by kernel_rfl) rfl (fun w' hx _ => ?_) ?_
  · go_simp
  refine LX_det (.bool bb) (by kernel_rfl) rfl (fun w' hx _ => ?_) ?_
  · go_simp
  refine LX_nil fun w2 hx _ => ?_
  simp only [Act.put, List.setIfInBounds_toArray, List.set_cons_succ, List.set_cons_zero]
  go_wp2_with fail
  go_ret
  exact ⟨ret_bool hDEF.out.symm, hx⟩

set_option maxHeartbeats 4000000 in
theorem implJoinedCounts_any (p : Int) (v : Value) (zs : List Int) (w : World) (r : RdI w v zs) : Calls Try.prog 27 #[.int .i64 p, v] w (ZlPost (jcO p zs) w) := by
  have r' := r
  obtain ⟨-, a1, c1, rfl, -, -, -, -⟩ := r
  have b1 : Bx (w.alloc (.cells #[.int .i64 p] 2)) w.heap.size [.int .i64 p] := Bx.new _ _ _
  have b2 : Bx ((w.alloc (.cells #[.int .i64 p] 2)).alloc (.cells #[.slice a1 zs.length c1] 25)) (w.heap.size + 1) [.slice a1 zs.length c1] := Bx.new' _ _ _ (by simp)
  have X0 : Ext w ((w.alloc (.cells #[.int .i64 p] 2)).alloc (.cells #[.slice a1 zs.length c1] 25)) := (Ext.alloc _ _).trans (Ext.alloc _ _)
  replace b1 := b1.ext (Ext.alloc (w.alloc (.cells #[.int .i64 p] 2)) (.cells #[.slice a1 zs.length c1] 25))
  have HV := Lib.hid (fun W (x : Ext w W) => areRoads_any p _ zs W (r'.ext x))
  cases hv : roadsB p zs
  · have HO : Hid (jcO p zs = none) := by show _ = _; unfold jcO; rw [hv]; rfl
    rw [hv] at HV
    clear hv
    go_enter Try.func27, Try.ntmps27
    go_wp2_with fail
    generalize hW : World.alloc (World.alloc w _) _ = W at *
    clear hW
    have k1 := b1.one
    have k2 := b2.one
    try (go_wp2_with fail)
    refine (HV.out _ X0).mono ?_
    rintro e w1 ⟨rfl, hx⟩
    go_wp2_with fail
    go_ret2
    unfold ZlPost
    rw [HO.out]
    exact ⟨X0.trans hx, rfl⟩
  · have HO : Hid (jcO p zs = some (cntL (zs.length / 2) ((List.range (2 ^ (zs.length / 2))).filter (wholeB p.toNat (downs zs))))) := by show _ = _; unfold jcO; rw [hv]; rfl
    rw [hv] at HV
    obtain ⟨hr, hpn, hzn⟩ := roads_N hv
    have hl20 : zs.length ≤ 20 := by have := hr.l20; rw [downs_len] at this; exact this
    obtain ⟨m, hm⟩ : ∃ m, m = zs.length / 2 := ⟨_, rfl⟩
    rw [← hm] at HO
    have hm10 : m ≤ 10 := by omega
    have hmi : (zs.length : Int) / 2 = (m : Int) := by omega
    have hb := (pow10N hm10).2.2.2
    have HC := Lib.hid (fun W (x : Ext w W) (d1 : Bx W w.heap.size [.int .i64 p]) (d2 : Bx W (w.heap.size + 1) [.slice a1 zs.length c1]) => countSets_any m 78 #[.pointer (some ⟨w.heap.size + 1, 0, none⟩), .pointer (some ⟨w.heap.size, 0, none⟩)] (wholeB p.toNat (downs zs)) W hm10 (enterOk Try.func78 (by kernel_rfl) rfl)
      (fun w' hx s hlt => joined1_any p.toNat s _ (downs zs) _ _ w' (d2.ext hx).one (by rw [← hpn]; exact (d1.ext hx).one) (by rw [← hzn]; exact r'.ext (x.trans hx)) hr (by omega)))
    have hlc := cntL_len m ((List.range (2 ^ m)).filter (wholeB p.toNat (downs zs)))
    rw [← hlc] at HC
    clear hv hr hpn hzn hb hlc hm
    generalize cntL m ((List.range (2 ^ m)).filter (wholeB p.toNat (downs zs))) = cs at *
    go_enter Try.func27, Try.ntmps27
    go_wp2_with fail
    generalize hW : World.alloc (World.alloc w _) _ = W at *
    clear hW
    have k1 := b1.one
    have k2 := b2.one
    try (go_wp2_with fail)
    refine (HV.out _ X0).mono ?_
    rintro e w1 ⟨rfl, hx⟩
    clear k1 k2
    have X := X0.trans hx
    replace b1 := b1.ext hx
    replace b2 := b2.ext hx
    clear hx
    have k1 := b1.one
    have k2 := b2.one
    go_wp2_with fail
    refine (HC.out _ X b1 b2).mono ?_
    rintro e w2 ⟨g, cap, rfl, hx, own⟩
    go_wp2_with fail
    go_ret2
    unfold ZlPost
    rw [HO.out]
    exact ⟨X.trans hx, g, cap, rfl, World.ownsRow.mono own X.size⟩

end Go.Proofs.Ytgmdoboeenpjpaa
