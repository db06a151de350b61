
/- JoinedCounts, both sides. Condition: lists of ints that can be read. -/
import Derived.Test.YtepgkhcfeaklmaaZq
import Derived.Test.YtepgkhcfeaklmaaZr
import Derived.Test.YtepgkhcfeaklmaaYv
namespace Go.Proofs.Ytepgkhcfeaklmaa
open Go Go.RowKit Go.ChangeShapes Go.WideShapes Go.ChangeAt

attribute [local irreducible] LX pop cntL

theorem downs_getD (zs : List Int) (i : Nat) (h : ∀ z ∈ zs, 0 ≤ z) : ((downs zs).getD i 0 : Int) = zs.getD i 0 := by
  unfold downs
  simp only [List.getD_eq_getElem?_getD, List.getElem?_map]
  cases e : zs[i]? with
  | none => rfl
  | some z =>
    have := h z (List.mem_of_getElem? e)
    simp only [Option.map_some, Option.getD_some]
    omega
theorem roads_N {p : Int} {zs : List Int} (h : roadsB p zs = true) : RoadN p.toNat (downs zs) ∧ p = (p.toNat : Int) ∧ zs = ups (downs zs) := by
  unfold roadsB manyB at h
  rw [Bool.and_eq_true, Bool.and_eq_true, Bool.and_eq_true, Bool.and_eq_true, decide_eq_true_eq] at h
  obtain ⟨⟨⟨h1, h2, h3⟩, h4⟩, h5⟩ := h
  have h1' := inB_iff.1 h1
  have h2' := inB_iff.1 h2
  rw [List.all_eq_true] at h3
  have h0 : ∀ z ∈ zs, 0 ≤ z ∧ z ≤ p - 1 := fun z hz => inB_iff.1 (h3 z hz)
  refine ⟨⟨by omega, by omega, by rw [downs_len]; omega, by rw [downs_len]; omega, by rw [downs_len]; exact h4, ?_, ?_⟩, by omega, (ups_downs fun z hz => (h0 z hz).1).symm⟩
  · intro r hr
    unfold downs at hr
    obtain ⟨z, hz, rfl⟩ := List.mem_map.1 hr
    have := h0 z hz
    omega
  · intro j hj e
    unfold pairsB at h5
    rw [List.all_eq_true] at h5
    rw [downs_len] at hj
    have h6 := h5 j (List.mem_range.2 hj)
    simp only [bne_iff_ne, ne_eq] at h6
    apply h6
    rw [← downs_getD zs _ fun z hz => (h0 z hz).1, ← downs_getD zs _ fun z hz => (h0 z hz).1]
    unfold rA rB at e
    rw [e]

def jcO (p : Int) (zs : List Int) : Option (List Int) := if roadsB p zs then some (cntL (zs.length / 2) ((List.range (2 ^ (zs.length / 2))).filter (wholeB p.toNat (downs zs)))) else none
theorem jcO_len (p : Int) (zs : List Int) : ((jcO p zs).getD []).length ≤ 1048576 := by
  unfold jcO
  split
  · rename_i h
    have := (roads_N h).1.l20
    rw [downs_len] at this
    simp only [Option.getD_some, cntL_len]; omega
  · simp

set_option maxRecDepth 100000 in
set_option maxHeartbeats 4000000 in
theorem joined1_any (q s : Nat) (v : Value) (rs : List Nat) (b1 b2 : Nat) (w : World) (h1 : w.cell? ⟨b1, 0, none⟩ = some v) (h2 : w.cell? ⟨b2, 0, none⟩ = some (.int .i64 q)) (r : RdI w v (ups rs)) (h : RoadN q rs) (hs : s < 1024) :
    Calls Try.prog 60 #[.int .i64 s, .pointer (some ⟨b1, 0, none⟩), .pointer (some ⟨b2, 0, none⟩)] w fun e w' => e = .returned (.bool (wholeB q rs s)) ∧ Ext w w' := by
  have hb1 := World.block_lt_of_cell? w _ h1
  have hb2 := World.block_lt_of_cell? w _ h2
  have HJ := Lib.hid (fun W (x : Ext w W) => joinedPlaces_any q s v rs W (r.ext x) h hs)
  obtain ⟨z1, z2, z3, z4⟩ := pow10N (p := q) (by have := h.q6; omega)
  have hq63 : (q : Int) < 64 := by have := h.q6; omega
  have hlt := joinN_lt h s
  have hw1 : IntKind.i64.wrap ((2 : Int) ^ q) = (2 : Int) ^ q := IntWalk.i64_in _ (by omega)
  have hw2 : IntKind.i64.wrap ((2 : Int) ^ q - 1) = (2 : Int) ^ q - 1 := IntWalk.i64_in _ (by omega)
  have hDEF : Hid (wholeB q rs s = decide (((joinN q rs s : Nat) : Int) = (2 : Int) ^ q - 1)) := by
    show _ = _
    unfold wholeB
    rw [Bool.eq_iff_iff, beq_iff_eq, decide_eq_true_eq, z3]
    have : 0 < 2 ^ q := Nat.pow_pos (by decide)
    omega
  generalize joinN q rs s = P at *
  have hb0 : (((P : Nat) : Int) == (2 : Int) ^ q - 1) = decide (((P : Nat) : Int) = (2 : Int) ^ q - 1) := rfl
  generalize hbb : decide (((P : Nat) : Int) = (2 : Int) ^ q - 1) = bb at *
  clear z3 z4 hlt hbb
  go_enter Try.func60, Try.ntmps60
  go_wp2_with fail
  refine wp_region_rel 7 (fun _ v => v = .int .i64 P) (fun _ _ _ => True) (by kernel_rfl) (by kernel_rfl) (by kernel_rfl) ?_
  dsimp only [List.take, List.drop, List.length]
  refine LX_det (v) (by kernel_rfl) rfl (fun w' hx _ => ?_) ?_
  · have m0 := (Below.cell hx (p := ⟨b1, 0, none⟩) hb1).trans h1
    go_simp
  refine LX_det (.int .i64 s) (by kernel_rfl) rfl (fun w' hx _ => ?_) ?_
  · go_simp
  refine LX_call (by kernel_rfl) rfl (fun _ => St.top) (fun w' hx _ => ?_) ?_
  · go_simp
    refine UponC.enter ((HJ.out _ hx).mono ?_)
    rintro e w'' ⟨rfl, hx'⟩
    exact ⟨_, rfl, hx', rfl, trivial⟩
  rintro _ rfl
  refine LX_det (.int .i64 q) (by kernel_rfl) rfl (fun w' hx _ => ?_) ?_
  · have m0 := (Below.cell hx (p := ⟨b2, 0, none⟩) hb2).trans h2
    go_simp
  refine LX_det (.int .i64 (2 ^ q)) (by kernel_rfl) rfl (fun w' hx _ => ?_) ?_
  · go_simp
  refine LX_det (.int .i64 (2 ^ q - 1)) (by kernel_rfl) rfl (fun w' hx _ => ?_) ?_
  · go_simp
  refine LX_det (.bool bb) (by kernel_rfl) rfl (fun w' hx _ => ?_) ?_
  · go_simp
  refine LX_nil fun w2 hx _ => ?_
  simp only [Act.put, List.setIfInBounds_toArray, List.set_cons_succ, List.set_cons_zero]
  go_wp2_with fail
  go_ret
  exact ⟨ret_bool hDEF.out.symm, hx⟩

set_option maxHeartbeats 4000000 in
theorem implJoinedCounts_any (p : Int) (v : Value) (zs : List Int) (w : World) (r : RdI w v zs) : Calls Try.prog 12 #[.int .i64 p, v] w (ZlPost (jcO p zs) w) := by
  have r' := r
  obtain ⟨-, a1, c1, rfl, -, -, -, -⟩ := r
  have b1 : Bx (w.alloc (.cells #[.int .i64 p] 2)) w.heap.size [.int .i64 p] := Bx.new _ _ _
  have b2 : Bx ((w.alloc (.cells #[.int .i64 p] 2)).alloc (.cells #[.slice a1 zs.length c1] 22)) (w.heap.size + 1) [.slice a1 zs.length c1] := Bx.new' _ _ _ (by simp)
  have X0 : Ext w ((w.alloc (.cells #[.int .i64 p] 2)).alloc (.cells #[.slice a1 zs.length c1] 22)) := (Ext.alloc _ _).trans (Ext.alloc _ _)
  replace b1 := b1.ext (Ext.alloc (w.alloc (.cells #[.int .i64 p] 2)) (.cells #[.slice a1 zs.length c1] 22))
  have HV := Lib.hid (fun W (x : Ext w W) => areRoads_any p _ zs W (r'.ext x))
  cases hv : roadsB p zs
  · have HO : Hid (jcO p zs = none) := by show _ = _; unfold jcO; rw [hv]; rfl
    rw [hv] at HV
    clear hv
    go_enter Try.func12, Try.ntmps12
    go_wp2_with fail
    generalize hW : World.alloc (World.alloc w _) _ = W at *
    clear hW
    have k1 := b1.one
    have k2 := b2.one
    try (go_wp2_with fail)
    refine (HV.out _ X0).mono ?_
    rintro e w1 ⟨rfl, hx⟩
    go_wp2_with fail
    go_ret2
    unfold ZlPost
    rw [HO.out]
    exact ⟨X0.trans hx, rfl⟩
  · have HO : Hid (jcO p zs = some (cntL (zs.length / 2) ((List.range (2 ^ (zs.length / 2))).filter (wholeB p.toNat (downs zs))))) := by show _ = _; unfold jcO; rw [hv]; rfl
    rw [hv] at HV
    obtain ⟨hr, hpn, hzn⟩ := roads_N hv
    have hl20 : zs.length ≤ 20 := by have := hr.l20; rw [downs_len] at this; exact this
    obtain ⟨m, hm⟩ : ∃ m, m = zs.length / 2 := ⟨_, rfl⟩
    rw [← hm] at HO
    have hm10 : m ≤ 10 := by omega
    have hmi : (zs.length : Int) / 2 = (m : Int) := by omega
    have hb := (pow10N hm10).2.2.2
    have HC := Lib.hid (fun W (x : Ext w W) (d1 : Bx W w.heap.size [.int .i64 p]) (d2 : Bx W (w.heap.size + 1) [.slice a1 zs.length c1]) => countSets_any m 60 #[.pointer (some ⟨w.heap.size + 1, 0, none⟩), .pointer (some ⟨w.heap.size, 0, none⟩)] (wholeB p.toNat (downs zs)) W hm10 (enterOk Try.func60 (by kernel_rfl) rfl)
      (fun w' hx s hlt => joined1_any p.toNat s _ (downs zs) _ _ w' (d2.ext hx).one (by rw [← hpn]; exact (d1.ext hx).one) (by rw [← hzn]; exact r'.ext (x.trans hx)) hr (by omega)))
    have hlc := cntL_len m ((List.range (2 ^ m)).filter (wholeB p.toNat (downs zs)))
    rw [← hlc] at HC
    clear hv hr hpn hzn hb hlc hm
    generalize cntL m ((List.range (2 ^ m)).filter (wholeB p.toNat (downs zs))) = cs at *
    go_enter Try.func12, Try.ntmps12
    go_wp2_with fail
    generalize hW : World.alloc (World.alloc w _) _ = W at *
    clear hW
    have k1 := b1.one
    have k2 := b2.one
    try (go_wp2_with fail)
    refine (HV.out _ X0).mono ?_
    rintro e w1 ⟨rfl, hx⟩
    clear k1 k2
    have X := X0.trans hx
    replace b1 := b1.ext hx
    replace b2 := b2.ext hx
    clear hx
    have k1 := b1.one
    have k2 := b2.one
    go_wp2_with fail
    refine (HC.out _ X b1 b2).mono ?_
    rintro e w2 ⟨g, cap, rfl, hx, own⟩
    go_wp2_with fail
    go_ret2
    unfold ZlPost
    rw [HO.out]
    exact ⟨X.trans hx, g, cap, rfl, World.ownsRow.mono own X.size⟩

theorem all_succ (f : Nat → Bool) (k : Nat) : (List.range (k + 1)).all f = ((List.range k).all f && f k) := by
  rw [List.range_succ, List.all_append]; simp
set_option maxRecDepth 100000 in
set_option maxHeartbeats 4000000 in
theorem specJoinedCounts_any (p : Int) (v : Value) (zs : List Int) (w : World) (r : RdI w v zs) : Calls Try.prog 10 #[.int .i64 p, v] w (ZlPost (jcO p zs) w) := by
  have r' := r
  obtain ⟨-, a1, c1, rfl, -, -, -, -⟩ := r
  have HV := Lib.hid (l03Roads_any p _ zs w r')
  cases hv : roadsB p zs
  · have HO : Hid (jcO p zs = none) := by show _ = _; unfold jcO; rw [hv]; rfl
    rw [hv] at HV
    clear hv
    go_enter Try.func10, Try.ntmps10
    go_wp2_with fail
    refine HV.out.mono ?_
    rintro e w1 ⟨rfl, hx⟩
    go_wp2_with fail
    go_ret2
    unfold ZlPost
    rw [HO.out]
    exact ⟨hx, rfl⟩
  · have HO : Hid (jcO p zs = some (cntL (zs.length / 2) ((List.range (2 ^ (zs.length / 2))).filter (wholeB p.toNat (downs zs))))) := by show _ = _; unfold jcO; rw [hv]; rfl
    rw [hv] at HV
    obtain ⟨hr, hpn, hzn⟩ := roads_N hv
    have hl20 : zs.length ≤ 20 := by have := hr.l20; rw [downs_len] at this; exact this
    obtain ⟨P, hP⟩ : ∃ m, m = zs.length / 2 := ⟨_, rfl⟩
    rw [← hP] at HO
    have hp10 : P ≤ 10 := by omega
    have hmi : (zs.length : Int) / 2 = (P : Int) := by omega
    obtain ⟨q, hq⟩ : ∃ q, q = p.toNat := ⟨_, rfl⟩
    rw [← hq] at hpn hr HO
    subst hpn
    have hq6 := hr.q6
    obtain ⟨q1, q2, q3, q4⟩ := pow10N hp10
    have hP63 : (P : Int) < 64 := by omega
    have HW := Lib.hid (fun W (x : Ext w W) s (hlt : s < 1024) => l03Joined_any q s (.slice a1 zs.length c1) (downs zs) W (by rw [← hzn]; exact r'.ext x) hr hlt)
    have HWH := Lib.hid (fun s => wholeB_all hr s)
    have HST := Lib.hid (fun k => range_filter_succ (wholeB q (downs zs)) k)
    have HPL := Lib.hid (fun s (h : s < 2 ^ P) => pop_lt hp10 h)
    obtain ⟨i0, hi0, hz0, hz1, hz2⟩ := info_parts infoI64
    generalize hN : 2 ^ P = N at *
    have HN := Lib.hid hN
    have hpw : IntKind.i64.wrap ((P : Int) + 1) = (P : Int) + 1 := IntWalk.i64_in _ (by omega)
    clear hv hr hzn hN hP hq
    generalize hwk : wholeB q (downs zs) = wk at *
    clear hwk
    go_enter Try.func10, Try.ntmps10
    go_wp2_with fail
    refine HV.out.mono ?_
    rintro e w1 ⟨rfl, X⟩
    go_wp2_with (at_make; refine wpList_make_full _ rfl _ _ 22 rfl w1.heap.size 2 i0 (.int .i64 0) 1 Try.underlying22 hi0 hz0 hz1 _ _ _ _ (P + 1) rfl rfl rfl rfl ?c1 ?c2 ?c3 ?_)
    case c1 => rw [hz2]; omega
    case c2 => unfold maxLen; omega
    case c3 => exact Nat.le_refl _
    intro w2 hown hg
    have X2 : Ext w1 w2 := (Ext.refl w1).grown hg (Nat.le_refl _) (fun _ h => by cases h)
    rw [toList_madeCells_one] at hown
    have own0 : w2.ownsRow w1.heap.size 2 1 (.slice (some ⟨w1.heap.size, 0, none⟩) (P + 1) (P + 1)) (P + 1) ((cntL P []).map (Value.int .i64)) := by
      rw [cntL_nil]; simpa using hown
    clear hown hg hi0 hz0 hz1 hz2
    go_wp2_with fail
    go_loopw [8] (fun i wr => ∃ k : Nat, k ≤ N ∧ i = .int .i64 k ∧ Ext w1 wr ∧
      wr.ownsRow w1.heap.size 2 1 (.slice (some ⟨w1.heap.size, 0, none⟩) (P + 1) (P + 1)) (P + 1) ((cntL P ((List.range k).filter wk)).map (Value.int .i64))) (fun i _ => N - (intOf i).toNat)
    case atStart => exact ⟨0, Nat.zero_le _, rfl, X2, own0⟩
    case round =>
      clear own0
      obtain ⟨k, hk, rfl, Z, own⟩ := hrel
      by_cases hlt : k < N
      · have hki : (k : Int) < (N : Int) := by omega
        have hst := HST.out k
        go_wp2_with fail
        refine (HW.out _ (X.trans Z) k (by omega)).mono ?_
        rintro e w3 ⟨rfl, hx, ownj⟩
        replace own := own_ext' own hx
        replace Z := Z.trans hx
        obtain ⟨gj, hgj⟩ : ∃ gj, gj = wr.heap.size := ⟨_, rfl⟩
        rw [← hgj] at ownj ⊢
        have HALL : Hid (wk k = (List.range q).all fun i => (joinN q (downs zs) k).testBit i) := HWH.out k
        generalize joinN q (downs zs) k = J at *
        clear hx hgj
        go_wp2_with fail
        go_loopw [34, 10] (fun i t wq => ∃ j : Nat, j ≤ q ∧ i = .int .i64 j ∧ t = .bool ((List.range j).all fun i => J.testBit i) ∧ wq = w3) (fun i _ _ => q - (intOf i).toNat)
        case atStart => exact ⟨0, Nat.zero_le _, rfl, rfl, rfl⟩
        case round =>
          obtain ⟨j, hj, rfl, rfl, rfl⟩ := hrel
          by_cases hjl : j < q
          · have hji : (j : Int) < (q : Int) := by omega
            have HAS := Lib.hid (all_succ (fun i => J.testBit i) j)
            have hcj := ownj.cellAt j (by omega)
            rw [List.getElem?_map, List.getElem?_eq_getElem (by rw [bitsL_len]; omega), bitsL_get hjl] at hcj
            simp only [Option.map_some] at hcj
            generalize J.testBit j = bj at *
            generalize ha : (List.range j).all (fun i => J.testBit i) = al at *
            clear ha
            cases al
            · go_wp2_with fail
              go_roundw
              case rel => exact ⟨j + 1, by omega, by go_num, by rw [HAS.out]; rfl, by first | rfl | trivial⟩
              case measure => simp [intOf]; omega
            · go_wp2_with fail
              go_roundw
              case rel => exact ⟨j + 1, by omega, by go_num, by rw [HAS.out]; simp, by first | rfl | trivial⟩
              case measure => simp [intOf]; omega
          · obtain rfl : j = q := by omega
            have hjn : ¬ (j : Int) < (j : Int) := by omega
            have HWK : Hid (wk k = (List.range j).all fun i => J.testBit i) := HALL
            rw [← HWK.out]
            cases hwk : wk k
            · have HE : Hid ((List.range (k + 1)).filter wk = (List.range k).filter wk) := by show _ = _; rw [hst, hwk]; simp
              clear hst hwk
              go_wp2_with fail
              go_roundw
              case rel => exact ⟨k + 1, by omega, by go_num, Z, by rw [HE.out]; exact own⟩
              case measure => simp [intOf]; omega
            · have HE : Hid ((List.range (k + 1)).filter wk = (List.range k).filter wk ++ [k]) := by show _ = _; rw [hst, hwk]; simp
              have hpp := HPL.out k hlt
              have HC := Lib.hid (cntL_snoc P ((List.range k).filter wk) k hpp)
              have hsm := cntL_small P ((List.range k).filter wk) (pop k) hpp
              have hlk : ((List.range k).filter wk).length ≤ 1024 := Nat.le_trans (List.length_filter_le _ _) (by rw [List.length_range]; omega)
              have hcc := own.cellAt (pop k) (by omega)
              have hff := own.frozenAt (pop k)
              rw [List.getElem?_map, List.getElem?_eq_getElem (by rw [cntL_len]; exact hpp)] at hcc
              simp only [Option.map_some] at hcc
              have hsto := Lib.hid (fun u => World.ownsRow.stored own (pop k) u)
              have HSZ := Lib.hid (fun W => l03Size_any k W (by omega))
              generalize (cntL P ((List.range k).filter wk))[pop k]'(by rw [cntL_len]; exact hpp) = y at *
              obtain ⟨n, hn⟩ : ∃ n, n = pop k := ⟨_, rfl⟩
              rw [← hn] at hcc hff hsto HSZ hpp HC
              clear hn hst hwk
              have hn1 : (n : Int) < (P : Int) + 1 := by omega
              go_wp2_with fail
              refine (HSZ.out _).mono ?_
              rintro e w4 ⟨rfl, rfl⟩
              go_wp2_with fail
              go_roundw
              case rel =>
                refine ⟨k + 1, by omega, by go_num, Z.setCell (Nat.le_refl _) _, ?_⟩
                rw [HE.out, HC.out, List.map_set]
                exact (hsto.out _).1
              case measure => simp [intOf]; omega
      · obtain rfl : k = N := by omega
        go_wp2_with fail
        go_ret2
        unfold ZlPost
        rw [HO.out]
        refine ⟨X.trans Z, w1.heap.size, P + 1, by rw [cntL_len]; rfl, ?_⟩
        show World.ownsRow _ _ _ _ _ (cntL P _).length _
        rw [cntL_len]
        exact World.ownsRow.mono own X.size
end Go.Proofs.Ytepgkhcfeaklmaa
