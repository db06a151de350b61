
/- WorkingCounts, both sides. Condition: lists of ints that can be read. -/
import Derived.Test.YtgmdoboeenpjpaaYv
import Derived.Test.YtgmdoboeenpjpaaYg
namespace Go.Proofs.Ytgmdoboeenpjpaa
open Go Go.RowKit Go.ChangeShapes Go.WideShapes Go.ChangeAt

attribute [local irreducible] LX pop cntL

def wcO (p : Int) (zs : List Int) : Option (List Int) := if sysB p zs then some (cntL p.toNat ((List.range (2 ^ p.toNat)).filter (worksB (downs zs)))) else none
theorem wcO_len (p : Int) (zs : List Int) : ((wcO p zs).getD []).length ≤ 1048576 := by
  unfold wcO
  split
  · rename_i h
    have := (SysN.of (sys_good' h)).1.p10
    simp only [Option.getD_some, cntL_len]; omega
  · simp

set_option maxHeartbeats 2000000 in
theorem implWorkingCounts_any (p : Int) (v : Value) (zs : List Int) (w : World) (r : RdI w v zs) : Calls Try.prog 25 #[.agg #[.int .i64 p, v]] w (ZlPost (wcO p zs) w) := by
  have r' := r
  obtain ⟨-, a1, c1, rfl, -, -, -, -⟩ := r
  have bx : Bx (w.alloc (.cells #[.int .i64 p, .slice a1 zs.length c1] 27)) w.heap.size [.int .i64 p, .slice a1 zs.length c1] := Bx.new _ _ _
  have HV := Lib.hid (fun W (x : Ext w W) => implValidSystem_any p _ zs W (r'.ext x))
  cases hv : sysB p zs
  · have HO : Hid (wcO p zs = none) := by show _ = _; unfold wcO; rw [hv]; rfl
    rw [hv] at HV
    clear hv
    go_enter Try.func25, Try.ntmps25
    go_wp2_with fail
    generalize hW : World.alloc w _ = W at *
    have X : Ext w W := hW ▸ Ext.alloc _ _
    clear hW
    obtain ⟨k0, k1⟩ := bx.two
    try (go_wp2_with fail)
    refine (HV.out _ X).mono ?_
    rintro e w1 ⟨rfl, hx⟩
    go_wp2_with fail
    go_ret2
    unfold ZlPost
    rw [HO.out]
    exact ⟨X.trans hx, rfl⟩
  · have HO : Hid (wcO p zs = some (cntL p.toNat ((List.range (2 ^ p.toNat)).filter (worksB (downs zs))))) := by show _ = _; unfold wcO; rw [hv]; rfl
    rw [hv] at HV
    obtain ⟨hs, hpn, hzn⟩ := SysN.of (sys_good' hv)
    have hb := (pow10N hs.p10).2.2.2
    have HC := Lib.hid (fun W (x : Ext w W) => countSetsB_any p.toNat 62 (.agg #[.int .i64 p, .slice a1 zs.length c1]) (worksB (downs zs)) W hs.p10 (enterOk Try.func62 (by kernel_rfl) rfl)
      (fun w' hx s hlt => works_any p s (.slice a1 zs.length c1) (downs zs) w' (by rw [← hzn]; exact r'.ext (x.trans hx)) (fun n hn => by have := hs.small n hn; omega) (by omega)))
    have hlc := cntL_len p.toNat ((List.range (2 ^ p.toNat)).filter (worksB (downs zs)))
    rw [← hpn] at HC
    rw [← hlc] at HC
    clear hv hs hpn hzn hb hlc
    generalize cntL p.toNat ((List.range (2 ^ p.toNat)).filter (worksB (downs zs))) = cs at *
    go_enter Try.func25, Try.ntmps25
    go_wp2_with fail
    generalize hW : World.alloc w _ = W at *
    have X : Ext w W := hW ▸ Ext.alloc _ _
    clear hW
    obtain ⟨k0, k1⟩ := bx.two
    try (go_wp2_with fail)
    refine (HV.out _ X).mono ?_
    rintro e w1 ⟨rfl, hx⟩
    clear k0 k1
    replace X := X.trans hx
    replace bx := bx.ext hx
    clear hx
    obtain ⟨k0, k1⟩ := bx.two
    go_wp2_with fail
    refine (HC.out _ X).mono ?_
    rintro e w2 ⟨g, cap, rfl, hx, own⟩
    go_wp2_with fail
    go_ret2
    unfold ZlPost
    rw [HO.out]
    exact ⟨X.trans hx, g, cap, rfl, World.ownsRow.mono own X.size⟩

set_option maxRecDepth 100000 in
set_option maxHeartbeats 4000000 in
theorem specWorkingCounts_any (p : Int) (v : Value) (zs : List Int) (w : World) (r : RdI w v zs) : Calls Try.prog 14 #[.agg #[.int .i64 p, v]] w (ZlPost (wcO p zs) w) := by
  have r' := r
  obtain ⟨-, a1, c1, rfl, -, -, -, -⟩ := r
  have bx : Bx (w.alloc (.cells #[.int .i64 p, .slice a1 zs.length c1] 27)) w.heap.size [.int .i64 p, .slice a1 zs.length c1] := Bx.new _ _ _
  have HV := Lib.hid (l03Is_sys p _ zs w.heap.size _ bx (r'.ext (Ext.alloc _ _)))
  cases hv : sysB p zs
  · have HO : Hid (wcO p zs = none) := by show _ = _; unfold wcO; rw [hv]; rfl
    rw [hv] at HV
    clear hv
    go_enter Try.func14, Try.ntmps14
    go_wp2_with fail
    refine HV.out.mono ?_
    rintro e w1 ⟨rfl, hx⟩
    go_wp2_with fail
    go_ret2
    unfold ZlPost
    rw [HO.out]
    exact ⟨(Ext.alloc _ _).trans hx, rfl⟩
  · have HO : Hid (wcO p zs = some (cntL p.toNat ((List.range (2 ^ p.toNat)).filter (worksB (downs zs))))) := by show _ = _; unfold wcO; rw [hv]; rfl
    rw [hv] at HV
    obtain ⟨hs, hpn, hzn⟩ := SysN.of (sys_good' hv)
    obtain ⟨P, hP⟩ : ∃ P, P = p.toNat := ⟨_, rfl⟩
    rw [← hP] at hs hpn HO
    subst hpn
    clear hP
    obtain ⟨q1, q2, q3, q4⟩ := pow10N hs.p10
    have hp1 := hs.p1
    have hp10 := hs.p10
    have hP63 : (P : Int) < 64 := by omega
    have HW := Lib.hid (fun W (x : Ext w W) (b : Bx W w.heap.size [.int .i64 (P : Int), .slice a1 zs.length c1]) s (hlt : s < 1024) => l03Works_any (P : Int) s (.slice a1 zs.length c1) (downs zs) w.heap.size W b (by rw [← hzn]; exact r'.ext x) (fun n hn => by have := hs.small n hn; omega) (by omega))
    have HST := Lib.hid (fun k => range_filter_succ (worksB (downs zs)) k)
    have HPL := Lib.hid (fun s (h : s < 2 ^ P) => pop_lt hp10 h)
    obtain ⟨i0, hi0, hz0, hz1, hz2⟩ := info_parts infoI64
    generalize hN : 2 ^ P = N at *
    have HN := Lib.hid hN
    clear hv hs hzn hN
    generalize hwk : worksB (downs zs) = wk at *
    clear hwk
    go_enter Try.func14, Try.ntmps14
    go_wp2_with fail
    refine HV.out.mono ?_
    rintro e w1 ⟨rfl, hx⟩
    replace bx := bx.ext hx
    have X : Ext w w1 := (Ext.alloc _ _).trans hx
    clear hx
    obtain ⟨k0, k1⟩ := bx.two
    go_wp2_with (at_make; refine wpList_make_full _ rfl _ _ 25 rfl w1.heap.size 2 i0 (.int .i64 0) 1 Try.underlying25 hi0 hz0 hz1 _ _ _ _ (P + 1) rfl rfl rfl rfl ?c1 ?c2 ?c3 ?_)
    case c1 => rw [hz2]; omega
    case c2 => unfold maxLen; omega
    case c3 => exact Nat.le_refl _
    intro w2 hown hg
    have X2 : Ext w1 w2 := (Ext.refl w1).grown hg (Nat.le_refl _) (fun _ h => by cases h)
    rw [toList_madeCells_one] at hown
    have own0 : w2.ownsRow w1.heap.size 2 1 (.slice (some ⟨w1.heap.size, 0, none⟩) (P + 1) (P + 1)) (P + 1) ((cntL P []).map (Value.int .i64)) := by
      rw [cntL_nil]; simpa using hown
    clear hown hg hi0 hz0 hz1 hz2 k0 k1
    go_wp2_with fail
    go_loopw [5] (fun i wr => ∃ k : Nat, k ≤ N ∧ i = .int .i64 k ∧ Ext w1 wr ∧
      wr.ownsRow w1.heap.size 2 1 (.slice (some ⟨w1.heap.size, 0, none⟩) (P + 1) (P + 1)) (P + 1) ((cntL P ((List.range k).filter wk)).map (Value.int .i64))) (fun i _ => N - (intOf i).toNat)
    case atStart => exact ⟨0, Nat.zero_le _, rfl, X2, own0⟩
    case round =>
      clear own0
      obtain ⟨k, hk, rfl, Z, own⟩ := hrel
      have bx2 := bx.ext Z
      obtain ⟨k0, k1⟩ := bx2.two
      by_cases hlt : k < N
      · have hki : (k : Int) < (N : Int) := by omega
        have hst := HST.out k
        go_wp2_with fail
        refine (HW.out _ (X.trans Z) bx2 k (by omega)).mono ?_
        rintro e w3 ⟨rfl, hx⟩
        replace own := own_ext' own hx
        replace Z := Z.trans hx
        clear hx k0 k1 bx2
        cases hwk : wk k
        · have HE : Hid ((List.range (k + 1)).filter wk = (List.range k).filter wk) := by show _ = _; rw [hst, hwk]; simp
          clear hst hwk
          go_wp2_with fail
          go_roundw
          case rel => exact ⟨k + 1, by omega, by go_num, Z, by rw [HE.out]; exact own⟩
          case measure => simp [intOf]; omega
        · have HE : Hid ((List.range (k + 1)).filter wk = (List.range k).filter wk ++ [k]) := by show _ = _; rw [hst, hwk]; simp
          have hpp := HPL.out k hlt
          have HC := Lib.hid (cntL_snoc P ((List.range k).filter wk) k hpp)
          have hsm := cntL_small P ((List.range k).filter wk) (pop k) hpp
          have hlk : ((List.range k).filter wk).length ≤ 1024 := Nat.le_trans (List.length_filter_le _ _) (by rw [List.length_range]; omega)
          have hcc := own.cellAt (pop k) (by omega)
          have hff := own.frozenAt (pop k)
          rw [List.getElem?_map, List.getElem?_eq_getElem (by rw [cntL_len]; exact hpp)] at hcc
          simp only [Option.map_some] at hcc
          have hsto := Lib.hid (fun u => World.ownsRow.stored own (pop k) u)
          have HSZ := Lib.hid (fun W => l03Size_any k W (by omega))
          generalize (cntL P ((List.range k).filter wk))[pop k]'(by rw [cntL_len]; exact hpp) = y at *
          obtain ⟨n, hn⟩ : ∃ n, n = pop k := ⟨_, rfl⟩
          rw [← hn] at hcc hff hsto HSZ hpp HC
          clear hn hst hwk
          have hn1 : (n : Int) < (P : Int) + 1 := by omega
          go_wp2_with fail
          refine (HSZ.out _).mono ?_
          rintro e w4 ⟨rfl, rfl⟩
          go_wp2_with fail
          go_roundw
          case rel =>
            refine ⟨k + 1, by omega, by go_num, Z.setCell (Nat.le_refl _) _, ?_⟩
            rw [HE.out, HC.out, List.map_set]
            exact (hsto.out _).1
          case measure => simp [intOf]; omega
      · obtain rfl : k = N := by omega
        go_wp2_with fail
        go_ret2
        unfold ZlPost
        rw [HO.out]
        refine ⟨X.trans Z, w1.heap.size, P + 1, by rw [cntL_len]; rfl, ?_⟩
        show World.ownsRow _ _ _ _ _ (cntL P _).length _
        rw [cntL_len]
        exact World.ownsRow.mono own X.size
end Go.Proofs.Ytgmdoboeenpjpaa
