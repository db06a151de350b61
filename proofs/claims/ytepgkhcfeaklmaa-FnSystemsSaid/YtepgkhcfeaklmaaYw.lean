
/- WorkingCounts, both sides. Condition: lists of ints that can be read. -/
import Derived.Test.YtepgkhcfeaklmaaYv
import Derived.Test.YtepgkhcfeaklmaaYg
namespace Go.Proofs.Ytepgkhcfeaklmaa
open Go Go.RowKit Go.ChangeShapes Go.WideShapes Go.ChangeAt

attribute [local irreducible] LX pop cntL

def wcO (p : Int) (zs : List Int) : Option (List Int) := if sysB p zs then some (cntL p.toNat ((List.range (2 ^ p.toNat)).filter (worksB (downs zs)))) else none
theorem wcO_len (p : Int) (zs : List Int) : ((wcO p zs).getD []).length ≤ 1048576 := by
  unfold wcO
  split
  · rename_i h
    have := (SysN.of (sys_good' h)).1.p10
    simp only [Option.getD_some, cntL_len]; omega
  · simp

set_option maxHeartbeats 2000000 in
theorem implWorkingCounts_any (p : Int) (v : Value) (zs : List Int) (w : World) (r : RdI w v zs) : Calls Try.prog 20 #[.agg #[.int .i64 p, v]] w (ZlPost (wcO p zs) w) := by
  have r' := r
  obtain ⟨-, a1, c1, rfl, -, -, -, -⟩ := r
  have bx : Bx (w.alloc (.cells #[.int .i64 p, .slice a1 zs.length c1] 33)) w.heap.size [.int .i64 p, .slice a1 zs.length c1] := Bx.new _ _ _
  have HV := Lib.hid (fun W (x : Ext w W) => implValidSystem_any p _ zs W (r'.ext x))
  cases hv : sysB p zs
  · have HO : Hid (wcO p zs = none) := by show _ = _; unfold wcO; rw [hv]; rfl
    rw [hv] at HV
    clear hv
    go_enter Try.func20, Try.ntmps20
    go_wp2_with fail
    generalize hW : World.alloc w _ = W at *
    have X : Ext w W := hW ▸ Ext.alloc _ _
    clear hW
    obtain ⟨k0, k1⟩ := bx.two
    try (go_wp2_with fail)
    refine (HV.out _ X).mono ?_
    rintro e w1 ⟨rfl, hx⟩
    go_wp2_with fail
    go_ret2
    unfold ZlPost
    rw [HO.out]
    exact ⟨X.trans hx, rfl⟩
  · have HO : Hid (wcO p zs = some (cntL p.toNat ((List.range (2 ^ p.toNat)).filter (worksB (downs zs))))) := by show _ = _; unfold wcO; rw [hv]; rfl
    rw [hv] at HV
    obtain ⟨hs, hpn, hzn⟩ := SysN.of (sys_good' hv)
    have hb := (pow10N hs.p10).2.2.2
    have HC := Lib.hid (fun W (x : Ext w W) => countSetsB_any p.toNat 65 (.agg #[.int .i64 p, .slice a1 zs.length c1]) (worksB (downs zs)) W hs.p10 (enterOk Try.func65 (by kernel_rfl) rfl)
      (fun w' hx s hlt => works_any p s (.slice a1 zs.length c1) (downs zs) w' (by rw [← hzn]; exact r'.ext (x.trans hx)) (fun n hn => by have := hs.small n hn; omega) (by omega)))
    have hlc := cntL_len p.toNat ((List.range (2 ^ p.toNat)).filter (worksB (downs zs)))
    rw [← hpn] at HC
    rw [← hlc] at HC
    clear hv hs hpn hzn hb hlc
    generalize cntL p.toNat ((List.range (2 ^ p.toNat)).filter (worksB (downs zs))) = cs at *
    go_enter Try.func20, Try.ntmps20
    go_wp2_with fail
    generalize hW : World.alloc w _ = W at *
    have X : Ext w W := hW ▸ Ext.alloc _ _
    clear hW
    obtain ⟨k0, k1⟩ := bx.two
    try (go_wp2_with fail)
    refine (HV.out _ X).mono ?_
    rintro e w1 ⟨rfl, hx⟩
    clear k0 k1
    replace X := X.trans hx
    replace bx := bx.ext hx
    clear hx
    obtain ⟨k0, k1⟩ := bx.two
    go_wp2_with fail
    refine (HC.out _ X).mono ?_
    rintro e w2 ⟨g, cap, rfl, hx, own⟩
    go_wp2_with fail
    go_ret2
    unfold ZlPost
    rw [HO.out]
    exact ⟨X.trans hx, g, cap, rfl, World.ownsRow.mono own X.size⟩

end Go.Proofs.Ytepgkhcfeaklmaa
