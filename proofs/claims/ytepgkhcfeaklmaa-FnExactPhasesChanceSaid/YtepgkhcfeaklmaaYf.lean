
/- Whether a system works with a set, both sides. Condition: valid systems, sets that are natural numbers. -/
import Derived.Test.YtepgkhcfeaklmaaYd
import Derived.Test.YtepgkhcfeaklmaaBv
namespace Go.Proofs.Ytepgkhcfeaklmaa
open Go Go.RowKit Go.ChangeShapes Go.WideShapes Go.ChangeAt

attribute [local irreducible] LX

theorem works_ups {ns : List Nat} {s : Nat} (hn : ∀ n ∈ ns, n < 9223372036854775808) (hs : s < 9223372036854775808) : ((ups ns).any fun q => hasI s q) = worksB ns s := by
  unfold ups worksB
  rw [List.any_map, Bool.eq_iff_iff, List.any_eq_true, List.any_eq_true]
  constructor
  · rintro ⟨q, hq, h⟩; exact ⟨q, hq, by rw [← hasI_nat hs (hn q hq)]; exact h⟩
  · rintro ⟨q, hq, h⟩; exact ⟨q, hq, by show hasI (s : Int) (q : Int) = true; rw [hasI_nat hs (hn q hq)]; exact h⟩
theorem worksS_ups {ns : List Nat} {s : Nat} (hn : ∀ n ∈ ns, n < 9223372036854775808) (hs : s < 9223372036854775808) : ((ups ns).any fun q => bits .and .i64 q s == q) = worksB ns s := by
  unfold ups worksB
  rw [List.any_map, Bool.eq_iff_iff, List.any_eq_true, List.any_eq_true]
  have e : ∀ q ∈ ns, ((bits .and .i64 (q : Int) (s : Int) == (q : Int)) = hasB s q) := fun q hq => by
    rw [bits_and q s (hn q hq) hs]; unfold hasB; rw [Bool.eq_iff_iff]; simp; omega
  constructor
  · rintro ⟨q, hq, h⟩; exact ⟨q, hq, by rw [← e q hq]; exact h⟩
  · rintro ⟨q, hq, h⟩; exact ⟨q, hq, by show (bits .and .i64 (q : Int) (s : Int) == (q : Int)) = true; rw [e q hq]; exact h⟩

set_option maxRecDepth 100000 in
set_option maxHeartbeats 4000000 in
theorem l03WorksI_any (p s : Int) (v : Value) (zs : List Int) (blk : Nat) (w : World) (hbx : Bx w blk [.int .i64 p, v]) (r : RdI w v zs) :
    Calls Try.prog 77 #[.pointer (some ⟨blk, 0, none⟩), .int .i64 s] w fun e w' => e = .returned (.bool (zs.any fun q => bits .and .i64 q s == q)) ∧ Ext w w' := by
  have r' := r
  obtain ⟨-, a1, c1, rfl, p1, p2, -, -⟩ := r
  unfold maxLen at p2
  have hlen : zs.length ≤ 9223372036854775807 := by omega
  clear p1 p2
  obtain ⟨k0, k1⟩ := hbx.two
  go_enter Try.func77, Try.ntmps77
  go_wp2_with fail
  clear k0 k1
  go_loopw [11] (fun i wr => ∃ k : Nat, k ≤ zs.length ∧ i = .int .i64 k ∧ Hid (∀ j, (h : j < k) → (h' : j < zs.length) → (bits .and .i64 zs[j] s == zs[j]) = false) ∧ Ext w wr) (fun i _ => zs.length - (intOf i).toNat)
  case atStart => exact ⟨0, Nat.zero_le _, rfl, fun j h => absurd h (Nat.not_lt_zero _), Ext.refl _⟩
  case round =>
    obtain ⟨k, hk, rfl, HN, X⟩ := hrel
    by_cases hlt : k < zs.length
    · have hbx2 := hbx.ext X
      obtain ⟨k0, k1⟩ := hbx2.two
      have hbl := hbx2.1
      obtain ⟨b1, o1, rfl, hb1, hc1⟩ := (r'.ext X).at hlt
      have hkl : (k : Int) < (zs.length : Int) := by omega
      generalize hx : zs[k] = x at *
      obtain ⟨z, hz⟩ : ∃ z, bits .and .i64 x s = z := ⟨_, rfl⟩
      have HXE : Hid (zs[k] = x) := hx
      have HZE : Hid (bits .and .i64 x s = z) := hz
      clear hx
      go_wp2_with fail
      refine wp_region_rel 17 (fun _ _ => True) (fun _ _ _ => True) (by kernel_rfl) (by kernel_rfl) (by kernel_rfl) ?_
      dsimp only [List.take, List.drop, List.length]
      refine LX_det (.pointer (some ⟨blk, 0, none⟩)) (by kernel_rfl) rfl (fun w' hx _ => ?_) ?_
      · go_simp
      refine LX_det (.pointer (some ⟨blk, 0, none⟩)) (by kernel_rfl) rfl (fun w' hx _ => ?_) ?_
      · go_simp
      refine LX_det (.pointer (some ⟨blk, 1, none⟩)) (by kernel_rfl) rfl (fun w' hx _ => ?_) ?_
      · go_simp
      refine LX_det (.slice (some ⟨b1, o1, none⟩) zs.length c1) (by kernel_rfl) rfl (fun w' hx _ => ?_) ?_
      · have m0 := (Below.cell hx (p := ⟨blk, 1, none⟩) hbl).trans k1
        go_simp
      refine LX_det (.int .i64 k) (by kernel_rfl) rfl (fun w' hx _ => ?_) ?_
      · go_simp
      refine LX_det (.pointer (some ⟨b1, o1 + k, none⟩)) (by kernel_rfl) rfl (fun w' hx _ => ?_) ?_
      · go_simp
      refine LX_det (.int .i64 x) (by kernel_rfl) rfl (fun w' hx _ => ?_) ?_
      · have m0 := (Below.cell hx (p := ⟨b1, o1 + k, none⟩) hb1).trans hc1
        go_simp
      refine LX_det (.int .i64 s) (by kernel_rfl) rfl (fun w' hx _ => ?_) ?_
      · go_simp
      refine LX_det (.int .i64 z) (by kernel_rfl) rfl (fun w' hx _ => ?_) ?_
      · go_simp
      refine LX_det (.pointer (some ⟨blk, 0, none⟩)) (by kernel_rfl) rfl (fun w' hx _ => ?_) ?_
      · go_simp
      refine LX_det (.pointer (some ⟨blk, 0, none⟩)) (by kernel_rfl) rfl (fun w' hx _ => ?_) ?_
      · go_simp
      refine LX_det (.pointer (some ⟨blk, 1, none⟩)) (by kernel_rfl) rfl (fun w' hx _ => ?_) ?_
      · go_simp
      refine LX_det (.slice (some ⟨b1, o1, none⟩) zs.length c1) (by kernel_rfl) rfl (fun w' hx _ => ?_) ?_
      · have m0 := (Below.cell hx (p := ⟨blk, 1, none⟩) hbl).trans k1
        go_simp
      refine LX_det (.int .i64 k) (by kernel_rfl) rfl (fun w' hx _ => ?_) ?_
      · go_simp
      refine LX_det (.pointer (some ⟨b1, o1 + k, none⟩)) (by kernel_rfl) rfl (fun w' hx _ => ?_) ?_
      · go_simp
      refine LX_det (.int .i64 x) (by kernel_rfl) rfl (fun w' hx _ => ?_) ?_
      · have m0 := (Below.cell hx (p := ⟨b1, o1 + k, none⟩) hb1).trans hc1
        go_simp
      refine LX_det (.bool (z == x)) (by kernel_rfl) rfl (fun w' hx _ => ?_) ?_
      · go_simp
      refine LX_nil fun w2 hx _ => ?_
      refine wpList_nil ?_
      simp only [Act.put, List.setIfInBounds_toArray, List.set_cons_succ, List.set_cons_zero]
      replace X := X.trans hx
      clear hx hc1 hb1 k0 k1 hbl hbx2 hz
      by_cases hzx : z = x
      · have HT : Hid ((zs.any fun q => bits .and .i64 q s == q) = true) := by
          show _ = _
          rw [List.any_eq_true]
          exact ⟨zs[k], List.getElem_mem hlt, by rw [HXE.out, HZE.out]; simpa using hzx⟩
        go_wp2_with fail
        go_ret
        exact ⟨ret_bool HT.out.symm, X⟩
      · have HF : Hid ((bits .and .i64 zs[k] s == zs[k]) = false) := by show _ = _; rw [HXE.out, HZE.out]; simpa using hzx
        go_wp2_with fail
        go_roundw
        case rel =>
          refine ⟨k + 1, by omega, by go_num, fun j hj hj' => ?_, X⟩
          by_cases e : j = k
          · subst e; exact HF.out
          · exact HN.out j (by omega) hj'
        case measure => simp [intOf]; omega
    · have HF : Hid ((zs.any fun q => bits .and .i64 q s == q) = false) := by
        show _ = _
        rw [List.any_eq_false]
        intro q hq
        obtain ⟨j, hj, rfl⟩ := List.getElem_of_mem hq
        have := HN.out j (by omega) hj
        simpa using this
      go_wp2_with fail
      go_ret
      exact ⟨ret_bool HF.out.symm, X⟩

theorem l03Works_any (p : Int) (s : Nat) (v : Value) (ns : List Nat) (blk : Nat) (w : World) (hbx : Bx w blk [.int .i64 p, v]) (r : RdI w v (ups ns)) (hn : ∀ n ∈ ns, n < 9223372036854775808) (hs : s < 9223372036854775808) :
    Calls Try.prog 77 #[.pointer (some ⟨blk, 0, none⟩), .int .i64 s] w fun e w' => e = .returned (.bool (worksB ns s)) ∧ Ext w w' := by
  rw [← worksS_ups hn hs]; exact l03WorksI_any p s v (ups ns) blk w hbx r

theorem works_any (p : Int) (s : Nat) (v : Value) (ns : List Nat) (w : World) (r : RdI w v (ups ns)) (hn : ∀ n ∈ ns, n < 9223372036854775808) (hs : s < 9223372036854775808) :
    Calls Try.prog 65 #[.agg #[.int .i64 p, v], .int .i64 s] w fun e w' => e = .returned (.bool (worksB ns s)) ∧ Ext w w' := by
  have r' := r
  obtain ⟨-, a1, c1, rfl, -, -, -, -⟩ := r
  have HW : Hid (((ups ns).any fun q => hasI s q) = worksB ns s) := works_ups hn hs
  go_enter Try.func65, Try.ntmps65
  go_wp2_with fail
  refine (hasOne_any s _ (ups ns) _ (r'.ext (Ext.alloc _ _))).mono ?_
  rintro e w1 ⟨rfl, X⟩
  rw [HW.out]
  go_wp2_with fail
  go_ret
  exact ⟨rfl, (Ext.alloc _ _).trans X⟩

theorem sysAll_any (p : Int) (v : Value) (w : World) (h1 : 1 ≤ p) (h2 : p ≤ 10) :
    Calls Try.prog 74 #[.agg #[.int .i64 p, v]] w fun e w' => e = .returned (.int .i64 (2 ^ p.toNat - 1)) ∧ Ext w w' := by
  have hpw := pow10' h1 h2
  have hp0 : 0 ≤ p := by omega
  have hp63 : p < 64 := by omega
  go_enter Try.func74, Try.ntmps74
  go_wp2_with fail
  go_ret
  exact ⟨ret_int rfl, Ext.alloc _ _⟩

theorem l03Set_any (p s : Int) (v : Value) (blk : Nat) (w : World) (hbx : Bx w blk [.int .i64 p, v]) (h1 : 1 ≤ p) (h2 : p ≤ 10) :
    Calls Try.prog 76 #[.pointer (some ⟨blk, 0, none⟩), .int .i64 s] w fun e w' => e = .returned (.bool (inB s 0 (2 ^ p.toNat - 1))) ∧ w = w' := by
  have hpw := pow10' h1 h2
  have hp0 : 0 ≤ p := by omega
  have hp63 : p < 64 := by omega
  obtain ⟨k0, k1⟩ := hbx.two
  go_enter Try.func76, Try.ntmps76
  go_wp2_with fail
  refine (l00In_any _ _ _ _).mono ?_
  rintro e w1 ⟨rfl, rfl⟩
  go_wp2_with fail
  go_ret
  exact ⟨rfl, rfl⟩

/-! ### WorksWith -/
/-- Whether a set is one of a valid system, and whether the system works with it. -/
def wwOk (p : Int) (zs : List Int) (s : Int) : Bool := sysB p zs && inB s 0 (2 ^ p.toNat - 1)
def wwRes (p : Int) (zs : List Int) (s : Int) : Bool := wwOk p zs s && worksB (downs zs) s.toNat
theorem sys_good {p : Int} {zs : List Int} (h : sysB p zs = true) : goodI p zs = true := by unfold sysB at h; rw [Bool.and_eq_true] at h; exact h.1

set_option maxHeartbeats 4000000 in
theorem implWorksWith_any (p s : Int) (v : Value) (zs : List Int) (w : World) (r : RdI w v zs) :
    Calls Try.prog 26 #[.agg #[.int .i64 p, v], .int .i64 s] w fun e w' => e = .returned (.tuple #[.bool (wwRes p zs s), .bool (wwOk p zs s)]) ∧ Ext w w' := by
  have r' := r
  obtain ⟨-, a1, c1, rfl, -, -, -, -⟩ := r
  have bx : Bx (w.alloc (.cells #[.int .i64 p, .slice a1 zs.length c1] 33)) w.heap.size [.int .i64 p, .slice a1 zs.length c1] := Bx.new _ _ _
  have HV := Lib.hid (fun W (x : Ext w W) => implValidSystem_any p _ zs W (r'.ext x))
  cases hv : sysB p zs
  · have H1 : Hid (wwOk p zs s = false) := by show _ = _; unfold wwOk; rw [hv]; rfl
    have H2 : Hid (wwRes p zs s = false) := by show _ = _; unfold wwRes; rw [H1.out]; rfl
    rw [hv] at HV
    clear hv
    go_enter Try.func26, Try.ntmps26
    go_wp2_with fail
    generalize hW : World.alloc w _ = W at *
    have X : Ext w W := hW ▸ Ext.alloc _ _
    generalize w.heap.size = blk at *
    clear hW
    obtain ⟨k0, k1⟩ := bx.two
    go_wp2_with fail
    refine (HV.out _ X).mono ?_
    rintro e w1 ⟨rfl, hx⟩
    go_wp2_with fail
    go_ret2
    rw [H1.out, H2.out]
    exact ⟨rfl, X.trans hx⟩
  · rw [hv] at HV
    have hg := good_get (sys_good hv)
    obtain ⟨⟨h1, h2⟩, -, -, hud, hdn⟩ := hg
    have HALL := Lib.hid (fun W v => sysAll_any p v W h1 h2)
    cases hs : inB s 0 (2 ^ p.toNat - 1)
    · have H1 : Hid (wwOk p zs s = false) := by show _ = _; unfold wwOk; rw [hs, Bool.and_false]
      have H2 : Hid (wwRes p zs s = false) := by show _ = _; unfold wwRes; rw [H1.out]; rfl
      have HS := Lib.hid hs
      clear hv hs hud hdn
      go_enter Try.func26, Try.ntmps26
      go_wp2_with fail
      generalize hW : World.alloc w _ = W at *
      have X : Ext w W := hW ▸ Ext.alloc _ _
      generalize w.heap.size = blk at *
      clear hW
      obtain ⟨k0, k1⟩ := bx.two
      go_wp2_with fail
      refine (HV.out _ X).mono ?_
      rintro e w1 ⟨rfl, hx⟩
      clear k0 k1
      replace X := X.trans hx
      replace bx := bx.ext hx
      clear hx
      obtain ⟨k0, k1⟩ := bx.two
      go_wp2_with fail
      refine (HALL.out _ _).mono ?_
      rintro e w2 ⟨rfl, hx⟩
      replace X := X.trans hx
      clear hx k0 k1
      go_wp2_with fail
      refine (within_eq HS.out _).mono ?_
      rintro e w3 ⟨rfl, rfl⟩
      go_wp2_with fail
      go_ret2
      rw [H1.out, H2.out]
      exact ⟨rfl, X⟩
    · have H1 : Hid (wwOk p zs s = true) := by show _ = _; unfold wwOk; rw [hs, hv]; rfl
      have H2 : Hid (wwRes p zs s = worksB (downs zs) s.toNat) := by show _ = _; unfold wwRes; rw [H1.out, Bool.true_and]
      have hs2 := inB_iff.1 hs
      have hpw := pow10' h1 h2
      have hsn : (s.toNat : Int) = s := by omega
      have HS := Lib.hid hs
      have HW := Lib.hid (fun W (x : Ext w W) v (e : v = Value.slice a1 zs.length c1) => works_any p s.toNat v (downs zs) W (by rw [e, ← hud]; exact r'.ext x) (fun n hn => by have := hdn n hn; omega) (by omega))
      rw [hsn] at HW
      clear hv hs hud hdn hsn
      go_enter Try.func26, Try.ntmps26
      go_wp2_with fail
      generalize hW : World.alloc w _ = W at *
      have X : Ext w W := hW ▸ Ext.alloc _ _
      generalize w.heap.size = blk at *
      clear hW
      obtain ⟨k0, k1⟩ := bx.two
      go_wp2_with fail
      refine (HV.out _ X).mono ?_
      rintro e w1 ⟨rfl, hx⟩
      clear k0 k1
      replace X := X.trans hx
      replace bx := bx.ext hx
      clear hx
      obtain ⟨k0, k1⟩ := bx.two
      go_wp2_with fail
      refine (HALL.out _ _).mono ?_
      rintro e w2 ⟨rfl, hx⟩
      clear k0 k1
      replace X := X.trans hx
      replace bx := bx.ext hx
      clear hx
      obtain ⟨k0, k1⟩ := bx.two
      go_wp2_with fail
      refine (within_eq HS.out _).mono ?_
      rintro e w3 ⟨rfl, rfl⟩
      go_wp2_with fail
      refine (HW.out _ X _ rfl).mono ?_
      rintro e w4 ⟨rfl, hx⟩
      go_wp2_with fail
      go_ret2
      rw [H1.out, H2.out]
      exact ⟨rfl, X.trans hx⟩

set_option maxHeartbeats 4000000 in
theorem specWorksWith_any (p s : Int) (v : Value) (zs : List Int) (w : World) (r : RdI w v zs) :
    Calls Try.prog 27 #[.agg #[.int .i64 p, v], .int .i64 s] w fun e w' => e = .returned (.tuple #[.bool (wwRes p zs s), .bool (wwOk p zs s)]) ∧ Ext w w' := by
  have r' := r
  obtain ⟨-, a1, c1, rfl, -, -, -, -⟩ := r
  have bx : Bx (w.alloc (.cells #[.int .i64 p, .slice a1 zs.length c1] 33)) w.heap.size [.int .i64 p, .slice a1 zs.length c1] := Bx.new _ _ _
  have HV := Lib.hid (l03Is_sys p _ zs w.heap.size _ bx (r'.ext (Ext.alloc _ _)))
  cases hv : sysB p zs
  · have H1 : Hid (wwOk p zs s = false) := by show _ = _; unfold wwOk; rw [hv]; rfl
    have H2 : Hid (wwRes p zs s = false) := by show _ = _; unfold wwRes; rw [H1.out]; rfl
    rw [hv] at HV
    clear hv
    go_enter Try.func27, Try.ntmps27
    go_wp2_with fail
    refine HV.out.mono ?_
    rintro e w1 ⟨rfl, hx⟩
    go_wp2_with fail
    go_ret2
    rw [H1.out, H2.out]
    exact ⟨rfl, (Ext.alloc _ _).trans hx⟩
  · rw [hv] at HV
    have hg := good_get (sys_good hv)
    obtain ⟨⟨h1, h2⟩, -, -, hud, hdn⟩ := hg
    have HSET := Lib.hid (fun W (b : Bx W w.heap.size [.int .i64 p, .slice a1 zs.length c1]) => l03Set_any p s _ w.heap.size W b h1 h2)
    cases hs : inB s 0 (2 ^ p.toNat - 1)
    · have H1 : Hid (wwOk p zs s = false) := by show _ = _; unfold wwOk; rw [hs, Bool.and_false]
      have H2 : Hid (wwRes p zs s = false) := by show _ = _; unfold wwRes; rw [H1.out]; rfl
      rw [hs] at HSET
      clear hv hs hud hdn
      go_enter Try.func27, Try.ntmps27
      go_wp2_with fail
      refine HV.out.mono ?_
      rintro e w1 ⟨rfl, hx⟩
      replace bx := bx.ext hx
      go_wp2_with fail
      refine (HSET.out _ bx).mono ?_
      rintro e w2 ⟨rfl, rfl⟩
      go_wp2_with fail
      go_ret2
      rw [H1.out, H2.out]
      exact ⟨rfl, (Ext.alloc _ _).trans hx⟩
    · have H1 : Hid (wwOk p zs s = true) := by show _ = _; unfold wwOk; rw [hs, hv]; rfl
      have H2 : Hid (wwRes p zs s = worksB (downs zs) s.toNat) := by show _ = _; unfold wwRes; rw [H1.out, Bool.true_and]
      have hs2 := inB_iff.1 hs
      have hpw := pow10' h1 h2
      have hsn : (s.toNat : Int) = s := by omega
      have HW := Lib.hid (fun W (x : Ext w W) (b : Bx W w.heap.size [.int .i64 p, .slice a1 zs.length c1]) => l03Works_any p s.toNat _ (downs zs) w.heap.size W b (by rw [← hud]; exact r'.ext x) (fun n hn => by have := hdn n hn; omega) (by omega))
      rw [hsn] at HW
      rw [hs] at HSET
      clear hv hs hud hdn hsn
      go_enter Try.func27, Try.ntmps27
      go_wp2_with fail
      refine HV.out.mono ?_
      rintro e w1 ⟨rfl, hx⟩
      replace bx := bx.ext hx
      go_wp2_with fail
      refine (HSET.out _ bx).mono ?_
      rintro e w2 ⟨rfl, rfl⟩
      go_wp2_with fail
      refine (HW.out _ ((Ext.alloc _ _).trans hx) bx).mono ?_
      rintro e w3 ⟨rfl, hx2⟩
      go_wp2_with fail
      go_ret2
      rw [H1.out, H2.out]
      exact ⟨rfl, ((Ext.alloc _ _).trans hx).trans hx2⟩
end Go.Proofs.Ytepgkhcfeaklmaa
