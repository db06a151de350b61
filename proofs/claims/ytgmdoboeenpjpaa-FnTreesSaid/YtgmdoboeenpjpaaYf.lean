
/- Whether a system works with a set, both sides. Condition: valid systems, sets that are natural numbers. -/
import Derived.Test.YtgmdoboeenpjpaaYd
import Derived.Test.YtgmdoboeenpjpaaBb
namespace Go.Proofs.Ytgmdoboeenpjpaa
open Go Go.RowKit Go.ChangeShapes Go.WideShapes Go.ChangeAt

attribute [local irreducible] LX

theorem works_ups {ns : List Nat} {s : Nat} (hn : ∀ n ∈ ns, n < 9223372036854775808) (hs : s < 9223372036854775808) : ((ups ns).any fun q => hasI s q) = worksB ns s := by
  unfold ups worksB
  rw [List.any_map, Bool.eq_iff_iff, List.any_eq_true, List.any_eq_true]
  constructor
  · rintro ⟨q, hq, h⟩; exact ⟨q, hq, by rw [← hasI_nat hs (hn q hq)]; exact h⟩
  · rintro ⟨q, hq, h⟩; exact ⟨q, hq, by show hasI (s : Int) (q : Int) = true; rw [hasI_nat hs (hn q hq)]; exact h⟩
theorem worksS_ups {ns : List Nat} {s : Nat} (hn : ∀ n ∈ ns, n < 9223372036854775808) (hs : s < 9223372036854775808) : ((ups ns).any fun q => bits .and .i64 q s == q) = worksB ns s := by
  unfold ups worksB
  rw [List.any_map, Bool.eq_iff_iff, List.any_eq_true, List.any_eq_true]
  have e : ∀ q ∈ ns, ((bits .and .i64 (q : Int) (s : Int) == (q : Int)) = hasB s q) := fun q hq => by
    rw [bits_and q s (hn q hq) hs]; unfold hasB; rw [Bool.eq_iff_iff]; simp; omega
  constructor
  · rintro ⟨q, hq, h⟩; exact ⟨q, hq, by rw [← e q hq]; exact h⟩
  · rintro ⟨q, hq, h⟩; exact ⟨q, hq, by show (bits .and .i64 (q : Int) (s : Int) == (q : Int)) = true; rw [e q hq]; exact h⟩

set_option maxRecDepth 100000 in
set_option maxHeartbeats 4000000 in
theorem l03WorksI_any (p s : Int) (v : Value) (zs : List Int) (blk : Nat) (w : World) (hbx : Bx w blk [.int .i64 p, v]) (r : RdI w v zs) :
    Calls Try.prog 50 #[.pointer (some ⟨blk, 0, none⟩), .int .i64 s] w fun e w' => e = .returned (.bool (zs.any fun q => bits .and .i64 q s == q)) ∧ Ext w w' := by
  have r' := r
  obtain ⟨-, a1, c1, rfl, p1, p2, -, -⟩ := r
  unfold maxLen at p2
  have hlen : zs.length ≤ 9223372036854775807 := by omega
  clear p1 p2
  obtain ⟨k0, k1⟩ := hbx.two
  go_enter Try.func50, Try.ntmps50
  go_wp2_with fail
  clear k0 k1
  go_loopw [11] (fun i wr => ∃ k : Nat, k ≤ zs.length ∧ i = .int .i64 k ∧ Hid (∀ j, (h : j < k) → (h' : j < zs.length) → (bits .and .i64 zs[j] s == zs[j]) = false) ∧ Ext w wr) (fun i _ => zs.length - (intOf i).toNat)
  case atStart => exact ⟨0, Nat.zero_le _, rfl, fun j h => absurd h (Nat.not_lt_zero _), Ext.refl _⟩
  case round =>
    obtain ⟨k, hk, rfl, HN, X⟩ := hrel
    by_cases hlt : k < zs.length
    · have hbx2 := hbx.ext X
      obtain ⟨k0, k1⟩ := hbx2.two
      have hbl := hbx2.1
      obtain ⟨b1, o1, rfl, hb1, hc1⟩ := (r'.ext X).at hlt
      have hkl : (k : Int) < (zs.length : Int) := by omega
      generalize hx : zs[k] = x at *
      obtain ⟨z, hz⟩ : ∃ z, bits .and .i64 x s = z := ⟨_, rfl⟩
      have HXE : Hid (zs[k] = x) := hx
      have HZE : Hid (bits .and .i64 x s = z) := hz
      clear hx
      go_wp2_with fail
      refine wp_region_rel 17 (fun _ _ => True) (fun _ _ _ => True) (by kernel_rfl) (by kernel_rfl) (by kernel_rfl) ?_
      dsimp only [List.take, List.drop, List.length]
      refine LX_det (.pointer (some ⟨blk, 0, none⟩)) (by kernel_rfl) rfl (fun w' hx _ => ?_) ?_
      · go_simp
      refine LX_det (.pointer (some ⟨blk, 0, none⟩)) (by kernel_rfl) rfl (fun w' hx _ => ?_) ?_
      · go_simp
      refine LX_det (.pointer (some ⟨blk, 1, none⟩)) (by kernel_rfl) rfl (fun w' hx _ => ?_) ?_
      · go_simp
      refine LX_det (.slice (some ⟨b1, o1, none⟩) zs.length c1) (by kernel_rfl) rfl (fun w' hx _ => ?_) ?_
      · have m0 := (Below.cell hx (p := ⟨blk, 1, none⟩) hbl).trans k1
        go_simp
      refine LX_det (.int .i64 k) (by kernel_rfl) rfl (fun w' hx _ => ?_) ?_
      · go_simp
      refine LX_det (.pointer (some ⟨b1, o1 + k, none⟩)) (by kernel_rfl) rfl (fun w' hx _ => ?_) ?_
      · go_simp
      refine LX_det (.int .i64 x) (by kernel_rfl) rfl (fun w' hx _ => ?_) ?_
      · have m0 := (Below.cell hx (p := ⟨b1, o1 + k, none⟩) hb1).trans hc1
        go_simp
      refine LX_det (.int .i64 s) (by kernel_rfl) rfl (fun w' hx _ => ?_) ?_
      · go_simp
      refine LX_det (.int .i64 z) (by kernel_rfl) rfl (fun w' hx _ => ?_) ?_
      · go_simp
      refine LX_det (.pointer (some ⟨blk, 0, none⟩)) (by kernel_rfl) rfl (fun w' hx _ => ?_) ?_
      · go_simp
      refine LX_det (.pointer (some ⟨blk, 0, none⟩)) (by kernel_rfl) rfl (fun w' hx _ => ?_) ?_
      · go_simp
      refine LX_det (.pointer (some ⟨blk, 1, none⟩)) (by kernel_rfl) rfl (fun w' hx _ => ?_) ?_
      · go_simp
      refine LX_det (.slice (some ⟨b1, o1, none⟩) zs.length c1) (by kernel_rfl) rfl (fun w' hx _ => ?_) ?_
      · have m0 := (Below.cell hx (p := ⟨blk, 1, none⟩) hbl).trans k1
        go_simp
      refine LX_det (.int .i64 k) (by kernel_rfl) rfl (fun w' hx _ => ?_) ?_
      · go_simp
      refine LX_det (.pointer (some ⟨b1, o1 + k, none⟩)) (by kernel_rfl) rfl (fun w' hx _ => ?_) ?_
      · go_simp
      refine LX_det (.int .i64 x) (by kernel_rfl) rfl (fun w' hx _ => ?_) ?_
      · have m0 := (Below.cell hx (p := ⟨b1, o1 + k, none⟩) hb1).trans hc1
        go_simp
      refine LX_det (.bool (z == x)) (by kernel_rfl) rfl (fun w' hx _ => ?_) ?_
      · go_simp
      refine LX_nil fun w2 hx _ => ?_
      refine wpList_nil ?_
      simp only [Act.put, List.setIfInBounds_toArray, List.set_cons_succ, List.set_cons_zero]
      replace X := X.trans hx
      clear hx hc1 hb1 k0 k1 hbl hbx2 hz
      by_cases hzx : z = x
      · have HT : Hid ((zs.any fun q => bits .and .i64 q s == q) = true) := by
          show _ = _
          rw [List.any_eq_true]
          exact ⟨zs[k], List.getElem_mem hlt, by rw [HXE.out, HZE.out]; simpa using hzx⟩
        go_wp2_with fail
        go_ret
        exact ⟨ret_bool HT.out.symm, X⟩
      · have HF : Hid ((bits .and .i64 zs[k] s == zs[k]) = false) := by show _ = _; rw [HXE.out, HZE.out]; simpa using hzx
        go_wp2_with fail
        go_roundw
        case rel =>
          refine ⟨k + 1, by omega, by go_num, fun j hj hj' => ?_, X⟩
          by_cases e : j = k
          · subst e; exact HF.out
          · exact HN.out j (by omega) hj'
        case measure => simp [intOf]; omega
    · have HF : Hid ((zs.any fun q => bits .and .i64 q s == q) = false) := by
        show _ = _
        rw [List.any_eq_false]
        intro q hq
        obtain ⟨j, hj, rfl⟩ := List.getElem_of_mem hq
        have := HN.out j (by omega) hj
        simpa using this
      go_wp2_with fail
      go_ret
      exact ⟨ret_bool HF.out.symm, X⟩

theorem l03Works_any (p : Int) (s : Nat) (v : Value) (ns : List Nat) (blk : Nat) (w : World) (hbx : Bx w blk [.int .i64 p, v]) (r : RdI w v (ups ns)) (hn : ∀ n ∈ ns, n < 9223372036854775808) (hs : s < 9223372036854775808) :
    Calls Try.prog 50 #[.pointer (some ⟨blk, 0, none⟩), .int .i64 s] w fun e w' => e = .returned (.bool (worksB ns s)) ∧ Ext w w' := by
  rw [← worksS_ups hn hs]; exact l03WorksI_any p s v (ups ns) blk w hbx r

theorem works_any (p : Int) (s : Nat) (v : Value) (ns : List Nat) (w : World) (r : RdI w v (ups ns)) (hn : ∀ n ∈ ns, n < 9223372036854775808) (hs : s < 9223372036854775808) :
    Calls Try.prog 62 #[.agg #[.int .i64 p, v], .int .i64 s] w fun e w' => e = .returned (.bool (worksB ns s)) ∧ Ext w w' := by
  have r' := r
  obtain ⟨-, a1, c1, rfl, -, -, -, -⟩ := r
  have HW : Hid (((ups ns).any fun q => hasI s q) = worksB ns s) := works_ups hn hs
  go_enter Try.func62, Try.ntmps62
  go_wp2_with fail
  refine (hasOne_any s _ (ups ns) _ (r'.ext (Ext.alloc _ _))).mono ?_
  rintro e w1 ⟨rfl, X⟩
  rw [HW.out]
  go_wp2_with fail
  go_ret
  exact ⟨rfl, (Ext.alloc _ _).trans X⟩

theorem sysAll_any (p : Int) (v : Value) (w : World) (h1 : 1 ≤ p) (h2 : p ≤ 10) :
    Calls Try.prog 53 #[.agg #[.int .i64 p, v]] w fun e w' => e = .returned (.int .i64 (2 ^ p.toNat - 1)) ∧ Ext w w' := by
  have hpw := pow10' h1 h2
  have hp0 : 0 ≤ p := by omega
  have hp63 : p < 64 := by omega
  go_enter Try.func53, Try.ntmps53
  go_wp2_with fail
  go_ret
  exact ⟨ret_int rfl, Ext.alloc _ _⟩

theorem l03Set_any (p s : Int) (v : Value) (blk : Nat) (w : World) (hbx : Bx w blk [.int .i64 p, v]) (h1 : 1 ≤ p) (h2 : p ≤ 10) :
    Calls Try.prog 56 #[.pointer (some ⟨blk, 0, none⟩), .int .i64 s] w fun e w' => e = .returned (.bool (inB s 0 (2 ^ p.toNat - 1))) ∧ w = w' := by
  have hpw := pow10' h1 h2
  have hp0 : 0 ≤ p := by omega
  have hp63 : p < 64 := by omega
  obtain ⟨k0, k1⟩ := hbx.two
  go_enter Try.func56, Try.ntmps56
  go_wp2_with fail
  refine (l00In_any _ _ _ _).mono ?_
  rintro e w1 ⟨rfl, rfl⟩
  go_wp2_with fail
  go_ret
  exact ⟨rfl, rfl⟩

/-! ### WorksWith -/
/-- Whether a set is one of a valid system, and whether the system works with it. -/
def wwOk (p : Int) (zs : List Int) (s : Int) : Bool := sysB p zs && inB s 0 (2 ^ p.toNat - 1)
def wwRes (p : Int) (zs : List Int) (s : Int) : Bool := wwOk p zs s && worksB (downs zs) s.toNat
theorem sys_good {p : Int} {zs : List Int} (h : sysB p zs = true) : goodI p zs = true := by unfold sysB at h; rw [Bool.and_eq_true] at h; exact h.1


end Go.Proofs.Ytgmdoboeenpjpaa
