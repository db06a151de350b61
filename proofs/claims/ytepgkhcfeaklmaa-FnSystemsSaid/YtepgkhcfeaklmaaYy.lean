
/- SwingCounts, both sides. Condition: lists of ints that can be read. -/
import Derived.Test.YtepgkhcfeaklmaaYn
namespace Go.Proofs.Ytepgkhcfeaklmaa
open Go Go.RowKit Go.ChangeShapes Go.WideShapes Go.ChangeAt

attribute [local irreducible] LX

/-- A part makes a system work with a set. -/
def swB (ns : List Nat) (i s : Nat) : Bool := !(s.testBit i) && !worksB ns s && worksB ns (s + 2 ^ i)
def swC (p : Nat) (ns : List Nat) (i : Nat) : Int := (((List.range (2 ^ p)).filter (swB ns i)).length : Nat)
def swL (p : Nat) (ns : List Nat) : List Int := (List.range p).map (swC p ns)
def swO (p : Int) (zs : List Int) : Option (List Int) := if sysB p zs then some (swL p.toNat (downs zs)) else none
theorem swL_len (p : Nat) (ns : List Nat) : (swL p ns).length = p := by simp [swL]
theorem swO_len (p : Int) (zs : List Int) : ((swO p zs).getD []).length ≤ 1048576 := by
  unfold swO
  split
  · rename_i h
    have := (SysN.of (sys_good' h)).1.p10
    simp only [Option.getD_some, swL_len]; omega
  · simp
theorem bit_and (s i : Nat) (hs : s < 1024) : bits .and .i64 ((s : Int) / 2 ^ i) 1 = if s.testBit i then 1 else 0 := by
  have h1 : ((s : Int) / 2 ^ i) = ((s / 2 ^ i : Nat) : Int) := by exact_mod_cast rfl
  have h2 : s / 2 ^ i < 1024 := Nat.lt_of_le_of_lt (Nat.div_le_self _ _) hs
  have h3 := bits_and (s / 2 ^ i) 1 (by omega) (by decide)
  rw [h1]
  refine Eq.trans h3 ?_
  rw [Nat.and_one_is_mod, Nat.testBit_eq_decide_div_mod_eq]
  by_cases h : s / 2 ^ i % 2 = 1
  · simp [h]
  · have : s / 2 ^ i % 2 = 0 := by omega
    simp [this]
theorem row_set {A : List Int} {m : Nat} {z y : Int} {k : Nat} (h : A.length = k) : (A ++ List.replicate (m + 1) z).set k y = (A ++ [y]) ++ List.replicate m z := by
  subst h
  rw [List.set_append_right _ _ (Nat.le_refl _), Nat.sub_self, List.replicate_succ, List.set_cons_zero]; simp
theorem swL_take (p : Nat) (ns : List Nat) (k : Nat) (h : k < p) : (swL p ns).take (k + 1) = (swL p ns).take k ++ [swC p ns k] := by
  rw [List.take_succ_eq_append_getElem (by rw [swL_len]; exact h)]
  simp [swL]

theorem wrapU' (n : Nat) (h : n < 9223372036854775808) : IntKind.u64.wrap (n : Int) = (n : Int) := by
  have e : IntKind.u64.wrap (n : Int) = (n : Int) % 18446744073709551616 := by simp [IntKind.wrap, IntKind.bits, IntKind.signed]
  rw [e]; omega
set_option maxRecDepth 100000 in
set_option maxHeartbeats 4000000 in
theorem swing1_any (p i s : Nat) (v : Value) (ns : List Nat) (bi blk : Nat) (w : World) (hbi : w.cell? ⟨bi, 0, none⟩ = some (.int .i64 i)) (hbx : Bx w blk [.int .i64 p, v]) (r : RdI w v (ups ns)) (h : SysN p ns) (hs : s < 2 ^ p) (hi : i < p) :
    Calls Try.prog 67 #[.int .i64 s, .pointer (some ⟨bi, 0, none⟩), .pointer (some ⟨blk, 0, none⟩)] w fun e w' => e = .returned (.bool (swB ns i s)) ∧ Ext w w' := by
  have r' := r
  obtain ⟨a1, c1, rfl, -, -⟩ := RdN_slice r
  obtain ⟨q1, q2, q3, q4⟩ := pow10N h.p10
  have hp10 := h.p10
  have hlt2 : 2 ^ i ≤ 2 ^ 10 := Nat.pow_le_pow_right (by decide) (by omega)
  have h210 : (2 : Nat) ^ 10 = 1024 := by decide
  obtain ⟨z1, z2, z3, z4⟩ := pow10N (p := i) (by omega)
  have HW := Lib.hid (fun W (x : Ext w W) t (ht : t < 4096) => works_any (p : Int) t (.slice a1 ns.length c1) ns W (r'.ext x) (fun n hn => by have := h.small n hn; omega) (by omega))
  have hba := bit_and s i (by omega)
  have hbl := World.block_lt_of_cell? w _ hbi
  have hi63 : (i : Int) < 64 := by omega
  have hDEF : Hid (swB ns i s = (!(s.testBit i) && !worksB ns s && worksB ns (s + 2 ^ i))) := rfl
  have hor : s.testBit i = false → bits .or .i64 (s : Int) ((2 ^ i : Nat) : Int) = ((s + 2 ^ i : Nat) : Int) := fun hb => by
    rw [bits_or s (2 ^ i) (by omega) (by omega), or_bit hb]
  have hs4 : s < 4096 := by omega
  have hs5 : s + 2 ^ i < 4096 := by omega
  have hw1 : IntKind.i64.wrap ((2 : Int) ^ i) = (2 : Int) ^ i := IntWalk.i64_in _ (by omega)
  have hsd0 : 0 ≤ (s : Int) / 2 ^ i := Int.ediv_nonneg (by omega) (by omega)
  cases hb : s.testBit i
  · rw [hb] at hba hDEF
    have hor' := hor hb
    rw [← z3] at hor'
    simp only [Bool.false_eq_true, if_false] at hba
    clear hor hb
    have hz0 : ((0 : Int) == 0) = true := rfl
    cases hws : worksB ns s
    · rw [hws] at hDEF
      have HW1 := Lib.hid (fun W (x : Ext w W) => HW.out W x s hs4)
      rw [hws] at HW1
      have HW2 := Lib.hid (fun W (x : Ext w W) => HW.out W x (s + 2 ^ i) hs5)
      have HSB := Lib.hid hor'
      generalize hb2 : worksB ns (s + 2 ^ i) = b at *
      clear hws HW hb2 q3 z3
      go_enter Try.func67, Try.ntmps67
      go_wp2_with fail
      refine wp_region_rel 19 (fun i v => match i with | 8 => v = .bool false | _ => v = .bool b) (fun _ _ _ => True) (by kernel_rfl) (by kernel_rfl) (by kernel_rfl) ?_
      dsimp only [List.take, List.drop, List.length]
      refine LX_det (.int .i64 s) (by kernel_rfl) rfl (fun w' hx _ => ?_) ?_
      · go_simp
      refine LX_det (.int .i64 i) (by kernel_rfl) rfl (fun w' hx _ => ?_) ?_
      · have m0 := (Below.cell hx (p := ⟨bi, 0, none⟩) hbl).trans hbi
        go_simp
      refine LX_det (.int .i64 ((s : Int) / 2 ^ i)) (by kernel_rfl) rfl (fun w' hx _ => ?_) ?_
      · go_simp
      refine LX_det (.int .i64 0) (by kernel_rfl) rfl (fun w' hx _ => ?_) ?_
      · go_simp
      refine LX_det (.bool true) (by kernel_rfl) rfl (fun w' hx _ => ?_) ?_
      · go_simp
      refine LX_det (.bool true) (by kernel_rfl) rfl (fun w' hx _ => ?_) ?_
      · go_simp
      refine LX_det (.agg #[.int .i64 p, .slice a1 ns.length c1]) (by kernel_rfl) rfl (fun w' hx _ => ?_) ?_
      · obtain ⟨m0, m1⟩ := (hbx.ext hx).two
        go_simp
      refine LX_det (.int .i64 s) (by kernel_rfl) rfl (fun w' hx _ => ?_) ?_
      · go_simp
      refine LX_call (by kernel_rfl) rfl (fun _ => St.top) (fun w' hx _ => ?_) ?_
      · go_simp
        refine UponC.enter ((HW1.out _ hx).mono ?_)
        rintro e w'' ⟨rfl, hx'⟩
        exact ⟨_, rfl, hx', rfl, trivial⟩
      rintro _ rfl
      refine LX_det (.bool true) (by kernel_rfl) rfl (fun w' hx _ => ?_) ?_
      · go_simp
      refine LX_det (.bool true) (by kernel_rfl) rfl (fun w' hx _ => ?_) ?_
      · go_simp
      refine LX_det (.bool true) (by kernel_rfl) rfl (fun w' hx _ => ?_) ?_
      · go_simp
      refine LX_det (.agg #[.int .i64 p, .slice a1 ns.length c1]) (by kernel_rfl) rfl (fun w' hx _ => ?_) ?_
      · obtain ⟨m0, m1⟩ := (hbx.ext hx).two
        go_simp
      refine LX_det (.int .i64 s) (by kernel_rfl) rfl (fun w' hx _ => ?_) ?_
      · go_simp
      refine LX_det (.int .i64 i) (by kernel_rfl) rfl (fun w' hx _ => ?_) ?_
      · have m0 := (Below.cell hx (p := ⟨bi, 0, none⟩) hbl).trans hbi
        go_simp
      refine LX_det (.int .i64 (2 ^ i)) (by kernel_rfl) rfl (fun w' hx _ => ?_) ?_
      · go_simp
      refine LX_det (.int .i64 (s + 2 ^ i : Nat)) (by kernel_rfl) rfl (fun w' hx _ => ?_) ?_
      · go_simp
      refine LX_call (by kernel_rfl) rfl (fun _ => St.top) (fun w' hx _ => ?_) ?_
      · go_simp
        refine UponC.enter ((HW2.out _ hx).mono ?_)
        rintro e w'' ⟨rfl, hx'⟩
        exact ⟨_, rfl, hx', rfl, trivial⟩
      rintro _ rfl
      refine LX_det (.bool b) (by kernel_rfl) rfl (fun w' hx _ => ?_) ?_
      · go_simp
      refine LX_nil fun w2 hx _ => ?_
      simp only [Act.put, List.setIfInBounds_toArray, List.set_cons_succ, List.set_cons_zero]
      go_wp2_with fail
      go_ret
      exact ⟨ret_bool (by rw [hDEF.out]; simp), hx⟩
    · skip
      rw [hws] at hDEF
      have HW1 := Lib.hid (fun W (x : Ext w W) => HW.out W x s hs4)
      rw [hws] at HW1
      clear hws HW q3 z3
      go_enter Try.func67, Try.ntmps67
      go_wp2_with fail
      refine wp_region_rel 19 (fun i v => match i with | 8 => v = .bool true | _ => v = .bool true) (fun _ _ _ => True) (by kernel_rfl) (by kernel_rfl) (by kernel_rfl) ?_
      dsimp only [List.take, List.drop, List.length]
      refine LX_det (.int .i64 s) (by kernel_rfl) rfl (fun w' hx _ => ?_) ?_
      · go_simp
      refine LX_det (.int .i64 i) (by kernel_rfl) rfl (fun w' hx _ => ?_) ?_
      · have m0 := (Below.cell hx (p := ⟨bi, 0, none⟩) hbl).trans hbi
        go_simp
      refine LX_det (.int .i64 ((s : Int) / 2 ^ i)) (by kernel_rfl) rfl (fun w' hx _ => ?_) ?_
      · go_simp
      refine LX_det (.int .i64 0) (by kernel_rfl) rfl (fun w' hx _ => ?_) ?_
      · go_simp
      refine LX_det (.bool true) (by kernel_rfl) rfl (fun w' hx _ => ?_) ?_
      · go_simp
      refine LX_det (.bool true) (by kernel_rfl) rfl (fun w' hx _ => ?_) ?_
      · go_simp
      refine LX_det (.agg #[.int .i64 p, .slice a1 ns.length c1]) (by kernel_rfl) rfl (fun w' hx _ => ?_) ?_
      · obtain ⟨m0, m1⟩ := (hbx.ext hx).two
        go_simp
      refine LX_det (.int .i64 s) (by kernel_rfl) rfl (fun w' hx _ => ?_) ?_
      · go_simp
      refine LX_call (by kernel_rfl) rfl (fun _ => St.top) (fun w' hx _ => ?_) ?_
      · go_simp
        refine UponC.enter ((HW1.out _ hx).mono ?_)
        rintro e w'' ⟨rfl, hx'⟩
        exact ⟨_, rfl, hx', rfl, trivial⟩
      rintro _ rfl
      refine LX_det (.bool false) (by kernel_rfl) rfl (fun w' hx _ => ?_) ?_
      · go_simp
      refine LX_det (.bool false) (by kernel_rfl) rfl (fun w' hx _ => ?_) ?_
      · go_simp
      refine LX_det (.bool false) (by kernel_rfl) rfl (fun w' hx _ => ?_) ?_
      · go_simp
      iterate 6 refine LX_skip (by kernel_rfl) ?_
      refine LX_det (.bool false) (by kernel_rfl) rfl (fun w' hx _ => ?_) ?_
      · go_simp
      refine LX_nil fun w2 hx _ => ?_
      simp only [Act.put, List.setIfInBounds_toArray, List.set_cons_succ, List.set_cons_zero]
      go_wp2_with fail
      go_ret
      exact ⟨ret_bool (by rw [hDEF.out]; simp), hx⟩
  · skip
    rw [hb] at hba hDEF
    simp only [if_true] at hba
    clear hor hb HW q3 z3
    go_enter Try.func67, Try.ntmps67
    go_wp2_with fail
    refine wp_region_rel 19 (fun i v => match i with | 8 => v = .bool true | _ => v = .bool true) (fun _ _ _ => True) (by kernel_rfl) (by kernel_rfl) (by kernel_rfl) ?_
    dsimp only [List.take, List.drop, List.length]
    refine LX_det (.int .i64 s) (by kernel_rfl) rfl (fun w' hx _ => ?_) ?_
    · go_simp
    refine LX_det (.int .i64 i) (by kernel_rfl) rfl (fun w' hx _ => ?_) ?_
    · have m0 := (Below.cell hx (p := ⟨bi, 0, none⟩) hbl).trans hbi
      go_simp
    refine LX_det (.int .i64 ((s : Int) / 2 ^ i)) (by kernel_rfl) rfl (fun w' hx _ => ?_) ?_
    · go_simp
    refine LX_det (.int .i64 1) (by kernel_rfl) rfl (fun w' hx _ => ?_) ?_
    · go_simp
    refine LX_det (.bool false) (by kernel_rfl) rfl (fun w' hx _ => ?_) ?_
    · go_simp
    refine LX_det (.bool false) (by kernel_rfl) rfl (fun w' hx _ => ?_) ?_
    · go_simp
    iterate 4 refine LX_skip (by kernel_rfl) ?_
    refine LX_det (.bool false) (by kernel_rfl) rfl (fun w' hx _ => ?_) ?_
    · go_simp
    refine LX_det (.bool false) (by kernel_rfl) rfl (fun w' hx _ => ?_) ?_
    · go_simp
    iterate 6 refine LX_skip (by kernel_rfl) ?_
    refine LX_det (.bool false) (by kernel_rfl) rfl (fun w' hx _ => ?_) ?_
    · go_simp
    refine LX_nil fun w2 hx _ => ?_
    simp only [Act.put, List.setIfInBounds_toArray, List.set_cons_succ, List.set_cons_zero]
    go_wp2_with fail
    go_ret
    exact ⟨ret_bool (by rw [hDEF.out]; simp), hx⟩
set_option maxHeartbeats 4000000 in
theorem implSwingCounts_any (p : Int) (v : Value) (zs : List Int) (w : World) (r : RdI w v zs) : Calls Try.prog 21 #[.agg #[.int .i64 p, v]] w (ZlPost (swO p zs) w) := by
  have r' := r
  obtain ⟨-, a1, c1, rfl, -, -, -, -⟩ := r
  have bx : Bx (w.alloc (.cells #[.int .i64 p, .slice a1 zs.length c1] 33)) w.heap.size [.int .i64 p, .slice a1 zs.length c1] := Bx.new _ _ _
  have HV := Lib.hid (fun W (x : Ext w W) => implValidSystem_any p _ zs W (r'.ext x))
  cases hv : sysB p zs
  · have HO : Hid (swO p zs = none) := by show _ = _; unfold swO; rw [hv]; rfl
    rw [hv] at HV
    clear hv
    go_enter Try.func21, Try.ntmps21
    go_wp2_with fail
    generalize hW : World.alloc w _ = W at *
    have X : Ext w W := hW ▸ Ext.alloc _ _
    clear hW
    obtain ⟨k0, k1⟩ := bx.two
    try (go_wp2_with fail)
    refine (HV.out _ X).mono ?_
    rintro e w1 ⟨rfl, hx⟩
    go_wp2_with fail
    go_ret2
    unfold ZlPost
    rw [HO.out]
    exact ⟨X.trans hx, rfl⟩
  · have HO : Hid (swO p zs = some (swL p.toNat (downs zs))) := by show _ = _; unfold swO; rw [hv]; rfl
    rw [hv] at HV
    obtain ⟨hs, hpn, hzn⟩ := SysN.of (sys_good' hv)
    obtain ⟨P, hP⟩ : ∃ P, P = p.toNat := ⟨_, rfl⟩
    rw [← hP] at hs hpn HO
    subst hpn
    clear hP
    have hp1 := hs.p1
    have hp10 := hs.p10
    have HSW := Lib.hid (fun W (x : Ext w W) (b : Bx W w.heap.size [.int .i64 (P : Int), .slice a1 zs.length c1]) i bi (hi : i < P) (hbi : W.cell? ⟨bi, 0, none⟩ = some (.int .i64 (i : Nat))) =>
      setsWhere_any P 67 #[.pointer (some ⟨bi, 0, none⟩), .pointer (some ⟨w.heap.size, 0, none⟩)] (swB (downs zs) i) W hp10 (enterOk Try.func67 (by kernel_rfl) rfl)
        (fun w' hx s hslt => swing1_any P i s (.slice a1 zs.length c1) (downs zs) bi w.heap.size w' ((Below.cell hx (p := ⟨bi, 0, none⟩) (World.block_lt_of_cell? W _ hbi)).trans hbi) (b.ext hx) (by rw [← hzn]; exact r'.ext (x.trans hx)) hs hslt hi))
    have HTK := Lib.hid (fun k (h : k < P) => swL_take P (downs zs) k h)
    have HCD : Hid (∀ i, swC P (downs zs) i = (((List.range (2 ^ P)).filter (swB (downs zs) i)).length : Nat)) := fun _ => rfl
    have HCL : Hid (∀ i, ((List.range (2 ^ P)).filter (swB (downs zs) i)).length ≤ 1024) := fun i => Nat.le_trans (List.length_filter_le _ _) (by rw [List.length_range]; exact (pow10N hp10).2.2.2)
    have hLL := swL_len P (downs zs)
    obtain ⟨i0, hi0, hz0, hz1, hz2⟩ := info_parts infoI64
    clear hv hs hzn
    generalize swL P (downs zs) = cs at *
    have HLL := Lib.hid hLL
    clear hLL
    go_enter Try.func21, Try.ntmps21
    go_wp2_with fail
    generalize hW : World.alloc w _ = W at *
    have X : Ext w W := hW ▸ Ext.alloc _ _
    clear hW
    obtain ⟨k0, k1⟩ := bx.two
    try (go_wp2_with fail)
    refine (HV.out _ X).mono ?_
    rintro e w1 ⟨rfl, hx⟩
    clear k0 k1
    replace X := X.trans hx
    replace bx := bx.ext hx
    clear hx W
    obtain ⟨k0, k1⟩ := bx.two
    go_wp2_with (at_make; refine wpList_make_full _ rfl _ _ 22 rfl w1.heap.size 2 i0 (.int .i64 0) 1 Try.underlying22 hi0 hz0 hz1 _ _ _ _ P rfl rfl rfl rfl ?c1 ?c2 ?c3 ?_)
    case c1 => rw [hz2]; omega
    case c2 => unfold maxLen; omega
    case c3 => exact Nat.le_refl _
    intro w2 hown hg
    have X2 : Ext w1 w2 := (Ext.refl w1).grown hg (Nat.le_refl _) (fun _ h => by cases h)
    rw [toList_madeCells_one] at hown
    have own0 : w2.ownsRow w1.heap.size 2 1 (.slice (some ⟨w1.heap.size, 0, none⟩) P P) P ((cs.take 0 ++ List.replicate (P - 0) 0).map (Value.int .i64)) := by simpa using hown
    clear hown hg hi0 hz0 hz1 hz2 k0 k1
    go_wp2_with fail
    go_loopw [14] (fun i wr => ∃ k : Nat, k ≤ P ∧ i = .int .i64 k ∧ Ext w1 wr ∧
      wr.ownsRow w1.heap.size 2 1 (.slice (some ⟨w1.heap.size, 0, none⟩) P P) P ((cs.take k ++ List.replicate (P - k) 0).map (Value.int .i64))) (fun i _ => P - (intOf i).toNat)
    case atStart => exact ⟨0, Nat.zero_le _, rfl, X2, own0⟩
    case round =>
      clear own0
      obtain ⟨k, hk, rfl, Z, own⟩ := hrel
      by_cases hlt : k < P
      · have hki : (k : Int) < (P : Int) := by omega
        have hll := HLL.out
        have hset : Hid ((cs.take k ++ List.replicate (P - k) 0).set k (swC P (downs zs) k) = cs.take (k + 1) ++ List.replicate (P - (k + 1)) 0) := by
          show _ = _
          rw [HTK.out k hlt, show P - k = (P - (k + 1)) + 1 by omega, row_set (by rw [List.length_take]; omega)]
        rw [HCD.out k] at hset
        have hcl := HCL.out k
        have HSWK := Lib.hid (fun W x b bi => HSW.out W x b k bi hlt)
        generalize hF : (List.range (2 ^ P)).filter (swB (downs zs) k) = F at *
        have hcc := own.cellAt k (by omega)
        rw [List.getElem?_map, List.getElem?_append_right (by rw [List.length_take]; omega), List.getElem?_replicate, if_pos (by rw [List.length_take]; omega)] at hcc
        simp only [Option.map_some] at hcc
        have hff := own.frozenAt k
        have hgl := (own.lt _ rfl).2
        have hst := Lib.hid (fun W (x : Ext wr W) u => (World.ownsRow.stored (own_ext' own x) k u).1)
        clear hF hll
        go_wp2_with fail
        have hbi : (wr.alloc (.cells #[.int .i64 k] 3)).cell? ⟨wr.heap.size, 0, none⟩ = some (.int .i64 k) := (Bx.new wr [.int .i64 k] 3).one
        generalize hW : World.alloc wr _ = W at *
        have hx0 : Ext wr W := hW ▸ Ext.alloc _ _
        clear hW
        have bxW := bx.ext (Z.trans hx0)
        have hbb := World.block_lt_of_cell? W _ hbi
        have ZW := Z.trans hx0
        refine wp_region_rel 8 (fun _ v => ∃ g cap, v = .slice (some ⟨g, 0, none⟩) F.length cap) (fun _ _ _ => True) (by kernel_rfl) (by kernel_rfl) (by kernel_rfl) ?_
        dsimp only [List.take, List.drop, List.length]
        refine LX_det (.slice (some ⟨w1.heap.size, 0, none⟩) P P) (by kernel_rfl) rfl (fun w' hx _ => ?_) ?_
        · go_simp
        refine LX_det (.int .i64 k) (by kernel_rfl) rfl (fun w' hx _ => ?_) ?_
        · have m0 := (Below.cell hx (p := ⟨wr.heap.size, 0, none⟩) hbb).trans hbi
          go_simp
        refine LX_det (.pointer (some ⟨w.heap.size, 0, none⟩)) (by kernel_rfl) rfl (fun w' hx _ => ?_) ?_
        · go_simp
        refine LX_det (.int .i64 P) (by kernel_rfl) rfl (fun w' hx _ => ?_) ?_
        · obtain ⟨m0, m1⟩ := (bxW.ext hx).two
          go_simp
        refine LX_det (.func (.func 67) #[] #[.pointer (some ⟨wr.heap.size, 0, none⟩), .pointer (some ⟨w.heap.size, 0, none⟩)]) (by kernel_rfl) rfl (fun w' hx _ => ?_) ?_
        · go_simp
        refine LX_call (by kernel_rfl) rfl (fun _ => St.top) (fun w' hx _ => ?_) ?_
        · go_simp
          refine UponC.enter ((HSWK.out _ (X.trans (ZW.trans hx)) (bxW.ext hx) _ ((Below.cell hx (p := ⟨wr.heap.size, 0, none⟩) hbb).trans hbi)).mono ?_)
          rintro e w'' ⟨g, cap, rfl, hx', -⟩
          exact ⟨_, rfl, hx', ⟨g, cap, rfl⟩, trivial⟩
        rintro _ ⟨g, cap, rfl⟩
        refine LX_det (.int .i64 F.length) (by kernel_rfl) rfl (fun w' hx _ => ?_) ?_
        · go_simp
        refine LX_det (.pointer (some ⟨w1.heap.size, k, none⟩)) (by kernel_rfl) rfl (fun w' hx _ => ?_) ?_
        · go_simp
        refine LX_nil fun w3 hx _ => ?_
        simp only [Act.put, List.setIfInBounds_toArray, List.set_cons_succ, List.set_cons_zero]
        replace hx := hx0.trans hx
        replace hcc := (Below.cell hx (p := ⟨w1.heap.size, k, none⟩) hgl).trans hcc
        have hff3 := (own_ext' own hx).frozenAt k
        have hst3 := Lib.hid (hst.out _ hx)
        clear hff hst bxW hbi hbb hx0 ZW HSWK own
        go_wp2_with fail
        go_roundw
        case rel =>
          refine ⟨k + 1, by omega, by go_num, (Z.trans hx).setCell (Nat.le_refl _) _, ?_⟩
          rw [← hset.out, List.map_set]
          exact hst3.out _
        case measure => simp [intOf]; omega
      · obtain rfl : k = P := by omega
        have hll := HLL.out
        rw [List.take_of_length_le (by omega), Nat.sub_self, List.replicate_zero, List.append_nil] at own
        go_wp2_with fail
        go_ret2
        unfold ZlPost
        rw [HO.out]
        refine ⟨X.trans Z, w1.heap.size, k, by rw [hll]; rfl, ?_⟩
        show World.ownsRow _ _ _ _ _ cs.length _
        rw [hll]
        exact World.ownsRow.mono own X.size

end Go.Proofs.Ytepgkhcfeaklmaa
