
/- The sets of parts where something holds; the cuts of a system, both sides. Condition: a valid system's sets. -/
import Derived.Test.YtgmdoboeenpjpaaYk
import Derived.Test.YtgmdoboeenpjpaaYf
namespace Go.Proofs.Ytgmdoboeenpjpaa
open Go Go.RowKit Go.ChangeShapes Go.WideShapes Go.ChangeAt

attribute [local irreducible] LX

/-- A function that says of each set below N whether something holds. -/
def PredN (fn : FuncId) (lb : Array Value) (P : Nat → Bool) (N : Nat) (w : World) : Prop :=
  ∀ w', Ext w w' → ∀ s : Nat, s < N → Calls Try.prog fn (#[.int .i64 s] ++ lb) w' fun e w'' => e = .returned (.bool (P s)) ∧ Ext w' w''

theorem pow10N {p : Nat} (hp : p ≤ 10) : (2 : Int) ^ p ≤ 1024 ∧ (1 : Int) ≤ 2 ^ p ∧ (2 : Int) ^ p = ((2 ^ p : Nat) : Int) ∧ 2 ^ p ≤ 1024 := by
  have h1 : 2 ^ p ≤ 2 ^ 10 := Nat.pow_le_pow_right (by decide) hp
  have h2 : 0 < 2 ^ p := Nat.pow_pos (by decide)
  have h3 : (2 : Int) ^ p = ((2 ^ p : Nat) : Int) := by exact_mod_cast rfl
  have h4 : (2 : Nat) ^ 10 = 1024 := by decide
  refine ⟨by omega, by omega, h3, by omega⟩

set_option maxHeartbeats 2000000 in
theorem setsWhere_any (p : Nat) (fn : FuncId) (lb : Array Value) (P : Nat → Bool) (w : World) (hp : p ≤ 10) (hen : EnterOk Try.prog fn) (hP : PredN fn lb P (2 ^ p) w) :
    Calls Try.prog 70 #[.int .i64 p, .func (.func fn) #[] lb] w fun e w' => ∃ g cap, e = .returned (.slice (some ⟨g, 0, none⟩) ((List.range (2 ^ p)).filter P).length cap) ∧ Ext w w' ∧
      OwnS w.heap.size w' g cap ((List.range (2 ^ p)).filter P) := by
  have hent : ∀ args w, (callFunc fn args).run Try.prog w = .ok (.enter fn args) w := hen
  have HP := Lib.hid hP
  obtain ⟨q1, q2, q3, q4⟩ := pow10N hp
  clear hP hen
  generalize hN : 2 ^ p = N at *
  have HN := Lib.hid hN
  clear hN
  go_enter Try.func70, Try.ntmps70
  go_wp2_with fail
  go_loopw [10, 5] (fun i v wr => ∃ (k g cap : Nat) (xs : List Nat), k ≤ N ∧ i = .int .i64 k ∧ v = .slice (some ⟨g, 0, none⟩) xs.length cap ∧ xs.length ≤ k ∧ Hid (xs = (List.range k).filter P) ∧
      OwnS w.heap.size wr g cap xs ∧ Ext w wr) (fun i _ _ => N - (intOf i).toNat)
  case atStart => exact ⟨0, w.heap.size, 0, [], Nat.zero_le _, rfl, rfl, Nat.le_refl _, rfl, World.ownsRow_lit w #[] 0 (Nat.le_refl _) (by decide) rfl, Ext.alloc _ _⟩
  case round =>
    obtain ⟨k, g, cap, xs, hk, rfl, rfl, hxl, HXS, own, X⟩ := hrel
    by_cases hlt : k < N
    · have HST := Lib.hid (range_filter_succ P k)
      have hki : (k : Int) < (2 : Int) ^ p := by rw [q3]; omega
      go_wp2_with fail
      refine (HP.out _ X k hlt).mono ?_
      rintro e w1 ⟨rfl, hx⟩
      replace own := own.ext hx
      replace X := X.trans hx
      clear hx
      cases hpk : P k
      · have HK := Lib.hid hpk
        clear hpk
        go_wp2_with fail
        go_roundw
        case rel => exact ⟨k + 1, g, cap, xs, by omega, by go_num, rfl, by omega, by show _ = _; rw [HST.out, HK.out, HXS.out]; simp, own, X⟩
        case measure => simp [intOf]; omega
      · have HK := Lib.hid hpk
        clear hpk
        go_wp2_with (at_builtin; refine wpList_push infoI64 rfl Try.underlying25 rfl rfl rfl (World.ownsRow.alloc (w := _) own _) rfl (Bx.new _ [_] _).one rfl (by omega) (by decide) (X.trans (Ext.alloc _ _)).size ?_; intro g2 cap2 w4 hg2 own2 bel2 sz2)
        go_roundw
        case rel => exact ⟨k + 1, g2, cap2, xs ++ [k], by omega, by go_num, by simp, by simp; omega, by show _ = _; rw [HST.out, HK.out, HXS.out]; simp, by unfold OwnS; rw [ups_append, List.map_append, List.length_append]; exact own2, bel2 _ (X.trans (Ext.alloc _ _))⟩
        case measure => simp [intOf]; omega
    · obtain rfl : k = N := by omega
      have hki : ¬ (k : Int) < (2 : Int) ^ p := by rw [q3]; omega
      go_wp2_with fail
      go_ret
      rw [← HXS.out]
      exact ⟨g, cap, rfl, X, own⟩

/-- What is known of a valid system's sets. -/
structure SysN (p : Nat) (ns : List Nat) : Prop where
  p1 : 1 ≤ p
  p10 : p ≤ 10
  l1 : 1 ≤ ns.length
  l64 : ns.length ≤ 64
  pos : ∀ n ∈ ns, 1 ≤ n
  lt : ∀ n ∈ ns, n < 2 ^ p
theorem SysN.of {p : Int} {zs : List Int} (h : goodI p zs = true) : SysN p.toNat (downs zs) ∧ p = (p.toNat : Int) ∧ zs = ups (downs zs) := by
  obtain ⟨h1, h2, h3, h4, h5⟩ := good_get h
  refine ⟨⟨by omega, by omega, by rw [downs_len]; omega, by rw [downs_len]; omega, fun n hn => (h5 n hn).1, fun n hn => (h5 n hn).2.1⟩, by omega, h4⟩
theorem SysN.small {p : Nat} {ns : List Nat} (h : SysN p ns) : ∀ n ∈ ns, n < 1024 := fun n hn => by
  have := h.lt n hn
  have := (pow10N h.p10).2.2.2
  omega
theorem SysN.whole {p : Nat} {ns : List Nat} (h : SysN p ns) : worksB ns (2 ^ p - 1) = true := by
  obtain ⟨n, hn⟩ : ∃ n, n ∈ ns := by
    cases ns with
    | nil => have := h.l1; simp at this
    | cons a l => exact ⟨a, by simp⟩
  exact worksB_iff.2 ⟨n, hn, by unfold hasB; rw [Nat.and_comm, and_whole (h.lt n hn)]; simp⟩
theorem SysN.none {p : Nat} {ns : List Nat} (h : SysN p ns) : worksB ns 0 = false := by
  unfold worksB
  rw [List.any_eq_false]
  intro n hn
  have := h.pos n hn
  unfold hasB
  simp
  omega

set_option maxRecDepth 100000 in
set_option maxHeartbeats 2000000 in
theorem cuts1_any (p s : Nat) (v : Value) (ns : List Nat) (blk : Nat) (w : World) (hbx : Bx w blk [.int .i64 p, v]) (r : RdI w v (ups ns)) (h : SysN p ns) (hs : s < 2 ^ p) :
    Calls Try.prog 96 #[.int .i64 s, .pointer (some ⟨blk, 0, none⟩)] w fun e w' => e = .returned (.bool (cutB p ns s)) ∧ Ext w w' := by
  have r' := r
  obtain ⟨a1, c1, rfl, -, -⟩ := RdN_slice r
  obtain ⟨q1, q2, q3, q4⟩ := pow10N h.p10
  have hp1 := h.p1
  have hp10 := h.p10
  have HA := Lib.hid (fun W v => sysAll_any (p : Int) v W (by omega) (by omega))
  have hcut : Hid (cutB p ns s = !worksB ns (2 ^ p - 1 - s)) := rfl
  have HW := Lib.hid (fun W (x : Ext w W) => works_any (p : Int) (2 ^ p - 1 - s) (.slice a1 ns.length c1) ns W (r'.ext x) (fun n hn => by have := h.small n hn; omega) (by omega))
  have hz : bits .andNot .i64 ((2 ^ p - 1 : Nat) : Int) (s : Int) = ((2 ^ p - 1 - s : Nat) : Int) := by
    rw [bits_andNot _ _ (by omega) (by omega), and_whole hs]
  have hc : ((2 : Int) ^ (p : Int).toNat - 1) = ((2 ^ p - 1 : Nat) : Int) := by
    rw [Int.toNat_natCast, q3]; omega
  rw [hc] at HA
  generalize 2 ^ p - 1 - s = c at *
  generalize 2 ^ p - 1 = m at *
  generalize worksB ns c = b at *
  obtain ⟨k0, k1⟩ := hbx.two
  have hbl := hbx.1
  go_enter Try.func96, Try.ntmps96
  go_wp2_with fail
  refine wp_region_rel 7 (fun i v => match i with | 2 => v = .int .i64 m | _ => v = .bool b) (fun _ _ _ => True) (by kernel_rfl) (by kernel_rfl) (by kernel_rfl) ?_
  dsimp only [List.take, List.drop, List.length]
  refine LX_det (.agg #[.int .i64 p, .slice a1 ns.length c1]) (by kernel_rfl) rfl (fun w' hx _ => ?_) ?_
  · obtain ⟨m0, m1⟩ := (hbx.ext hx).two
    go_simp
  refine LX_det (.agg #[.int .i64 p, .slice a1 ns.length c1]) (by kernel_rfl) rfl (fun w' hx _ => ?_) ?_
  · obtain ⟨m0, m1⟩ := (hbx.ext hx).two
    go_simp
  refine LX_call (by kernel_rfl) rfl (fun _ => St.top) (fun w' hx _ => ?_) ?_
  · go_simp
    refine UponC.enter ((HA.out _ _).mono ?_)
    rintro e w'' ⟨rfl, hx'⟩
    exact ⟨_, rfl, hx', rfl, trivial⟩
  rintro _ rfl
  refine LX_det (.int .i64 s) (by kernel_rfl) rfl (fun w' hx _ => ?_) ?_
  · go_simp
  refine LX_det (.int .i64 c) (by kernel_rfl) rfl (fun w' hx _ => ?_) ?_
  · go_simp
  refine LX_call (by kernel_rfl) rfl (fun _ => St.top) (fun w' hx _ => ?_) ?_
  · go_simp
    refine UponC.enter ((HW.out _ hx).mono ?_)
    rintro e w'' ⟨rfl, hx'⟩
    exact ⟨_, rfl, hx', rfl, trivial⟩
  rintro _ rfl
  refine LX_det (.bool (!b)) (by kernel_rfl) rfl (fun w' hx _ => ?_) ?_
  · go_simp
  refine LX_nil fun w2 hx _ => ?_
  simp only [Act.put, List.setIfInBounds_toArray, List.set_cons_succ, List.set_cons_zero]
  go_wp2_with fail
  go_ret
  exact ⟨ret_bool hcut.out.symm, hx⟩

set_option maxHeartbeats 2000000 in
theorem cuts_any (p : Nat) (v : Value) (ns : List Nat) (w : World) (r : RdI w v (ups ns)) (h : SysN p ns) :
    Calls Try.prog 44 #[.agg #[.int .i64 p, v]] w fun e w' => ∃ g cap, e = .returned (.slice (some ⟨g, 0, none⟩) (cutsS p ns).length cap) ∧ Ext w w' ∧ OwnS w.heap.size w' g cap (cutsS p ns) := by
  have r' := r
  obtain ⟨a1, c1, rfl, -, -⟩ := RdN_slice r
  have bx : Bx (w.alloc (.cells #[.int .i64 p, .slice a1 ns.length c1] 27)) w.heap.size [.int .i64 p, .slice a1 ns.length c1] := Bx.new _ _ _
  obtain ⟨q1, q2, q3, q4⟩ := pow10N h.p10
  have HS := Lib.hid (setsWhere_any p 96 #[.pointer (some ⟨w.heap.size, 0, none⟩)] (cutB p ns) _ h.p10 (enterOk Try.func96 (by kernel_rfl) rfl)
    (fun w' hx s hs => cuts1_any p s _ ns w.heap.size w' (bx.ext hx) (r'.ext ((Ext.alloc _ _).trans hx)) h hs))
  have hlt : ∀ z ∈ (List.range (2 ^ p)).filter (cutB p ns), z < 1048577 := fun z hz => by rw [List.mem_filter, List.mem_range] at hz; omega
  have hself : leastN ((List.range (2 ^ p)).filter (cutB p ns)) = cutsS p ns := by
    unfold leastN
    rw [setsOf_self hlt (asc_filter (asc_range _)), ← cuts_same (by have := h.p10; omega) h.whole]; rfl
  have hne : 0 < ((List.range (2 ^ p)).filter (cutB p ns)).length := by
    refine List.length_pos_of_mem (a := 2 ^ p - 1) (List.mem_filter.2 ⟨List.mem_range.2 (by omega), ?_⟩)
    unfold cutB
    rw [Nat.sub_self, h.none]; rfl
  have hle : ((List.range (2 ^ p)).filter (cutB p ns)).length ≤ 1048576 := Nat.le_trans (List.length_filter_le _ _) (by rw [List.length_range]; omega)
  have HSELF := Lib.hid hself
  clear hself
  generalize (List.range (2 ^ p)).filter (cutB p ns) = xs at *
  have HLT := Lib.hid hlt
  clear hlt q1 q2 q3 q4
  go_enter Try.func44, Try.ntmps44
  go_wp2_with fail
  refine HS.out.mono ?_
  rintro e w1 ⟨g, cap, rfl, X, own⟩
  go_wp2_with fail
  refine (least_any _ xs w1 own.rd hne hle HLT.out).mono ?_
  rintro e w2 ⟨g2, cap2, rfl, X2, own2⟩
  rw [HSELF.out] at own2 ⊢
  go_wp2_with fail
  go_ret
  have X1 := (Ext.alloc w (.cells #[.int .i64 p, .slice a1 ns.length c1] 27)).trans X
  exact ⟨g2, cap2, rfl, X1.trans X2, own2.mono X1.size⟩
end Go.Proofs.Ytgmdoboeenpjpaa
