
/- The sets of parts where something holds; the cuts of a system, both sides. Condition: a valid system's sets. -/
import Derived.Test.YtgmdoboeenpjpaaYk
import Derived.Test.YtgmdoboeenpjpaaYf
namespace Go.Proofs.Ytgmdoboeenpjpaa
open Go Go.RowKit Go.ChangeShapes Go.WideShapes Go.ChangeAt

attribute [local irreducible] LX

/-- A function that says of each set below N whether something holds. -/
def PredN (fn : FuncId) (lb : Array Value) (P : Nat → Bool) (N : Nat) (w : World) : Prop :=
  ∀ w', Ext w w' → ∀ s : Nat, s < N → Calls Try.prog fn (#[.int .i64 s] ++ lb) w' fun e w'' => e = .returned (.bool (P s)) ∧ Ext w' w''

theorem pow10N {p : Nat} (hp : p ≤ 10) : (2 : Int) ^ p ≤ 1024 ∧ (1 : Int) ≤ 2 ^ p ∧ (2 : Int) ^ p = ((2 ^ p : Nat) : Int) ∧ 2 ^ p ≤ 1024 := by
  have h1 : 2 ^ p ≤ 2 ^ 10 := Nat.pow_le_pow_right (by decide) hp
  have h2 : 0 < 2 ^ p := Nat.pow_pos (by decide)
  have h3 : (2 : Int) ^ p = ((2 ^ p : Nat) : Int) := by exact_mod_cast rfl
  have h4 : (2 : Nat) ^ 10 = 1024 := by decide
  refine ⟨by omega, by omega, h3, by omega⟩

set_option maxHeartbeats 2000000 in
theorem setsWhere_any (p : Nat) (fn : FuncId) (lb : Array Value) (P : Nat → Bool) (w : World) (hp : p ≤ 10) (hen : EnterOk Try.prog fn) (hP : PredN fn lb P (2 ^ p) w) :
    Calls Try.prog 70 #[.int .i64 p, .func (.func fn) #[] lb] w fun e w' => ∃ g cap, e = .returned (.slice (some ⟨g, 0, none⟩) ((List.range (2 ^ p)).filter P).length cap) ∧ Ext w w' ∧
      OwnS w.heap.size w' g cap ((List.range (2 ^ p)).filter P) := by
  have hent : ∀ args w, (callFunc fn args).run Try.prog w = .ok (.enter fn args) w := hen
  have HP := Lib.hid hP
  obtain ⟨q1, q2, q3, q4⟩ := pow10N hp
  clear hP hen
  generalize hN : 2 ^ p = N at *
  have HN := Lib.hid hN
  clear hN
  go_enter Try.func70, Try.ntmps70
  go_wp2_with fail
  go_loopw [10, 5] (fun i v wr => ∃ (k g cap : Nat) (xs : List Nat), k ≤ N ∧ i = .int .i64 k ∧ v = .slice (some ⟨g, 0, none⟩) xs.length cap ∧ xs.length ≤ k ∧ Hid (xs = (List.range k).filter P) ∧
      OwnS w.heap.size wr g cap xs ∧ Ext w wr) (fun i _ _ => N - (intOf i).toNat)
  case atStart => exact ⟨0, w.heap.size, 0, [], Nat.zero_le _, rfl, rfl, Nat.le_refl _, rfl, World.ownsRow_lit w #[] 0 (Nat.le_refl _) (by decide) rfl, Ext.alloc _ _⟩
  case round =>
    obtain ⟨k, g, cap, xs, hk, rfl, rfl, hxl, HXS, own, X⟩ := hrel
    by_cases hlt : k < N
    · have HST := Lib.hid (range_filter_succ P k)
      have hki : (k : Int) < (2 : Int) ^ p := by rw [q3]; omega
      go_wp2_with fail
      refine (HP.out _ X k hlt).mono ?_
      rintro e w1 ⟨rfl, hx⟩
      replace own := own.ext hx
      replace X := X.trans hx
      clear hx
      cases hpk : P k
      · have HK := Lib.hid hpk
        clear hpk
        go_wp2_with fail
        go_roundw
        case rel => exact ⟨k + 1, g, cap, xs, by omega, by go_num, rfl, by omega, by show _ = _; rw [HST.out, HK.out, HXS.out]; simp, own, X⟩
        case measure => simp [intOf]; omega
      · have HK := Lib.hid hpk
        clear hpk
        go_wp2_with (at_builtin; refine wpList_push infoI64 rfl Try.underlying25 rfl rfl rfl (World.ownsRow.alloc (w := _) own _) rfl (Bx.new _ [_] _).one rfl (by omega) (by decide) (X.trans (Ext.alloc _ _)).size ?_; intro g2 cap2 w4 hg2 own2 bel2 sz2)
        go_roundw
        case rel => exact ⟨k + 1, g2, cap2, xs ++ [k], by omega, by go_num, by simp, by simp; omega, by show _ = _; rw [HST.out, HK.out, HXS.out]; simp, by unfold OwnS; rw [ups_append, List.map_append, List.length_append]; exact own2, bel2 _ (X.trans (Ext.alloc _ _))⟩
        case measure => simp [intOf]; omega
    · obtain rfl : k = N := by omega
      have hki : ¬ (k : Int) < (2 : Int) ^ p := by rw [q3]; omega
      go_wp2_with fail
      go_ret
      rw [← HXS.out]
      exact ⟨g, cap, rfl, X, own⟩

/-- What is known of a valid system's sets. -/
structure SysN (p : Nat) (ns : List Nat) : Prop where
  p1 : 1 ≤ p
  p10 : p ≤ 10
  l1 : 1 ≤ ns.length
  l64 : ns.length ≤ 64
  pos : ∀ n ∈ ns, 1 ≤ n
  lt : ∀ n ∈ ns, n < 2 ^ p
theorem SysN.of {p : Int} {zs : List Int} (h : goodI p zs = true) : SysN p.toNat (downs zs) ∧ p = (p.toNat : Int) ∧ zs = ups (downs zs) := by
  obtain ⟨h1, h2, h3, h4, h5⟩ := good_get h
  refine ⟨⟨by omega, by omega, by rw [downs_len]; omega, by rw [downs_len]; omega, fun n hn => (h5 n hn).1, fun n hn => (h5 n hn).2.1⟩, by omega, h4⟩
theorem SysN.small {p : Nat} {ns : List Nat} (h : SysN p ns) : ∀ n ∈ ns, n < 1024 := fun n hn => by
  have := h.lt n hn
  have := (pow10N h.p10).2.2.2
  omega
theorem SysN.whole {p : Nat} {ns : List Nat} (h : SysN p ns) : worksB ns (2 ^ p - 1) = true := by
  obtain ⟨n, hn⟩ : ∃ n, n ∈ ns := by
    cases ns with
    | nil => have := h.l1; simp at this
    | cons a l => exact ⟨a, by simp⟩
  exact worksB_iff.2 ⟨n, hn, by unfold hasB; rw [Nat.and_comm, and_whole (h.lt n hn)]; simp⟩
theorem SysN.none {p : Nat} {ns : List Nat} (h : SysN p ns) : worksB ns 0 = false := by
  unfold worksB
  rw [List.any_eq_false]
  intro n hn
  have := h.pos n hn
  unfold hasB
  simp
  omega

set_option maxRecDepth 100000 in
set_option maxHeartbeats 2000000 in
theorem cuts1_any (p s : Nat) (v : Value) (ns : List Nat) (blk : Nat) (w : World) (hbx : Bx w blk [.int .i64 p, v]) (r : RdI w v (ups ns)) (h : SysN p ns) (hs : s < 2 ^ p) :
    Calls Try.prog 96 #[.int .i64 s, .pointer (some ⟨blk, 0, none⟩)] w fun e w' => e = .returned (.bool (cutB p ns s)) ∧ Ext w w' := by
  have r' := r
  obtain ⟨a1, c1, rfl, -, -⟩ := RdN_slice r
  obtain ⟨q1, q2, q3, q4⟩ := pow10N h.p10
  have hp1 := h.p1
  have hp10 := h.p10
  have HA := Lib.hid (fun W v => sysAll_any (p : Int) v W (by omega) (by omega))
  have hcut : Hid (cutB p ns s = !worksB ns (2 ^ p - 1 - s)) := rfl
  have HW := Lib.hid (fun W (x : Ext w W) => works_any (p : Int) (2 ^ p - 1 - s) (.slice a1 ns.length c1) ns W (r'.ext x) (fun n hn => by have := h.small n hn; omega) (by omega))
  have hz : bits .andNot .i64 ((2 ^ p - 1 : Nat) : Int) (s : Int) = ((2 ^ p - 1 - s : Nat) : Int) := by
    rw [bits_andNot _ _ (by omega) (by omega), and_whole hs]
  have hc : ((2 : Int) ^ (p : Int).toNat - 1) = ((2 ^ p - 1 : Nat) : Int) := by
    rw [Int.toNat_natCast, q3]; omega
  rw [hc] at HA
  generalize 2 ^ p - 1 - s = c at *
  generalize 2 ^ p - 1 = m at *
  generalize worksB ns c = b at *
  obtain ⟨k0, k1⟩ := hbx.two
  have hbl := hbx.1
  go_enter Try.func96, Try.ntmps96
  go_wp2_with fail
  refine wp_region_rel 7 (fun i v => match i with | 2 => v = .int .i64 m | _ => v = .bool b) (fun _ _ _ => True) (by kernel_rfl) (by kernel_rfl) (by kernel_rfl) ?_
  dsimp only [List.take, List.drop, List.length]
  refine LX_det (.agg #[.int .i64 p, .slice a1 ns.length c1]) (by kernel_rfl) rfl (fun w' hx _ => ?_) ?_
  · obtain ⟨m0, m1⟩ := (hbx.ext hx).two
    go_simp
  refine LX_det (.agg #[.int .i64 p, .slice a1 ns.length c1]) (by kernel_rfl) rfl (fun w' hx _ => ?_) ?_
  · obtain ⟨m0, m1⟩ := (hbx.ext hx).two
    go_simp
  refine LX_call (by kernel_rfl) rfl (fun _ => St.top) (fun w' hx _ => ?_) ?_
  · go_simp
    refine UponC.enter ((HA.out _ _).mono ?_)
    rintro e w'' ⟨rfl, hx'⟩
    exact ⟨_, rfl, hx', rfl, trivial⟩
  rintro _ rfl
  refine LX_det (.int .i64 s) (by kernel_rfl) rfl (fun w' hx _ => ?_) ?_
  · go_simp
  refine LX_det (.int .i64 c) (by kernel_rfl) rfl (fun w' hx _ => ?_) ?_
  · go_simp
  refine LX_call (by kernel_rfl) rfl (fun _ => St.top) (fun w' hx _ => ?_) ?_
  · go_simp
    refine UponC.enter ((HW.out _ hx).mono ?_)
    rintro e w'' ⟨rfl, hx'⟩
    exact ⟨_, rfl, hx', rfl, trivial⟩
  rintro _ rfl
  refine LX_det (.bool (!b)) (by kernel_rfl) rfl (fun w' hx _ => ?_) ?_
  · go_simp
  refine LX_nil fun w2 hx _ => ?_
  simp only [Act.put, List.setIfInBounds_toArray, List.set_cons_succ, List.set_cons_zero]
  go_wp2_with fail
  go_ret
  exact ⟨ret_bool hcut.out.symm, hx⟩

set_option maxHeartbeats 2000000 in
theorem cuts_any (p : Nat) (v : Value) (ns : List Nat) (w : World) (r : RdI w v (ups ns)) (h : SysN p ns) :
    Calls Try.prog 44 #[.agg #[.int .i64 p, v]] w fun e w' => ∃ g cap, e = .returned (.slice (some ⟨g, 0, none⟩) (cutsS p ns).length cap) ∧ Ext w w' ∧ OwnS w.heap.size w' g cap (cutsS p ns) := by
  have r' := r
  obtain ⟨a1, c1, rfl, -, -⟩ := RdN_slice r
  have bx : Bx (w.alloc (.cells #[.int .i64 p, .slice a1 ns.length c1] 27)) w.heap.size [.int .i64 p, .slice a1 ns.length c1] := Bx.new _ _ _
  obtain ⟨q1, q2, q3, q4⟩ := pow10N h.p10
  have HS := Lib.hid (setsWhere_any p 96 #[.pointer (some ⟨w.heap.size, 0, none⟩)] (cutB p ns) _ h.p10 (enterOk Try.func96 (by kernel_rfl) rfl)
    (fun w' hx s hs => cuts1_any p s _ ns w.heap.size w' (bx.ext hx) (r'.ext ((Ext.alloc _ _).trans hx)) h hs))
  have hlt : ∀ z ∈ (List.range (2 ^ p)).filter (cutB p ns), z < 1048577 := fun z hz => by rw [List.mem_filter, List.mem_range] at hz; omega
  have hself : leastN ((List.range (2 ^ p)).filter (cutB p ns)) = cutsS p ns := by
    unfold leastN
    rw [setsOf_self hlt (asc_filter (asc_range _)), ← cuts_same (by have := h.p10; omega) h.whole]; rfl
  have hne : 0 < ((List.range (2 ^ p)).filter (cutB p ns)).length := by
    refine List.length_pos_of_mem (a := 2 ^ p - 1) (List.mem_filter.2 ⟨List.mem_range.2 (by omega), ?_⟩)
    unfold cutB
    rw [Nat.sub_self, h.none]; rfl
  have hle : ((List.range (2 ^ p)).filter (cutB p ns)).length ≤ 1048576 := Nat.le_trans (List.length_filter_le _ _) (by rw [List.length_range]; omega)
  have HSELF := Lib.hid hself
  clear hself
  generalize (List.range (2 ^ p)).filter (cutB p ns) = xs at *
  have HLT := Lib.hid hlt
  clear hlt q1 q2 q3 q4
  go_enter Try.func44, Try.ntmps44
  go_wp2_with fail
  refine HS.out.mono ?_
  rintro e w1 ⟨g, cap, rfl, X, own⟩
  go_wp2_with fail
  refine (least_any _ xs w1 own.rd hne hle HLT.out).mono ?_
  rintro e w2 ⟨g2, cap2, rfl, X2, own2⟩
  rw [HSELF.out] at own2 ⊢
  go_wp2_with fail
  go_ret
  have X1 := (Ext.alloc w (.cells #[.int .i64 p, .slice a1 ns.length c1] 27)).trans X
  exact ⟨g2, cap2, rfl, X1.trans X2, own2.mono X1.size⟩
end Go.Proofs.Ytgmdoboeenpjpaa
/- The cuts of a system as the reference finds them; CutsOf and OtherSystem, both sides. Condition: lists of ints that can be read. -/
namespace Go.Proofs.Ytgmdoboeenpjpaa
open Go Go.RowKit Go.ChangeShapes Go.WideShapes Go.ChangeAt

attribute [local irreducible] LX

theorem and_two_pow (s j : Nat) : s &&& 2 ^ j = if s.testBit j then 2 ^ j else 0 := by
  apply Nat.eq_of_testBit_eq; intro i
  rw [Nat.testBit_and, Nat.testBit_two_pow]
  by_cases hj : j = i
  · subst hj; cases h : s.testBit j <;> simp [h]
  · cases h : s.testBit j <;> simp [h, hj]
/-- A cut, and none of the first j parts can be left out. -/
def cutJ (p : Nat) (ns : List Nat) (s j : Nat) : Bool := cutB p ns s && (List.range j).all fun b => !(s.testBit b) || worksB ns (2 ^ p - 1 - (s - 2 ^ b))
theorem cutJ_succ (p : Nat) (ns : List Nat) (s j : Nat) : cutJ p ns s (j + 1) = (cutJ p ns s j && (!(s.testBit j) || worksB ns (2 ^ p - 1 - (s - 2 ^ j)))) := by
  unfold cutJ
  rw [List.range_succ, List.all_append, Bool.and_assoc]; simp
theorem cutJ_no {p : Nat} {ns : List Nat} {s j k : Nat} (h : cutJ p ns s j = false) (hk : j ≤ k) : cutJ p ns s k = false := by
  induction k with
  | zero => have : j = 0 := by omega
            subst this; exact h
  | succ k ih =>
    rcases Nat.lt_or_ge j (k + 1) with h1 | h1
    · rw [cutJ_succ, ih (by omega), Bool.false_and]
    · have : j = k + 1 := by omega
      subst this; exact h

end Go.Proofs.Ytgmdoboeenpjpaa
/- CutsOf and OtherSystem, both sides. Condition: lists of ints that can be read. -/
namespace Go.Proofs.Ytgmdoboeenpjpaa
open Go Go.RowKit Go.ChangeShapes Go.WideShapes Go.ChangeAt

theorem LX_detA {P : Program} {ops : Array Oper} {w0 : World} {SC : Nat → Value → Prop} {AC : Nat → Value → World → Prop} {Q : Act → World → Prop} {i : Nat} {o : Oper} {rest : List Oper} {Γ : Tmp → World → Prop} {a : Act} (v : Value) (A : Value → World → Prop) (hA : ∀ v, St (A v))
    (hw : Region.wanted o (yielded ops a.tmps) = true) (hc : isCallB o = false)
    (hY : ∀ w, Ext w0 w → (∀ s ∈ o.looksAt ops, Γ s w) → (execOp a.eval o).run P w = .ok (.value v) w ∧ A v w) (hn : LX P ops w0 SC AC Q (i + 1) rest (upC Γ o.dst (A v)) (a.put o.dst v)) : LX P ops w0 SC AC Q i (o :: rest) Γ a := by
  unfold LX opR; rw [if_pos hw, if_neg (by simp [hc])]
  exact ⟨fun u => u = v, A, hA, fun w hx hg => by rw [(hY w hx hg).1]; exact ⟨Ext.refl _, rfl, (hY w hx hg).2⟩, fun u hu => by subst hu; exact hn⟩

attribute [local irreducible] LX

theorem cutsS_facts {p : Nat} {ns : List Nat} (h : SysN p ns) : (cutsS p ns).Pairwise (· < ·) ∧ anti (cutsS p ns) = true ∧ 0 < (cutsS p ns).length ∧ (∀ z ∈ cutsS p ns, z < 2 ^ p) ∧ (cutsS p ns).length ≤ 1024 := by
  have hs := cuts_same (by have := h.p10; omega) h.whole
  have hN0 : 0 < 2 ^ p := Nat.pow_pos (by decide)
  have hb := (pow10N h.p10).2.2.2
  refine ⟨asc_filter (asc_range _), ?_, ?_, fun z hz => ?_, ?_⟩
  · rw [← hs]; exact minL_anti _
  · rw [← hs]
    obtain ⟨q, hq, -⟩ := minL_below (zs := (List.range (2 ^ p)).filter (cutB p ns)) (s := 2 ^ p - 1) (List.mem_filter.2 ⟨List.mem_range.2 (by omega), by unfold cutB; rw [Nat.sub_self, h.none]; rfl⟩)
    exact List.length_pos_of_mem hq
  · unfold cutsS at hz; rw [List.mem_filter, List.mem_range] at hz; exact hz.1
  · unfold cutsS
    exact Nat.le_trans (List.length_filter_le _ _) (by rw [List.length_range]; exact hb)
theorem cutsS_least {p : Nat} {ns : List Nat} (h : SysN p ns) : leastN (cutsS p ns) = cutsS p ns := by
  obtain ⟨h1, h2, h3, h4, h5⟩ := cutsS_facts h
  have hb := (pow10N h.p10).2.2.2
  unfold leastN
  rw [setsOf_self (fun z hz => by have := h4 z hz; omega) h1, minL_of_anti h2]

def cutsO (p : Int) (zs : List Int) : Option (List Int) := if sysB p zs then some (ups (cutsS p.toNat (downs zs))) else none
def otherO (p : Int) (zs : List Int) : Option (Int × List Int) := if sysB p zs then sysO p (ups (cutsS p.toNat (downs zs))) else none
theorem cutsO_len (p : Int) (zs : List Int) : ((cutsO p zs).getD []).length ≤ 1048576 := by
  unfold cutsO
  split
  · rename_i h
    obtain ⟨h1, -, -⟩ := SysN.of (sys_good' h)
    have := (cutsS_facts h1).2.2.2.2
    simp only [Option.getD_some, ups_len]; omega
  · simp



def OlV (cs : List Nat) (v : Value) : Prop := ∃ g cap, v = .slice (some ⟨g, 0, none⟩) cs.length cap
def OlW (B : Nat) (cs : List Nat) (v : Value) (w : World) : Prop := ∀ g cap, v = .slice (some ⟨g, 0, none⟩) cs.length cap → OwnS B w g cap cs
theorem OlW.st (B : Nat) (cs : List Nat) (v : Value) : St (OlW B cs v) := fun _ _ h hx g cap e => (h g cap e).ext hx
def YtV (q : Int × List Int) (v : Value) : Prop := ∃ g cap, v = .tuple #[.agg #[.int .i64 q.1, .slice (some ⟨g, 0, none⟩) q.2.length cap], .bool true]
def YtW (B : Nat) (q : Int × List Int) (v : Value) (w : World) : Prop := ∀ g cap, v = .tuple #[.agg #[.int .i64 q.1, .slice (some ⟨g, 0, none⟩) q.2.length cap], .bool true] →
  w.ownsRow B 2 1 (.slice (some ⟨g, 0, none⟩) q.2.length cap) q.2.length (q.2.map (Value.int .i64))
theorem YtW.st (B : Nat) (q : Int × List Int) (v : Value) : St (YtW B q v) := fun _ _ h hx g cap e => own_ext' (h g cap e) hx


end Go.Proofs.Ytgmdoboeenpjpaa
/- How many parts a set has, both sides. Condition: sets below 1024. -/
namespace Go.Proofs.Ytgmdoboeenpjpaa
open Go Go.RowKit Go.ChangeShapes Go.WideShapes Go.ChangeAt

attribute [local irreducible] LX

theorem wrapU_nat (n : Nat) (h : n < 18446744073709551616) : IntKind.u64.wrap (n : Int) = (n : Int) := by
  have e : IntKind.u64.wrap (n : Int) = (n : Int) % 18446744073709551616 := by simp [IntKind.wrap, IntKind.bits, IntKind.signed]
  rw [e]; omega
theorem bitsU_and (a b : Nat) (ha : a < 18446744073709551616) (hb : b < 18446744073709551616) : bits .and .u64 (a : Int) (b : Int) = ((a &&& b : Nat) : Int) := by
  show IntKind.u64.wrap ((BitVec.ofInt 64 (a : Int) &&& BitVec.ofInt 64 (b : Int)).toNat : Int) = _
  rw [BitVec.toNat_and, ofInt_nat a (by omega), ofInt_nat b (by omega)]
  exact wrapU_nat _ (Nat.lt_of_le_of_lt Nat.and_le_left ha)

def oc1 (s : Nat) : Nat := ((s / 2) &&& 6148914691236517205) + (s &&& 6148914691236517205)
def oc2 (s : Nat) : Nat := ((s / 4) &&& 3689348814741910323) + (s &&& 3689348814741910323)
def oc3 (s : Nat) : Nat := (s / 16 + s) &&& 1085102592571150095
def oc4 (s : Nat) : Nat := s + s / 256
def oc5 (s : Nat) : Nat := s + s / 65536
def oc6 (s : Nat) : Nat := s + s / 4294967296
theorem oc_all : ∀ s : Fin 1024, (oc6 (oc5 (oc4 (oc3 (oc2 (oc1 s.val)))))) &&& 127 = popF 10 s.val := by decide +kernel
theorem oc_pop {s : Nat} (hs : s < 1024) : (oc6 (oc5 (oc4 (oc3 (oc2 (oc1 s)))))) &&& 127 = pop s := by
  rw [oc_all ⟨s, hs⟩]
  exact (popF_more 10 64 s (by have : (2 : Nat) ^ 10 = 1024 := by decide
                               omega) (by decide)).symm
theorem oc_le1 (s : Nat) : oc1 s ≤ 2 * s := by unfold oc1; have := @Nat.and_le_left (s / 2) 6148914691236517205; have := @Nat.and_le_left s 6148914691236517205; omega
theorem oc_le2 (s : Nat) : oc2 s ≤ 2 * s := by unfold oc2; have := @Nat.and_le_left (s / 4) 3689348814741910323; have := @Nat.and_le_left s 3689348814741910323; omega
theorem oc_le3 (s : Nat) : oc3 s ≤ 2 * s := by unfold oc3; have := @Nat.and_le_left (s / 16 + s) 1085102592571150095; omega
theorem oc_le4 (s : Nat) : oc4 s ≤ 2 * s := by unfold oc4; omega
theorem oc_le5 (s : Nat) : oc5 s ≤ 2 * s := by unfold oc5; omega
theorem oc_le6 (s : Nat) : oc6 s ≤ 2 * s := by unfold oc6; omega

set_option maxHeartbeats 2000000 in
theorem onesCount_any (s : Nat) (w : World) (hs : s < 1024) : Calls Try.prog 102 #[.int .u64 s] w fun e w' => e = .returned (.int .i64 (pop s)) ∧ w = w' := by
  have HP := Lib.hid (oc_pop hs)
  have l1 := oc_le1 s
  have l2 := oc_le2 (oc1 s)
  have l3 := oc_le3 (oc2 (oc1 s))
  have l4 := oc_le4 (oc3 (oc2 (oc1 s)))
  have l5 := oc_le5 (oc4 (oc3 (oc2 (oc1 s))))
  have l6 := oc_le6 (oc5 (oc4 (oc3 (oc2 (oc1 s)))))
  generalize e1 : oc1 s = x1 at *
  unfold oc1 at e1
  generalize e2 : oc2 x1 = x2 at *
  unfold oc2 at e2
  generalize e3 : oc3 x2 = x3 at *
  unfold oc3 at e3
  generalize e4 : oc4 x3 = x4 at *
  unfold oc4 at e4
  generalize e5 : oc5 x4 = x5 at *
  unfold oc5 at e5
  generalize e6 : oc6 x5 = x6 at *
  unfold oc6 at e6
  have b1 : bits .and .u64 ((s / 2 : Nat) : Int) 6148914691236517205 = _ := bitsU_and (s / 2) 6148914691236517205 (by omega) (by decide)
  have b2 : bits .and .u64 (s : Int) 6148914691236517205 = _ := bitsU_and s 6148914691236517205 (by omega) (by decide)
  have b3 : bits .and .u64 ((x1 / 4 : Nat) : Int) 3689348814741910323 = _ := bitsU_and (x1 / 4) 3689348814741910323 (by omega) (by decide)
  have b4 : bits .and .u64 (x1 : Int) 3689348814741910323 = _ := bitsU_and x1 3689348814741910323 (by omega) (by decide)
  have b5 : bits .and .u64 ((x2 / 16 + x2 : Nat) : Int) 1085102592571150095 = _ := bitsU_and (x2 / 16 + x2) 1085102592571150095 (by omega) (by decide)
  have b6 : bits .and .i64 (x6 : Int) 127 = _ := bits_and x6 127 (by omega) (by decide)
  rw [HP.out] at b6
  have c1 : IntKind.u64.wrap (bits .and .u64 ((s : Int) / 2) 6148914691236517205 + bits .and .u64 (s : Int) 6148914691236517205) = (x1 : Int) := by
    rw [show ((s : Int) / 2) = ((s / 2 : Nat) : Int) by omega, b1, b2, ← Int.natCast_add, e1]; exact wrapU_nat _ (by omega)
  have c2 : IntKind.u64.wrap (bits .and .u64 ((x1 : Int) / 4) 3689348814741910323 + bits .and .u64 (x1 : Int) 3689348814741910323) = (x2 : Int) := by
    rw [show ((x1 : Int) / 4) = ((x1 / 4 : Nat) : Int) by omega, b3, b4, ← Int.natCast_add, e2]; exact wrapU_nat _ (by omega)
  have c3 : bits .and .u64 (IntKind.u64.wrap ((x2 : Int) / 16 + (x2 : Int))) 1085102592571150095 = (x3 : Int) := by
    rw [show ((x2 : Int) / 16 + (x2 : Int)) = ((x2 / 16 + x2 : Nat) : Int) by omega, wrapU_nat _ (by omega), b5, e3]
  have c4 : IntKind.u64.wrap ((x3 : Int) + (x3 : Int) / 256) = (x4 : Int) := by
    rw [show ((x3 : Int) + (x3 : Int) / 256) = (x4 : Int) by omega]; exact wrapU_nat _ (by omega)
  have c5 : IntKind.u64.wrap ((x4 : Int) + (x4 : Int) / 65536) = (x5 : Int) := by
    rw [show ((x4 : Int) + (x4 : Int) / 65536) = (x5 : Int) by omega]; exact wrapU_nat _ (by omega)
  have c6 : IntKind.u64.wrap ((x5 : Int) + (x5 : Int) / 4294967296) = (x6 : Int) := by
    rw [show ((x5 : Int) + (x5 : Int) / 4294967296) = (x6 : Int) by omega]; exact wrapU_nat _ (by omega)
  have hx6 : x6 ≤ 65536 := by omega
  clear e1 e2 e3 e4 e5 e6 l1 l2 l3 l4 l5 l6 b1 b2 b3 b4 b5 HP
  go_enter Try.func102, Try.ntmps102
  go_wp2_with fail
  go_ret
  exact ⟨rfl, rfl⟩

theorem sizeOf_any (s : Nat) (w : World) (hs : s < 1024) : Calls Try.prog 72 #[.int .i64 s] w fun e w' => e = .returned (.int .i64 (pop s)) ∧ w = w' := by
  have hw := wrapU_nat s (by omega)
  go_enter Try.func72, Try.ntmps72
  go_wp2_with fail
  refine (onesCount_any s w hs).mono ?_
  rintro e w1 ⟨rfl, rfl⟩
  go_wp2_with fail
  go_ret
  exact ⟨rfl, rfl⟩

set_option maxHeartbeats 1000000 in
theorem l03Size_any (s : Nat) (w : World) (hs : s < 1024) : Calls Try.prog 51 #[.int .i64 s] w fun e w' => e = .returned (.int .i64 (pop s)) ∧ w = w' := by
  have hple : pop s ≤ 64 := pop_le s 64 (by have : (2 : Nat) ^ 64 = 18446744073709551616 := by decide
                                            omega) (by decide)
  go_enter Try.func51, Try.ntmps51
  go_wp2_with fail
  go_loopw [0, 3] (fun a b wr => ∃ x n : Nat, a = .int .i64 x ∧ b = .int .i64 n ∧ x ≤ s ∧ Hid (n + pop x = pop s) ∧ n ≤ 64 ∧ wr = w) (fun a _ _ => (intOf a).toNat)
  case atStart => exact ⟨s, 0, rfl, rfl, Nat.le_refl _, Nat.zero_add _, by omega, rfl⟩
  case round =>
    obtain ⟨x, n, rfl, rfl, hx, HN, hn, rfl⟩ := hrel
    by_cases h0 : 0 < x
    · have hph := pop_half x (by omega)
      have HN2 : Hid (n + x % 2 + pop (x / 2) = pop s) := by show _ = _; have := HN.out; omega
      have hn2 : n + x % 2 ≤ 64 := by have := HN2.out; omega
      have hxi : (0 : Int) < (x : Int) := by omega
      clear hph
      go_wp2_with fail
      go_roundw
      case rel => exact ⟨x / 2, n + x % 2, by go_num, by go_num, by omega, HN2, hn2, by first | rfl | trivial⟩
      case measure => simp [intOf]; omega
    · obtain rfl : x = 0 := by omega
      have HE : Hid (n = pop s) := by show _ = _; have := HN.out; rw [pop_zero] at this; omega
      go_wp2_with fail
      go_ret
      exact ⟨by rw [← HE.out]; rfl, rfl⟩
end Go.Proofs.Ytgmdoboeenpjpaa
/- VoteSystem, both sides. No condition. -/
namespace Go.Proofs.Ytgmdoboeenpjpaa
open Go Go.RowKit Go.ChangeShapes Go.WideShapes Go.ChangeAt

attribute [local irreducible] LX

theorem pop_whole : ∀ v : Fin 11, pop (2 ^ v.val - 1) = v.val := by decide +kernel
theorem vote_has {p v : Nat} (hp : p ≤ 10) (h1 : 1 ≤ v) (hv : v ≤ p) : 0 < (voteL p v).length := by
  refine List.length_pos_of_mem (a := 2 ^ v - 1) (List.mem_filter.2 ⟨List.mem_range.2 ?_, ?_⟩)
  · have : 2 ^ v ≤ 2 ^ p := Nat.pow_le_pow_right (by decide) hv
    have : 0 < 2 ^ v := Nat.pow_pos (by decide)
    omega
  · rw [decide_eq_true_eq]; exact pop_whole ⟨v, by omega⟩
def voteOk (p v : Int) : Bool := inB p 1 10 && inB v 1 p
def voteO (p v : Int) : Option (Int × List Int) := if voteOk p v then sysO p (ups (voteL p.toNat v.toNat)) else none

set_option maxHeartbeats 1000000 in
theorem vote1_any (b s v : Nat) (w : World) (hc : w.cell? ⟨b, 0, none⟩ = some (.int .i64 v)) (hs : s < 1024) :
    Calls Try.prog 71 #[.int .i64 s, .pointer (some ⟨b, 0, none⟩)] w fun e w' => e = .returned (.bool (decide (pop s = v))) ∧ Ext w w' := by
  have HB : Hid (((pop s : Int) == (v : Int)) = decide (pop s = v)) := by show _ = _; rw [Bool.eq_iff_iff]; simp; omega
  have hbl : b < w.heap.size := World.block_lt_of_cell? w _ hc
  have HS := Lib.hid (fun W => sizeOf_any s W hs)
  generalize pop s = n at *
  go_enter Try.func71, Try.ntmps71
  go_wp2_with fail
  refine wp_region_rel 4 (fun _ u => u = .int .i64 n) (fun _ _ _ => True) (by kernel_rfl) (by kernel_rfl) (by kernel_rfl) ?_
  dsimp only [List.take, List.drop, List.length]
  refine LX_det (.int .i64 s) (by kernel_rfl) rfl (fun w' hx _ => ?_) ?_
  · go_simp
  refine LX_call (by kernel_rfl) rfl (fun _ => St.top) (fun w' hx _ => ?_) ?_
  · go_simp
    refine UponC.enter ((HS.out _).mono ?_)
    rintro e w'' ⟨rfl, rfl⟩
    exact ⟨_, rfl, Ext.refl _, rfl, trivial⟩
  rintro _ rfl
  refine LX_det (.int .i64 v) (by kernel_rfl) rfl (fun w' hx _ => ?_) ?_
  · have m0 := (Below.cell hx (p := ⟨b, 0, none⟩) hbl).trans hc
    go_simp
  refine LX_det (.bool ((n : Int) == (v : Int))) (by kernel_rfl) rfl (fun w' hx _ => ?_) ?_
  · go_simp
  refine LX_nil fun w2 hx _ => ?_
  simp only [Act.put, List.setIfInBounds_toArray, List.set_cons_succ, List.set_cons_zero]
  go_wp2_with fail
  go_ret
  exact ⟨ret_bool HB.out, hx⟩

set_option maxHeartbeats 4000000 in
theorem implVoteSystem_any (p v : Int) (w : World) : Calls Try.prog 24 #[.int .i64 p, .int .i64 v] w (YsPost (voteO p v) w) := by
  generalize hW0 : (w.alloc (.cells #[.int .i64 v] 2)).alloc (.cells #[.int .i64 0, .slice none 0 0] 27) = W0
  have X : Ext w W0 := hW0 ▸ (Ext.alloc _ _).trans (Ext.alloc _ _)
  have bx : Bx W0 w.heap.size [.int .i64 v] := hW0 ▸ (Bx.new _ _ _).ext (Ext.alloc _ _)
  have hbs : (w.alloc (.cells #[.int .i64 v] 2)).heap.size = w.heap.size + 1 := by simp
  have b2 : Bz W0 (w.heap.size + 1) 27 [.int .i64 0, .slice none 0 0] := by rw [← hW0, ← hbs]; exact Bz.new _ _ _
  have hle1 : w.heap.size ≤ w.heap.size + 1 := Nat.le_succ _
  clear hbs
  cases hp : inB p 1 10
  · have HO : Hid (voteO p v = none) := by show _ = _; unfold voteO voteOk; rw [hp]; rfl
    have HP := Lib.hid hp
    clear hp
    have k9 := bx.one
    go_enter Try.func24, Try.ntmps24
    go_wp2_with fail
    try rw [hW0]
    refine (areParts_eq HP.out _).mono ?_
    rintro e w1 ⟨rfl, rfl⟩
    obtain ⟨k0, k1⟩ := b2.bx.two
    have z2 := b2.lt
    have f0 := b2.frozen (j := 0)
    have f1 := b2.frozen (j := 1)
    clear b2 bx hW0 k9
    go_wp2_with fail
    refine bodyPost_ret (v := .tuple #[.agg #[.int .i64 0, .slice none 0 0], .bool false]) (by simp [results, Try.results24, go_sem, k0, k1, f0, f1]) rfl ?_
    unfold YsPost
    rw [HO.out]
    exact ⟨(X.setCell hle1 _).setCell hle1 _, rfl⟩
  have hp2 := inB_iff.1 hp
  cases hv : inB v 1 p
  · have HO : Hid (voteO p v = none) := by show _ = _; unfold voteO voteOk; rw [hv, Bool.and_false]; rfl
    have HP := Lib.hid hp
    have HV := Lib.hid hv
    clear hp hv
    have k9 := bx.one
    go_enter Try.func24, Try.ntmps24
    go_wp2_with fail
    try rw [hW0]
    refine (areParts_eq HP.out _).mono ?_
    rintro e w1 ⟨rfl, rfl⟩
    clear hW0
    go_wp2_with fail
    refine (within_eq HV.out _).mono ?_
    rintro e w2 ⟨rfl, rfl⟩
    obtain ⟨k0, k1⟩ := b2.bx.two
    have z2 := b2.lt
    have f0 := b2.frozen (j := 0)
    have f1 := b2.frozen (j := 1)
    clear b2 bx k9
    go_wp2_with fail
    refine bodyPost_ret (v := .tuple #[.agg #[.int .i64 0, .slice none 0 0], .bool false]) (by simp [results, Try.results24, go_sem, k0, k1, f0, f1]) rfl ?_
    unfold YsPost
    rw [HO.out]
    exact ⟨(X.setCell hle1 _).setCell hle1 _, rfl⟩
  · have hv2 := inB_iff.1 hv
    obtain ⟨P, rfl⟩ := Int.eq_ofNat_of_zero_le (show 0 ≤ p by omega)
    obtain ⟨V, rfl⟩ := Int.eq_ofNat_of_zero_le (show 0 ≤ v by omega)
    have hP10 : P ≤ 10 := by omega
    have hpw := pow10N hP10
    have HO : Hid (voteO (P : Int) (V : Int) = sysO (P : Int) (ups (voteL P V))) := by show _ = _; unfold voteO voteOk; rw [hp, hv]; rfl
    have hlt : ∀ z ∈ voteL P V, z < 1048577 := fun z hz => by unfold voteL at hz; rw [List.mem_filter, List.mem_range] at hz; omega
    have hle : (voteL P V).length ≤ 1048576 := by unfold voteL; exact Nat.le_trans (List.length_filter_le _ _) (by rw [List.length_range]; omega)
    have hleast : leastN (voteL P V) = voteL P V := by
      unfold leastN
      rw [setsOf_self hlt (voteL_asc P V), minL_of_anti (voteL_anti (by omega))]
    have HIF := Lib.hid (fun W u (r : RdI W u (ups (voteL P V))) => ifSystem_any (P : Int) u (voteL P V) W r (vote_has hP10 (by omega) (by omega)) hle hlt)
    rw [hleast] at HIF
    have HSW := Lib.hid (fun W (x : Ext W0 W) => setsWhere_any P 71 #[.pointer (some ⟨w.heap.size, 0, none⟩)] (fun s => decide (pop s = V)) W hP10 (enterOk Try.func71 (by kernel_rfl) rfl)
      (fun w' hx s hs => vote1_any w.heap.size s V w' (bx.ext (x.trans hx)).one (by omega)))
    have HDEF : Hid ((List.range (2 ^ P)).filter (fun s => decide (pop s = V)) = voteL P V) := rfl
    rw [HDEF.out] at HSW
    have HP := Lib.hid hp
    have HV := Lib.hid hv
    clear hp hv hlt hle hleast HDEF hpw
    generalize voteL P V = cs at *
    have k9 := bx.one
    go_enter Try.func24, Try.ntmps24
    go_wp2_with fail
    try rw [hW0]
    refine (areParts_eq HP.out _).mono ?_
    rintro e w1 ⟨rfl, rfl⟩
    clear hW0
    go_wp2_with fail
    refine (within_eq HV.out _).mono ?_
    rintro e w2 ⟨rfl, rfl⟩
    clear k9
    go_wp2_with fail
    refine (HSW.out _ (Ext.refl _)).mono ?_
    rintro e w3 ⟨g, cap, rfl, hx, own⟩
    replace b2 := b2.ext hx
    replace X := X.trans hx
    clear hx
    go_wp2_with fail
    refine (HIF.out _ _ own.rd).mono ?_
    intro e w4 h2
    have hgt : w.heap.size + 1 < w3.heap.size := b2.lt
    generalize sysO (P : Int) (ups cs) = oo at *
    clear own bx
    obtain ⟨hxY, h2⟩ := h2
    replace b2 := b2.ext hxY
    have hszY := X.size
    replace X := X.trans hxY
    obtain ⟨k0, k1⟩ := b2.bx.two
    have z2 := b2.lt
    have f0 := b2.frozen (j := 0)
    have f1 := b2.frozen (j := 1)
    clear b2
    cases oo with
    | none =>
      simp only at h2
      subst h2
      go_wp2_with fail
      refine bodyPost_ret (v := .tuple #[.agg #[.int .i64 0, .slice none 0 0], .bool false]) (by simp [results, Try.results24, go_sem, k0, k1, f0, f1]) rfl ?_
      unfold YsPost
      rw [HO.out]
      exact ⟨(X.setCell hle1 _).setCell hle1 _, rfl⟩
    | some q =>
      obtain ⟨g2, cap2, rfl, own⟩ := h2
      obtain ⟨p0, qs⟩ := q
      have hgl := own.lt g2 rfl
      simp only at own hgl
      simp only
      go_wp2_with fail
      refine bodyPost_ret (v := .tuple #[.agg #[.int .i64 p0, .slice (some ⟨g2, 0, none⟩) qs.length cap2], .bool true]) (by simp [results, Try.results24, go_sem, k0, k1, f0, f1]) rfl ?_
      unfold YsPost
      rw [HO.out]
      refine ⟨(X.setCell hle1 _).setCell hle1 _, g2, cap2, rfl, ?_⟩
      exact World.ownsRow.mono (ownsRow_setCell_other (ownsRow_setCell_other own (by simp [Value.ownBlock]; omega) _) (by simp [Value.ownBlock]; omega) _) hszY

/-- A box of the call's own that holds a system. -/
def OwB (w : World) (b : Nat) (p : Int) (v : Value) : Prop := w.ownsRow b 27 2 (.slice (some ⟨b, 0, none⟩) 1 1) 1 [.int .i64 p, v]
theorem OwB.new (w : World) (p : Int) (v : Value) : OwB (w.alloc (.cells #[.int .i64 p, v] 27)) w.heap.size p v :=
  World.ownsRow_lit w #[.int .i64 p, v] 1 (Nat.le_refl _) (by decide) rfl
theorem OwB.two {w : World} {b : Nat} {p : Int} {v : Value} (h : OwB w b p v) : w.cell? ⟨b, 0, none⟩ = some (.int .i64 p) ∧ w.cell? ⟨b, 1, none⟩ = some v ∧ w.frozen? ⟨b, 0, none⟩ = false ∧ w.frozen? ⟨b, 1, none⟩ = false ∧ b < w.heap.size :=
  ⟨World.ownsRow.cellAt h 0 (by decide), World.ownsRow.cellAt h 1 (by decide), World.ownsRow.frozenAt h 0, World.ownsRow.frozenAt h 1, (World.ownsRow.lt h b rfl).2⟩
theorem OwB.below {B : Nat} {w w' : World} {b : Nat} {p : Int} {v : Value} (h : OwB w b p v) (hx : Below B w w') (hb : b < B) : OwB w' b p v := by
  obtain ⟨hl, h⟩ := h
  refine ⟨hl, ?_⟩
  rcases h with h' | ⟨g, cap, cur, e, h1, h2, h3⟩
  · exact .inl h'
  · refine .inr ⟨g, cap, cur, e, h1, ?_, h3⟩
    cases e
    rw [hx.block b hb]; exact h2
theorem OwB.ext {w w' : World} {b : Nat} {p : Int} {v : Value} (h : OwB w b p v) (hx : Ext w w') : OwB w' b p v := h.below hx h.two.2.2.2.2
theorem OwB.set {w : World} {b : Nat} {p : Int} {v u : Value} (h : OwB w b p v) : OwB (w.setCell ⟨b, 1, none⟩ u) b p u := (World.ownsRow.stored h 1 u).1
theorem own_shape {w : World} {B : Nat} {e : TypeId} {v : Value} {n : Nat} {xs : List Value} (h : w.ownsRow B e 1 v n xs) : ∃ a c, v = .slice a n c := by
  obtain ⟨hl, h⟩ := h
  rcases h with ⟨h', h2⟩ | ⟨g, cap, cur, e, h1, h2, h3⟩
  · exact ⟨none, 0, by rw [h']; rw [h2]⟩
  · exact ⟨_, _, e⟩
theorem vote_range (p v k : Nat) (hv : 1 ≤ v) : (List.range k).filter (fun s => decide (1 ≤ s) && decide (pop s = v)) = (List.range k).filter (fun s => decide (pop s = v)) := by
  apply List.filter_congr
  intro s _
  by_cases h : pop s = v
  · have : s ≠ 0 := fun e => by subst e; rw [pop_zero] at h; omega
    simp [h]; omega
  · simp [h]

end Go.Proofs.Ytgmdoboeenpjpaa
