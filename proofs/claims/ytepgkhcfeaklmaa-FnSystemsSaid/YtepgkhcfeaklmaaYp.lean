
/- CutsOf and OtherSystem, both sides. Condition: lists of ints that can be read. -/
import Derived.Test.YtepgkhcfeaklmaaYo
namespace Go.Proofs.Ytepgkhcfeaklmaa
open Go Go.RowKit Go.ChangeShapes Go.WideShapes Go.ChangeAt

theorem LX_detA {P : Program} {ops : Array Oper} {w0 : World} {SC : Nat → Value → Prop} {AC : Nat → Value → World → Prop} {Q : Act → World → Prop} {i : Nat} {o : Oper} {rest : List Oper} {Γ : Tmp → World → Prop} {a : Act} (v : Value) (A : Value → World → Prop) (hA : ∀ v, St (A v))
    (hw : Region.wanted o (yielded ops a.tmps) = true) (hc : isCallB o = false)
    (hY : ∀ w, Ext w0 w → (∀ s ∈ o.looksAt ops, Γ s w) → (execOp a.eval o).run P w = .ok (.value v) w ∧ A v w) (hn : LX P ops w0 SC AC Q (i + 1) rest (upC Γ o.dst (A v)) (a.put o.dst v)) : LX P ops w0 SC AC Q i (o :: rest) Γ a := by
  unfold LX opR; rw [if_pos hw, if_neg (by simp [hc])]
  exact ⟨fun u => u = v, A, hA, fun w hx hg => by rw [(hY w hx hg).1]; exact ⟨Ext.refl _, rfl, (hY w hx hg).2⟩, fun u hu => by subst hu; exact hn⟩

attribute [local irreducible] LX

theorem cutsS_facts {p : Nat} {ns : List Nat} (h : SysN p ns) : (cutsS p ns).Pairwise (· < ·) ∧ anti (cutsS p ns) = true ∧ 0 < (cutsS p ns).length ∧ (∀ z ∈ cutsS p ns, z < 2 ^ p) ∧ (cutsS p ns).length ≤ 1024 := by
  have hs := cuts_same (by have := h.p10; omega) h.whole
  have hN0 : 0 < 2 ^ p := Nat.pow_pos (by decide)
  have hb := (pow10N h.p10).2.2.2
  refine ⟨asc_filter (asc_range _), ?_, ?_, fun z hz => ?_, ?_⟩
  · rw [← hs]; exact minL_anti _
  · rw [← hs]
    obtain ⟨q, hq, -⟩ := minL_below (zs := (List.range (2 ^ p)).filter (cutB p ns)) (s := 2 ^ p - 1) (List.mem_filter.2 ⟨List.mem_range.2 (by omega), by unfold cutB; rw [Nat.sub_self, h.none]; rfl⟩)
    exact List.length_pos_of_mem hq
  · unfold cutsS at hz; rw [List.mem_filter, List.mem_range] at hz; exact hz.1
  · unfold cutsS
    exact Nat.le_trans (List.length_filter_le _ _) (by rw [List.length_range]; exact hb)
theorem cutsS_least {p : Nat} {ns : List Nat} (h : SysN p ns) : leastN (cutsS p ns) = cutsS p ns := by
  obtain ⟨h1, h2, h3, h4, h5⟩ := cutsS_facts h
  have hb := (pow10N h.p10).2.2.2
  unfold leastN
  rw [setsOf_self (fun z hz => by have := h4 z hz; omega) h1, minL_of_anti h2]

def cutsO (p : Int) (zs : List Int) : Option (List Int) := if sysB p zs then some (ups (cutsS p.toNat (downs zs))) else none
def otherO (p : Int) (zs : List Int) : Option (Int × List Int) := if sysB p zs then sysO p (ups (cutsS p.toNat (downs zs))) else none
theorem cutsO_len (p : Int) (zs : List Int) : ((cutsO p zs).getD []).length ≤ 1048576 := by
  unfold cutsO
  split
  · rename_i h
    obtain ⟨h1, -, -⟩ := SysN.of (sys_good' h)
    have := (cutsS_facts h1).2.2.2.2
    simp only [Option.getD_some, ups_len]; omega
  · simp

set_option maxHeartbeats 2000000 in
theorem implCutsOf_any (p : Int) (v : Value) (zs : List Int) (w : World) (r : RdI w v zs) : Calls Try.prog 19 #[.agg #[.int .i64 p, v]] w (ZlPost (cutsO p zs) w) := by
  have r' := r
  obtain ⟨-, a1, c1, rfl, -, -, -, -⟩ := r
  have bx : Bx (w.alloc (.cells #[.int .i64 p, .slice a1 zs.length c1] 33)) w.heap.size [.int .i64 p, .slice a1 zs.length c1] := Bx.new _ _ _
  have HV := Lib.hid (fun W (x : Ext w W) => implValidSystem_any p _ zs W (r'.ext x))
  cases hv : sysB p zs
  · have HO : Hid (cutsO p zs = none) := by show _ = _; unfold cutsO; rw [hv]; rfl
    rw [hv] at HV
    clear hv
    go_enter Try.func19, Try.ntmps19
    go_wp2_with fail
    generalize hW : World.alloc w _ = W at *
    have X : Ext w W := hW ▸ Ext.alloc _ _
    generalize w.heap.size = blk at *
    clear hW
    obtain ⟨k0, k1⟩ := bx.two
    try (go_wp2_with fail)
    refine (HV.out _ X).mono ?_
    rintro e w1 ⟨rfl, hx⟩
    go_wp2_with fail
    go_ret2
    unfold ZlPost
    rw [HO.out]
    exact ⟨X.trans hx, rfl⟩
  · have HO : Hid (cutsO p zs = some (ups (cutsS p.toNat (downs zs)))) := by show _ = _; unfold cutsO; rw [hv]; rfl
    rw [hv] at HV
    obtain ⟨hs, hpn, hzn⟩ := SysN.of (sys_good' hv)
    have HC := Lib.hid (fun W (x : Ext w W) => cuts_any p.toNat (.slice a1 zs.length c1) (downs zs) W (by rw [← hzn]; exact r'.ext x) hs)
    rw [← hpn] at HC
    clear hv hs hpn hzn
    generalize cutsS p.toNat (downs zs) = cs at *
    go_enter Try.func19, Try.ntmps19
    go_wp2_with fail
    generalize hW : World.alloc w _ = W at *
    have X : Ext w W := hW ▸ Ext.alloc _ _
    have hsz : w.heap.size ≤ W.heap.size := X.size
    clear hW
    obtain ⟨k0, k1⟩ := bx.two
    try (go_wp2_with fail)
    refine (HV.out _ X).mono ?_
    rintro e w1 ⟨rfl, hx⟩
    clear k0 k1
    replace X := X.trans hx
    replace bx := bx.ext hx
    clear hx
    obtain ⟨k0, k1⟩ := bx.two
    go_wp2_with fail
    refine (HC.out _ X).mono ?_
    rintro e w2 ⟨g, cap, rfl, hx, own⟩
    go_wp2_with fail
    go_ret2
    unfold ZlPost
    rw [HO.out]
    refine ⟨X.trans hx, g, cap, by rw [ups_len]; rfl, ?_⟩
    show World.ownsRow _ _ _ _ _ (ups cs).length _
    rw [ups_len]
    exact World.ownsRow.mono own X.size


def OlV (cs : List Nat) (v : Value) : Prop := ∃ g cap, v = .slice (some ⟨g, 0, none⟩) cs.length cap
def OlW (B : Nat) (cs : List Nat) (v : Value) (w : World) : Prop := ∀ g cap, v = .slice (some ⟨g, 0, none⟩) cs.length cap → OwnS B w g cap cs
theorem OlW.st (B : Nat) (cs : List Nat) (v : Value) : St (OlW B cs v) := fun _ _ h hx g cap e => (h g cap e).ext hx
def YtV (q : Int × List Int) (v : Value) : Prop := ∃ g cap, v = .tuple #[.agg #[.int .i64 q.1, .slice (some ⟨g, 0, none⟩) q.2.length cap], .bool true]
def YtW (B : Nat) (q : Int × List Int) (v : Value) (w : World) : Prop := ∀ g cap, v = .tuple #[.agg #[.int .i64 q.1, .slice (some ⟨g, 0, none⟩) q.2.length cap], .bool true] →
  w.ownsRow B 2 1 (.slice (some ⟨g, 0, none⟩) q.2.length cap) q.2.length (q.2.map (Value.int .i64))
theorem YtW.st (B : Nat) (q : Int × List Int) (v : Value) : St (YtW B q v) := fun _ _ h hx g cap e => own_ext' (h g cap e) hx

set_option maxRecDepth 100000 in
set_option maxHeartbeats 4000000 in
theorem implOtherSystem_any (p : Int) (v : Value) (zs : List Int) (w : World) (r : RdI w v zs) : Calls Try.prog 28 #[.agg #[.int .i64 p, v]] w (YsPost (otherO p zs) w) := by
  have r' := r
  obtain ⟨-, a1, c1, rfl, -, -, -, -⟩ := r
  generalize hW0 : (w.alloc (.cells #[.int .i64 p, .slice a1 zs.length c1] 33)).alloc (.cells #[.int .i64 0, .slice none 0 0] 33) = W0
  have X : Ext w W0 := hW0 ▸ (Ext.alloc _ _).trans (Ext.alloc _ _)
  have bx : Bx W0 w.heap.size [.int .i64 p, .slice a1 zs.length c1] := hW0 ▸ (Bx.new _ _ _).ext (Ext.alloc _ _)
  have hbs : (w.alloc (.cells #[.int .i64 p, .slice a1 zs.length c1] 33)).heap.size = w.heap.size + 1 := by simp
  have b2 : Bz W0 (w.heap.size + 1) 33 [.int .i64 0, .slice none 0 0] := by rw [← hW0, ← hbs]; exact Bz.new _ _ _
  clear hbs
  have HV := Lib.hid (implValidSystem_any p _ zs W0 (r'.ext X))
  cases hv : sysB p zs
  · have HO : Hid (otherO p zs = none) := by show _ = _; unfold otherO; rw [hv]; rfl
    rw [hv] at HV
    clear hv
    obtain ⟨k0, k1⟩ := bx.two
    go_enter Try.func28, Try.ntmps28
    go_wp2_with fail
    try rw [hW0]
    refine HV.out.mono ?_
    rintro e w1 ⟨rfl, hx⟩
    clear k0 k1
    replace X := X.trans hx
    replace b2 := b2.ext hx
    have hle1 : w.heap.size ≤ w.heap.size + 1 := Nat.le_succ _
    obtain ⟨k0, k1⟩ := b2.bx.two
    have z2 := b2.lt
    have f0 := b2.frozen (j := 0)
    have f1 := b2.frozen (j := 1)
    clear b2 bx hW0
    go_wp2_with fail
    refine bodyPost_ret (v := .tuple #[.agg #[.int .i64 0, .slice none 0 0], .bool false]) (by simp [results, Try.results28, go_sem, k0, k1, f0, f1]) rfl ?_
    unfold YsPost
    rw [HO.out]
    exact ⟨(X.setCell hle1 _).setCell hle1 _, rfl⟩
  · have HO : Hid (otherO p zs = sysO p (ups (cutsS p.toNat (downs zs)))) := by show _ = _; unfold otherO; rw [hv]; rfl
    rw [hv] at HV
    obtain ⟨hs, hpn, hzn⟩ := SysN.of (sys_good' hv)
    have HC := Lib.hid (fun W (x : Ext w W) => cuts_any p.toNat (.slice a1 zs.length c1) (downs zs) W (by rw [← hzn]; exact r'.ext x) hs)
    rw [← hpn] at HC
    have hfa := cutsS_facts hs
    have hle := cutsS_least hs
    have hb := (pow10N hs.p10).2.2.2
    have HIF := Lib.hid (fun W v (r : RdI W v (ups (cutsS p.toNat (downs zs)))) => ifSystem_any p v (cutsS p.toNat (downs zs)) W r hfa.2.2.1 (by have := hfa.2.2.2.2; omega) (fun z hz => by have := hfa.2.2.2.1 z hz; omega))
    rw [hle] at HIF
    clear hfa hle hb
    clear hv hs hpn hzn
    generalize cutsS p.toNat (downs zs) = cs at *
    obtain ⟨k0, k1⟩ := bx.two
    go_enter Try.func28, Try.ntmps28
    go_wp2_with fail
    try rw [hW0]
    refine HV.out.mono ?_
    rintro e w1 ⟨rfl, hx⟩
    clear k0 k1
    replace X := X.trans hx
    replace b2 := b2.ext hx
    replace bx := bx.ext hx
    have hle1 : w.heap.size ≤ w.heap.size + 1 := Nat.le_succ _
    have hbl := bx.1
    clear hx hW0 HV
    go_wp2_with fail
    generalize hO : sysO p (ups cs) = oo at *
    clear hO
    cases oo with
    | none =>
      refine wp_region_rel 7 (fun i v => match i with | 3 => OlV cs v | _ => v = .tuple #[.agg #[.int .i64 0, .slice none 0 0], .bool false])
        (fun i v w => match i with | 3 => OlW w1.heap.size cs v w | _ => True) (by kernel_rfl) (by kernel_rfl) (by kernel_rfl) ?_
      dsimp only [List.take, List.drop, List.length]
      refine LX_det (.pointer (some ⟨w.heap.size, 0, none⟩)) (by kernel_rfl) rfl (fun w' hx _ => ?_) ?_
      · go_simp
      refine LX_det (.int .i64 p) (by kernel_rfl) rfl (fun w' hx _ => ?_) ?_
      · obtain ⟨m0, m1⟩ := (bx.ext hx).two
        go_simp
      refine LX_det (.agg #[.int .i64 p, .slice a1 zs.length c1]) (by kernel_rfl) rfl (fun w' hx _ => ?_) ?_
      · obtain ⟨m0, m1⟩ := (bx.ext hx).two
        go_simp
      refine LX_call (by kernel_rfl) rfl (OlW.st w1.heap.size cs) (fun w' hx _ => ?_) ?_
      · go_simp
        refine UponC.enter ((HC.out _ (X.trans hx)).mono ?_)
        rintro e w'' ⟨g, cap, rfl, hx', own⟩
        refine ⟨_, rfl, hx', ⟨g, cap, rfl⟩, fun g3 cap3 e3 => ?_⟩
        simp at e3
        obtain ⟨rfl, rfl⟩ := e3
        exact own.mono hx.size
      rintro _ ⟨g, cap, rfl⟩
      refine LX_call (by kernel_rfl) rfl (fun _ => St.top) (fun w' hx hg => ?_) ?_
      · have own := (show OlW w1.heap.size cs _ w' from (hg 11 (by decide)).2 rfl) g cap rfl
        clear hg
        go_simp
        refine UponC.enter ((HIF.out _ _ own.rd).mono ?_)
        rintro e w'' ⟨hx', h2⟩
        simp only at h2
        subst h2
        exact ⟨_, rfl, hx', rfl, trivial⟩
      rintro _ rfl
      refine LX_det (.agg #[.int .i64 0, .slice none 0 0]) (by kernel_rfl) rfl (fun w' hx _ => ?_) ?_
      · go_simp
      refine LX_det (.bool false) (by kernel_rfl) rfl (fun w' hx _ => ?_) ?_
      · go_simp
      refine LX_nil fun w2 hx hg => ?_
      clear hg
      simp only [Act.put, List.setIfInBounds_toArray, List.set_cons_succ, List.set_cons_zero]
      replace X := X.trans hx
      replace b2 := b2.ext hx
      obtain ⟨k0, k1⟩ := b2.bx.two
      have z2 := b2.lt
      have f0 := b2.frozen (j := 0)
      have f1 := b2.frozen (j := 1)
      clear b2 bx
      go_wp2_with fail
      refine bodyPost_ret (v := .tuple #[.agg #[.int .i64 0, .slice none 0 0], .bool false]) (by simp [results, Try.results28, go_sem, k0, k1, f0, f1]) rfl ?_
      unfold YsPost
      rw [HO.out]
      exact ⟨(X.setCell hle1 _).setCell hle1 _, rfl⟩
    | some q =>
      refine wp_region_rel 7 (fun i v => match i with | 3 => OlV cs v | _ => YtV q v)
        (fun i v w => match i with | 3 => OlW w1.heap.size cs v w | _ => YtW w1.heap.size q v w) (by kernel_rfl) (by kernel_rfl) (by kernel_rfl) ?_
      dsimp only [List.take, List.drop, List.length]
      refine LX_det (.pointer (some ⟨w.heap.size, 0, none⟩)) (by kernel_rfl) rfl (fun w' hx _ => ?_) ?_
      · go_simp
      refine LX_det (.int .i64 p) (by kernel_rfl) rfl (fun w' hx _ => ?_) ?_
      · obtain ⟨m0, m1⟩ := (bx.ext hx).two
        go_simp
      refine LX_det (.agg #[.int .i64 p, .slice a1 zs.length c1]) (by kernel_rfl) rfl (fun w' hx _ => ?_) ?_
      · obtain ⟨m0, m1⟩ := (bx.ext hx).two
        go_simp
      refine LX_call (by kernel_rfl) rfl (OlW.st w1.heap.size cs) (fun w' hx _ => ?_) ?_
      · go_simp
        refine UponC.enter ((HC.out _ (X.trans hx)).mono ?_)
        rintro e w'' ⟨g, cap, rfl, hx', own⟩
        refine ⟨_, rfl, hx', ⟨g, cap, rfl⟩, fun g3 cap3 e3 => ?_⟩
        simp at e3
        obtain ⟨rfl, rfl⟩ := e3
        exact own.mono hx.size
      rintro _ ⟨g, cap, rfl⟩
      refine LX_call (by kernel_rfl) rfl (YtW.st w1.heap.size q) (fun w' hx hg => ?_) ?_
      · have own := (show OlW w1.heap.size cs _ w' from (hg 11 (by decide)).2 rfl) g cap rfl
        clear hg
        go_simp
        refine UponC.enter ((HIF.out _ _ own.rd).mono ?_)
        rintro e w'' ⟨hx', h2⟩
        simp only at h2
        obtain ⟨g2, cap2, rfl, own2⟩ := h2
        refine ⟨_, rfl, hx', ⟨g2, cap2, rfl⟩, fun g3 cap3 e3 => ?_⟩
        simp at e3
        obtain ⟨rfl, rfl⟩ := e3
        exact World.ownsRow.mono own2 hx.size
      rintro _ ⟨g2, cap2, rfl⟩
      obtain ⟨p0, qs⟩ := q
      refine LX_det (.agg #[.int .i64 p0, .slice (some ⟨g2, 0, none⟩) qs.length cap2]) (by kernel_rfl) rfl (fun w' hx _ => ?_) ?_
      · go_simp
      refine LX_det (.bool true) (by kernel_rfl) rfl (fun w' hx _ => ?_) ?_
      · go_simp
      refine LX_nil fun w2 hx hg => ?_
      have own : w2.ownsRow w1.heap.size 2 1 (.slice (some ⟨g2, 0, none⟩) qs.length cap2) qs.length (qs.map (Value.int .i64)) := (show YtW w1.heap.size (p0, qs) _ w2 from (hg 12).1.1.2 rfl) g2 cap2 rfl
      clear hg
      simp only [Act.put, List.setIfInBounds_toArray, List.set_cons_succ, List.set_cons_zero]
      have hsz := X.size
      have hz1 : w.heap.size + 1 < w1.heap.size := b2.lt
      replace X := X.trans hx
      replace b2 := b2.ext hx
      obtain ⟨k0, k1⟩ := b2.bx.two
      have z2 := b2.lt
      have f0 := b2.frozen (j := 0)
      have f1 := b2.frozen (j := 1)
      have hgl := own.lt g2 rfl
      clear b2 bx
      go_wp2_with fail
      refine bodyPost_ret (v := .tuple #[.agg #[.int .i64 p0, .slice (some ⟨g2, 0, none⟩) qs.length cap2], .bool true]) (by simp [results, Try.results28, go_sem, k0, k1, f0, f1]) rfl ?_
      unfold YsPost
      rw [HO.out]
      refine ⟨(X.setCell hle1 _).setCell hle1 _, g2, cap2, rfl, ?_⟩
      exact World.ownsRow.mono (ownsRow_setCell_other (ownsRow_setCell_other own (by simp [Value.ownBlock]; omega) _) (by simp [Value.ownBlock]; omega) _) hsz

set_option maxRecDepth 100000 in
set_option maxHeartbeats 4000000 in
theorem specOtherSystem_any (p : Int) (v : Value) (zs : List Int) (w : World) (r : RdI w v zs) : Calls Try.prog 29 #[.agg #[.int .i64 p, v]] w (YsPost (otherO p zs) w) := by
  have r' := r
  obtain ⟨-, a1, c1, rfl, -, -, -, -⟩ := r
  generalize hW0 : (w.alloc (.cells #[.int .i64 p, .slice a1 zs.length c1] 33)).alloc (.cells #[.int .i64 0, .slice none 0 0] 33) = W0
  have X : Ext w W0 := hW0 ▸ (Ext.alloc _ _).trans (Ext.alloc _ _)
  have bx : Bx W0 w.heap.size [.int .i64 p, .slice a1 zs.length c1] := hW0 ▸ (Bx.new _ _ _).ext (Ext.alloc _ _)
  have hbs : (w.alloc (.cells #[.int .i64 p, .slice a1 zs.length c1] 33)).heap.size = w.heap.size + 1 := by simp
  have b2 : Bz W0 (w.heap.size + 1) 33 [.int .i64 0, .slice none 0 0] := by rw [← hW0, ← hbs]; exact Bz.new _ _ _
  clear hbs
  have HV := Lib.hid (l03Is_sys p _ zs w.heap.size W0 bx (r'.ext X))
  cases hv : sysB p zs
  · have HO : Hid (otherO p zs = none) := by show _ = _; unfold otherO; rw [hv]; rfl
    rw [hv] at HV
    clear hv
    obtain ⟨k0, k1⟩ := bx.two
    go_enter Try.func29, Try.ntmps29
    go_wp2_with fail
    try rw [hW0]
    refine HV.out.mono ?_
    rintro e w1 ⟨rfl, hx⟩
    clear k0 k1
    replace X := X.trans hx
    replace b2 := b2.ext hx
    have hle1 : w.heap.size ≤ w.heap.size + 1 := Nat.le_succ _
    obtain ⟨k0, k1⟩ := b2.bx.two
    have z2 := b2.lt
    have f0 := b2.frozen (j := 0)
    have f1 := b2.frozen (j := 1)
    clear b2 bx hW0
    go_wp2_with fail
    refine bodyPost_ret (v := .tuple #[.agg #[.int .i64 0, .slice none 0 0], .bool false]) (by simp [results, Try.results29, go_sem, k0, k1, f0, f1]) rfl ?_
    unfold YsPost
    rw [HO.out]
    exact ⟨(X.setCell hle1 _).setCell hle1 _, rfl⟩
  · have HO : Hid (otherO p zs = sysO p (ups (cutsS p.toNat (downs zs)))) := by show _ = _; unfold otherO; rw [hv]; rfl
    rw [hv] at HV
    obtain ⟨hs, hpn, hzn⟩ := SysN.of (sys_good' hv)
    have HC := Lib.hid (fun W (x : Ext w W) (b : Bx W w.heap.size [.int .i64 (p.toNat : Int), .slice a1 zs.length c1]) => l03Cuts_any p.toNat (.slice a1 zs.length c1) (downs zs) w.heap.size W b (by rw [← hzn]; exact r'.ext x) hs)
    rw [← hpn] at HC
    skip
    clear hv hs hpn hzn
    generalize cutsS p.toNat (downs zs) = cs at *
    obtain ⟨k0, k1⟩ := bx.two
    go_enter Try.func29, Try.ntmps29
    go_wp2_with fail
    try rw [hW0]
    refine HV.out.mono ?_
    rintro e w1 ⟨rfl, hx⟩
    clear k0 k1
    replace X := X.trans hx
    replace b2 := b2.ext hx
    replace bx := bx.ext hx
    have hle1 : w.heap.size ≤ w.heap.size + 1 := Nat.le_succ _
    have hbl := bx.1
    clear hx hW0 HV
    go_wp2_with fail
    generalize hO : sysO p (ups cs) = oo at *
    have HG := Lib.hid (fun W B g cap (own : OwnS B W g cap cs) => l03Give_any p B g cap (ups cs) W (by rw [ups_len]; exact own))
    rw [hO, ups_len] at HG
    have HSO := Lib.hid hO
    clear hO
    cases oo with
    | none =>
      refine wp_region_rel 7 (fun i v => match i with | 2 => OlV cs v | _ => v = .tuple #[.agg #[.int .i64 0, .slice none 0 0], .bool false])
        (fun i v w => match i with | 2 => OlW w1.heap.size cs v w | _ => True) (by kernel_rfl) (by kernel_rfl) (by kernel_rfl) ?_
      dsimp only [List.take, List.drop, List.length]
      refine LX_det (.pointer (some ⟨w.heap.size, 0, none⟩)) (by kernel_rfl) rfl (fun w' hx _ => ?_) ?_
      · go_simp
      refine LX_det (.int .i64 p) (by kernel_rfl) rfl (fun w' hx _ => ?_) ?_
      · obtain ⟨m0, m1⟩ := (bx.ext hx).two
        go_simp
      refine LX_call (by kernel_rfl) rfl (OlW.st w1.heap.size cs) (fun w' hx _ => ?_) ?_
      · go_simp
        refine UponC.enter ((HC.out _ (X.trans hx) (bx.ext hx)).mono ?_)
        rintro e w'' ⟨g, cap, rfl, hx', own⟩
        refine ⟨_, rfl, hx', ⟨g, cap, rfl⟩, fun g3 cap3 e3 => ?_⟩
        simp at e3
        obtain ⟨rfl, rfl⟩ := e3
        exact own.mono hx.size
      rintro _ ⟨g, cap, rfl⟩
      refine LX_detA (.agg #[.int .i64 p, .slice (some ⟨g, 0, none⟩) cs.length cap]) (fun _ w => OwnS w1.heap.size w g cap cs) (fun _ _ _ h hx => h.ext hx) (by kernel_rfl) rfl (fun w' hx hg => ⟨?_, ((show OlW w1.heap.size cs _ w' from (hg 9 (by decide)).2 rfl) g cap rfl)⟩) ?_
      · clear hg
        go_simp
      refine LX_call (by kernel_rfl) rfl (fun _ => St.top) (fun w' hx hg => ?_) ?_
      · have own : OwnS w1.heap.size w' g cap cs := (hg 10 (by decide)).2 rfl
        clear hg
        go_simp
        refine UponC.enter ((HG.out _ _ _ _ own).mono ?_)
        rintro e w'' ⟨hx', h2⟩
        simp only at h2
        subst h2
        exact ⟨_, rfl, hx', rfl, trivial⟩
      rintro _ rfl
      refine LX_det (.agg #[.int .i64 0, .slice none 0 0]) (by kernel_rfl) rfl (fun w' hx _ => ?_) ?_
      · go_simp
      refine LX_det (.bool false) (by kernel_rfl) rfl (fun w' hx _ => ?_) ?_
      · go_simp
      refine LX_nil fun w2 hx hg => ?_
      clear hg
      simp only [Act.put, List.setIfInBounds_toArray, List.set_cons_succ, List.set_cons_zero]
      replace X := X.trans hx
      replace b2 := b2.ext hx
      obtain ⟨k0, k1⟩ := b2.bx.two
      have z2 := b2.lt
      have f0 := b2.frozen (j := 0)
      have f1 := b2.frozen (j := 1)
      clear b2 bx
      go_wp2_with fail
      refine bodyPost_ret (v := .tuple #[.agg #[.int .i64 0, .slice none 0 0], .bool false]) (by simp [results, Try.results29, go_sem, k0, k1, f0, f1]) rfl ?_
      unfold YsPost
      rw [HO.out]
      exact ⟨(X.setCell hle1 _).setCell hle1 _, rfl⟩
    | some q =>
      refine wp_region_rel 7 (fun i v => match i with | 2 => OlV cs v | _ => YtV q v)
        (fun i v w => match i with | 2 => OlW w1.heap.size cs v w | _ => YtW w1.heap.size q v w) (by kernel_rfl) (by kernel_rfl) (by kernel_rfl) ?_
      dsimp only [List.take, List.drop, List.length]
      refine LX_det (.pointer (some ⟨w.heap.size, 0, none⟩)) (by kernel_rfl) rfl (fun w' hx _ => ?_) ?_
      · go_simp
      refine LX_det (.int .i64 p) (by kernel_rfl) rfl (fun w' hx _ => ?_) ?_
      · obtain ⟨m0, m1⟩ := (bx.ext hx).two
        go_simp
      refine LX_call (by kernel_rfl) rfl (OlW.st w1.heap.size cs) (fun w' hx _ => ?_) ?_
      · go_simp
        refine UponC.enter ((HC.out _ (X.trans hx) (bx.ext hx)).mono ?_)
        rintro e w'' ⟨g, cap, rfl, hx', own⟩
        refine ⟨_, rfl, hx', ⟨g, cap, rfl⟩, fun g3 cap3 e3 => ?_⟩
        simp at e3
        obtain ⟨rfl, rfl⟩ := e3
        exact own.mono hx.size
      rintro _ ⟨g, cap, rfl⟩
      refine LX_detA (.agg #[.int .i64 p, .slice (some ⟨g, 0, none⟩) cs.length cap]) (fun _ w => OwnS w1.heap.size w g cap cs) (fun _ _ _ h hx => h.ext hx) (by kernel_rfl) rfl (fun w' hx hg => ⟨?_, ((show OlW w1.heap.size cs _ w' from (hg 9 (by decide)).2 rfl) g cap rfl)⟩) ?_
      · clear hg
        go_simp
      refine LX_call (by kernel_rfl) rfl (YtW.st w1.heap.size q) (fun w' hx hg => ?_) ?_
      · have own : OwnS w1.heap.size w' g cap cs := (hg 10 (by decide)).2 rfl
        clear hg
        go_simp
        refine UponC.enter ((HG.out _ _ _ _ own).mono ?_)
        rintro e w'' ⟨hx', h2⟩
        simp only at h2
        subst h2
        have hq : q = (p, ups cs) := by
          have := HSO.out
          unfold sysO at this
          split at this
          · exact (Option.some.inj this).symm
          · cases this
        subst hq
        refine ⟨_, rfl, hx', ⟨g, cap, by rw [ups_len]⟩, fun g3 cap3 e3 => ?_⟩
        simp at e3
        obtain ⟨rfl, rfl⟩ := e3
        have h9 := own_ext' own hx'
        show World.ownsRow _ _ _ _ _ (ups cs).length _
        rw [ups_len]
        exact h9
      rintro _ ⟨g2, cap2, rfl⟩
      obtain ⟨p0, qs⟩ := q
      refine LX_det (.agg #[.int .i64 p0, .slice (some ⟨g2, 0, none⟩) qs.length cap2]) (by kernel_rfl) rfl (fun w' hx _ => ?_) ?_
      · go_simp
      refine LX_det (.bool true) (by kernel_rfl) rfl (fun w' hx _ => ?_) ?_
      · go_simp
      refine LX_nil fun w2 hx hg => ?_
      have own : w2.ownsRow w1.heap.size 2 1 (.slice (some ⟨g2, 0, none⟩) qs.length cap2) qs.length (qs.map (Value.int .i64)) := (show YtW w1.heap.size (p0, qs) _ w2 from (hg 11).1.1.2 rfl) g2 cap2 rfl
      clear hg
      simp only [Act.put, List.setIfInBounds_toArray, List.set_cons_succ, List.set_cons_zero]
      have hsz := X.size
      have hz1 : w.heap.size + 1 < w1.heap.size := b2.lt
      replace X := X.trans hx
      replace b2 := b2.ext hx
      obtain ⟨k0, k1⟩ := b2.bx.two
      have z2 := b2.lt
      have f0 := b2.frozen (j := 0)
      have f1 := b2.frozen (j := 1)
      have hgl := own.lt g2 rfl
      clear b2 bx
      go_wp2_with fail
      refine bodyPost_ret (v := .tuple #[.agg #[.int .i64 p0, .slice (some ⟨g2, 0, none⟩) qs.length cap2], .bool true]) (by simp [results, Try.results29, go_sem, k0, k1, f0, f1]) rfl ?_
      unfold YsPost
      rw [HO.out]
      refine ⟨(X.setCell hle1 _).setCell hle1 _, g2, cap2, rfl, ?_⟩
      exact World.ownsRow.mono (ownsRow_setCell_other (ownsRow_setCell_other own (by simp [Value.ownBlock]; omega) _) (by simp [Value.ownBlock]; omega) _) hsz
end Go.Proofs.Ytepgkhcfeaklmaa
