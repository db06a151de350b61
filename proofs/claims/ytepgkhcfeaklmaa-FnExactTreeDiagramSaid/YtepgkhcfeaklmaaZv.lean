
/- RoadSystem, both sides. Condition: lists of ints that can be read. -/
import Derived.Test.YtepgkhcfeaklmaaZs
import Derived.Test.YtepgkhcfeaklmaaZu
import Derived.Test.YtepgkhcfeaklmaaYo
import Derived.Test.YtepgkhcfeaklmaaYt
namespace Go.Proofs.Ytepgkhcfeaklmaa
open Go Go.RowKit Go.ChangeShapes Go.WideShapes Go.ChangeAt

attribute [local irreducible] LX

/-- A set has the property, and none of the first j parts can be left out. -/
def lowTo (f : Nat → Bool) (s j : Nat) : Bool := f s && (List.range j).all fun b => !(s.testBit b) || !(f (s - 2 ^ b))
theorem lowTo_zero (f : Nat → Bool) (s : Nat) : lowTo f s 0 = f s := by unfold lowTo; simp
theorem lowTo_succ (f : Nat → Bool) (s j : Nat) : lowTo f s (j + 1) = (lowTo f s j && (!(s.testBit j) || !(f (s - 2 ^ j)))) := by
  unfold lowTo
  rw [List.range_succ, List.all_append, Bool.and_assoc]; simp
theorem lowTo_no {f : Nat → Bool} {s j k : Nat} (h : lowTo f s j = false) (hk : j ≤ k) : lowTo f s k = false := by
  induction k with
  | zero => have : j = 0 := by omega
            subst this; exact h
  | succ k ih =>
    rcases Nat.lt_or_ge j (k + 1) with h1 | h1
    · rw [lowTo_succ, ih (by omega), Bool.false_and]
    · have : j = k + 1 := by omega
      subst this; exact h
theorem joinsB_zero {q : Nat} {rs : List Nat} (h : RoadN q rs) : joinsB q rs 0 = false := by
  have h1 : itR rs 0 (0 + 1) = itR rs 0 0 := by
    show rnd rs 0 1 _ = 1
    generalize rs.length / 2 = m
    induction m with
    | zero => rfl
    | succ m ih =>
      show stepR rs 0 (rnd rs 0 1 m) m = 1
      rw [ih]
      unfold stepR grows
      simp
  have h2 := itR_end h h1
  unfold joinsB
  rw [← h2]
  show Nat.testBit 1 (q - 1) = false
  have := h.q2
  rw [show (1 : Nat) = 2 ^ 0 from rfl, Nat.testBit_two_pow]
  simp; omega
def roadO (p : Int) (zs : List Int) : Option (Int × List Int) := if roadsB p zs then sysO ((zs.length / 2 : Nat) : Int) (ups (lowL (zs.length / 2) (joinsB p.toNat (downs zs)))) else none
theorem roadO_len (p : Int) (zs : List Int) : ((roadO p zs).getD (0, [])).2.length ≤ 1048576 := by
  unfold roadO
  split
  · exact sysO_len _ _
  · simp

set_option maxRecDepth 100000 in
set_option maxHeartbeats 4000000 in
theorem road1_any (q s : Nat) (v : Value) (rs : List Nat) (b1 b2 : Nat) (w : World) (h1 : w.cell? ⟨b1, 0, none⟩ = some v) (h2 : w.cell? ⟨b2, 0, none⟩ = some (.int .i64 q)) (r : RdI w v (ups rs)) (h : RoadN q rs) (hs : s < 1024) :
    Calls Try.prog 90 #[.int .i64 s, .pointer (some ⟨b1, 0, none⟩), .pointer (some ⟨b2, 0, none⟩)] w fun e w' => e = .returned (.bool (joinsB q rs s)) ∧ Ext w w' := by
  have hb1 := World.block_lt_of_cell? w _ h1
  have hb2 := World.block_lt_of_cell? w _ h2
  have HJ := Lib.hid (fun W (x : Ext w W) => joinedPlaces_any q s v rs W (r.ext x) h hs)
  have hlt : joinN q rs s < 64 := Nat.lt_of_lt_of_le (joinN_lt h s) (Nat.pow_le_pow_right (by decide) h.q6)
  obtain ⟨q1, hq1⟩ : ∃ q1, q1 = q - 1 := ⟨_, rfl⟩
  have hq2 := h.q2
  have hq6 := h.q6
  have hqi : (q : Int) - 1 = (q1 : Int) := by omega
  have hw1 : IntKind.i64.wrap ((q : Int) - 1) = (q1 : Int) := by rw [hqi]; exact wrap_nat _ (by omega)
  have hq63 : (q1 : Int) < 64 := by omega
  have hDEF : Hid (joinsB q rs s = (joinN q rs s).testBit q1) := by show _ = _; rw [hq1]; rfl
  generalize joinN q rs s = P at *
  have hba := road_bit P q1 (by omega)
  have hsd : 0 ≤ (P : Int) / 2 ^ q1 := Int.ediv_nonneg (by omega) (by exact_mod_cast Nat.zero_le _)
  clear hlt hq2 hq1 hqi
  obtain ⟨u, hu, hub⟩ : ∃ u : Int, bits .and .i64 ((P : Int) / 2 ^ q1) 1 = u ∧ (u == 1) = P.testBit q1 := ⟨_, rfl, by rw [hba]; cases P.testBit q1 <;> rfl⟩
  clear hba
  generalize P.testBit q1 = bb at *
  go_enter Try.func90, Try.ntmps90
  go_wp2_with fail
  refine wp_region_rel 8 (fun _ v => v = .int .i64 P) (fun _ _ _ => True) (by kernel_rfl) (by kernel_rfl) (by kernel_rfl) ?_
  dsimp only [List.take, List.drop, List.length]
  refine LX_det (v) (by kernel_rfl) rfl (fun w' hx _ => ?_) ?_
  · have m0 := (Below.cell hx (p := ⟨b1, 0, none⟩) hb1).trans h1
    go_simp
  refine LX_det (.int .i64 s) (by kernel_rfl) rfl (fun w' hx _ => ?_) ?_
  · go_simp
  refine LX_call (by kernel_rfl) rfl (fun _ => St.top) (fun w' hx _ => ?_) ?_
  · go_simp
    refine UponC.enter ((HJ.out _ hx).mono ?_)
    rintro e w'' ⟨rfl, hx'⟩
    exact ⟨_, rfl, hx', rfl, trivial⟩
  rintro _ rfl
  refine LX_det (.int .i64 q) (by kernel_rfl) rfl (fun w' hx _ => ?_) ?_
  · have m0 := (Below.cell hx (p := ⟨b2, 0, none⟩) hb2).trans h2
    go_simp
  refine LX_det (.int .i64 q1) (by kernel_rfl) rfl (fun w' hx _ => ?_) ?_
  · go_simp
  refine LX_det (.int .i64 ((P : Int) / 2 ^ q1)) (by kernel_rfl) rfl (fun w' hx _ => ?_) ?_
  · go_simp
  refine LX_det (.int .i64 u) (by kernel_rfl) rfl (fun w' hx _ => ?_) ?_
  · go_simp
  refine LX_det (.bool bb) (by kernel_rfl) rfl (fun w' hx _ => ?_) ?_
  · go_simp
  refine LX_nil fun w2 hx _ => ?_
  simp only [Act.put, List.setIfInBounds_toArray, List.set_cons_succ, List.set_cons_zero]
  go_wp2_with fail
  go_ret
  exact ⟨ret_bool hDEF.out.symm, hx⟩

set_option maxHeartbeats 4000000 in
theorem implRoadSystem_any (p : Int) (v : Value) (zs : List Int) (w : World) (r : RdI w v zs) : Calls Try.prog 44 #[.int .i64 p, v] w (YsPost (roadO p zs) w) := by
  have r' := r
  obtain ⟨-, a1, c1, rfl, -, -, -, -⟩ := r
  generalize hWA : (w.alloc (.cells #[.int .i64 p] 2)).alloc (.cells #[.slice a1 zs.length c1] 22) = WA
  have XA : Ext w WA := hWA ▸ (Ext.alloc _ _).trans (Ext.alloc _ _)
  have bA1 : Bx WA w.heap.size [.int .i64 p] := hWA ▸ (Bx.new _ _ _).ext (Ext.alloc _ _)
  have bA2 : Bx WA (w.heap.size + 1) [.slice a1 zs.length c1] := hWA ▸ Bx.new' _ _ _ (by simp)
  have hAs : WA.heap.size = w.heap.size + 2 := by rw [← hWA]; simp
  generalize hW0 : WA.alloc (.cells #[.int .i64 0, .slice none 0 0] 33) = W0
  have X : Ext w W0 := XA.trans (hW0 ▸ Ext.alloc _ _)
  have b1 : Bx W0 w.heap.size [.int .i64 p] := hW0 ▸ bA1.ext (Ext.alloc _ _)
  have b2 : Bx W0 (w.heap.size + 1) [.slice a1 zs.length c1] := hW0 ▸ bA2.ext (Ext.alloc _ _)
  have b3 : Bz W0 (w.heap.size + 2) 33 [.int .i64 0, .slice none 0 0] := by rw [← hW0, ← hAs]; exact Bz.new _ _ _
  have hle1 : w.heap.size ≤ w.heap.size + 2 := by omega
  clear bA1 bA2 XA
  have HV := Lib.hid (fun W (x : Ext w W) => areRoads_any p _ zs W (r'.ext x))
  cases hv : roadsB p zs
  · have HO : Hid (roadO p zs = none) := by show _ = _; unfold roadO; rw [hv]; rfl
    rw [hv] at HV
    clear hv
    have k1 := b1.one
    have k2 := b2.one
    go_enter Try.func44, Try.ntmps44
    go_wp2_with fail
    clear hWA hW0 hAs
    refine (HV.out _ X).mono ?_
    rintro e w1 ⟨rfl, hx⟩
    replace b3 := b3.ext hx
    replace X := X.trans hx
    obtain ⟨k0, k3⟩ := b3.bx.two
    have z2 := b3.lt
    have f0 := b3.frozen (j := 0)
    have f1 := b3.frozen (j := 1)
    clear b3 b1 b2 k1 k2 hx
    go_wp2_with fail
    refine bodyPost_ret (v := .tuple #[.agg #[.int .i64 0, .slice none 0 0], .bool false]) (by simp [results, Try.results44, go_sem, k0, k3, f0, f1]) rfl ?_
    unfold YsPost
    rw [HO.out]
    exact ⟨(X.setCell hle1 _).setCell hle1 _, rfl⟩
  · obtain ⟨m, hm⟩ : ∃ m, m = zs.length / 2 := ⟨_, rfl⟩
    have HO : Hid (roadO p zs = sysO (m : Int) (ups (lowL m (joinsB p.toNat (downs zs))))) := by show _ = _; unfold roadO; rw [hv, hm]; rfl
    rw [hv] at HV
    obtain ⟨hr, hpn, hzn⟩ := roads_N hv
    have hl20 : zs.length ≤ 20 := by have := hr.l20; rw [downs_len] at this; exact this
    have hm10 : m ≤ 10 := by omega
    have hmi : (zs.length : Int) / 2 = (m : Int) := by omega
    have hb := (pow10N hm10).2.2.2
    have HC := Lib.hid (fun W (x : Ext w W) (d1 : Bx W w.heap.size [.int .i64 p]) (d2 : Bx W (w.heap.size + 1) [.slice a1 zs.length c1]) => setsWhere_any m 90 #[.pointer (some ⟨w.heap.size + 1, 0, none⟩), .pointer (some ⟨w.heap.size, 0, none⟩)] (joinsB p.toNat (downs zs)) W hm10 (enterOk Try.func90 (by kernel_rfl) rfl)
      (fun w' hx s hlt => road1_any p.toNat s _ (downs zs) _ _ w' (d2.ext hx).one (by rw [← hpn]; exact (d1.ext hx).one) (by rw [← hzn]; exact r'.ext (x.trans hx)) hr (by omega)))
    have hlow : leastN ((List.range (2 ^ m)).filter (joinsB p.toNat (downs zs))) = lowL m (joinsB p.toNat (downs zs)) := low_least (by omega) fun s t => joinsB_mono _ _
    have hlt : ∀ z ∈ (List.range (2 ^ m)).filter (joinsB p.toNat (downs zs)), z < 1048577 := fun z hz => by rw [List.mem_filter, List.mem_range] at hz; omega
    have hle : ((List.range (2 ^ m)).filter (joinsB p.toNat (downs zs))).length ≤ 1048576 := Nat.le_trans (List.length_filter_le _ _) (by rw [List.length_range]; omega)
    have HIF := Lib.hid (fun W g c (r : RdI W _ (ups ((List.range (2 ^ m)).filter (joinsB p.toNat (downs zs))))) => ifSystemG_any (m : Int) g 0 c ((List.range (2 ^ m)).filter (joinsB p.toNat (downs zs))) W r hle hlt)
    rw [hlow] at HIF
    clear hv hr hpn hzn hb hm hlow hlt hle
    generalize (List.range (2 ^ m)).filter (joinsB p.toNat (downs zs)) = xs at *
    generalize lowL m (joinsB p.toNat (downs zs)) = cs at *
    have k1 := b1.one
    have k2 := b2.one
    go_enter Try.func44, Try.ntmps44
    go_wp2_with fail
    clear hWA hW0 hAs
    refine (HV.out _ X).mono ?_
    rintro e w1 ⟨rfl, hx⟩
    clear k1 k2
    replace X := X.trans hx
    replace b1 := b1.ext hx
    replace b2 := b2.ext hx
    replace b3 := b3.ext hx
    clear hx
    have k1 := b1.one
    have k2 := b2.one
    go_wp2_with fail
    refine (HC.out _ X b1 b2).mono ?_
    rintro e w3 ⟨g, cap, rfl, hx, own⟩
    replace b3 := b3.ext hx
    replace X := X.trans hx
    clear hx k1 k2 b1 b2
    go_wp2_with fail
    refine (HIF.out _ _ _ own.rd).mono ?_
    intro e w4 h2
    have hgt : w.heap.size + 2 < w3.heap.size := b3.lt
    generalize sysO (m : Int) (ups cs) = oo at *
    clear own
    obtain ⟨hxY, h2⟩ := h2
    replace b3 := b3.ext hxY
    have hszY := X.size
    replace X := X.trans hxY
    obtain ⟨k0, k1⟩ := b3.bx.two
    have z2 := b3.lt
    have f0 := b3.frozen (j := 0)
    have f1 := b3.frozen (j := 1)
    clear b3
    cases oo with
    | none =>
      simp only at h2
      subst h2
      go_wp2_with fail
      refine bodyPost_ret (v := .tuple #[.agg #[.int .i64 0, .slice none 0 0], .bool false]) (by simp [results, Try.results44, go_sem, k0, k1, f0, f1]) rfl ?_
      unfold YsPost
      rw [HO.out]
      exact ⟨(X.setCell hle1 _).setCell hle1 _, rfl⟩
    | some q =>
      obtain ⟨g2, cap2, rfl, own⟩ := h2
      obtain ⟨p0, qs⟩ := q
      have hgl := own.lt g2 rfl
      simp only at own hgl
      simp only
      go_wp2_with fail
      refine bodyPost_ret (v := .tuple #[.agg #[.int .i64 p0, .slice (some ⟨g2, 0, none⟩) qs.length cap2], .bool true]) (by simp [results, Try.results44, go_sem, k0, k1, f0, f1]) rfl ?_
      unfold YsPost
      rw [HO.out]
      refine ⟨(X.setCell hle1 _).setCell hle1 _, g2, cap2, rfl, ?_⟩
      exact World.ownsRow.mono (ownsRow_setCell_other (ownsRow_setCell_other own (by simp [Value.ownBlock]; omega) _) (by simp [Value.ownBlock]; omega) _) hszY

/-- The last place, as the reference reads it. -/
theorem joinedLast_any (q q1 set : Nat) (v : Value) (rs : List Nat) (w : World) (r : RdI w v (ups rs)) (h : RoadN q rs) (hq1 : q1 = q - 1) (hs : set < 1024) :
    Calls Try.prog 56 #[.int .i64 q, v, .int .i64 set] w fun e w' => ∃ g, e = .returned (.slice (some ⟨g, 0, none⟩) q q) ∧ Ext w w' ∧ w'.cell? ⟨g, q1, none⟩ = some (.bool (joinsB q rs set)) := by
  refine (l03Joined_any q set v rs w r h hs).mono ?_
  rintro e w' ⟨rfl, hx, own⟩
  refine ⟨_, rfl, hx, ?_⟩
  have hq2 := h.q2
  have hlt : q1 < q := by omega
  have hc := own.cellAt q1 (by omega)
  rw [List.getElem?_map, List.getElem?_eq_getElem (by rw [bitsL_len]; omega), bitsL_get hlt] at hc
  simp only [Option.map_some] at hc
  rw [hc, hq1]; rfl
theorem sub_and (s j : Nat) : s &&& 2 ^ j = if s.testBit j then 2 ^ j else 0 := and_two_pow s j
set_option maxRecDepth 100000 in
set_option maxHeartbeats 8000000 in
theorem specRoadSystem_any (p : Int) (v : Value) (zs : List Int) (w : World) (r : RdI w v zs) : Calls Try.prog 43 #[.int .i64 p, v] w (YsPost (roadO p zs) w) := by
  have r' := r
  obtain ⟨-, a1, c1, rfl, -, -, -, -⟩ := r
  generalize hW0 : w.alloc (.cells #[.int .i64 0, .slice none 0 0] 33) = W0
  have X : Ext w W0 := hW0 ▸ Ext.alloc _ _
  have b2 : Bz W0 w.heap.size 33 [.int .i64 0, .slice none 0 0] := by rw [← hW0]; exact Bz.new _ _ _
  have HV := Lib.hid (l03Roads_any p _ zs W0 (r'.ext X))
  cases hv : roadsB p zs
  · have HO : Hid (roadO p zs = none) := by show _ = _; unfold roadO; rw [hv]; rfl
    rw [hv] at HV
    clear hv
    go_enter Try.func43, Try.ntmps43
    go_wp2_with fail
    clear hW0
    refine HV.out.mono ?_
    rintro e w1 ⟨rfl, hx⟩
    replace X := X.trans hx
    replace b2 := b2.ext hx
    obtain ⟨k0, k1⟩ := b2.bx.two
    have z2 := b2.lt
    have f0 := b2.frozen (j := 0)
    have f1 := b2.frozen (j := 1)
    clear b2
    go_wp2_with fail
    refine bodyPost_ret (v := .tuple #[.agg #[.int .i64 0, .slice none 0 0], .bool false]) (by simp [results, Try.results43, go_sem, k0, k1, f0, f1]) rfl ?_
    unfold YsPost
    rw [HO.out]
    first | exact ⟨(X.setCell (Nat.le_refl _) _).setCell (Nat.le_refl _) _, rfl⟩ | exact ⟨Ext.alloc _ _, rfl⟩
  · obtain ⟨P, hP⟩ : ∃ m, m = zs.length / 2 := ⟨_, rfl⟩
    have HO0 : Hid (roadO p zs = sysO (P : Int) (ups (lowL P (joinsB p.toNat (downs zs))))) := by show _ = _; unfold roadO; rw [hv, hP]; rfl
    rw [hv] at HV
    obtain ⟨hr, hpn, hzn⟩ := roads_N hv
    have hl20 : zs.length ≤ 20 := by have := hr.l20; rw [downs_len] at this; exact this
    have hp10 : P ≤ 10 := by omega
    have hmi : (zs.length : Int) / 2 = (P : Int) := by omega
    obtain ⟨q, hq⟩ : ∃ q, q = p.toNat := ⟨_, rfl⟩
    rw [← hq] at hpn hr HO0
    subst hpn
    have hq6 := hr.q6
    have hq2 := hr.q2
    obtain ⟨q1, hq1⟩ : ∃ q1, q1 = q - 1 := ⟨_, rfl⟩
    have hqi : (q : Int) - 1 = (q1 : Int) := by omega
    have hw1 : IntKind.i64.wrap ((q : Int) - 1) = (q1 : Int) := by rw [hqi]; exact wrap_nat _ (by omega)
    have hqq : (q1 : Int) < (q : Int) := by omega
    have hqn : q1 < q := by omega
    obtain ⟨z1, z2, z3, z4⟩ := pow10N hp10
    have hP63 : (P : Int) < 64 := by omega
    have HW := Lib.hid (fun W (x : Ext W0 W) s (hlt : s < 1024) => joinedLast_any q q1 s (.slice a1 zs.length c1) (downs zs) W (by rw [← hzn]; exact (r'.ext X).ext x) hr hq1 hlt)
    have hJz := joinsB_zero hr
    have HDEF : Hid (∀ N, 2 ^ P = N → lowL P (joinsB q (downs zs)) = (List.range N).filter (fun s => decide (1 ≤ s) && lowTo (joinsB q (downs zs)) s P)) := fun N hN => by
      unfold lowL
      rw [hN]
      apply List.filter_congr
      intro s _
      by_cases h0 : s = 0
      · subst h0
        unfold lowB
        rw [hJz]; rfl
      · rw [decide_eq_true (show 1 ≤ s by omega), Bool.true_and]; rfl
    have HBIT : Hid (∀ s j : Nat, s.testBit j = true → 2 ^ j ≤ s) := fun s j hb => Nat.ge_two_pow_of_testBit hb
    have HP10 := Lib.hid (fun j (hj : j ≤ 10) => pow10N (p := j) hj)
    clear hv hr hzn hP hq hJz hq1 hqi
    generalize joinsB q (downs zs) = f at *
    have HJS := Lib.hid (lowTo_succ f)
    have HJ0 := Lib.hid (lowTo_zero f)
    generalize hN : 2 ^ P = N at *
    have HN := Lib.hid hN
    have HDEF2 := Lib.hid (HDEF.out N rfl)
    clear HDEF hN
    go_enter Try.func43, Try.ntmps43
    go_wp2_with fail
    clear hW0
    refine HV.out.mono ?_
    rintro e w1 ⟨rfl, hx⟩
    replace b2 := b2.ext hx
    replace X := X.trans hx
    have XW : Ext W0 w1 := hx
    have hgt : w.heap.size < w1.heap.size := b2.lt
    clear hx
    go_wp2_with fail
    go_loopw [8, 7] (fun i v wr => ∃ (k g cap : Nat) (xs : List Nat), 1 ≤ k ∧ k ≤ N ∧ i = .int .i64 k ∧ v = .slice (some ⟨g, 0, none⟩) xs.length cap ∧ xs.length ≤ k ∧ Hid (xs = (List.range k).filter fun s => decide (1 ≤ s) && lowTo f s P) ∧
        OwnS w1.heap.size wr g cap xs ∧ Ext w1 wr) (fun i _ _ => N - (intOf i).toNat)
    case atStart => exact ⟨1, w1.heap.size, 0, [], Nat.le_refl _, by omega, rfl, rfl, by simp, rfl, World.ownsRow_lit w1 #[] 0 (Nat.le_refl _) (by decide) rfl, Ext.alloc _ _⟩
    case round =>
      obtain ⟨s, g, cap, xs, hs0, hk, rfl, rfl, hxl, HXS, own, Y⟩ := hrel
      by_cases hlt : s < N
      · have HST := Lib.hid (range_filter_succ (fun s => decide (1 ≤ s) && lowTo f s P) s)
        have hki : (s : Int) < (N : Int) := by omega
        go_wp2_with fail
        refine (HW.out _ (XW.trans Y) s (by omega)).mono ?_
        rintro e wj ⟨gj, rfl, hx, hcj⟩
        have H0 : Hid (lowTo f s 0 = f s) := HJ0.out s
        generalize f s = b0 at *
        replace own := own.ext hx
        replace Y := Y.trans hx
        clear hx
        go_wp2_with fail
        clear hcj
        go_loopw [10, 9] (fun i b wq => ∃ j : Nat, j ≤ P ∧ i = .int .i64 j ∧ b = .bool (lowTo f s j) ∧ Ext wj wq) (fun i _ _ => P - (intOf i).toNat)
        case atStart => exact ⟨0, Nat.zero_le _, rfl, by rw [H0.out], Ext.refl _⟩
        case round =>
          obtain ⟨j, hj, rfl, rfl, Z⟩ := hrel
          cases hcut : lowTo f s j
          · have HNO : Hid (lowTo f s P = false) := lowTo_no hcut hj
            have HPF : Hid ((decide (1 ≤ s) && lowTo f s P) = false) := by show _ = _; rw [HNO.out, Bool.and_false]
            replace own := own.ext Z
            replace Y := Y.trans Z
            clear hcut
            by_cases hjp : (j : Int) < (P : Int)
            all_goals
              go_wp2_with fail
              go_roundw
              case rel => exact ⟨s + 1, g, cap, xs, by omega, by omega, by go_num, rfl, by omega, by show _ = _; rw [HST.out, HPF.out, HXS.out]; simp, own, Y⟩
              case measure => simp [intOf]; omega
          · by_cases hjp : j < P
            · have hjpi : (j : Int) < (P : Int) := by omega
              obtain ⟨b1, b2', b3, b4⟩ := HP10.out j (by omega)
              have hj63 : (j : Int) < 64 := by omega
              obtain ⟨bt, hbt⟩ : ∃ bt : Nat, bt = 2 ^ j := ⟨_, rfl⟩
              rw [← hbt] at b3 b4
              have hand := bits_and s bt (by omega) (by omega)
              rw [hbt, and_two_pow, ← hbt] at hand
              have HSU : Hid (lowTo f s (j + 1) = (!(s.testBit j) || !(f (s - bt)))) := by show _ = _; rw [HJS.out, hcut, hbt, Bool.true_and]
              have HCU := Lib.hid hcut
              have hbt1 : 1 ≤ bt := by rw [hbt]; exact Nat.pow_pos (by decide)
              clear hcut
              cases hb : s.testBit j
              · rw [hb] at hand HSU
                have hand' : bits .and .i64 (s : Int) (bt : Int) = 0 := by rw [hand]; rfl
                clear hand hb hbt
                go_wp2_with fail
                try rw [b3]
                go_wp2_with fail
                go_roundw
                case rel => exact ⟨j + 1, by omega, by go_num, by rw [HSU.out]; rfl, Z⟩
                case measure => simp [intOf]; omega
              · rw [hb] at hand HSU
                have hble := HBIT.out s j hb
                rw [← hbt] at hble
                simp only [if_true] at hand
                have hbne : ¬ (bt : Int) = 0 := by omega
                obtain ⟨c1', hc1⟩ : ∃ c1', c1' = s - bt := ⟨_, rfl⟩
                have hsub1 : (s : Int) - (bt : Int) = (c1' : Int) := by omega
                have hcc1 : c1' < 1024 := by omega
                have HS2 : Hid (lowTo f s (j + 1) = !(f c1')) := by show _ = _; rw [HSU.out, hc1]; rfl
                clear hb hbt hc1 HSU
                go_wp2_with fail
                refine (HW.out _ ((XW.trans Y).trans Z) c1' hcc1).mono ?_
                rintro e w2 ⟨gk, rfl, hx, hck⟩
                generalize f c1' = bb at *
                replace Z := Z.trans hx
                clear hx hsub1
                cases bb
                all_goals
                  go_wp2_with fail
                  go_roundw
                  case rel => exact ⟨j + 1, by omega, by go_num, by rw [HS2.out]; rfl, Z⟩
                  case measure => simp [intOf]; omega
            · obtain rfl : j = P := by omega
              have HPT : Hid ((decide (1 ≤ s) && lowTo f s j) = true) := by show _ = _; rw [hcut, decide_eq_true hs0]; rfl
              replace own := own.ext Z
              replace Y := Y.trans Z
              clear hcut
              go_wp2_with (at_builtin; refine wpList_push infoI64 rfl Try.underlying22 rfl rfl rfl (World.ownsRow.alloc (w := _) own _) rfl (Bx.new _ [_] _).one rfl (by omega) (by decide) (Y.trans (Ext.alloc _ _)).size ?_; intro g2 cap2 w4 hg2 own2 bel2 sz2)
              go_roundw
              case rel => exact ⟨s + 1, g2, cap2, xs ++ [s], by omega, by omega, by go_num, by simp, by simp; omega, by show _ = _; rw [HST.out, HPT.out, HXS.out]; simp, by unfold OwnS; rw [ups_append, List.map_append, List.length_append]; exact own2, bel2 _ (Y.trans (Ext.alloc _ _))⟩
              case measure => simp [intOf]; omega
      · obtain rfl : s = N := by omega
        have hki : ¬ (s : Int) < (s : Int) := by omega
        have HXE : Hid (xs = lowL P f) := by show _ = _; rw [HXS.out, HDEF2.out]
        have HO : Hid (roadO (q : Int) zs = sysO (P : Int) (ups xs)) := by show _ = _; rw [HO0.out, HXE.out]
        have own1 : wr.ownsRow w1.heap.size 2 1 (.slice (some ⟨g, 0, none⟩) (ups xs).length cap) (ups xs).length ((ups xs).map (Value.int .i64)) := by rw [ups_len]; exact own
        have HG := Lib.hid (l03Give_any (P : Int) w1.heap.size g cap (ups xs) wr own1)
        rw [ups_len] at HG
        clear own
        go_wp2_with fail
        refine HG.out.mono ?_
        intro e w3 h3
        have h2 := h3.ys Y own1
        generalize sysO (P : Int) (ups xs) = oo at *
        clear h3 HG own1 HO0
        obtain ⟨hxY, h2⟩ := h2
        replace b2 := b2.ext hxY
        have hszY := X.size
        replace X := X.trans hxY
        obtain ⟨k0, k1⟩ := b2.bx.two
        have z2 := b2.lt
        have f0 := b2.frozen (j := 0)
        have f1 := b2.frozen (j := 1)
        clear b2
        cases oo with
        | none =>
          simp only at h2
          subst h2
          go_wp2_with fail
          refine bodyPost_ret (v := .tuple #[.agg #[.int .i64 0, .slice none 0 0], .bool false]) (by simp [results, Try.results43, go_sem, k0, k1, f0, f1]) rfl ?_
          unfold YsPost
          rw [HO.out]
          exact ⟨(X.setCell (Nat.le_refl _) _).setCell (Nat.le_refl _) _, rfl⟩
        | some q =>
          obtain ⟨g, cap, rfl, own⟩ := h2
          obtain ⟨p0, qs⟩ := q
          have hgl := own.lt g rfl
          simp only at own hgl
          simp only
          go_wp2_with fail
          refine bodyPost_ret (v := .tuple #[.agg #[.int .i64 p0, .slice (some ⟨g, 0, none⟩) qs.length cap], .bool true]) (by simp [results, Try.results43, go_sem, k0, k1, f0, f1]) rfl ?_
          unfold YsPost
          rw [HO.out]
          refine ⟨(X.setCell (Nat.le_refl _) _).setCell (Nat.le_refl _) _, g, cap, rfl, ?_⟩
          exact World.ownsRow.mono (ownsRow_setCell_other (ownsRow_setCell_other own (by simp [Value.ownBlock]; omega) _) (by simp [Value.ownBlock]; omega) _) hszY
end Go.Proofs.Ytepgkhcfeaklmaa
