
/- VoteSystem, both sides. No condition. -/
import Derived.Test.YtifhmkkgmchcmaaYs
namespace Go.Proofs.Ytifhmkkgmchcmaa
open Go Go.RowKit Go.ChangeShapes Go.WideShapes Go.ChangeAt

attribute [local irreducible] LX

theorem pop_whole : ∀ v : Fin 11, pop (2 ^ v.val - 1) = v.val := by decide +kernel
theorem vote_has {p v : Nat} (hp : p ≤ 10) (h1 : 1 ≤ v) (hv : v ≤ p) : 0 < (voteL p v).length := by
  refine List.length_pos_of_mem (a := 2 ^ v - 1) (List.mem_filter.2 ⟨List.mem_range.2 ?_, ?_⟩)
  · have : 2 ^ v ≤ 2 ^ p := Nat.pow_le_pow_right (by decide) hv
    have : 0 < 2 ^ v := Nat.pow_pos (by decide)
    omega
  · rw [decide_eq_true_eq]; exact pop_whole ⟨v, by omega⟩
def voteOk (p v : Int) : Bool := inB p 1 10 && inB v 1 p
def voteO (p v : Int) : Option (Int × List Int) := if voteOk p v then sysO p (ups (voteL p.toNat v.toNat)) else none

set_option maxHeartbeats 1000000 in
theorem vote1_any (b s v : Nat) (w : World) (hc : w.cell? ⟨b, 0, none⟩ = some (.int .i64 v)) (hs : s < 1024) :
    Calls Try.prog 82 #[.int .i64 s, .pointer (some ⟨b, 0, none⟩)] w fun e w' => e = .returned (.bool (decide (pop s = v))) ∧ Ext w w' := by
  have HB : Hid (((pop s : Int) == (v : Int)) = decide (pop s = v)) := by show _ = _; rw [Bool.eq_iff_iff]; simp; omega
  have hbl : b < w.heap.size := World.block_lt_of_cell? w _ hc
  have HS := Lib.hid (fun W => sizeOf_any s W hs)
  generalize pop s = n at *
  go_enter Try.func82, Try.ntmps82
  go_wp2_with fail
  refine wp_region_rel 4 (fun _ u => u = .int .i64 n) (fun _ _ _ => True) (by kernel_rfl) (by kernel_rfl) (by kernel_rfl) ?_
  dsimp only [List.take, List.drop, List.length]
  refine LX_det (.int .i64 s) (by kernel_rfl) rfl (fun w' hx _ => ?_) ?_
  · go_simp
  refine LX_call (by kernel_rfl) rfl (fun _ => St.top) (fun w' hx _ => ?_) ?_
  · go_simp
    refine UponC.enter ((HS.out _).mono ?_)
    rintro e w'' ⟨rfl, rfl⟩
    exact ⟨_, rfl, Ext.refl _, rfl, trivial⟩
  rintro _ rfl
  refine LX_det (.int .i64 v) (by kernel_rfl) rfl (fun w' hx _ => ?_) ?_
  · have m0 := (Below.cell hx (p := ⟨b, 0, none⟩) hbl).trans hc
    go_simp
  refine LX_det (.bool ((n : Int) == (v : Int))) (by kernel_rfl) rfl (fun w' hx _ => ?_) ?_
  · go_simp
  refine LX_nil fun w2 hx _ => ?_
  simp only [Act.put, List.setIfInBounds_toArray, List.set_cons_succ, List.set_cons_zero]
  go_wp2_with fail
  go_ret
  exact ⟨ret_bool HB.out, hx⟩

set_option maxHeartbeats 4000000 in
theorem implVoteSystem_any (p v : Int) (w : World) : Calls Try.prog 41 #[.int .i64 p, .int .i64 v] w (YsPost (voteO p v) w) := by
  generalize hW0 : (w.alloc (.cells #[.int .i64 v] 2)).alloc (.cells #[.int .i64 0, .slice none 0 0] 27) = W0
  have X : Ext w W0 := hW0 ▸ (Ext.alloc _ _).trans (Ext.alloc _ _)
  have bx : Bx W0 w.heap.size [.int .i64 v] := hW0 ▸ (Bx.new _ _ _).ext (Ext.alloc _ _)
  have hbs : (w.alloc (.cells #[.int .i64 v] 2)).heap.size = w.heap.size + 1 := by simp
  have b2 : Bz W0 (w.heap.size + 1) 27 [.int .i64 0, .slice none 0 0] := by rw [← hW0, ← hbs]; exact Bz.new _ _ _
  have hle1 : w.heap.size ≤ w.heap.size + 1 := Nat.le_succ _
  clear hbs
  cases hp : inB p 1 10
  · have HO : Hid (voteO p v = none) := by show _ = _; unfold voteO voteOk; rw [hp]; rfl
    have HP := Lib.hid hp
    clear hp
    have k9 := bx.one
    go_enter Try.func41, Try.ntmps41
    go_wp2_with fail
    try rw [hW0]
    refine (areParts_eq HP.out _).mono ?_
    rintro e w1 ⟨rfl, rfl⟩
    obtain ⟨k0, k1⟩ := b2.bx.two
    have z2 := b2.lt
    have f0 := b2.frozen (j := 0)
    have f1 := b2.frozen (j := 1)
    clear b2 bx hW0 k9
    go_wp2_with fail
    refine bodyPost_ret (v := .tuple #[.agg #[.int .i64 0, .slice none 0 0], .bool false]) (by simp [results, Try.results41, go_sem, k0, k1, f0, f1]) rfl ?_
    unfold YsPost
    rw [HO.out]
    exact ⟨(X.setCell hle1 _).setCell hle1 _, rfl⟩
  have hp2 := inB_iff.1 hp
  cases hv : inB v 1 p
  · have HO : Hid (voteO p v = none) := by show _ = _; unfold voteO voteOk; rw [hv, Bool.and_false]; rfl
    have HP := Lib.hid hp
    have HV := Lib.hid hv
    clear hp hv
    have k9 := bx.one
    go_enter Try.func41, Try.ntmps41
    go_wp2_with fail
    try rw [hW0]
    refine (areParts_eq HP.out _).mono ?_
    rintro e w1 ⟨rfl, rfl⟩
    clear hW0
    go_wp2_with fail
    refine (within_eq HV.out _).mono ?_
    rintro e w2 ⟨rfl, rfl⟩
    obtain ⟨k0, k1⟩ := b2.bx.two
    have z2 := b2.lt
    have f0 := b2.frozen (j := 0)
    have f1 := b2.frozen (j := 1)
    clear b2 bx k9
    go_wp2_with fail
    refine bodyPost_ret (v := .tuple #[.agg #[.int .i64 0, .slice none 0 0], .bool false]) (by simp [results, Try.results41, go_sem, k0, k1, f0, f1]) rfl ?_
    unfold YsPost
    rw [HO.out]
    exact ⟨(X.setCell hle1 _).setCell hle1 _, rfl⟩
  · have hv2 := inB_iff.1 hv
    obtain ⟨P, rfl⟩ := Int.eq_ofNat_of_zero_le (show 0 ≤ p by omega)
    obtain ⟨V, rfl⟩ := Int.eq_ofNat_of_zero_le (show 0 ≤ v by omega)
    have hP10 : P ≤ 10 := by omega
    have hpw := pow10N hP10
    have HO : Hid (voteO (P : Int) (V : Int) = sysO (P : Int) (ups (voteL P V))) := by show _ = _; unfold voteO voteOk; rw [hp, hv]; rfl
    have hlt : ∀ z ∈ voteL P V, z < 1048577 := fun z hz => by unfold voteL at hz; rw [List.mem_filter, List.mem_range] at hz; omega
    have hle : (voteL P V).length ≤ 1048576 := by unfold voteL; exact Nat.le_trans (List.length_filter_le _ _) (by rw [List.length_range]; omega)
    have hleast : leastN (voteL P V) = voteL P V := by
      unfold leastN
      rw [setsOf_self hlt (voteL_asc P V), minL_of_anti (voteL_anti (by omega))]
    have HIF := Lib.hid (fun W u (r : RdI W u (ups (voteL P V))) => ifSystem_any (P : Int) u (voteL P V) W r (vote_has hP10 (by omega) (by omega)) hle hlt)
    rw [hleast] at HIF
    have HSW := Lib.hid (fun W (x : Ext W0 W) => setsWhere_any P 82 #[.pointer (some ⟨w.heap.size, 0, none⟩)] (fun s => decide (pop s = V)) W hP10 (enterOk Try.func82 (by kernel_rfl) rfl)
      (fun w' hx s hs => vote1_any w.heap.size s V w' (bx.ext (x.trans hx)).one (by omega)))
    have HDEF : Hid ((List.range (2 ^ P)).filter (fun s => decide (pop s = V)) = voteL P V) := rfl
    rw [HDEF.out] at HSW
    have HP := Lib.hid hp
    have HV := Lib.hid hv
    clear hp hv hlt hle hleast HDEF hpw
    generalize voteL P V = cs at *
    have k9 := bx.one
    go_enter Try.func41, Try.ntmps41
    go_wp2_with fail
    try rw [hW0]
    refine (areParts_eq HP.out _).mono ?_
    rintro e w1 ⟨rfl, rfl⟩
    clear hW0
    go_wp2_with fail
    refine (within_eq HV.out _).mono ?_
    rintro e w2 ⟨rfl, rfl⟩
    clear k9
    go_wp2_with fail
    refine (HSW.out _ (Ext.refl _)).mono ?_
    rintro e w3 ⟨g, cap, rfl, hx, own⟩
    replace b2 := b2.ext hx
    replace X := X.trans hx
    clear hx
    go_wp2_with fail
    refine (HIF.out _ _ own.rd).mono ?_
    intro e w4 h2
    have hgt : w.heap.size + 1 < w3.heap.size := b2.lt
    generalize sysO (P : Int) (ups cs) = oo at *
    clear own bx
    obtain ⟨hxY, h2⟩ := h2
    replace b2 := b2.ext hxY
    have hszY := X.size
    replace X := X.trans hxY
    obtain ⟨k0, k1⟩ := b2.bx.two
    have z2 := b2.lt
    have f0 := b2.frozen (j := 0)
    have f1 := b2.frozen (j := 1)
    clear b2
    cases oo with
    | none =>
      simp only at h2
      subst h2
      go_wp2_with fail
      refine bodyPost_ret (v := .tuple #[.agg #[.int .i64 0, .slice none 0 0], .bool false]) (by simp [results, Try.results41, go_sem, k0, k1, f0, f1]) rfl ?_
      unfold YsPost
      rw [HO.out]
      exact ⟨(X.setCell hle1 _).setCell hle1 _, rfl⟩
    | some q =>
      obtain ⟨g2, cap2, rfl, own⟩ := h2
      obtain ⟨p0, qs⟩ := q
      have hgl := own.lt g2 rfl
      simp only at own hgl
      simp only
      go_wp2_with fail
      refine bodyPost_ret (v := .tuple #[.agg #[.int .i64 p0, .slice (some ⟨g2, 0, none⟩) qs.length cap2], .bool true]) (by simp [results, Try.results41, go_sem, k0, k1, f0, f1]) rfl ?_
      unfold YsPost
      rw [HO.out]
      refine ⟨(X.setCell hle1 _).setCell hle1 _, g2, cap2, rfl, ?_⟩
      exact World.ownsRow.mono (ownsRow_setCell_other (ownsRow_setCell_other own (by simp [Value.ownBlock]; omega) _) (by simp [Value.ownBlock]; omega) _) hszY

/-- A box of the call's own that holds a system. -/
def OwB (w : World) (b : Nat) (p : Int) (v : Value) : Prop := w.ownsRow b 27 2 (.slice (some ⟨b, 0, none⟩) 1 1) 1 [.int .i64 p, v]
theorem OwB.new (w : World) (p : Int) (v : Value) : OwB (w.alloc (.cells #[.int .i64 p, v] 27)) w.heap.size p v :=
  World.ownsRow_lit w #[.int .i64 p, v] 1 (Nat.le_refl _) (by decide) rfl
theorem OwB.two {w : World} {b : Nat} {p : Int} {v : Value} (h : OwB w b p v) : w.cell? ⟨b, 0, none⟩ = some (.int .i64 p) ∧ w.cell? ⟨b, 1, none⟩ = some v ∧ w.frozen? ⟨b, 0, none⟩ = false ∧ w.frozen? ⟨b, 1, none⟩ = false ∧ b < w.heap.size :=
  ⟨World.ownsRow.cellAt h 0 (by decide), World.ownsRow.cellAt h 1 (by decide), World.ownsRow.frozenAt h 0, World.ownsRow.frozenAt h 1, (World.ownsRow.lt h b rfl).2⟩
theorem OwB.below {B : Nat} {w w' : World} {b : Nat} {p : Int} {v : Value} (h : OwB w b p v) (hx : Below B w w') (hb : b < B) : OwB w' b p v := by
  obtain ⟨hl, h⟩ := h
  refine ⟨hl, ?_⟩
  rcases h with h' | ⟨g, cap, cur, e, h1, h2, h3⟩
  · exact .inl h'
  · refine .inr ⟨g, cap, cur, e, h1, ?_, h3⟩
    cases e
    rw [hx.block b hb]; exact h2
theorem OwB.ext {w w' : World} {b : Nat} {p : Int} {v : Value} (h : OwB w b p v) (hx : Ext w w') : OwB w' b p v := h.below hx h.two.2.2.2.2
theorem OwB.set {w : World} {b : Nat} {p : Int} {v u : Value} (h : OwB w b p v) : OwB (w.setCell ⟨b, 1, none⟩ u) b p u := (World.ownsRow.stored h 1 u).1
theorem own_shape {w : World} {B : Nat} {e : TypeId} {v : Value} {n : Nat} {xs : List Value} (h : w.ownsRow B e 1 v n xs) : ∃ a c, v = .slice a n c := by
  obtain ⟨hl, h⟩ := h
  rcases h with ⟨h', h2⟩ | ⟨g, cap, cur, e, h1, h2, h3⟩
  · exact ⟨none, 0, by rw [h']; rw [h2]⟩
  · exact ⟨_, _, e⟩
theorem vote_range (p v k : Nat) (hv : 1 ≤ v) : (List.range k).filter (fun s => decide (1 ≤ s) && decide (pop s = v)) = (List.range k).filter (fun s => decide (pop s = v)) := by
  apply List.filter_congr
  intro s _
  by_cases h : pop s = v
  · have : s ≠ 0 := fun e => by subst e; rw [pop_zero] at h; omega
    simp [h]; omega
  · simp [h]

set_option maxHeartbeats 8000000 in
theorem specVoteSystem_any (p v : Int) (w : World) : Calls Try.prog 40 #[.int .i64 p, .int .i64 v] w (YsPost (voteO p v) w) := by
  generalize hW0 : w.alloc (.cells #[.int .i64 0, .slice none 0 0] 27) = W0
  have X : Ext w W0 := hW0 ▸ Ext.alloc _ _
  have b2 : Bz W0 w.heap.size 27 [.int .i64 0, .slice none 0 0] := by rw [← hW0]; exact Bz.new _ _ _
  have hW0s : W0.heap.size = w.heap.size + 1 := by rw [← hW0]; simp
  cases hp : inB p 1 10
  · have HO : Hid (voteO p v = none) := by show _ = _; unfold voteO voteOk; rw [hp]; rfl
    have HP := Lib.hid hp
    clear hp
    go_enter Try.func40, Try.ntmps40
    go_wp2_with fail
    try rw [hW0]
    refine (l03PartsZ_any p _).mono ?_
    rintro e w1 ⟨rfl, rfl⟩
    rw [HP.out]
    clear hW0
    obtain ⟨k0, k1⟩ := b2.bx.two
    have z2 := b2.lt
    have f0 := b2.frozen (j := 0)
    have f1 := b2.frozen (j := 1)
    clear b2
    go_wp2_with fail
    refine bodyPost_ret (v := .tuple #[.agg #[.int .i64 0, .slice none 0 0], .bool false]) (by simp [results, Try.results40, go_sem, k0, k1, f0, f1]) rfl ?_
    unfold YsPost
    rw [HO.out]
    first | exact ⟨(X.setCell (Nat.le_refl _) _).setCell (Nat.le_refl _) _, rfl⟩ | exact ⟨Ext.alloc _ _, rfl⟩
  have hp2 := inB_iff.1 hp
  cases hv : inB v 1 p
  · have HO : Hid (voteO p v = none) := by show _ = _; unfold voteO voteOk; rw [hv, Bool.and_false]; rfl
    have HP := Lib.hid hp
    have HV := Lib.hid hv
    clear hp hv
    go_enter Try.func40, Try.ntmps40
    go_wp2_with fail
    try rw [hW0]
    refine (l03PartsZ_any p _).mono ?_
    rintro e w1 ⟨rfl, rfl⟩
    rw [HP.out]
    clear hW0
    go_wp2_with fail
    refine (l00In_eq HV.out _).mono ?_
    rintro e w2 ⟨rfl, rfl⟩
    obtain ⟨k0, k1⟩ := b2.bx.two
    have z2 := b2.lt
    have f0 := b2.frozen (j := 0)
    have f1 := b2.frozen (j := 1)
    clear b2
    go_wp2_with fail
    refine bodyPost_ret (v := .tuple #[.agg #[.int .i64 0, .slice none 0 0], .bool false]) (by simp [results, Try.results40, go_sem, k0, k1, f0, f1]) rfl ?_
    unfold YsPost
    rw [HO.out]
    first | exact ⟨(X.setCell (Nat.le_refl _) _).setCell (Nat.le_refl _) _, rfl⟩ | exact ⟨Ext.alloc _ _, rfl⟩
  · have hv2 := inB_iff.1 hv
    obtain ⟨P, rfl⟩ := Int.eq_ofNat_of_zero_le (show 0 ≤ p by omega)
    obtain ⟨V, rfl⟩ := Int.eq_ofNat_of_zero_le (show 0 ≤ v by omega)
    have hP10 : P ≤ 10 := by omega
    obtain ⟨q1, q2, q3, q4⟩ := pow10N hP10
    have hP63 : (P : Int) < 64 := by omega
    have HO0 : Hid (voteO (P : Int) (V : Int) = sysO (P : Int) (ups (voteL P V))) := by show _ = _; unfold voteO voteOk; rw [hp, hv]; rfl
    have hV1 : 1 ≤ V := by omega
    have HDEF : Hid (voteL P V = (List.range (2 ^ P)).filter (fun s => decide (1 ≤ s) && decide (pop s = V))) := (vote_range P V _ hV1).symm
    have hhas := Lib.hid (vote_has hP10 hV1 (show V ≤ P by omega))
    have hN0 : 1 ≤ 2 ^ P := Nat.pow_pos (by decide)
    generalize hN : 2 ^ P = N at *
    have HN := Lib.hid hN
    have HP := Lib.hid hp
    have HV := Lib.hid hv
    clear hp hv hN
    go_enter Try.func40, Try.ntmps40
    go_wp2_with fail
    try rw [hW0]
    refine (l03PartsZ_any _ _).mono ?_
    rintro e w1 ⟨rfl, rfl⟩
    rw [HP.out]
    clear hW0
    go_wp2_with fail
    refine (l00In_eq HV.out _).mono ?_
    rintro e w2 ⟨rfl, rfl⟩
    go_wp2_with fail
    have ob : OwB (W0.alloc (.cells #[.int .i64 P, .slice none 0 0] 27)) W0.heap.size P (.slice none 0 0) := OwB.new _ _ _
    have X1 : Ext W0 (W0.alloc (.cells #[.int .i64 P, .slice none 0 0] 27)) := Ext.alloc _ _
    generalize hW1 : W0.alloc (.cells #[.int .i64 P, .slice none 0 0] 27) = W1 at *
    have hW1s : W1.heap.size = W0.heap.size + 1 := by rw [← hW1]; simp
    have hW1s2 : w.heap.size + 1 + 1 ≤ W1.heap.size := by omega
    have hW0l : W0.heap.size ≤ w.heap.size + 1 + 1 := by omega
    have hW0l2 : W0.heap.size ≤ w.heap.size + 1 := by omega
    have hgt : w.heap.size < W0.heap.size := by omega
    clear hW1 hW1s
    rw [hW0s] at ob
    clear hW0s
    go_loopw [7] (fun i wr => ∃ (k c : Nat) (a : Option Addr) (xs : List Nat), k + 1 ≤ N ∧ i = .int .i64 ((k : Int) + 1) ∧ OwB wr (w.heap.size + 1) P (.slice a xs.length c) ∧ xs.length ≤ k ∧ Hid (xs = (List.range (k + 1)).filter (fun s => decide (1 ≤ s) && decide (pop s = V))) ∧
        wr.ownsRow (w.heap.size + 1 + 1) 2 1 (.slice a xs.length c) xs.length ((ups xs).map (Value.int .i64)) ∧ Ext W0 wr ∧ w.heap.size + 1 + 1 ≤ wr.heap.size) (fun i _ => N - (intOf i).toNat)
    case atStart => exact ⟨0, 0, none, [], by omega, rfl, ob, Nat.le_refl _, rfl, World.ownsRow_nil _ _ _ _, X1, by omega⟩
    case round =>
      obtain ⟨k, c, a, xs, hk, rfl, ob1, hxl, HXS, own, Z, hsz⟩ := hrel
      have hcast : ((k : Int) + 1) = ((k + 1 : Nat) : Int) := by omega
      by_cases hlt : k + 1 < N
      · have HST := Lib.hid (range_filter_succ (fun s => decide (1 ≤ s) && decide (pop s = V)) (k + 1))
        rw [hcast]
        generalize hs : k + 1 = s at *
        have hs0 : 1 ≤ s := by omega
        have hs1 : (s : Int) < (N : Int) := by omega
        clear hcast
        have HPS : Hid ((decide (1 ≤ s) && decide (pop s = V)) = decide (pop s = V)) := by show _ = _; rw [decide_eq_true hs0, Bool.true_and]
        have HSZ := Lib.hid (fun W => l03Size_any s W (by omega))
        obtain ⟨n, hn⟩ : ∃ n, n = pop s := ⟨_, rfl⟩
        rw [← hn] at HSZ
        have HN' := Lib.hid hn
        clear hn
        go_wp2_with fail
        refine (HSZ.out _).mono ?_
        rintro e w3 ⟨rfl, rfl⟩
        by_cases hnv : n = V
        · have hnvi : (n : Int) = (V : Int) := by omega
          have HK : Hid ((decide (1 ≤ s) && decide (pop s = V)) = true) := by show _ = _; rw [HPS.out, ← HN'.out]; simpa using hnv
          obtain ⟨k0, k1, f0, f1, z2⟩ := ob1.two
          clear hnv
          go_wp2_with (at_builtin; refine wpList_push infoI64 rfl Try.underlying22 rfl rfl rfl (World.ownsRow.alloc (w := _) own _) rfl (Bx.new _ [_] _).one rfl (by omega) (by decide) (Nat.le_trans hsz (Ext.alloc _ _).size) ?_; intro g2 cap2 w4 hg2 own2 bel2 sz2; have BB := bel2 wr (Below.mono (Ext.alloc wr _) hsz); have ob4 := ob1.below BB (Nat.lt_succ_self _); have Z4 : Ext W0 w4 := Below.trans Z (Below.mono BB hW0l); obtain ⟨k2, k3, f2, f3, z4⟩ := ob4.two; clear BB bel2)
          go_roundw
          case rel =>
            refine ⟨s, cap2, some ⟨g2, 0, none⟩, xs ++ [s], by omega, by go_num, ?_, by simp; omega, by show _ = _; rw [HST.out, HK.out, HXS.out]; simp, ?_, Below.setCell Z4 hW0l2 _, by have h9 := sz2; simp at h9 ⊢; omega⟩
            · rw [List.length_append]; exact ob4.set
            · rw [ups_append, List.map_append, List.length_append]
              exact ownsRow_setCell_other own2 (by simp [Value.ownBlock]; omega) _
          case measure => simp [intOf]; omega
        · have hnvi : ¬ (n : Int) = (V : Int) := by omega
          have HK : Hid ((decide (1 ≤ s) && decide (pop s = V)) = false) := by show _ = _; rw [HPS.out, ← HN'.out]; simpa using hnv
          clear hnv
          go_wp2_with fail
          go_roundw
          case rel => exact ⟨s, c, a, xs, by omega, by go_num, ob1, by omega, by show _ = _; rw [HST.out, HK.out, HXS.out]; simp, own, Z, hsz⟩
          case measure => simp [intOf]; omega
      · have hkN : k + 1 = N := by omega
        have HXE : Hid (xs = voteL P V) := by show _ = _; rw [HXS.out, HDEF.out, hkN]
        have hki : ¬ (k : Int) + 1 < (N : Int) := by omega
        obtain ⟨k0, k1, f0, f1, z2⟩ := ob1.two
        have HO : Hid (voteO (P : Int) (V : Int) = sysO (P : Int) (ups xs)) := by show _ = _; rw [HO0.out, HXE.out]
        have hx0 : 0 < xs.length := by rw [HXE.out]; exact hhas.out
        obtain ⟨g, cap, e1, -⟩ := Lib.holds_of_ownsRow own (by intro e; injection e with _ h9 _; omega)
        cases e1
        have own1 : wr.ownsRow (w.heap.size + 1 + 1) 2 1 (.slice (some ⟨g, 0, none⟩) (ups xs).length c) (ups xs).length ((ups xs).map (Value.int .i64)) := by rw [ups_len]; exact own
        have HG := Lib.hid (l03Give_any (P : Int) (w.heap.size + 1 + 1) g c (ups xs) wr own1)
        rw [ups_len] at HG
        clear hkN hx0 own hcast
        go_wp2_with fail
        refine HG.out.mono ?_
        intro e w3 h3
        have h2 := h3.ys Z (World.ownsRow.mono own1 hW0l)
        generalize sysO (P : Int) (ups xs) = oo at *
        clear h3 HG own1 ob1 k0 k1 f0 f1 z2 HO0
        obtain ⟨hxY, h2⟩ := h2
        replace b2 := b2.ext hxY
        have hszY := X.size
        replace X := X.trans hxY
        obtain ⟨k0, k1⟩ := b2.bx.two
        have z2 := b2.lt
        have f0 := b2.frozen (j := 0)
        have f1 := b2.frozen (j := 1)
        clear b2
        cases oo with
        | none =>
          simp only at h2
          subst h2
          go_wp2_with fail
          refine bodyPost_ret (v := .tuple #[.agg #[.int .i64 0, .slice none 0 0], .bool false]) (by simp [results, Try.results40, go_sem, k0, k1, f0, f1]) rfl ?_
          unfold YsPost
          rw [HO.out]
          exact ⟨(X.setCell (Nat.le_refl _) _).setCell (Nat.le_refl _) _, rfl⟩
        | some q =>
          obtain ⟨g, cap, rfl, own⟩ := h2
          obtain ⟨p0, qs⟩ := q
          have hgl := own.lt g rfl
          simp only at own hgl
          simp only
          go_wp2_with fail
          refine bodyPost_ret (v := .tuple #[.agg #[.int .i64 p0, .slice (some ⟨g, 0, none⟩) qs.length cap], .bool true]) (by simp [results, Try.results40, go_sem, k0, k1, f0, f1]) rfl ?_
          unfold YsPost
          rw [HO.out]
          refine ⟨(X.setCell (Nat.le_refl _) _).setCell (Nat.le_refl _) _, g, cap, rfl, ?_⟩
          exact World.ownsRow.mono (ownsRow_setCell_other (ownsRow_setCell_other own (by simp [Value.ownBlock]; omega) _) (by simp [Value.ownBlock]; omega) _) hszY
end Go.Proofs.Ytifhmkkgmchcmaa
