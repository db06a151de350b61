/- FnExactSameChain returns true for every input and changes nothing that was there. No condition. -/
import Derived.Test.YtnlnjhbckfcmfaaVC
import Derived.Test.YtnlnjhbckfcmfaaSN
import Derived.Deep.QuietTactic
import Derived.BigQuiet
namespace Go.Proofs.Ytnlnjhbckfcmfaa
open Go Go.RowKit Go.ChangeShapes Go.WideShapes Go.ChangeAt

set_option maxHeartbeats 1000000 in
theorem equalFuncF_any (fn : FuncId) (cap : Array Value) (v1 v2 : Value) (bs cs : List Nat) (w : World) (r1 : RdF w v1 bs) (r2 : RdF w v2 cs) (hen : EnterOk Try.prog fn)
    (hp : ∀ w', Ext w w' → ∀ a b, a < 4294967296 → b < 4294967296 → Calls Try.prog fn (#[.float .f32 a, .float .f32 b] ++ cap) w' fun e w'' => e = .returned (.bool (sameN (cn .f32 a) (cn .f32 b))) ∧ Ext w' w'') :
    Calls Try.prog 66 #[v1, v2, .func (.func fn) #[] cap] w fun e w' => e = .returned (.bool (sameNs bs cs)) ∧ Ext w w' := by
  have r1' := r1
  have r2' := r2
  obtain ⟨⟨-, a1, c1, rfl, p1, p2, -, -⟩, l1⟩ := r1
  obtain ⟨⟨-, a2, c2, rfl, q1, q2, -, -⟩, l2⟩ := r2
  have L1 := Lib.hid l1
  have L2 := Lib.hid l2
  have HP := Lib.hid hp
  have hent : ∀ args w, (callFunc fn args).run Try.prog w = .ok (.enter fn args) w := hen
  clear l1 l2 hp hen
  unfold maxLen at p2 q2
  by_cases hl : bs.length = cs.length
  · have hne : ((bs.length : Int) != (cs.length : Int)) = false := by simp [hl]
    have Hl := Lib.hid hl
    clear hl
    go_enter Try.func66, Try.ntmps66
    go_wp2_with fail
    go_loopw [17] (fun i wr => ∃ k : Nat, k ≤ bs.length ∧ i = .int .i64 k ∧ Hid ((bs.map (cn .f32)).take k = (cs.map (cn .f32)).take k) ∧ Ext w wr) (fun i _ => bs.length - (intOf i).toNat)
    case atStart => exact ⟨0, Nat.zero_le _, rfl, rfl, Ext.refl _⟩
    case round =>
      obtain ⟨k, hk, rfl, Hs, X⟩ := hrel
      by_cases hlt : k < bs.length
      · have hlt2 : k < cs.length := by rw [← Hl.out]; exact hlt
        obtain ⟨b1, o1, rfl, hb1, hc1⟩ := (r1'.ext X).at hlt
        obtain ⟨b2, o2, rfl, hb2, hc2⟩ := (r2'.ext X).at hlt2
        go_wp2_with fail
        refine (HP.out _ X bs[k] cs[k] (L1.out _ (List.getElem_mem hlt)) (L2.out _ (List.getElem_mem hlt2))).mono ?_
        rintro e w1 ⟨rfl, hx⟩
        replace X := X.trans hx
        cases he : sameN (cn .f32 bs[k]) (cn .f32 cs[k]) with
        | true =>
          have Ht := Lib.hid (take_sameC hlt hlt2 Hs.out (by simpa [sameN] using he))
          clear he hc1 hc2 hx
          go_wp2_with fail
          go_roundw
          case rel => exact ⟨k + 1, by omega, by go_num, Ht, X⟩
          case measure => simp [intOf]; omega
        | false =>
          have Hd := Lib.hid (sameNs_no hlt hlt2 he)
          clear he hc1 hc2 hx
          go_wp2_with fail
          go_ret
          exact ⟨ret_bool Hd.out.symm, X⟩
      · have Hd : Hid (sameNs bs cs = true) := by
          show _ = _
          have h := Hs.out
          rw [List.take_of_length_le (by simp; omega), List.take_of_length_le (by simp; rw [← Hl.out]; omega)] at h
          simp [sameNs, h]
        go_wp2_with fail
        go_ret
        exact ⟨ret_bool Hd.out.symm, X⟩
  · have hne : ((bs.length : Int) != (cs.length : Int)) = true := by simp; omega
    have Hd : Hid (sameNs bs cs = false) := by
      show _ = _
      simp only [sameNs, decide_eq_false_iff_not]
      intro h
      have := congrArg List.length h
      simp at this; exact hl this
    clear hl
    go_enter Try.func66, Try.ntmps66
    go_wp2_with fail
    go_ret
    exact ⟨ret_bool Hd.out.symm, Ext.refl _⟩

def chEqB (p q : Int) (bs cs : List Nat) : Bool := decide (p = q) && sameNs bs cs

theorem implSameChain_any (p q : Int) (v1 v2 : Value) (bs cs : List Nat) (w : World) (r1 : RdF w v1 bs) (r2 : RdF w v2 cs) :
    Calls Try.prog 26 #[.agg #[.int .i64 p, v1], .agg #[.int .i64 q, v2]] w fun e w' => e = .returned (.bool (chEqB p q bs cs)) ∧ Ext w w' := by
  have r1' := r1
  have r2' := r2
  obtain ⟨⟨-, a1, c1, rfl, -, -, -, -⟩, l1⟩ := r1
  obtain ⟨⟨-, a2, c2, rfl, -, -, -, -⟩, l2⟩ := r2
  have L1 := Lib.hid l1
  have L2 := Lib.hid l2
  clear l1 l2
  by_cases hp : p = q
  · have h1 : (p == q) = true := by simp [hp]
    have Hd : Hid (chEqB p q bs cs = sameNs bs cs) := by show _ = _; simp [chEqB, hp]
    clear hp
    go_enter Try.func26, Try.ntmps26
    go_wp2_with fail
    refine (equalFuncF_any 67 #[] _ _ bs cs _ (r1'.ext ((Ext.alloc _ _).trans (Ext.alloc _ _))) (r2'.ext ((Ext.alloc _ _).trans (Ext.alloc _ _)))
      (enterOk Try.func67 (by kernel_rfl) rfl) (fun w' _ a b ha hb => sameNumber_any a b ha hb w')).mono ?_
    rintro e w1 ⟨rfl, X⟩
    generalize hb : sameNs bs cs = b at *
    have Hb := Lib.hid hb
    clear hb
    cases b
    all_goals
      go_wp2_with fail
      go_ret
      exact ⟨ret_bool Hd.out.symm, ((Ext.alloc _ _).trans (Ext.alloc _ _)).trans X⟩
  · have h1 : (p == q) = false := by simp [hp]
    have Hd : Hid (chEqB p q bs cs = false) := by show _ = _; simp [chEqB, hp]
    clear hp
    go_enter Try.func26, Try.ntmps26
    go_wp2_with fail
    go_ret
    exact ⟨ret_bool Hd.out.symm, (Ext.alloc _ _).trans (Ext.alloc _ _)⟩

theorem l01SameAll_eq {v1 v2 : Value} {bs cs : List Nat} {c : Bool} (h : sameNs bs cs = c) (w : World) (r1 : RdF w v1 bs) (r2 : RdF w v2 cs) :
    Calls Try.prog 103 #[v1, v2] w fun e w' => e = .returned (.bool c) ∧ ∃ m, w' = w.drewN m := by
  subst h; exact l01SameAll_any v1 v2 bs cs w r1 r2

set_option maxHeartbeats 1000000 in
theorem l04Same_any (p q : Int) (v1 v2 : Value) (bs cs : List Nat) (k1 k2 : Nat) (w : World) (x1 : Bx w k1 [.int .i64 p, v1]) (x2 : Bx w k2 [.int .i64 q, v2]) (r1 : RdF w v1 bs) (r2 : RdF w v2 cs) :
    Calls Try.prog 65 #[.pointer (some ⟨k1, 0, none⟩), .pointer (some ⟨k2, 0, none⟩)] w fun e w' => e = .returned (.bool (chEqB p q bs cs)) ∧ Ext w w' := by
  have r1' := r1
  have r2' := r2
  obtain ⟨⟨-, a1, c1, rfl, -, -, -, -⟩, l1⟩ := r1
  obtain ⟨⟨-, a2, c2, rfl, -, -, -, -⟩, l2⟩ := r2
  clear l1 l2
  obtain ⟨d0, d1⟩ := x1.two
  obtain ⟨e0, e1⟩ := x2.two
  by_cases hp : p = q
  · have h1 : (p == q) = true := by simp [hp]
    have Hd : Hid (chEqB p q bs cs = sameNs bs cs) := by show _ = _; simp [chEqB, hp]
    clear hp
    generalize hb : sameNs bs cs = b at *
    have Hb := Lib.hid hb
    clear hb
    cases b
    all_goals
      go_enter Try.func65, Try.ntmps65
      go_wp2_with fail
      go_quiet ((go_at_call 103; exact Calls.quiet_of (l01SameAll_eq Hb.out _ (r1'.ext (Ext.drewN _ _)) (r2'.ext (Ext.drewN _ _)))))
      go_wp2_with fail
      go_ret
      exact ⟨ret_bool Hd.out.symm, Ext.drewN _ _⟩
  · have h1 : (p == q) = false := by simp [hp]
    have Hd : Hid (chEqB p q bs cs = false) := by show _ = _; simp [chEqB, hp]
    clear hp
    go_enter Try.func65, Try.ntmps65
    go_wp2_with fail
    go_quiet (fail)
    go_wp2_with fail
    go_ret
    exact ⟨ret_bool Hd.out.symm, Ext.drewN _ _⟩

theorem specSameChain_any (p q : Int) (v1 v2 : Value) (bs cs : List Nat) (w : World) (r1 : RdF w v1 bs) (r2 : RdF w v2 cs) :
    Calls Try.prog 25 #[.agg #[.int .i64 p, v1], .agg #[.int .i64 q, v2]] w fun e w' => e = .returned (.bool (chEqB p q bs cs)) ∧ Ext w w' := by
  have r1' := r1
  have r2' := r2
  obtain ⟨⟨-, a1, c1, rfl, -, -, -, -⟩, l1⟩ := r1
  obtain ⟨⟨-, a2, c2, rfl, -, -, -, -⟩, l2⟩ := r2
  clear l1 l2
  go_enter Try.func25, Try.ntmps25
  go_wp2_with fail
  refine (l04Same_any p q _ _ bs cs _ _ _ ((Bx.new w _ _).ext (Ext.alloc _ _)) (Bx.new' (w.alloc _) _ _ (by simp)) (r1'.ext ((Ext.alloc _ _).trans (Ext.alloc _ _))) (r2'.ext ((Ext.alloc _ _).trans (Ext.alloc _ _)))).mono ?_
  rintro e w1 ⟨rfl, X⟩
  go_wp2_with fail
  go_ret
  exact ⟨rfl, ((Ext.alloc _ _).trans (Ext.alloc _ _)).trans X⟩

set_option maxHeartbeats 400000 in
theorem sameChain_law (p q : Int) (v1 v2 : Value) (bs cs : List Nat) (w : World) (r1 : RdF w v1 bs) (r2 : RdF w v2 cs) :
    Calls Try.prog 5 #[.agg #[.int .i64 p, v1], .agg #[.int .i64 q, v2]] w fun e w' => e = .returned (.bool true) ∧ Ext w w' := by
  have r1' := r1
  have r2' := r2
  obtain ⟨⟨_, a1, c1, rfl, p1, p2, _, _⟩, _⟩ := r1
  obtain ⟨⟨_, a2, c2, rfl, q1, q2, _, _⟩, _⟩ := r2
  have hm1 : bs.length ≤ maxLen := by omega
  have hm2 : cs.length ≤ maxLen := by omega
  clear p1 p2 q1 q2
  go_enter Try.func5, Try.ntmps5
  go_wp2_with fail
  generalize hW : World.alloc (World.alloc w _) _ = W
  have X : Ext w W := hW ▸ (Ext.alloc _ _).trans (Ext.alloc _ _)
  have b1 : Bx W w.heap.size [.int .i64 p, .slice a1 bs.length c1] := hW ▸ (Bx.new w _ _).ext (Ext.alloc _ _)
  have b2 : Bx W (w.heap.size + 1) [.int .i64 q, .slice a2 cs.length c2] := hW ▸ (Bx.new' (w.alloc _) _ _ (by simp))
  clear hW
  replace r1' := r1'.ext X
  replace r2' := r2'.ext X
  refine (szChain_any _ _ _ _ _ _ hm1 (by omega) (by omega)).mono ?_
  rintro e w1 ⟨rfl, hx⟩
  replace X := X.trans hx; replace b1 := b1.ext hx; replace b2 := b2.ext hx; replace r1' := r1'.ext hx; replace r2' := r2'.ext hx
  clear hx W
  by_cases h : (1048576 : Int) - bs.length < 0
  · rw [if_pos h]
    go_wp2_with fail
    go_ret
    exact ⟨rfl, X⟩
  · rw [if_neg h]
    obtain ⟨c1a, c1b⟩ := b1.two
    obtain ⟨c2a, c2b⟩ := b2.two
    go_wp2_with fail
    refine (szChain_any _ _ _ _ _ _ hm2 (by omega) (by omega)).mono ?_
    rintro e w2 ⟨rfl, hx⟩
    clear c1a c1b c2a c2b
    replace X := X.trans hx; replace b1 := b1.ext hx; replace b2 := b2.ext hx; replace r1' := r1'.ext hx; replace r2' := r2'.ext hx
    clear hx w1
    by_cases h2 : (1048576 : Int) - bs.length - cs.length < 0
    · rw [if_pos h2]
      go_wp2_with fail
      go_ret
      exact ⟨rfl, X⟩
    · rw [if_neg h2]
      go_wp2_with fail
      refine wp_region_rel 6 (fun i v => match i with | 1 => ChV p bs v | 3 => ChV q cs v | _ => v = .bool (chEqB p q bs cs))
        (fun i v w => match i with | 1 => ChW p bs v w | 3 => ChW q cs v w | _ => True) (by kernel_rfl) (by kernel_rfl) (by kernel_rfl) ?_
      dsimp only [List.take, List.drop, List.length]
      refine LX_det (.agg #[.int .i64 p, .slice a1 bs.length c1]) rfl rfl (fun w' hx _ => ?_) ?_
      · obtain ⟨c1a, c1b⟩ := (b1.ext hx).two
        go_simp
      refine LX_call rfl rfl (ChW.st p bs) (fun w' hx _ => ?_) ?_
      · go_simp
        refine UponC.enter ((toChain_any p a1 c1 _ bs _ (r1'.ext hx) (by omega)).mono ?_)
        rintro e w'' ⟨g, rfl, hx', hr⟩
        exact ⟨_, rfl, hx', ⟨g, rfl⟩, g, rfl, hr⟩
      rintro _ ⟨g1, rfl⟩
      refine LX_det (.agg #[.int .i64 q, .slice a2 cs.length c2]) rfl rfl (fun w' hx _ => ?_) ?_
      · obtain ⟨c2a, c2b⟩ := (b2.ext hx).two
        go_simp
      refine LX_call rfl rfl (ChW.st q cs) (fun w' hx _ => ?_) ?_
      · go_simp
        refine UponC.enter ((toChain_any q a2 c2 _ cs _ (r2'.ext hx) (by omega)).mono ?_)
        rintro e w'' ⟨g, rfl, hx', hr⟩
        exact ⟨_, rfl, hx', ⟨g, rfl⟩, g, rfl, hr⟩
      rintro _ ⟨g2, rfl⟩
      refine LX_call rfl rfl (fun _ => St.top) (fun w' hx hg => ?_) ?_
      · have k1 := hg 21 (by decide)
        have k2 := hg 23 (by decide)
        have h1 := ChW.rd (show ChW p bs _ w' from k1.1.1.2 rfl)
        have h2 := ChW.rd (show ChW q cs _ w' from k2.2 rfl)
        clear k1 k2 hg
        go_simp
        refine UponC.enter ((specSameChain_any p q _ _ bs cs _ h1 h2).mono ?_)
        rintro e w'' ⟨rfl, hx'⟩
        exact ⟨_, rfl, hx', rfl, trivial⟩
      rintro _ rfl
      refine LX_det (.bool (chEqB p q bs cs)) rfl rfl (fun w' hx _ => ?_) ?_
      · go_simp
      refine LX_nil fun w3 hx hg => ?_
      replace X := X.trans hx; replace b1 := b1.ext hx; replace b2 := b2.ext hx; replace r1' := r1'.ext hx; replace r2' := r2'.ext hx
      clear hx hg w2
      refine wpList_nil ?_
      simp only [Act.put, List.setIfInBounds_toArray, List.set_cons_succ, List.set_cons_zero]
      obtain ⟨c1a, c1b⟩ := b1.two
      obtain ⟨c2a, c2b⟩ := b2.two
      go_wp2_with fail
      refine (toChain_any p a1 c1 _ bs _ r1' (by omega)).mono ?_
      rintro e w4 ⟨g3, rfl, hx, r3⟩
      clear c1a c1b c2a c2b
      replace X := X.trans hx; replace b1 := b1.ext hx; replace b2 := b2.ext hx; replace r1' := r1'.ext hx; replace r2' := r2'.ext hx
      clear hx w3
      obtain ⟨c1a, c1b⟩ := b1.two
      obtain ⟨c2a, c2b⟩ := b2.two
      have z1 := b1.1
      have z2 := b2.1
      go_wp2_with fail
      have b3 : Bx (w4.alloc (.cells #[.int .i64 p, .slice (some ⟨g3, 0, none⟩) bs.length bs.length] 35)) w4.heap.size [.int .i64 p, .slice (some ⟨g3, 0, none⟩) bs.length bs.length] := Bx.new _ _ _
      generalize hW : World.alloc w4 _ = W at b3
      have hx : Ext w4 W := hW ▸ Ext.alloc _ _
      clear hW c1a c1b c2a c2b z1 z2
      replace X := X.trans hx; replace b1 := b1.ext hx; replace b2 := b2.ext hx; replace r1' := r1'.ext hx; replace r2' := r2'.ext hx; replace r3 := r3.ext hx
      clear hx
      generalize w4.heap.size = B3 at *
      clear w4
      refine (toChain_any q a2 c2 _ cs _ r2' (by omega)).mono ?_
      rintro e w5 ⟨g4, rfl, hx, r4⟩
      replace X := X.trans hx; replace b1 := b1.ext hx; replace b2 := b2.ext hx; replace r1' := r1'.ext hx; replace r2' := r2'.ext hx; replace r3 := r3.ext hx; replace b3 := b3.ext hx
      clear hx W
      obtain ⟨c1a, c1b⟩ := b1.two
      obtain ⟨c2a, c2b⟩ := b2.two
      obtain ⟨c3a, c3b⟩ := b3.two
      have z1 := b1.1
      have z2 := b2.1
      have z3 := b3.1
      go_wp2_with fail
      have b4 : Bx (w5.alloc (.cells #[.int .i64 q, .slice (some ⟨g4, 0, none⟩) cs.length cs.length] 35)) w5.heap.size [.int .i64 q, .slice (some ⟨g4, 0, none⟩) cs.length cs.length] := Bx.new _ _ _
      generalize hW : World.alloc w5 _ = W at b4
      have hx : Ext w5 W := hW ▸ Ext.alloc _ _
      clear hW c1a c1b c2a c2b c3a c3b z1 z2 z3
      replace X := X.trans hx; replace b1 := b1.ext hx; replace b2 := b2.ext hx; replace b3 := b3.ext hx; replace r1' := r1'.ext hx; replace r2' := r2'.ext hx; replace r3 := r3.ext hx; replace r4 := r4.ext hx
      clear hx
      generalize w5.heap.size = B4 at *
      clear w5
      refine (implSameChain_any p q _ _ bs cs _ r3 r4).mono ?_
      rintro e w6 ⟨rfl, hx⟩
      replace X := X.trans hx; replace b1 := b1.ext hx; replace b2 := b2.ext hx; replace b3 := b3.ext hx; replace r1' := r1'.ext hx; replace r2' := r2'.ext hx; replace r3 := r3.ext hx; replace r4 := r4.ext hx; replace b4 := b4.ext hx
      clear hx W
      go_wp2_with fail
      refine wp_region_rel 5 (fun i v => match i with | 2 => ChV p bs v | _ => v = .bool true)
        (fun i v w => match i with | 2 => ChW p bs v w | _ => True) (by kernel_rfl) (by kernel_rfl) (by kernel_rfl) ?_
      dsimp only [List.take, List.drop, List.length]
      refine LX_det (.agg #[.int .i64 p, .slice (some ⟨g3, 0, none⟩) bs.length bs.length]) rfl rfl (fun w' hx _ => ?_) ?_
      · obtain ⟨k1, k2⟩ := (b3.ext hx).two
        go_simp
      refine LX_det (.agg #[.int .i64 p, .slice a1 bs.length c1]) rfl rfl (fun w' hx _ => ?_) ?_
      · obtain ⟨k1, k2⟩ := (b1.ext hx).two
        go_simp
      refine LX_call rfl rfl (ChW.st p bs) (fun w' hx _ => ?_) ?_
      · go_simp
        refine UponC.enter ((toChain_any p a1 c1 _ bs _ (r1'.ext hx) (by omega)).mono ?_)
        rintro e w'' ⟨g, rfl, hx', hr⟩
        exact ⟨_, rfl, hx', ⟨g, rfl⟩, g, rfl, hr⟩
      rintro _ ⟨g5, rfl⟩
      refine LX_call rfl rfl (fun _ => St.top) (fun w' hx hg => ?_) ?_
      · have h1 := ChW.rd (show ChW p bs _ w' from (hg 37 (by decide)).2 rfl)
        clear hg
        go_simp
        refine UponC.enter ((eqChain_any p _ _ bs bs _ (r3.ext hx) h1 rfl).mono ?_)
        rintro e w'' ⟨rfl, hx'⟩
        exact ⟨_, rfl, hx', rfl, trivial⟩
      rintro _ rfl
      refine LX_det (.bool false) rfl rfl (fun w' hx _ => ?_) ?_
      · go_simp
      refine LX_nil fun W hx hg => ?_
      replace X := X.trans hx; replace b1 := b1.ext hx; replace b2 := b2.ext hx; replace b3 := b3.ext hx; replace r1' := r1'.ext hx; replace r2' := r2'.ext hx; replace r3 := r3.ext hx; replace r4 := r4.ext hx; replace b4 := b4.ext hx
      clear hx hg
      refine wpList_nil ?_
      simp only [Act.put, List.setIfInBounds_toArray, List.set_cons_succ, List.set_cons_zero]
      go_wp2_with fail
      refine wp_region_rel 5 (fun i v => match i with | 2 => ChV q cs v | _ => v = .bool true)
        (fun i v w => match i with | 2 => ChW q cs v w | _ => True) (by kernel_rfl) (by kernel_rfl) (by kernel_rfl) ?_
      dsimp only [List.take, List.drop, List.length]
      refine LX_det (.agg #[.int .i64 q, .slice (some ⟨g4, 0, none⟩) cs.length cs.length]) rfl rfl (fun w' hx _ => ?_) ?_
      · obtain ⟨k1, k2⟩ := (b4.ext hx).two
        go_simp
      refine LX_det (.agg #[.int .i64 q, .slice a2 cs.length c2]) rfl rfl (fun w' hx _ => ?_) ?_
      · obtain ⟨k1, k2⟩ := (b2.ext hx).two
        go_simp
      refine LX_call rfl rfl (ChW.st q cs) (fun w' hx _ => ?_) ?_
      · go_simp
        refine UponC.enter ((toChain_any q a2 c2 _ cs _ (r2'.ext hx) (by omega)).mono ?_)
        rintro e w'' ⟨g, rfl, hx', hr⟩
        exact ⟨_, rfl, hx', ⟨g, rfl⟩, g, rfl, hr⟩
      rintro _ ⟨g5, rfl⟩
      refine LX_call rfl rfl (fun _ => St.top) (fun w' hx hg => ?_) ?_
      · have h1 := ChW.rd (show ChW q cs _ w' from (hg 42 (by decide)).2 rfl)
        clear hg
        go_simp
        refine UponC.enter ((eqChain_any q _ _ cs cs _ (r4.ext hx) h1 rfl).mono ?_)
        rintro e w'' ⟨rfl, hx'⟩
        exact ⟨_, rfl, hx', rfl, trivial⟩
      rintro _ rfl
      refine LX_det (.bool false) rfl rfl (fun w' hx _ => ?_) ?_
      · go_simp
      refine LX_nil fun W hx hg => ?_
      replace X := X.trans hx; replace b1 := b1.ext hx; replace b2 := b2.ext hx; replace b3 := b3.ext hx; replace r1' := r1'.ext hx; replace r2' := r2'.ext hx; replace r3 := r3.ext hx; replace r4 := r4.ext hx; replace b4 := b4.ext hx
      clear hx hg
      refine wpList_nil ?_
      simp only [Act.put, List.setIfInBounds_toArray, List.set_cons_succ, List.set_cons_zero]
      go_wp2_with fail
      go_ret
      exact ⟨rfl, X⟩
theorem sameChain_walk (v1 v2 : Value) (w : World) (h1 : ArgChain w v1) (h2 : ArgChain w v2) :
    Calls Try.prog 5 #[v1, v2] w fun e w' => e = .returned (.bool true) ∧ Ext w w' := by
  obtain ⟨p, a, l, c, bs, rfl, _, r1⟩ := h1
  obtain ⟨q, a', l', c', cs, rfl, _, r2⟩ := h2
  exact sameChain_law p q _ _ bs cs w r1 r2

theorem fnExactSameChain_own : ownKnob Try.prog.godebug = none := by kernel_rfl
theorem fnExactSameChain_laid : laidOutB Try.prog = true := by kernel_rfl

set_option maxRecDepth 100000 in
theorem fnExactSameChain_lifted (os : Os) (started : os.Started) (H : Type) (enc : TypeId × Value → H) :
    ReturnsInHanded {} Try.checked os 5 .any (Rows.fnExactSameChainSpec.pre6 enc Try.prog Try.f5 Rows.fnExactSameChainRow.domain false) (Rows.fnExactSameChainSpec.post enc Try.prog Try.f5 false true false false) := by
  refine returnsInHanded_of_change (C := Try.checked) fnExactSameChain_own started (by kernel_rfl) Try.func5
    (ChangeSpec.witness6 (enc := enc) (C := Try.checked) false ⟨#[], #[.agg #[.int .i64 0, .slice none 0 0], .agg #[.int .i64 0, .slice none 0 0]], []⟩ 8 (by kernel_rfl) (by kernel_rfl) (by kernel_rfl) (by kernel_rfl)) ?_
  intro W base args ds gs before hval0 hW hcnd _
  have hval : ∀ (j : Nat) t v, Try.f5.params[j]? = some t → args[j]? = some v → Value.okWide Try.prog W .any base t v := hval0
  have hW' := hW
  obtain ⟨p, q, hA0, hV, rfl, hfz, hnd⟩ := hW
  have hA : DataW.TrodAll enc Try.prog W 0 (fun _ => true) true Try.f5.params.toList args.toList ds p := hA0
  rw [Try.params5] at hA hval
  obtain ⟨v0, vs0, d0, ds0, p0, q0, hargs, rfl, rfl, h0, r0⟩ := trodAll_cons hA
  obtain ⟨v1, vs1, d1, ds1, p1, q1, rfl, rfl, rfl, h1, r1⟩ := trodAll_cons r0
  obtain ⟨rfl, rfl, rfl⟩ := trodAll_nil r1
  obtain rfl : args = #[v0, v1] := by cases args; simp_all
  obtain ⟨rfl, rfl⟩ := trodVars_none hV
  have lt0 : ∀ x ∈ p0, x.block < W.heap.size := by obtain ⟨m, hm⟩ := h0; exact DataW.trod_lt m _ _ _ hm
  have w0 := argChain Try.underlying32 (by kernel_rfl) (by kernel_rfl) Try.underlying2 Try.underlying30 Try.underlying40 (by kernel_rfl) (hval 0 32 v0 rfl rfl) h0
  have lt1 : ∀ x ∈ p1, x.block < W.heap.size := by obtain ⟨m, hm⟩ := h1; exact DataW.trod_lt m _ _ _ hm
  have w1 := argChain Try.underlying32 (by kernel_rfl) (by kernel_rfl) Try.underlying2 Try.underlying30 Try.underlying40 (by kernel_rfl) (hval 1 32 v1 rfl rfl) h1
  clear hA0 hval0
  refine (sameChain_walk v0 v1 W w0 w1).mono fun e W' ⟨he, bel⟩ => ?_
  subst he
  exact ⟨_, rfl, _, _, _, [], _, [], hW', trodAll_mk1 (shut_bool Try.underlying4 _), (trodAll_cons_mk (Below.trod fnExactSameChain_laid (by kernel_rfl) (of_decide_eq_true (by kernel_rfl)) h0 bel lt0) (trodAll_cons_mk (Below.trod fnExactSameChain_laid (by kernel_rfl) (of_decide_eq_true (by kernel_rfl)) h1 bel lt1) trodAll_mk0)), rfl, bel.below.frame _, fun h => by cases h⟩

theorem fnExactSameChain_toL {s : String} {L : List Char} (h : s = String.ofList L) : s.toList = L := by rw [h]; exact String.toList_ofList
def fnExactSameChain_enterF (P : Program) : { F : List Char → Bool // P.mayEnter = F P.initOrder.toList } :=
  ⟨_, by unfold Program.mayEnter; generalize P.initOrder.toList = l; exact rfl⟩
def fnExactSameChain_liftsF (P : Program) : { F : List Char → Bool // P.liftsFinal = F P.initOrder.toList } :=
  ⟨_, by unfold Program.liftsFinal Program.headLifts; generalize P.initOrder.toList = l; exact rfl⟩
def fnExactSameChain_makeF (P : Program) : { F : List Char → Option Make // P.make = F P.initOrder.toList } :=
  ⟨_, by unfold Program.make; generalize P.initOrder.toList = l; exact rfl⟩
set_option maxRecDepth 100000 in
theorem fnExactSameChain_enter : Try.checked.prog.mayEnter = true :=
  ((fnExactSameChain_enterF Try.checked.prog).2.trans (congrArg (fnExactSameChain_enterF Try.checked.prog).1 (fnExactSameChain_toL (rfl : Try.checked.prog.initOrder = String.ofList _)))).trans (by kernel_rfl)
set_option maxRecDepth 100000 in
theorem fnExactSameChain_lifts : Try.checked.prog.liftsFinal = false :=
  ((fnExactSameChain_liftsF Try.checked.prog).2.trans (congrArg (fnExactSameChain_liftsF Try.checked.prog).1 (fnExactSameChain_toL (rfl : Try.checked.prog.initOrder = String.ofList _)))).trans (by kernel_rfl)
set_option maxRecDepth 100000 in
theorem fnExactSameChain_make : Try.checked.prog.make = some .cut :=
  ((fnExactSameChain_makeF Try.checked.prog).2.trans (congrArg (fnExactSameChain_makeF Try.checked.prog).1 (fnExactSameChain_toL (rfl : Try.checked.prog.initOrder = String.ofList _)))).trans (by kernel_rfl)
set_option maxRecDepth 100000 in
theorem fnExactSameChain_closed : joinedFacts Try.checked.prog 5 Try.f5 Rows.fnExactSameChainSpec Rows.fnExactSameChainRow = true := by
  unfold joinedFacts
  rw [fnExactSameChain_enter, fnExactSameChain_lifts, fnExactSameChain_make]
  decide +kernel

theorem fnExactSameChain_over : Rows.fnExactSameChainRow.holds Try.pinned (OpenSpec.ofChange Rows.fnExactSameChainSpec) :=
  OpenClaim.holds_of_wide 5 Try.f5 rfl rfl rfl rfl rfl rfl rfl ⟨rfl, rfl, rfl, rfl, rfl⟩ rfl rfl rfl rfl rfl (by kernel_rfl) Try.func5 fnExactSameChain_closed
    (of_decide_eq_true (by kernel_rfl)) (by unfold Func.isWrapper; first | (rw [if_pos (by decide +kernel)]; kernel_rfl) | (rw [if_neg (by decide +kernel)]; exact ⟨rfl, rfl⟩))
    (fun os started H enc _ => fnExactSameChain_lifted os started H enc)

/-- The statement. -/
theorem fnExactSameChain_holds : Rows.FnExactSameChainSaid := fnExactSameChain_over


end Go.Proofs.Ytnlnjhbckfcmfaa
