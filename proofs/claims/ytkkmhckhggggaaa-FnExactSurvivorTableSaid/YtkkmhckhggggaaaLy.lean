
/- FnExactSurvivorTable returns true for every input and changes nothing that was there. No condition. Ahead of it: what the reference and the program hand back for valid lives, at SurvivorTable and HazardSums. -/
import Derived.Test.YtkkmhckhggggaaaLv
import Derived.Test.YtkkmhckhggggaaaLA
namespace Go.Proofs.Ytkkmhckhggggaaa
open Go Go.RowKit Go.ChangeShapes Go.WideShapes Go.ChangeAt

attribute [local go_sem] run_store_float

set_option maxRecDepth 100000 in
set_option maxHeartbeats 8000000 in
theorem l02Table_any (v : Value) (ls : List Lf) (w : World) (r : RdL w v ls) (h0 : 0 < ls.length) (hz : ls.length ≤ 1048576) (hok : AllOk ls) :
    Calls Try.prog 76 #[v] w fun e w' => ∃ v', e = .returned v' ∧ OwN w.heap.size w' v' (survL ls) ∧ Ext w w' := by
  have HF := Lib.hid (l02Times_any v ls w r h0 hz hok)
  have HA := Lib.hid (fun W r t => l02Quotient_any v ls t W r hz)
  have HTR := Lib.hid (fun (W : World) (B g cap : Nat) => times_rd (w := W) (B := B) (g := g) (cap := cap) hok)
  have hlen := timesL_len ls
  have r' := r
  clear hok
  obtain ⟨⟨-, a1, c1, rfl, -, -, -, -⟩, -⟩ := r
  go_enter Try.func76, Try.ntmps76
  go_wp2_with fail
  refine HF.out.mono ?_
  rintro e w1 ⟨g, cap, rfl, own, X⟩
  have R := HTR.out _ _ _ _ own
  have HTS : Hid (survL ls = scanK (survF ls) one1 (timesL ls) (timesL ls).length) := rfl
  generalize timesL ls = T at *
  clear HF HTR own
  go_wp2_with fail
  go_loopw [6, 5, 4] (fun i s o wr => ∃ (k sb g2 cap2 : Nat) (us : List Nat), k ≤ T.length ∧ i = .int .i64 k ∧ s = .float .f32 sb ∧ o = .slice (some ⟨g2, 0, none⟩) k cap2 ∧ us.length = k ∧ Hid (cn .f32 sb = accK (survF ls) one1 T k) ∧ Hid (us.map (cn .f32) = scanK (survF ls) one1 T k) ∧ Hid (∀ b ∈ us, b < 4294967296) ∧
      wr.ownsRow w1.heap.size 36 1 (.slice (some ⟨g2, 0, none⟩) k cap2) k (us.map (Value.float .f32)) ∧ Ext w1 wr) (fun i _ _ _ => T.length - (intOf i).toNat)
  case atStart => exact ⟨0, 1065353216, _, _, [], Nat.zero_le _, rfl, rfl, rfl, rfl, rfl, rfl, (by show ∀ _ ∈ _, _; simp), World.ownsRow_lit w1 #[] 0 (Nat.le_refl _) (by decide) rfl, Ext.alloc _ _⟩
  case round =>
    obtain ⟨k, sb, g2, cap2, us, hk, rfl, rfl, rfl, hul, HS, HU, HB, own, X2⟩ := hrel
    by_cases hlt : k < T.length
    · obtain ⟨b1, o1, hbo, hb1, hc1⟩ := (R.ext X2).at hlt
      obtain ⟨rfl, rfl⟩ : g = b1 ∧ 0 = o1 := by simpa using hbo
      rw [Nat.zero_add] at hc1
      have HSU : Hid (accK (survF ls) one1 T (k + 1) = fop .mul .f32 (accK (survF ls) one1 T k) (fop .sub .f32 one1 (quotL ls T[k]))) := accK_succ hlt
      have HSC := Lib.hid (scanK_succ (survF ls) one1 T k)
      generalize T[k] = t at *
      clear hbo
      go_wp2_with fail
      refine (HA.out _ ((r'.ext X).ext X2) t).mono ?_
      rintro e w2 ⟨qb, rfl, hq1, hq2, hx⟩
      have HQ1 := Lib.hid hq1
      have HQ2 := Lib.hid hq2
      replace X2 := X2.trans hx
      replace own := own_ext own hx
      clear hx hc1 hb1 hq1 hq2
      go_wp2_with (first | (refine wpList_fop rfl rfl rfl rfl rfl ?_; intro fb nf hfb hfl; replace hfb := Lib.hid hfb; replace hfl := Lib.hid hfl) | (at_builtin; refine wpList_push (v := .slice (some ⟨g2, 0, none⟩) k cap2) infoF32 rfl Try.underlying31 rfl rfl rfl (World.ownsRow.alloc (w := World.drewN _ _) (own_ext own (Ext.drewN _ _)) _) rfl (Bx.new _ [_] _).one rfl (by omega) (by decide) (X2.trans ((Ext.drewN _ _).trans (Ext.alloc _ _))).size ?_; intro g3 cap3 w4 hg3 own3 bel3 sz3))
      rename_i b1 n1 e1 l1
      have N1 : Hid (cn .f32 fb = accK (survF ls) one1 T (k + 1)) := by
        show _ = _; rw [HSU.out, hfb.out, e1.out, HS.out, HQ1.out]; rfl
      have N2 : Hid ((us ++ [fb]).map (cn .f32) = scanK (survF ls) one1 T (k + 1)) := by
        show _ = _; rw [List.map_append, HU.out, HSC.out, List.map_cons, N1.out]; rfl
      have N3 : Hid (∀ b ∈ us ++ [fb], b < 4294967296) := by
        show ∀ _ ∈ _, _
        intro x hx
        rcases List.mem_append.1 hx with h | h
        · exact HB.out x h
        · obtain rfl := List.mem_singleton.1 h; exact hfl.out
      go_roundw
      case rel => exact ⟨k + 1, fb, g3, cap3, us ++ [fb], by omega, by go_num, rfl, rfl, by simp [hul], N1, N2, N3, by rw [List.map_append]; exact own3, bel3 _ (X2.trans ((Ext.drewN _ _).trans (Ext.alloc _ _)))⟩
      case measure => simp [intOf]; omega
    · obtain rfl : k = T.length := by omega
      go_wp2_with fail
      go_ret
      have hU := HU.out
      have hB := HB.out
      exact ⟨_, rfl, ⟨g2, cap2, us, by rw [hul]; rfl, by rw [HTS.out]; exact hU, hB, by rw [hul]; exact World.ownsRow.mono own X.size⟩, X.trans X2⟩

def stbO (ls : List Lf) : Option (List Nat) := if livesB ls then some (survL ls) else none
theorem specSurvivorTable_any (v : Value) (ls : List Lf) (w : World) (r : RdL w v ls) : Calls Try.prog 43 #[v] w (FlPost (stbO ls) w) := by
  cases h : livesB ls
  · have H : Hid (stbO ls = none) := by show _ = _; unfold stbO; rw [h]; rfl
    have HA := Lib.hid (l02Lives_any v ls w r)
    rw [h] at HA
    clear h
    obtain ⟨⟨_, a1, c1, rfl, p1, p2, _, _⟩, _⟩ := r
    go_enter Try.func43, Try.ntmps43
    go_wp2_with fail
    refine HA.out.mono ?_
    rintro e w1 ⟨rfl, X⟩
    go_wp2_with fail
    go_ret2
    rw [H.out]
    exact ⟨X, rfl⟩
  · have H : Hid (stbO ls = some (survL ls)) := by show _ = _; unfold stbO; rw [h]; rfl
    have HA := Lib.hid (l02Lives_any v ls w r)
    have hl := livesB_len h
    have hk := livesB_ok h r.2
    have HK := Lib.hid hk
    have r' := r
    rw [h] at HA
    clear h hk
    obtain ⟨⟨_, a1, c1, rfl, p1, p2, _, _⟩, _⟩ := r
    go_enter Try.func43, Try.ntmps43
    go_wp2_with fail
    refine HA.out.mono ?_
    rintro e w1 ⟨rfl, X⟩
    go_wp2_with fail
    refine (l02Table_any _ ls _ (r'.ext X) hl.1 (by omega) HK.out).mono ?_
    rintro e w2 ⟨v', rfl, own, X2⟩
    go_wp2_with fail
    go_ret2
    rw [H.out]
    exact own.post X X2
theorem implSurvivorTable_any (v : Value) (ls : List Lf) (w : World) (r : RdL w v ls) : Calls Try.prog 44 #[v] w (FlPost (stbO ls) w) := by
  cases h : livesB ls
  · have H : Hid (stbO ls = none) := by show _ = _; unfold stbO; rw [h]; rfl
    have HA := Lib.hid (areLives_any v ls w r)
    rw [h] at HA
    clear h
    obtain ⟨⟨_, a1, c1, rfl, p1, p2, _, _⟩, _⟩ := r
    go_enter Try.func44, Try.ntmps44
    go_wp2_with fail
    refine HA.out.mono ?_
    rintro e w1 ⟨rfl, X⟩
    go_wp2_with fail
    go_ret2
    rw [H.out]
    exact ⟨X, rfl⟩
  · have H : Hid (stbO ls = some (survL ls)) := by show _ = _; unfold stbO; rw [h]; rfl
    have HA := Lib.hid (areLives_any v ls w r)
    have hl := livesB_len h
    have hk := livesB_ok h r.2
    have HK := Lib.hid hk
    have r' := r
    rw [h] at HA
    clear h hk
    obtain ⟨⟨_, a1, c1, rfl, p1, p2, _, _⟩, _⟩ := r
    go_enter Try.func44, Try.ntmps44
    go_wp2_with fail
    refine HA.out.mono ?_
    rintro e w1 ⟨rfl, X⟩
    go_wp2_with fail
    refine (survivors_any _ ls _ (r'.ext X) hl.1 (by omega) HK.out).mono ?_
    rintro e w2 ⟨v', rfl, own, X2⟩
    go_wp2_with fail
    go_ret2
    rw [H.out]
    exact own.post X X2

set_option maxRecDepth 100000 in
set_option maxHeartbeats 4000000 in
theorem FnExactSurvivorTable_law (v : Value) (ls : List Lf) (o : Option (List Nat)) (w : World) (r : RdL w v ls)
    (hs : ∀ w v, RdL w v ls → Calls Try.prog 43 #[v] w (FlPost o w)) (hi : ∀ w v, RdL w v ls → Calls Try.prog 44 #[v] w (FlPost o w)) (hlen : (o.getD []).length ≤ 1048576) :
    Calls Try.prog 9 #[v] w fun e w' => e = .returned (.bool true) ∧ Ext w w' := by
  have HS := Lib.hid hs
  have HI := Lib.hid hi
  have r' := r
  obtain ⟨⟨-, a1, c1, rfl, p1, p2, -, -⟩, -⟩ := r
  have p3 : ls.length ≤ maxLen := Nat.le_trans p1 p2
  clear hs hi p1 p2
  by_cases hn : ls.length ≤ 1048576
  · go_enter Try.func9, Try.ntmps9
    go_wp2_with fail
    refine (szLifeS_any _ _ _ _ _ p3 (by decide) (by decide)).mono ?_
    rintro e w0 ⟨rfl, rfl⟩
    rw [if_neg (by omega)]
    have hge : ¬ (1048576 : Int) - ls.length < 0 := by omega
    go_wp2_with fail
    refine (toLifeS_any _ ls _ r' hn).mono ?_
    rintro e w1 ⟨g1, rfl, X1, own1⟩
    have r1 : RdL w1 (.slice (some ⟨g1, 0, none⟩) ls.length ls.length) ls := own1.rd r'.2
    clear own1
    go_wp2_with fail
    refine (HS.out _ _ r1).mono ?_
    intro e w2 h2
    obtain ⟨vs, rfl, os, X2⟩ := postF_own h2
    clear h2 r1
    generalize hZ : o.getD [] = zs at *
    have X02 : Ext w w2 := X1.trans X2
    go_wp2_with fail
    refine (toLifeS_any _ ls _ (r'.ext X02) hn).mono ?_
    rintro e w3 ⟨g3, rfl, X3, own3⟩
    have hx0 : RdL w3 (.slice (some ⟨g3, 0, none⟩) ls.length ls.length) ls := own3.rd r'.2
    have hg3 := own3.lt
    go_wp2_with fail
    refine (HI.out _ _ hx0).mono ?_
    intro e w4 h4
    obtain ⟨vi, rfl, oi, X4⟩ := postF_own h4
    rw [hZ] at oi
    clear h4
    have Y4 : Ext w2 w4 := Ext.trans X3 X4
    have hz3 : w3.heap.size ≤ w4.heap.size := X4.size
    have hs2 := X02.size
    have own4 := own3.ext X4
    clear own3 hx0
    go_wp2_with fail
    refine (eqF_eq oi (os.ext Y4)).mono ?_
    rintro e w5 ⟨rfl, X5⟩
    replace oi := oi.ext X5; replace own4 := own4.ext X5; replace Y4 := Ext.trans Y4 X5; replace hz3 := Nat.le_trans hz3 X5.size
    clear X5 X4
    go_wp2_with fail
    refine (toLifeS_any _ ls _ (r'.ext (X02.trans Y4)) hn).mono ?_
    rintro e w6 ⟨g6, rfl, X6, own6⟩
    have r6 : RdL w6 (.slice (some ⟨g6, 0, none⟩) ls.length ls.length) ls := own6.rd r'.2
    replace oi := oi.ext X6; replace own4 := own4.ext X6; replace Y4 := Ext.trans Y4 X6; replace hz3 := Nat.le_trans hz3 X6.size
    clear X6 own6
    go_wp2_with fail
    refine (eqLifeS_any _ _ ls ls _ (own4.rd r'.2) r6 rfl).mono ?_
    rintro e w7 ⟨rfl, X7⟩
    replace oi := oi.ext X7; replace own4 := own4.ext X7; replace Y4 := Ext.trans Y4 X7; replace hz3 := Nat.le_trans hz3 X7.size
    clear X7 r6
    go_wp2_with fail
    refine (markL_g 1 g3 ls.length w2.heap.size ls _ own4 (by decide) (by decide) hn).mono ?_
    rintro e w8 ⟨rfl, G8, -⟩
    replace oi := oi.grown G8 hg3.2; replace Y4 := Below.trans Y4 (grown_ext G8 hg3.1 Y4.size); replace hz3 := Nat.le_trans hz3 G8.size
    clear own4 G8
    go_wp2_with fail
    refine (eqF_eq oi (os.ext Y4)).mono ?_
    rintro e w9 ⟨rfl, X9⟩
    replace oi := oi.ext X9; replace Y4 := Ext.trans Y4 X9; replace hz3 := Nat.le_trans hz3 X9.size
    clear X9
    have hb3 := hz3
    go_wp2_with fail
    refine (markF_own 1 _ _ _ _ oi hb3 (by decide) (by decide) hlen).mono ?_
    rintro e w10 ⟨rfl, G10, oi2⟩
    replace Y4 := Below.trans Y4 (G10.mono X3.size)
    clear G10 oi hb3
    go_wp2_with fail
    refine (heldF_any 1 _ zs.length _ oi2 (by decide) (by decide) hlen).mono ?_
    rintro e w11 ⟨rfl, rfl⟩
    go_wp2_with fail
    refine (toLifeS_any _ ls _ (r'.ext (X02.trans Y4)) hn).mono ?_
    rintro e w12 ⟨g12, rfl, X12, own12⟩
    have r12 : RdL w12 (.slice (some ⟨g12, 0, none⟩) ls.length ls.length) ls := own12.rd r'.2
    replace oi2 := oi2.ext X12; replace Y4 := Ext.trans Y4 X12
    clear X12 own12
    go_wp2_with fail
    refine (HI.out _ _ r12).mono ?_
    intro e w13 h13
    obtain ⟨vh, rfl, oh, X13⟩ := postF_own h13
    rw [hZ] at oh
    replace oi2 := oi2.ext X13; replace Y4 := Ext.trans Y4 X13
    clear h13 X13
    go_wp2_with fail
    refine (eqF_eq oh (os.ext Y4)).mono ?_
    rintro e w14 ⟨rfl, X14⟩
    replace oi2 := oi2.ext X14; replace Y4 := Ext.trans Y4 X14
    clear X14
    go_wp2_with fail
    refine (heldF_any 1 _ zs.length _ oi2 (by decide) (by decide) hlen).mono ?_
    rintro e w15 ⟨rfl, rfl⟩
    go_wp2_with fail
    go_ret
    exact ⟨rfl, X02.trans Y4⟩
  · go_enter Try.func9, Try.ntmps9
    go_wp2_with fail
    refine (szLifeS_any _ _ _ _ _ p3 (by decide) (by decide)).mono ?_
    rintro e w0 ⟨rfl, rfl⟩
    rw [if_pos (by omega)]
    go_wp2_with fail
    go_ret
    exact ⟨rfl, Ext.refl _⟩

theorem survivorTable_walk (v : Value) (w : World) (h : ArgLives w v) :
    Calls Try.prog 9 #[v] w fun e w' => e = .returned (.bool true) ∧ Ext w w' := by
  obtain ⟨a, n, cap, ls, rfl, r⟩ := h
  refine FnExactSurvivorTable_law _ ls (stbO ls) w r (fun w v r => specSurvivorTable_any v ls w r) (fun w v r => implSurvivorTable_any v ls w r) ?_
  unfold stbO
  split
  · rename_i h; rw [Option.getD_some]; have := livesB_len h; have := timesL_len ls; unfold survL; rw [scanK_len]; omega
  · simp
theorem fnExactSurvivorTable_own : ownKnob Try.prog.godebug = none := by kernel_rfl
theorem fnExactSurvivorTable_laid : laidOutB Try.prog = true := by kernel_rfl

set_option maxRecDepth 100000 in
theorem fnExactSurvivorTable_lifted (os : Os) (started : os.Started) (H : Type) (enc : TypeId × Value → H) :
    ReturnsInHanded {} Try.checked os 9 .any (Rows.fnExactSurvivorTableSpec.pre6 enc Try.prog Try.f9 Rows.fnExactSurvivorTableRow.domain false) (Rows.fnExactSurvivorTableSpec.post enc Try.prog Try.f9 false true false false) := by
  refine returnsInHanded_of_change (C := Try.checked) fnExactSurvivorTable_own started (by kernel_rfl) Try.func9
    (ChangeSpec.witness6 (enc := enc) (C := Try.checked) false ⟨#[], #[.slice none 0 0], []⟩ 8 (by kernel_rfl) (by kernel_rfl) (by kernel_rfl) (by kernel_rfl)) ?_
  intro W base args ds gs before hval0 hW hcnd _
  have hval : ∀ (j : Nat) t v, Try.f9.params[j]? = some t → args[j]? = some v → Value.okWide Try.prog W .any base t v := hval0
  have hW' := hW
  obtain ⟨p, q, hA0, hV, rfl, hfz, hnd⟩ := hW
  have hA : DataW.TrodAll enc Try.prog W 0 (fun _ => true) true Try.f9.params.toList args.toList ds p := hA0
  rw [Try.params9] at hA hval
  obtain ⟨v0, vs0, d0, ds0, p0, q0, hargs, rfl, rfl, h0, r0⟩ := trodAll_cons hA
  obtain ⟨rfl, rfl, rfl⟩ := trodAll_nil r0
  obtain rfl : args = #[v0] := by cases args; simp_all
  obtain ⟨rfl, rfl⟩ := trodVars_none hV
  have lt0 : ∀ x ∈ p0, x.block < W.heap.size := by obtain ⟨m, hm⟩ := h0; exact DataW.trod_lt m _ _ _ hm
  have w0 := argLives Try.underlying22 Try.underlying80 (by kernel_rfl) (by kernel_rfl) Try.underlying36 Try.underlying4 (hval 0 22 v0 rfl rfl) h0
  clear hA0 hval0
  refine (survivorTable_walk v0 W w0).mono fun e W' ⟨he, bel⟩ => ?_
  subst he
  exact ⟨_, rfl, _, _, _, [], _, [], hW', trodAll_mk1 (shut_bool Try.underlying4 _), (trodAll_cons_mk (Below.trod fnExactSurvivorTable_laid (by kernel_rfl) (of_decide_eq_true (by kernel_rfl)) h0 bel lt0) trodAll_mk0), rfl, bel.below.frame _, fun h => by cases h⟩

theorem fnExactSurvivorTable_toL {s : String} {L : List Char} (h : s = String.ofList L) : s.toList = L := by rw [h]; exact String.toList_ofList
def fnExactSurvivorTable_enterF (P : Program) : { F : List Char → Bool // P.mayEnter = F P.initOrder.toList } :=
  ⟨_, by unfold Program.mayEnter; generalize P.initOrder.toList = l; exact rfl⟩
def fnExactSurvivorTable_liftsF (P : Program) : { F : List Char → Bool // P.liftsFinal = F P.initOrder.toList } :=
  ⟨_, by unfold Program.liftsFinal Program.headLifts; generalize P.initOrder.toList = l; exact rfl⟩
def fnExactSurvivorTable_makeF (P : Program) : { F : List Char → Option Make // P.make = F P.initOrder.toList } :=
  ⟨_, by unfold Program.make; generalize P.initOrder.toList = l; exact rfl⟩
set_option maxRecDepth 100000 in
theorem fnExactSurvivorTable_enter : Try.checked.prog.mayEnter = true :=
  ((fnExactSurvivorTable_enterF Try.checked.prog).2.trans (congrArg (fnExactSurvivorTable_enterF Try.checked.prog).1 (fnExactSurvivorTable_toL (rfl : Try.checked.prog.initOrder = String.ofList _)))).trans (by kernel_rfl)
set_option maxRecDepth 100000 in
theorem fnExactSurvivorTable_lifts : Try.checked.prog.liftsFinal = false :=
  ((fnExactSurvivorTable_liftsF Try.checked.prog).2.trans (congrArg (fnExactSurvivorTable_liftsF Try.checked.prog).1 (fnExactSurvivorTable_toL (rfl : Try.checked.prog.initOrder = String.ofList _)))).trans (by kernel_rfl)
set_option maxRecDepth 100000 in
theorem fnExactSurvivorTable_make : Try.checked.prog.make = some .cut :=
  ((fnExactSurvivorTable_makeF Try.checked.prog).2.trans (congrArg (fnExactSurvivorTable_makeF Try.checked.prog).1 (fnExactSurvivorTable_toL (rfl : Try.checked.prog.initOrder = String.ofList _)))).trans (by kernel_rfl)
set_option maxRecDepth 100000 in
theorem fnExactSurvivorTable_closed : joinedFacts Try.checked.prog 9 Try.f9 Rows.fnExactSurvivorTableSpec Rows.fnExactSurvivorTableRow = true := by
  unfold joinedFacts
  rw [fnExactSurvivorTable_enter, fnExactSurvivorTable_lifts, fnExactSurvivorTable_make]
  decide +kernel

theorem fnExactSurvivorTable_over : Rows.fnExactSurvivorTableRow.holds Try.pinned (OpenSpec.ofChange Rows.fnExactSurvivorTableSpec) :=
  OpenClaim.holds_of_wide 9 Try.f9 rfl rfl rfl rfl rfl rfl rfl ⟨rfl, rfl, rfl, rfl, rfl⟩ rfl rfl rfl rfl rfl (by kernel_rfl) Try.func9 fnExactSurvivorTable_closed
    (of_decide_eq_true (by kernel_rfl)) (by unfold Func.isWrapper; first | (rw [if_pos (by decide +kernel)]; kernel_rfl) | (rw [if_neg (by decide +kernel)]; exact ⟨rfl, rfl⟩))
    (fun os started H enc _ => fnExactSurvivorTable_lifted os started H enc)

/-- The statement. -/
theorem fnExactSurvivorTable_holds : Rows.FnExactSurvivorTableSaid := fnExactSurvivorTable_over

end Go.Proofs.Ytkkmhckhggggaaa
