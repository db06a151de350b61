
/- FnTables returns true for every input and changes nothing that was there. No condition. -/
import Derived.Test.YtlbmjeennpccmaaUg
namespace Go.Proofs.Ytlbmjeennpccmaa
open Go Go.RowKit Go.ChangeShapes Go.WideShapes Go.ChangeAt

attribute [local irreducible] LX tw
theorem map_cn_num : ∀ {os xs : List Nat}, os.map (cn .f32) = xs → (∀ x ∈ xs, isN .f32 x = false) → os = xs
  | [], [], _, _ => rfl
  | o :: os, x :: xs, h, hn => by
    simp only [List.map_cons, List.cons.injEq] at h
    rw [map_cn_num h.2 fun y hy => hn y (List.mem_cons_of_mem _ hy)]
    congr 1
    exact bits_of h.1 (hn x (by simp))
  | [], _ :: _, h, _ => by cases h
  | _ :: _, [], h, _ => by cases h
theorem survL_num {ls : List Lf} (hd : Drawn ls) (hl : ls.length ≤ 16) : ∀ x ∈ survL ls, isN .f32 x = false := by
  intro x hx
  unfold survL scanK at hx
  rw [List.mem_map] at hx
  obtain ⟨k, hk, rfl⟩ := hx
  exact (sK_all hd hl (k + 1) (by have := List.mem_range.1 hk; omega)).1.notN
theorem hazL_num {ls : List Lf} (hd : Drawn ls) (hl : ls.length ≤ 16) : ∀ x ∈ hazL ls, isN .f32 x = false := by
  intro x hx
  unfold hazL scanK at hx
  rw [List.mem_map] at hx
  obtain ⟨k, hk, rfl⟩ := hx
  exact (hK_all hd hl (k + 1) (by have := List.mem_range.1 hk; omega)).1.notN
/-- A list that is handed back, by its cells. -/
def CF (w : World) (g n : Nat) (f : Nat → Nat) : Prop := ∀ W, Ext w W → ∀ k, k < n → g < W.heap.size ∧ W.cell? ⟨g, k, none⟩ = some (.float .f32 (f k))
theorem cf_of {w : World} {B g cap : Nat} {os xs : List Nat} (own : w.ownsRow B 24 1 (.slice (some ⟨g, 0, none⟩) os.length cap) os.length (os.map (Value.float .f32))) (h : os.map (cn .f32) = xs) (hn : ∀ x ∈ xs, isN .f32 x = false) : CF w g xs.length fun k => xs.getD k 0 := by
  intro W hW k hk
  have he := map_cn_num h hn
  subst he
  have o2 := own_ext own hW
  refine ⟨(World.ownsRow.lt o2 g rfl).2, ?_⟩
  have h := World.ownsRow.cellAt o2 k (by omega)
  rw [h, List.getElem?_map, List.getElem?_eq_getElem hk]
  simp [List.getD_eq_getElem?_getD, hk]
theorem CF.ext {w w' : World} {g n : Nat} {f : Nat → Nat} (h : CF w g n f) (hx : Ext w w') : CF w' g n f := fun W hW => h W (hx.trans hW)
theorem CF.congr {w : World} {g n : Nat} {f f' : Nat → Nat} (h : CF w g n f) (he : ∀ k, k < n → f k = f' k) : CF w g n f' := fun W hW k hk => by rw [← he k hk]; exact h W hW k hk
theorem flPost_cf {o : Option (List Nat)} {xs : List Nat} {w w' : World} {e : Ending} (h : FlPost o w e w') (ho : o = some xs) (hn : ∀ x ∈ xs, isN .f32 x = false) :
    ∃ g cap, e = .returned (.tuple #[.slice (some ⟨g, 0, none⟩) xs.length cap, .bool true]) ∧ CF w' g xs.length (fun k => xs.getD k 0) ∧ Ext w w' := by
  subst ho
  obtain ⟨X, g, cap, os, rfl, h1, h2, own⟩ := h
  have hl : os.length = xs.length := by rw [← h1, List.length_map]
  exact ⟨g, cap, by rw [hl], cf_of own h1 hn, X⟩
theorem flPost_len {o : Option (List Nat)} {xs : List Nat} {w w' : World} {e : Ending} (h : FlPost o w e w') (ho : o = some xs) :
    ∃ g cap, e = .returned (.tuple #[.slice (some ⟨g, 0, none⟩) xs.length cap, .bool true]) ∧ Ext w w' := by
  subst ho
  obtain ⟨X, g, cap, os, rfl, h1, h2, own⟩ := h
  have hl : os.length = xs.length := by rw [← h1, List.length_map]
  exact ⟨g, cap, by rw [hl], X⟩
theorem hT_above : ((List.range 24).all fun k => aboveB (cn .f32 (hT k))) = true := by decide +kernel
theorem Drawn.lives {ls : List Lf} (h : Drawn ls) (h1 : 1 ≤ ls.length) (h2 : ls.length ≤ 48) : livesB ls = true := by
  unfold livesB
  rw [decide_eq_true h1, decide_eq_true h2, Bool.true_and, Bool.true_and, List.all_eq_true]
  intro x hx
  obtain ⟨k, hk, e⟩ := h x hx
  have h0 := hT_above
  rw [List.all_eq_true] at h0
  have h3 := h0 k (List.mem_range.2 hk)
  unfold timeB
  rw [e]; exact h3
/-- What is left to prove, as it stands. -/
structure Kept (R : Prop) : Prop where
  out : R
theorem r8Long_eqT {v1 v2 : Value} {xs ys : List Int} {c : Bool} (h : decide (48 < xs.length ∨ 48 < ys.length) = c) (w : World) (r1 : RdY w v1 xs) (r2 : RdY w v2 ys) :
    Calls Try.prog 21 #[v1, v2] w fun e w' => e = .returned (.bool c) ∧ w = w' := by subst h; exact r8Long_any v1 v2 xs ys w r1 r2
set_option maxRecDepth 100000 in
set_option maxHeartbeats 16000000 in
def fnTablesA : { R : Prop // Kept R → ∀ (v1 v2 : Value) (xs ys : List Int) (w : World) (r1 : RdY w v1 xs) (r2 : RdY w v2 ys),
    Calls Try.prog 8 #[v1, v2] w fun e w' => e = .returned (.bool true) ∧ Ext w w' } := by
  apply Subtype.mk
  intro hrest v1 v2 xs ys w r1 r2
  have r1' := r1
  have r2' := r2
  obtain ⟨⟨-, a1, c1, rfl, -, -, -, -⟩, -⟩ := r1
  obtain ⟨⟨-, a2, c2, rfl, -, -, -, -⟩, -⟩ := r2
  cases hlong : decide (48 < xs.length ∨ 48 < ys.length)
  · have HL := Lib.hid hlong
    have hxl : xs.length ≤ 48 ∧ ys.length ≤ 48 := by rw [decide_eq_false_iff_not] at hlong; omega
    clear hlong
    have hat : ∀ k n : Nat, 2 ≤ n → n ≤ 1000 → k ≤ 1000 → ∃ z : Nat, z < n ∧ ∀ w, RdY w (.slice a2 ys.length c2) ys → Calls Try.prog 22 #[.slice a2 ys.length c2, .int .i64 k, .int .i64 n] w fun e w' => e = .returned (.int .i64 (z : Nat)) ∧ w = w' :=
      fun k n h1 h2 h3 => ⟨at8 ys k n, at8_lt (by omega), fun w r => r8At_any _ ys k n w r h1 h2 h3⟩
    obtain ⟨n1, hn1, k1⟩ := hat 40 16 (by decide) (by decide) (by decide)
    obtain ⟨wd, hwd, k2⟩ := hat 41 6 (by decide) (by decide) (by decide)
    have K1 := Lib.hid k1
    have K2 := Lib.hid k2
    have HRL := Lib.hid (fun n v zs w r hl hn => r8Lives_any n v zs w r hl hn)
    obtain ⟨m, hm⟩ : ∃ m, m = n1 + 1 := ⟨_, rfl⟩
    have q1 : IntKind.i64.wrap (1 + (n1 : Int)) = (m : Int) := by rw [IntWalk.i64_in _ (by omega)]; omega
    have b1 : 1 ≤ m ∧ m ≤ 16 := by omega
    clear hat k1 k2 hm hn1
    have wa : (Try.prog.underlying 24).isSome = true := by kernel_rfl
    have wb : (Try.prog.underlying 30).isSome = true := by kernel_rfl
    go_enter Try.func8, Try.ntmps8
    go_wp2_with fail
    refine (r8Long_eqT HL.out _ r1' r2').mono ?_
    rintro e w1 ⟨rfl, rfl⟩
    go_wp2_with fail
    refine (K1.out _ r2').mono ?_
    rintro e w1 ⟨rfl, rfl⟩
    go_wp2_with fail
    refine (HRL.out m _ xs _ r1' (by omega) (by omega)).mono ?_
    rintro e w1 ⟨gl, pl, ls, rfl, hls, X, own, hd⟩
    have R : RdL w1 (.slice (some ⟨gl, 0, none⟩) ls.length pl) ls := own.rd hd.lt
    rw [hls] at R
    have HV := Lib.hid (hd.lives (by omega) (by omega))
    have HD := Lib.hid hd
    have hl16 : ls.length ≤ 16 := by omega
    clear own hd q1
    rw [hls]
    go_wp2_with fail
    -- ordered lives
    have h1 := implOrderLives_any _ ls w1 R
    rw [show ordO ls = some (ordL ls) from by unfold ordO; rw [HV.out]; rfl] at h1
    refine h1.mono ?_
    clear h1
    rintro e w2 ⟨X2, go, po, rfl, own⟩
    have RO : RdL w2 (.slice (some ⟨go, 0, none⟩) (ordL ls).length po) (ordL ls) := own.rd HD.out.ord.lt
    have hol := ordL_len ls
    rw [hol, hls] at RO
    rw [hol, hls]
    replace R := R.ext X2
    replace X := X.trans X2
    clear own X2
    go_wp2_with fail
    -- how many failed
    refine (countFailed_any _ ls _ R HV.out).mono ?_
    rintro e w3 ⟨rfl, X2⟩
    replace R := R.ext X2
    replace RO := RO.ext X2
    replace X := X.trans X2
    clear X2
    go_wp2_with fail
    -- the time of the test
    refine (timeOfTest_any _ ls _ R HV.out HD.out hl16).mono ?_
    rintro e w4 ⟨tb, rfl, hst, X2⟩
    have HST := Lib.hid hst
    replace R := R.ext X2
    replace RO := RO.ext X2
    replace X := X.trans X2
    clear X2 hst
    go_wp2_with fail
    -- times of failures
    refine (implFailureTimes_any _ ls _ R).mono ?_
    intro e w5 h5
    obtain ⟨gT, pT, rfl, CT, X2⟩ := flPost_cf h5 (show ftO ls = some (timesL ls) from by unfold ftO; rw [HV.out]; rfl) (fun t ht => (timesL_pos HD.out.ok t ht).num)
    replace R := R.ext X2
    replace RO := RO.ext X2
    replace X := X.trans X2
    clear X2 h5
    go_wp2_with fail
    -- survivors
    refine (implSurvivorTable_any _ ls _ R).mono ?_
    intro e w6 h5
    obtain ⟨gS, pS, rfl, CS, X2⟩ := flPost_cf h5 (show stbO ls = some (survL ls) from by unfold stbO; rw [HV.out]; rfl) (survL_num HD.out hl16)
    rw [survL_len ls] at CS ⊢
    replace R := R.ext X2
    replace RO := RO.ext X2
    replace CT := CT.ext X2
    replace X := X.trans X2
    clear X2 h5
    go_wp2_with fail
    -- survivors of the ordered lives
    refine (implSurvivorTable_any _ (ordL ls) _ RO).mono ?_
    intro e w7 h5
    have HVO : livesB (ordL ls) = true := HD.out.ord.lives (by omega) (by omega)
    obtain ⟨gQ, pQ, rfl, CQ, X2⟩ := flPost_cf h5 (show stbO (ordL ls) = some (survL ls) from by unfold stbO; rw [HVO, ← surv_ord ls]; rfl) (survL_num HD.out hl16)
    rw [survL_len ls] at CQ ⊢
    replace R := R.ext X2
    replace RO := RO.ext X2
    replace CT := CT.ext X2
    replace CS := CS.ext X2
    replace X := X.trans X2
    clear X2 h5 HVO
    go_wp2_with fail
    -- hazards
    refine (implHazardSums_any _ ls _ R).mono ?_
    intro e w8 h5
    obtain ⟨gH, pH, rfl, CH, X2⟩ := flPost_cf h5 (show hzO ls = some (hazL ls) from by unfold hzO; rw [HV.out]; rfl) (hazL_num HD.out hl16)
    rw [hazL_len ls] at CH ⊢
    replace R := R.ext X2
    replace RO := RO.ext X2
    replace CT := CT.ext X2
    replace CS := CS.ext X2
    replace CQ := CQ.ext X2
    replace X := X.trans X2
    clear X2 h5
    go_wp2_with fail
    -- spreads
    refine (implSurvivorSpreads_any _ ls _ R).mono ?_
    intro e w9 h5
    obtain ⟨gP, pP, rfl, X2⟩ := flPost_len h5 (spreads_some HD.out hl16 HV.out)
    rw [spL_len]
    replace R := R.ext X2
    replace RO := RO.ext X2
    replace CT := CT.ext X2
    replace CS := CS.ext X2
    replace CQ := CQ.ext X2
    replace CH := CH.ext X2
    replace X := X.trans X2
    clear X2 h5
    obtain ⟨sp1, sp2⟩ := spreads_len HD.out
    have hnone := times_none ls
    have hcf := cntF_le ls
    have htl := timesL_len ls
    obtain ⟨bz, hbz⟩ : ∃ bz, bz = decide (cntF ls = 0) := ⟨_, rfl⟩
    have z1 : (((timesL ls).length : Int) == 0) = bz := by rw [hbz, ← hnone, Bool.eq_iff_iff, beq_iff_eq, decide_eq_true_eq]; omega
    have z2 : (((cntF ls : Nat) : Int) == 0) = bz := by rw [hbz, Bool.eq_iff_iff, beq_iff_eq, decide_eq_true_eq]; omega
    have z3 : ¬ ((timesL ls).length : Int) < (spK ls : Int) := by omega
    have z4 : ¬ (spK ls : Int) + 1 < ((timesL ls).length : Int) := by omega
    -- what is read of the lists, by place
    have HCT : Hid (CF w9 gT (timesL ls).length fun k => (timesL ls).getD k 0) := CT
    have HCS : Hid (CF w9 gS (timesL ls).length fun k => sK ls (k + 1)) := CS.congr fun k hk => survL_get hk
    have HCQ : Hid (CF w9 gQ (timesL ls).length fun k => sK ls (k + 1)) := CQ.congr fun k hk => survL_get hk
    have HCH : Hid (CF w9 gH (timesL ls).length fun k => hK ls (k + 1)) := CH.congr fun k hk => hazL_get hk
    have HAL := Lib.hid (fun W r => areLives_any (.slice (some ⟨gl, 0, none⟩) m pl) ls W r)
    rw [HV.out] at HAL
    have HN : Hid ((timesL ls).length ≤ 16) := Nat.le_trans htl hl16
    have hcf16 : cntF ls ≤ 16 := by omega
    have htl16 : (timesL ls).length ≤ 16 := by omega
    have hsp16 : spK ls ≤ 16 := by omega
    clear CT CS CQ CH hbz hnone sp1 sp2 hcf htl
    generalize spK ls = sp at *
    generalize hTN : (timesL ls).length = n at *
    have HTN := Lib.hid hTN
    clear hTN
    generalize hCN : cntF ls = C at *
    have HCN := Lib.hid hCN
    clear hCN
    go_wp2_with fail
    refine (HAL.out _ R).mono ?_
    rintro e w10 ⟨rfl, X2⟩
    replace R := R.ext X2
    replace RO := RO.ext X2
    replace X := X.trans X2
    have X9 : Ext w9 w10 := X2
    clear X2
    go_wp2_with fail
    clear z1 z2 z3 z4
    -- the ordered lives, one by one
    obtain ⟨CO, hCO⟩ : ∃ CO : Nat → Nat, CO = fun i => cntF ((ordL ls).take i) := ⟨_, rfl⟩
    have HCO1 : Hid (∀ i (h : i < (ordL ls).length), CO (i + 1) = CO i + if (ordL ls)[i].2 then 1 else 0) := by intro i h; rw [hCO]; exact cntF_take h
    have HCOB : Hid (∀ i, CO i ≤ 16) := by intro i; rw [hCO]; exact Nat.le_trans (cntF_le _) (by rw [List.length_take, hol]; omega)
    have HCOE : Hid (CO m = C) := by
      show _ = _
      rw [hCO, ← HCN.out]
      show cntF ((ordL ls).take m) = cntF ls
      rw [List.take_of_length_le (by omega)]
      exact (ordL_perm ls).countP_eq _
    have HCO0 : Hid (CO 0 = 0) := by show _ = _; rw [hCO]; rfl
    have HSS : Hid (∀ i (h : i < (ordL ls).length) b, SumT .f64 (ordL ls) i b → SumT .f64 (ordL ls) (i + 1) (fop .add .f64 b (wide (ordL ls)[i].1))) := fun i h b hs => hs.succ HD.out.ord h (by omega) (wide_val (drawn_val HD.out.ord _ (List.getElem_mem h)).1).1 (wide_val (drawn_val HD.out.ord _ (List.getElem_mem h)).1).2
    have HPO : Hid (∀ x ∈ ordL ls, posW x.1) := fun x hx => HD.out.ord.ok x hx
    have HQN : Hid (∀ i (h : i < (ordL ls).length), ∀ q, q + 1 = i → ∀ W, Ext w10 W → ∃ ya yb, go < W.heap.size ∧ W.cell? ⟨go, q * 2, none⟩ = some (.float .f32 ya) ∧ W.cell? ⟨go, q * 2 + 1, none⟩ = some (.bool yb) ∧ ya ≤ (ordL ls)[i].1 ∧ ((ordL ls)[i].1 = ya → (ordL ls)[i].2 = true → yb = true) ∧ posW ya) := by
      intro i h q hq W hW
      obtain ⟨b1, o1, hbo, hb, hc, hd⟩ := (RO.ext hW).at (k := q) (by omega)
      obtain ⟨rfl, rfl⟩ : go = b1 ∧ 0 = o1 := by simpa using hbo
      rw [Nat.zero_add] at hc hd
      have ha := ord_asc (ls := ls) (i := q) (j := i) (by omega) h
      exact ⟨_, _, hb, hc, hd, ha.1, fun e => ha.2 e.symm, HD.out.ord.ok _ (List.getElem_mem _)⟩
    have HS0 := Lib.hid (sumT_zero .f64 (ordL ls))
    have HGAP : Hid (∀ b, SumT .f64 (ordL ls) m b → floatToFloatBits .f64 b .f32 = some (narrowF b) ∧ ∀ W, Calls Try.prog 24 #[.float .f32 (narrowF b), .float .f32 tb] W fun e w' => ∃ z, e = .returned (.float .f64 z) ∧ fcmp .gtr .f64 (cn .f64 z) (cn .f64 4576918229304087675) = false ∧ Ext W w') := fun b hb => tab_gap HD.out hl16 hls hb HST.out
    clear hCO
    generalize ordL ls = O at *
    go_loopw [25, 23, 24] (fun i s c wq => ∃ (i' b : Nat), i' ≤ m ∧ i = .int .i64 i' ∧ s = .float .f64 b ∧ Hid (SumT .f64 O i' b) ∧ c = .int .i64 ((CO i' : Nat) : Int) ∧ Ext w10 wq) (fun i _ _ _ => m - (intOf i).toNat)
    case atStart => exact ⟨0, 0, Nat.zero_le _, rfl, rfl, HS0, by rw [HCO0.out]; rfl, Ext.refl _⟩
    case round =>
      obtain ⟨i, b, hi, rfl, rfl, HB, rfl, X3⟩ := hrel
      by_cases hlt : i < m
      · have hio : i < O.length := by omega
        obtain ⟨b1, o1, hbo, hp1, c0, c1⟩ := (RO.ext X3).at (k := i) hio
        obtain ⟨rfl, rfl⟩ : go = b1 ∧ 0 = o1 := by simpa using hbo
        rw [Nat.zero_add] at c0 c1
        have HSN := Lib.hid (HSS.out i hio b HB.out)
        have HPX : Hid (posW O[i].1) := HPO.out _ (List.getElem_mem hio)
        have QN := Lib.hid (HQN.out i hio)
        have HCS1 := Lib.hid (HCO1.out i hio)
        have hcb := HCOB.out i
        clear hbo
        generalize O[i] = x at *
        obtain ⟨xa, xb⟩ := x
        have HXC : Hid (cn .f32 xa = xa) := cn_pos HPX.out
        have HWN : Hid (isN .f64 (wide xa) = false) := (wide_val (posW.numV HPX.out)).1.notN
        have HWC : Hid (cn .f64 (wide xa) = wide xa) := (wide_val (posW.numV HPX.out)).1.cn
        have HBC : Hid (cn .f64 b = b) := HB.out.n.cn
        cases xb
        · have HN : Hid (CO (i + 1) = CO i) := HCS1
          rw [← HN.out]
          clear HCS1
          go_wp2_with (first
            | (refine wpList_wide wa Try.underlying30 rfl rfl rfl ?_; intro zb zn hzb hzl; clear hzl; rw [HXC.out] at hzb; replace hzb := bits_of hzb HWN.out; subst hzb)
            | (refine wpList_fop rfl rfl rfl rfl rfl ?_; intro fb nf hfb hfl; rw [HBC.out, HWC.out] at hfb; replace hfb := bits_of hfb HSN.out.n.notN; subst hfb; clear hfl))
          replace X3 := X3.trans (Ext.drewN _ (zn + nf))
          replace c0 : (World.drewN wr (zn + nf)).cell? ⟨go, i * 2, none⟩ = _ := c0
          replace c1 : (World.drewN wr (zn + nf)).cell? ⟨go, i * 2 + 1, none⟩ = _ := c1
          replace hp1 : go < (World.drewN wr (zn + nf)).heap.size := hp1
          generalize World.drewN wr (zn + nf) = wr at *
          by_cases hi0 : i = 0
          · subst hi0
            clear QN
            refine wp_region_rel 46 (fun _ _ => True) (fun _ _ _ => True) (by kernel_rfl) (by kernel_rfl) (by kernel_rfl) ?_
            dsimp only [List.take, List.drop, List.length]
            refine LX_det (.int .i64 0) (by kernel_rfl) rfl (fun w' hx _ => ?_) ?_
            · go_simp
            refine LX_det (.bool false) (by kernel_rfl) rfl (fun w' hx _ => ?_) ?_
            · go_simp
            refine LX_det (.bool false) (by kernel_rfl) rfl (fun w' hx _ => ?_) ?_
            · go_simp
            iterate 42 refine LX_skip (by kernel_rfl) ?_
            refine LX_det (.bool false) (by kernel_rfl) rfl (fun w' hx _ => ?_) ?_
            · go_simp
            refine LX_nil fun w12 hx _ => ?_
            refine wpList_nil ?_
            simp only [Act.put, List.setIfInBounds_toArray, List.set_cons_succ, List.set_cons_zero]
            replace X3 := X3.trans hx
            clear hx
            go_wp2_with fail
            go_roundw
            case rel => exact ⟨_, _, _, _, ⟨1, by omega, by go_num, _, rfl, HSN, rfl⟩, rfl, rfl, rfl, rfl⟩
            case measure => simp [intOf] <;> omega
          · obtain ⟨q, hq⟩ : ∃ q, q + 1 = i := ⟨i - 1, by omega⟩
            obtain ⟨ya, yb, hp2, d0, d1, y1, y2, y3⟩ := QN.out q hq _ X3
            have p0 := hp1
            have s1 : IntKind.i64.wrap ((i : Int) - 1) = (q : Int) := by rw [IntWalk.i64_in _ (by omega)]; omega
            have s2 : (i : Int) < (m : Int) := by omega
            have s3 : (q : Int) < (m : Int) := by omega
            have s4 : 0 < i := by omega
            have s5 : q < m := by omega
            have s6 : IntKind.i64.wrap (q : Int) = (q : Int) := IntWalk.i64_in _ (by omega)
            have s7 : IntKind.i64.wrap (i : Int) = (i : Int) := IntWalk.i64_in _ (by omega)
            have hcm := pos_cmp HPX.out y3
            have hl0 : fcmp .lss .f32 (cn .f32 xa) (cn .f32 ya) = false := by rw [hcm.2.1, decide_eq_false_iff_not]; omega
            have he0 : fcmp .eql .f32 (cn .f32 xa) (cn .f32 ya) = decide (xa = ya) := by
              have e : fcmp .eql .f32 (cn .f32 xa) (cn .f32 ya) = !fcmp .neq .f32 (cn .f32 xa) (cn .f32 ya) := by unfold fcmp; simp [bne]
              rw [e, hcm.1]; simp
            clear hcm QN hi0
            refine wp_region_rel 46 (fun _ _ => True) (fun _ _ _ => True) (by kernel_rfl) (by kernel_rfl) (by kernel_rfl) ?_
            dsimp only [List.take, List.drop, List.length]
            refine LX_det (.int .i64 i) (by kernel_rfl) rfl (fun w' hx _ => ?_) ?_
            · go_simp
            refine LX_det (.bool true) (by kernel_rfl) rfl (fun w' hx _ => ?_) ?_
            · go_simp
            refine LX_det (.bool true) (by kernel_rfl) rfl (fun w' hx _ => ?_) ?_
            · go_simp
            refine LX_det (.slice (some ⟨go, 0, none⟩) m po) (by kernel_rfl) rfl (fun w' hx _ => ?_) ?_
            · go_simp
            refine LX_det (.int .i64 i) (by kernel_rfl) rfl (fun w' hx _ => ?_) ?_
            · go_simp
            refine LX_det (.pointer (some ⟨go, i * 2, none⟩)) (by kernel_rfl) rfl (fun w' hx _ => ?_) ?_
            · go_simp
            refine LX_det (.pointer (some ⟨go, i * 2, none⟩)) (by kernel_rfl) rfl (fun w' hx _ => ?_) ?_
            · go_simp
            refine LX_det (.float .f32 xa) (by kernel_rfl) rfl (fun w' hx _ => ?_) ?_
            · have m0 := (Below.cell hx (p := ⟨go, i * 2, none⟩) hp1).trans c0
              go_simp
            refine LX_det (.slice (some ⟨go, 0, none⟩) m po) (by kernel_rfl) rfl (fun w' hx _ => ?_) ?_
            · go_simp
            refine LX_det (.int .i64 i) (by kernel_rfl) rfl (fun w' hx _ => ?_) ?_
            · go_simp
            refine LX_det (.int .i64 q) (by kernel_rfl) rfl (fun w' hx _ => ?_) ?_
            · go_simp
            refine LX_det (.pointer (some ⟨go, q * 2, none⟩)) (by kernel_rfl) rfl (fun w' hx _ => ?_) ?_
            · go_simp
            refine LX_det (.pointer (some ⟨go, q * 2, none⟩)) (by kernel_rfl) rfl (fun w' hx _ => ?_) ?_
            · go_simp
            refine LX_det (.float .f32 ya) (by kernel_rfl) rfl (fun w' hx _ => ?_) ?_
            · have m0 := (Below.cell hx (p := ⟨go, q * 2, none⟩) hp1).trans d0
              go_simp
            simp only [Act.put, List.setIfInBounds_toArray, List.set_cons_succ, List.set_cons_zero]
            refine LX_fcmp (by kernel_rfl) rfl rfl rfl rfl hl0 ?_
            refine LX_det (.bool false) (by kernel_rfl) rfl (fun w' hx _ => ?_) ?_
            · go_simp
            refine LX_det (.slice (some ⟨go, 0, none⟩) m po) (by kernel_rfl) rfl (fun w' hx _ => ?_) ?_
            · go_simp
            refine LX_det (.int .i64 i) (by kernel_rfl) rfl (fun w' hx _ => ?_) ?_
            · go_simp
            refine LX_det (.pointer (some ⟨go, i * 2, none⟩)) (by kernel_rfl) rfl (fun w' hx _ => ?_) ?_
            · go_simp
            refine LX_det (.pointer (some ⟨go, i * 2, none⟩)) (by kernel_rfl) rfl (fun w' hx _ => ?_) ?_
            · go_simp
            refine LX_det (.float .f32 xa) (by kernel_rfl) rfl (fun w' hx _ => ?_) ?_
            · have m0 := (Below.cell hx (p := ⟨go, i * 2, none⟩) hp1).trans c0
              go_simp
            refine LX_det (.slice (some ⟨go, 0, none⟩) m po) (by kernel_rfl) rfl (fun w' hx _ => ?_) ?_
            · go_simp
            refine LX_det (.int .i64 i) (by kernel_rfl) rfl (fun w' hx _ => ?_) ?_
            · go_simp
            refine LX_det (.int .i64 q) (by kernel_rfl) rfl (fun w' hx _ => ?_) ?_
            · go_simp
            refine LX_det (.pointer (some ⟨go, q * 2, none⟩)) (by kernel_rfl) rfl (fun w' hx _ => ?_) ?_
            · go_simp
            refine LX_det (.pointer (some ⟨go, q * 2, none⟩)) (by kernel_rfl) rfl (fun w' hx _ => ?_) ?_
            · go_simp
            refine LX_det (.float .f32 ya) (by kernel_rfl) rfl (fun w' hx _ => ?_) ?_
            · have m0 := (Below.cell hx (p := ⟨go, q * 2, none⟩) hp1).trans d0
              go_simp
            simp only [Act.put, List.setIfInBounds_toArray, List.set_cons_succ, List.set_cons_zero]
            refine LX_fcmp (by kernel_rfl) rfl rfl rfl rfl he0 ?_
            by_cases hxy : xa = ya
            · rw [decide_eq_true hxy]
              clear hl0 he0 hxy y1 y2
              refine LX_det (.bool true) (by kernel_rfl) rfl (fun w' hx _ => ?_) ?_
              · go_simp
              refine LX_det (.slice (some ⟨go, 0, none⟩) m po) (by kernel_rfl) rfl (fun w' hx _ => ?_) ?_
              · go_simp
              refine LX_det (.int .i64 i) (by kernel_rfl) rfl (fun w' hx _ => ?_) ?_
              · go_simp
              refine LX_det (.pointer (some ⟨go, i * 2, none⟩)) (by kernel_rfl) rfl (fun w' hx _ => ?_) ?_
              · go_simp
              refine LX_det (.pointer (some ⟨go, i * 2 + 1, none⟩)) (by kernel_rfl) rfl (fun w' hx _ => ?_) ?_
              · go_simp
              refine LX_det (.bool false) (by kernel_rfl) rfl (fun w' hx _ => ?_) ?_
              · have m0 := (Below.cell hx (p := ⟨go, i * 2 + 1, none⟩) hp1).trans c1
                go_simp
              refine LX_det (.bool false) (by kernel_rfl) rfl (fun w' hx _ => ?_) ?_
              · go_simp
              refine LX_det (.bool false) (by kernel_rfl) rfl (fun w' hx _ => ?_) ?_
              · go_simp
              iterate 7 refine LX_skip (by kernel_rfl) ?_
              refine LX_det (.bool false) (by kernel_rfl) rfl (fun w' hx _ => ?_) ?_
              · go_simp
              refine LX_det (.bool false) (by kernel_rfl) rfl (fun w' hx _ => ?_) ?_
              · go_simp
              refine LX_det (.bool false) (by kernel_rfl) rfl (fun w' hx _ => ?_) ?_
              · go_simp
              refine LX_nil fun w12 hx _ => ?_
              refine wpList_nil ?_
              simp only [Act.put, List.setIfInBounds_toArray, List.set_cons_succ, List.set_cons_zero]
              replace X3 := X3.trans hx
              clear hx
              clear s1 s2 s3 s4 s5 s6 s7
              go_wp2_with fail
              go_roundw
              case rel => exact ⟨_, _, _, _, ⟨i + 1, by omega, by go_num, _, rfl, HSN, rfl⟩, rfl, rfl, rfl, rfl⟩
              case measure => simp [intOf] <;> omega
            · rw [decide_eq_false hxy]
              clear hl0 he0 hxy y1 y2
              refine LX_det (.bool false) (by kernel_rfl) rfl (fun w' hx _ => ?_) ?_
              · go_simp
              iterate 5 refine LX_skip (by kernel_rfl) ?_
              refine LX_det (.bool false) (by kernel_rfl) rfl (fun w' hx _ => ?_) ?_
              · go_simp
              refine LX_det (.bool false) (by kernel_rfl) rfl (fun w' hx _ => ?_) ?_
              · go_simp
              iterate 7 refine LX_skip (by kernel_rfl) ?_
              refine LX_det (.bool false) (by kernel_rfl) rfl (fun w' hx _ => ?_) ?_
              · go_simp
              refine LX_det (.bool false) (by kernel_rfl) rfl (fun w' hx _ => ?_) ?_
              · go_simp
              refine LX_det (.bool false) (by kernel_rfl) rfl (fun w' hx _ => ?_) ?_
              · go_simp
              refine LX_nil fun w12 hx _ => ?_
              refine wpList_nil ?_
              simp only [Act.put, List.setIfInBounds_toArray, List.set_cons_succ, List.set_cons_zero]
              replace X3 := X3.trans hx
              clear hx
              clear s1 s2 s3 s4 s5 s6 s7
              go_wp2_with fail
              go_roundw
              case rel => exact ⟨_, _, _, _, ⟨i + 1, by omega, by go_num, _, rfl, HSN, rfl⟩, rfl, rfl, rfl, rfl⟩
              case measure => simp [intOf] <;> omega
        · have HN : Hid (IntKind.i64.wrap (((CO i : Nat) : Int) + 1) = ((CO (i + 1) : Nat) : Int)) := by
            have h1 := HCS1.out
            have h2 := HCOB.out i
            simp only [if_true] at h1
            show _ = _
            rw [IntWalk.i64_in _ (by omega), h1]
            omega
          clear HCS1
          have s8 := HN.out
          go_wp2_with (first
            | (refine wpList_wide wa Try.underlying30 rfl rfl rfl ?_; intro zb zn hzb hzl; clear hzl; rw [HXC.out] at hzb; replace hzb := bits_of hzb HWN.out; subst hzb)
            | (refine wpList_fop rfl rfl rfl rfl rfl ?_; intro fb nf hfb hfl; rw [HBC.out, HWC.out] at hfb; replace hfb := bits_of hfb HSN.out.n.notN; subst hfb; clear hfl))
          replace X3 := X3.trans (Ext.drewN _ (zn + nf))
          replace c0 : (World.drewN wr (zn + nf)).cell? ⟨go, i * 2, none⟩ = _ := c0
          replace c1 : (World.drewN wr (zn + nf)).cell? ⟨go, i * 2 + 1, none⟩ = _ := c1
          replace hp1 : go < (World.drewN wr (zn + nf)).heap.size := hp1
          generalize World.drewN wr (zn + nf) = wr at *
          by_cases hi0 : i = 0
          · subst hi0
            clear QN
            refine wp_region_rel 46 (fun _ _ => True) (fun _ _ _ => True) (by kernel_rfl) (by kernel_rfl) (by kernel_rfl) ?_
            dsimp only [List.take, List.drop, List.length]
            refine LX_det (.int .i64 0) (by kernel_rfl) rfl (fun w' hx _ => ?_) ?_
            · go_simp
            refine LX_det (.bool false) (by kernel_rfl) rfl (fun w' hx _ => ?_) ?_
            · go_simp
            refine LX_det (.bool false) (by kernel_rfl) rfl (fun w' hx _ => ?_) ?_
            · go_simp
            iterate 42 refine LX_skip (by kernel_rfl) ?_
            refine LX_det (.bool false) (by kernel_rfl) rfl (fun w' hx _ => ?_) ?_
            · go_simp
            refine LX_nil fun w12 hx _ => ?_
            refine wpList_nil ?_
            simp only [Act.put, List.setIfInBounds_toArray, List.set_cons_succ, List.set_cons_zero]
            replace X3 := X3.trans hx
            clear hx
            go_wp2_with fail
            go_roundw
            case rel => exact ⟨_, _, _, _, ⟨1, by omega, by go_num, _, rfl, HSN, rfl⟩, rfl, rfl, rfl, rfl⟩
            case measure => simp [intOf] <;> omega
          · obtain ⟨q, hq⟩ : ∃ q, q + 1 = i := ⟨i - 1, by omega⟩
            obtain ⟨ya, yb, hp2, d0, d1, y1, y2, y3⟩ := QN.out q hq _ X3
            have p0 := hp1
            have s1 : IntKind.i64.wrap ((i : Int) - 1) = (q : Int) := by rw [IntWalk.i64_in _ (by omega)]; omega
            have s2 : (i : Int) < (m : Int) := by omega
            have s3 : (q : Int) < (m : Int) := by omega
            have s4 : 0 < i := by omega
            have s5 : q < m := by omega
            have s6 : IntKind.i64.wrap (q : Int) = (q : Int) := IntWalk.i64_in _ (by omega)
            have s7 : IntKind.i64.wrap (i : Int) = (i : Int) := IntWalk.i64_in _ (by omega)
            have hcm := pos_cmp HPX.out y3
            have hl0 : fcmp .lss .f32 (cn .f32 xa) (cn .f32 ya) = false := by rw [hcm.2.1, decide_eq_false_iff_not]; omega
            have he0 : fcmp .eql .f32 (cn .f32 xa) (cn .f32 ya) = decide (xa = ya) := by
              have e : fcmp .eql .f32 (cn .f32 xa) (cn .f32 ya) = !fcmp .neq .f32 (cn .f32 xa) (cn .f32 ya) := by unfold fcmp; simp [bne]
              rw [e, hcm.1]; simp
            clear hcm QN hi0
            refine wp_region_rel 46 (fun _ _ => True) (fun _ _ _ => True) (by kernel_rfl) (by kernel_rfl) (by kernel_rfl) ?_
            dsimp only [List.take, List.drop, List.length]
            refine LX_det (.int .i64 i) (by kernel_rfl) rfl (fun w' hx _ => ?_) ?_
            · go_simp
            refine LX_det (.bool true) (by kernel_rfl) rfl (fun w' hx _ => ?_) ?_
            · go_simp
            refine LX_det (.bool true) (by kernel_rfl) rfl (fun w' hx _ => ?_) ?_
            · go_simp
            refine LX_det (.slice (some ⟨go, 0, none⟩) m po) (by kernel_rfl) rfl (fun w' hx _ => ?_) ?_
            · go_simp
            refine LX_det (.int .i64 i) (by kernel_rfl) rfl (fun w' hx _ => ?_) ?_
            · go_simp
            refine LX_det (.pointer (some ⟨go, i * 2, none⟩)) (by kernel_rfl) rfl (fun w' hx _ => ?_) ?_
            · go_simp
            refine LX_det (.pointer (some ⟨go, i * 2, none⟩)) (by kernel_rfl) rfl (fun w' hx _ => ?_) ?_
            · go_simp
            refine LX_det (.float .f32 xa) (by kernel_rfl) rfl (fun w' hx _ => ?_) ?_
            · have m0 := (Below.cell hx (p := ⟨go, i * 2, none⟩) hp1).trans c0
              go_simp
            refine LX_det (.slice (some ⟨go, 0, none⟩) m po) (by kernel_rfl) rfl (fun w' hx _ => ?_) ?_
            · go_simp
            refine LX_det (.int .i64 i) (by kernel_rfl) rfl (fun w' hx _ => ?_) ?_
            · go_simp
            refine LX_det (.int .i64 q) (by kernel_rfl) rfl (fun w' hx _ => ?_) ?_
            · go_simp
            refine LX_det (.pointer (some ⟨go, q * 2, none⟩)) (by kernel_rfl) rfl (fun w' hx _ => ?_) ?_
            · go_simp
            refine LX_det (.pointer (some ⟨go, q * 2, none⟩)) (by kernel_rfl) rfl (fun w' hx _ => ?_) ?_
            · go_simp
            refine LX_det (.float .f32 ya) (by kernel_rfl) rfl (fun w' hx _ => ?_) ?_
            · have m0 := (Below.cell hx (p := ⟨go, q * 2, none⟩) hp1).trans d0
              go_simp
            simp only [Act.put, List.setIfInBounds_toArray, List.set_cons_succ, List.set_cons_zero]
            refine LX_fcmp (by kernel_rfl) rfl rfl rfl rfl hl0 ?_
            refine LX_det (.bool false) (by kernel_rfl) rfl (fun w' hx _ => ?_) ?_
            · go_simp
            refine LX_det (.slice (some ⟨go, 0, none⟩) m po) (by kernel_rfl) rfl (fun w' hx _ => ?_) ?_
            · go_simp
            refine LX_det (.int .i64 i) (by kernel_rfl) rfl (fun w' hx _ => ?_) ?_
            · go_simp
            refine LX_det (.pointer (some ⟨go, i * 2, none⟩)) (by kernel_rfl) rfl (fun w' hx _ => ?_) ?_
            · go_simp
            refine LX_det (.pointer (some ⟨go, i * 2, none⟩)) (by kernel_rfl) rfl (fun w' hx _ => ?_) ?_
            · go_simp
            refine LX_det (.float .f32 xa) (by kernel_rfl) rfl (fun w' hx _ => ?_) ?_
            · have m0 := (Below.cell hx (p := ⟨go, i * 2, none⟩) hp1).trans c0
              go_simp
            refine LX_det (.slice (some ⟨go, 0, none⟩) m po) (by kernel_rfl) rfl (fun w' hx _ => ?_) ?_
            · go_simp
            refine LX_det (.int .i64 i) (by kernel_rfl) rfl (fun w' hx _ => ?_) ?_
            · go_simp
            refine LX_det (.int .i64 q) (by kernel_rfl) rfl (fun w' hx _ => ?_) ?_
            · go_simp
            refine LX_det (.pointer (some ⟨go, q * 2, none⟩)) (by kernel_rfl) rfl (fun w' hx _ => ?_) ?_
            · go_simp
            refine LX_det (.pointer (some ⟨go, q * 2, none⟩)) (by kernel_rfl) rfl (fun w' hx _ => ?_) ?_
            · go_simp
            refine LX_det (.float .f32 ya) (by kernel_rfl) rfl (fun w' hx _ => ?_) ?_
            · have m0 := (Below.cell hx (p := ⟨go, q * 2, none⟩) hp1).trans d0
              go_simp
            simp only [Act.put, List.setIfInBounds_toArray, List.set_cons_succ, List.set_cons_zero]
            refine LX_fcmp (by kernel_rfl) rfl rfl rfl rfl he0 ?_
            by_cases hxy : xa = ya
            · rw [decide_eq_true hxy]
              have e2 : yb = true := by first | exact y2 hxy rfl | exact y2 hxy (by simp) | simpa [hxy] using y2
              subst e2
              clear hl0 he0 hxy y1 y2
              refine LX_det (.bool true) (by kernel_rfl) rfl (fun w' hx _ => ?_) ?_
              · go_simp
              refine LX_det (.slice (some ⟨go, 0, none⟩) m po) (by kernel_rfl) rfl (fun w' hx _ => ?_) ?_
              · go_simp
              refine LX_det (.int .i64 i) (by kernel_rfl) rfl (fun w' hx _ => ?_) ?_
              · go_simp
              refine LX_det (.pointer (some ⟨go, i * 2, none⟩)) (by kernel_rfl) rfl (fun w' hx _ => ?_) ?_
              · go_simp
              refine LX_det (.pointer (some ⟨go, i * 2 + 1, none⟩)) (by kernel_rfl) rfl (fun w' hx _ => ?_) ?_
              · go_simp
              refine LX_det (.bool true) (by kernel_rfl) rfl (fun w' hx _ => ?_) ?_
              · have m0 := (Below.cell hx (p := ⟨go, i * 2 + 1, none⟩) hp1).trans c1
                go_simp
              refine LX_det (.bool true) (by kernel_rfl) rfl (fun w' hx _ => ?_) ?_
              · go_simp
              refine LX_det (.bool true) (by kernel_rfl) rfl (fun w' hx _ => ?_) ?_
              · go_simp
              refine LX_det (.slice (some ⟨go, 0, none⟩) m po) (by kernel_rfl) rfl (fun w' hx _ => ?_) ?_
              · go_simp
              refine LX_det (.int .i64 i) (by kernel_rfl) rfl (fun w' hx _ => ?_) ?_
              · go_simp
              refine LX_det (.int .i64 q) (by kernel_rfl) rfl (fun w' hx _ => ?_) ?_
              · go_simp
              refine LX_det (.pointer (some ⟨go, q * 2, none⟩)) (by kernel_rfl) rfl (fun w' hx _ => ?_) ?_
              · go_simp
              refine LX_det (.pointer (some ⟨go, q * 2 + 1, none⟩)) (by kernel_rfl) rfl (fun w' hx _ => ?_) ?_
              · go_simp
              refine LX_det (.bool true) (by kernel_rfl) rfl (fun w' hx _ => ?_) ?_
              · have m0 := (Below.cell hx (p := ⟨go, q * 2 + 1, none⟩) hp1).trans d1
                go_simp
              refine LX_det (.bool false) (by kernel_rfl) rfl (fun w' hx _ => ?_) ?_
              · go_simp
              refine LX_det (.bool false) (by kernel_rfl) rfl (fun w' hx _ => ?_) ?_
              · go_simp
              refine LX_det (.bool false) (by kernel_rfl) rfl (fun w' hx _ => ?_) ?_
              · go_simp
              refine LX_det (.bool false) (by kernel_rfl) rfl (fun w' hx _ => ?_) ?_
              · go_simp
              refine LX_nil fun w12 hx _ => ?_
              refine wpList_nil ?_
              simp only [Act.put, List.setIfInBounds_toArray, List.set_cons_succ, List.set_cons_zero]
              replace X3 := X3.trans hx
              clear hx
              clear s1 s2 s3 s4 s5 s6 s7
              go_wp2_with fail
              go_roundw
              case rel => exact ⟨_, _, _, _, ⟨i + 1, by omega, by go_num, _, rfl, HSN, rfl⟩, rfl, rfl, rfl, rfl⟩
              case measure => simp [intOf] <;> omega
            · rw [decide_eq_false hxy]
              clear hl0 he0 hxy y1 y2
              refine LX_det (.bool false) (by kernel_rfl) rfl (fun w' hx _ => ?_) ?_
              · go_simp
              iterate 5 refine LX_skip (by kernel_rfl) ?_
              refine LX_det (.bool false) (by kernel_rfl) rfl (fun w' hx _ => ?_) ?_
              · go_simp
              refine LX_det (.bool false) (by kernel_rfl) rfl (fun w' hx _ => ?_) ?_
              · go_simp
              iterate 7 refine LX_skip (by kernel_rfl) ?_
              refine LX_det (.bool false) (by kernel_rfl) rfl (fun w' hx _ => ?_) ?_
              · go_simp
              refine LX_det (.bool false) (by kernel_rfl) rfl (fun w' hx _ => ?_) ?_
              · go_simp
              refine LX_det (.bool false) (by kernel_rfl) rfl (fun w' hx _ => ?_) ?_
              · go_simp
              refine LX_nil fun w12 hx _ => ?_
              refine wpList_nil ?_
              simp only [Act.put, List.setIfInBounds_toArray, List.set_cons_succ, List.set_cons_zero]
              replace X3 := X3.trans hx
              clear hx
              clear s1 s2 s3 s4 s5 s6 s7
              go_wp2_with fail
              go_roundw
              case rel => exact ⟨_, _, _, _, ⟨i + 1, by omega, by go_num, _, rfl, HSN, rfl⟩, rfl, rfl, rfl, rfl⟩
              case measure => simp [intOf] <;> omega
      · have him : i = m := by omega
        subst him
        rw [HCOE.out]
        clear HCOB HCO0 HCO1 HSS HPO HQN HS0 RO HAL HN HRL K1 hol hi hlt
        clear wa wb
        revert u4 u173 u174 u175 u176 u177 u178 u179 u180 u181 u182 u183 u184 u185 u186 u187 u188 u189 u190 u191 u192 u193 u194 u195 u196 u197 u198 u199 u200 u201 u202 u203 u204 u205 u206 u207 u208 u209 u210 u211 u212 u213 u214 u215 u216 u217 u218 u219 u220 u221 u222 u223 u224 u225 u226 u227 u228 u229 u230 u231 u232 u233 u234 u235 u236 u237 u238
        revert xs ys w a1 a2 c1 c2 n1 wd w1 w2 w3 w4 w5 w6 w7 w8 w9 w10 wr gl pl ls go po gT pT gS pS gQ pQ gH pH gP pP tb bz sp n C CO O i b
        rename_i K
        revert K
        exact hrest.out
  · have HL := Lib.hid hlong
    clear hlong
    go_enter Try.func8, Try.ntmps8
    go_wp2_with fail
    refine (r8Long_eqT HL.out _ r1' r2').mono ?_
    rintro e w1 ⟨rfl, rfl⟩
    go_wp2_with fail
    go_ret
    exact ⟨rfl, Ext.refl _⟩
end Go.Proofs.Ytlbmjeennpccmaa
