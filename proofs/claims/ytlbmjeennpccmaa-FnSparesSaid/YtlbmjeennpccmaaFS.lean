
/- FnSpares returns true for every input and changes nothing that was there. No condition. -/
import Derived.Test.YtlbmjeennpccmaaFr
import Derived.Test.YtlbmjeennpccmaaRh
import Derived.Deep.QuietTactic
import Derived.IntWalk
import Derived.BigQuiet
namespace Go.Proofs.Ytlbmjeennpccmaa
open Go Go.RowKit Go.ChangeShapes Go.WideShapes Go.ChangeAt

attribute [local irreducible] LX
theorem cn_mA (a : Nat) : fop .quo .f32 (cn .f32 (floatOfInt .f32 (a : Int))) (cn .f32 1082130432) = mA a := by
  rw [cn_ofI, show cn .f32 1082130432 = 1082130432 from by decide +kernel]; rfl
theorem cn_mB (a : Nat) : fop .quo .f32 (cn .f32 (floatOfInt .f32 (a : Int))) (cn .f32 1073741824) = mB a := by
  rw [cn_ofI, show cn .f32 1073741824 = 1073741824 from by decide +kernel]; rfl
theorem cn_svA (a : Nat) : fop .quo .f32 (cn .f32 (floatOfInt .f32 (a : Int))) (cn .f32 1098907648) = svA a := by
  rw [cn_ofI, show cn .f32 1098907648 = 1098907648 from by decide +kernel]; rfl
/-- The sum of the first k, in 64 bits. -/
def sumT (m : Nat) : Nat → Nat
  | 0 => cn .f64 0
  | k + 1 => fop .add .f64 (sumT m k) (wide (needP m k))
theorem cn64_0 : cn .f64 0 = 0 := by decide +kernel
theorem sumT_succ (m : Nat) : ∀ k, sumT m (k + 1) = sum64 m k
  | 0 => by show fop .add .f64 (cn .f64 0) _ = _; rw [cn64_0]; rfl
  | k + 1 => by
    show fop .add .f64 (sumT m (k + 1)) _ = _
    rw [sumT_succ m k, sum64_succ]
theorem pos_not_less {x : Nat} {c : Int} (h : Bp .f32 x c) : fcmp .lss .f32 x (cn .f32 0) = false := by
  obtain ⟨s, m, i, h1, h2, h3⟩ := h
  have z1 : (FloatKind.f32).format.read (cn .f32 0) = .number false 0 (-149) := by decide +kernel
  unfold fcmp Ieee.Format.order
  rw [h1, z1]
  simp only [Ieee.Datum.order]
  rw [beq_eq_false_iff_ne]
  intro h
  simp only [Option.some.injEq] at h
  generalize min i (-149) = base at h
  have h5 : 0 ≤ Ieee.signed s m (i - base).toNat := by
    unfold Ieee.signed
    rcases h3 with rfl | rfl
    · rw [Nat.zero_shiftLeft]; cases s <;> simp
    · simp only [Bool.false_eq_true, if_false]; exact Int.natCast_nonneg _
  have h6 : Ieee.signed false 0 (-149 - base).toNat = 0 := by simp [Ieee.signed]
  rw [h6] at h
  have e : compare (Ieee.signed s m (i - base).toNat) 0 = compareOfLessAndEq (Ieee.signed s m (i - base).toNat) 0 := rfl
  rw [e] at h
  unfold compareOfLessAndEq at h
  split at h
  · omega
  · split at h <;> cases h
theorem bits_some {op : BinOp} {k : FloatKind} {x y : Nat} (h : isN k (fop op k x y) = false) : floatBits op k x y = some (fop op k x y) := by
  unfold fop at h ⊢
  cases hb : floatBits op k x y with
  | none => rw [hb] at h; rw [Option.getD_none, isN_nanW] at h; cases h
  | some r => rfl
theorem gap_num {x y : Nat} (h : isN .f64 (gapA x y) = false) : isN .f32 x = false ∧ isN .f32 y = false := by
  have key : ∀ z, isN .f32 z = true → wide z = nanW .f64 := fun z hz => by
    obtain ⟨s, f, e⟩ := read_nan hz
    unfold wide
    rw [show Ieee.single.read z = .nan s f from e]
  have hl : ∀ u v, fop .sub .f64 (nanW .f64) v = nanW .f64 ∧ fop .sub .f64 u (nanW .f64) = nanW .f64 := fun u v => by
    obtain ⟨s, f, e⟩ := read_nan (isN_nanW .f64)
    unfold fop floatBits Ieee.Format.sub
    constructor
    · rw [e]; simp [Ieee.Datum.sum]
    · rw [e]; cases (FloatKind.f64).format.read u <;> simp [Ieee.Datum.sum, Ieee.Datum.opposite]
  constructor
  · cases hx : isN .f32 x
    · rfl
    · unfold gapA at h; rw [key x hx, (hl 0 (wide y)).1, isN_nanW] at h; cases h
  · cases hy : isN .f32 y
    · rfl
    · unfold gapA at h; rw [key y hy, (hl (wide x) 0).2, isN_nanW] at h; cases h
theorem r8Long_eq {v1 v2 : Value} {xs ys : List Int} {c : Bool} (h : decide (48 < xs.length ∨ 48 < ys.length) = c) (w : World) (r1 : RdY w v1 xs) (r2 : RdY w v2 ys) :
    Calls Try.prog 21 #[v1, v2] w fun e w' => e = .returned (.bool c) ∧ w = w' := by subst h; exact r8Long_any v1 v2 xs ys w r1 r2
set_option maxRecDepth 100000 in
set_option maxHeartbeats 8000000 in
theorem fnSpares_law (v1 v2 : Value) (xs ys : List Int) (w : World) (r1 : RdY w v1 xs) (r2 : RdY w v2 ys) :
    Calls Try.prog 5 #[v1, v2] w fun e w' => e = .returned (.bool true) ∧ Ext w w' := by
  have r1' := r1
  have r2' := r2
  obtain ⟨⟨-, a1, c1, rfl, -, -, -, -⟩, -⟩ := r1
  obtain ⟨⟨-, a2, c2, rfl, -, -, -, -⟩, -⟩ := r2
  cases hlong : decide (48 < xs.length ∨ 48 < ys.length)
  · have HL := Lib.hid hlong
    clear hlong
    have hat : ∀ k n : Nat, 2 ≤ n → n ≤ 1000 → k ≤ 1000 → ∃ z : Nat, z < n ∧ ∀ w, RdY w (.slice a2 ys.length c2) ys → Calls Try.prog 22 #[.slice a2 ys.length c2, .int .i64 k, .int .i64 n] w fun e w' => e = .returned (.int .i64 (z : Nat)) ∧ w = w' :=
      fun k n h1 h2 h3 => ⟨at8 ys k n, at8_lt (by omega), fun w r => r8At_any _ ys k n w r h1 h2 h3⟩
    obtain ⟨a, ha, ca⟩ := hat 40 24 (by decide) (by decide) (by decide)
    obtain ⟨c, hc, cc⟩ := hat 41 24 (by decide) (by decide) (by decide)
    obtain ⟨b, hb, cb⟩ := hat 42 16 (by decide) (by decide) (by decide)
    obtain ⟨l, hl, cl⟩ := hat 43 4 (by decide) (by decide) (by decide)
    obtain ⟨t, ht, ct⟩ := hat 44 20 (by decide) (by decide) (by decide)
    have CA := Lib.hid ca
    have CC := Lib.hid cc
    have CB := Lib.hid cb
    have CL := Lib.hid cl
    have CT := Lib.hid ct
    clear hat ca cc cb cl ct
    obtain ⟨mm, mo, mt⟩ := mA_ok ha
    have MM := Lib.hid mm
    have MO := Lib.hid mo
    have MT := Lib.hid mt
    clear mm mo mt
    have wa : (Try.prog.underlying 24).isSome = true := by kernel_rfl
    go_enter Try.func5, Try.ntmps5
    go_wp2_with fail
    refine (r8Long_eq HL.out _ r1' r2').mono ?_
    rintro e w1 ⟨rfl, rfl⟩
    go_wp2_with fail
    refine (CA.out _ r2').mono ?_
    rintro e w1 ⟨rfl, rfl⟩
    go_wp2_with (first | (refine wpList_fop rfl rfl rfl rfl rfl ?_; intro fb nf hfb hfl; replace hfb := Lib.hid hfb; replace hfl := Lib.hid hfl))
    have HM : Hid (cn .f32 fb = mA a) := hfb.out.trans (cn_mA a)
    have HMB := hfl
    clear hfb hfl
    generalize fb = mb at *
    refine (CC.out _ (r2'.ext (Ext.drewN _ _))).mono ?_
    rintro e w1 ⟨rfl, rfl⟩
    go_wp2_with fail
    refine (implNeedShares_any mb c _).mono ?_
    have hno : needO (cn .f32 mb) c = some (needL (mA a) c) := by
      rw [HM.out]; unfold needO; rw [MM.out, inB_true (by omega) (by omega)]; rfl
    rw [hno]
    rintro e w2 ⟨hx, g, cap, os, rfl, hu, hbs, own⟩
    have R : RdF w2 (.slice (some ⟨g, 0, none⟩) os.length cap) os := ⟨own_rd own, hbs⟩
    have hol : os.length = c + 1 := by rw [← needL_len (mA a) c, ← hu, List.length_map]
    have HU := Lib.hid hu
    have X : Ext w w2 := (Ext.drewN _ _).trans hx
    clear hno hu hbs own hx
    have HOL := Lib.hid hol
    have hol1 : os.length ≤ c + 1 := by omega
    have hol2 : c + 1 ≤ os.length := by omega
    have hq : ((os.length : Int) != (c : Int) + 1) = false := by rw [bne_eq_false_iff_eq]; omega
    clear hol
    go_wp2_with fail
    clear hq
    go_loopw [9, 10] (fun s i wr => ∃ (k x : Nat), k ≤ c + 1 ∧ i = .int .i64 k ∧ s = .float .f64 x ∧ Hid (cn .f64 x = sumT (mA a) k) ∧ Ext w2 wr) (fun _ i _ => c + 1 - (intOf i).toNat)
    case atStart => exact ⟨0, 0, by omega, rfl, rfl, rfl, Ext.refl _⟩
    case round =>
      obtain ⟨k, x, hk, rfl, rfl, Hx, X2⟩ := hrel
      by_cases hlt : k < c + 1
      · have hko : k < os.length := by omega
        obtain ⟨b1, o1, hbo, hb1, hc1⟩ := (R.ext X2).at hko
        cases hbo
        rw [Nat.zero_add] at hc1
        have hp : cn .f32 os[k] = needP (mA a) k := by
          have h : (os.map (cn .f32)).getD k 0 = (needL (mA a) c).getD k 0 := by rw [HU.out]
          rw [needL_get _ _ _ (by omega)] at h
          have h2 : (os.map (cn .f32)).getD k 0 = cn .f32 os[k] := by simp [hko]
          rw [← h2]; exact h
        have hq1 : fcmp .lss .f32 (cn .f32 os[k]) (cn .f32 0) = false := by rw [hp]; exact pos_not_less (need_bp MM.out k (by omega))
        have HPk := Lib.hid hp
        have HQ1 := Lib.hid hq1
        clear hp hq1
        go_wp2_with (first | (refine wpList_fop rfl rfl rfl rfl rfl ?_; intro fb nf hfb hfl; replace hfb := Lib.hid hfb; replace hfl := Lib.hid hfl) | (refine wpList_wide wa Try.underlying30 rfl rfl rfl ?_; intro zb zn hzb hzl; clear hzl; replace hzb := Lib.hid hzb))
        have hsum : Hid (cn .f64 fb = sumT (mA a) (k + 1)) := by
          show _ = _; rw [hfb.out, Hx.out, hzb.out, HPk.out]; rfl
        clear hfb hfl hzb
        replace X2 := X2.trans (Ext.drewN _ (zn + nf))
        clear hb1 hc1
        generalize World.drewN wr (zn + nf) = wr at *
        obtain ⟨_, _, hbo, hb1, hc1⟩ := (R.ext X2).at hko
        cases hbo
        rw [Nat.zero_add] at hc1
        have hq1 := HQ1.out
        by_cases hk0 : k = 0
        · subst hk0
          generalize os[0] = u at *
          refine wp_region_rel 27 (fun _ _ => True) (fun _ _ _ => True) (by kernel_rfl) (by kernel_rfl) (by kernel_rfl) ?_
          dsimp only [List.take, List.drop, List.length]
          refine LX_det (.slice (some ⟨g, 0, none⟩) os.length cap) (by kernel_rfl) rfl (fun w' hx _ => ?_) ?_
          · go_simp
          refine LX_det (.int .i64 0) (by kernel_rfl) rfl (fun w' hx _ => ?_) ?_
          · go_simp
          refine LX_det (.pointer (some ⟨g, 0, none⟩)) (by kernel_rfl) rfl (fun w' hx _ => ?_) ?_
          · go_simp
          refine LX_det (.float .f32 u) (by kernel_rfl) rfl (fun w' hx _ => ?_) ?_
          · have m0 := (Below.cell hx (p := ⟨g, 0, none⟩) hb1).trans hc1
            go_simp
          simp only [Act.put, List.setIfInBounds_toArray, List.set_cons_succ, List.set_cons_zero]
          refine LX_fcmp (by kernel_rfl) rfl rfl rfl rfl hq1 ?_
          refine LX_det (.bool false) (by kernel_rfl) rfl (fun w' hx _ => ?_) ?_
          · go_simp
          refine LX_det (.int .i64 0) (by kernel_rfl) rfl (fun w' hx _ => ?_) ?_
          · go_simp
          refine LX_det (.bool false) (by kernel_rfl) rfl (fun w' hx _ => ?_) ?_
          · go_simp
          refine LX_det (.bool false) (by kernel_rfl) rfl (fun w' hx _ => ?_) ?_
          · go_simp
          iterate 16 refine LX_skip (by kernel_rfl) ?_
          refine LX_det (.bool false) (by kernel_rfl) rfl (fun w' hx _ => ?_) ?_
          · go_simp
          refine LX_det (.bool false) (by kernel_rfl) rfl (fun w' hx _ => ?_) ?_
          · go_simp
          refine LX_nil fun w3 hx _ => ?_
          refine wpList_nil ?_
          simp only [Act.put, List.setIfInBounds_toArray, List.set_cons_succ, List.set_cons_zero]
          replace X2 := X2.trans hx
          clear hx hb1 hc1 hq1
          go_wp2_with fail
          go_roundw
          case rel => exact ⟨1, fb, by omega, by go_num, rfl, hsum, X2⟩
          case measure => simp [intOf]
        · obtain ⟨q, hqk⟩ : ∃ q, q + 1 = k := ⟨k - 1, by omega⟩
          have hqo : q < os.length := by omega
          obtain ⟨_, _, hbo, hb0, hc0⟩ := (R.ext X2).at hqo
          cases hbo
          rw [Nat.zero_add] at hc0
          have hp0 : cn .f32 os[q] = needP (mA a) q := by
            have h : (os.map (cn .f32)).getD q 0 = (needL (mA a) c).getD q 0 := by rw [HU.out]
            rw [needL_get _ _ _ (by omega)] at h
            have h2 : (os.map (cn .f32)).getD q 0 = cn .f32 os[q] := by simp [hqo]
            rw [← h2]; exact h
          have HP0 := Lib.hid hp0
          have HGAP := Lib.hid ((MT.out q (by omega)).2.2.2 (by omega))
          rw [hqk] at HGAP
          generalize os[q] = u0 at *
          generalize os[k] = u at *
          have s1 : IntKind.i64.wrap ((k : Int) - 1) = (q : Int) := by have := IntWalk.i64_in ((k : Int) - 1) (by omega); rw [this]; omega
          have s2 : (q : Int) < (os.length : Int) := by omega
          have s3 : (k : Int) < (os.length : Int) := by omega
          have s4 : 0 < k := by omega
          have s5 : (q : Int).toNat = q := by omega
          have s6 : (k : Int).toNat = k := by omega
          clear hqk hp0
          refine wp_region_rel 27 (fun _ v => ∃ z, v = .float .f64 z ∧ fcmp .gtr .f64 (cn .f64 z) (cn .f64 4562254508917369340) = false) (fun _ _ _ => True) (by kernel_rfl) (by kernel_rfl) (by kernel_rfl) ?_
          dsimp only [List.take, List.drop, List.length]
          refine LX_det (.slice (some ⟨g, 0, none⟩) os.length cap) (by kernel_rfl) rfl (fun w' hx _ => ?_) ?_
          · go_simp
          refine LX_det (.int .i64 k) (by kernel_rfl) rfl (fun w' hx _ => ?_) ?_
          · go_simp
          refine LX_det (.pointer (some ⟨g, k, none⟩)) (by kernel_rfl) rfl (fun w' hx _ => ?_) ?_
          · go_simp
          refine LX_det (.float .f32 u) (by kernel_rfl) rfl (fun w' hx _ => ?_) ?_
          · have m0 := (Below.cell hx (p := ⟨g, k, none⟩) hb1).trans hc1
            go_simp
          simp only [Act.put, List.setIfInBounds_toArray, List.set_cons_succ, List.set_cons_zero]
          refine LX_fcmp (by kernel_rfl) rfl rfl rfl rfl hq1 ?_
          refine LX_det (.bool false) (by kernel_rfl) rfl (fun w' hx _ => ?_) ?_
          · go_simp
          refine LX_det (.int .i64 k) (by kernel_rfl) rfl (fun w' hx _ => ?_) ?_
          · go_simp
          refine LX_det (.bool true) (by kernel_rfl) rfl (fun w' hx _ => ?_) ?_
          · go_simp
          refine LX_det (.bool true) (by kernel_rfl) rfl (fun w' hx _ => ?_) ?_
          · go_simp
          refine LX_det (.slice (some ⟨g, 0, none⟩) os.length cap) (by kernel_rfl) rfl (fun w' hx _ => ?_) ?_
          · go_simp
          refine LX_det (.int .i64 k) (by kernel_rfl) rfl (fun w' hx _ => ?_) ?_
          · go_simp
          refine LX_det (.pointer (some ⟨g, k, none⟩)) (by kernel_rfl) rfl (fun w' hx _ => ?_) ?_
          · go_simp
          refine LX_det (.float .f32 u) (by kernel_rfl) rfl (fun w' hx _ => ?_) ?_
          · have m0 := (Below.cell hx (p := ⟨g, k, none⟩) hb1).trans hc1
            go_simp
          refine LX_det (.int .i64 k) (by kernel_rfl) rfl (fun w' hx _ => ?_) ?_
          · go_simp
          refine LX_det (.float .f32 (floatOfInt .f32 (k : Int))) (by kernel_rfl) rfl (fun w' hx _ => ?_) ?_
          · go_simp
          simp only [Act.put, List.setIfInBounds_toArray, List.set_cons_succ, List.set_cons_zero]
          refine LX_fop (by kernel_rfl) rfl rfl rfl rfl ?_
          intro f1 hf1 hl1
          replace hf1 := Lib.hid hf1
          replace hl1 := Lib.hid hl1
          refine LX_det (.slice (some ⟨g, 0, none⟩) os.length cap) (by kernel_rfl) rfl (fun w' hx _ => ?_) ?_
          · go_simp
          refine LX_det (.int .i64 k) (by kernel_rfl) rfl (fun w' hx _ => ?_) ?_
          · go_simp
          refine LX_det (.int .i64 q) (by kernel_rfl) rfl (fun w' hx _ => ?_) ?_
          · go_simp
          refine LX_det (.pointer (some ⟨g, q, none⟩)) (by kernel_rfl) rfl (fun w' hx _ => ?_) ?_
          · go_simp
          refine LX_det (.float .f32 u0) (by kernel_rfl) rfl (fun w' hx _ => ?_) ?_
          · have m0 := (Below.cell hx (p := ⟨g, q, none⟩) hb0).trans hc0
            go_simp
          refine LX_det (.float .f32 mb) (by kernel_rfl) rfl (fun w' hx _ => ?_) ?_
          · go_simp
          simp only [Act.put, List.setIfInBounds_toArray, List.set_cons_succ, List.set_cons_zero]
          refine LX_fop (by kernel_rfl) rfl rfl rfl rfl ?_
          intro f2 hf2 hl2
          replace hf2 := Lib.hid hf2
          replace hl2 := Lib.hid hl2
          have HG2 : Hid (gapOk (cn .f32 f1) (cn .f32 f2) = true) := by
            show _ = _
            rw [hf1.out, hf2.out, HPk.out, HP0.out, HM.out, cn_ofI]; exact HGAP.out
          refine LX_call (by kernel_rfl) rfl (fun _ => St.top) (fun w' hx _ => ?_) ?_
          · go_simp
            refine UponC.enter ((r8Gap_any f1 f2 w' HG2.out).mono ?_)
            rintro e w'' ⟨z, rfl, hz, m, rfl⟩
            exact ⟨_, rfl, Ext.drewN _ _, ⟨z, rfl, hz⟩, trivial⟩
          rintro _ ⟨z, rfl, hz⟩
          simp only [Act.put, List.setIfInBounds_toArray, List.set_cons_succ, List.set_cons_zero]
          refine LX_fcmp (by kernel_rfl) rfl rfl rfl rfl hz ?_
          clear hz
          refine LX_det (.bool false) (by kernel_rfl) rfl (fun w' hx _ => ?_) ?_
          · go_simp
          refine LX_det (.bool false) (by kernel_rfl) rfl (fun w' hx _ => ?_) ?_
          · go_simp
          refine LX_nil fun w3 hx _ => ?_
          refine wpList_nil ?_
          simp only [Act.put, List.setIfInBounds_toArray, List.set_cons_succ, List.set_cons_zero]
          replace X2 := X2.trans hx
          clear hx hb1 hc1 hb0 hc0 hq1 s1 s2 s3 s4 s5 s6
          go_wp2_with fail
          go_roundw
          case rel => exact ⟨k + 1, fb, by omega, by go_num, rfl, hsum, X2⟩
          case measure => simp [intOf]; omega
      · obtain rfl : k = c + 1 := by omega
        have hx1 : fcmp .gtr .f64 (cn .f64 x) (cn .f64 4607186922399644778) = false := by
          rw [Hx.out, sumT_succ, show cn .f64 4607186922399644778 = 4607186922399644778 from by decide +kernel]
          exact (MT.out c (by omega)).2.1 (by omega)
        obtain ⟨n, hn, hsf, hen, hle⟩ := sf_found ha hb
        have HSF := Lib.hid hsf
        have HEN := Lib.hid hen
        have HLE := Lib.hid hle
        clear hsf hen hle Hx
        replace X := X.trans X2
        clear X2 R HU HOL hol1 hol2
        go_wp2_with fail
        refine (CB.out _ (r2'.ext X)).mono ?_
        rintro e w3 ⟨rfl, rfl⟩
        go_wp2_with (first | (refine wpList_fop rfl rfl rfl rfl rfl ?_; intro fb nf hfb hfl; replace hfb := Lib.hid hfb; replace hfl := Lib.hid hfl))
        have HSV : Hid (cn .f32 fb = svA b) := hfb.out.trans (cn_svA b)
        have HFL := hfl
        clear hfb hfl
        generalize fb = sb at *
        refine (implSpares_any mb sb _).mono ?_
        rw [HM.out, HSV.out, HSF.out]
        rintro e w4 ⟨hx, rfl⟩
        replace X := (X.trans (Ext.drewN _ _)).trans hx
        clear hx
        simp only [Option.getD_some, Option.isSome_some]
        go_wp2_with fail
        refine (implStandby_any mb n 1065353216 _ HMB.out (by decide)).mono ?_
        rw [HM.out, st_mA ha hn]
        rintro e w5 ⟨hx, b1, rfl, hb1, hl1⟩
        have hx2 : fcmp .lss .f32 (cn .f32 b1) (cn .f32 sb) = false := by rw [hb1, HSV.out]; exact HEN.out
        replace X := X.trans hx
        clear hx hb1 HEN
        by_cases hn0 : n = 0
        · subst hn0
          clear HLE
          go_wp2_with (first | (refine wpList_fcmp rfl rfl rfl rfl rfl (by first | with_reducible assumption | exact rfl) ?_))
          generalize w5 = W0 at *
          clear hx1 hx2
          have o0 : (W0.alloc (.cells #[] 24)).ownsRow W0.heap.size 24 1 (.slice (some ⟨W0.heap.size, 0, none⟩) 0 0) 0 [] := World.ownsRow_lit (base := W0.heap.size) (e := 24) (size := 1) W0 #[] 0 (Nat.le_refl _) (by decide) rfl
          go_loopw [19, 18] (fun i o wr => ∃ (k g2 cap2 : Nat) (us : List Nat), k ≤ l + 1 ∧ i = .int .i64 k ∧ o = .slice (some ⟨g2, 0, none⟩) k cap2 ∧ us.length = k ∧ Hid (us.map (cn .f32) = meansL xs k) ∧ Hid (∀ b ∈ us, b < 4294967296) ∧
              wr.ownsRow W0.heap.size 24 1 (.slice (some ⟨g2, 0, none⟩) k cap2) k (us.map (Value.float .f32)) ∧ Ext W0 wr) (fun i _ _ => l + 1 - (intOf i).toNat)
          case atStart => exact ⟨0, W0.heap.size, 0, [], by omega, rfl, rfl, rfl, rfl, (by show ∀ _ ∈ _, _; simp), o0, Ext.alloc _ _⟩
          case round =>
            obtain ⟨k, g2, cap2, us, hk, rfl, rfl, hul, HU, HB, own, X2⟩ := hrel
            go_wp2_with fail
            refine (CL.out _ (r2'.ext (X.trans X2))).mono ?_
            rintro e w7 ⟨rfl, rfl⟩
            by_cases hlt : k < l + 1
            · have h1 : (k : Int) < 1 + (l : Int) := by omega
              go_wp2_with fail
              refine (r8At_any _ xs k 16 _ (r1'.ext (X.trans X2)) (by omega) (by omega) (by omega)).mono ?_
              rintro e w8 ⟨rfl, rfl⟩
              have HQ : Hid (meansL xs (k + 1) = meansL xs k ++ [mB (at8 xs k 16)]) := meansL_succ xs k
              generalize at8 xs k 16 = z at *
              go_wp2_with (first | (refine wpList_fop rfl rfl rfl rfl rfl ?_; intro fb nf hfb hfl; replace hfb := Lib.hid hfb; replace hfl := Lib.hid hfl) | (at_builtin; refine wpList_push (v := .slice (some ⟨g2, 0, none⟩) k cap2) infoF32 rfl Try.underlying33 rfl rfl rfl (World.ownsRow.alloc (w := World.drewN _ _) own _) rfl (Bx.new _ [_] _).one rfl (by omega) (by decide) (X2.trans ((Ext.drewN _ _).trans (Ext.alloc _ _))).size ?_; intro g3 cap3 w9 hg3 own3 bel3 sz3))
              have HN2 : Hid ((us ++ [fb]).map (cn .f32) = meansL xs (k + 1)) := by
                show _ = _; rw [List.map_append, HU.out, HQ.out, List.map_cons, hfb.out, cn_mB]; rfl
              have HB2 : Hid (∀ b ∈ us ++ [fb], b < 4294967296) := by
                show ∀ _ ∈ _, _
                intro b hb
                rcases List.mem_append.1 hb with h | h
                · exact HB.out b h
                · obtain rfl := List.mem_singleton.1 h; exact hfl.out
              go_roundw
              case rel => exact ⟨k + 1, g3, cap3, us ++ [fb], by omega, by go_num, rfl, by simp [hul], HN2, HB2, by rw [List.map_append]; exact own3, bel3 _ (X2.trans ((Ext.drewN _ _).trans (Ext.alloc _ _)))⟩
              case measure => simp [intOf]; omega
            · obtain rfl : k = l + 1 := by omega
              have h1 : ¬ ((l + 1 : Nat) : Int) < 1 + (l : Int) := by omega
              go_wp2_with fail
              refine (CT.out _ (r2'.ext (X.trans X2))).mono ?_
              rintro e w8 ⟨rfl, rfl⟩
              have RM : RdF wr (.slice (some ⟨g2, 0, none⟩) us.length cap2) us := ⟨by rw [hul]; exact own_rd own, HB.out⟩
              rw [hul] at RM
              replace X := X.trans X2
              have X0 : Ext wr wr := Ext.refl _
              clear X2 own h1
              go_wp2_with fail
              refine (implSplit_any _ us t _ RM).mono ?_
              rw [HU.out, splO_spO (by omega) (by omega) (by omega)]
              rintro e w9 ⟨hx, g5, cap5, rfl, own⟩
              rw [List.length_map, splO_len] at own ⊢
              replace RM := RM.ext hx
              replace X := X.trans hx
              have HSM : Hid ((splO xs (l + 1) t).sum = t) := splO_sum (by omega)
              have HOE := Lib.hid (splO_le xs (l + 1) t)
              have hlen := splO_len xs (l + 1) t
              have hcell : ∀ W, Ext w9 W → ∀ i, i < l + 1 → g5 < W.heap.size ∧ W.cell? ⟨g5, i, none⟩ = some (.int .i64 (((splO xs (l + 1) t).getD i 0 : Nat) : Int)) := by
                intro W hW i hi
                have o2 := own_ext own hW
                refine ⟨(World.ownsRow.lt o2 g5 rfl).2, ?_⟩
                have h := World.ownsRow.cellAt o2 i (by omega)
                rw [h, List.getElem?_map, List.getElem?_map, List.getElem?_eq_getElem (by omega)]
                simp [List.getD_eq_getElem?_getD, show i < (splO xs (l + 1) t).length by omega]
              have HCELL := Lib.hid hcell
              have hmn : ∀ i (h : i < us.length), cn .f32 (us[i]'h) = mB (at8 xs i 16) := by
                intro i h
                have h1 : (us.map (cn .f32)).getD i 0 = (meansL xs (l + 1)).getD i 0 := by rw [HU.out]
                rw [meansL_at (by omega)] at h1
                rw [← h1]; simp [h]
              have HMN := Lib.hid hmn
              have hnot : ∀ i j p, i < l + 1 → j < l + 1 → p + 1 = (splO xs (l + 1) t).getD j 0 → fcmp .gtr .f32 (needU (mB (at8 xs i 16)) ((splO xs (l + 1) t).getD i 0)) (needU (mB (at8 xs j 16)) p) = false :=
                fun i j p hi hj hp => split_not (by omega) (by omega) hi hj hp
              have HNOT := Lib.hid hnot
              have HTS := Lib.hid (fun k => take_sum_succ (splO xs (l + 1) t) k)
              have HTL := Lib.hid (fun k => take_sum_le (splO xs (l + 1) t) k)
              have HTA : Hid ((splO xs (l + 1) t).take (l + 1) = splO xs (l + 1) t) := by show _ = _; rw [List.take_of_length_le]; omega
              clear hcell hmn hnot hx own hlen X0
              generalize hO : splO xs (l + 1) t = O at *
              clear hO
              go_wp2_with fail
              go_loopw [24, 23] (fun i s wq => ∃ (k : Nat), k ≤ l + 1 ∧ i = .int .i64 k ∧ s = .int .i64 (((O.take k).sum : Nat) : Int) ∧ Ext w9 wq) (fun i _ _ => l + 1 - (intOf i).toNat)
              case atStart => exact ⟨0, by omega, rfl, rfl, Ext.refl _⟩
              case round =>
                obtain ⟨k, hk, rfl, rfl, X3⟩ := hrel
                by_cases hlt : k < l + 1
                · obtain ⟨hg5, hck⟩ := HCELL.out _ X3 k hlt
                  have h1 : (k : Int) < ((l + 1 : Nat) : Int) := by omega
                  have hs := HTS.out k
                  have hs1 := HTL.out (k + 1)
                  have ho := HOE.out k
                  rw [HSM.out] at hs1
                  have s1 : IntKind.i64.wrap (((O.take k).sum : Nat) + ((O.getD k 0 : Nat) : Int)) = (((O.take (k + 1)).sum : Nat) : Int) := by
                    rw [IntWalk.i64_in _ (by omega)]; omega
                  have HS := Lib.hid hs
                  have hok0 : (0 : Int) ≤ ((O.getD k 0 : Nat) : Int) := by omega
                  have hok1 := ho
                  clear hs hs1 ho
                  generalize hA : (O.take (k + 1)).sum = A at *
                  generalize hB : (O.take k).sum = B at *
                  have hnot := fun j p => HNOT.out k j p hlt
                  have HNK := Lib.hid hnot
                  clear hnot
                  generalize hC : O.getD k 0 = C at *
                  have HA := Lib.hid hA
                  have HC := Lib.hid hC
                  clear hA hB hC
                  go_wp2_with fail
                  clear hck s1 hok0
                  clear ‹(k : Int) < (l : Int) + 1› ‹(0 : Int) ≤ (C : Int)›
                  go_loopw [25] (fun j wq => ∃ (m : Nat), m ≤ l + 1 ∧ j = .int .i64 m ∧ Ext w9 wq) (fun j _ => l + 1 - (intOf j).toNat)
                  case atStart => exact ⟨0, by omega, rfl, X3⟩
                  case round =>
                    obtain ⟨m, hm, rfl, X4⟩ := hrel
                    by_cases hlt2 : m < l + 1
                    · obtain ⟨hg6, hcm⟩ := HCELL.out _ X4 m hlt2
                      have h2 : (m : Int) < ((l + 1 : Nat) : Int) := by omega
                      by_cases hz : O.getD m 0 = 0
                      · rw [hz] at hcm
                        clear hz
                        go_wp2_with fail
                        go_roundw
                        case rel => exact ⟨m + 1, by omega, by go_num, X4⟩
                        case measure => simp [intOf]; omega
                      · obtain ⟨p, hp⟩ : ∃ p, p + 1 = O.getD m 0 := ⟨O.getD m 0 - 1, by omega⟩
                        have hgt := Lib.hid (HNK.out m p hlt2 hp)
                        have hp20 : p + 1 ≤ t := by rw [hp]; exact HOE.out m
                        rw [← hp] at hcm
                        have hck := (HCELL.out _ X4 k hlt).2
                        rw [HC.out] at hck
                        have q0 : (((p + 1 : Nat) : Int) == 0) = false := by rw [beq_eq_false_iff_ne]; omega
                        have s1 : IntKind.i64.wrap (((p + 1 : Nat) : Int) - 1) = (p : Int) := by rw [IntWalk.i64_in _ (by omega)]; omega
                        have h1 : (k : Int) < ((l + 1 : Nat) : Int) := by omega
                        obtain ⟨bk, ok, hbo, hbk, hck2⟩ := (RM.ext X4).at (show k < us.length by omega)
                        obtain ⟨rfl, rfl⟩ : g2 = bk ∧ 0 = ok := by simpa using hbo
                        obtain ⟨bm, om, hbo2, hbm, hcm2⟩ := (RM.ext X4).at (show m < us.length by omega)
                        obtain ⟨rfl, rfl⟩ : g2 = bm ∧ 0 = om := by simpa using hbo2
                        rw [Nat.zero_add] at hck2 hcm2
                        have HUK := Lib.hid (HMN.out k (by omega))
                        have HUM := Lib.hid (HMN.out m (by omega))
                        have hbk32 := RM.2 _ (List.getElem_mem (show k < us.length by omega))
                        have hbm32 := RM.2 _ (List.getElem_mem (show m < us.length by omega))
                        have HST1 : Hid (stO (mB (at8 xs k 16)) (C : Int) (cn .f32 1065353216) = some (needS (mB (at8 xs k 16)) C)) := st_mB (at8_lt (by omega)) (by omega)
                        have HST2 : Hid (stO (mB (at8 xs m 16)) (p : Int) (cn .f32 1065353216) = some (needS (mB (at8 xs m 16)) p)) := st_mB (at8_lt (by omega)) (by omega)
                        have HU1 : Hid (needU (mB (at8 xs k 16)) C = fop .sub .f32 (cn .f32 1065353216) (needS (mB (at8 xs k 16)) C)) := rfl
                        have HU2 : Hid (needU (mB (at8 xs m 16)) p = fop .sub .f32 (cn .f32 1065353216) (needS (mB (at8 xs m 16)) p)) := rfl
                        generalize us[k]'(by omega) = uk at *
                        generalize us[m]'(by omega) = um at *
                        generalize mB (at8 xs k 16) = mk at *
                        generalize mB (at8 xs m 16) = mm at *
                        clear hz hp hbo hbo2
                        go_wp2_with fail
                        have s2 : ((p + 1 : Nat) : Int) = (p : Int) + 1 := rfl
                        have s5 : IntKind.i64.wrap (p : Int) = (p : Int) := IntWalk.i64_in _ (by omega)
                        have h3 : (k : Int) < (l : Int) + 1 := by omega
                        have h4 : (m : Int) < (l : Int) + 1 := by omega
                        have hk1 : k < l + 1 := hlt
                        have hm1 : m < l + 1 := hlt2
                        refine wp_region_rel 14 (fun _ v => ∃ b, v = .tuple #[.float .f32 b, .bool true] ∧ cn .f32 b = needS mk C) (fun _ _ _ => True) (by kernel_rfl) (by kernel_rfl) (by kernel_rfl) ?_
                        dsimp only [List.take, List.drop, List.length]
                        refine LX_det (.slice (some ⟨g2, 0, none⟩) (l + 1) cap2) (by kernel_rfl) rfl (fun w' hx _ => ?_) ?_
                        · go_simp
                        refine LX_det (.int .i64 k) (by kernel_rfl) rfl (fun w' hx _ => ?_) ?_
                        · go_simp
                        refine LX_det (.pointer (some ⟨g2, k, none⟩)) (by kernel_rfl) rfl (fun w' hx _ => ?_) ?_
                        · go_simp
                        refine LX_det (.float .f32 uk) (by kernel_rfl) rfl (fun w' hx _ => ?_) ?_
                        · have m0 := (Below.cell hx (p := ⟨g2, k, none⟩) hbk).trans hck2
                          go_simp
                        refine LX_det (.slice (some ⟨g5, 0, none⟩) (l + 1) cap5) (by kernel_rfl) rfl (fun w' hx _ => ?_) ?_
                        · go_simp
                        refine LX_det (.int .i64 k) (by kernel_rfl) rfl (fun w' hx _ => ?_) ?_
                        · go_simp
                        refine LX_det (.pointer (some ⟨g5, k, none⟩)) (by kernel_rfl) rfl (fun w' hx _ => ?_) ?_
                        · go_simp
                        refine LX_det (.int .i64 C) (by kernel_rfl) rfl (fun w' hx _ => ?_) ?_
                        · have m0 := (Below.cell hx (p := ⟨g5, k, none⟩) hg6).trans hck
                          go_simp
                        simp only [Act.put, List.setIfInBounds_toArray, List.set_cons_succ, List.set_cons_zero]
                        refine LX_call (by kernel_rfl) rfl (fun _ => St.top) (fun w' hx _ => ?_) ?_
                        · go_simp
                          refine UponC.enter ((implStandby_any uk C 1065353216 w' hbk32 (by decide)).mono ?_)
                          rw [HUK.out, HST1.out]
                          rintro e w'' ⟨hx', b, rfl, hb, -⟩
                          exact ⟨_, rfl, hx', ⟨b, rfl, hb⟩, trivial⟩
                        rintro _ ⟨y1, rfl, hy1⟩
                        replace hy1 := Lib.hid hy1
                        simp only [Act.put, List.setIfInBounds_toArray, List.set_cons_succ, List.set_cons_zero]
                        refine LX_det (.tuple #[.float .f32 y1, .bool true]) (by kernel_rfl) rfl (fun w' hx _ => ?_) ?_
                        · go_simp
                        refine LX_det (.float .f32 y1) (by kernel_rfl) rfl (fun w' hx _ => ?_) ?_
                        · go_simp
                        refine LX_det (.bool true) (by kernel_rfl) rfl (fun w' hx _ => ?_) ?_
                        · go_simp
                        refine LX_det (.float .f32 y1) (by kernel_rfl) rfl (fun w' hx _ => ?_) ?_
                        · go_simp
                        refine LX_det (.bool true) (by kernel_rfl) rfl (fun w' hx _ => ?_) ?_
                        · go_simp
                        refine LX_nil fun w10 hx _ => ?_
                        refine wpList_nil ?_
                        simp only [Act.put, List.setIfInBounds_toArray, List.set_cons_succ, List.set_cons_zero]
                        replace hck2 := (Below.cell hx (p := ⟨g2, m, none⟩) hbk).trans hcm2
                        replace hcm := (Below.cell hx (p := ⟨g5, m, none⟩) hg6).trans hcm
                        replace hbk := Nat.lt_of_lt_of_le hbk hx.size
                        replace hg6 := Nat.lt_of_lt_of_le hg6 hx.size
                        replace X4 := X4.trans hx
                        clear hx hcm2 hbm hck
                        go_wp2_with fail
                        refine wp_region_rel 15 (fun _ v => ∃ b, v = .tuple #[.float .f32 b, .bool true] ∧ cn .f32 b = needS mm p) (fun _ _ _ => True) (by kernel_rfl) (by kernel_rfl) (by kernel_rfl) ?_
                        dsimp only [List.take, List.drop, List.length]
                        refine LX_det (.slice (some ⟨g2, 0, none⟩) (l + 1) cap2) (by kernel_rfl) rfl (fun w' hx _ => ?_) ?_
                        · go_simp
                        refine LX_det (.int .i64 m) (by kernel_rfl) rfl (fun w' hx _ => ?_) ?_
                        · go_simp
                        refine LX_det (.pointer (some ⟨g2, m, none⟩)) (by kernel_rfl) rfl (fun w' hx _ => ?_) ?_
                        · go_simp
                        refine LX_det (.float .f32 um) (by kernel_rfl) rfl (fun w' hx _ => ?_) ?_
                        · have m0 := (Below.cell hx (p := ⟨g2, m, none⟩) hbk).trans hck2
                          go_simp
                        refine LX_det (.slice (some ⟨g5, 0, none⟩) (l + 1) cap5) (by kernel_rfl) rfl (fun w' hx _ => ?_) ?_
                        · go_simp
                        refine LX_det (.int .i64 m) (by kernel_rfl) rfl (fun w' hx _ => ?_) ?_
                        · go_simp
                        refine LX_det (.pointer (some ⟨g5, m, none⟩)) (by kernel_rfl) rfl (fun w' hx _ => ?_) ?_
                        · go_simp
                        refine LX_det (.int .i64 ((p + 1 : Nat) : Int)) (by kernel_rfl) rfl (fun w' hx _ => ?_) ?_
                        · have m0 := (Below.cell hx (p := ⟨g5, m, none⟩) hg6).trans hcm
                          go_simp
                        refine LX_det (.int .i64 p) (by kernel_rfl) rfl (fun w' hx _ => ?_) ?_
                        · go_simp
                        simp only [Act.put, List.setIfInBounds_toArray, List.set_cons_succ, List.set_cons_zero]
                        refine LX_call (by kernel_rfl) rfl (fun _ => St.top) (fun w' hx _ => ?_) ?_
                        · go_simp
                          refine UponC.enter ((implStandby_any um p 1065353216 w' hbm32 (by decide)).mono ?_)
                          rw [HUM.out, HST2.out]
                          rintro e w'' ⟨hx', b, rfl, hb, -⟩
                          exact ⟨_, rfl, hx', ⟨b, rfl, hb⟩, trivial⟩
                        rintro _ ⟨y2, rfl, hy2⟩
                        replace hy2 := Lib.hid hy2
                        simp only [Act.put, List.setIfInBounds_toArray, List.set_cons_succ, List.set_cons_zero]
                        refine LX_det (.tuple #[.float .f32 y2, .bool true]) (by kernel_rfl) rfl (fun w' hx _ => ?_) ?_
                        · go_simp
                        refine LX_det (.float .f32 y2) (by kernel_rfl) rfl (fun w' hx _ => ?_) ?_
                        · go_simp
                        refine LX_det (.bool true) (by kernel_rfl) rfl (fun w' hx _ => ?_) ?_
                        · go_simp
                        refine LX_det (.float .f32 y2) (by kernel_rfl) rfl (fun w' hx _ => ?_) ?_
                        · go_simp
                        refine LX_det (.bool true) (by kernel_rfl) rfl (fun w' hx _ => ?_) ?_
                        · go_simp
                        refine LX_nil fun w11 hx _ => ?_
                        refine wpList_nil ?_
                        simp only [Act.put, List.setIfInBounds_toArray, List.set_cons_succ, List.set_cons_zero]
                        replace X4 := X4.trans hx
                        clear hx hck2 hcm hbk hg6 s1 s2 h3 h4 hk1 hm1 q0 h1 h2 s5
                        go_wp2_with (first | (refine wpList_fop rfl rfl rfl rfl rfl ?_; intro fb nf hfb hfl; replace hfb := Lib.hid hfb; replace hfl := Lib.hid hfl))
                        all_goals
                          rename_i f1 n1 e1 l1 hway
                          have hf : (FloatKind.f32.format.order f1 fb == some Ordering.gt) = false := by
                            have h := hgt.out
                            rw [HU1.out, HU2.out, ← hy1.out, ← hy2.out, ← e1.out, ← hfb.out, fcmp_cn] at h
                            exact h
                          first
                          | (rw [hf] at hway; cases hway; done)
                          | skip
                        refine ⟨⟨_, .int .i64 ((m + 1 : Nat) : Int), ⟨m + 1, by omega, rfl, X4.trans (Ext.drewN _ _)⟩, rfl, by go_num, by omega⟩, ?_⟩
                        simp [intOf]; omega
                    · obtain rfl : m = l + 1 := by omega
                      have h2 : ¬ ((l + 1 : Nat) : Int) < ((l + 1 : Nat) : Int) := by omega
                      go_wp2_with fail
                      refine ⟨⟨k + 1, by omega, by go_num, by rw [HA.out], X4⟩, ?_⟩
                      simp [intOf]; omega
                · obtain rfl : k = l + 1 := by omega
                  have hst : (O.take (l + 1)).sum = t := by rw [HTA.out, HSM.out]
                  rw [hst]
                  have h2 : ¬ ((l + 1 : Nat) : Int) < ((l + 1 : Nat) : Int) := by omega
                  clear hst
                  go_wp2_with fail
                  go_ret
                  exact ⟨rfl, X.trans X3⟩
        · obtain ⟨q, hqn⟩ : ∃ q, q + 1 = n := ⟨n - 1, by omega⟩
          have HLQ := Lib.hid (HLE.out q hqn)
          have s1 : IntKind.i64.wrap ((n : Int) - 1) = (q : Int) := by have := IntWalk.i64_in ((n : Int) - 1) (by omega); rw [this]; omega
          have s2 : 0 < n := by omega
          have hq32 : q ≤ 32 := by omega
          clear HLE hqn hn0
          go_wp2_with (first | (refine wpList_fcmp rfl rfl rfl rfl rfl (by first | with_reducible assumption | exact rfl) ?_))
          refine (implStandby_any mb q 1065353216 _ HMB.out (by decide)).mono ?_
          rw [HM.out, st_mA ha hq32]
          rintro e w6 ⟨hx, b2, rfl, hb2, hl2⟩
          have hx3 : fcmp .geq .f32 (cn .f32 b2) (cn .f32 sb) = false := by rw [hb2, HSV.out]; exact HLQ.out
          replace X := X.trans hx
          clear hx hb2 HLQ s1 hx1 hx2
          go_wp2_with (first | (refine wpList_fcmp rfl rfl rfl rfl rfl (by first | with_reducible assumption | exact rfl) ?_))
          clear hx3 hq32 s2
          generalize w6 = W0 at *
          have o0 : (W0.alloc (.cells #[] 24)).ownsRow W0.heap.size 24 1 (.slice (some ⟨W0.heap.size, 0, none⟩) 0 0) 0 [] := World.ownsRow_lit (base := W0.heap.size) (e := 24) (size := 1) W0 #[] 0 (Nat.le_refl _) (by decide) rfl
          go_loopw [19, 18] (fun i o wr => ∃ (k g2 cap2 : Nat) (us : List Nat), k ≤ l + 1 ∧ i = .int .i64 k ∧ o = .slice (some ⟨g2, 0, none⟩) k cap2 ∧ us.length = k ∧ Hid (us.map (cn .f32) = meansL xs k) ∧ Hid (∀ b ∈ us, b < 4294967296) ∧
              wr.ownsRow W0.heap.size 24 1 (.slice (some ⟨g2, 0, none⟩) k cap2) k (us.map (Value.float .f32)) ∧ Ext W0 wr) (fun i _ _ => l + 1 - (intOf i).toNat)
          case atStart => exact ⟨0, W0.heap.size, 0, [], by omega, rfl, rfl, rfl, rfl, (by show ∀ _ ∈ _, _; simp), o0, Ext.alloc _ _⟩
          case round =>
            obtain ⟨k, g2, cap2, us, hk, rfl, rfl, hul, HU, HB, own, X2⟩ := hrel
            go_wp2_with fail
            refine (CL.out _ (r2'.ext (X.trans X2))).mono ?_
            rintro e w7 ⟨rfl, rfl⟩
            by_cases hlt : k < l + 1
            · have h1 : (k : Int) < 1 + (l : Int) := by omega
              go_wp2_with fail
              refine (r8At_any _ xs k 16 _ (r1'.ext (X.trans X2)) (by omega) (by omega) (by omega)).mono ?_
              rintro e w8 ⟨rfl, rfl⟩
              have HQ : Hid (meansL xs (k + 1) = meansL xs k ++ [mB (at8 xs k 16)]) := meansL_succ xs k
              generalize at8 xs k 16 = z at *
              go_wp2_with (first | (refine wpList_fop rfl rfl rfl rfl rfl ?_; intro fb nf hfb hfl; replace hfb := Lib.hid hfb; replace hfl := Lib.hid hfl) | (at_builtin; refine wpList_push (v := .slice (some ⟨g2, 0, none⟩) k cap2) infoF32 rfl Try.underlying33 rfl rfl rfl (World.ownsRow.alloc (w := World.drewN _ _) own _) rfl (Bx.new _ [_] _).one rfl (by omega) (by decide) (X2.trans ((Ext.drewN _ _).trans (Ext.alloc _ _))).size ?_; intro g3 cap3 w9 hg3 own3 bel3 sz3))
              have HN2 : Hid ((us ++ [fb]).map (cn .f32) = meansL xs (k + 1)) := by
                show _ = _; rw [List.map_append, HU.out, HQ.out, List.map_cons, hfb.out, cn_mB]; rfl
              have HB2 : Hid (∀ b ∈ us ++ [fb], b < 4294967296) := by
                show ∀ _ ∈ _, _
                intro b hb
                rcases List.mem_append.1 hb with h | h
                · exact HB.out b h
                · obtain rfl := List.mem_singleton.1 h; exact hfl.out
              go_roundw
              case rel => exact ⟨k + 1, g3, cap3, us ++ [fb], by omega, by go_num, rfl, by simp [hul], HN2, HB2, by rw [List.map_append]; exact own3, bel3 _ (X2.trans ((Ext.drewN _ _).trans (Ext.alloc _ _)))⟩
              case measure => simp [intOf]; omega
            · obtain rfl : k = l + 1 := by omega
              have h1 : ¬ ((l + 1 : Nat) : Int) < 1 + (l : Int) := by omega
              go_wp2_with fail
              refine (CT.out _ (r2'.ext (X.trans X2))).mono ?_
              rintro e w8 ⟨rfl, rfl⟩
              have RM : RdF wr (.slice (some ⟨g2, 0, none⟩) us.length cap2) us := ⟨by rw [hul]; exact own_rd own, HB.out⟩
              rw [hul] at RM
              replace X := X.trans X2
              have X0 : Ext wr wr := Ext.refl _
              clear X2 own h1
              go_wp2_with fail
              refine (implSplit_any _ us t _ RM).mono ?_
              rw [HU.out, splO_spO (by omega) (by omega) (by omega)]
              rintro e w9 ⟨hx, g5, cap5, rfl, own⟩
              rw [List.length_map, splO_len] at own ⊢
              replace RM := RM.ext hx
              replace X := X.trans hx
              have HSM : Hid ((splO xs (l + 1) t).sum = t) := splO_sum (by omega)
              have HOE := Lib.hid (splO_le xs (l + 1) t)
              have hlen := splO_len xs (l + 1) t
              have hcell : ∀ W, Ext w9 W → ∀ i, i < l + 1 → g5 < W.heap.size ∧ W.cell? ⟨g5, i, none⟩ = some (.int .i64 (((splO xs (l + 1) t).getD i 0 : Nat) : Int)) := by
                intro W hW i hi
                have o2 := own_ext own hW
                refine ⟨(World.ownsRow.lt o2 g5 rfl).2, ?_⟩
                have h := World.ownsRow.cellAt o2 i (by omega)
                rw [h, List.getElem?_map, List.getElem?_map, List.getElem?_eq_getElem (by omega)]
                simp [List.getD_eq_getElem?_getD, show i < (splO xs (l + 1) t).length by omega]
              have HCELL := Lib.hid hcell
              have hmn : ∀ i (h : i < us.length), cn .f32 (us[i]'h) = mB (at8 xs i 16) := by
                intro i h
                have h1 : (us.map (cn .f32)).getD i 0 = (meansL xs (l + 1)).getD i 0 := by rw [HU.out]
                rw [meansL_at (by omega)] at h1
                rw [← h1]; simp [h]
              have HMN := Lib.hid hmn
              have hnot : ∀ i j p, i < l + 1 → j < l + 1 → p + 1 = (splO xs (l + 1) t).getD j 0 → fcmp .gtr .f32 (needU (mB (at8 xs i 16)) ((splO xs (l + 1) t).getD i 0)) (needU (mB (at8 xs j 16)) p) = false :=
                fun i j p hi hj hp => split_not (by omega) (by omega) hi hj hp
              have HNOT := Lib.hid hnot
              have HTS := Lib.hid (fun k => take_sum_succ (splO xs (l + 1) t) k)
              have HTL := Lib.hid (fun k => take_sum_le (splO xs (l + 1) t) k)
              have HTA : Hid ((splO xs (l + 1) t).take (l + 1) = splO xs (l + 1) t) := by show _ = _; rw [List.take_of_length_le]; omega
              clear hcell hmn hnot hx own hlen X0
              generalize hO : splO xs (l + 1) t = O at *
              clear hO
              go_wp2_with fail
              go_loopw [24, 23] (fun i s wq => ∃ (k : Nat), k ≤ l + 1 ∧ i = .int .i64 k ∧ s = .int .i64 (((O.take k).sum : Nat) : Int) ∧ Ext w9 wq) (fun i _ _ => l + 1 - (intOf i).toNat)
              case atStart => exact ⟨0, by omega, rfl, rfl, Ext.refl _⟩
              case round =>
                obtain ⟨k, hk, rfl, rfl, X3⟩ := hrel
                by_cases hlt : k < l + 1
                · obtain ⟨hg5, hck⟩ := HCELL.out _ X3 k hlt
                  have h1 : (k : Int) < ((l + 1 : Nat) : Int) := by omega
                  have hs := HTS.out k
                  have hs1 := HTL.out (k + 1)
                  have ho := HOE.out k
                  rw [HSM.out] at hs1
                  have s1 : IntKind.i64.wrap (((O.take k).sum : Nat) + ((O.getD k 0 : Nat) : Int)) = (((O.take (k + 1)).sum : Nat) : Int) := by
                    rw [IntWalk.i64_in _ (by omega)]; omega
                  have HS := Lib.hid hs
                  have hok0 : (0 : Int) ≤ ((O.getD k 0 : Nat) : Int) := by omega
                  have hok1 := ho
                  clear hs hs1 ho
                  generalize hA : (O.take (k + 1)).sum = A at *
                  generalize hB : (O.take k).sum = B at *
                  have hnot := fun j p => HNOT.out k j p hlt
                  have HNK := Lib.hid hnot
                  clear hnot
                  generalize hC : O.getD k 0 = C at *
                  have HA := Lib.hid hA
                  have HC := Lib.hid hC
                  clear hA hB hC
                  go_wp2_with fail
                  clear hck s1 hok0
                  clear ‹(k : Int) < (l : Int) + 1› ‹(0 : Int) ≤ (C : Int)›
                  go_loopw [25] (fun j wq => ∃ (m : Nat), m ≤ l + 1 ∧ j = .int .i64 m ∧ Ext w9 wq) (fun j _ => l + 1 - (intOf j).toNat)
                  case atStart => exact ⟨0, by omega, rfl, X3⟩
                  case round =>
                    obtain ⟨m, hm, rfl, X4⟩ := hrel
                    by_cases hlt2 : m < l + 1
                    · obtain ⟨hg6, hcm⟩ := HCELL.out _ X4 m hlt2
                      have h2 : (m : Int) < ((l + 1 : Nat) : Int) := by omega
                      by_cases hz : O.getD m 0 = 0
                      · rw [hz] at hcm
                        clear hz
                        go_wp2_with fail
                        go_roundw
                        case rel => exact ⟨m + 1, by omega, by go_num, X4⟩
                        case measure => simp [intOf]; omega
                      · obtain ⟨p, hp⟩ : ∃ p, p + 1 = O.getD m 0 := ⟨O.getD m 0 - 1, by omega⟩
                        have hgt := Lib.hid (HNK.out m p hlt2 hp)
                        have hp20 : p + 1 ≤ t := by rw [hp]; exact HOE.out m
                        rw [← hp] at hcm
                        have hck := (HCELL.out _ X4 k hlt).2
                        rw [HC.out] at hck
                        have q0 : (((p + 1 : Nat) : Int) == 0) = false := by rw [beq_eq_false_iff_ne]; omega
                        have s1 : IntKind.i64.wrap (((p + 1 : Nat) : Int) - 1) = (p : Int) := by rw [IntWalk.i64_in _ (by omega)]; omega
                        have h1 : (k : Int) < ((l + 1 : Nat) : Int) := by omega
                        obtain ⟨bk, ok, hbo, hbk, hck2⟩ := (RM.ext X4).at (show k < us.length by omega)
                        obtain ⟨rfl, rfl⟩ : g2 = bk ∧ 0 = ok := by simpa using hbo
                        obtain ⟨bm, om, hbo2, hbm, hcm2⟩ := (RM.ext X4).at (show m < us.length by omega)
                        obtain ⟨rfl, rfl⟩ : g2 = bm ∧ 0 = om := by simpa using hbo2
                        rw [Nat.zero_add] at hck2 hcm2
                        have HUK := Lib.hid (HMN.out k (by omega))
                        have HUM := Lib.hid (HMN.out m (by omega))
                        have hbk32 := RM.2 _ (List.getElem_mem (show k < us.length by omega))
                        have hbm32 := RM.2 _ (List.getElem_mem (show m < us.length by omega))
                        have HST1 : Hid (stO (mB (at8 xs k 16)) (C : Int) (cn .f32 1065353216) = some (needS (mB (at8 xs k 16)) C)) := st_mB (at8_lt (by omega)) (by omega)
                        have HST2 : Hid (stO (mB (at8 xs m 16)) (p : Int) (cn .f32 1065353216) = some (needS (mB (at8 xs m 16)) p)) := st_mB (at8_lt (by omega)) (by omega)
                        have HU1 : Hid (needU (mB (at8 xs k 16)) C = fop .sub .f32 (cn .f32 1065353216) (needS (mB (at8 xs k 16)) C)) := rfl
                        have HU2 : Hid (needU (mB (at8 xs m 16)) p = fop .sub .f32 (cn .f32 1065353216) (needS (mB (at8 xs m 16)) p)) := rfl
                        generalize us[k]'(by omega) = uk at *
                        generalize us[m]'(by omega) = um at *
                        generalize mB (at8 xs k 16) = mk at *
                        generalize mB (at8 xs m 16) = mm at *
                        clear hz hp hbo hbo2
                        go_wp2_with fail
                        have s2 : ((p + 1 : Nat) : Int) = (p : Int) + 1 := rfl
                        have s5 : IntKind.i64.wrap (p : Int) = (p : Int) := IntWalk.i64_in _ (by omega)
                        have h3 : (k : Int) < (l : Int) + 1 := by omega
                        have h4 : (m : Int) < (l : Int) + 1 := by omega
                        have hk1 : k < l + 1 := hlt
                        have hm1 : m < l + 1 := hlt2
                        refine wp_region_rel 14 (fun _ v => ∃ b, v = .tuple #[.float .f32 b, .bool true] ∧ cn .f32 b = needS mk C) (fun _ _ _ => True) (by kernel_rfl) (by kernel_rfl) (by kernel_rfl) ?_
                        dsimp only [List.take, List.drop, List.length]
                        refine LX_det (.slice (some ⟨g2, 0, none⟩) (l + 1) cap2) (by kernel_rfl) rfl (fun w' hx _ => ?_) ?_
                        · go_simp
                        refine LX_det (.int .i64 k) (by kernel_rfl) rfl (fun w' hx _ => ?_) ?_
                        · go_simp
                        refine LX_det (.pointer (some ⟨g2, k, none⟩)) (by kernel_rfl) rfl (fun w' hx _ => ?_) ?_
                        · go_simp
                        refine LX_det (.float .f32 uk) (by kernel_rfl) rfl (fun w' hx _ => ?_) ?_
                        · have m0 := (Below.cell hx (p := ⟨g2, k, none⟩) hbk).trans hck2
                          go_simp
                        refine LX_det (.slice (some ⟨g5, 0, none⟩) (l + 1) cap5) (by kernel_rfl) rfl (fun w' hx _ => ?_) ?_
                        · go_simp
                        refine LX_det (.int .i64 k) (by kernel_rfl) rfl (fun w' hx _ => ?_) ?_
                        · go_simp
                        refine LX_det (.pointer (some ⟨g5, k, none⟩)) (by kernel_rfl) rfl (fun w' hx _ => ?_) ?_
                        · go_simp
                        refine LX_det (.int .i64 C) (by kernel_rfl) rfl (fun w' hx _ => ?_) ?_
                        · have m0 := (Below.cell hx (p := ⟨g5, k, none⟩) hg6).trans hck
                          go_simp
                        simp only [Act.put, List.setIfInBounds_toArray, List.set_cons_succ, List.set_cons_zero]
                        refine LX_call (by kernel_rfl) rfl (fun _ => St.top) (fun w' hx _ => ?_) ?_
                        · go_simp
                          refine UponC.enter ((implStandby_any uk C 1065353216 w' hbk32 (by decide)).mono ?_)
                          rw [HUK.out, HST1.out]
                          rintro e w'' ⟨hx', b, rfl, hb, -⟩
                          exact ⟨_, rfl, hx', ⟨b, rfl, hb⟩, trivial⟩
                        rintro _ ⟨y1, rfl, hy1⟩
                        replace hy1 := Lib.hid hy1
                        simp only [Act.put, List.setIfInBounds_toArray, List.set_cons_succ, List.set_cons_zero]
                        refine LX_det (.tuple #[.float .f32 y1, .bool true]) (by kernel_rfl) rfl (fun w' hx _ => ?_) ?_
                        · go_simp
                        refine LX_det (.float .f32 y1) (by kernel_rfl) rfl (fun w' hx _ => ?_) ?_
                        · go_simp
                        refine LX_det (.bool true) (by kernel_rfl) rfl (fun w' hx _ => ?_) ?_
                        · go_simp
                        refine LX_det (.float .f32 y1) (by kernel_rfl) rfl (fun w' hx _ => ?_) ?_
                        · go_simp
                        refine LX_det (.bool true) (by kernel_rfl) rfl (fun w' hx _ => ?_) ?_
                        · go_simp
                        refine LX_nil fun w10 hx _ => ?_
                        refine wpList_nil ?_
                        simp only [Act.put, List.setIfInBounds_toArray, List.set_cons_succ, List.set_cons_zero]
                        replace hck2 := (Below.cell hx (p := ⟨g2, m, none⟩) hbk).trans hcm2
                        replace hcm := (Below.cell hx (p := ⟨g5, m, none⟩) hg6).trans hcm
                        replace hbk := Nat.lt_of_lt_of_le hbk hx.size
                        replace hg6 := Nat.lt_of_lt_of_le hg6 hx.size
                        replace X4 := X4.trans hx
                        clear hx hcm2 hbm hck
                        go_wp2_with fail
                        refine wp_region_rel 15 (fun _ v => ∃ b, v = .tuple #[.float .f32 b, .bool true] ∧ cn .f32 b = needS mm p) (fun _ _ _ => True) (by kernel_rfl) (by kernel_rfl) (by kernel_rfl) ?_
                        dsimp only [List.take, List.drop, List.length]
                        refine LX_det (.slice (some ⟨g2, 0, none⟩) (l + 1) cap2) (by kernel_rfl) rfl (fun w' hx _ => ?_) ?_
                        · go_simp
                        refine LX_det (.int .i64 m) (by kernel_rfl) rfl (fun w' hx _ => ?_) ?_
                        · go_simp
                        refine LX_det (.pointer (some ⟨g2, m, none⟩)) (by kernel_rfl) rfl (fun w' hx _ => ?_) ?_
                        · go_simp
                        refine LX_det (.float .f32 um) (by kernel_rfl) rfl (fun w' hx _ => ?_) ?_
                        · have m0 := (Below.cell hx (p := ⟨g2, m, none⟩) hbk).trans hck2
                          go_simp
                        refine LX_det (.slice (some ⟨g5, 0, none⟩) (l + 1) cap5) (by kernel_rfl) rfl (fun w' hx _ => ?_) ?_
                        · go_simp
                        refine LX_det (.int .i64 m) (by kernel_rfl) rfl (fun w' hx _ => ?_) ?_
                        · go_simp
                        refine LX_det (.pointer (some ⟨g5, m, none⟩)) (by kernel_rfl) rfl (fun w' hx _ => ?_) ?_
                        · go_simp
                        refine LX_det (.int .i64 ((p + 1 : Nat) : Int)) (by kernel_rfl) rfl (fun w' hx _ => ?_) ?_
                        · have m0 := (Below.cell hx (p := ⟨g5, m, none⟩) hg6).trans hcm
                          go_simp
                        refine LX_det (.int .i64 p) (by kernel_rfl) rfl (fun w' hx _ => ?_) ?_
                        · go_simp
                        simp only [Act.put, List.setIfInBounds_toArray, List.set_cons_succ, List.set_cons_zero]
                        refine LX_call (by kernel_rfl) rfl (fun _ => St.top) (fun w' hx _ => ?_) ?_
                        · go_simp
                          refine UponC.enter ((implStandby_any um p 1065353216 w' hbm32 (by decide)).mono ?_)
                          rw [HUM.out, HST2.out]
                          rintro e w'' ⟨hx', b, rfl, hb, -⟩
                          exact ⟨_, rfl, hx', ⟨b, rfl, hb⟩, trivial⟩
                        rintro _ ⟨y2, rfl, hy2⟩
                        replace hy2 := Lib.hid hy2
                        simp only [Act.put, List.setIfInBounds_toArray, List.set_cons_succ, List.set_cons_zero]
                        refine LX_det (.tuple #[.float .f32 y2, .bool true]) (by kernel_rfl) rfl (fun w' hx _ => ?_) ?_
                        · go_simp
                        refine LX_det (.float .f32 y2) (by kernel_rfl) rfl (fun w' hx _ => ?_) ?_
                        · go_simp
                        refine LX_det (.bool true) (by kernel_rfl) rfl (fun w' hx _ => ?_) ?_
                        · go_simp
                        refine LX_det (.float .f32 y2) (by kernel_rfl) rfl (fun w' hx _ => ?_) ?_
                        · go_simp
                        refine LX_det (.bool true) (by kernel_rfl) rfl (fun w' hx _ => ?_) ?_
                        · go_simp
                        refine LX_nil fun w11 hx _ => ?_
                        refine wpList_nil ?_
                        simp only [Act.put, List.setIfInBounds_toArray, List.set_cons_succ, List.set_cons_zero]
                        replace X4 := X4.trans hx
                        clear hx hck2 hcm hbk hg6 s1 s2 h3 h4 hk1 hm1 q0 h1 h2 s5
                        go_wp2_with (first | (refine wpList_fop rfl rfl rfl rfl rfl ?_; intro fb nf hfb hfl; replace hfb := Lib.hid hfb; replace hfl := Lib.hid hfl))
                        all_goals
                          rename_i f1 n1 e1 l1 hway
                          have hf : (FloatKind.f32.format.order f1 fb == some Ordering.gt) = false := by
                            have h := hgt.out
                            rw [HU1.out, HU2.out, ← hy1.out, ← hy2.out, ← e1.out, ← hfb.out, fcmp_cn] at h
                            exact h
                          first
                          | (rw [hf] at hway; cases hway; done)
                          | skip
                        refine ⟨⟨_, .int .i64 ((m + 1 : Nat) : Int), ⟨m + 1, by omega, rfl, X4.trans (Ext.drewN _ _)⟩, rfl, by go_num, by omega⟩, ?_⟩
                        simp [intOf]; omega
                    · obtain rfl : m = l + 1 := by omega
                      have h2 : ¬ ((l + 1 : Nat) : Int) < ((l + 1 : Nat) : Int) := by omega
                      go_wp2_with fail
                      refine ⟨⟨k + 1, by omega, by go_num, by rw [HA.out], X4⟩, ?_⟩
                      simp [intOf]; omega
                · obtain rfl : k = l + 1 := by omega
                  have hst : (O.take (l + 1)).sum = t := by rw [HTA.out, HSM.out]
                  rw [hst]
                  have h2 : ¬ ((l + 1 : Nat) : Int) < ((l + 1 : Nat) : Int) := by omega
                  clear hst
                  go_wp2_with fail
                  go_ret
                  exact ⟨rfl, X.trans X3⟩
  · have HL := Lib.hid hlong
    clear hlong
    go_enter Try.func5, Try.ntmps5
    go_wp2_with fail
    refine (r8Long_eq HL.out _ r1' r2').mono ?_
    rintro e w1 ⟨rfl, rfl⟩
    go_wp2_with fail
    go_ret
    exact ⟨rfl, Ext.refl _⟩
theorem fnSpares_walk (v1 v2 : Value) (w : World) (h1 : ArgBytes w v1) (h2 : ArgBytes w v2) :
    Calls Try.prog 5 #[v1, v2] w fun e w' => e = .returned (.bool true) ∧ Ext w w' := by
  obtain ⟨a, n, cap, xs, rfl, r⟩ := h1
  obtain ⟨a2, n2, cap2, ys, rfl, r2⟩ := h2
  exact fnSpares_law _ _ xs ys w r r2
theorem fnSpares_own : ownKnob Try.prog.godebug = none := by kernel_rfl
theorem fnSpares_laid : laidOutB Try.prog = true := by kernel_rfl

set_option maxRecDepth 100000 in
theorem fnSpares_lifted (os : Os) (started : os.Started) (H : Type) (enc : TypeId × Value → H) :
    ReturnsInHanded {} Try.checked os 5 .any (Rows.fnSparesSpec.pre6 enc Try.prog Try.f5 Rows.fnSparesRow.domain false) (Rows.fnSparesSpec.post enc Try.prog Try.f5 false true false false) := by
  refine returnsInHanded_of_change (C := Try.checked) fnSpares_own started (by kernel_rfl) Try.func5
    (ChangeSpec.witness6 (enc := enc) (C := Try.checked) false ⟨#[], #[.slice none 0 0, .slice none 0 0], []⟩ 8 (by kernel_rfl) (by kernel_rfl) (by kernel_rfl) (by kernel_rfl)) ?_
  intro W base args ds gs before hval0 hW hcnd _
  have hval : ∀ (j : Nat) t v, Try.f5.params[j]? = some t → args[j]? = some v → Value.okWide Try.prog W .any base t v := hval0
  have hW' := hW
  obtain ⟨p, q, hA0, hV, rfl, hfz, hnd⟩ := hW
  have hA : DataW.TrodAll enc Try.prog W 0 (fun _ => true) true Try.f5.params.toList args.toList ds p := hA0
  rw [Try.params5] at hA hval
  obtain ⟨v0, vs0, d0, ds0, p0, q0, hargs, rfl, rfl, h0, r0⟩ := trodAll_cons hA
  obtain ⟨v1, vs1, d1, ds1, p1, q1, rfl, rfl, rfl, h1, r1⟩ := trodAll_cons r0
  obtain ⟨rfl, rfl, rfl⟩ := trodAll_nil r1
  obtain rfl : args = #[v0, v1] := by cases args; simp_all
  obtain ⟨rfl, rfl⟩ := trodVars_none hV
  have lt0 : ∀ x ∈ p0, x.block < W.heap.size := by obtain ⟨m, hm⟩ := h0; exact DataW.trod_lt m _ _ _ hm
  have w0 := argBytes Try.underlying40 Try.underlying5 (by kernel_rfl) (hval 0 40 v0 rfl rfl) h0
  have lt1 : ∀ x ∈ p1, x.block < W.heap.size := by obtain ⟨m, hm⟩ := h1; exact DataW.trod_lt m _ _ _ hm
  have w1 := argBytes Try.underlying40 Try.underlying5 (by kernel_rfl) (hval 1 40 v1 rfl rfl) h1
  clear hA0 hval0
  refine (fnSpares_walk v0 v1 W w0 w1).mono fun e W' ⟨he, bel⟩ => ?_
  subst he
  exact ⟨_, rfl, _, _, _, [], _, [], hW', trodAll_mk1 (shut_bool Try.underlying4 _), (trodAll_cons_mk (Below.trod fnSpares_laid (by kernel_rfl) (of_decide_eq_true (by kernel_rfl)) h0 bel lt0) (trodAll_cons_mk (Below.trod fnSpares_laid (by kernel_rfl) (of_decide_eq_true (by kernel_rfl)) h1 bel lt1) trodAll_mk0)), rfl, bel.below.frame _, fun h => by cases h⟩

theorem fnSpares_over : Rows.fnSparesRow.holds Try.pinned (OpenSpec.ofChange Rows.fnSparesSpec) :=
  OpenClaim.holds_of_wide 5 Try.f5 rfl rfl rfl rfl rfl rfl rfl ⟨rfl, rfl, rfl, rfl, rfl⟩ rfl rfl rfl rfl rfl (by kernel_rfl) Try.func5 (by kernel_rfl)
    (of_decide_eq_true (by kernel_rfl)) (by unfold Func.isWrapper; first | (rw [if_pos (by decide +kernel)]; kernel_rfl) | (rw [if_neg (by decide +kernel)]; exact ⟨rfl, rfl⟩))
    (fun os started H enc _ => fnSpares_lifted os started H enc)

/-- The statement. -/
theorem fnSpares_holds : Rows.FnSparesSaid := fnSpares_over

end Go.Proofs.Ytlbmjeennpccmaa
