
/- The places that roads join, both sides. Condition: roads between at most six places. -/
import Derived.Test.YtgmdoboeenpjpaaZp
import Derived.Test.YtgmdoboeenpjpaaFF
import Derived.Test.YtgmdoboeenpjpaaYN
namespace Go.Proofs.Ytgmdoboeenpjpaa
open Go Go.RowKit Go.ChangeShapes Go.WideShapes Go.ChangeAt

attribute [local irreducible] LX

theorem and_both : ∀ (P : Fin 64) (a b : Fin 6), ((P.val &&& bothN a.val b.val) = 0) = ((P.val.testBit a.val || P.val.testBit b.val) = false) ∧ hasB P.val (bothN a.val b.val) = (P.val.testBit a.val && P.val.testBit b.val) ∧ bothN a.val b.val < 64 := by decide +kernel
theorem road_grows {rs : List Nat} {set P j : Nat} (hP : P < 64) (ha : rA rs j < 6) (hb : rB rs j < 6) :
    grows rs set P j = (set.testBit j && (decide ((P &&& bothN (rA rs j) (rB rs j)) ≠ 0) && !(hasB P (bothN (rA rs j) (rB rs j))))) := by
  obtain ⟨h1, h2, -⟩ := and_both ⟨P, hP⟩ ⟨_, ha⟩ ⟨_, hb⟩
  unfold grows
  simp only at h1 h2
  have h3 : decide ((P &&& bothN (rA rs j) (rB rs j)) ≠ 0) = (P.testBit (rA rs j) || P.testBit (rB rs j)) := by
    rw [Bool.eq_iff_iff, decide_eq_true_eq, ne_eq, h1, Bool.not_eq_false]
  rw [h2, h3]
  cases P.testBit (rA rs j) <;> cases P.testBit (rB rs j) <;> rfl
theorem road_bit (s k : Nat) (hs : s < 1024) : bits .and .i64 ((s : Int) / 2 ^ k) 1 = if s.testBit k then 1 else 0 := by
  have h1 : ((s : Int) / 2 ^ k) = ((s / 2 ^ k : Nat) : Int) := by exact_mod_cast rfl
  have h2 : s / 2 ^ k < 1024 := Nat.lt_of_le_of_lt (Nat.div_le_self _ _) hs
  have h3 := bits_and (s / 2 ^ k) 1 (by omega) (by decide)
  rw [h1]
  refine Eq.trans h3 ?_
  rw [Nat.and_one_is_mod, Nat.testBit_eq_decide_div_mod_eq]
  by_cases h : s / 2 ^ k % 2 = 1
  · simp [h]
  · have : s / 2 ^ k % 2 = 0 := by omega
    simp [this]

set_option maxRecDepth 100000 in
set_option maxHeartbeats 4000000 in
theorem joinedPlaces_any (q set : Nat) (v : Value) (rs : List Nat) (w : World) (r : RdI w v (ups rs)) (h : RoadN q rs) (hs : set < 1024) :
    Calls Try.prog 79 #[v, .int .i64 set] w fun e w' => e = .returned (.int .i64 (joinN q rs set)) ∧ Ext w w' := by
  have r' := r
  obtain ⟨a1, c1, rfl, -, -⟩ := RdN_slice r
  obtain ⟨m, hm⟩ : ∃ m, m = rs.length / 2 := ⟨_, rfl⟩
  have hl2 := h.l2
  have hl20 := h.l20
  have hlm : rs.length = 2 * m := by have := h.even; omega
  have hm10 : m ≤ 10 := by omega
  have HLM := Lib.hid hlm
  have hq6 : 2 ^ q ≤ 64 := Nat.pow_le_pow_right (by decide) h.q6
  have HLT := Lib.hid (fun n => Nat.lt_of_lt_of_le (itR_lt h set n) hq6)
  have HRL := Lib.hid (fun n k => Nat.lt_of_lt_of_le (rnd_lt (set := set) h (itR_lt h set n) k) hq6)
  have HEND := Lib.hid (fun n (e : itR rs set (n + 1) = itR rs set n) => itR_end h e)
  have HNX : Hid (∀ n, itR rs set (n + 1) = rnd rs set (itR rs set n) m) := fun n => by rw [hm]; rfl
  have HAT := Lib.hid (fun i => Nat.lt_of_lt_of_le (h.at i) h.q6)
  clear hm h hq6 r hlm
  go_enter Try.func79, Try.ntmps79
  go_wp2_with fail
  go_loopw [5, 6] (fun a b wr => ∃ (n : Nat) (c : Bool), a = .int .i64 (itR rs set n) ∧ b = .bool c ∧ Hid (c = false → itR rs set (n + 1) = itR rs set n) ∧ Ext w wr)
    (fun a b _ => match b with | .bool true => 65 - (intOf a).toNat | _ => 0)
  case atStart => exact ⟨0, true, rfl, rfl, (fun e => by cases e), Ext.refl _⟩
  case round =>
    obtain ⟨n, c, rfl, rfl, HC, X⟩ := hrel
    cases c
    · have HE := Lib.hid (HEND.out n (HC.out rfl))
      go_wp2_with fail
      go_ret
      exact ⟨by rw [HE.out]; rfl, X⟩
    · have HN := HNX.out n
      have hP64 := HLT.out n
      have HRK := Lib.hid (fun k => HRL.out n k)
      have HN2 := Lib.hid (HNX.out (n + 1))
      generalize hP : itR rs set n = P at *
      have HPP := Lib.hid hP
      have HNN := Lib.hid HN
      clear HN hP HC
      go_wp2_with fail
      go_loopw [5, 6, 7] (fun a b i wr => ∃ k j : Nat, k ≤ m ∧ Hid (j = 2 * k) ∧ a = .int .i64 (rnd rs set P k) ∧ b = .bool (decide (rnd rs set P k ≠ P)) ∧ i = .int .i64 j ∧ Ext w wr) (fun _ _ i _ => rs.length + 2 - (intOf i).toNat)
      case atStart => exact ⟨0, 0, Nat.zero_le _, rfl, rfl, by simp [rnd], rfl, X⟩
      case round =>
        clear X
        obtain ⟨k, j, hk, HJ, rfl, rfl, rfl, X⟩ := hrel
        by_cases hlt : k < m
        · have hj1 : j < rs.length := by have := HJ.out; have := HLM.out; omega
          obtain ⟨j1, hj1e⟩ : ∃ j1, j1 = j + 1 := ⟨_, rfl⟩
          have hj2 : j1 < rs.length := by have := HJ.out; have := HLM.out; omega
          have hdv : (j : Int) / 2 = (k : Int) := by have := HJ.out; omega
          have HA : Hid (rA rs k = rs[j]) := by show _ = _; have := HJ.out; subst this; simp [rA, hj1]
          have HB : Hid (rB rs k = rs[j1]) := by show _ = _; have := HJ.out; subst hj1e; subst this; simp [rB, hj2]
          obtain ⟨b1, o1, e1, hb1, hc1⟩ := RdN_at (r'.ext X) hj1
          subst e1
          obtain ⟨b1, o1, e2, hb2, hc2⟩ := RdN_at (r'.ext X) hj2
          cases e2
          have ha6 : rs[j] < 6 := by rw [← HA.out]; exact HAT.out _
          have hb6 : rs[j1] < 6 := by rw [← HB.out]; exact HAT.out _
          have hR64 := HRK.out k
          have HG := Lib.hid (road_grows (rs := rs) (set := set) (j := k) hR64 (HAT.out (2 * k)) (HAT.out (2 * k + 1)))
          have HS : Hid (rnd rs set P (k + 1) = if grows rs set (rnd rs set P k) k then rnd rs set P k ||| bothN (rA rs k) (rB rs k) else rnd rs set P k) := rfl
          have HNE := Lib.hid (rnd_step_ne (rs := rs) (set := set) (P := P) (k := k))
          rw [HA.out, HB.out] at HS HG
          generalize rs[j] = x at *
          generalize rs[j1] = y at *
          generalize rnd rs set P k = R at *
          obtain ⟨hz1, hz2, hz3⟩ := and_both ⟨R, hR64⟩ ⟨x, ha6⟩ ⟨y, hb6⟩
          simp only at hz3
          clear hz1 hz2
          have hs1 : IntKind.i64.wrap ((2 : Int) ^ x) = ((2 ^ x : Nat) : Int) := by
            have : 2 ^ x < 2 ^ 6 := Nat.pow_lt_pow_right (by decide) ha6
            rw [show ((2 : Int) ^ x) = ((2 ^ x : Nat) : Int) by exact_mod_cast rfl]
            exact wrap_nat _ (by omega)
          have hs2 : IntKind.i64.wrap ((2 : Int) ^ y) = ((2 ^ y : Nat) : Int) := by
            have : 2 ^ y < 2 ^ 6 := Nat.pow_lt_pow_right (by decide) hb6
            rw [show ((2 : Int) ^ y) = ((2 ^ y : Nat) : Int) by exact_mod_cast rfl]
            exact wrap_nat _ (by omega)
          have hx63 : (x : Int) < 64 := by omega
          have hy63 : (y : Int) < 64 := by omega
          have hor := bits_or (2 ^ x) (2 ^ y) (by have : 2 ^ x < 2 ^ 6 := Nat.pow_lt_pow_right (by decide) ha6
                                                  omega) (by have : 2 ^ y < 2 ^ 6 := Nat.pow_lt_pow_right (by decide) hb6
                                                             omega)
          change bits .or .i64 ((2 ^ x : Nat) : Int) ((2 ^ y : Nat) : Int) = ((bothN x y : Nat) : Int) at hor
          generalize bothN x y = u at *
          generalize 2 ^ x = ex at *
          generalize 2 ^ y = ey at *
          have hji : (j : Int) < (rs.length : Int) := by omega
          have hjw : IntKind.i64.wrap ((j : Int) + 1) = (j1 : Int) := by rw [show (j : Int) + 1 = (j1 : Int) by omega]; exact wrap_nat _ (by omega)
          have hjl : (j1 : Int) < (rs.length : Int) := by omega
          clear hj1e
          have hjw2 : IntKind.i64.wrap ((j : Int) + 2) = (j : Int) + 2 := IntWalk.i64_in _ (by omega)
          have hk64 : (k : Int) < 64 := by omega
          have hba := road_bit set k hs
          go_wp2_with fail
          refine wp_region_rel 12 (fun _ _ => True) (fun _ _ _ => True) (by kernel_rfl) (by kernel_rfl) (by kernel_rfl) ?_
          dsimp only [List.take, List.drop, List.length]
          refine LX_det (.slice (some ⟨b1, o1, none⟩) rs.length c1) (by kernel_rfl) rfl (fun w' hx _ => ?_) ?_
          · go_simp
          refine LX_det (.int .i64 j) (by kernel_rfl) rfl (fun w' hx _ => ?_) ?_
          · go_simp
          refine LX_det (.pointer (some ⟨b1, o1 + j, none⟩)) (by kernel_rfl) rfl (fun w' hx _ => ?_) ?_
          · go_simp
          refine LX_det (.int .i64 x) (by kernel_rfl) rfl (fun w' hx _ => ?_) ?_
          · have m0 := (Below.cell hx (p := ⟨b1, o1 + j, none⟩) hb1).trans hc1
            go_simp
          refine LX_det (.int .i64 ex) (by kernel_rfl) rfl (fun w' hx _ => ?_) ?_
          · go_simp
          refine LX_det (.slice (some ⟨b1, o1, none⟩) rs.length c1) (by kernel_rfl) rfl (fun w' hx _ => ?_) ?_
          · go_simp
          refine LX_det (.int .i64 j) (by kernel_rfl) rfl (fun w' hx _ => ?_) ?_
          · go_simp
          refine LX_det (.int .i64 j1) (by kernel_rfl) rfl (fun w' hx _ => ?_) ?_
          · go_simp
          refine LX_det (.pointer (some ⟨b1, o1 + j1, none⟩)) (by kernel_rfl) rfl (fun w' hx _ => ?_) ?_
          · go_simp
          refine LX_det (.int .i64 y) (by kernel_rfl) rfl (fun w' hx _ => ?_) ?_
          · have m0 := (Below.cell hx (p := ⟨b1, o1 + j1, none⟩) hb2).trans hc2
            go_simp
          refine LX_det (.int .i64 ey) (by kernel_rfl) rfl (fun w' hx _ => ?_) ?_
          · go_simp
          refine LX_det (.int .i64 u) (by kernel_rfl) rfl (fun w' hx _ => ?_) ?_
          · go_simp
          refine LX_nil fun w2 hx _ => ?_
          simp only [Act.put, List.setIfInBounds_toArray, List.set_cons_succ, List.set_cons_zero]
          replace X := X.trans hx
          clear hx
          have hand := bits_and R u (by omega) (by omega)
          clear hji hjl ha6 hb6 hx63 hy63 hs1 hs2 hor
          cases hb : set.testBit k
          · rw [hb] at hba HG
            simp only [Bool.false_eq_true, if_false, Bool.false_and] at hba HG
            have HSB := Lib.hid hb
            clear hb
            go_wp2_with fail
            go_roundw
            case rel => exact ⟨k + 1, j + 2, by omega, by show _ = _; have := HJ.out; omega, by rw [HS.out, HG.out]; rfl, by rw [HS.out, HG.out]; rfl, by go_num, X⟩
            case measure => simp [intOf]; omega
          · rw [hb] at hba HG
            simp only [if_true, Bool.true_and] at hba HG
            have HSB := Lib.hid hb
            clear hb
            have hhas := hasI_nat (a := R) (b := u) (by omega) (by omega)
            by_cases hz : (R &&& u) = 0
            · rw [hz] at hand HG
              have HF : Hid (grows rs set R k = false) := by show _ = _; rw [HG.out]; simp
              clear hhas HG hz
              go_wp2_with fail
              go_roundw
              case rel => exact ⟨k + 1, j + 2, by omega, by show _ = _; have := HJ.out; omega, by rw [HS.out, HF.out]; rfl, by rw [HS.out, HF.out]; rfl, by go_num, X⟩
              case measure => simp [intOf]; omega
            · have hzb : (((R &&& u : Nat) : Int) != 0) = true := by simp; omega
              have HG2 : Hid (grows rs set R k = !(hasB R u)) := by show _ = _; rw [HG.out]; simp [hz]
              clear HG hz
              generalize R &&& u = t at *
              generalize hasB R u = c at *
              have hcu := bits_or R u (by omega) (by omega)
              generalize hRu : R ||| u = Ru at *
              cases c
              · go_wp2_with fail
                refine (has_any _ _ _).mono ?_
                rintro e w3 ⟨rfl, rfl⟩
                rw [hhas]
                go_wp2_with fail
                go_roundw
                case rel => exact ⟨k + 1, j + 2, by omega, by show _ = _; have := HJ.out; omega, by rw [HS.out, HG2.out]; rfl, by rw [decide_eq_true (HNE.out.2 (Or.inr HG2.out))], by go_num, X⟩
                case measure => simp [intOf]; omega
              · go_wp2_with fail
                refine (has_any _ _ _).mono ?_
                rintro e w3 ⟨rfl, rfl⟩
                rw [hhas]
                go_wp2_with fail
                go_roundw
                case rel => exact ⟨k + 1, j + 2, by omega, by show _ = _; have := HJ.out; omega, by rw [HS.out, HG2.out]; rfl, by rw [HS.out, HG2.out]; simp, by go_num, X⟩
                case measure => simp [intOf]; omega
        · obtain rfl : k = m := by omega
          have hjl : j = rs.length := by have := HJ.out; have := HLM.out; omega
          subst hjl
          have HE2 : Hid (decide (rnd rs set P k ≠ P) = false → itR rs set (n + 1 + 1) = itR rs set (n + 1)) := fun e => by
            have e2 : rnd rs set P k = P := by simpa using e
            rw [HN2.out, HNN.out, e2, e2]
          have HNN' := HNN
          rw [← HNN.out] at HE2 ⊢
          go_wp2_with fail
          go_roundw
          case rel => exact ⟨n + 1, _, rfl, rfl, HE2, X⟩
          case measure =>
            have hle : P ≤ itR rs set (n + 1) := by rw [HNN.out]; exact hasB_le (rnd_has rs set P k)
            by_cases e : itR rs set (n + 1) = P
            · simp only [e, ne_eq, not_true_eq_false, decide_false, intOf, Int.toNat_natCast]; omega
            · simp only [e, ne_eq, not_false_eq_true, decide_true, intOf, Int.toNat_natCast]; omega

/-- The places of a set, one by one. -/
def bitsL (q P : Nat) : List Bool := (List.range q).map fun i => P.testBit i
theorem bitsL_len (q P : Nat) : (bitsL q P).length = q := by simp [bitsL]
theorem bitsL_get {q P i : Nat} (h : i < q) : (bitsL q P)[i]'(by rw [bitsL_len]; exact h) = P.testBit i := by simp [bitsL]
theorem bitsL_zero (q : Nat) : bitsL q 0 = List.replicate q false := by
  apply List.ext_getElem
  · simp [bitsL]
  · intro i h1 h2; simp [bitsL]
theorem bitsL_one {q : Nat} : (bitsL q 0).set 0 true = bitsL q 1 := by
  apply List.ext_getElem
  · simp [bitsL]
  · intro i h1 h2
    rw [List.getElem_set]
    have h3 : i < q := by simpa [bitsL] using h2
    rw [bitsL_get h3, bitsL_get h3]
    have := Nat.testBit_two_pow (n := 0) (m := i)
    rw [Nat.pow_zero] at this
    rw [this]
    by_cases e : 0 = i
    · simp [e]
    · simp [e]
theorem bitsL_both {q P a b : Nat} : ((bitsL q P).set a true).set b true = bitsL q (P ||| bothN a b) := by
  apply List.ext_getElem
  · simp [bitsL]
  · intro i h1 h2
    have h3 : i < q := by simpa [bitsL] using h2
    rw [List.getElem_set, List.getElem_set, bitsL_get h3, bitsL_get h3, Nat.testBit_or, bit_both]
    by_cases e1 : b = i <;> by_cases e2 : a = i <;> simp [e1, e2]

end Go.Proofs.Ytgmdoboeenpjpaa
