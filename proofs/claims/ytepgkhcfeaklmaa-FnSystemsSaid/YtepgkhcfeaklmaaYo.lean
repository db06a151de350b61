
/- The cuts of a system as the reference finds them; CutsOf and OtherSystem, both sides. Condition: lists of ints that can be read. -/
import Derived.Test.YtepgkhcfeaklmaaYn
namespace Go.Proofs.Ytepgkhcfeaklmaa
open Go Go.RowKit Go.ChangeShapes Go.WideShapes Go.ChangeAt

attribute [local irreducible] LX

theorem and_two_pow (s j : Nat) : s &&& 2 ^ j = if s.testBit j then 2 ^ j else 0 := by
  apply Nat.eq_of_testBit_eq; intro i
  rw [Nat.testBit_and, Nat.testBit_two_pow]
  by_cases hj : j = i
  · subst hj; cases h : s.testBit j <;> simp [h]
  · cases h : s.testBit j <;> simp [h, hj]
/-- A cut, and none of the first j parts can be left out. -/
def cutJ (p : Nat) (ns : List Nat) (s j : Nat) : Bool := cutB p ns s && (List.range j).all fun b => !(s.testBit b) || worksB ns (2 ^ p - 1 - (s - 2 ^ b))
theorem cutJ_succ (p : Nat) (ns : List Nat) (s j : Nat) : cutJ p ns s (j + 1) = (cutJ p ns s j && (!(s.testBit j) || worksB ns (2 ^ p - 1 - (s - 2 ^ j)))) := by
  unfold cutJ
  rw [List.range_succ, List.all_append, Bool.and_assoc]; simp
theorem cutJ_no {p : Nat} {ns : List Nat} {s j k : Nat} (h : cutJ p ns s j = false) (hk : j ≤ k) : cutJ p ns s k = false := by
  induction k with
  | zero => have : j = 0 := by omega
            subst this; exact h
  | succ k ih =>
    rcases Nat.lt_or_ge j (k + 1) with h1 | h1
    · rw [cutJ_succ, ih (by omega), Bool.false_and]
    · have : j = k + 1 := by omega
      subst this; exact h

set_option maxRecDepth 100000 in
set_option maxHeartbeats 8000000 in
theorem l03Cuts_any (p : Nat) (v : Value) (ns : List Nat) (blk : Nat) (w : World) (hbx : Bx w blk [.int .i64 p, v]) (r : RdI w v (ups ns)) (h : SysN p ns) :
    Calls Try.prog 79 #[.pointer (some ⟨blk, 0, none⟩)] w fun e w' => ∃ g cap, e = .returned (.slice (some ⟨g, 0, none⟩) (cutsS p ns).length cap) ∧ Ext w w' ∧ OwnS w.heap.size w' g cap (cutsS p ns) := by
  have r' := r
  obtain ⟨a1, c1, rfl, -, -⟩ := RdN_slice r
  obtain ⟨q1, q2, q3, q4⟩ := pow10N h.p10
  have hp1 := h.p1
  have hp10 := h.p10
  have hN0 : 0 < 2 ^ p := Nat.pow_pos (by decide)
  have hdef : Hid (cutsS p ns = (List.range (2 ^ p)).filter fun s => decide (1 ≤ s) && cutJ p ns s p) := rfl
  have hJ0 : ∀ s, cutJ p ns s 0 = cutB p ns s := fun s => by unfold cutJ; simp
  have HJ0 : Hid (∀ s, cutJ p ns s 0 = !worksB ns (2 ^ p - 1 - s)) := fun s => by rw [hJ0]; rfl
  have HJS : Hid (∀ s j, cutJ p ns s (j + 1) = (cutJ p ns s j && (!(s.testBit j) || worksB ns (2 ^ p - 1 - (s - 2 ^ j))))) := cutJ_succ p ns
  have HW := Lib.hid (fun W (x : Ext w W) s (hs : s < 1024) => l03Works_any (p : Int) s (.slice a1 ns.length c1) ns blk W (hbx.ext x) (r'.ext x) (fun n hn => by have := h.small n hn; omega) (by omega))
  have HBIT : Hid (∀ s j : Nat, s.testBit j = true → 2 ^ j ≤ s) := fun s j hb => Nat.ge_two_pow_of_testBit hb
  have HP10 := Lib.hid (fun j (hj : j ≤ 10) => pow10N (p := j) hj)
  obtain ⟨k0, k1⟩ := hbx.two
  have hp63 : (p : Int) < 64 := by omega
  have hp0 : (0 : Int) ≤ (p : Int) := by omega
  clear hJ0 r h
  generalize hN : 2 ^ p = N at *
  have HN := Lib.hid hN
  clear hN
  go_enter Try.func79, Try.ntmps79
  go_wp2_with fail
  have hm1 : (2 : Int) ^ p - 1 = ((N - 1 : Nat) : Int) := by rw [q3]; omega
  have hm2 : (N : Int) - 1 = ((N - 1 : Nat) : Int) := by omega
  first | rw [hm1] | rw [hm2]
  obtain ⟨m, hm⟩ : ∃ m, m = N - 1 := ⟨_, rfl⟩
  rw [← hm]
  rw [← hm] at HJ0 HJS
  have hmN : Hid (m + 1 = N) := by show _ = _; omega
  have hmN1 : m < N := by omega
  have hmN2 : N ≤ m + 1 := by omega
  clear k0 k1 hm1 hm2 hm
  go_loopw [5, 4] (fun i v wr => ∃ (k g cap : Nat) (xs : List Nat), k ≤ m ∧ i = .int .i64 ((k : Int) + 1) ∧ v = .slice (some ⟨g, 0, none⟩) xs.length cap ∧ xs.length ≤ k ∧ Hid (xs = (List.range (k + 1)).filter fun s => decide (1 ≤ s) && cutJ p ns s p) ∧
      OwnS w.heap.size wr g cap xs ∧ Ext w wr) (fun i _ _ => N - (intOf i).toNat)
  case atStart => exact ⟨0, w.heap.size, 0, [], Nat.zero_le _, rfl, rfl, Nat.le_refl _, rfl, World.ownsRow_lit w #[] 0 (Nat.le_refl _) (by decide) rfl, Ext.alloc _ _⟩
  case round =>
    obtain ⟨k, g, cap, xs, hk, rfl, rfl, hxl, HXS, own, X⟩ := hrel
    have hcast : ((k : Int) + 1) = ((k + 1 : Nat) : Int) := by omega
    by_cases hlt : k < m
    · have HST := Lib.hid (range_filter_succ (fun s => decide (1 ≤ s) && cutJ p ns s p) (k + 1))
      rw [hcast]
      generalize hs : k + 1 = s at *
      have hs0 : 1 ≤ s := by omega
      have hsm : s ≤ m := by omega
      clear hcast
      obtain ⟨c, hc⟩ : ∃ c, c = m - s := ⟨_, rfl⟩
      have hsub : (m : Int) - (s : Int) = (c : Int) := by omega
      have hcw : IntKind.i64.wrap ((m : Int) - (s : Int)) = (c : Int) := by rw [hsub]; exact IntWalk.i64_in _ (by omega)
      have hc2 : c < 1024 := by omega
      have HC := Lib.hid hc
      clear hc
      go_wp2_with fail
      try rw [hsub]
      refine (HW.out _ X c hc2).mono ?_
      rintro e w1 ⟨rfl, hx⟩
      have H0 : Hid (cutJ p ns s 0 = !worksB ns c) := by show _ = _; rw [HJ0.out, HC.out]
      generalize worksB ns c = b0 at *
      replace own := own.ext hx
      replace X := X.trans hx
      clear hx hsub hcw
      go_wp2_with fail
      go_loopw [7, 6] (fun i b wq => ∃ j : Nat, j ≤ p ∧ i = .int .i64 j ∧ b = .bool (cutJ p ns s j) ∧ Ext w1 wq) (fun i _ _ => p - (intOf i).toNat)
      case atStart => exact ⟨0, Nat.zero_le _, rfl, by rw [H0.out], Ext.refl _⟩
      case round =>
        obtain ⟨j, hj, rfl, rfl, Z⟩ := hrel
        have hbx2 := hbx.ext (X.trans Z)
        obtain ⟨k0, k1⟩ := hbx2.two
        cases hcut : cutJ p ns s j
        · have HNO : Hid (cutJ p ns s p = false) := cutJ_no hcut hj
          have HP : Hid ((decide (1 ≤ s) && cutJ p ns s p) = false) := by show _ = _; rw [HNO.out, Bool.and_false]
          replace own := own.ext Z
          replace X := X.trans Z
          clear hcut
          by_cases hjp : (j : Int) < (p : Int)
          all_goals
            go_wp2_with fail
            go_roundw
            case rel => exact ⟨s, g, cap, xs, by omega, by go_num, rfl, by omega, by show _ = _; rw [HST.out, HP.out, HXS.out]; simp, own, X⟩
            case measure => simp [intOf]; omega
        · by_cases hjp : j < p
          · have hjpi : (j : Int) < (p : Int) := by omega
            obtain ⟨b1, b2, b3, b4⟩ := HP10.out j (by omega)
            have hj63 : (j : Int) < 64 := by omega
            obtain ⟨bt, hbt⟩ : ∃ bt : Nat, bt = 2 ^ j := ⟨_, rfl⟩
            rw [← hbt] at b3 b4
            have hand := bits_and s bt (by omega) (by omega)
            rw [hbt, and_two_pow, ← hbt] at hand
            have HSU : Hid (cutJ p ns s (j + 1) = (!(s.testBit j) || worksB ns (m - (s - bt)))) := by show _ = _; rw [HJS.out, hcut, hbt, Bool.true_and]
            have HCU := Lib.hid hcut
            have hbt1 : 1 ≤ bt := by rw [hbt]; exact Nat.pow_pos (by decide)
            clear hcut
            cases hb : s.testBit j
            · rw [hb] at hand HSU
              have hand' : bits .and .i64 (s : Int) (bt : Int) = 0 := by rw [hand]; rfl
              clear hand hb hbt
              go_wp2_with fail
              try rw [b3]
              go_wp2_with fail
              go_roundw
              case rel => exact ⟨j + 1, by omega, by go_num, by rw [HSU.out]; rfl, Z⟩
              case measure => simp [intOf]; omega
            · rw [hb] at hand HSU
              have hble := HBIT.out s j hb
              rw [← hbt] at hble
              simp only [if_true] at hand
              have hbne : ¬ (bt : Int) = 0 := by omega
              obtain ⟨c1, hc1⟩ : ∃ c1, c1 = s - bt := ⟨_, rfl⟩
              have hsub1 : (s : Int) - (bt : Int) = (c1 : Int) := by omega
              obtain ⟨c2, hc2'⟩ : ∃ c2, c2 = m - c1 := ⟨_, rfl⟩
              have hsub2 : (m : Int) - (c1 : Int) = (c2 : Int) := by omega
              have hcb : c2 < 1024 := by omega
              have hcc1 : c1 ≤ 1024 := by omega
              have HS2 : Hid (cutJ p ns s (j + 1) = worksB ns c2) := by show _ = _; rw [HSU.out, hc2', hc1]; rfl
              clear hb hbt hc1 hc2' HSU
              go_wp2_with fail
              refine (HW.out _ (X.trans Z) c2 hcb).mono ?_
              rintro e w2 ⟨rfl, hx⟩
              generalize worksB ns c2 = bb at *
              replace Z := Z.trans hx
              clear hx hsub1 hsub2 k0 k1 hbx2
              cases bb
              all_goals
                go_wp2_with fail
                go_roundw
                case rel => exact ⟨j + 1, by omega, by go_num, by rw [HS2.out], Z⟩
                case measure => simp [intOf]; omega
          · obtain rfl : j = p := by omega
            have HP : Hid ((decide (1 ≤ s) && cutJ j ns s j) = true) := by show _ = _; rw [hcut, decide_eq_true hs0]; rfl
            replace own := own.ext Z
            replace X := X.trans Z
            clear hcut
            go_wp2_with (at_builtin; refine wpList_push infoI64 rfl Try.underlying22 rfl rfl rfl (World.ownsRow.alloc (w := _) own _) rfl (Bx.new _ [_] _).one rfl (by omega) (by decide) (X.trans (Ext.alloc _ _)).size ?_; intro g2 cap2 w4 hg2 own2 bel2 sz2)
            go_roundw
            case rel => exact ⟨s, g2, cap2, xs ++ [s], by omega, by go_num, by simp, by simp; omega, by show _ = _; rw [HST.out, HP.out, HXS.out]; simp, by unfold OwnS; rw [ups_append, List.map_append, List.length_append]; exact own2, bel2 _ (X.trans (Ext.alloc _ _))⟩
            case measure => simp [intOf]; omega
    · obtain rfl : k = m := by omega
      have HE : Hid (xs = cutsS p ns) := by show _ = _; rw [HXS.out, hdef.out, hmN.out]
      have hki : ¬ (k : Int) + 1 ≤ (k : Int) := by omega
      have hki2 : ¬ ((k + 1 : Nat) : Int) ≤ (k : Int) := by omega
      have hki3 : ¬ k + 1 ≤ k := by omega
      clear hcast
      go_wp2_with fail
      go_ret
      rw [← HE.out]
      exact ⟨g, cap, rfl, X, own⟩
end Go.Proofs.Ytepgkhcfeaklmaa
