
/- The stable sort of lives: it leaves a sorted permutation. Condition: fewer than 2^20 lives, each with a time that is finite and greater than 0. -/
import Derived.Test.YtlbmjeennpccmaaLn
import Derived.Test.YtlbmjeennpccmaaLb
namespace Go.Proofs.Ytlbmjeennpccmaa
open Go Go.RowKit Go.ChangeShapes Go.WideShapes Go.ChangeAt

theorem merge_any : ∀ N, MergeOk N := by
  intro N
  induction N with
  | zero => intro A X Y Z X0 a m b g cap B L ai mi bi w hN own hX0 ha hm hb hL hz hx hy; omega
  | succ N ih =>
    intro A X Y Z X0 a m b g cap B L ai mi bi w hN own hX0 ha hm hb hL hz hx hy hxo hyo hsx hsy h1 h2 h3
    subst h1; subst h2; subst h3
    by_cases hX1 : X.length = 1
    · obtain ⟨x, rfl⟩ : ∃ x, X = [x] := by
        match X, hX1 with
        | [x], _ => exact ⟨x, rfl⟩
      exact merge_1 A Y Z X0 x a m b g cap B L w own hX0 ha hm hb hL hz (hxo x (by simp)) hyo hsy
    · by_cases hY1 : Y.length = 1
      · obtain ⟨y, rfl⟩ : ∃ y, Y = [y] := by
          match Y, hY1 with
          | [y], _ => exact ⟨y, rfl⟩
        exact merge_2 A X Z X0 y a m b g cap B L w own hX0 ha hm hb hL hz (by omega) (hyo y (by simp)) hxo hsx
      · exact merge_3 N ih A X Y Z X0 a m b g cap B L w hN own hX0 ha hm hb hL hz (by omega) (by omega) hxo hyo hsx hsy

/-- The contract, whatever the lengths. -/
theorem merge_i (A X Y Z X0 : List Lf) (a m b g cap B L : Nat) (ai mi bi : Int) (w : World) (own : OwnL B w g cap X0) (hX0 : X0 = A ++ (X ++ (Y ++ Z))) (ha : A.length = a) (hm : a + X.length = m) (hb : m + Y.length = b) (hL : X0.length = L) (hz : L ≤ 1048576)
    (hx : 0 < X.length) (hy : 0 < Y.length) (hok : AllOk X0) (hsx : Srt keyL X) (hsy : Srt keyL Y) (h1 : ai = a) (h2 : mi = m) (h3 : bi = b) :
    Calls Try.prog 113 #[.slice (some ⟨g, 0, none⟩) L cap, .int .i64 ai, .int .i64 mi, .int .i64 bi, .func (.func 96) #[] #[]] w (Merged A X Y Z g cap B w) :=
  merge_any _ A X Y Z X0 a m b g cap B L ai mi bi w (Nat.le_refl _) own hX0 ha hm hb hL hz hx hy (fun x h => hok x (by rw [hX0]; simp [h])) (fun x h => hok x (by rw [hX0]; simp [h])) hsx hsy h1 h2 h3

set_option maxRecDepth 100000 in
set_option maxHeartbeats 16000000 in
theorem stable_any (ls : List Lf) (g cap B : Nat) (w : World) (own : OwnL B w g cap ls) (hz : ls.length ≤ 1048576) (hok : AllOk ls) :
    Calls Try.prog 108 #[.slice (some ⟨g, 0, none⟩) ls.length cap, .int .i64 ls.length, .func (.func 96) #[] #[]] w fun e w' => e = .returned (.tuple #[]) ∧ w.grownBy w' (some g) ∧ ∃ W, W.Perm ls ∧ Srt keyL W ∧ OwnL B w' g cap W := by
  have hent := cmp_enter
  have HOK := Lib.hid hok
  clear hok
  generalize hn : ls.length = n at *
  have HLN := Lib.hid hn
  clear hn
  obtain ⟨wo, rfl⟩ : ∃ wo : World, wo = w := ⟨_, rfl⟩
  go_enter Try.func108, Try.ntmps108
  go_wp2_with fail
  go_loopw [7, 8] (fun a b wr => ∃ (k p q : Nat) (P R Y : List Lf), p = k * 20 ∧ q = p + 20 ∧ p ≤ n ∧ a = .int .i64 (p : Int) ∧ b = .int .i64 (q : Int) ∧ Hid (P.length = p) ∧ Hid (Y = P ++ R) ∧ Hid (Blk keyL 20 P) ∧ Hid (Y.Perm ls) ∧ wo.grownBy wr (some g) ∧ OwnL B wr g cap Y) (fun a _ _ => n - (intOf a).toNat)
  case atStart => exact ⟨0, 0, 20, [], ls, ls, rfl, rfl, Nat.zero_le _, rfl, rfl, rfl, rfl, blk_nil _, List.Perm.refl _, grownBy_refl _ _, own⟩
  case round =>
    clear own
    obtain ⟨k, p, q, P, R, Y, hp, hq, hpn, rfl, rfl, HP, HY, HB, HPM, G, own⟩ := hrel
    have hYn : Y.length = n := HPM.out.length_eq.trans HLN.out
    have HYN := Lib.hid hYn
    have hRn : p + R.length = n := by have h := HY.out; rw [h, List.length_append, HP.out] at hYn; exact hYn
    have hYok : AllOk Y := HOK.out.perm HPM.out
    have HYOK := Lib.hid hYok
    have HRN := Lib.hid hRn
    have HPK := Lib.hid hp
    have HQ := Lib.hid hq
    clear hYok hYn hRn hp
    by_cases hlt : q ≤ n
    · clear hq
      go_wp2_with fail
      refine (insSort_any P (R.take 20) (R.drop 20) Y p q g cap B n _ _ _ own (by rw [HY.out, List.take_append_drop]) HP.out (by have := HRN.out; have := HQ.out; rw [List.length_take]; omega) HYN.out hz (fun x hx => HYOK.out x (by rw [HY.out]; exact List.mem_append_right _ (List.mem_of_mem_take hx))) rfl rfl).mono ?_
      rintro e w1 ⟨rfl, G1, R1, p1, s1, own1⟩
      have hR1l : R1.length = 20 := by have h1 := HRN.out; have h2 := HQ.out; rw [p1.length_eq, List.length_take]; omega
      have N1 : Hid ((P ++ R1).length = q) := by show _ = _; rw [List.length_append, HP.out, hR1l, HQ.out]
      have N2 : Hid (Blk keyL 20 (P ++ R1)) := blk_app HB.out (blk_one s1 (by omega)) (HP.out.trans HPK.out)
      have N3 : Hid ((P ++ (R1 ++ R.drop 20)).Perm ls) := by
        refine List.Perm.trans ?_ HPM.out
        rw [HY.out]
        refine List.Perm.append_left _ ?_
        have h := List.Perm.append_right (R.drop 20) p1
        rw [List.take_append_drop] at h
        exact h
      have hqb : q + 20 ≤ 2097152 := by omega
      clear own hR1l p1 s1
      go_wp2_with fail
      go_roundw
      case rel => exact ⟨k + 1, q, q + 20, P ++ R1, R.drop 20, _, by have := HPK.out; have := HQ.out; omega, rfl, hlt, rfl, by go_num, N1, by show _ = _; rw [List.append_assoc], N2, N3, G.trans G1, own1⟩
      case measure => have := HQ.out; simp [intOf]; omega
    · have hle : ¬ (q : Int) ≤ (n : Int) := by omega
      go_wp2_with fail
      refine (insSort_any P R [] Y p n g cap B n _ _ _ own (by rw [HY.out, List.append_nil]) HP.out HRN.out HYN.out hz (fun x hx => HYOK.out x (by rw [HY.out]; exact List.mem_append_right _ hx)) rfl rfl).mono ?_
      rintro e w1 ⟨rfl, G1, R1, p1, s1, own1⟩
      have hR1l : R1.length ≤ 20 := by have h1 := HRN.out; rw [p1.length_eq]; omega
      rw [List.append_nil] at own1
      have N2 : Hid (Blk keyL 20 (P ++ R1)) := blk_app HB.out (blk_one s1 hR1l) (HP.out.trans HPK.out)
      have N3 : Hid ((P ++ R1).Perm ls) := by
        refine List.Perm.trans ?_ HPM.out
        rw [HY.out]
        exact List.Perm.append_left _ p1
      replace G := G.trans G1
      generalize P ++ R1 = Y0 at *
      clear own hR1l p1 s1 HB HPM HYN HYOK HRN HPK HQ hq hle hlt HP HY G1
      go_wp2_with fail
      go_loopw [6, 7, 8, 9] (fun bs _ _ _ wr => ∃ (s : Nat) (Y : List Lf), 20 ≤ s ∧ s ≤ 2097152 ∧ bs = .int .i64 (s : Int) ∧ Hid (Blk keyL s Y) ∧ Hid (Y.Perm ls) ∧ wo.grownBy wr (some g) ∧ OwnL B wr g cap Y) (fun bs _ _ _ _ => n - (intOf bs).toNat)
      case atStart => exact ⟨20, Y0, Nat.le_refl _, by omega, rfl, N2, N3, G, own1⟩
      case round =>
        clear own1 N2 N3 G
        obtain ⟨s, Y, hs20, hs2, rfl, HB, HPM, G, own⟩ := hrel
        have HYN : Hid (Y.length = n) := HPM.out.length_eq.trans HLN.out
        by_cases hlt : s < n
        · go_wp2_with fail
          obtain ⟨wz, rfl⟩ : ∃ wz : World, wz = wr := ⟨_, rfl⟩
          go_loopw [7, 8] (fun a b wr => ∃ (k p q : Nat) (P R Y : List Lf), p = k * (2 * s) ∧ q = p + 2 * s ∧ p ≤ n ∧ a = .int .i64 (p : Int) ∧ b = .int .i64 (q : Int) ∧ Hid (P.length = p) ∧ Hid (Y = P ++ R) ∧ Hid (Blk keyL (2 * s) P) ∧ Hid (Blk keyL s R) ∧ Hid (Y.Perm ls) ∧ wo.grownBy wr (some g) ∧ OwnL B wr g cap Y) (fun a _ _ => n - (intOf a).toNat)
          case atStart => exact ⟨0, 0, 2 * s, [], Y, Y, by omega, by omega, Nat.zero_le _, rfl, by go_num, rfl, rfl, blk_nil _, HB, HPM, G, own⟩
          case round =>
            clear own HB HPM G HYN
            obtain ⟨k, p, q, P, R, Y, hp, hq, hpn, rfl, rfl, HP, HY, HB, HBR, HPM, G, own⟩ := hrel
            have HYN : Hid (Y.length = n) := HPM.out.length_eq.trans HLN.out
            have HRN : Hid (p + R.length = n) := by show _ = _; rw [← HYN.out, HY.out, List.length_append, HP.out]
            have HYOK : Hid (AllOk Y) := HOK.out.perm HPM.out
            have HPK := Lib.hid hp
            have HQ := Lib.hid hq
            clear hp
            by_cases hlt2 : q ≤ n
            · have hqn : p + s ≤ n := by omega
              clear hq
              go_wp2_with fail
              refine (merge_i P (R.take s) ((R.drop s).take s) ((R.drop s).drop s) Y p (p + s) q g cap B n _ _ _ _ own (by rw [HY.out, List.take_append_drop, List.take_append_drop]) HP.out (by have := HRN.out; have := HQ.out; rw [List.length_take]; omega) (by have := HRN.out; have := HQ.out; rw [List.length_take, List.length_drop]; omega) HYN.out hz (by have := HRN.out; have := HQ.out; rw [List.length_take]; omega) (by have := HRN.out; have := HQ.out; rw [List.length_take, List.length_drop]; omega) HYOK.out HBR.out.first HBR.out.rest.first rfl (by first | rfl | omega) rfl).mono ?_
              rintro e w2 ⟨rfl, G1, W, p1, s1, own1⟩
              have hWl : W.length = 2 * s := by have h1 := HRN.out; have h2 := HQ.out; rw [p1.length_eq, List.length_append, List.length_take, List.length_take, List.length_drop]; omega
              have N1 : Hid ((P ++ W).length = q) := by show _ = _; rw [List.length_append, HP.out, hWl, HQ.out]
              have N2 : Hid (Blk keyL (2 * s) (P ++ W)) := blk_app HB.out (blk_one s1 (by omega)) (HP.out.trans HPK.out)
              have N4 : Hid (Blk keyL s ((R.drop s).drop s)) := HBR.out.rest.rest
              have N3 : Hid ((P ++ (W ++ (R.drop s).drop s)).Perm ls) := by
                refine List.Perm.trans ?_ HPM.out
                rw [HY.out]
                refine List.Perm.append_left _ ?_
                have h := List.Perm.append_right ((R.drop s).drop s) p1
                rw [List.append_assoc, List.take_append_drop, List.take_append_drop] at h
                exact h
              have hqb : q + 2 * s ≤ 8388608 := by omega
              have hs0 : (0 : Int) ≤ (s : Int) := by omega
              clear own hWl p1 s1
              go_wp2_with fail
              go_roundw
              case rel => exact ⟨k + 1, q, q + 2 * s, P ++ W, (R.drop s).drop s, _, by have := HPK.out; have := HQ.out; rw [Nat.succ_mul]; omega, rfl, hlt2, rfl, by go_num, N1, by show _ = _; rw [List.append_assoc], N2, N4, N3, G.trans G1, own1⟩
              case measure => have := HQ.out; simp [intOf]; omega
            · have hle : ¬ (q : Int) ≤ (n : Int) := by omega
              have hs2b : s * 2 ≤ 4194304 := by omega
              by_cases hm : p + s < n
              · have hm' : (p : Int) + (s : Int) < (n : Int) := by omega
                go_wp2_with fail
                refine (merge_i P (R.take s) (R.drop s) [] Y p (p + s) n g cap B n _ _ _ _ own (by rw [HY.out, List.append_nil, List.take_append_drop]) HP.out (by have := HRN.out; rw [List.length_take]; omega) (by have := HRN.out; rw [List.length_drop]; omega) HYN.out hz (by have := HRN.out; rw [List.length_take]; omega) (by have := HRN.out; rw [List.length_drop]; omega) HYOK.out HBR.out.first (HBR.out.rest.whole (by have := HRN.out; have := HQ.out; rw [List.length_drop]; omega)) rfl (by first | rfl | omega) rfl).mono ?_
                rintro e w2 ⟨rfl, G1, W, p1, s1, own1⟩
                have hWl : W.length ≤ 2 * s := by have h1 := HRN.out; have h2 := HQ.out; rw [p1.length_eq, List.take_append_drop]; omega
                have N2 : Hid (Blk keyL (2 * s) (P ++ W)) := blk_app HB.out (blk_one s1 hWl) (HP.out.trans HPK.out)
                rw [List.append_nil] at own1
                have N3 : Hid ((P ++ W).Perm ls) := by
                  refine List.Perm.trans ?_ HPM.out
                  rw [HY.out]
                  refine List.Perm.append_left _ ?_
                  rw [List.take_append_drop] at p1
                  exact p1
                clear own hWl p1 s1
                go_wp2_with fail
                go_roundw
                case rel => exact ⟨2 * s, P ++ W, by omega, by omega, by go_num, N2, N3, G.trans G1, own1⟩
                case measure => simp [intOf]; omega
              · have hm' : ¬ (p : Int) + (s : Int) < (n : Int) := by omega
                have N2 : Hid (Blk keyL (2 * s) (P ++ R)) := blk_app HB.out (blk_one (HBR.out.whole (by have := HRN.out; omega)) (by have := HRN.out; omega)) (HP.out.trans HPK.out)
                rw [← HY.out] at N2
                go_wp2_with fail
                go_roundw
                case rel => exact ⟨2 * s, Y, by omega, by omega, by go_num, N2, HPM, G, own⟩
                case measure => simp [intOf]; omega
        · go_wp2_with fail
          go_end0
          exact ⟨rfl, G, Y, HPM.out, HB.out.whole (by have := HYN.out; omega), own⟩
end Go.Proofs.Ytlbmjeennpccmaa
