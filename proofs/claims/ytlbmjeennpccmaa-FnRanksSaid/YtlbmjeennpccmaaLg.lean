
/- The stable sort of lives: exchanges of ranges. Condition: fewer than 2^40 lives. -/
import Derived.Test.YtlbmjeennpccmaaLf
import Derived.Outline
namespace Go.Proofs.Ytlbmjeennpccmaa
open Go Go.RowKit Go.ChangeShapes Go.WideShapes Go.ChangeAt

attribute [local go_sem] run_store_float

set_option maxHeartbeats 4000000 in
theorem swapRange_any (A U M V Z : List Lf) (a b n g cap B : Nat) (f : Value) (w : World) (own : OwnL B w g cap (A ++ (U ++ (M ++ (V ++ Z))))) (hu : U.length = n) (hv : V.length = n) (ha : A.length = a) (hb : a + (n + M.length) = b) (hz : (A ++ (U ++ (M ++ (V ++ Z)))).length ≤ 1048576) :
    Calls Try.prog 116 #[.slice (some ⟨g, 0, none⟩) (A ++ (U ++ (M ++ (V ++ Z)))).length cap, .int .i64 a, .int .i64 b, .int .i64 n, f] w fun e w' => e = .returned (.tuple #[]) ∧ w.grownBy w' (some g) ∧ OwnL B w' g cap (A ++ (V ++ (M ++ (U ++ Z)))) := by
  have HE := Lib.hid (srL_all (A := A) (M := M) (Z := Z) hu hv)
  have hlen : ∀ i, (srL A U M V Z i).length = (A ++ (U ++ (M ++ (V ++ Z)))).length := fun i => by rw [srL_len i (by omega)]; simp only [List.length_append]
  have HLEN := Lib.hid hlen
  have HST : Hid (∀ i, i < n → swp2 (srL A U M V Z i) (a + i) (b + i) = srL A U M V Z (i + 1)) := fun i hi => srL_step hu hv ha hb hi
  have hbn : b + n ≤ (A ++ (U ++ (M ++ (V ++ Z)))).length := by simp only [List.length_append]; omega
  have hab : a + n ≤ b := by omega
  rw [← srL_0] at own
  rw [← HE.out]
  generalize (A ++ (U ++ (M ++ (V ++ Z)))).length = L at *
  clear hlen HE hu hv ha hb
  generalize hF : srL A U M V Z = F at *
  clear hF
  go_enter Try.func116, Try.ntmps116
  go_wp2_with fail
  go_loopw [10] (fun i wr => ∃ k : Nat, k ≤ n ∧ i = .int .i64 k ∧ w.grownBy wr (some g) ∧ OwnL B wr g cap (F k)) (fun i _ => n - (intOf i).toNat)
  case atStart => exact ⟨0, Nat.zero_le _, rfl, grownBy_refl _ _, own⟩
  case round =>
    clear own
    obtain ⟨k, hk, rfl, G, own⟩ := hrel
    by_cases hlt : k < n
    · have hl := HLEN.out k
      have ca := own.cells (k := a + k) (by omega)
      have cb := own.cells (k := b + k) (by omega)
      have hfr := own.frozen
      have HSW := Lib.hid (own.swap (i := a + k) (j := b + k) (by omega) (by omega))
      rw [HST.out k hlt] at HSW
      have fa0 := own.frozen ((a + k) * 2)
      have fa1 := own.frozen ((a + k) * 2 + 1)
      have fb0 := own.frozen ((b + k) * 2)
      have fb1 := own.frozen ((b + k) * 2 + 1)
      obtain ⟨ca0, ca1⟩ := ca
      obtain ⟨cb0, cb1⟩ := cb
      generalize (F k)[a + k]'(by omega) = x at *
      generalize (F k)[b + k]'(by omega) = y at *
      clear hfr own hl
      have s1 : IntKind.i64.wrap ((a : Int) + k) = ((a + k : Nat) : Int) := IntWalk.i64_in _ (by omega)
      have s2 : IntKind.i64.wrap ((b : Int) + k) = ((b + k : Nat) : Int) := IntWalk.i64_in _ (by omega)
      have l1 : ((a + k : Nat) : Int) < (L : Int) := by omega
      have l2 : ((b + k : Nat) : Int) < (L : Int) := by omega
      have n1 : ¬ (a + k = b + k) := by omega
      have n2 : ¬ (b + k = a + k) := by omega
      generalize a + k = p at *
      generalize b + k = q at *
      go_wp2_with fail
      go_region
      all_goals
        go_wp2_with fail
        go_roundw
        case rel => exact ⟨k + 1, by omega, by go_num, (G.trans (grown_four _ _ _ _ _ _ _ _ _ _)).trans (grown_drewN _ 1 _), HSW.out.ext (Ext.drewN _ 1)⟩
        case measure => simp [intOf]; omega
    · obtain rfl : k = n := by omega
      go_wp2_with fail
      go_end0
      exact ⟨rfl, G, own⟩
theorem swapRange_i (A U M V Z X : List Lf) (a b n g cap B L : Nat) (ai bi ni : Int) (f : Value) (w : World) (own : OwnL B w g cap X) (hX : X = A ++ (U ++ (M ++ (V ++ Z)))) (hu : U.length = n) (hv : V.length = n) (ha : A.length = a) (hb : a + (n + M.length) = b)
    (hL : X.length = L) (hz : L ≤ 1048576) (h1 : ai = a) (h2 : bi = b) (h3 : ni = n) :
    Calls Try.prog 116 #[.slice (some ⟨g, 0, none⟩) L cap, .int .i64 ai, .int .i64 bi, .int .i64 ni, f] w fun e w' => e = .returned (.tuple #[]) ∧ w.grownBy w' (some g) ∧ OwnL B w' g cap (A ++ (V ++ (M ++ (U ++ Z)))) := by
  subst hL; subst h1; subst h2; subst h3; subst hX
  exact swapRange_any A U M V Z a b n g cap B f w own hu hv ha hb hz

set_option maxHeartbeats 4000000 in
theorem rotate_any (A U V Z : List Lf) (a m b g cap B L : Nat) (f : Value) (w : World) (own : OwnL B w g cap (A ++ (U ++ (V ++ Z)))) (hu : 0 < U.length) (hv : 0 < V.length) (ha : A.length = a) (hm : a + U.length = m) (hb : m + V.length = b)
    (hL : (A ++ (U ++ (V ++ Z))).length = L) (hz : L ≤ 1048576) :
    Calls Try.prog 115 #[.slice (some ⟨g, 0, none⟩) L cap, .int .i64 a, .int .i64 m, .int .i64 b, f] w fun e w' => e = .returned (.tuple #[]) ∧ w.grownBy w' (some g) ∧ OwnL B w' g cap (A ++ (V ++ (U ++ Z))) := by
  have hbL : b ≤ L := by rw [← hL]; simp only [List.length_append]; omega
  generalize hT : A ++ (V ++ (U ++ Z)) = T
  generalize hS : A ++ (U ++ (V ++ Z)) = S at *
  have HT := Lib.hid hT
  have HS := Lib.hid hS
  have HL := Lib.hid hL
  have h1 : (m : Int) - a = (U.length : Int) := by omega
  have h2 : (b : Int) - m = (V.length : Int) := by omega
  clear hT hS hL
  go_enter Try.func115, Try.ntmps115
  go_wp2_with fail
  go_loopw [10, 11] (fun i j wr => ∃ (A' U' V' Z' X : List Lf), i = .int .i64 U'.length ∧ j = .int .i64 V'.length ∧ 0 < U'.length ∧ 0 < V'.length ∧ A'.length + U'.length = m ∧ m + V'.length ≤ b ∧ Hid (X = A' ++ (U' ++ (V' ++ Z'))) ∧ Hid (X.length = L) ∧ Hid (A' ++ (V' ++ (U' ++ Z')) = T) ∧
    w.grownBy wr (some g) ∧ OwnL B wr g cap X) (fun i j _ => (intOf i).toNat + (intOf j).toNat)
  case atStart => exact ⟨A, U, V, Z, S, rfl, rfl, hu, hv, by omega, by omega, HS.out.symm, HL, HT, grownBy_refl _ _, own⟩
  case round =>
    clear own h1 h2 hu hv hm hb HS
    obtain ⟨A', U', V', Z', X, rfl, rfl, hu, hv, hm, hb, HX, HXL, HT', G, own⟩ := hrel
    rcases Nat.lt_trichotomy U'.length V'.length with hlt | heq | hgt
    · have n1 : ((U'.length : Int) != (V'.length : Int)) = true := by simp; omega
      have n2 : ¬ (V'.length : Int) < (U'.length : Int) := by omega
      have d1 : (V'.length : Int) - U'.length = ((V'.length - U'.length : Nat) : Int) := by omega
      generalize hp : U'.length = p at *
      generalize hq : V'.length = q at *
      have HX1 : Hid (X = A' ++ (U' ++ (V'.take (q - p) ++ (V'.drop (q - p) ++ Z')))) := by
        show _ = _; rw [HX.out, ← List.append_assoc (V'.take _), List.take_append_drop]
      have l1 : (V'.take (q - p)).length = q - p := by rw [List.length_take]; omega
      have l2 : (V'.drop (q - p)).length = p := by rw [List.length_drop]; omega
      have HT1 : Hid (A' ++ (V'.take (q - p) ++ (V'.drop (q - p) ++ (U' ++ Z'))) = T) := by
        show _ = _; rw [← HT'.out, ← List.append_assoc (V'.take _), List.take_append_drop]
      generalize V'.take (q - p) = Va at *
      generalize V'.drop (q - p) = Vb at *
      have HXL2 : Hid ((A' ++ (Vb ++ (Va ++ (U' ++ Z')))).length = L) := by
        show _ = _; rw [← HXL.out, HX1.out]; simp only [List.length_append]; omega
      have Hp := Lib.hid hp
      have Hl1 := Lib.hid l1
      have Hl2 := Lib.hid l2
      clear hp hq l1 l2
      go_wp2_with (go_at_call 116; refine (swapRange_i A' U' Va Vb Z' X (m - p) (m + q - p) p g cap B L _ _ _ _ _ own HX1.out Hp.out Hl2.out (by omega) (by rw [Hl1.out]; omega) HXL.out hz (by omega) (by omega) rfl).mono ?_; rintro e w' ⟨rfl, G2, own2⟩)
      go_roundw
      case rel => exact ⟨A', Vb, Va, U' ++ Z', _, by rw [Hl2.out], by rw [Hl1.out], by rw [Hl2.out]; omega, by rw [Hl1.out]; omega, by rw [Hl2.out]; omega, by rw [Hl1.out]; omega, rfl, HXL2, HT1, G.trans G2, own2⟩
      case measure => simp [intOf]; omega
    · have n1 : ((U'.length : Int) != (V'.length : Int)) = false := by simp; omega
      have HX1 : Hid (X = A' ++ (U' ++ ([] ++ (V' ++ Z')))) := by show _ = _; rw [HX.out]; rfl
      have HT1 : Hid (A' ++ (V' ++ ([] ++ (U' ++ Z'))) = T) := by show _ = _; rw [← HT'.out]; rfl
      generalize hp : U'.length = p at *
      generalize hq : V'.length = q at *
      obtain rfl := heq
      have Hp := Lib.hid hp
      have Hq := Lib.hid hq
      clear hp hq
      go_wp2_with (go_at_call 116; refine (swapRange_i A' U' [] V' Z' X (m - p) m p g cap B L _ _ _ _ _ own HX1.out Hp.out Hq.out (by omega) (by simp; omega) HXL.out hz (by omega) rfl rfl).mono ?_; rintro e w' ⟨rfl, G2, own2⟩)
      go_end0
      rw [HT1.out] at own2
      exact ⟨rfl, G.trans G2, own2⟩
    · have n1 : ((U'.length : Int) != (V'.length : Int)) = true := by simp; omega
      have n2 : (V'.length : Int) < (U'.length : Int) := by omega
      have d1 : (U'.length : Int) - V'.length = ((U'.length - V'.length : Nat) : Int) := by omega
      generalize hp : U'.length = p at *
      generalize hq : V'.length = q at *
      have HX1 : Hid (X = A' ++ (U'.take q ++ (U'.drop q ++ (V' ++ Z')))) := by
        show _ = _; rw [HX.out, ← List.append_assoc (U'.take _), List.take_append_drop]
      have l1 : (U'.take q).length = q := by rw [List.length_take]; omega
      have l2 : (U'.drop q).length = p - q := by rw [List.length_drop]; omega
      have HT1 : Hid ((A' ++ V') ++ (U'.take q ++ (U'.drop q ++ Z')) = T) := by
        show _ = _; rw [← HT'.out, ← List.append_assoc (U'.take _), List.take_append_drop, List.append_assoc]
      generalize U'.take q = Ua at *
      generalize U'.drop q = Ub at *
      have HXL2 : Hid ((A' ++ (V' ++ (Ub ++ (Ua ++ Z')))).length = L) := by
        show _ = _; rw [← HXL.out, HX1.out]; simp only [List.length_append]; omega
      have Hq := Lib.hid hq
      have Hl1 := Lib.hid l1
      have Hl2 := Lib.hid l2
      clear hp hq l1 l2
      go_wp2_with (go_at_call 116; refine (swapRange_i A' Ua Ub V' Z' X (m - p) m q g cap B L _ _ _ _ _ own HX1.out Hl1.out Hq.out (by omega) (by rw [Hl2.out]; omega) HXL.out hz (by omega) rfl rfl).mono ?_; rintro e w' ⟨rfl, G2, own2⟩)
      go_roundw
      case rel => exact ⟨A' ++ V', Ub, Ua, Z', _, by rw [Hl2.out], by rw [Hl1.out], by rw [Hl2.out]; omega, by rw [Hl1.out]; omega, by rw [Hl2.out, List.length_append, Hq.out]; omega, by rw [Hl1.out]; omega, (by show _ = _; rw [List.append_assoc]), HXL2, HT1, G.trans G2, own2⟩
      case measure => simp [intOf]; omega
theorem rotate_i (A U V Z X : List Lf) (a m b g cap B L : Nat) (ai mi bi : Int) (f : Value) (w : World) (own : OwnL B w g cap X) (hX : X = A ++ (U ++ (V ++ Z))) (hu : 0 < U.length) (hv : 0 < V.length) (ha : A.length = a) (hm : a + U.length = m) (hb : m + V.length = b)
    (hL : X.length = L) (hz : L ≤ 1048576) (h1 : ai = a) (h2 : mi = m) (h3 : bi = b) :
    Calls Try.prog 115 #[.slice (some ⟨g, 0, none⟩) L cap, .int .i64 ai, .int .i64 mi, .int .i64 bi, f] w fun e w' => e = .returned (.tuple #[]) ∧ w.grownBy w' (some g) ∧ OwnL B w' g cap (A ++ (V ++ (U ++ Z))) := by
  subst h1; subst h2; subst h3; subst hX
  exact rotate_any A U V Z a m b g cap B L f w own hu hv ha hm hb hL hz
end Go.Proofs.Ytlbmjeennpccmaa
