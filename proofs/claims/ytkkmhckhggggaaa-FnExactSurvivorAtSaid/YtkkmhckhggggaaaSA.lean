
/- FnExactSurvivorAt returns true for every input and changes nothing that was there. No condition. -/
import Derived.Test.YtkkmhckhggggaaaLy
namespace Go.Proofs.Ytkkmhckhggggaaa
open Go Go.RowKit Go.ChangeShapes Go.WideShapes Go.ChangeAt

attribute [local go_sem] run_store_float

/-- The last row of the table whose time is at most t, among the first k. -/
def surT (ls : List Lf) (t : Nat) : Nat → Nat
  | 0 => one1
  | k + 1 => if fcmp .leq .f32 (cn .f32 ((timesL ls).getD k 0)) t then (survL ls).getD k 0 else surT ls t k
def surO (ls : List Lf) (t : Nat) : Option Nat := if livesB ls && leastB t then some (surT ls t (timesL ls).length) else none
theorem surT_succ (ls : List Lf) (t k : Nat) : surT ls t (k + 1) = if fcmp .leq .f32 (cn .f32 ((timesL ls).getD k 0)) t then (survL ls).getD k 0 else surT ls t k := rfl
theorem survL_len2 (ls : List Lf) : (survL ls).length = (timesL ls).length := by unfold survL; rw [scanK_len]

/-- The times ascend. -/
theorem timesK_sub (os : List Lf) : ∀ k, (timesK os k).Sublist ((os.take k).map Prod.fst) := by
  intro k
  induction k with
  | zero => simp [timesK]
  | succ k ih =>
    by_cases hk : k < os.length
    · rw [timesK_succ hk, List.take_add_one, List.getElem?_eq_getElem hk, Option.toList_some, List.map_append]
      unfold timeStep
      split
      · exact List.Sublist.append ih (List.Sublist.refl _)
      · exact ih.trans (List.sublist_append_left _ _)
    · have e : timesK os (k + 1) = timesK os k := by unfold timesK; rw [List.take_of_length_le (by omega), List.take_of_length_le (by omega)]
      rw [e, List.take_of_length_le (by omega)]
      rw [List.take_of_length_le (by omega)] at ih
      exact ih
theorem timesL_asc (ls : List Lf) : (timesL ls).Pairwise (· ≤ ·) := by
  refine List.Pairwise.sublist (timesK_sub _ _) ?_
  refine List.Pairwise.sublist (List.Sublist.map _ (List.take_sublist _ _)) ?_
  rw [List.pairwise_map]
  refine List.Pairwise.imp ?_ (ordL_srt ls)
  intro x y h
  unfold keyL at h
  split at h <;> split at h <;> omega
theorem pos_leq {x y : Nat} (hx : posW x) (hy : posW y) : fcmp .leq .f32 (cn .f32 x) (cn .f32 y) = decide (x ≤ y) := by
  rw [fcmp_cn]
  rcases Nat.lt_trichotomy x y with h | h | h
  · have e := order_lt hx hy h
    unfold fcmp; simp only [e]; rw [decide_eq_true (by omega)]; rfl
  · subst h
    have e := order_self .f32 x hx.num
    unfold fcmp; simp only [e]; rw [decide_eq_true (by omega)]; rfl
  · have e := order_gt hx hy h
    unfold fcmp; simp only [e]; rw [decide_eq_false (by omega)]; rfl
theorem fin_num {b : Nat} (hb : b < 4294967296) (h : finB (cn .f32 b) = true) : isN .f32 b = false ∧ b % 2147483648 < 2139095040 := by
  have nb : isN .f32 b = false := by
    cases hn : isN .f32 b
    · rfl
    · exfalso
      rw [cn_of_nan hn] at h
      revert h
      decide +kernel
  refine ⟨nb, ?_⟩
  rcases single_form b nb hb with ⟨a1, a2⟩ | ⟨a1, a2, a3⟩ | ⟨a1, a2⟩
  · omega
  · omega
  · exfalso
    rw [cn_of_num nb] at h
    have e : floatBits .sub .f32 b b = none := by
      unfold floatBits Ieee.Format.sub
      have : (FloatKind.f32).format.read b = .infinity (decide (2147483648 ≤ b)) := a2
      rw [this]
      simp [Ieee.Datum.sum, Ieee.Datum.opposite]
    unfold finB fop at h
    rw [e] at h
    revert h
    decide +kernel
/-- A number of at least 0 is greater than 0, or no time is at most it. -/
theorem least_pos {t : Nat} (ht : t < 4294967296) (h : leastB (cn .f32 t) = true) : posW t ∨ ∀ a, posW a → fcmp .leq .f32 (cn .f32 a) (cn .f32 t) = false := by
  unfold leastB at h
  rw [Bool.and_eq_true] at h
  obtain ⟨h1, h2⟩ := h
  obtain ⟨nb, hr⟩ := fin_num ht h1
  rw [fcmp_cn] at h2
  have hz : Ieee.single.read 0 = .number false 0 (-149) := by decide +kernel
  by_cases hz0 : t % 2147483648 = 0
  · right
    intro a ha
    rw [fcmp_cn]
    obtain ⟨m, i, r1, i1, v1⟩ := read_pos ha
    have hm : 0 < m := by
      rcases Nat.eq_zero_or_pos m with h0 | h0
      · subst h0
        have := pv_lt ha.1
        rw [← v1] at this
        simp at this
      · exact h0
    have ht0 : ∃ s, Ieee.single.read t = .number s 0 (-149) := by
      rcases single_form t nb ht with ⟨a1, a2⟩ | ⟨a1, a2, a3⟩ | ⟨a1, a2⟩
      · rw [hz0] at a2; exact ⟨_, a2⟩
      · omega
      · omega
    obtain ⟨s, ht0⟩ := ht0
    have ho : (FloatKind.f32).format.order a t = some .gt := by
      show (Ieee.single.read a).order (Ieee.single.read t) = _
      rw [r1, ht0]
      simp only [Ieee.Datum.order]
      rw [int_gt_cmp]
      unfold Ieee.signed
      simp only [Nat.shiftLeft_eq, Bool.false_eq_true, if_false, Nat.zero_mul]
      have : 0 < m * 2 ^ (i - min i (-149)).toNat := Nat.mul_pos hm (Nat.pow_pos (by omega))
      split <;> omega
    unfold fcmp; simp only [ho]; rfl
  · left
    have key : ∀ (s : Bool) (m : Nat) (i : Int), Ieee.single.read t = .number s m i → 0 < m → s = false := fun s m i e hm => by
      cases s
      · rfl
      · exfalso
        have ho : (FloatKind.f32).format.order t 0 = some .lt := by
          show (Ieee.single.read t).order (Ieee.single.read 0) = _
          rw [e, hz]
          simp only [Ieee.Datum.order]
          rw [int_lt_cmp]
          unfold Ieee.signed
          simp only [Nat.shiftLeft_eq, if_true, Bool.false_eq_true, if_false, Nat.zero_mul]
          have : 0 < m * 2 ^ (i - min i (-149)).toNat := Nat.mul_pos hm (Nat.pow_pos (by omega))
          omega
        have : fcmp .geq .f32 t 0 = false := by unfold fcmp; simp only [ho]; rfl
        rw [this] at h2; cases h2
    rcases single_form t nb ht with ⟨a1, a2⟩ | ⟨a1, a2, a3⟩ | ⟨a1, a2⟩
    · have := key _ _ _ a2 (by omega)
      simp at this
      exact ⟨by omega, by omega⟩
    · have := key _ _ _ a3 (by omega)
      simp at this
      exact ⟨by omega, by omega⟩
    · omega
theorem leq_down {a b t : Nat} (ha : posW a) (hb : posW b) (hab : a ≤ b) (ht : t < 4294967296) (hl : leastB (cn .f32 t) = true) (h : fcmp .leq .f32 (cn .f32 a) (cn .f32 t) = false) : fcmp .leq .f32 (cn .f32 b) (cn .f32 t) = false := by
  rcases least_pos ht hl with hp | hn
  · rw [pos_leq ha hp] at h
    rw [pos_leq hb hp]
    simp at h ⊢
    omega
  · exact hn b hb
/-- From a time that is greater on, nothing more comes. -/
theorem surT_stop {ls : List Lf} {t k : Nat} (hok : AllOk ls) (ht : t < 4294967296) (hl : leastB (cn .f32 t) = true) (hk : k < (timesL ls).length) (h : fcmp .leq .f32 (cn .f32 (timesL ls)[k]) (cn .f32 t) = false) :
    ∀ n, k ≤ n → n ≤ (timesL ls).length → surT ls (cn .f32 t) n = surT ls (cn .f32 t) k := by
  intro n
  induction n with
  | zero => intro h1 _; obtain rfl : k = 0 := by omega
            rfl
  | succ n ih =>
    intro h1 h2
    by_cases e : k = n + 1
    · rw [e]
    · have hd : fcmp .leq .f32 (cn .f32 (timesL ls)[n]) (cn .f32 t) = false := by
        refine leq_down (timesL_pos hok _ (List.getElem_mem hk)) (timesL_pos hok _ (List.getElem_mem (by omega))) ?_ ht hl h
        by_cases e2 : k = n
        · subst e2; exact Nat.le_refl _
        · exact List.pairwise_iff_getElem.1 (timesL_asc ls) k n hk (by omega) (by omega)
      have hg : (timesL ls).getD n 0 = (timesL ls)[n] := by simp [show n < (timesL ls).length by omega]
      rw [surT_succ, hg, hd, ← ih (by omega) (by omega)]
      rfl

set_option maxRecDepth 100000 in
set_option maxHeartbeats 4000000 in
theorem implSurvivorAt_any (v : Value) (ls : List Lf) (t : Nat) (w : World) (r : RdL w v ls) (ht : t < 4294967296) : Calls Try.prog 40 #[v, .float .f32 t] w (NmPost (surO ls (cn .f32 t)) w) := by
  have HTB := Lib.hid ht
  clear ht
  cases h : livesB ls
  · have H : Hid (surO ls (cn .f32 t) = none) := by show _ = _; unfold surO; rw [h]; rfl
    have HA := Lib.hid (areLives_any v ls w r)
    rw [h] at HA
    clear h
    obtain ⟨⟨_, a1, c1, rfl, p1, p2, _, _⟩, _⟩ := r
    go_enter Try.func40, Try.ntmps40
    go_wp2_with fail
    refine HA.out.mono ?_
    rintro e w1 ⟨rfl, X⟩
    go_wp2_with fail
    go_ret2
    rw [H.out]
    exact ⟨X, rfl⟩
  · cases hlt : leastB (cn .f32 t)
    · have H : Hid (surO ls (cn .f32 t) = none) := by show _ = _; unfold surO; rw [hlt, Bool.and_false]; rfl
      have HA := Lib.hid (areLives_any v ls w r)
      have HL := Lib.hid hlt
      rw [h] at HA
      clear h hlt
      obtain ⟨⟨_, a1, c1, rfl, p1, p2, _, _⟩, _⟩ := r
      go_enter Try.func40, Try.ntmps40
      go_wp2_with fail
      refine HA.out.mono ?_
      rintro e w1 ⟨rfl, X⟩
      go_wp2_with fail
      refine (areNotLess_one HL.out _ _ (RdF_one _ t HTB.out)).mono ?_
      rintro e w2 ⟨rfl, X2⟩
      go_wp2_with fail
      go_ret2
      rw [H.out]
      exact ⟨X.trans ((Ext.alloc _ _).trans X2), rfl⟩
    · have H : Hid (surO ls (cn .f32 t) = some (surT ls (cn .f32 t) (timesL ls).length)) := by show _ = _; unfold surO; rw [h, hlt]; rfl
      have HV := Lib.hid (areLives_any v ls w r)
      have HL := Lib.hid hlt
      have hl := livesB_len h
      have hok := livesB_ok h r.2
      have hz : ls.length ≤ 1048576 := by omega
      have HF := Lib.hid (fun W r => failures_any v ls W r hl.1 hz hok)
      have HT := Lib.hid (fun W r => survivors_any v ls W r hl.1 hz hok)
      have HTR := Lib.hid (fun (W : World) (B g cap : Nat) => times_rd (w := W) (B := B) (g := g) (cap := cap) hok)
      have hlen := timesL_len ls
      have hsl := survL_len2 ls
      have HSU := Lib.hid (surT_succ ls (cn .f32 t))
      have HS0 : Hid (surT ls (cn .f32 t) 0 = cn .f32 1065353216) := rfl
      have r' := r
      rw [h] at HV
      clear h hok hl hlt
      obtain ⟨⟨-, a1, c1, rfl, -, -, -, -⟩, -⟩ := r
      go_enter Try.func40, Try.ntmps40
      go_wp2_with fail
      refine HV.out.mono ?_
      rintro e w0 ⟨rfl, X0⟩
      go_wp2_with fail
      refine (areNotLess_one HL.out _ _ (RdF_one _ t HTB.out)).mono ?_
      rintro e w00 ⟨rfl, X00⟩
      replace X0 : Ext w w00 := X0.trans ((Ext.alloc _ _).trans X00)
      clear X00
      go_wp2_with fail
      refine (HT.out _ (r'.ext X0)).mono ?_
      rintro e w1 ⟨v2, rfl, ⟨g2, cap2, os, rfl, hos, hob, own2⟩, X1⟩
      go_wp2_with fail
      refine (HF.out _ ((r'.ext X0).ext X1)).mono ?_
      rintro e w2 ⟨g, cap, rfl, own, X2⟩
      have R := HTR.out _ _ _ _ own
      have R2 : RdF w2 (.slice (some ⟨g2, 0, none⟩) os.length cap2) os := RdF.ext (w := w1) (v := .slice (some ⟨g2, 0, none⟩) os.length cap2) (bs := os) ⟨own_rd own2, hob⟩ X2
      have HOS := Lib.hid hos
      have HOB := Lib.hid hob
      have hol : os.length = (timesL ls).length := by rw [← hsl, ← hos, List.length_map]
      have Y : Ext w w2 := X0.trans (X1.trans X2)
      generalize surT ls (cn .f32 t) = sT at *
      generalize timesL ls = T at *
      generalize survL ls = S at *
      clear own own2 hob hos HF HT HTR HV hsl
      go_wp2_with fail
      go_loopw [24, 6] (fun i s wr => ∃ k sb : Nat, k ≤ T.length ∧ i = .int .i64 k ∧ s = .float .f32 sb ∧ Hid (cn .f32 sb = sT k) ∧ Hid (sb < 4294967296) ∧ wr = w2) (fun i _ _ => T.length - (intOf i).toNat)
      case atStart => exact ⟨0, 1065353216, Nat.zero_le _, rfl, rfl, HS0.out.symm, (by show (1065353216 : Nat) < _; decide), rfl⟩
      case round =>
        obtain ⟨k, sb, hk, rfl, rfl, HS, HB, rfl⟩ := hrel
        by_cases hlt : k < T.length
        · obtain ⟨b1, o1, hbo, hb1, hc1⟩ := R.at hlt
          obtain ⟨rfl, rfl⟩ : g = b1 ∧ 0 = o1 := by simpa using hbo
          obtain ⟨b2, o2, hbo2, hb2, hc2⟩ := R2.at (k := k) (by omega)
          obtain ⟨rfl, rfl⟩ : g2 = b2 ∧ 0 = o2 := by simpa using hbo2
          rw [Nat.zero_add] at hc1 hc2
          have hk1 : k < os.length := by omega
          have hTk : T.getD k 0 = T[k] := by simp [hlt]
          have hSk : S.getD k 0 = cn .f32 (os[k]'hk1) := by rw [← HOS.out]; simp [hk1]
          have HST : Hid (sT (k + 1) = if fcmp .leq .f32 (cn .f32 T[k]) (cn .f32 t) then cn .f32 (os[k]'hk1) else sT k) := by show _ = _; rw [HSU.out k, hTk, hSk]
          have hob := Lib.hid (HOB.out _ (List.getElem_mem hk1))
          clear hbo hbo2 hTk hSk
          cases hp : fcmp .leq .f32 (cn .f32 T[k]) (cn .f32 t)
          · have HN : Hid (cn .f32 sb = sT (k + 1)) := by show _ = _; rw [HST.out, hp]; exact HS.out
            clear HST
            go_wp2_with (refine wpList_fcmp rfl rfl rfl rfl rfl (by first | with_reducible assumption | exact rfl) ?_)
            go_roundw
            case rel => exact ⟨k + 1, sb, by omega, by go_num, rfl, HN, HB, by first | rfl | trivial⟩
            case measure => simp [intOf]; omega
          · have HN : Hid (cn .f32 (os[k]'hk1) = sT (k + 1)) := by show _ = _; rw [HST.out, hp]; rfl
            clear HST
            go_wp2_with (refine wpList_fcmp rfl rfl rfl rfl rfl (by first | with_reducible assumption | exact rfl) ?_)
            go_roundw
            case rel => exact ⟨k + 1, os[k]'hk1, by omega, by go_num, rfl, HN, hob, by first | rfl | trivial⟩
            case measure => simp [intOf]; omega
        · obtain rfl : k = T.length := by omega
          go_wp2_with fail
          go_ret2
          rw [H.out]
          exact ⟨Y, sb, rfl, HS.out, HB.out⟩

theorem l02Least_eq3 {b : Nat} {c : Bool} (h : leastB (cn .f32 b) = c) (w : World) : Calls Try.prog 87 #[.float .f32 b] w fun e w' => e = .returned (.bool c) ∧ Ext w w' := l02Least_eq h w
set_option maxRecDepth 100000 in
set_option maxHeartbeats 4000000 in
theorem specSurvivorAt_any (v : Value) (ls : List Lf) (t : Nat) (w : World) (r : RdL w v ls) (ht : t < 4294967296) : Calls Try.prog 39 #[v, .float .f32 t] w (NmPost (surO ls (cn .f32 t)) w) := by
  have HTB := Lib.hid ht
  clear ht
  cases h : livesB ls
  · have H : Hid (surO ls (cn .f32 t) = none) := by show _ = _; unfold surO; rw [h]; rfl
    have HA := Lib.hid (l02Lives_any v ls w r)
    rw [h] at HA
    clear h
    obtain ⟨⟨_, a1, c1, rfl, p1, p2, _, _⟩, _⟩ := r
    go_enter Try.func39, Try.ntmps39
    go_wp2_with fail
    refine HA.out.mono ?_
    rintro e w1 ⟨rfl, X⟩
    go_wp2_with fail
    go_ret2
    rw [H.out]
    exact ⟨X, rfl⟩
  · cases hlt : leastB (cn .f32 t)
    · have H : Hid (surO ls (cn .f32 t) = none) := by show _ = _; unfold surO; rw [hlt, Bool.and_false]; rfl
      have HA := Lib.hid (l02Lives_any v ls w r)
      have HL := Lib.hid hlt
      rw [h] at HA
      clear h hlt
      obtain ⟨⟨_, a1, c1, rfl, p1, p2, _, _⟩, _⟩ := r
      go_enter Try.func39, Try.ntmps39
      go_wp2_with fail
      refine HA.out.mono ?_
      rintro e w1 ⟨rfl, X⟩
      go_wp2_with fail
      refine (l02Least_eq3 HL.out _).mono ?_
      rintro e w2 ⟨rfl, X2⟩
      go_wp2_with fail
      go_ret2
      rw [H.out]
      exact ⟨X.trans X2, rfl⟩
    · have H : Hid (surO ls (cn .f32 t) = some (surT ls (cn .f32 t) (timesL ls).length)) := by show _ = _; unfold surO; rw [h, hlt]; rfl
      have HV := Lib.hid (l02Lives_any v ls w r)
      have HL := Lib.hid hlt
      have hl := livesB_len h
      have hok := livesB_ok h r.2
      have hz : ls.length ≤ 1048576 := by omega
      have HF := Lib.hid (fun W r => l02Times_any v ls W r hl.1 hz hok)
      have HT := Lib.hid (fun W r => l02Table_any v ls W r hl.1 hz hok)
      have HTR := Lib.hid (fun (W : World) (B g cap : Nat) => times_rd (w := W) (B := B) (g := g) (cap := cap) hok)
      have HSTOP := Lib.hid (fun k hk h => surT_stop (k := k) hok HTB.out hlt hk h)
      have hlen := timesL_len ls
      have hsl := survL_len2 ls
      have HSU := Lib.hid (surT_succ ls (cn .f32 t))
      have HS0 : Hid (surT ls (cn .f32 t) 0 = cn .f32 1065353216) := rfl
      have r' := r
      rw [h] at HV
      clear h hok hl hlt
      obtain ⟨⟨-, a1, c1, rfl, -, -, -, -⟩, -⟩ := r
      go_enter Try.func39, Try.ntmps39
      go_wp2_with fail
      refine HV.out.mono ?_
      rintro e w0 ⟨rfl, X0⟩
      go_wp2_with fail
      refine (l02Least_eq3 HL.out _).mono ?_
      rintro e w00 ⟨rfl, X00⟩
      replace X0 : Ext w w00 := X0.trans X00
      clear X00
      go_wp2_with fail
      refine (HF.out _ (r'.ext X0)).mono ?_
      rintro e w1 ⟨g, cap, rfl, own, X1⟩
      go_wp2_with fail
      refine (HT.out _ ((r'.ext X0).ext X1)).mono ?_
      rintro e w2 ⟨v2, rfl, ⟨g2, cap2, os, rfl, hos, hob, own2⟩, X2⟩
      have R := HTR.out _ _ _ _ (own_ext own X2)
      have R2 : RdF w2 (.slice (some ⟨g2, 0, none⟩) os.length cap2) os := ⟨own_rd own2, hob⟩
      have HOS := Lib.hid hos
      have HOB := Lib.hid hob
      have hol : os.length = (timesL ls).length := by rw [← hsl, ← hos, List.length_map]
      have Y : Ext w w2 := X0.trans (X1.trans X2)
      generalize surT ls (cn .f32 t) = sT at *
      generalize timesL ls = T at *
      generalize survL ls = S at *
      clear own own2 hob hos HF HT HTR HV hsl
      go_wp2_with fail
      go_loopw [9, 8] (fun i s wr => ∃ k sb : Nat, k ≤ T.length ∧ i = .int .i64 k ∧ s = .float .f32 sb ∧ Hid (cn .f32 sb = sT k) ∧ Hid (sb < 4294967296) ∧ wr = w2) (fun i _ _ => T.length - (intOf i).toNat)
      case atStart => exact ⟨0, 1065353216, Nat.zero_le _, rfl, rfl, HS0.out.symm, (by show (1065353216 : Nat) < _; decide), rfl⟩
      case round =>
        obtain ⟨k, sb, hk, rfl, rfl, HS, HB, rfl⟩ := hrel
        by_cases hlt : k < T.length
        · obtain ⟨b1, o1, hbo, hb1, hc1⟩ := R.at hlt
          obtain ⟨rfl, rfl⟩ : g = b1 ∧ 0 = o1 := by simpa using hbo
          obtain ⟨b2, o2, hbo2, hb2, hc2⟩ := R2.at (k := k) (by omega)
          obtain ⟨rfl, rfl⟩ : g2 = b2 ∧ 0 = o2 := by simpa using hbo2
          rw [Nat.zero_add] at hc1 hc2
          have hk1 : k < os.length := by omega
          have hTk : T.getD k 0 = T[k] := by simp [hlt]
          have hSk : S.getD k 0 = cn .f32 (os[k]'hk1) := by rw [← HOS.out]; simp [hk1]
          have HST : Hid (sT (k + 1) = if fcmp .leq .f32 (cn .f32 T[k]) (cn .f32 t) then cn .f32 (os[k]'hk1) else sT k) := by show _ = _; rw [HSU.out k, hTk, hSk]
          have hob := Lib.hid (HOB.out _ (List.getElem_mem hk1))
          clear hbo hbo2 hTk hSk
          cases hp : fcmp .leq .f32 (cn .f32 T[k]) (cn .f32 t)
          · have HE : Hid (sT T.length = sT k) := HSTOP.out k hlt hp T.length (by omega) (Nat.le_refl _)
            clear HST
            go_wp2_with (refine wpList_fcmp rfl rfl rfl rfl rfl (by first | with_reducible assumption | exact rfl) ?_)
            go_ret2
            rw [H.out, HE.out]
            exact ⟨Y, sb, rfl, HS.out, HB.out⟩
          · have HN : Hid (cn .f32 (os[k]'hk1) = sT (k + 1)) := by show _ = _; rw [HST.out, hp]; rfl
            clear HST
            go_wp2_with (refine wpList_fcmp rfl rfl rfl rfl rfl (by first | with_reducible assumption | exact rfl) ?_)
            go_roundw
            case rel => exact ⟨k + 1, os[k]'hk1, by omega, by go_num, rfl, HN, hob, by first | rfl | trivial⟩
            case measure => simp [intOf]; omega
        · obtain rfl : k = T.length := by omega
          go_wp2_with fail
          go_ret2
          rw [H.out]
          exact ⟨Y, sb, rfl, HS.out, HB.out⟩

set_option maxRecDepth 100000 in
set_option maxHeartbeats 4000000 in
theorem FnExactSurvivorAt_law (v : Value) (ls : List Lf) (t : Nat) (o : Option Nat) (w : World) (r : RdL w v ls)
    (hs : ∀ w v, RdL w v ls → Calls Try.prog 39 #[v, .float .f32 t] w (NmPost o w)) (hi : ∀ w v, RdL w v ls → Calls Try.prog 40 #[v, .float .f32 t] w (NmPost o w)) :
    Calls Try.prog 7 #[v, .float .f32 t] w fun e w' => e = .returned (.bool true) ∧ Ext w w' := by
  have HS := Lib.hid hs
  have HI := Lib.hid hi
  have r' := r
  have wa : (Try.prog.underlying 36).isSome = true := by kernel_rfl
  obtain ⟨⟨-, a1, c1, rfl, p1, p2, -, -⟩, -⟩ := r
  have p3 : ls.length ≤ maxLen := Nat.le_trans p1 p2
  clear hs hi p1 p2
  by_cases hn : ls.length ≤ 1048576
  · go_enter Try.func7, Try.ntmps7
    go_wp2_with fail
    refine (szLifeS_any _ _ _ _ _ p3 (by decide) (by decide)).mono ?_
    rintro e w0 ⟨rfl, rfl⟩
    rw [if_neg (by omega)]
    have hge : ¬ (1048576 : Int) - ls.length < 0 := by omega
    go_wp2_with fail
    refine (toLifeS_any _ ls _ r' hn).mono ?_
    rintro e w1 ⟨g1, rfl, X1, own1⟩
    have r1 : RdL w1 (.slice (some ⟨g1, 0, none⟩) ls.length ls.length) ls := own1.rd r'.2
    clear own1
    go_wp2_with fail
    refine (HS.out _ _ r1).mono ?_
    rintro e w2 ⟨X2, h2⟩
    obtain ⟨b, c, rfl, hb⟩ : ∃ b c, e = .returned (.tuple #[.float .f32 b, .bool c]) ∧ Hid (cn .f32 b = o.getD (cn .f32 0) ∧ c = o.isSome) := by
      cases o with
      | none => exact ⟨0, false, h2, rfl, rfl⟩
      | some x => obtain ⟨b, rfl, h, _⟩ := h2; exact ⟨b, true, rfl, h, rfl⟩
    have X02 : Ext w w2 := X1.trans X2
    clear h2 r1
    go_wp2_with fail
    refine (toLifeS_any _ ls _ (r'.ext X02) hn).mono ?_
    rintro e w3 ⟨g3, rfl, X3, own3⟩
    have r3 : RdL w3 (.slice (some ⟨g3, 0, none⟩) ls.length ls.length) ls := own3.rd r'.2
    clear own3
    go_wp2_with fail
    refine (HI.out _ _ r3).mono ?_
    rintro e w4 ⟨X4, h4⟩
    obtain ⟨b', c', rfl, hb'⟩ : ∃ b c, e = .returned (.tuple #[.float .f32 b, .bool c]) ∧ Hid (cn .f32 b = o.getD (cn .f32 0) ∧ c = o.isSome) := by
      cases o with
      | none => exact ⟨0, false, h4, rfl, rfl⟩
      | some x => obtain ⟨b, rfl, h, _⟩ := h4; exact ⟨b, true, rfl, h, rfl⟩
    clear h4
    have hcc : c' = c := hb'.out.2.trans hb.out.2.symm
    subst hcc
    have Hbb : Hid (cn .f32 b' = cn .f32 b) := hb'.out.1.trans hb.out.1.symm
    have r4 := r3.ext X4
    have Y : Ext w w4 := X02.trans (X3.trans X4)
    clear hb hb' r3 X4
    go_wp2_with (first | (refine wpList_wide wa Try.underlying40 rfl rfl rfl ?_; intro zb zn hzb hzl; clear hzl; first | (have hsame := Lib.hid (wide_same Hbb.out hza.out hzb); clear hzb) | (have hza := Lib.hid hzb; clear hzb)))
    refine (sameFloat_any _ _ _ hsame.out).mono ?_
    rintro e w5 ⟨rfl, X5⟩
    replace X5 : Ext w4 w5 := (Ext.drewN _ _).trans X5
    replace r4 := r4.ext X5
    replace Y := Y.trans X5
    clear X5
    go_wp2_with fail
    refine (toLifeS_any _ ls _ (r'.ext Y) hn).mono ?_
    rintro e w6 ⟨g6, rfl, X6, own6⟩
    have r6 : RdL w6 (.slice (some ⟨g6, 0, none⟩) ls.length ls.length) ls := own6.rd r'.2
    replace r4 := r4.ext X6
    replace Y := Y.trans X6
    clear own6 X6
    go_wp2_with fail
    refine (eqLifeS_any _ _ ls ls _ r4 r6 rfl).mono ?_
    rintro e w7 ⟨rfl, X7⟩
    go_wp2_with fail
    go_ret
    exact ⟨rfl, Y.trans X7⟩
  · go_enter Try.func7, Try.ntmps7
    go_wp2_with fail
    refine (szLifeS_any _ _ _ _ _ p3 (by decide) (by decide)).mono ?_
    rintro e w0 ⟨rfl, rfl⟩
    rw [if_pos (by omega)]
    go_wp2_with fail
    go_ret
    exact ⟨rfl, Ext.refl _⟩

theorem survivorAt_walk (v1 v2 : Value) (w : World) (h : ArgLives w v1) (h2 : ArgF32 w v2) :
    Calls Try.prog 7 #[v1, v2] w fun e w' => e = .returned (.bool true) ∧ Ext w w' := by
  obtain ⟨a, n, cap, ls, rfl, r⟩ := h
  obtain ⟨t, rfl, ht⟩ := h2
  exact FnExactSurvivorAt_law _ ls t (surO ls (cn .f32 t)) w r (fun w v r => specSurvivorAt_any v ls t w r ht) (fun w v r => implSurvivorAt_any v ls t w r ht)
theorem fnExactSurvivorAt_own : ownKnob Try.prog.godebug = none := by kernel_rfl
theorem fnExactSurvivorAt_laid : laidOutB Try.prog = true := by kernel_rfl

set_option maxRecDepth 100000 in
theorem fnExactSurvivorAt_lifted (os : Os) (started : os.Started) (H : Type) (enc : TypeId × Value → H) :
    ReturnsInHanded {} Try.checked os 7 .any (Rows.fnExactSurvivorAtSpec.pre6 enc Try.prog Try.f7 Rows.fnExactSurvivorAtRow.domain false) (Rows.fnExactSurvivorAtSpec.post enc Try.prog Try.f7 false true false false) := by
  refine returnsInHanded_of_change (C := Try.checked) fnExactSurvivorAt_own started (by kernel_rfl) Try.func7
    (ChangeSpec.witness6 (enc := enc) (C := Try.checked) false ⟨#[], #[.slice none 0 0, .float .f32 0], []⟩ 8 (by kernel_rfl) (by kernel_rfl) (by kernel_rfl) (by kernel_rfl)) ?_
  intro W base args ds gs before hval0 hW hcnd _
  have hval : ∀ (j : Nat) t v, Try.f7.params[j]? = some t → args[j]? = some v → Value.okWide Try.prog W .any base t v := hval0
  have hW' := hW
  obtain ⟨p, q, hA0, hV, rfl, hfz, hnd⟩ := hW
  have hA : DataW.TrodAll enc Try.prog W 0 (fun _ => true) true Try.f7.params.toList args.toList ds p := hA0
  rw [Try.params7] at hA hval
  obtain ⟨v0, vs0, d0, ds0, p0, q0, hargs, rfl, rfl, h0, r0⟩ := trodAll_cons hA
  obtain ⟨v1, vs1, d1, ds1, p1, q1, rfl, rfl, rfl, h1, r1⟩ := trodAll_cons r0
  obtain ⟨rfl, rfl, rfl⟩ := trodAll_nil r1
  obtain rfl : args = #[v0, v1] := by cases args; simp_all
  obtain ⟨rfl, rfl⟩ := trodVars_none hV
  have lt0 : ∀ x ∈ p0, x.block < W.heap.size := by obtain ⟨m, hm⟩ := h0; exact DataW.trod_lt m _ _ _ hm
  have w0 := argLives Try.underlying22 Try.underlying80 (by kernel_rfl) (by kernel_rfl) Try.underlying36 Try.underlying4 (hval 0 22 v0 rfl rfl) h0
  have lt1 : ∀ x ∈ p1, x.block < W.heap.size := by obtain ⟨m, hm⟩ := h1; exact DataW.trod_lt m _ _ _ hm
  have w1 := argF32 Try.underlying36 (hval 1 36 v1 rfl rfl) h1
  clear hA0 hval0
  refine (survivorAt_walk v0 v1 W w0 w1).mono fun e W' ⟨he, bel⟩ => ?_
  subst he
  exact ⟨_, rfl, _, _, _, [], _, [], hW', trodAll_mk1 (shut_bool Try.underlying4 _), (trodAll_cons_mk (Below.trod fnExactSurvivorAt_laid (by kernel_rfl) (of_decide_eq_true (by kernel_rfl)) h0 bel lt0) (trodAll_cons_mk (Below.trod fnExactSurvivorAt_laid (by kernel_rfl) (of_decide_eq_true (by kernel_rfl)) h1 bel lt1) trodAll_mk0)), rfl, bel.below.frame _, fun h => by cases h⟩

theorem fnExactSurvivorAt_toL {s : String} {L : List Char} (h : s = String.ofList L) : s.toList = L := by rw [h]; exact String.toList_ofList
def fnExactSurvivorAt_enterF (P : Program) : { F : List Char → Bool // P.mayEnter = F P.initOrder.toList } :=
  ⟨_, by unfold Program.mayEnter; generalize P.initOrder.toList = l; exact rfl⟩
def fnExactSurvivorAt_liftsF (P : Program) : { F : List Char → Bool // P.liftsFinal = F P.initOrder.toList } :=
  ⟨_, by unfold Program.liftsFinal Program.headLifts; generalize P.initOrder.toList = l; exact rfl⟩
def fnExactSurvivorAt_makeF (P : Program) : { F : List Char → Option Make // P.make = F P.initOrder.toList } :=
  ⟨_, by unfold Program.make; generalize P.initOrder.toList = l; exact rfl⟩
set_option maxRecDepth 100000 in
theorem fnExactSurvivorAt_enter : Try.checked.prog.mayEnter = true :=
  ((fnExactSurvivorAt_enterF Try.checked.prog).2.trans (congrArg (fnExactSurvivorAt_enterF Try.checked.prog).1 (fnExactSurvivorAt_toL (rfl : Try.checked.prog.initOrder = String.ofList _)))).trans (by kernel_rfl)
set_option maxRecDepth 100000 in
theorem fnExactSurvivorAt_lifts : Try.checked.prog.liftsFinal = false :=
  ((fnExactSurvivorAt_liftsF Try.checked.prog).2.trans (congrArg (fnExactSurvivorAt_liftsF Try.checked.prog).1 (fnExactSurvivorAt_toL (rfl : Try.checked.prog.initOrder = String.ofList _)))).trans (by kernel_rfl)
set_option maxRecDepth 100000 in
theorem fnExactSurvivorAt_make : Try.checked.prog.make = some .cut :=
  ((fnExactSurvivorAt_makeF Try.checked.prog).2.trans (congrArg (fnExactSurvivorAt_makeF Try.checked.prog).1 (fnExactSurvivorAt_toL (rfl : Try.checked.prog.initOrder = String.ofList _)))).trans (by kernel_rfl)
set_option maxRecDepth 100000 in
theorem fnExactSurvivorAt_closed : joinedFacts Try.checked.prog 7 Try.f7 Rows.fnExactSurvivorAtSpec Rows.fnExactSurvivorAtRow = true := by
  unfold joinedFacts
  rw [fnExactSurvivorAt_enter, fnExactSurvivorAt_lifts, fnExactSurvivorAt_make]
  decide +kernel

theorem fnExactSurvivorAt_over : Rows.fnExactSurvivorAtRow.holds Try.pinned (OpenSpec.ofChange Rows.fnExactSurvivorAtSpec) :=
  OpenClaim.holds_of_wide 7 Try.f7 rfl rfl rfl rfl rfl rfl rfl ⟨rfl, rfl, rfl, rfl, rfl⟩ rfl rfl rfl rfl rfl (by kernel_rfl) Try.func7 fnExactSurvivorAt_closed
    (of_decide_eq_true (by kernel_rfl)) (by unfold Func.isWrapper; first | (rw [if_pos (by decide +kernel)]; kernel_rfl) | (rw [if_neg (by decide +kernel)]; exact ⟨rfl, rfl⟩))
    (fun os started H enc _ => fnExactSurvivorAt_lifted os started H enc)

/-- The statement. -/
theorem fnExactSurvivorAt_holds : Rows.FnExactSurvivorAtSaid := fnExactSurvivorAt_over

end Go.Proofs.Ytkkmhckhggggaaa
