
/- TreeCuts, both sides. Condition: lists of gates that can be read. -/
import Derived.Test.YtgmdoboeenpjpaaZx
import Derived.Test.YtgmdoboeenpjpaaZU
import Derived.Test.YtgmdoboeenpjpaaFF
import Derived.Test.YtgmdoboeenpjpaaVD
namespace Go.Proofs.Ytgmdoboeenpjpaa
open Go Go.RowKit Go.ChangeShapes Go.WideShapes Go.ChangeAt

attribute [local irreducible] LX

theorem bitB_nat {s : Nat} (hs : s < 1024) (k : Int) : bitB s k = s.testBit k.toNat := by
  unfold bitB
  rw [road_bit s _ hs]
  cases s.testBit k.toNat <;> rfl
theorem kidF_mono {s t : Nat} (hs : s < 1024) (ht : t < 1024) (h : hasB t s = true) {fs hs' : List Bool} (hf : ∀ i, fs.getD i false = true → hs'.getD i false = true) (x : Int) (hk : kidF s fs x = true) : kidF t hs' x = true := by
  unfold kidF at *
  split
  · rename_i h0
    rw [if_pos h0] at hk
    exact hf _ hk
  · rename_i h0
    rw [if_neg h0, bitB_nat hs] at hk
    rw [bitB_nat ht]
    exact hasB_bits.1 h _ hk
theorem gateF_mono {s t : Nat} (hs : s < 1024) (ht : t < 1024) (h : hasB t s = true) {fs hs' : List Bool} (hf : ∀ i, fs.getD i false = true → hs'.getD i false = true) (g : Gt) (hk : gateF s fs g = true) : gateF t hs' g = true := by
  unfold gateF at *
  rw [decide_eq_true_eq] at *
  have : countF s fs g.kids ≤ countF t hs' g.kids := by
    unfold countF
    rw [← List.countP_eq_length_filter, ← List.countP_eq_length_filter]
    exact List.countP_mono_left fun x _ hx => kidF_mono hs ht h hf x hx
  omega
theorem getD_set (l : List Bool) (k i : Nat) (b : Bool) : (l.set k b).getD i false = if k = i ∧ k < l.length then b else l.getD i false := by
  simp only [List.getD_eq_getElem?_getD, List.getElem?_set]
  by_cases e : k = i
  · subst e
    by_cases h : k < l.length
    · simp [h]
    · simp [h]
  · simp [e]
theorem failV_mono {s t : Nat} (hs : s < 1024) (ht : t < 1024) (h : hasB t s = true) (gs : List Gt) : ∀ j i, (failV gs s j).getD i false = true → (failV gs t j).getD i false = true
  | 0, i, hk => hk
  | j + 1, i, hk => by
    unfold failV at *
    rw [getD_set] at *
    rw [failV_len] at *
    split
    · rename_i h0
      rw [if_pos h0] at hk
      cases e : gs[gs.length - 1 - j]? with
      | none => rw [e] at hk; cases hk
      | some g =>
        rw [e] at hk
        simp only [Option.map_some, Option.getD_some] at hk ⊢
        exact gateF_mono hs ht h (failV_mono hs ht h gs j) g hk
    · rename_i h0
      rw [if_neg h0] at hk
      exact failV_mono hs ht h gs j i hk
/-- The top fails by a set below 1024. -/
def failN (gs : List Gt) (s : Nat) : Bool := failB gs s
theorem failN_mono {gs : List Gt} {s t : Nat} (hs : s < 1024) (ht : t < 1024) (h : hasB t s = true) (hf : failN gs s = true) : failN gs t = true := failV_mono hs ht h gs _ _ hf
theorem lowB_congr {p : Nat} {f g : Nat → Bool} {s : Nat} (h : ∀ x, x ≤ s → f x = g x) : lowB p f s = lowB p g s := by
  unfold lowB
  rw [h s (Nat.le_refl _)]
  have h2 : (fun b => !(s.testBit b) || !(f (s - 2 ^ b))) = (fun b => !(s.testBit b) || !(g (s - 2 ^ b))) := by
    funext b
    rw [h _ (Nat.sub_le _ _)]
  rw [h2]
/-- The same, and false beyond: so that more parts keep it everywhere below a bound. -/
theorem low_least' {p : Nat} {f : Nat → Bool} (hp : p ≤ 10) (hm : ∀ s t, s < 1024 → t < 1024 → hasB t s = true → f s = true → f t = true) : leastN ((List.range (2 ^ p)).filter f) = lowL p f := by
  have hN := (pow10N hp).2.2.2
  have h1 := low_least (p := p) (f := fun s => decide (1024 ≤ s) || f s) (by omega) (fun s t h hs => by
    by_cases ht : 1024 ≤ t
    · simp [ht]
    · have hle := hasB_le h
      have hs' : ¬ 1024 ≤ s := by omega
      simp only [hs', decide_false, Bool.false_or] at hs
      simp only [ht, decide_false, Bool.false_or]
      exact hm s t (by omega) (by omega) h hs)
  have e1 : (List.range (2 ^ p)).filter (fun s => decide (1024 ≤ s) || f s) = (List.range (2 ^ p)).filter f := by
    apply List.filter_congr
    intro s hs
    rw [List.mem_range] at hs
    have : ¬ 1024 ≤ s := by omega
    simp [this]
  have e2 : lowL p (fun s => decide (1024 ≤ s) || f s) = lowL p f := by
    unfold lowL
    apply List.filter_congr
    intro s hs
    rw [List.mem_range] at hs
    exact lowB_congr fun x hx => by rw [decide_eq_false (by omega)]; rfl
  rw [← e1, h1, e2]
def tcO (p : Int) (gs : List Gt) : Option (List Int) := if treeOk p gs then some (ups (lowL p.toNat (failN gs))) else none
theorem failN_dat {gs hs : List Gt} (e : gs.map Gt.dat = hs.map Gt.dat) : failN gs = failN hs := by funext s; exact failB_dat e
theorem tcO_dat {p : Int} {gs hs : List Gt} (e : gs.map Gt.dat = hs.map Gt.dat) : tcO p gs = tcO p hs := by unfold tcO; rw [treeOk_dat e, failN_dat e]
theorem tcO_len (p : Int) (gs : List Gt) : ((tcO p gs).getD []).length ≤ 1048576 := by
  unfold tcO
  split
  · rename_i h
    have hp := (treeOk_get h).1
    have := (pow10N (p := p.toNat) (by omega)).2.2.2
    simp only [Option.getD_some, ups_len]
    refine Nat.le_trans (List.length_filter_le _ _) ?_
    rw [List.length_range]; omega
  · simp

theorem treeCuts1_any (p : Int) (s : Nat) (v : Value) (gs : List Gt) (b : Nat) (w : World) (hc : w.cell? ⟨b, 0, none⟩ = some v) (r : RdG w v gs) (ht : treeOk p gs = true) (hs : s < 1024) :
    Calls Try.prog 83 #[.int .i64 s, .pointer (some ⟨b, 0, none⟩)] w fun e w' => e = .returned (.bool (failN gs s)) ∧ Ext w w' := by
  have r' := r
  obtain ⟨⟨-, a1, c1, rfl, -, -, -, -⟩, -⟩ := r
  go_enter Try.func83, Try.ntmps83
  go_wp2_with fail
  refine (fails_any p s _ gs _ r' ht (by omega) (by omega)).mono ?_
  rintro e w1 ⟨rfl, X⟩
  go_wp2_with fail
  go_ret
  exact ⟨rfl, X⟩
set_option maxHeartbeats 4000000 in
theorem implTreeCuts_any (p : Int) (v : Value) (gs : List Gt) (w : World) (r : RdG w v gs) (hn : gs.length ≤ 1048576) : Calls Try.prog 31 #[.int .i64 p, v] w (ZlPost (tcO p gs) w) := by
  have r' := r
  obtain ⟨⟨-, a1, c1, rfl, -, -, -, -⟩, -⟩ := r
  have b1 : Bx (w.alloc (.cells #[.slice a1 gs.length c1] 53)) w.heap.size [.slice a1 gs.length c1] := Bx.new _ _ _
  have X0 : Ext w (w.alloc (.cells #[.slice a1 gs.length c1] 53)) := Ext.alloc _ _
  have HV := Lib.hid (fun W (x : Ext w W) => implValidTree_any p _ gs W (r'.ext x) hn)
  cases hv : treeOk p gs
  · have HO : Hid (tcO p gs = none) := by show _ = _; unfold tcO; rw [hv]; rfl
    rw [hv] at HV
    clear hv
    have k1 := b1.one
    go_enter Try.func31, Try.ntmps31
    go_wp2_with fail
    refine (HV.out _ X0).mono ?_
    rintro e w1 ⟨rfl, hx⟩
    go_wp2_with fail
    go_ret2
    unfold ZlPost
    rw [HO.out]
    exact ⟨X0.trans hx, rfl⟩
  · have hp := (treeOk_get hv).1
    obtain ⟨m, hm⟩ : ∃ m, m = p.toNat := ⟨_, rfl⟩
    have hpm : p = (m : Int) := by omega
    have HO : Hid (tcO p gs = some (ups (lowL m (failN gs)))) := by show _ = _; unfold tcO; rw [hv, hm]; rfl
    rw [hv] at HV
    have hm10 : m ≤ 10 := by omega
    have hN := (pow10N hm10).2.2.2
    have HC := Lib.hid (fun W (x : Ext w W) (d1 : Bx W w.heap.size [.slice a1 gs.length c1]) => setsWhere_any m 83 #[.pointer (some ⟨w.heap.size, 0, none⟩)] (failN gs) W hm10 (enterOk Try.func83 (by kernel_rfl) rfl)
      (fun w' hx s hlt => treeCuts1_any p s _ gs _ w' (d1.ext hx).one (r'.ext (x.trans hx)) hv (by omega)))
    have hlow : leastN ((List.range (2 ^ m)).filter (failN gs)) = lowL m (failN gs) := low_least' hm10 fun s t h1 h2 h hf => failN_mono h1 h2 h hf
    have hlt : ∀ z ∈ (List.range (2 ^ m)).filter (failN gs), z < 1048577 := fun z hz => by rw [List.mem_filter, List.mem_range] at hz; omega
    have hle : ((List.range (2 ^ m)).filter (failN gs)).length ≤ 1048576 := Nat.le_trans (List.length_filter_le _ _) (by rw [List.length_range]; omega)
    have HL := Lib.hid (fun W g c (r : RdI W _ (ups ((List.range (2 ^ m)).filter (failN gs)))) => leastG_any g 0 c ((List.range (2 ^ m)).filter (failN gs)) W r hle hlt)
    rw [hlow] at HL
    subst hpm
    clear hv hp hm hlow hlt hle hN
    generalize (List.range (2 ^ m)).filter (failN gs) = xs at *
    generalize lowL m (failN gs) = cs at *
    have k1 := b1.one
    go_enter Try.func31, Try.ntmps31
    go_wp2_with fail
    refine (HV.out _ X0).mono ?_
    rintro e w1 ⟨rfl, hx⟩
    have X := X0.trans hx
    replace b1 := b1.ext hx
    clear hx k1
    have k1 := b1.one
    go_wp2_with fail
    refine (HC.out _ X b1).mono ?_
    rintro e w3 ⟨g, cap, rfl, hx, own⟩
    replace X := X.trans hx
    clear hx k1 b1
    go_wp2_with fail
    refine (HL.out _ _ _ own.rd).mono ?_
    rintro e w4 ⟨g2, cap2, rfl, hx, own2⟩
    have hz := X.size
    replace X := X.trans hx
    clear own hx
    go_wp2_with fail
    go_ret2
    unfold ZlPost
    rw [HO.out]
    refine ⟨X, g2, cap2, by rw [ups_len]; rfl, ?_⟩
    show World.ownsRow _ _ _ _ _ (ups cs).length _
    rw [ups_len]
    exact World.ownsRow.mono own2 hz
set_option maxRecDepth 100000 in
set_option maxHeartbeats 8000000 in
theorem specTreeCuts_any (p : Int) (v : Value) (gs : List Gt) (w : World) (r : RdG w v gs) (hn : gs.length ≤ 1048576) : Calls Try.prog 32 #[.int .i64 p, v] w (ZlPost (tcO p gs) w) := by
  have r' := r
  obtain ⟨⟨-, a1, c1, rfl, -, -, -, -⟩, -⟩ := r
  have HV := Lib.hid (l03Tree_any p _ gs w r' hn)
  cases hv : treeOk p gs
  · have HO : Hid (tcO p gs = none) := by show _ = _; unfold tcO; rw [hv]; rfl
    rw [hv] at HV
    clear hv
    go_enter Try.func32, Try.ntmps32
    go_wp2_with fail
    refine HV.out.mono ?_
    rintro e w1 ⟨rfl, rfl⟩
    go_wp2_with fail
    go_ret2
    unfold ZlPost
    rw [HO.out]
    exact ⟨Ext.refl _, rfl⟩
  · have hp := (treeOk_get hv).1
    obtain ⟨P, hP⟩ : ∃ m, m = p.toNat := ⟨_, rfl⟩
    have hpm : p = (P : Int) := by omega
    have HO : Hid (tcO p gs = some (ups (lowL P (failN gs)))) := by show _ = _; unfold tcO; rw [hv, hP]; rfl
    rw [hv] at HV
    have hp10 : P ≤ 10 := by omega
    obtain ⟨z1, z2, z3, z4⟩ := pow10N hp10
    have hP63 : (P : Int) < 64 := by omega
    have HW := Lib.hid (fun W (x : Ext w W) (s : Nat) (hlt : s < 1024) => l03Fails_any p s _ gs W (r'.ext x) hv (by omega) (by omega))
    have HFN : Hid (∀ s : Nat, failB gs s = failN gs s) := fun s => rfl
    have HDEF : Hid (∀ N, 2 ^ P = N → lowL P (failN gs) = (List.range N).filter (fun s => lowTo (failN gs) s P)) := fun N hN => by
      unfold lowL
      rw [hN]; rfl
    have HBIT : Hid (∀ s j : Nat, s.testBit j = true → 2 ^ j ≤ s) := fun s j hb => Nat.ge_two_pow_of_testBit hb
    have HP10 := Lib.hid (fun j (hj : j ≤ 10) => pow10N (p := j) hj)
    subst hpm
    clear hv hP hp
    generalize hff : failN gs = f at *
    clear hff
    have HJS := Lib.hid (lowTo_succ f)
    have HJ0 := Lib.hid (lowTo_zero f)
    generalize hN : 2 ^ P = N at *
    have HN := Lib.hid hN
    have HDEF2 := Lib.hid (HDEF.out N rfl)
    clear HDEF hN
    go_enter Try.func32, Try.ntmps32
    go_wp2_with fail
    refine HV.out.mono ?_
    rintro e w1 ⟨rfl, rfl⟩
    go_wp2_with fail
    go_loopw [7, 6] (fun i v wr => ∃ (k g cap : Nat) (xs : List Nat), k ≤ N ∧ i = .int .i64 k ∧ v = .slice (some ⟨g, 0, none⟩) xs.length cap ∧ xs.length ≤ k ∧ Hid (xs = (List.range k).filter fun s => lowTo f s P) ∧
        OwnS w.heap.size wr g cap xs ∧ Ext w wr) (fun i _ _ => N - (intOf i).toNat)
    case atStart => exact ⟨0, w.heap.size, 0, [], by omega, rfl, rfl, by simp, rfl, World.ownsRow_lit w #[] 0 (Nat.le_refl _) (by decide) rfl, Ext.alloc _ _⟩
    case round =>
      obtain ⟨s, g, cap, xs, hk, rfl, rfl, hxl, HXS, own, Y⟩ := hrel
      by_cases hlt : s < N
      · have HST := Lib.hid (range_filter_succ (fun s => lowTo f s P) s)
        have hki : (s : Int) < (N : Int) := by omega
        go_wp2_with fail
        refine (HW.out _ Y s (by omega)).mono ?_
        rintro e wj ⟨rfl, hx⟩
        rw [HFN.out]
        have H0 : Hid (lowTo f s 0 = f s) := HJ0.out s
        generalize f s = b0 at *
        replace own := own.ext hx
        replace Y := Y.trans hx
        clear hx
        go_wp2_with fail
        go_loopw [9, 8] (fun i b wq => ∃ j : Nat, j ≤ P ∧ i = .int .i64 j ∧ b = .bool (lowTo f s j) ∧ Ext wj wq) (fun i _ _ => P - (intOf i).toNat)
        case atStart => exact ⟨0, Nat.zero_le _, rfl, by rw [H0.out], Ext.refl _⟩
        case round =>
          obtain ⟨j, hj, rfl, rfl, Z⟩ := hrel
          cases hcut : lowTo f s j
          · have HNO : Hid (lowTo f s P = false) := lowTo_no hcut hj
            have HPF : Hid (lowTo f s P = false) := HNO.out
            replace own := own.ext Z
            replace Y := Y.trans Z
            clear hcut
            by_cases hjp : (j : Int) < (P : Int)
            all_goals
              go_wp2_with fail
              go_roundw
              case rel => exact ⟨s + 1, g, cap, xs, by omega, by go_num, rfl, by omega, by show _ = _; rw [HST.out, HPF.out, HXS.out]; simp, own, Y⟩
              case measure => simp [intOf]; omega
          · by_cases hjp : j < P
            · have hjpi : (j : Int) < (P : Int) := by omega
              obtain ⟨b1, b2', b3, b4⟩ := HP10.out j (by omega)
              have hj63 : (j : Int) < 64 := by omega
              obtain ⟨bt, hbt⟩ : ∃ bt : Nat, bt = 2 ^ j := ⟨_, rfl⟩
              rw [← hbt] at b3 b4
              have hand := bits_and s bt (by omega) (by omega)
              rw [hbt, and_two_pow, ← hbt] at hand
              have HSU : Hid (lowTo f s (j + 1) = (!(s.testBit j) || !(f (s - bt)))) := by show _ = _; rw [HJS.out, hcut, hbt, Bool.true_and]
              have HCU := Lib.hid hcut
              have hbt1 : 1 ≤ bt := by rw [hbt]; exact Nat.pow_pos (by decide)
              clear hcut
              cases hb : s.testBit j
              · rw [hb] at hand HSU
                have hand' : bits .and .i64 (s : Int) (bt : Int) = 0 := by rw [hand]; rfl
                clear hand hb hbt
                go_wp2_with fail
                try rw [b3]
                go_wp2_with fail
                go_roundw
                case rel => exact ⟨j + 1, by omega, by go_num, by rw [HSU.out]; rfl, Z⟩
                case measure => simp [intOf]; omega
              · rw [hb] at hand HSU
                have hble := HBIT.out s j hb
                rw [← hbt] at hble
                simp only [if_true] at hand
                have hbne : ¬ (bt : Int) = 0 := by omega
                obtain ⟨c1', hc1⟩ : ∃ c1', c1' = s - bt := ⟨_, rfl⟩
                have hsub1 : (s : Int) - (bt : Int) = (c1' : Int) := by omega
                have hcc1 : c1' < 1024 := by omega
                have HS2 : Hid (lowTo f s (j + 1) = !(f c1')) := by show _ = _; rw [HSU.out, hc1]; rfl
                clear hb hbt hc1 HSU
                go_wp2_with fail
                refine (HW.out _ (Y.trans Z) c1' hcc1).mono ?_
                rintro e w2 ⟨rfl, hx⟩
                rw [HFN.out]
                generalize f c1' = bb at *
                replace Z := Z.trans hx
                clear hx hsub1
                cases bb
                all_goals
                  go_wp2_with fail
                  go_roundw
                  case rel => exact ⟨j + 1, by omega, by go_num, by rw [HS2.out]; rfl, Z⟩
                  case measure => simp [intOf]; omega
            · obtain rfl : j = P := by omega
              have HPT : Hid (lowTo f s j = true) := hcut
              replace own := own.ext Z
              replace Y := Y.trans Z
              clear hcut
              go_wp2_with (at_builtin; refine wpList_push infoI64 rfl Try.underlying25 rfl rfl rfl (World.ownsRow.alloc (w := _) own _) rfl (Bx.new _ [_] _).one rfl (by omega) (by decide) (Y.trans (Ext.alloc _ _)).size ?_; intro g2 cap2 w4 hg2 own2 bel2 sz2)
              go_roundw
              case rel => exact ⟨s + 1, g2, cap2, xs ++ [s], by omega, by go_num, by simp, by simp; omega, by show _ = _; rw [HST.out, HPT.out, HXS.out]; simp, by unfold OwnS; rw [ups_append, List.map_append, List.length_append]; exact own2, bel2 _ (Y.trans (Ext.alloc _ _))⟩
              case measure => simp [intOf]; omega
      · obtain rfl : s = N := by omega
        have hki : ¬ (s : Int) < (s : Int) := by omega
        have HXE : Hid (xs = lowL P f) := by show _ = _; rw [HXS.out, HDEF2.out]
        go_wp2_with fail
        go_ret2
        unfold ZlPost
        rw [HO.out, ← HXE.out]
        refine ⟨Y, g, cap, by rw [ups_len]; rfl, ?_⟩
        show World.ownsRow _ _ _ _ _ (ups xs).length _
        rw [ups_len]
        exact own
end Go.Proofs.Ytgmdoboeenpjpaa
