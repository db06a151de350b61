
/- How spares are split: what the program computes. No condition. -/
import Derived.Test.YtlbmjeennpccmaaNi
import Derived.Test.YtlbmjeennpccmaaTW
import Derived.Test.YtlbmjeennpccmaaDC
namespace Go.Proofs.Ytlbmjeennpccmaa
open Go Go.RowKit Go.ChangeShapes Go.WideShapes Go.ChangeAt

/-- A list of integers of the call's own and true; or nothing and false. -/
def IlPost (o : Option (List Int)) (w : World) (e : Ending) (w' : World) : Prop :=
  Ext w w' ∧ match o with
  | some zs => ∃ (g cap : Nat), e = .returned (.tuple #[.slice (some ⟨g, 0, none⟩) zs.length cap, .bool true]) ∧ w'.ownsRow w.heap.size 2 1 (.slice (some ⟨g, 0, none⟩) zs.length cap) zs.length (zs.map (Value.int .i64))
  | none => e = .returned (.tuple #[.slice none 0 0, .bool false])

def sp1 : Nat := cn .f32 1065353216
def spX (M o : List Nat) (i : Nat) : Nat := fop .sub .f32 sp1 (sumF (cn .f32 0) (needL (M.getD i 0) (o.getD i 0)))
/-- Which of the first i is served worst, and how badly. -/
def spBest (M o : List Nat) : Nat → Nat × Nat
  | 0 => (0, cn .f32 0)
  | i + 1 => if (decide (i = 0) || fcmp .gtr .f32 (spX M o i) (spBest M o i).2) = true then (i, spX M o i) else spBest M o i
def spState (M : List Nat) : Nat → List Nat
  | 0 => List.replicate M.length 0
  | k + 1 => (spState M k).set (spBest M (spState M k) M.length).1 ((spState M k).getD (spBest M (spState M k) M.length).1 0 + 1)
def spOk (M : List Nat) (t : Int) : Bool := inB M.length 1 8 && M.all meanB && inB t 0 32
def spO (M : List Nat) (t : Int) : Option (List Int) := if spOk M t then some ((spState M t.toNat).map fun (z : Nat) => (z : Int)) else none
theorem spState_len (M : List Nat) : ∀ k, (spState M k).length = M.length
  | 0 => by simp [spState]
  | k + 1 => by simp [spState, spState_len M k]
theorem spBest_lt (M o : List Nat) : ∀ i, (spBest M o i).1 < max 1 i
  | 0 => by simp [spBest]
  | i + 1 => by
    unfold spBest
    split
    · simp only; omega
    · have := spBest_lt M o i; omega
theorem spState_le (M : List Nat) : ∀ k i, (spState M k).getD i 0 ≤ k
  | 0, i => by
    simp only [spState, List.getD_eq_getElem?_getD, List.getElem?_replicate]
    split <;> simp
  | k + 1, i => by
    have ih := spState_le M k
    unfold spState
    by_cases h : (spBest M (spState M k) M.length).1 = i
    · subst h
      rw [List.getD_eq_getElem?_getD, List.getElem?_set]
      simp only [if_true]
      split
      · simp only [Option.getD_some]; have := ih (spBest M (spState M k) M.length).1; omega
      · simp
    · rw [List.getD_eq_getElem?_getD, List.getElem?_set, if_neg h, ← List.getD_eq_getElem?_getD]
      have := ih i; omega
theorem spO_n {M : List Nat} {t : Int} (h : ¬ (1 ≤ M.length ∧ M.length ≤ 8)) : spO M t = none := by
  have : inB M.length 1 8 = false := by rw [Bool.eq_false_iff]; intro h'; have := inB_iff.1 h'; omega
  simp [spO, spOk, this]
theorem spO_m {M : List Nat} {t : Int} (h : M.all meanB = false) : spO M t = none := by unfold spO spOk; rw [h, Bool.and_false]; rfl
theorem spO_t {M : List Nat} {t : Int} (h : inB t 0 32 = false) : spO M t = none := by unfold spO spOk; rw [h, Bool.and_false]; rfl
theorem spO_yes {M : List Nat} {t : Nat} (h1 : 1 ≤ M.length ∧ M.length ≤ 8) (h2 : M.all meanB = true) (h3 : inB t 0 32 = true) : spO M t = some ((spState M t).map fun (z : Nat) => (z : Int)) := by
  unfold spO spOk; rw [h2, h3, inB_true (by omega) (by omega)]; rfl
theorem ilPost_no {w w' : World} (X : Ext w w') : IlPost none w (.returned (.tuple #[.slice none 0 0, .bool false])) w' := ⟨X, rfl⟩
theorem ilPost_eq {o : Option (List Int)} {w w' : World} {e : Ending} (h : IlPost none w e w') (ho : o = none) : IlPost o w e w' := by subst ho; exact h

theorem spBest_yes {M o : List Nat} {i : Nat} (h : i = 0 ∨ fcmp .gtr .f32 (spX M o i) (spBest M o i).2 = true) : spBest M o (i + 1) = (i, spX M o i) := by
  unfold spBest
  rw [if_pos]
  rcases h with h | h
  · simp [h]
  · rw [h]; simp
theorem spBest_no {M o : List Nat} {i : Nat} (h0 : ¬ i = 0) (h : fcmp .gtr .f32 (spX M o i) (spBest M o i).2 = false) : spBest M o (i + 1) = spBest M o i := by
  conv => lhs; unfold spBest
  rw [if_neg]
  rw [h]; simp [h0]
def natV (z : Nat) : Value := .int .i64 (z : Int)
theorem natV_map (l : List Nat) : (l.map fun (z : Nat) => (z : Int)).map (Value.int .i64) = l.map natV := by rw [List.map_map]; rfl

theorem splitSpares_1 (b : Nat) (w : World) : Calls Try.prog 68 #[.float .f32 b] w fun e w' => e = .returned (.bool (!(meanB (cn .f32 b)))) ∧ Ext w w' := by
  go_enter Try.func68, Try.ntmps68
  go_wp2_with fail
  refine (isMean_any b _).mono ?_
  rintro e w1 ⟨rfl, rfl⟩
  generalize hz : meanB (cn .f32 b) = z
  go_wp2_with fail
  go_ret
  exact ⟨ret_bool (by rw [hz]), Ext.refl _⟩

set_option maxRecDepth 100000 in
set_option maxHeartbeats 4000000 in
theorem implSplit_any (v : Value) (bs : List Nat) (t : Int) (w : World) (r : RdF w v bs) :
    Calls Try.prog 27 #[v, .int .i64 t] w (IlPost (spO (bs.map (cn .f32)) t) w) := by
  have r' := r
  obtain ⟨⟨-, a1, c1, rfl, p1, p2, -, -⟩, -⟩ := r
  have p3 : bs.length ≤ maxLen := Nat.le_trans p1 p2
  clear p1 p2
  unfold maxLen at p3
  have HC := Lib.hid (containsFuncF_any 68 #[] (fun x => !(meanB x)) _ bs w r' (enterOk Try.func68 (by kernel_rfl) rfl) (fun w' _ b _ => splitSpares_1 b w'))
  have HA := Lib.hid (all_any meanB (bs.map (cn .f32)))
  generalize hany : ((bs.map (cn .f32)).any fun x => !(meanB x)) = z at HC HA
  clear hany
  obtain ⟨i0, hi0, hz0, hz1, hz2⟩ := info_parts infoI64
  go_enter Try.func27, Try.ntmps27
  go_wp2_with (first | (go_at_call 67; refine HC.out.mono ?_; rintro e w' ⟨rfl, X⟩) | (go_at_call 62; refine (within_any _ _ _ _).mono ?_; rintro e w' ⟨rfl, rfl⟩) | (at_make; refine wpList_make_full _ rfl _ _ 48 rfl w.heap.size 2 i0 (.int .i64 0) 1 Try.underlying48 hi0 hz0 hz1 _ _ _ _ bs.length rfl rfl rfl rfl ?c1 ?c2 ?c3 ?_))
  case c1 => rw [hz2]; omega
  case c2 => unfold maxLen; omega
  case c3 => exact X.size
  any_goals
    go_ret2
    refine ilPost_eq (ilPost_no (by first | exact Ext.refl _ | assumption)) ?_
    first
      | exact spO_n (by rw [List.length_map]; omega)
      | (refine spO_m ?_
         rw [← HA.out]
         simp [*]
         done)
      | (refine spO_t ?_
         have h : ((bs.length : Int) < 1 ∨ 8 < (bs.length : Int)) ∨ (!inB t 0 32) = true := by assumption
         rcases h with h | h
         · exact absurd h (by omega)
         · simpa using h)
  have ht : inB t 0 32 = true := by
    have h : (1 ≤ (bs.length : Int) ∧ (bs.length : Int) ≤ 8) ∧ (!inB t 0 32) = false := by assumption
    simpa using h.2
  have ht0 := inB_iff.1 ht
  have hall : (bs.map (cn .f32)).all meanB = true := by rw [← HA.out]; simp only [*, Bool.not_false]
  have m1 : 1 ≤ bs.length := by omega
  have m8 : bs.length ≤ 8 := by omega
  clear HC HA ‹(1 ≤ (bs.length : Int) ∧ (bs.length : Int) ≤ 8) ∧ (!inB t 0 32) = false› ‹¬ z = true›
  obtain ⟨n, rfl⟩ := Int.eq_ofNat_of_zero_le ht0.1
  have HO := Lib.hid (spO_yes (M := bs.map (cn .f32)) (t := n) (by rw [List.length_map]; omega) hall ht)
  have HALL := Lib.hid hall
  have n32 : n ≤ 32 := by omega
  clear ht hall ht0
  intro w1 hown hg
  have X1 : Ext w w1 := X.grown hg X.size (fun _ h => by cases h)
  rw [toList_madeCells_one] at hown
  have own0 : w1.ownsRow w.heap.size 2 1 (.slice (some ⟨w'.heap.size, 0, none⟩) bs.length bs.length) bs.length ((spState (bs.map (cn .f32)) 0).map natV) := by
    simpa [spState, natV] using hown
  have hwB := X.size
  generalize w'.heap.size = B at *
  clear hown hg X hz0 hz1 hz2 hi0
  go_wp2
  go_loopw [35] (fun i wr => ∃ k : Nat, k ≤ n ∧ i = .int .i64 k ∧ wr.ownsRow w.heap.size 2 1 (.slice (some ⟨B, 0, none⟩) bs.length bs.length) bs.length ((spState (bs.map (cn .f32)) k).map natV) ∧ Ext w wr) (fun i _ => n - (intOf i).toNat)
  case atStart => exact ⟨0, Nat.zero_le _, rfl, own0, X1⟩
  case round =>
    clear own0 X1
    obtain ⟨k, hk, rfl, own, X⟩ := hrel
    have hol := spState_len (bs.map (cn .f32)) k
    rw [List.length_map] at hol
    by_cases hlt : k < n
    · have HLE := Lib.hid (spState_le (bs.map (cn .f32)) k)
      have HBL := Lib.hid (spBest_lt (bs.map (cn .f32)) (spState (bs.map (cn .f32)) k))
      have HST : Hid (spState (bs.map (cn .f32)) (k + 1) = (spState (bs.map (cn .f32)) k).set (spBest (bs.map (cn .f32)) (spState (bs.map (cn .f32)) k) bs.length).1 ((spState (bs.map (cn .f32)) k).getD (spBest (bs.map (cn .f32)) (spState (bs.map (cn .f32)) k) bs.length).1 0 + 1)) := by
        show _ = _; conv => lhs; unfold spState
        rw [List.length_map]
      generalize spState (bs.map (cn .f32)) k = o at *
      go_wp2_with fail
      go_loopw [39, 7, 8] (fun i b m wq => ∃ (j bb mb : Nat), j ≤ bs.length ∧ i = .int .i64 j ∧ b = .int .i64 bb ∧ m = .float .f32 mb ∧ Hid (bb = (spBest (bs.map (cn .f32)) o j).1) ∧ Hid (cn .f32 mb = (spBest (bs.map (cn .f32)) o j).2) ∧ Ext wr wq) (fun i _ _ _ => bs.length - (intOf i).toNat)
      case atStart => exact ⟨0, 0, 0, Nat.zero_le _, rfl, rfl, rfl, rfl, rfl, Ext.refl _⟩
      case round =>
        obtain ⟨j, bb, mb, hj, rfl, rfl, rfl, Hbb, Hmb, X2⟩ := hrel
        by_cases hlt2 : j < bs.length
        · obtain ⟨b1, o1, rfl, hb1, hc1⟩ := ((r'.ext X).ext X2).at hlt2
          have own2 := own_ext own X2
          have hc2 := own2.cellAt j (by omega)
          rw [List.getElem?_map, List.getElem?_eq_getElem (by omega)] at hc2
          simp only [Option.map_some, natV] at hc2
          have hoj : o[j]'(by omega) = o.getD j 0 := by simp [show j < o.length by omega]
          rw [hoj] at hc2
          have hok := HLE.out j
          have hmj : meanB (cn .f32 bs[j]) = true := by
            have h := HALL.out
            rw [List.all_eq_true] at h
            exact h _ (List.mem_map_of_mem (List.getElem_mem hlt2))
          have hN : ∀ W, Calls Try.prog 23 #[.float .f32 bs[j], .int .i64 ((o.getD j 0 : Nat) : Int)] W (FlPost (some (needL (cn .f32 bs[j]) (o.getD j 0))) W) := by
            intro W
            have h := implNeedShares_any bs[j] ((o.getD j 0 : Nat) : Int) W
            have e : needO (cn .f32 bs[j]) ((o.getD j 0 : Nat) : Int) = some (needL (cn .f32 bs[j]) (o.getD j 0)) := by
              unfold needO; rw [hmj, inB_true (by omega) (by omega)]; rfl
            rw [e] at h; exact h
          have HN := Lib.hid hN
          have HXJ : Hid (spX (bs.map (cn .f32)) o j = fop .sub .f32 sp1 (sumF (cn .f32 0) (needL (cn .f32 bs[j]) (o.getD j 0)))) := by
            show _ = _; unfold spX; simp [hlt2]
          generalize o.getD j 0 = oj at *
          clear hN hmj hoj hok
          go_wp2_with fail
          refine (HN.out _).mono ?_
          rintro e w3 ⟨hx, g, cap, us, rfl, hu, hb, ow⟩
          have R : RdF w3 (.slice (some ⟨g, 0, none⟩) us.length cap) us := ⟨own_rd ow, hb⟩
          have HU := Lib.hid hu
          clear hu hb ow
          go_wp2_with fail
          refine (addUp_any _ us _ R).mono ?_
          rintro e w4 ⟨x, rfl, hx1, hx2, hx'⟩
          have HX1 := Lib.hid hx1
          have X3 := X2.trans (hx.trans hx')
          clear hx1 hx2 hx hx'
          by_cases hj0 : j = 0
          · have HB1 : Hid (spBest (bs.map (cn .f32)) o (j + 1) = (j, spX (bs.map (cn .f32)) o j)) := spBest_yes (.inl hj0)
            have q0 : ((j : Int) == 0) = true := by rw [beq_iff_eq]; omega
            clear hj0
            go_wp2_with (first | (refine wpList_fop rfl rfl rfl rfl rfl ?_; intro fb nf hfb hfl; replace hfb := Lib.hid hfb; replace hfl := Lib.hid hfl))
            have hfx : Hid (cn .f32 fb = spX (bs.map (cn .f32)) o j) := by
              show _ = _; rw [HXJ.out, hfb.out, HX1.out, HU.out]; rfl
            go_roundw
            case rel => exact ⟨j + 1, j, fb, by omega, by go_num, rfl, rfl, by show _ = _; rw [HB1.out], by rw [HB1.out]; exact hfx.out, X3.trans (Ext.drewN _ _)⟩
            case measure => simp [intOf]; omega
          · have q0 : ((j : Int) == 0) = false := by rw [beq_eq_false_iff_ne]; omega
            cases hgt : fcmp .gtr .f32 (spX (bs.map (cn .f32)) o j) (spBest (bs.map (cn .f32)) o j).2
            · have HB1 : Hid (spBest (bs.map (cn .f32)) o (j + 1) = spBest (bs.map (cn .f32)) o j) := spBest_no hj0 hgt
              have HG := Lib.hid hgt
              clear hgt hj0
              go_wp2_with (first | (refine wpList_fop rfl rfl rfl rfl rfl ?_; intro fb nf hfb hfl; replace hfb := Lib.hid hfb; replace hfl := Lib.hid hfl) | (refine wpList_fcmp (c := false) rfl rfl rfl rfl rfl (by rw [hfb.out, Hmb.out, HX1.out, HU.out]; have h := HG.out; rw [HXJ.out] at h; exact h) ?_))
              go_roundw
              case rel => exact ⟨j + 1, bb, mb, by omega, by go_num, rfl, rfl, by rw [HB1.out]; exact Hbb.out, by rw [HB1.out]; exact Hmb.out, X3.trans (Ext.drewN _ _)⟩
              case measure => simp [intOf]; omega
            · have HB1 : Hid (spBest (bs.map (cn .f32)) o (j + 1) = (j, spX (bs.map (cn .f32)) o j)) := spBest_yes (.inr hgt)
              have HG := Lib.hid hgt
              clear hgt hj0
              go_wp2_with (first | (refine wpList_fop rfl rfl rfl rfl rfl ?_; intro fb nf hfb hfl; replace hfb := Lib.hid hfb; replace hfl := Lib.hid hfl) | (refine wpList_fcmp (c := true) rfl rfl rfl rfl rfl (by rw [hfb.out, Hmb.out, HX1.out, HU.out]; have h := HG.out; rw [HXJ.out] at h; exact h) ?_))
              have hfx : Hid (cn .f32 fb = spX (bs.map (cn .f32)) o j) := by
                show _ = _; rw [HXJ.out, hfb.out, HX1.out, HU.out]; rfl
              go_roundw
              case rel => exact ⟨j + 1, j, fb, by omega, by go_num, rfl, rfl, by show _ = _; rw [HB1.out], by rw [HB1.out]; exact hfx.out, X3.trans (Ext.drewN _ _)⟩
              case measure => simp [intOf]; omega
        · obtain rfl : j = bs.length := by omega
          have own2 := own_ext own X2
          have hbl := HBL.out bs.length
          have hbb : bb < bs.length := by have := Hbb.out; omega
          have hc2 := own2.cellAt bb (by omega)
          rw [List.getElem?_map, List.getElem?_eq_getElem (by omega)] at hc2
          simp only [Option.map_some, natV] at hc2
          have hob : o[bb]'(by omega) = o.getD bb 0 := by simp [show bb < o.length by omega]
          rw [hob] at hc2
          have hle := HLE.out bb
          have hf2 := own2.frozenAt bb
          have HSB : Hid (spState (bs.map (cn .f32)) (k + 1) = o.set bb (o.getD bb 0 + 1)) := by show _ = _; rw [HST.out, ← Hbb.out]
          generalize o.getD bb 0 = ob at *
          clear hbl hob
          go_wp2_with fail
          go_roundw
          case rel =>
            refine ⟨k + 1, by omega, by go_num, ?_, Below.setCell (X.trans X2) hwB _⟩
            have h := (own2.stored bb (natV (ob + 1))).1
            rw [← List.map_set, ← HSB.out] at h
            exact h
          case measure => simp [intOf]; omega
    · obtain rfl : k = n := by omega
      go_wp2_with fail
      go_ret2
      rw [HO.out]
      refine ⟨X, B, bs.length, ?_, ?_⟩
      · simp [hol]
      · rw [natV_map, List.length_map, hol]; exact own
end Go.Proofs.Ytlbmjeennpccmaa
