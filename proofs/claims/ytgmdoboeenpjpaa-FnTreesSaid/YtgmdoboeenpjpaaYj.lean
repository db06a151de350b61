
/- Systems out of sets, the reference's functions: which sets a list has, its least sets. Condition: sets that are natural numbers below 1024. -/
import Derived.Test.YtgmdoboeenpjpaaYG
namespace Go.Proofs.Ytgmdoboeenpjpaa
open Go Go.RowKit Go.ChangeShapes Go.WideShapes Go.ChangeAt

attribute [local irreducible] LX

theorem RdN_slice {w : World} {v : Value} {ns : List Nat} (r : RdI w v (ups ns)) : ∃ a c, v = .slice a ns.length c ∧ ns.length ≤ c ∧ c ≤ 9223372036854775807 := by
  obtain ⟨-, a1, c1, rfl, p1, p2, -, -⟩ := r
  rw [ups_len] at *
  unfold maxLen at p2
  exact ⟨a1, c1, rfl, p1, by omega⟩
theorem RdN_at {w : World} {a : Option Addr} {cap n : Nat} {ns : List Nat} (h : RdI w (.slice a n cap) (ups ns)) {k : Nat} (hk : k < ns.length) :
    ∃ b off, a = some ⟨b, off, none⟩ ∧ b < w.heap.size ∧ w.cell? ⟨b, off + k, none⟩ = some (.int .i64 (ns[k] : Nat)) := by
  obtain ⟨b, o, e, h1, h2⟩ := h.at (k := k) (by rw [ups_len]; exact hk)
  refine ⟨b, o, e, h1, ?_⟩
  rw [h2]
  simp [ups]

set_option maxHeartbeats 1000000 in
theorem l00Has_any (v : Value) (ns : List Nat) (s : Nat) (w : World) (r : RdI w v (ups ns)) :
    Calls Try.prog 103 #[v, .int .i64 s] w fun e w' => e = .returned (.bool (ns.contains s)) ∧ Ext w w' := by
  have r' := r
  generalize hcc : ns.contains s = cc
  have HCC := Lib.hid hcc
  clear hcc
  obtain ⟨a1, c1, rfl, p1, p2⟩ := RdN_slice r
  have hlen : ns.length ≤ 9223372036854775807 := by omega
  clear p1 p2 r
  go_enter Try.func103, Try.ntmps103
  go_wp2_with fail
  go_loopw [5] (fun i wr => ∃ k : Nat, k ≤ ns.length ∧ i = .int .i64 k ∧ Hid (∀ j, (h : j < k) → (h' : j < ns.length) → ns[j] ≠ s) ∧ Ext w wr) (fun i _ => ns.length - (intOf i).toNat)
  case atStart => exact ⟨0, Nat.zero_le _, rfl, fun j h => absurd h (Nat.not_lt_zero _), Ext.refl _⟩
  case round =>
    obtain ⟨k, hk, rfl, HN, X⟩ := hrel
    by_cases hlt : k < ns.length
    · obtain ⟨b1, o1, rfl, hb1, hc1⟩ := RdN_at (r'.ext X) hlt
      have HX : Hid (ns[k] = ns[k]) := rfl
      by_cases he : ns[k] = s
      · have HT : Hid (cc = true) := HCC.out.symm.trans (contains_iff.2 (he ▸ List.getElem_mem hlt))
        have heI : ((ns[k] : Nat) : Int) = (s : Int) := by rw [he]
        generalize ns[k] = x at *
        clear he
        go_wp2_with fail
        go_ret
        exact ⟨ret_bool HT.out.symm, X⟩
      · have HE : Hid (ns[k] ≠ s) := he
        have heI : ¬ ((ns[k] : Nat) : Int) = (s : Int) := by omega
        obtain ⟨x, hx⟩ : ∃ x, x = ns[k] := ⟨_, rfl⟩
        rw [← hx] at hc1 heI
        clear he hx
        go_wp2_with fail
        go_roundw
        case rel =>
          refine ⟨k + 1, by omega, by go_num, fun j hj hj' => ?_, X⟩
          by_cases e : j = k
          · subst e; exact HE.out
          · exact HN.out j (by omega) hj'
        case measure => simp [intOf]; omega
    · have HF : Hid (cc = false) := by
        show _ = _
        rw [← HCC.out]
        cases hc : ns.contains s with
        | false => rfl
        | true =>
          obtain ⟨j, hj, e⟩ := List.getElem_of_mem (contains_iff.1 hc)
          exact absurd e (HN.out j (by omega) hj)
      go_wp2_with fail
      go_ret
      exact ⟨ret_bool HF.out.symm, X⟩
theorem l00Has_eq {v : Value} {ns : List Nat} {s : Nat} {c : Bool} (h : ns.contains s = c) (w : World) (r : RdI w v (ups ns)) :
    Calls Try.prog 103 #[v, .int .i64 s] w fun e w' => e = .returned (.bool c) ∧ Ext w w' := by subst h; exact l00Has_any v ns s w r

/-- A set of the least ones of a list. -/
def lsB (ns : List Nat) (s : Nat) : Bool := decide (1 ≤ s) && ns.contains s && ns.all fun p => !(p != s && hasB s p)
theorem leastS_def (ns : List Nat) : leastS ns = (List.range 1024).filter (lsB ns) := rfl
theorem range_filter_succ (p : Nat → Bool) (k : Nat) : (List.range (k + 1)).filter p = (List.range k).filter p ++ (if p k then [k] else []) := by
  rw [List.range_succ, List.filter_append]
  congr 1
  cases hp : p k <;> simp [hp]
theorem ups_append (a b : List Nat) : ups (a ++ b) = ups a ++ ups b := by simp [ups]

set_option maxRecDepth 100000 in
set_option maxHeartbeats 8000000 in
theorem l03Least_any (v : Value) (ns : List Nat) (w : World) (r : RdI w v (ups ns)) (hz : ns.length ≤ 1048576) (hb : ∀ n ∈ ns, n < 9223372036854775808) :
    Calls Try.prog 76 #[v] w fun e w' => ∃ g cap, e = .returned (.slice (some ⟨g, 0, none⟩) (leastS ns).length cap) ∧ Ext w w' ∧ OwnS w.heap.size w' g cap (leastS ns) := by
  have r' := r
  obtain ⟨a1, c1, rfl, p1, p2⟩ := RdN_slice r
  have HB := Lib.hid hb
  have HDEF := Lib.hid (leastS_def ns)
  clear p1 p2 r hb
  go_enter Try.func76, Try.ntmps76
  go_wp2_with fail
  go_loopw [4, 3] (fun i v wr => ∃ (k g cap : Nat) (xs : List Nat), k + 1 ≤ 1024 ∧ i = .int .i64 ((k : Int) + 1) ∧ v = .slice (some ⟨g, 0, none⟩) xs.length cap ∧ xs.length ≤ k ∧ Hid (xs = (List.range (k + 1)).filter (lsB ns)) ∧
      OwnS w.heap.size wr g cap xs ∧ Ext w wr) (fun i _ _ => 1024 - (intOf i).toNat)
  case atStart => exact ⟨0, w.heap.size, 0, [], by omega, rfl, rfl, Nat.le_refl _, rfl, World.ownsRow_lit w #[] 0 (Nat.le_refl _) (by decide) rfl, Ext.alloc _ _⟩
  case round =>
    obtain ⟨k, g, cap, xs, hk, rfl, rfl, hxl, HXS, own, X⟩ := hrel
    by_cases hlt : k + 1 < 1024
    · have hlti : (k : Int) + 1 < 1024 := by omega
      have hcast : ((k : Int) + 1) = ((k + 1 : Nat) : Int) := by omega
      have HST := Lib.hid (range_filter_succ (lsB ns) (k + 1))
      have HNX : Hid (((k : Int) + 1 + 1) = (((k + 1 : Nat) : Int) + 1)) := by show _ = _; omega
      rw [hcast]
      generalize hs : k + 1 = s at *
      have hs0 : 1 ≤ s := by omega
      have hs1 : s ≤ 1024 := by omega
      clear hcast hlti
      have hlti : (s : Int) < 1024 := by omega
      cases hc : ns.contains s
      · have HP : Hid (lsB ns s = false) := by show _ = _; unfold lsB; rw [hc, Bool.and_false, Bool.false_and]
        have HC := Lib.hid hc
        clear hc
        go_wp2_with fail
        refine (l00Has_eq HC.out _ (r'.ext X)).mono ?_
        rintro e w1 ⟨rfl, hx⟩
        go_wp2_with fail
        go_roundw
        case rel => exact ⟨s, g, cap, xs, by omega, by go_num, rfl, by omega, by show _ = _; rw [HST.out, HP.out, HXS.out]; simp, own.ext hx, X.trans hx⟩
        case measure => simp [intOf]; omega
      · have HC := Lib.hid hc
        clear hc
        go_wp2_with fail
        refine (l00Has_eq HC.out _ (r'.ext X)).mono ?_
        rintro e w1 ⟨rfl, hx⟩
        replace own := own.ext hx
        replace X := X.trans hx
        clear hx
        go_wp2_with fail
        go_loopw [18, 5] (fun i b wq => ∃ j : Nat, j ≤ ns.length ∧ i = .int .i64 j ∧ b = .bool ((ns.take j).all fun p => !(p != s && hasB s p)) ∧ Ext w1 wq) (fun i _ _ => ns.length - (intOf i).toNat)
        case atStart => exact ⟨0, Nat.zero_le _, rfl, rfl, Ext.refl _⟩
        case round =>
          obtain ⟨j, hj, rfl, rfl, Z⟩ := hrel
          by_cases hlt2 : j < ns.length
          · obtain ⟨b1, o1, rfl, hb1, hc1⟩ := RdN_at (r'.ext (X.trans Z)) hlt2
            have hxb := HB.out _ (List.getElem_mem hlt2)
            have HALL : Hid (((ns.take (j + 1)).all fun p => !(p != s && hasB s p)) = (((ns.take j).all fun p => !(p != s && hasB s p)) && !(ns[j] != s && hasB s ns[j]))) := by
              show _ = _
              rw [List.take_succ_eq_append_getElem hlt2, List.all_append]; simp
            have hji : (j : Int) < (ns.length : Int) := by omega
            generalize hx0 : ns[j] = x at *
            generalize hcur : ((ns.take j).all fun p => !(p != s && hasB s p)) = cur at *
            clear hx0 hcur
            by_cases hxs : x = s
            · have HV : Hid ((!(x != s && hasB s x)) = true) := by show _ = _; simp [hxs]
              have hxi : ((x : Int) != (s : Int)) = false := by simp [hxs]
              clear hxs
              go_wp2_with fail
              refine wp_region_rel 19 (fun _ _ => True) (fun _ _ _ => True) (by kernel_rfl) (by kernel_rfl) (by kernel_rfl) ?_
              dsimp only [List.take, List.drop, List.length]
              refine LX_det (.slice (some ⟨b1, o1, none⟩) ns.length c1) (by kernel_rfl) rfl (fun w' hx _ => ?_) ?_
              · go_simp
              refine LX_det (.int .i64 j) (by kernel_rfl) rfl (fun w' hx _ => ?_) ?_
              · go_simp
              refine LX_det (.pointer (some ⟨b1, o1 + j, none⟩)) (by kernel_rfl) rfl (fun w' hx _ => ?_) ?_
              · go_simp
              refine LX_det (.int .i64 x) (by kernel_rfl) rfl (fun w' hx _ => ?_) ?_
              · have m0 := (Below.cell hx (p := ⟨b1, o1 + j, none⟩) hb1).trans hc1
                go_simp
              refine LX_det (.int .i64 s) (by kernel_rfl) rfl (fun w' hx _ => ?_) ?_
              · go_simp
              refine LX_det (.bool false) (by kernel_rfl) rfl (fun w' hx _ => ?_) ?_
              · go_simp
              refine LX_det (.bool false) (by kernel_rfl) rfl (fun w' hx _ => ?_) ?_
              · go_simp
              iterate 11 refine LX_skip (by kernel_rfl) ?_
              refine LX_det (.bool false) (by kernel_rfl) rfl (fun w' hx _ => ?_) ?_
              · go_simp
              refine LX_nil fun w2 hx _ => ?_
              refine wpList_nil ?_
              simp only [Act.put, List.setIfInBounds_toArray, List.set_cons_succ, List.set_cons_zero]
              go_wp2_with fail
              go_roundw
              case rel => exact ⟨j + 1, by omega, by go_num, by rw [HALL.out, HV.out, Bool.and_true], Z.trans hx⟩
              case measure => simp [intOf]; omega
            · have hxi : ((x : Int) != (s : Int)) = true := by simp; omega
              have hz := bits_and x s hxb (by omega)
              have HV : Hid ((!(x != s && hasB s x)) = !(((x &&& s : Nat) : Int) == (x : Int))) := by
                show _ = _
                have h1 : (x != s) = true := by simpa using hxs
                rw [h1, Bool.true_and]; unfold hasB; congr 1; rw [Bool.eq_iff_iff]; simp; omega
              generalize hzz : ((x &&& s : Nat) : Int) = z at *
              clear hxs hzz
              cases hzx : z == (x : Int)
              all_goals
                have HZX := Lib.hid hzx
                go_wp2_with fail
                refine wp_region_rel 19 (fun _ _ => True) (fun _ _ _ => True) (by kernel_rfl) (by kernel_rfl) (by kernel_rfl) ?_
                dsimp only [List.take, List.drop, List.length]
                refine LX_det (.slice (some ⟨b1, o1, none⟩) ns.length c1) (by kernel_rfl) rfl (fun w' hx _ => ?_) ?_
                · go_simp
                refine LX_det (.int .i64 j) (by kernel_rfl) rfl (fun w' hx _ => ?_) ?_
                · go_simp
                refine LX_det (.pointer (some ⟨b1, o1 + j, none⟩)) (by kernel_rfl) rfl (fun w' hx _ => ?_) ?_
                · go_simp
                refine LX_det (.int .i64 x) (by kernel_rfl) rfl (fun w' hx _ => ?_) ?_
                · have m0 := (Below.cell hx (p := ⟨b1, o1 + j, none⟩) hb1).trans hc1
                  go_simp
                refine LX_det (.int .i64 s) (by kernel_rfl) rfl (fun w' hx _ => ?_) ?_
                · go_simp
                refine LX_det (.bool true) (by kernel_rfl) rfl (fun w' hx _ => ?_) ?_
                · go_simp
                refine LX_det (.bool true) (by kernel_rfl) rfl (fun w' hx _ => ?_) ?_
                · go_simp
                refine LX_det (.slice (some ⟨b1, o1, none⟩) ns.length c1) (by kernel_rfl) rfl (fun w' hx _ => ?_) ?_
                · go_simp
                refine LX_det (.int .i64 j) (by kernel_rfl) rfl (fun w' hx _ => ?_) ?_
                · go_simp
                refine LX_det (.pointer (some ⟨b1, o1 + j, none⟩)) (by kernel_rfl) rfl (fun w' hx _ => ?_) ?_
                · go_simp
                refine LX_det (.int .i64 x) (by kernel_rfl) rfl (fun w' hx _ => ?_) ?_
                · have m0 := (Below.cell hx (p := ⟨b1, o1 + j, none⟩) hb1).trans hc1
                  go_simp
                refine LX_det (.int .i64 s) (by kernel_rfl) rfl (fun w' hx _ => ?_) ?_
                · go_simp
                refine LX_det (.int .i64 z) (by kernel_rfl) rfl (fun w' hx _ => ?_) ?_
                · go_simp
                refine LX_det (.slice (some ⟨b1, o1, none⟩) ns.length c1) (by kernel_rfl) rfl (fun w' hx _ => ?_) ?_
                · go_simp
                refine LX_det (.int .i64 j) (by kernel_rfl) rfl (fun w' hx _ => ?_) ?_
                · go_simp
                refine LX_det (.pointer (some ⟨b1, o1 + j, none⟩)) (by kernel_rfl) rfl (fun w' hx _ => ?_) ?_
                · go_simp
                refine LX_det (.int .i64 x) (by kernel_rfl) rfl (fun w' hx _ => ?_) ?_
                · have m0 := (Below.cell hx (p := ⟨b1, o1 + j, none⟩) hb1).trans hc1
                  go_simp
              · skip
                refine LX_det (.bool false) (by kernel_rfl) rfl (fun w' hx _ => ?_) ?_
                · go_simp
                refine LX_det (.bool false) (by kernel_rfl) rfl (fun w' hx _ => ?_) ?_
                · go_simp
                refine LX_nil fun w2 hx _ => ?_
                refine wpList_nil ?_
                simp only [Act.put, List.setIfInBounds_toArray, List.set_cons_succ, List.set_cons_zero]
                clear hzx
                go_wp2_with fail
                go_roundw
                case rel => exact ⟨j + 1, by omega, by go_num, by rw [HALL.out, HV.out, HZX.out]; simp, Z.trans hx⟩
                case measure => simp [intOf]; omega
              · skip
                refine LX_det (.bool true) (by kernel_rfl) rfl (fun w' hx _ => ?_) ?_
                · go_simp
                refine LX_det (.bool true) (by kernel_rfl) rfl (fun w' hx _ => ?_) ?_
                · go_simp
                refine LX_nil fun w2 hx _ => ?_
                refine wpList_nil ?_
                simp only [Act.put, List.setIfInBounds_toArray, List.set_cons_succ, List.set_cons_zero]
                clear hzx
                go_wp2_with fail
                go_roundw
                case rel => exact ⟨j + 1, by omega, by go_num, by rw [HALL.out, HV.out, HZX.out]; simp, Z.trans hx⟩
                case measure => simp [intOf]; omega
          · obtain rfl : j = ns.length := by omega
            rw [List.take_length]
            have HP : Hid (lsB ns s = (ns.all fun p => !(p != s && hasB s p))) := by show _ = _; unfold lsB; rw [HC.out, decide_eq_true hs0]; rfl
            replace own := own.ext Z
            replace X := X.trans Z
            generalize hcur : (ns.all fun p => !(p != s && hasB s p)) = cur at *
            clear hcur
            cases cur
            · go_wp2_with fail
              go_roundw
              case rel => exact ⟨s, g, cap, xs, by omega, by go_num, rfl, by omega, by show _ = _; rw [HST.out, HP.out, HXS.out]; simp, own, X⟩
              case measure => simp [intOf]; omega
            · go_wp2_with (at_builtin; refine wpList_push infoI64 rfl Try.underlying25 rfl rfl rfl (World.ownsRow.alloc (w := _) own _) rfl (Bx.new _ [_] _).one rfl (by omega) (by decide) (X.trans (Ext.alloc _ _)).size ?_; intro g2 cap2 w4 hg2 own2 bel2 sz2)
              go_roundw
              case rel => exact ⟨s, g2, cap2, xs ++ [s], by omega, by go_num, by simp, by simp; omega, by show _ = _; rw [HST.out, HP.out, HXS.out]; simp, by unfold OwnS; rw [ups_append, List.map_append, List.length_append]; exact own2, bel2 _ (X.trans (Ext.alloc _ _))⟩
              case measure => simp [intOf]; omega
    · obtain rfl : k = 1023 := by omega
      have HE : Hid (xs = leastS ns) := by show _ = _; rw [HXS.out, HDEF.out]
      go_wp2_with fail
      go_ret
      rw [← HE.out]
      exact ⟨g, cap, rfl, X, own⟩
end Go.Proofs.Ytgmdoboeenpjpaa
