
/- WorkingCounts, both sides. Condition: lists of ints that can be read. -/
import Derived.Test.YtgmdoboeenpjpaaYs
namespace Go.Proofs.Ytgmdoboeenpjpaa
open Go Go.RowKit Go.ChangeShapes Go.WideShapes Go.ChangeAt

attribute [local irreducible] LX

/-- How many sets of a list have so many parts, for each number of parts up to p. -/
def cntL (p : Nat) (xs : List Nat) : List Int := (List.range (p + 1)).map fun j => ((xs.countP (fun s => pop s == j) : Nat) : Int)
theorem cntL_len (p : Nat) (xs : List Nat) : (cntL p xs).length = p + 1 := by simp [cntL]
theorem cntL_nil (p : Nat) : cntL p [] = List.replicate (p + 1) 0 := by
  unfold cntL
  apply List.ext_getElem
  · simp
  · intro i h1 h2; simp
theorem cntL_get (p : Nat) (xs : List Nat) (j : Nat) (h : j < p + 1) : (cntL p xs)[j]'(by rw [cntL_len]; exact h) = ((xs.countP (fun s => pop s == j) : Nat) : Int) := by simp [cntL]
theorem cntL_snoc (p : Nat) (xs : List Nat) (s : Nat) (h : pop s < p + 1) : cntL p (xs ++ [s]) = (cntL p xs).set (pop s) ((cntL p xs)[pop s]'(by rw [cntL_len]; exact h) + 1) := by
  apply List.ext_getElem
  · rw [List.length_set, cntL_len, cntL_len]
  · intro i h1 h2
    rw [cntL_len] at h1
    rw [cntL_get _ _ _ h1, List.getElem_set, List.countP_append]
    by_cases e : pop s = i
    · rw [if_pos e, cntL_get _ _ _ h]; subst e; simp
    · rw [if_neg e, cntL_get _ _ _ h1]; simp [e]
theorem cntL_small (p : Nat) (xs : List Nat) (j : Nat) (h : j < p + 1) : 0 ≤ (cntL p xs)[j]'(by rw [cntL_len]; exact h) ∧ (cntL p xs)[j]'(by rw [cntL_len]; exact h) ≤ xs.length := by
  rw [cntL_get _ _ _ h]
  have := List.countP_le_length (p := fun s => pop s == j) (l := xs)
  omega
theorem pop_lt {p s : Nat} (hp : p ≤ 10) (hs : s < 2 ^ p) : pop s < p + 1 := Nat.lt_succ_of_le (pop_le s p hs (by omega))

/-- A method of a value that says of each set below N whether something holds. -/
def PredB (fn : FuncId) (rv : Value) (P : Nat → Bool) (N : Nat) (w : World) : Prop :=
  ∀ w', Ext w w' → ∀ s : Nat, s < N → Calls Try.prog fn #[rv, .int .i64 s] w' fun e w'' => e = .returned (.bool (P s)) ∧ Ext w' w''

set_option maxHeartbeats 2000000 in
theorem setsWhereB_any (p : Nat) (fn : FuncId) (rv : Value) (P : Nat → Bool) (w : World) (hp : p ≤ 10) (hen : EnterOk Try.prog fn) (hP : PredB fn rv P (2 ^ p) w) :
    Calls Try.prog 70 #[.int .i64 p, .func (.func fn) #[rv] #[]] w fun e w' => ∃ g cap, e = .returned (.slice (some ⟨g, 0, none⟩) ((List.range (2 ^ p)).filter P).length cap) ∧ Ext w w' ∧
      OwnS w.heap.size w' g cap ((List.range (2 ^ p)).filter P) := by
  have hent : ∀ args w, (callFunc fn args).run Try.prog w = .ok (.enter fn args) w := hen
  have HP := Lib.hid hP
  obtain ⟨q1, q2, q3, q4⟩ := pow10N hp
  clear hP hen
  generalize hN : 2 ^ p = N at *
  have HN := Lib.hid hN
  clear hN
  go_enter Try.func70, Try.ntmps70
  go_wp2_with fail
  go_loopw [10, 5] (fun i v wr => ∃ (k g cap : Nat) (xs : List Nat), k ≤ N ∧ i = .int .i64 k ∧ v = .slice (some ⟨g, 0, none⟩) xs.length cap ∧ xs.length ≤ k ∧ Hid (xs = (List.range k).filter P) ∧
      OwnS w.heap.size wr g cap xs ∧ Ext w wr) (fun i _ _ => N - (intOf i).toNat)
  case atStart => exact ⟨0, w.heap.size, 0, [], Nat.zero_le _, rfl, rfl, Nat.le_refl _, rfl, World.ownsRow_lit w #[] 0 (Nat.le_refl _) (by decide) rfl, Ext.alloc _ _⟩
  case round =>
    obtain ⟨k, g, cap, xs, hk, rfl, rfl, hxl, HXS, own, X⟩ := hrel
    by_cases hlt : k < N
    · have HST := Lib.hid (range_filter_succ P k)
      have hki : (k : Int) < (2 : Int) ^ p := by rw [q3]; omega
      go_wp2_with fail
      refine (HP.out _ X k hlt).mono ?_
      rintro e w1 ⟨rfl, hx⟩
      replace own := own.ext hx
      replace X := X.trans hx
      clear hx
      cases hpk : P k
      · have HK := Lib.hid hpk
        clear hpk
        go_wp2_with fail
        go_roundw
        case rel => exact ⟨k + 1, g, cap, xs, by omega, by go_num, rfl, by omega, by show _ = _; rw [HST.out, HK.out, HXS.out]; simp, own, X⟩
        case measure => simp [intOf]; omega
      · have HK := Lib.hid hpk
        clear hpk
        go_wp2_with (at_builtin; refine wpList_push infoI64 rfl Try.underlying25 rfl rfl rfl (World.ownsRow.alloc (w := _) own _) rfl (Bx.new _ [_] _).one rfl (by omega) (by decide) (X.trans (Ext.alloc _ _)).size ?_; intro g2 cap2 w4 hg2 own2 bel2 sz2)
        go_roundw
        case rel => exact ⟨k + 1, g2, cap2, xs ++ [k], by omega, by go_num, by simp, by simp; omega, by show _ = _; rw [HST.out, HK.out, HXS.out]; simp, by unfold OwnS; rw [ups_append, List.map_append, List.length_append]; exact own2, bel2 _ (X.trans (Ext.alloc _ _))⟩
        case measure => simp [intOf]; omega
    · obtain rfl : k = N := by omega
      have hki : ¬ (k : Int) < (2 : Int) ^ p := by rw [q3]; omega
      go_wp2_with fail
      go_ret
      rw [← HXS.out]
      exact ⟨g, cap, rfl, X, own⟩

attribute [local irreducible] pop cntL

set_option maxHeartbeats 4000000 in
theorem countSets_any (p : Nat) (fn : FuncId) (lb : Array Value) (P : Nat → Bool) (w : World) (hp : p ≤ 10) (hen : EnterOk Try.prog fn) (hP : PredN fn lb P (2 ^ p) w) :
    Calls Try.prog 73 #[.int .i64 p, .func (.func fn) #[] lb] w fun e w' => ∃ g cap, e = .returned (.slice (some ⟨g, 0, none⟩) (p + 1) cap) ∧ Ext w w' ∧
      w'.ownsRow w.heap.size 2 1 (.slice (some ⟨g, 0, none⟩) (p + 1) cap) (p + 1) ((cntL p ((List.range (2 ^ p)).filter P)).map (Value.int .i64)) := by
  have HS := Lib.hid (fun W (x : Ext w W) => setsWhere_any p fn lb P W hp hen (fun w' hx s hs => hP w' (x.trans hx) s hs))
  obtain ⟨i0, hi0, hz0, hz1, hz2⟩ := info_parts infoI64
  have HX : Hid (∀ s ∈ (List.range (2 ^ p)).filter P, s < 2 ^ p) := fun s hs => by rw [List.mem_filter, List.mem_range] at hs; exact hs.1
  have hle : ((List.range (2 ^ p)).filter P).length ≤ 1024 := Nat.le_trans (List.length_filter_le _ _) (by rw [List.length_range]; exact (pow10N hp).2.2.2)
  generalize (List.range (2 ^ p)).filter P = xs at *
  have HPP := Lib.hid (fun s (hs : s ∈ xs) => pop_lt hp (HX.out s hs))
  have HS10 : Hid (∀ s ∈ xs, s < 1024) := fun s hs => Nat.lt_of_lt_of_le (HX.out s hs) (pow10N hp).2.2.2
  clear hP hen
  go_enter Try.func73, Try.ntmps73
  go_wp2_with (at_make; refine wpList_make_full _ rfl _ _ 25 rfl w.heap.size 2 i0 (.int .i64 0) 1 Try.underlying25 hi0 hz0 hz1 _ _ _ _ (p + 1) rfl rfl rfl rfl ?c1 ?c2 ?c3 ?_)
  case c1 => rw [hz2]; omega
  case c2 => unfold maxLen; omega
  case c3 => exact Nat.le_refl _
  intro w1 hown hg
  have X1 : Ext w w1 := (Ext.refl w).grown hg (Nat.le_refl _) (fun _ h => by cases h)
  rw [toList_madeCells_one] at hown
  have own0 : w1.ownsRow w.heap.size 2 1 (.slice (some ⟨w.heap.size, 0, none⟩) (p + 1) (p + 1)) (p + 1) ((cntL p []).map (Value.int .i64)) := by
    rw [cntL_nil]; simpa using hown
  clear hown hg hi0 hz0 hz1 hz2
  go_wp2_with fail
  refine (HS.out _ X1).mono ?_
  rintro e w2 ⟨g1, cap1, rfl, hx, ownx⟩
  have own2 := own_ext' own0 hx
  have hgl := ownx.lt g1 rfl
  have hg0 := (own0.lt _ rfl).2
  have X2 := X1.trans hx
  clear own0 hx X1
  go_wp2_with fail
  go_loopw [15] (fun i wr => ∃ k : Nat, k ≤ xs.length ∧ i = .int .i64 k ∧ w2.grownBy wr (some w.heap.size) ∧
      wr.ownsRow w.heap.size 2 1 (.slice (some ⟨w.heap.size, 0, none⟩) (p + 1) (p + 1)) (p + 1) ((cntL p (xs.take k)).map (Value.int .i64))) (fun i _ => xs.length - (intOf i).toNat)
  case atStart => exact ⟨0, Nat.zero_le _, rfl, grownBy_refl _ _, own2⟩
  case round =>
    clear own2
    obtain ⟨k, hk, rfl, G, own⟩ := hrel
    by_cases hlt : k < xs.length
    · have ownx2 : OwnS w1.heap.size wr g1 cap1 xs := World.ownsRow.kept ownx G (.inr fun he => by simp [Value.ownBlock] at he; omega)
      obtain ⟨b1, o1, e1, hb1, hc1⟩ := RdN_at ownx2.rd hlt
      cases e1
      rw [Nat.zero_add] at hc1
      have hpp := HPP.out _ (List.getElem_mem hlt)
      have hs10 := HS10.out _ (List.getElem_mem hlt)
      have HC := Lib.hid (cntL_snoc p (xs.take k) xs[k] hpp)
      have hsm := cntL_small p (xs.take k) (pop xs[k]) hpp
      have htk : Hid (xs.take (k + 1) = xs.take k ++ [xs[k]]) := List.take_succ_eq_append_getElem hlt
      have hlk : (xs.take k).length ≤ 1024 := by rw [List.length_take]; omega
      have hcc := own.cellAt (pop xs[k]) (by omega)
      have hff := own.frozenAt (pop xs[k])
      rw [List.getElem?_map, List.getElem?_eq_getElem (by rw [cntL_len]; exact hpp)] at hcc
      simp only [Option.map_some] at hcc
      have hst := Lib.hid (fun u => World.ownsRow.stored own (pop xs[k]) u)
      have HSZ := Lib.hid (fun W => sizeOf_any xs[k] W hs10)
      generalize (cntL p (xs.take k))[pop xs[k]]'(by rw [cntL_len]; exact hpp) = y at *
      obtain ⟨n, hn⟩ : ∃ n, n = pop xs[k] := ⟨_, rfl⟩
      rw [← hn] at hcc hff hst HSZ hpp HC
      obtain ⟨x, hx⟩ : ∃ x, x = xs[k] := ⟨_, rfl⟩
      rw [← hx] at hc1 HSZ htk HC
      clear hn hx hs10
      have hn1 : (n : Int) < (p : Int) + 1 := by omega
      have hn2 : (n : Int) < ((p + 1 : Nat) : Int) := by omega
      go_wp2_with fail
      refine (HSZ.out _).mono ?_
      rintro e w3 ⟨rfl, rfl⟩
      go_wp2_with fail
      go_roundw
      case rel =>
        refine ⟨k + 1, by omega, by go_num, G.trans (grownBy_setCell _ _ _ _), ?_⟩
        rw [htk.out, HC.out, List.map_set]
        exact (hst.out _).1
      case measure => simp [intOf]; omega
    · obtain rfl : k = xs.length := by omega
      rw [List.take_length] at own
      go_wp2_with fail
      go_ret
      exact ⟨w.heap.size, p + 1, rfl, Below.trans X2 (grown_ext G (Nat.le_refl _) X2.size), own⟩

set_option maxHeartbeats 4000000 in
theorem countSetsB_any (p : Nat) (fn : FuncId) (rv : Value) (P : Nat → Bool) (w : World) (hp : p ≤ 10) (hen : EnterOk Try.prog fn) (hP : PredB fn rv P (2 ^ p) w) :
    Calls Try.prog 73 #[.int .i64 p, .func (.func fn) #[rv] #[]] w fun e w' => ∃ g cap, e = .returned (.slice (some ⟨g, 0, none⟩) (p + 1) cap) ∧ Ext w w' ∧
      w'.ownsRow w.heap.size 2 1 (.slice (some ⟨g, 0, none⟩) (p + 1) cap) (p + 1) ((cntL p ((List.range (2 ^ p)).filter P)).map (Value.int .i64)) := by
  have HS := Lib.hid (fun W (x : Ext w W) => setsWhereB_any p fn rv P W hp hen (fun w' hx s hs => hP w' (x.trans hx) s hs))
  obtain ⟨i0, hi0, hz0, hz1, hz2⟩ := info_parts infoI64
  have HX : Hid (∀ s ∈ (List.range (2 ^ p)).filter P, s < 2 ^ p) := fun s hs => by rw [List.mem_filter, List.mem_range] at hs; exact hs.1
  have hle : ((List.range (2 ^ p)).filter P).length ≤ 1024 := Nat.le_trans (List.length_filter_le _ _) (by rw [List.length_range]; exact (pow10N hp).2.2.2)
  generalize (List.range (2 ^ p)).filter P = xs at *
  have HPP := Lib.hid (fun s (hs : s ∈ xs) => pop_lt hp (HX.out s hs))
  have HS10 : Hid (∀ s ∈ xs, s < 1024) := fun s hs => Nat.lt_of_lt_of_le (HX.out s hs) (pow10N hp).2.2.2
  clear hP hen
  go_enter Try.func73, Try.ntmps73
  go_wp2_with (at_make; refine wpList_make_full _ rfl _ _ 25 rfl w.heap.size 2 i0 (.int .i64 0) 1 Try.underlying25 hi0 hz0 hz1 _ _ _ _ (p + 1) rfl rfl rfl rfl ?c1 ?c2 ?c3 ?_)
  case c1 => rw [hz2]; omega
  case c2 => unfold maxLen; omega
  case c3 => exact Nat.le_refl _
  intro w1 hown hg
  have X1 : Ext w w1 := (Ext.refl w).grown hg (Nat.le_refl _) (fun _ h => by cases h)
  rw [toList_madeCells_one] at hown
  have own0 : w1.ownsRow w.heap.size 2 1 (.slice (some ⟨w.heap.size, 0, none⟩) (p + 1) (p + 1)) (p + 1) ((cntL p []).map (Value.int .i64)) := by
    rw [cntL_nil]; simpa using hown
  clear hown hg hi0 hz0 hz1 hz2
  go_wp2_with fail
  refine (HS.out _ X1).mono ?_
  rintro e w2 ⟨g1, cap1, rfl, hx, ownx⟩
  have own2 := own_ext' own0 hx
  have hgl := ownx.lt g1 rfl
  have hg0 := (own0.lt _ rfl).2
  have X2 := X1.trans hx
  clear own0 hx X1
  go_wp2_with fail
  go_loopw [15] (fun i wr => ∃ k : Nat, k ≤ xs.length ∧ i = .int .i64 k ∧ w2.grownBy wr (some w.heap.size) ∧
      wr.ownsRow w.heap.size 2 1 (.slice (some ⟨w.heap.size, 0, none⟩) (p + 1) (p + 1)) (p + 1) ((cntL p (xs.take k)).map (Value.int .i64))) (fun i _ => xs.length - (intOf i).toNat)
  case atStart => exact ⟨0, Nat.zero_le _, rfl, grownBy_refl _ _, own2⟩
  case round =>
    clear own2
    obtain ⟨k, hk, rfl, G, own⟩ := hrel
    by_cases hlt : k < xs.length
    · have ownx2 : OwnS w1.heap.size wr g1 cap1 xs := World.ownsRow.kept ownx G (.inr fun he => by simp [Value.ownBlock] at he; omega)
      obtain ⟨b1, o1, e1, hb1, hc1⟩ := RdN_at ownx2.rd hlt
      cases e1
      rw [Nat.zero_add] at hc1
      have hpp := HPP.out _ (List.getElem_mem hlt)
      have hs10 := HS10.out _ (List.getElem_mem hlt)
      have HC := Lib.hid (cntL_snoc p (xs.take k) xs[k] hpp)
      have hsm := cntL_small p (xs.take k) (pop xs[k]) hpp
      have htk : Hid (xs.take (k + 1) = xs.take k ++ [xs[k]]) := List.take_succ_eq_append_getElem hlt
      have hlk : (xs.take k).length ≤ 1024 := by rw [List.length_take]; omega
      have hcc := own.cellAt (pop xs[k]) (by omega)
      have hff := own.frozenAt (pop xs[k])
      rw [List.getElem?_map, List.getElem?_eq_getElem (by rw [cntL_len]; exact hpp)] at hcc
      simp only [Option.map_some] at hcc
      have hst := Lib.hid (fun u => World.ownsRow.stored own (pop xs[k]) u)
      have HSZ := Lib.hid (fun W => sizeOf_any xs[k] W hs10)
      generalize (cntL p (xs.take k))[pop xs[k]]'(by rw [cntL_len]; exact hpp) = y at *
      obtain ⟨n, hn⟩ : ∃ n, n = pop xs[k] := ⟨_, rfl⟩
      rw [← hn] at hcc hff hst HSZ hpp HC
      obtain ⟨x, hx⟩ : ∃ x, x = xs[k] := ⟨_, rfl⟩
      rw [← hx] at hc1 HSZ htk HC
      clear hn hx hs10
      have hn1 : (n : Int) < (p : Int) + 1 := by omega
      have hn2 : (n : Int) < ((p + 1 : Nat) : Int) := by omega
      go_wp2_with fail
      refine (HSZ.out _).mono ?_
      rintro e w3 ⟨rfl, rfl⟩
      go_wp2_with fail
      go_roundw
      case rel =>
        refine ⟨k + 1, by omega, by go_num, G.trans (grownBy_setCell _ _ _ _), ?_⟩
        rw [htk.out, HC.out, List.map_set]
        exact (hst.out _).1
      case measure => simp [intOf]; omega
    · obtain rfl : k = xs.length := by omega
      rw [List.take_length] at own
      go_wp2_with fail
      go_ret
      exact ⟨w.heap.size, p + 1, rfl, Below.trans X2 (grown_ext G (Nat.le_refl _) X2.size), own⟩
end Go.Proofs.Ytgmdoboeenpjpaa
