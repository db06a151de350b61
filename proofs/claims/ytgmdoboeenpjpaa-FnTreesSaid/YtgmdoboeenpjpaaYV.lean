
/- WorkingCounts, both sides. Condition: lists of ints that can be read. -/
import Derived.Test.YtgmdoboeenpjpaaYN
import Derived.Test.YtgmdoboeenpjpaaYG
namespace Go.Proofs.Ytgmdoboeenpjpaa
open Go Go.RowKit Go.ChangeShapes Go.WideShapes Go.ChangeAt

attribute [local irreducible] LX

/-- How many sets of a list have so many parts, for each number of parts up to p. -/
def cntL (p : Nat) (xs : List Nat) : List Int := (List.range (p + 1)).map fun j => ((xs.countP (fun s => pop s == j) : Nat) : Int)
theorem cntL_len (p : Nat) (xs : List Nat) : (cntL p xs).length = p + 1 := by simp [cntL]
theorem cntL_nil (p : Nat) : cntL p [] = List.replicate (p + 1) 0 := by
  unfold cntL
  apply List.ext_getElem
  · simp
  · intro i h1 h2; simp
theorem cntL_get (p : Nat) (xs : List Nat) (j : Nat) (h : j < p + 1) : (cntL p xs)[j]'(by rw [cntL_len]; exact h) = ((xs.countP (fun s => pop s == j) : Nat) : Int) := by simp [cntL]
theorem cntL_snoc (p : Nat) (xs : List Nat) (s : Nat) (h : pop s < p + 1) : cntL p (xs ++ [s]) = (cntL p xs).set (pop s) ((cntL p xs)[pop s]'(by rw [cntL_len]; exact h) + 1) := by
  apply List.ext_getElem
  · rw [List.length_set, cntL_len, cntL_len]
  · intro i h1 h2
    rw [cntL_len] at h1
    rw [cntL_get _ _ _ h1, List.getElem_set, List.countP_append]
    by_cases e : pop s = i
    · rw [if_pos e, cntL_get _ _ _ h]; subst e; simp
    · rw [if_neg e, cntL_get _ _ _ h1]; simp [e]
theorem cntL_small (p : Nat) (xs : List Nat) (j : Nat) (h : j < p + 1) : 0 ≤ (cntL p xs)[j]'(by rw [cntL_len]; exact h) ∧ (cntL p xs)[j]'(by rw [cntL_len]; exact h) ≤ xs.length := by
  rw [cntL_get _ _ _ h]
  have := List.countP_le_length (p := fun s => pop s == j) (l := xs)
  omega
theorem pop_lt {p s : Nat} (hp : p ≤ 10) (hs : s < 2 ^ p) : pop s < p + 1 := Nat.lt_succ_of_le (pop_le s p hs (by omega))

/-- A method of a value that says of each set below N whether something holds. -/
def PredB (fn : FuncId) (rv : Value) (P : Nat → Bool) (N : Nat) (w : World) : Prop :=
  ∀ w', Ext w w' → ∀ s : Nat, s < N → Calls Try.prog fn #[rv, .int .i64 s] w' fun e w'' => e = .returned (.bool (P s)) ∧ Ext w' w''

set_option maxHeartbeats 2000000 in
theorem setsWhereB_any (p : Nat) (fn : FuncId) (rv : Value) (P : Nat → Bool) (w : World) (hp : p ≤ 10) (hen : EnterOk Try.prog fn) (hP : PredB fn rv P (2 ^ p) w) :
    Calls Try.prog 70 #[.int .i64 p, .func (.func fn) #[rv] #[]] w fun e w' => ∃ g cap, e = .returned (.slice (some ⟨g, 0, none⟩) ((List.range (2 ^ p)).filter P).length cap) ∧ Ext w w' ∧
      OwnS w.heap.size w' g cap ((List.range (2 ^ p)).filter P) := by
  have hent : ∀ args w, (callFunc fn args).run Try.prog w = .ok (.enter fn args) w := hen
  have HP := Lib.hid hP
  obtain ⟨q1, q2, q3, q4⟩ := pow10N hp
  clear hP hen
  generalize hN : 2 ^ p = N at *
  have HN := Lib.hid hN
  clear hN
  go_enter Try.func70, Try.ntmps70
  go_wp2_with fail
  go_loopw [10, 5] (fun i v wr => ∃ (k g cap : Nat) (xs : List Nat), k ≤ N ∧ i = .int .i64 k ∧ v = .slice (some ⟨g, 0, none⟩) xs.length cap ∧ xs.length ≤ k ∧ Hid (xs = (List.range k).filter P) ∧
      OwnS w.heap.size wr g cap xs ∧ Ext w wr) (fun i _ _ => N - (intOf i).toNat)
  case atStart => exact ⟨0, w.heap.size, 0, [], Nat.zero_le _, rfl, rfl, Nat.le_refl _, rfl, World.ownsRow_lit w #[] 0 (Nat.le_refl _) (by decide) rfl, Ext.alloc _ _⟩
  case round =>
    obtain ⟨k, g, cap, xs, hk, rfl, rfl, hxl, HXS, own, X⟩ := hrel
    by_cases hlt : k < N
    · have HST := Lib.hid (range_filter_succ P k)
      have hki : (k : Int) < (2 : Int) ^ p := by rw [q3]; omega
      go_wp2_with fail
      refine (HP.out _ X k hlt).mono ?_
      rintro e w1 ⟨rfl, hx⟩
      replace own := own.ext hx
      replace X := X.trans hx
      clear hx
      cases hpk : P k
      · have HK := Lib.hid hpk
        clear hpk
        go_wp2_with fail
        go_roundw
        case rel => exact ⟨k + 1, g, cap, xs, by omega, by go_num, rfl, by omega, by show _ = _; rw [HST.out, HK.out, HXS.out]; simp, own, X⟩
        case measure => simp [intOf]; omega
      · have HK := Lib.hid hpk
        clear hpk
        go_wp2_with (at_builtin; refine wpList_push infoI64 rfl Try.underlying25 rfl rfl rfl (World.ownsRow.alloc (w := _) own _) rfl (Bx.new _ [_] _).one rfl (by omega) (by decide) (X.trans (Ext.alloc _ _)).size ?_; intro g2 cap2 w4 hg2 own2 bel2 sz2)
        go_roundw
        case rel => exact ⟨k + 1, g2, cap2, xs ++ [k], by omega, by go_num, by simp, by simp; omega, by show _ = _; rw [HST.out, HK.out, HXS.out]; simp, by unfold OwnS; rw [ups_append, List.map_append, List.length_append]; exact own2, bel2 _ (X.trans (Ext.alloc _ _))⟩
        case measure => simp [intOf]; omega
    · obtain rfl : k = N := by omega
      have hki : ¬ (k : Int) < (2 : Int) ^ p := by rw [q3]; omega
      go_wp2_with fail
      go_ret
      rw [← HXS.out]
      exact ⟨g, cap, rfl, X, own⟩

attribute [local irreducible] pop cntL

set_option maxHeartbeats 4000000 in
theorem countSets_any (p : Nat) (fn : FuncId) (lb : Array Value) (P : Nat → Bool) (w : World) (hp : p ≤ 10) (hen : EnterOk Try.prog fn) (hP : PredN fn lb P (2 ^ p) w) :
    Calls Try.prog 73 #[.int .i64 p, .func (.func fn) #[] lb] w fun e w' => ∃ g cap, e = .returned (.slice (some ⟨g, 0, none⟩) (p + 1) cap) ∧ Ext w w' ∧
      w'.ownsRow w.heap.size 2 1 (.slice (some ⟨g, 0, none⟩) (p + 1) cap) (p + 1) ((cntL p ((List.range (2 ^ p)).filter P)).map (Value.int .i64)) := by
  have HS := Lib.hid (fun W (x : Ext w W) => setsWhere_any p fn lb P W hp hen (fun w' hx s hs => hP w' (x.trans hx) s hs))
  obtain ⟨i0, hi0, hz0, hz1, hz2⟩ := info_parts infoI64
  have HX : Hid (∀ s ∈ (List.range (2 ^ p)).filter P, s < 2 ^ p) := fun s hs => by rw [List.mem_filter, List.mem_range] at hs; exact hs.1
  have hle : ((List.range (2 ^ p)).filter P).length ≤ 1024 := Nat.le_trans (List.length_filter_le _ _) (by rw [List.length_range]; exact (pow10N hp).2.2.2)
  generalize (List.range (2 ^ p)).filter P = xs at *
  have HPP := Lib.hid (fun s (hs : s ∈ xs) => pop_lt hp (HX.out s hs))
  have HS10 : Hid (∀ s ∈ xs, s < 1024) := fun s hs => Nat.lt_of_lt_of_le (HX.out s hs) (pow10N hp).2.2.2
  clear hP hen
  go_enter Try.func73, Try.ntmps73
  go_wp2_with (at_make; refine wpList_make_full _ rfl _ _ 25 rfl w.heap.size 2 i0 (.int .i64 0) 1 Try.underlying25 hi0 hz0 hz1 _ _ _ _ (p + 1) rfl rfl rfl rfl ?c1 ?c2 ?c3 ?_)
  case c1 => rw [hz2]; omega
  case c2 => unfold maxLen; omega
  case c3 => exact Nat.le_refl _
  intro w1 hown hg
  have X1 : Ext w w1 := (Ext.refl w).grown hg (Nat.le_refl _) (fun _ h => by cases h)
  rw [toList_madeCells_one] at hown
  have own0 : w1.ownsRow w.heap.size 2 1 (.slice (some ⟨w.heap.size, 0, none⟩) (p + 1) (p + 1)) (p + 1) ((cntL p []).map (Value.int .i64)) := by
    rw [cntL_nil]; simpa using hown
  clear hown hg hi0 hz0 hz1 hz2
  go_wp2_with fail
  refine (HS.out _ X1).mono ?_
  rintro e w2 ⟨g1, cap1, rfl, hx, ownx⟩
  have own2 := own_ext' own0 hx
  have hgl := ownx.lt g1 rfl
  have hg0 := (own0.lt _ rfl).2
  have X2 := X1.trans hx
  clear own0 hx X1
  go_wp2_with fail
  go_loopw [15] (fun i wr => ∃ k : Nat, k ≤ xs.length ∧ i = .int .i64 k ∧ w2.grownBy wr (some w.heap.size) ∧
      wr.ownsRow w.heap.size 2 1 (.slice (some ⟨w.heap.size, 0, none⟩) (p + 1) (p + 1)) (p + 1) ((cntL p (xs.take k)).map (Value.int .i64))) (fun i _ => xs.length - (intOf i).toNat)
  case atStart => exact ⟨0, Nat.zero_le _, rfl, grownBy_refl _ _, own2⟩
  case round =>
    clear own2
    obtain ⟨k, hk, rfl, G, own⟩ := hrel
    by_cases hlt : k < xs.length
    · have ownx2 : OwnS w1.heap.size wr g1 cap1 xs := World.ownsRow.kept ownx G (.inr fun he => by simp [Value.ownBlock] at he; omega)
      obtain ⟨b1, o1, e1, hb1, hc1⟩ := RdN_at ownx2.rd hlt
      cases e1
      rw [Nat.zero_add] at hc1
      have hpp := HPP.out _ (List.getElem_mem hlt)
      have hs10 := HS10.out _ (List.getElem_mem hlt)
      have HC := Lib.hid (cntL_snoc p (xs.take k) xs[k] hpp)
      have hsm := cntL_small p (xs.take k) (pop xs[k]) hpp
      have htk : Hid (xs.take (k + 1) = xs.take k ++ [xs[k]]) := List.take_succ_eq_append_getElem hlt
      have hlk : (xs.take k).length ≤ 1024 := by rw [List.length_take]; omega
      have hcc := own.cellAt (pop xs[k]) (by omega)
      have hff := own.frozenAt (pop xs[k])
      rw [List.getElem?_map, List.getElem?_eq_getElem (by rw [cntL_len]; exact hpp)] at hcc
      simp only [Option.map_some] at hcc
      have hst := Lib.hid (fun u => World.ownsRow.stored own (pop xs[k]) u)
      have HSZ := Lib.hid (fun W => sizeOf_any xs[k] W hs10)
      generalize (cntL p (xs.take k))[pop xs[k]]'(by rw [cntL_len]; exact hpp) = y at *
      obtain ⟨n, hn⟩ : ∃ n, n = pop xs[k] := ⟨_, rfl⟩
      rw [← hn] at hcc hff hst HSZ hpp HC
      obtain ⟨x, hx⟩ : ∃ x, x = xs[k] := ⟨_, rfl⟩
      rw [← hx] at hc1 HSZ htk HC
      clear hn hx hs10
      have hn1 : (n : Int) < (p : Int) + 1 := by omega
      have hn2 : (n : Int) < ((p + 1 : Nat) : Int) := by omega
      go_wp2_with fail
      refine (HSZ.out _).mono ?_
      rintro e w3 ⟨rfl, rfl⟩
      go_wp2_with fail
      go_roundw
      case rel =>
        refine ⟨k + 1, by omega, by go_num, G.trans (grownBy_setCell _ _ _ _), ?_⟩
        rw [htk.out, HC.out, List.map_set]
        exact (hst.out _).1
      case measure => simp [intOf]; omega
    · obtain rfl : k = xs.length := by omega
      rw [List.take_length] at own
      go_wp2_with fail
      go_ret
      exact ⟨w.heap.size, p + 1, rfl, Below.trans X2 (grown_ext G (Nat.le_refl _) X2.size), own⟩

set_option maxHeartbeats 4000000 in
theorem countSetsB_any (p : Nat) (fn : FuncId) (rv : Value) (P : Nat → Bool) (w : World) (hp : p ≤ 10) (hen : EnterOk Try.prog fn) (hP : PredB fn rv P (2 ^ p) w) :
    Calls Try.prog 73 #[.int .i64 p, .func (.func fn) #[rv] #[]] w fun e w' => ∃ g cap, e = .returned (.slice (some ⟨g, 0, none⟩) (p + 1) cap) ∧ Ext w w' ∧
      w'.ownsRow w.heap.size 2 1 (.slice (some ⟨g, 0, none⟩) (p + 1) cap) (p + 1) ((cntL p ((List.range (2 ^ p)).filter P)).map (Value.int .i64)) := by
  have HS := Lib.hid (fun W (x : Ext w W) => setsWhereB_any p fn rv P W hp hen (fun w' hx s hs => hP w' (x.trans hx) s hs))
  obtain ⟨i0, hi0, hz0, hz1, hz2⟩ := info_parts infoI64
  have HX : Hid (∀ s ∈ (List.range (2 ^ p)).filter P, s < 2 ^ p) := fun s hs => by rw [List.mem_filter, List.mem_range] at hs; exact hs.1
  have hle : ((List.range (2 ^ p)).filter P).length ≤ 1024 := Nat.le_trans (List.length_filter_le _ _) (by rw [List.length_range]; exact (pow10N hp).2.2.2)
  generalize (List.range (2 ^ p)).filter P = xs at *
  have HPP := Lib.hid (fun s (hs : s ∈ xs) => pop_lt hp (HX.out s hs))
  have HS10 : Hid (∀ s ∈ xs, s < 1024) := fun s hs => Nat.lt_of_lt_of_le (HX.out s hs) (pow10N hp).2.2.2
  clear hP hen
  go_enter Try.func73, Try.ntmps73
  go_wp2_with (at_make; refine wpList_make_full _ rfl _ _ 25 rfl w.heap.size 2 i0 (.int .i64 0) 1 Try.underlying25 hi0 hz0 hz1 _ _ _ _ (p + 1) rfl rfl rfl rfl ?c1 ?c2 ?c3 ?_)
  case c1 => rw [hz2]; omega
  case c2 => unfold maxLen; omega
  case c3 => exact Nat.le_refl _
  intro w1 hown hg
  have X1 : Ext w w1 := (Ext.refl w).grown hg (Nat.le_refl _) (fun _ h => by cases h)
  rw [toList_madeCells_one] at hown
  have own0 : w1.ownsRow w.heap.size 2 1 (.slice (some ⟨w.heap.size, 0, none⟩) (p + 1) (p + 1)) (p + 1) ((cntL p []).map (Value.int .i64)) := by
    rw [cntL_nil]; simpa using hown
  clear hown hg hi0 hz0 hz1 hz2
  go_wp2_with fail
  refine (HS.out _ X1).mono ?_
  rintro e w2 ⟨g1, cap1, rfl, hx, ownx⟩
  have own2 := own_ext' own0 hx
  have hgl := ownx.lt g1 rfl
  have hg0 := (own0.lt _ rfl).2
  have X2 := X1.trans hx
  clear own0 hx X1
  go_wp2_with fail
  go_loopw [15] (fun i wr => ∃ k : Nat, k ≤ xs.length ∧ i = .int .i64 k ∧ w2.grownBy wr (some w.heap.size) ∧
      wr.ownsRow w.heap.size 2 1 (.slice (some ⟨w.heap.size, 0, none⟩) (p + 1) (p + 1)) (p + 1) ((cntL p (xs.take k)).map (Value.int .i64))) (fun i _ => xs.length - (intOf i).toNat)
  case atStart => exact ⟨0, Nat.zero_le _, rfl, grownBy_refl _ _, own2⟩
  case round =>
    clear own2
    obtain ⟨k, hk, rfl, G, own⟩ := hrel
    by_cases hlt : k < xs.length
    · have ownx2 : OwnS w1.heap.size wr g1 cap1 xs := World.ownsRow.kept ownx G (.inr fun he => by simp [Value.ownBlock] at he; omega)
      obtain ⟨b1, o1, e1, hb1, hc1⟩ := RdN_at ownx2.rd hlt
      cases e1
      rw [Nat.zero_add] at hc1
      have hpp := HPP.out _ (List.getElem_mem hlt)
      have hs10 := HS10.out _ (List.getElem_mem hlt)
      have HC := Lib.hid (cntL_snoc p (xs.take k) xs[k] hpp)
      have hsm := cntL_small p (xs.take k) (pop xs[k]) hpp
      have htk : Hid (xs.take (k + 1) = xs.take k ++ [xs[k]]) := List.take_succ_eq_append_getElem hlt
      have hlk : (xs.take k).length ≤ 1024 := by rw [List.length_take]; omega
      have hcc := own.cellAt (pop xs[k]) (by omega)
      have hff := own.frozenAt (pop xs[k])
      rw [List.getElem?_map, List.getElem?_eq_getElem (by rw [cntL_len]; exact hpp)] at hcc
      simp only [Option.map_some] at hcc
      have hst := Lib.hid (fun u => World.ownsRow.stored own (pop xs[k]) u)
      have HSZ := Lib.hid (fun W => sizeOf_any xs[k] W hs10)
      generalize (cntL p (xs.take k))[pop xs[k]]'(by rw [cntL_len]; exact hpp) = y at *
      obtain ⟨n, hn⟩ : ∃ n, n = pop xs[k] := ⟨_, rfl⟩
      rw [← hn] at hcc hff hst HSZ hpp HC
      obtain ⟨x, hx⟩ : ∃ x, x = xs[k] := ⟨_, rfl⟩
      rw [← hx] at hc1 HSZ htk HC
      clear hn hx hs10
      have hn1 : (n : Int) < (p : Int) + 1 := by omega
      have hn2 : (n : Int) < ((p + 1 : Nat) : Int) := by omega
      go_wp2_with fail
      refine (HSZ.out _).mono ?_
      rintro e w3 ⟨rfl, rfl⟩
      go_wp2_with fail
      go_roundw
      case rel =>
        refine ⟨k + 1, by omega, by go_num, G.trans (grownBy_setCell _ _ _ _), ?_⟩
        rw [htk.out, HC.out, List.map_set]
        exact (hst.out _).1
      case measure => simp [intOf]; omega
    · obtain rfl : k = xs.length := by omega
      rw [List.take_length] at own
      go_wp2_with fail
      go_ret
      exact ⟨w.heap.size, p + 1, rfl, Below.trans X2 (grown_ext G (Nat.le_refl _) X2.size), own⟩
end Go.Proofs.Ytgmdoboeenpjpaa
/- WorkingCounts, both sides. Condition: lists of ints that can be read. -/
namespace Go.Proofs.Ytgmdoboeenpjpaa
open Go Go.RowKit Go.ChangeShapes Go.WideShapes Go.ChangeAt

attribute [local irreducible] LX pop cntL

def wcO (p : Int) (zs : List Int) : Option (List Int) := if sysB p zs then some (cntL p.toNat ((List.range (2 ^ p.toNat)).filter (worksB (downs zs)))) else none
theorem wcO_len (p : Int) (zs : List Int) : ((wcO p zs).getD []).length ≤ 1048576 := by
  unfold wcO
  split
  · rename_i h
    have := (SysN.of (sys_good' h)).1.p10
    simp only [Option.getD_some, cntL_len]; omega
  · simp

set_option maxHeartbeats 2000000 in
theorem implWorkingCounts_any (p : Int) (v : Value) (zs : List Int) (w : World) (r : RdI w v zs) : Calls Try.prog 25 #[.agg #[.int .i64 p, v]] w (ZlPost (wcO p zs) w) := by
  have r' := r
  obtain ⟨-, a1, c1, rfl, -, -, -, -⟩ := r
  have bx : Bx (w.alloc (.cells #[.int .i64 p, .slice a1 zs.length c1] 27)) w.heap.size [.int .i64 p, .slice a1 zs.length c1] := Bx.new _ _ _
  have HV := Lib.hid (fun W (x : Ext w W) => implValidSystem_any p _ zs W (r'.ext x))
  cases hv : sysB p zs
  · have HO : Hid (wcO p zs = none) := by show _ = _; unfold wcO; rw [hv]; rfl
    rw [hv] at HV
    clear hv
    go_enter Try.func25, Try.ntmps25
    go_wp2_with fail
    generalize hW : World.alloc w _ = W at *
    have X : Ext w W := hW ▸ Ext.alloc _ _
    clear hW
    obtain ⟨k0, k1⟩ := bx.two
    try (go_wp2_with fail)
    refine (HV.out _ X).mono ?_
    rintro e w1 ⟨rfl, hx⟩
    go_wp2_with fail
    go_ret2
    unfold ZlPost
    rw [HO.out]
    exact ⟨X.trans hx, rfl⟩
  · have HO : Hid (wcO p zs = some (cntL p.toNat ((List.range (2 ^ p.toNat)).filter (worksB (downs zs))))) := by show _ = _; unfold wcO; rw [hv]; rfl
    rw [hv] at HV
    obtain ⟨hs, hpn, hzn⟩ := SysN.of (sys_good' hv)
    have hb := (pow10N hs.p10).2.2.2
    have HC := Lib.hid (fun W (x : Ext w W) => countSetsB_any p.toNat 62 (.agg #[.int .i64 p, .slice a1 zs.length c1]) (worksB (downs zs)) W hs.p10 (enterOk Try.func62 (by kernel_rfl) rfl)
      (fun w' hx s hlt => works_any p s (.slice a1 zs.length c1) (downs zs) w' (by rw [← hzn]; exact r'.ext (x.trans hx)) (fun n hn => by have := hs.small n hn; omega) (by omega)))
    have hlc := cntL_len p.toNat ((List.range (2 ^ p.toNat)).filter (worksB (downs zs)))
    rw [← hpn] at HC
    rw [← hlc] at HC
    clear hv hs hpn hzn hb hlc
    generalize cntL p.toNat ((List.range (2 ^ p.toNat)).filter (worksB (downs zs))) = cs at *
    go_enter Try.func25, Try.ntmps25
    go_wp2_with fail
    generalize hW : World.alloc w _ = W at *
    have X : Ext w W := hW ▸ Ext.alloc _ _
    clear hW
    obtain ⟨k0, k1⟩ := bx.two
    try (go_wp2_with fail)
    refine (HV.out _ X).mono ?_
    rintro e w1 ⟨rfl, hx⟩
    clear k0 k1
    replace X := X.trans hx
    replace bx := bx.ext hx
    clear hx
    obtain ⟨k0, k1⟩ := bx.two
    go_wp2_with fail
    refine (HC.out _ X).mono ?_
    rintro e w2 ⟨g, cap, rfl, hx, own⟩
    go_wp2_with fail
    go_ret2
    unfold ZlPost
    rw [HO.out]
    exact ⟨X.trans hx, g, cap, rfl, World.ownsRow.mono own X.size⟩

set_option maxRecDepth 100000 in
set_option maxHeartbeats 4000000 in
theorem specWorkingCounts_any (p : Int) (v : Value) (zs : List Int) (w : World) (r : RdI w v zs) : Calls Try.prog 14 #[.agg #[.int .i64 p, v]] w (ZlPost (wcO p zs) w) := by
  have r' := r
  obtain ⟨-, a1, c1, rfl, -, -, -, -⟩ := r
  have bx : Bx (w.alloc (.cells #[.int .i64 p, .slice a1 zs.length c1] 27)) w.heap.size [.int .i64 p, .slice a1 zs.length c1] := Bx.new _ _ _
  have HV := Lib.hid (l03Is_sys p _ zs w.heap.size _ bx (r'.ext (Ext.alloc _ _)))
  cases hv : sysB p zs
  · have HO : Hid (wcO p zs = none) := by show _ = _; unfold wcO; rw [hv]; rfl
    rw [hv] at HV
    clear hv
    go_enter Try.func14, Try.ntmps14
    go_wp2_with fail
    refine HV.out.mono ?_
    rintro e w1 ⟨rfl, hx⟩
    go_wp2_with fail
    go_ret2
    unfold ZlPost
    rw [HO.out]
    exact ⟨(Ext.alloc _ _).trans hx, rfl⟩
  · have HO : Hid (wcO p zs = some (cntL p.toNat ((List.range (2 ^ p.toNat)).filter (worksB (downs zs))))) := by show _ = _; unfold wcO; rw [hv]; rfl
    rw [hv] at HV
    obtain ⟨hs, hpn, hzn⟩ := SysN.of (sys_good' hv)
    obtain ⟨P, hP⟩ : ∃ P, P = p.toNat := ⟨_, rfl⟩
    rw [← hP] at hs hpn HO
    subst hpn
    clear hP
    obtain ⟨q1, q2, q3, q4⟩ := pow10N hs.p10
    have hp1 := hs.p1
    have hp10 := hs.p10
    have hP63 : (P : Int) < 64 := by omega
    have HW := Lib.hid (fun W (x : Ext w W) (b : Bx W w.heap.size [.int .i64 (P : Int), .slice a1 zs.length c1]) s (hlt : s < 1024) => l03Works_any (P : Int) s (.slice a1 zs.length c1) (downs zs) w.heap.size W b (by rw [← hzn]; exact r'.ext x) (fun n hn => by have := hs.small n hn; omega) (by omega))
    have HST := Lib.hid (fun k => range_filter_succ (worksB (downs zs)) k)
    have HPL := Lib.hid (fun s (h : s < 2 ^ P) => pop_lt hp10 h)
    obtain ⟨i0, hi0, hz0, hz1, hz2⟩ := info_parts infoI64
    generalize hN : 2 ^ P = N at *
    have HN := Lib.hid hN
    clear hv hs hzn hN
    generalize hwk : worksB (downs zs) = wk at *
    clear hwk
    go_enter Try.func14, Try.ntmps14
    go_wp2_with fail
    refine HV.out.mono ?_
    rintro e w1 ⟨rfl, hx⟩
    replace bx := bx.ext hx
    have X : Ext w w1 := (Ext.alloc _ _).trans hx
    clear hx
    obtain ⟨k0, k1⟩ := bx.two
    go_wp2_with (at_make; refine wpList_make_full _ rfl _ _ 25 rfl w1.heap.size 2 i0 (.int .i64 0) 1 Try.underlying25 hi0 hz0 hz1 _ _ _ _ (P + 1) rfl rfl rfl rfl ?c1 ?c2 ?c3 ?_)
    case c1 => rw [hz2]; omega
    case c2 => unfold maxLen; omega
    case c3 => exact Nat.le_refl _
    intro w2 hown hg
    have X2 : Ext w1 w2 := (Ext.refl w1).grown hg (Nat.le_refl _) (fun _ h => by cases h)
    rw [toList_madeCells_one] at hown
    have own0 : w2.ownsRow w1.heap.size 2 1 (.slice (some ⟨w1.heap.size, 0, none⟩) (P + 1) (P + 1)) (P + 1) ((cntL P []).map (Value.int .i64)) := by
      rw [cntL_nil]; simpa using hown
    clear hown hg hi0 hz0 hz1 hz2 k0 k1
    go_wp2_with fail
    go_loopw [5] (fun i wr => ∃ k : Nat, k ≤ N ∧ i = .int .i64 k ∧ Ext w1 wr ∧
      wr.ownsRow w1.heap.size 2 1 (.slice (some ⟨w1.heap.size, 0, none⟩) (P + 1) (P + 1)) (P + 1) ((cntL P ((List.range k).filter wk)).map (Value.int .i64))) (fun i _ => N - (intOf i).toNat)
    case atStart => exact ⟨0, Nat.zero_le _, rfl, X2, own0⟩
    case round =>
      clear own0
      obtain ⟨k, hk, rfl, Z, own⟩ := hrel
      have bx2 := bx.ext Z
      obtain ⟨k0, k1⟩ := bx2.two
      by_cases hlt : k < N
      · have hki : (k : Int) < (N : Int) := by omega
        have hst := HST.out k
        go_wp2_with fail
        refine (HW.out _ (X.trans Z) bx2 k (by omega)).mono ?_
        rintro e w3 ⟨rfl, hx⟩
        replace own := own_ext' own hx
        replace Z := Z.trans hx
        clear hx k0 k1 bx2
        cases hwk : wk k
        · have HE : Hid ((List.range (k + 1)).filter wk = (List.range k).filter wk) := by show _ = _; rw [hst, hwk]; simp
          clear hst hwk
          go_wp2_with fail
          go_roundw
          case rel => exact ⟨k + 1, by omega, by go_num, Z, by rw [HE.out]; exact own⟩
          case measure => simp [intOf]; omega
        · have HE : Hid ((List.range (k + 1)).filter wk = (List.range k).filter wk ++ [k]) := by show _ = _; rw [hst, hwk]; simp
          have hpp := HPL.out k hlt
          have HC := Lib.hid (cntL_snoc P ((List.range k).filter wk) k hpp)
          have hsm := cntL_small P ((List.range k).filter wk) (pop k) hpp
          have hlk : ((List.range k).filter wk).length ≤ 1024 := Nat.le_trans (List.length_filter_le _ _) (by rw [List.length_range]; omega)
          have hcc := own.cellAt (pop k) (by omega)
          have hff := own.frozenAt (pop k)
          rw [List.getElem?_map, List.getElem?_eq_getElem (by rw [cntL_len]; exact hpp)] at hcc
          simp only [Option.map_some] at hcc
          have hsto := Lib.hid (fun u => World.ownsRow.stored own (pop k) u)
          have HSZ := Lib.hid (fun W => l03Size_any k W (by omega))
          generalize (cntL P ((List.range k).filter wk))[pop k]'(by rw [cntL_len]; exact hpp) = y at *
          obtain ⟨n, hn⟩ : ∃ n, n = pop k := ⟨_, rfl⟩
          rw [← hn] at hcc hff hsto HSZ hpp HC
          clear hn hst hwk
          have hn1 : (n : Int) < (P : Int) + 1 := by omega
          go_wp2_with fail
          refine (HSZ.out _).mono ?_
          rintro e w4 ⟨rfl, rfl⟩
          go_wp2_with fail
          go_roundw
          case rel =>
            refine ⟨k + 1, by omega, by go_num, Z.setCell (Nat.le_refl _) _, ?_⟩
            rw [HE.out, HC.out, List.map_set]
            exact (hsto.out _).1
          case measure => simp [intOf]; omega
      · obtain rfl : k = N := by omega
        go_wp2_with fail
        go_ret2
        unfold ZlPost
        rw [HO.out]
        refine ⟨X.trans Z, w1.heap.size, P + 1, by rw [cntL_len]; rfl, ?_⟩
        show World.ownsRow _ _ _ _ _ (cntL P _).length _
        rw [cntL_len]
        exact World.ownsRow.mono own X.size
end Go.Proofs.Ytgmdoboeenpjpaa
