
/- How shares go from state to state: helpers of both sides. Condition: rates that can be read, of a chain of at most 8 states. -/
import Derived.Test.YtkkmhckhggggaaaLq
import Derived.Test.YtkkmhckhggggaaaC
import Derived.Test.YtkkmhckhggggaaaD
namespace Go.Proofs.Ytkkmhckhggggaaa
open Go Go.RowKit Go.ChangeShapes Go.WideShapes Go.ChangeAt

attribute [local go_sem] run_store_float
attribute [local irreducible] LX

theorem floats_one (bs : List Nat) : ∀ u ∈ bs.map (Value.float .f32), u.oneCell' = true := by
  intro u hu; obtain ⟨b, _, rfl⟩ := List.mem_map.1 hu; rfl

set_option maxHeartbeats 1000000 in
theorem cloneF_any (v : Value) (bs : List Nat) (w : World) (r : RdF w v bs) (h0 : 0 < bs.length) (hz : bs.length ≤ 1048576) :
    Calls Try.prog 116 #[v] w fun e w' => ∃ g cap, e = .returned (.slice (some ⟨g, 0, none⟩) bs.length cap) ∧ w'.ownsRow w.heap.size 36 1 (.slice (some ⟨g, 0, none⟩) bs.length cap) bs.length (bs.map (Value.float .f32)) ∧ Ext w w' := by
  have r' := r
  obtain ⟨b0, o0, hb0, -, -, -⟩ : ∃ b off, (match v with | .slice a _ _ => a | _ => none) = some ⟨b, off, none⟩ ∧ True ∧ True ∧ True := by
    obtain ⟨⟨_, a1, c1, rfl, _⟩, _⟩ := r
    obtain ⟨b, o, h, _⟩ := r'.at h0
    exact ⟨b, o, h, trivial, trivial, trivial⟩
  obtain ⟨⟨-, a1, c1, rfl, -, -, -, -⟩, -⟩ := r
  simp only at hb0
  subst hb0
  have hnil : ∀ W, (binOp .eql 31 (.slice (some ⟨b0, o0, none⟩) bs.length c1) (.slice none 0 0)).run Try.prog W = .ok (.bool false) W := fun W => Lib.run_eql_slice_nil W 31 36 (some ⟨b0, o0, none⟩) bs.length c1 0 0 Try.underlying31
  go_enter Try.func116, Try.ntmps116
  go_wp2_with (at_builtin; refine wpList_copy infoF32 rfl (by decide) Try.underlying31 rfl rfl rfl (World.ownsRow_lit (base := w.heap.size) (e := 36) (size := 1) w #[] 0 (Nat.le_refl _) (by decide) rfl) rfl (r'.1.alloc _) h0 (floats_one bs) (by omega) (by decide) (by simp) ?_; intro g cap w' hg own hgr)
  go_ret
  exact ⟨g, cap, rfl, own, (below_alloc w _).grown hgr (by simp) (fun k hk => by cases hk; exact Nat.le_refl _)⟩

/-- What leaves a state. -/
def chOut (M : List Nat) (n k : Nat) : Nat := sumF (cn .f32 0) ((M.drop (k * n)).take n)

set_option maxHeartbeats 2000000 in
theorem l04Out_any (n k : Nat) (v : Value) (bs : List Nat) (blk : Nat) (w : World) (hbx : Bx w blk [.int .i64 n, v]) (r : RdF w v bs) (hn : n ≤ 8) (hk : k < n) (hl : bs.length = n * n) :
    Calls Try.prog 114 #[.pointer (some ⟨blk, 0, none⟩), .int .i64 k] w fun e w' => ∃ b, e = .returned (.float .f32 b) ∧ cn .f32 b = chOut (bs.map (cn .f32)) n k ∧ b < 4294967296 ∧ Ext w w' := by
  have r' := r
  obtain ⟨⟨-, a1, c1, rfl, -, -, -, -⟩, -⟩ := r
  have hkn : k * n + n ≤ bs.length := by
    have h1 : (k + 1) * n ≤ n * n := Nat.mul_le_mul_right n hk
    have h2 : (k + 1) * n = k * n + n := Nat.succ_mul k n
    omega
  have hkn8 : k * n ≤ 64 := Nat.le_trans (Nat.mul_le_mul (Nat.le_of_lt hk) (Nat.le_refl _)) (by have := Nat.mul_le_mul hn hn; omega)
  have HSUM : Hid (chOut (bs.map (cn .f32)) n k = sumF (cn .f32 0) (((bs.map (cn .f32)).drop (k * n)).take n)) := rfl
  have HLEN := Lib.hid hl
  clear hl
  go_enter Try.func114, Try.ntmps114
  go_wp2_with fail
  go_loopw [5, 6] (fun s i wr => ∃ (j x : Nat), j ≤ n ∧ i = .int .i64 j ∧ s = .float .f32 x ∧ Hid (cn .f32 x = sumF (cn .f32 0) ((((bs.map (cn .f32)).drop (k * n)).take n).take j)) ∧ Hid (x < 4294967296) ∧ Ext w wr) (fun _ i _ => n - (intOf i).toNat)
  case atStart => exact ⟨0, 0, Nat.zero_le _, rfl, rfl, rfl, (by show (0 : Nat) < _; decide), Ext.refl _⟩
  case round =>
    obtain ⟨j, x, hj, rfl, rfl, HX, HB, X⟩ := hrel
    obtain ⟨k0, k1⟩ := (hbx.ext X).two
    by_cases hlt : j < n
    · have hidx : k * n + j < bs.length := by omega
      obtain ⟨b1, o1, rfl, hb1, hc1⟩ := (r'.ext X).at hidx
      have hbl := (hbx.ext X).1
      have hsum : Hid (sumF (cn .f32 0) ((((bs.map (cn .f32)).drop (k * n)).take n).take (j + 1)) = fop .add .f32 (sumF (cn .f32 0) ((((bs.map (cn .f32)).drop (k * n)).take n).take j)) (cn .f32 (bs[k * n + j]'hidx))) := by
        show _ = _
        rw [sumF_take (by rw [List.length_take, List.length_drop, List.length_map]; omega)]
        simp
      obtain ⟨p, hp⟩ : ∃ p, p = k * n := ⟨_, rfl⟩
      have hp1 : (k : Int) * (n : Int) = (p : Int) := by rw [hp]; exact_mod_cast rfl
      have s1 : IntKind.i64.wrap ((k : Int) * (n : Int)) = (p : Int) := by rw [hp1]; exact IntWalk.i64_in _ (by omega)
      obtain ⟨q, hq⟩ : ∃ q, q = p + j := ⟨_, rfl⟩
      have s2 : IntKind.i64.wrap ((p : Int) + (j : Int)) = (q : Int) := by have := IntWalk.i64_in ((p : Int) + (j : Int)) (by omega); rw [this]; omega
      have s3 : (q : Int) < (bs.length : Int) := by omega
      have s4 : q < bs.length := by omega
      have e9 : k * n + j = q := by omega
      simp only [e9] at hc1 hsum
      generalize bs[q]'(by omega) = y at *
      have hlt2 : (j : Int) < (n : Int) := by omega
      have HP := Lib.hid hp
      have HQ := Lib.hid hq
      clear hp hq hp1 e9 hidx
      go_wp2_with fail
      refine wp_region_rel 16 (fun _ _ => True) (fun _ _ _ => True) (by kernel_rfl) (by kernel_rfl) (by kernel_rfl) ?_
      dsimp only [List.take, List.drop, List.length]
      refine LX_det (.float .f32 x) (by kernel_rfl) rfl (fun w' hx _ => ?_) ?_
      · go_simp
      refine LX_det (.pointer (some ⟨blk, 0, none⟩)) (by kernel_rfl) rfl (fun w' hx _ => ?_) ?_
      · go_simp
      refine LX_det (.pointer (some ⟨blk, 0, none⟩)) (by kernel_rfl) rfl (fun w' hx _ => ?_) ?_
      · go_simp
      refine LX_det (.pointer (some ⟨blk, 1, none⟩)) (by kernel_rfl) rfl (fun w' hx _ => ?_) ?_
      · go_simp
      refine LX_det (.slice (some ⟨b1, o1, none⟩) bs.length c1) (by kernel_rfl) rfl (fun w' hx _ => ?_) ?_
      · have m0 := (Below.cell hx (p := ⟨blk, 1, none⟩) hbl).trans k1
        go_simp
      refine LX_det (.int .i64 k) (by kernel_rfl) rfl (fun w' hx _ => ?_) ?_
      · go_simp
      refine LX_det (.pointer (some ⟨blk, 0, none⟩)) (by kernel_rfl) rfl (fun w' hx _ => ?_) ?_
      · go_simp
      refine LX_det (.pointer (some ⟨blk, 0, none⟩)) (by kernel_rfl) rfl (fun w' hx _ => ?_) ?_
      · go_simp
      refine LX_det (.pointer (some ⟨blk, 0, none⟩)) (by kernel_rfl) rfl (fun w' hx _ => ?_) ?_
      · go_simp
      refine LX_det (.int .i64 n) (by kernel_rfl) rfl (fun w' hx _ => ?_) ?_
      · have m0 := (Below.cell hx (p := ⟨blk, 0, none⟩) hbl).trans k0
        go_simp
      refine LX_det (.int .i64 p) (by kernel_rfl) rfl (fun w' hx _ => ?_) ?_
      · go_simp
      refine LX_det (.int .i64 j) (by kernel_rfl) rfl (fun w' hx _ => ?_) ?_
      · go_simp
      refine LX_det (.int .i64 q) (by kernel_rfl) rfl (fun w' hx _ => ?_) ?_
      · go_simp
      refine LX_det (.pointer (some ⟨b1, o1 + q, none⟩)) (by kernel_rfl) rfl (fun w' hx _ => ?_) ?_
      · go_simp
      refine LX_det (.float .f32 y) (by kernel_rfl) rfl (fun w' hx _ => ?_) ?_
      · have m0 := (Below.cell hx (p := ⟨b1, o1 + q, none⟩) hb1).trans hc1
        go_simp
      simp only [Act.put, List.setIfInBounds_toArray, List.set_cons_succ, List.set_cons_zero]
      refine LX_fop (by kernel_rfl) rfl rfl rfl rfl ?_
      intro f1 hf1 hl1
      replace hf1 := Lib.hid hf1
      replace hl1 := Lib.hid hl1
      refine LX_nil fun w2 hx _ => ?_
      simp only [Act.put, List.setIfInBounds_toArray, List.set_cons_succ, List.set_cons_zero]
      go_wp2_with fail
      go_roundw
      case rel =>
        refine ⟨j + 1, f1, by omega, by go_num, rfl, ?_, hl1, X.trans hx⟩
        show _ = _; rw [hsum.out, hf1.out, HX.out]
      case measure => simp [intOf]; omega
    · obtain rfl : j = n := by omega
      go_wp2_with fail
      go_ret
      refine ⟨x, rfl, ?_, HB.out, X⟩
      have h := HX.out
      rw [List.take_of_length_le (by rw [List.length_take]; omega)] at h
      rw [HSUM.out]; exact h

set_option maxHeartbeats 2000000 in
theorem l04Shares_any (n : Int) (v0 v : Value) (bs : List Nat) (blk : Nat) (w : World) (hbx : Bx w blk [.int .i64 n, v0]) (r : RdF w v bs) (hz : bs.length ≤ 1048576) :
    Calls Try.prog 113 #[.pointer (some ⟨blk, 0, none⟩), v] w fun e w' => e = .returned (.bool ((bs.map (cn .f32)).all leastB && decide ((bs.length : Int) = n))) ∧ Ext w w' := by
  have r' := r
  obtain ⟨⟨-, a1, c1, rfl, -, -, -, -⟩, -⟩ := r
  go_enter Try.func113, Try.ntmps113
  go_wp2_with fail
  go_loopw [5] (fun i wr => ∃ k : Nat, k ≤ bs.length ∧ i = .int .i64 k ∧ Hid (∀ j, (h : j < k) → (h' : j < bs.length) → leastB (cn .f32 bs[j]) = true) ∧ Ext w wr) (fun i _ => bs.length - (intOf i).toNat)
  case atStart => exact ⟨0, Nat.zero_le _, rfl, fun j h => absurd h (Nat.not_lt_zero _), Ext.refl _⟩
  case round =>
    obtain ⟨k, hk, rfl, Hn, X⟩ := hrel
    by_cases hlt : k < bs.length
    · obtain ⟨b1, o1, rfl, hb1, hc1⟩ := (r'.ext X).at hlt
      cases hp : leastB (cn .f32 bs[k])
      · have HA := Lib.hid hp
        have H : Hid (((bs.map (cn .f32)).all leastB && decide ((bs.length : Int) = n)) = false) := by
          show _ = _
          have : (bs.map (cn .f32)).all leastB = false := by rw [List.all_eq_false]; exact ⟨cn .f32 bs[k], List.mem_map_of_mem (List.getElem_mem hlt), by rw [hp]; simp⟩
          rw [this, Bool.false_and]
        clear hp
        go_wp2_with fail
        refine (l02Least_eq HA.out _).mono ?_
        rintro e w1 ⟨rfl, hx⟩
        clear hc1
        go_wp2_with fail
        go_ret
        exact ⟨ret_bool H.out.symm, X.trans hx⟩
      · have HA := Lib.hid hp
        clear hp
        go_wp2_with fail
        refine (l02Least_eq HA.out _).mono ?_
        rintro e w1 ⟨rfl, hx⟩
        replace X := X.trans hx
        clear hc1 hx
        go_wp2_with fail
        go_roundw
        case rel =>
          refine ⟨k + 1, by omega, by go_num, (fun j hj hj' => ?_), X⟩
          by_cases hjk : j = k
          · subst hjk; exact HA.out
          · exact Hn.out j (by omega) hj'
        case measure => simp [intOf]; omega
    · have hall : (bs.map (cn .f32)).all leastB = true := by
        rw [List.all_eq_true]; intro x hx; obtain ⟨b, hb, rfl⟩ := List.mem_map.1 hx; obtain ⟨j, hj, rfl⟩ := List.getElem_of_mem hb; exact Hn.out j (by omega) hj
      have HALL := Lib.hid hall
      clear hall
      obtain ⟨k0, k1⟩ := (hbx.ext X).two
      have HD : Hid (((bs.length : Int) == n) = decide ((bs.length : Int) = n)) := by show _ = _; rw [Bool.eq_iff_iff]; simp
      have HF : Hid (((bs.map (cn .f32)).all leastB && decide ((bs.length : Int) = n)) = ((bs.length : Int) == n)) := by show _ = _; rw [HALL.out, Bool.true_and, HD.out]
      clear HD
      go_wp2_with fail
      go_ret
      exact ⟨ret_bool HF.out.symm, X⟩

theorem RdF_sub {w : World} {cap n : Nat} {bs : List Nat} {b off : Nat} (r : RdF w (.slice (some ⟨b, off, none⟩) n cap) bs) (p m : Nat) (h : p + m ≤ bs.length) (hm : 0 < m) :
    RdF w (.slice (some ⟨b, off + p, none⟩) m (cap - p)) ((bs.drop p).take m) := by
  have hn : n = bs.length := by obtain ⟨⟨_, _, _, h2, _⟩, _⟩ := r; cases h2; rfl
  subst hn
  obtain ⟨⟨hl, a', c', e, h1, h2, h3, h4⟩, hb⟩ := r
  cases e
  refine ⟨⟨?_, some ⟨b, off + p, none⟩, cap - p, ?_, ?_, ?_, (fun h => by cases h), ?_⟩, fun x hx => hb x (List.mem_of_mem_drop (List.mem_of_mem_take hx))⟩
  · simp
  · rw [List.length_take, List.length_drop, Nat.min_eq_left (by omega)]
  · rw [List.length_take, List.length_drop, Nat.min_eq_left (by omega)]; omega
  · omega
  · intro q hq j hj
    cases hq
    rw [List.length_take, List.length_drop, Nat.min_eq_left (by omega), Nat.mul_one] at hj
    obtain ⟨g1, g2, g3⟩ := h4 _ rfl (p + j) (by omega)
    refine ⟨rfl, g2, ?_⟩
    simp only at g3 ⊢
    rw [Nat.add_assoc, g3, List.getElem?_map, List.getElem?_map, List.getElem?_take, if_pos hj, List.getElem?_drop]
set_option maxHeartbeats 2000000 in
theorem leaves_any (n k : Nat) (v : Value) (bs : List Nat) (w : World) (r : RdF w v bs) (hn : n ≤ 8) (hk : k < n) (hl : bs.length = n * n) :
    Calls Try.prog 118 #[.agg #[.int .i64 n, v], .int .i64 k] w fun e w' => ∃ b, e = .returned (.float .f32 b) ∧ cn .f32 b = chOut (bs.map (cn .f32)) n k ∧ b < 4294967296 ∧ Ext w w' := by
  have r' := r
  obtain ⟨⟨-, a1, c1, rfl, p1, p2, -, -⟩, -⟩ := r
  have hkn : k * n + n ≤ bs.length := by
    have h1 : (k + 1) * n ≤ n * n := Nat.mul_le_mul_right n hk
    have h2 : (k + 1) * n = k * n + n := Nat.succ_mul k n
    omega
  have hkn8 : k * n ≤ 64 := Nat.le_trans (Nat.mul_le_mul (Nat.le_of_lt hk) (Nat.le_refl _)) (by have := Nat.mul_le_mul hn hn; omega)
  obtain ⟨b1, o1, rfl, hb1, -⟩ := r'.at (k := k * n) (by omega)
  obtain ⟨p, hp⟩ : ∃ p, p = k * n := ⟨_, rfl⟩
  have hp1 : (k : Int) * (n : Int) = (p : Int) := by rw [hp]; exact_mod_cast rfl
  have hp2 : ((k : Int) + 1) * (n : Int) = ((p + n : Nat) : Int) := by rw [hp, show ((k : Int) + 1) = ((k + 1 : Nat) : Int) by omega, ← Nat.succ_mul]; exact_mod_cast rfl
  have HR := Lib.hid (fun W (x : Ext w W) => RdF_sub (r'.ext x) p n (by omega) (by omega))
  have HS : Hid (sumF (cn .f32 0) (((bs.drop p).take n).map (cn .f32)) = chOut (bs.map (cn .f32)) n k) := by show _ = _; unfold chOut; rw [List.map_take, List.map_drop, hp]
  have hpn : p + n ≤ c1 := by omega
  have hpb : p + n ≤ 9223372036854775807 := by unfold maxLen at p2; omega
  have hpp : (p : Int) ≤ ((p + n : Nat) : Int) := by omega
  have hk8 : (k : Int) ≤ 8 := by omega
  clear hp hkn hkn8
  go_enter Try.func118, Try.ntmps118
  go_wp2_with fail
  refine (addUp_any _ ((bs.drop p).take n) _ (HR.out _ (Ext.alloc _ _))).mono ?_
  rintro e w1 ⟨b, rfl, hb1, hb2, hx⟩
  rw [HS.out] at hb1
  have HB1 := Lib.hid hb1
  have HB2 := Lib.hid hb2
  clear hb1 hb2
  go_wp2_with fail
  go_ret
  exact ⟨b, rfl, HB1.out, HB2.out, (Ext.alloc _ _).trans hx⟩

/-- What comes to a state from the first j states. -/
def chCome (S M : List Nat) (n k : Nat) : Nat → Nat
  | 0 => cn .f32 0
  | j + 1 => fop .add .f32 (chCome S M n k j) (fop .mul .f32 (S.getD j 0) (M.getD (j * n + k) 0))
def chNext (S M : List Nat) (n h k : Nat) : Nat := fop .add .f32 (S.getD k 0) (fop .mul .f32 h (fop .sub .f32 (chCome S M n k n) (fop .mul .f32 (S.getD k 0) (chOut M n k))))
def chNextK (S M : List Nat) (n h k : Nat) : List Nat := (List.range k).map (chNext S M n h)
def chIter (S M : List Nat) (n h : Nat) : Nat → List Nat
  | 0 => S
  | t + 1 => chNextK (chIter S M n h t) M n h n
theorem chNextK_succ (S M : List Nat) (n h k : Nat) : chNextK S M n h (k + 1) = chNextK S M n h k ++ [chNext S M n h k] := by
  unfold chNextK; rw [List.range_succ, List.map_append]; rfl
theorem chNextK_len (S M : List Nat) (n h k : Nat) : (chNextK S M n h k).length = k := by simp [chNextK]
theorem chIter_len {S M : List Nat} {n h : Nat} (hS : S.length = n) : ∀ t, (chIter S M n h t).length = n
  | 0 => hS
  | t + 1 => chNextK_len _ _ _ _ _
def chOkB (n : Int) (bs ss : List Nat) (h : Nat) (t : Int) : Bool := chainOk n bs && ((ss.map (cn .f32)).all leastB && decide ((ss.length : Int) = n)) && aboveB h && inB t 1 256
def finL (xs : List Nat) : Option (List Nat) := if finAll xs then some xs else none
def chO (n : Int) (bs ss : List Nat) (h : Nat) (t : Int) : Option (List Nat) := if chOkB n bs ss h t then finL (chIter (ss.map (cn .f32)) (bs.map (cn .f32)) n.toNat h t.toNat) else none

end Go.Proofs.Ytkkmhckhggggaaa
