
/- Contracts of the functions on chains, and the laws FnExactValidChain, FnExactSameChain. No condition. -/
import Derived.Test.YtkkmhckhggggaaaRows
import Derived.Test.YtkkmhckhggggaaaB
import Derived.Deep.QuietTactic
import Derived.BigQuiet
import Derived.Outline
namespace Go.Proofs.Ytkkmhckhggggaaa
open Go Go.RowKit Go.ChangeShapes Go.WideShapes Go.ChangeAt

theorem areNotLess_1 (b : Nat) (w : World) : Calls Try.prog 131 #[.float .f32 b] w fun e w' => e = .returned (.bool (!(leastB (cn .f32 b)))) ∧ Ext w w' := by
  go_enter Try.func131, Try.ntmps131
  go_wp2_with fail
  refine (isFinite_any b _).mono ?_
  rintro e w1 ⟨rfl, X⟩
  cases h : finB (cn .f32 b)
  all_goals
    have H := Lib.hid h
    clear h
    go_wp2_with (first | (refine wpList_fcmp rfl rfl rfl rfl rfl (by first | with_reducible assumption | exact rfl) ?_) | (refine wpList_fop rfl rfl rfl rfl rfl ?_; intro fb nf hfb hfl))
    go_ret
    exact ⟨ret_bool (by unfold leastB; rw [H.out]; rfl), X⟩

theorem areNotLess_any (v : Value) (bs : List Nat) (w : World) (r : RdF w v bs) : Calls Try.prog 88 #[v] w fun e w' => e = .returned (.bool ((bs.map (cn .f32)).all leastB)) ∧ Ext w w' := by
  have H := Lib.hid (containsFuncF_any 131 #[] (fun x => !(leastB x)) v bs w r (enterOk Try.func131 (by kernel_rfl) rfl) (fun w' _ b _ => areNotLess_1 b w'))
  have H2 : Hid ((!(bs.map (cn .f32)).any fun x => !(leastB x)) = (bs.map (cn .f32)).all leastB) := by
    show _ = _; induction (bs.map (cn .f32)) with
    | nil => rfl
    | cons x l ih => simp only [List.any_cons, List.all_cons, Bool.not_or, Bool.not_not, ih]
  obtain ⟨⟨_, a1, c1, rfl, _, _, _, _⟩, _⟩ := r
  go_enter Try.func88, Try.ntmps88
  go_wp2_with fail
  refine H.out.mono ?_
  rintro e w1 ⟨rfl, X⟩
  clear H
  generalize ((bs.map (cn .f32)).any fun x => !(leastB x)) = z at *
  go_wp2_with fail
  go_ret
  exact ⟨ret_bool H2.out, X⟩

theorem areMore_1 (b : Nat) (w : World) : Calls Try.prog 141 #[.float .f32 b] w fun e w' => e = .returned (.bool (!(aboveB (cn .f32 b)))) ∧ Ext w w' := by
  go_enter Try.func141, Try.ntmps141
  go_wp2_with fail
  refine (isFinite_any b _).mono ?_
  rintro e w1 ⟨rfl, X⟩
  cases h : finB (cn .f32 b)
  all_goals
    have H := Lib.hid h
    clear h
    go_wp2_with (first | (refine wpList_fcmp rfl rfl rfl rfl rfl (by first | with_reducible assumption | exact rfl) ?_) | (refine wpList_fop rfl rfl rfl rfl rfl ?_; intro fb nf hfb hfl))
    go_ret
    exact ⟨ret_bool (by unfold aboveB; rw [H.out]; rfl), X⟩

theorem areMore_any (v : Value) (bs : List Nat) (w : World) (r : RdF w v bs) : Calls Try.prog 102 #[v] w fun e w' => e = .returned (.bool ((bs.map (cn .f32)).all aboveB)) ∧ Ext w w' := by
  have H := Lib.hid (containsFuncF_any 141 #[] (fun x => !(aboveB x)) v bs w r (enterOk Try.func141 (by kernel_rfl) rfl) (fun w' _ b _ => areMore_1 b w'))
  have H2 : Hid ((!(bs.map (cn .f32)).any fun x => !(aboveB x)) = (bs.map (cn .f32)).all aboveB) := by
    show _ = _; induction (bs.map (cn .f32)) with
    | nil => rfl
    | cons x l ih => simp only [List.any_cons, List.all_cons, Bool.not_or, Bool.not_not, ih]
  obtain ⟨⟨_, a1, c1, rfl, _, _, _, _⟩, _⟩ := r
  go_enter Try.func102, Try.ntmps102
  go_wp2_with fail
  refine H.out.mono ?_
  rintro e w1 ⟨rfl, X⟩
  clear H
  generalize ((bs.map (cn .f32)).any fun x => !(aboveB x)) = z at *
  go_wp2_with fail
  go_ret
  exact ⟨ret_bool H2.out, X⟩


set_option maxHeartbeats 1000000 in
theorem rate_any (i j n : Nat) (v : Value) (bs : List Nat) (w : World) (r : RdF w v bs) (hi : i * n + j < bs.length) (hn : bs.length ≤ 1048576) :
    Calls Try.prog 117 #[.agg #[.int .i64 n, v], .int .i64 i, .int .i64 j] w fun e w' => e = .returned (.float .f32 (bs[i * n + j]'hi)) ∧ Ext w w' := by
  have r' := r
  obtain ⟨⟨_, a1, c1, rfl, _, _, _, _⟩, _⟩ := r
  obtain ⟨b, o, rfl, hb, hc⟩ := r'.at hi
  have h1 : (i : Int) * (n : Int) ≤ 1048576 := by rw [← Int.natCast_mul]; omega
  have h2 : (0 : Int) ≤ (i : Int) * (n : Int) := by rw [← Int.natCast_mul]; omega
  have h3 : (i : Int) * (n : Int) + j < bs.length := by rw [← Int.natCast_mul]; omega
  go_enter Try.func117, Try.ntmps117
  go_wp2_with fail
  go_ret
  exact ⟨rfl, Ext.alloc _ _⟩

/-- What a valid chain is, as the reference asks it. -/
def diagB (n : Nat) (i : Nat) (x : Nat) : Bool := leastB x && !(decide (i % (n + 1) = 0) && fcmp .neq .f32 x (cn .f32 0))
def chainOk (n : Int) (bs : List Nat) : Bool := inB n 1 8 && decide ((bs.length : Int) = n * n) && (List.range bs.length).all fun i => diagB n.toNat i (cn .f32 (bs.getD i 0))

set_option maxHeartbeats 1000000 in
theorem l04Is_any (n : Int) (v : Value) (bs : List Nat) (blk : Nat) (w : World) (hbx : Bx w blk [.int .i64 n, v]) (r : RdF w v bs) (hn : bs.length ≤ 1048576) :
    Calls Try.prog 112 #[.pointer (some ⟨blk, 0, none⟩)] w fun e w' => e = .returned (.bool (chainOk n bs)) ∧ Ext w w' := by
  have r' := r
  obtain ⟨⟨_, a1, c1, rfl, _, _, _, _⟩, _⟩ := r
  cases hin : inB n 1 8 with
  | false =>
    have H : Hid (chainOk n bs = false) := by show _ = _; simp [chainOk, hin]
    have Hin := Lib.hid hin
    clear hin
    obtain ⟨k0, k1⟩ := hbx.two
    go_enter Try.func112, Try.ntmps112
    go_wp2_with fail
    go_quiet ((go_at_call 104; exact quietL (l00In_eq Hin.out _)))
    go_wp2_with fail
    go_ret
    exact ⟨ret_bool H.out.symm, Ext.drewN _ _⟩
  | true =>
    by_cases hlen : (bs.length : Int) = n * n
    · have hn8 := inB_iff.1 hin
      obtain ⟨m, rfl⟩ := Int.eq_ofNat_of_zero_le (show 0 ≤ n by omega)
      have Hin := Lib.hid hin
      have h1 : (bs.length : Int) ≤ 1048576 := by omega
      have h2 : (0 : Int) ≤ (m : Int) * m := Int.mul_nonneg (by omega) (by omega)
      have h3 : (m : Int) * m ≤ 64 := by
        have := Int.mul_le_mul hn8.2 hn8.2 (by omega) (by omega); simpa using this
      have hne : ((bs.length : Int) != (m : Int) * m) = false := by simpa using hlen
      have hm1 : 1 ≤ m := by omega
      have hm8 : m ≤ 8 := by omega
      have Hlen := Lib.hid hlen
      clear hin hlen hn8
      obtain ⟨k0, k1⟩ := hbx.two
      go_enter Try.func112, Try.ntmps112
      go_wp2_with fail
      go_quiet ((go_at_call 104; exact quietL (l00In_eq Hin.out _)))
      go_wp2_with fail
      go_loopw [3] (fun i wr => ∃ k : Nat, k ≤ bs.length ∧ i = .int .i64 k ∧ Hid (∀ j, j < k → diagB m j (cn .f32 (bs.getD j 0)) = true) ∧ Ext w wr) (fun i _ => bs.length - (intOf i).toNat)
      case atStart => exact ⟨0, Nat.zero_le _, rfl, fun j h => absurd h (Nat.not_lt_zero _), Ext.drewN _ _⟩
      case round =>
        obtain ⟨k, hk, rfl, Hn, X⟩ := hrel
        clear k0 k1
        obtain ⟨k0, k1⟩ := (hbx.ext X).two
        by_cases hlt : k < bs.length
        · obtain ⟨b1, o1, rfl, hb1, hc1⟩ := (r'.ext X).at hlt
          have hg : bs.getD k 0 = bs[k] := by simp [hlt]
          rcases Bool.eq_false_or_eq_true (leastB (cn .f32 bs[k])) with hA | hA
          · replace hA := Lib.hid hA
            by_cases hB : k % (m + 1) = 0
            · have hB' : ((k : Int) % ((m : Int) + 1) == 0) = true := by
                rw [beq_iff_eq, show ((m : Int) + 1) = ((m + 1 : Nat) : Int) from rfl, ← Int.natCast_emod, hB]; rfl
              rcases Bool.eq_false_or_eq_true (fcmp .neq .f32 (cn .f32 bs[k]) (cn .f32 0)) with hC | hC
              · have Hd : Hid (diagB m k (cn .f32 bs[k]) = false) := by show _ = _; simp [diagB, hB, hC]
                clear hB
                go_wp2_with fail
                refine (l02Least_eq hA.out _).mono ?_
                rintro e w1 ⟨rfl, hx⟩
                replace X := X.trans hx
                obtain ⟨k0', k1'⟩ := (hbx.ext X).two
                have hc1' := (Below.cell hx (p := ⟨b1, o1 + k, none⟩) hb1).trans hc1
                clear hx k0 k1 hc1
                go_wp2_with (refine wpList_fcmp rfl rfl rfl rfl rfl (by first | with_reducible assumption | exact rfl) ?_)
                go_ret
                have H : chainOk m bs = false := by
                  have : (List.range bs.length).all (fun i => diagB m i (cn .f32 (bs.getD i 0))) = false := by
                    rw [List.all_eq_false]; exact ⟨k, List.mem_range.2 hlt, by rw [hg, Hd.out]; exact Bool.false_ne_true⟩
                  simp only [chainOk, Int.toNat_natCast, this, Bool.and_false]
                exact ⟨ret_bool H.symm, X⟩
              · have Hd : Hid (diagB m k (cn .f32 bs[k]) = true) := by show _ = _; simp [diagB, hB, hC, hA.out]
                clear hB
                go_wp2_with fail
                refine (l02Least_eq hA.out _).mono ?_
                rintro e w1 ⟨rfl, hx⟩
                replace X := X.trans hx
                obtain ⟨k0', k1'⟩ := (hbx.ext X).two
                have hc1' := (Below.cell hx (p := ⟨b1, o1 + k, none⟩) hb1).trans hc1
                clear hx k0 k1 hc1
                go_wp2_with (refine wpList_fcmp rfl rfl rfl rfl rfl (by first | with_reducible assumption | exact rfl) ?_)
                go_roundw
                case rel =>
                  refine ⟨k + 1, by omega, by go_num, (fun j hj => ?_), X⟩
                  by_cases hjk : j = k
                  · subst hjk; rw [hg]; exact Hd.out
                  · exact Hn.out j (by omega)
                case measure => simp [intOf]; omega
            · have hB' : ((k : Int) % ((m : Int) + 1) == 0) = false := by
                rw [beq_eq_false_iff_ne, show ((m : Int) + 1) = ((m + 1 : Nat) : Int) from rfl, ← Int.natCast_emod]; omega
              have Hd : Hid (diagB m k (cn .f32 bs[k]) = true) := by show _ = _; simp [diagB, hB, hA.out]
              clear hB
              go_wp2_with fail
              refine (l02Least_eq hA.out _).mono ?_
              rintro e w1 ⟨rfl, hx⟩
              replace X := X.trans hx
              obtain ⟨k0', k1'⟩ := (hbx.ext X).two
              have hc1' := (Below.cell hx (p := ⟨b1, o1 + k, none⟩) hb1).trans hc1
              clear hx k0 k1 hc1
              go_wp2_with (refine wpList_fcmp rfl rfl rfl rfl rfl (by first | with_reducible assumption | exact rfl) ?_)
              go_roundw
              case rel =>
                refine ⟨k + 1, by omega, by go_num, (fun j hj => ?_), X⟩
                by_cases hjk : j = k
                · subst hjk; rw [hg]; exact Hd.out
                · exact Hn.out j (by omega)
              case measure => simp [intOf]; omega
          · replace hA := Lib.hid hA
            have Hd : Hid (diagB m k (cn .f32 bs[k]) = false) := by show _ = _; simp [diagB, hA.out]
            go_wp2_with fail
            refine (l02Least_eq hA.out _).mono ?_
            rintro e w1 ⟨rfl, hx⟩
            replace X := X.trans hx
            obtain ⟨k0', k1'⟩ := (hbx.ext X).two
            have hc1' := (Below.cell hx (p := ⟨b1, o1 + k, none⟩) hb1).trans hc1
            clear hx k0 k1 hc1
            go_wp2_with (refine wpList_fcmp rfl rfl rfl rfl rfl (by first | with_reducible assumption | exact rfl) ?_)
            go_ret
            have H : chainOk m bs = false := by
              have : (List.range bs.length).all (fun i => diagB m i (cn .f32 (bs.getD i 0))) = false := by
                rw [List.all_eq_false]; exact ⟨k, List.mem_range.2 hlt, by rw [hg, Hd.out]; exact Bool.false_ne_true⟩
              simp only [chainOk, Int.toNat_natCast, this, Bool.and_false]
            exact ⟨ret_bool H.symm, X⟩
        · go_wp2_with fail
          go_ret
          have H : chainOk m bs = true := by
            simp only [chainOk, Hin.out, Hlen.out, decide_true, Bool.true_and, List.all_eq_true, List.mem_range]
            exact fun j hj => Hn.out j (by omega)
          exact ⟨ret_bool H.symm, X⟩
    · have H : Hid (chainOk n bs = false) := by show _ = _; simp [chainOk, hlen]
      have Hin := Lib.hid hin
      have hn8 := inB_iff.1 hin
      have h1 : (bs.length : Int) ≤ 1048576 := by omega
      have h2 : 0 ≤ n * n := by
        have := Int.mul_nonneg (show 0 ≤ n by omega) (show 0 ≤ n by omega); exact this
      have h3 : n * n ≤ 64 := by
        have := Int.mul_le_mul hn8.2 hn8.2 (by omega) (by omega); simpa using this
      have hne : ((bs.length : Int) != n * n) = true := by simpa using hlen
      clear hin hlen
      obtain ⟨k0, k1⟩ := hbx.two
      go_enter Try.func112, Try.ntmps112
      go_wp2_with fail
      go_quiet ((go_at_call 104; exact quietL (l00In_eq Hin.out _)))
      go_wp2_with fail
      go_ret
      exact ⟨ret_bool H.out.symm, Ext.drewN _ _⟩

def chainOkI (n : Int) (bs : List Nat) : Bool := inB n 1 8 && decide ((bs.length : Int) = n * n) && (bs.map (cn .f32)).all leastB &&
  (List.range n.toNat).all fun i => !(fcmp .neq .f32 (cn .f32 (bs.getD (i * n.toNat + i) 0)) (cn .f32 0))

theorem areNotLess_eq {v : Value} {bs : List Nat} {c : Bool} (h : (bs.map (cn .f32)).all leastB = c) (w : World) (r : RdF w v bs) : Calls Try.prog 88 #[v] w fun e w' => e = .returned (.bool c) ∧ Ext w w' := by
  subst h; exact areNotLess_any v bs w r

set_option maxHeartbeats 2000000 in
theorem implValidChain_any (n : Int) (v : Value) (bs : List Nat) (w : World) (r : RdF w v bs) (hn : bs.length ≤ 1048576) :
    Calls Try.prog 115 #[.agg #[.int .i64 n, v]] w fun e w' => e = .returned (.bool (chainOkI n bs)) ∧ Ext w w' := by
  have r' := r
  obtain ⟨⟨_, a1, c1, rfl, _, _, _, _⟩, _⟩ := r
  cases hin : inB n 1 8 with
  | false =>
    have H : Hid (chainOkI n bs = false) := by show _ = _; simp [chainOkI, hin]
    have Hin := Lib.hid hin
    clear hin
    go_enter Try.func115, Try.ntmps115
    go_wp2_with fail
    refine (within_eq Hin.out _).mono ?_
    rintro e w1 ⟨rfl, rfl⟩
    go_wp2_with fail
    go_ret
    exact ⟨ret_bool H.out.symm, Ext.alloc _ _⟩
  | true =>
    have hn8 := inB_iff.1 hin
    obtain ⟨m, rfl⟩ := Int.eq_ofNat_of_zero_le (show 0 ≤ n by omega)
    have Hin := Lib.hid hin
    have h1 : (bs.length : Int) ≤ 1048576 := by omega
    have h2 : (0 : Int) ≤ (m : Int) * m := Int.mul_nonneg (by omega) (by omega)
    have h3 : (m : Int) * m ≤ 64 := by
      have := Int.mul_le_mul hn8.2 hn8.2 (by omega) (by omega); simpa using this
    have hm1 : 1 ≤ m := by omega
    have hm8 : m ≤ 8 := by omega
    clear hin hn8
    by_cases hlen : (bs.length : Int) = m * m
    · have hne : ((bs.length : Int) != (m : Int) * m) = false := by simpa using hlen
      have Hlen := Lib.hid hlen
      clear hlen
      rcases Bool.eq_false_or_eq_true ((bs.map (cn .f32)).all leastB) with hA | hA
      · replace hA := Lib.hid hA
        go_enter Try.func115, Try.ntmps115
        go_wp2_with fail
        refine (within_eq Hin.out _).mono ?_
        rintro e w1 ⟨rfl, rfl⟩
        go_wp2_with fail
        refine (areNotLess_eq hA.out _ (r'.ext (Ext.alloc _ _))).mono ?_
        rintro e w1 ⟨rfl, X1⟩
        have b1 : Bx w1 w.heap.size [.int .i64 m, .slice a1 bs.length c1] := (Bx.new w _ _).ext X1
        have X : Ext w w1 := (Ext.alloc _ _).trans X1
        clear X1
        obtain ⟨k0, k1⟩ := b1.two
        go_wp2_with fail
        go_loopw [27] (fun i wr => ∃ k : Nat, k ≤ m ∧ i = .int .i64 k ∧ Hid (∀ j, j < k → fcmp .neq .f32 (cn .f32 (bs.getD (j * m + j) 0)) (cn .f32 0) = false) ∧ Ext w1 wr) (fun i _ => m - (intOf i).toNat)
        case atStart => exact ⟨0, Nat.zero_le _, rfl, fun j h => absurd h (Nat.not_lt_zero _), Ext.refl _⟩
        case round =>
          obtain ⟨k, hk, rfl, Hn, Y⟩ := hrel
          clear k0 k1
          obtain ⟨k0, k1⟩ := (b1.ext Y).two
          by_cases hlt : k < m
          · have hidx : k * m + k < bs.length := by
              have h4 : (k + 1) * m ≤ m * m := Nat.mul_le_mul_right m hlt
              have h5 : (k + 1) * m = k * m + m := Nat.succ_mul k m
              have h6 : bs.length = m * m := by have := Hlen.out; exact_mod_cast this
              omega
            have hg : bs.getD (k * m + k) 0 = bs[k * m + k] := by simp [hidx]
            rcases Bool.eq_false_or_eq_true (fcmp .neq .f32 (cn .f32 bs[k * m + k]) (cn .f32 0)) with hC | hC
            · go_wp2_with fail
              refine (rate_any k k m _ bs _ (r'.ext (X.trans Y)) hidx hn).mono ?_
              rintro e w2 ⟨rfl, hx⟩
              replace Y := Y.trans hx
              clear hx k0 k1
              go_wp2_with (refine wpList_fcmp rfl rfl rfl rfl rfl (by first | with_reducible assumption | exact rfl) ?_)
              go_ret
              have H : chainOkI m bs = false := by
                have : (List.range m).all (fun i => !(fcmp .neq .f32 (cn .f32 (bs.getD (i * m + i) 0)) (cn .f32 0))) = false := by
                  rw [List.all_eq_false]; exact ⟨k, List.mem_range.2 hlt, by rw [hg, hC]; simp⟩
                simp only [chainOkI, Int.toNat_natCast, this, Bool.and_false]
              exact ⟨ret_bool H.symm, X.trans Y⟩
            · go_wp2_with fail
              refine (rate_any k k m _ bs _ (r'.ext (X.trans Y)) hidx hn).mono ?_
              rintro e w2 ⟨rfl, hx⟩
              replace Y := Y.trans hx
              clear hx k0 k1
              have Hg := Lib.hid hg
              clear hg
              go_wp2_with (refine wpList_fcmp rfl rfl rfl rfl rfl (by first | with_reducible assumption | exact rfl) ?_)
              go_roundw
              case rel =>
                refine ⟨k + 1, by omega, by go_num, (fun j hj => ?_), Y⟩
                by_cases hjk : j = k
                · subst hjk; rw [Hg.out]; exact hC
                · exact Hn.out j (by omega)
              case measure => simp [intOf]; omega
          · go_wp2_with fail
            go_ret
            have H : chainOkI m bs = true := by
              simp only [chainOkI, Hin.out, Hlen.out, hA.out, decide_true, Bool.true_and, List.all_eq_true, List.mem_range, Int.toNat_natCast]
              exact fun j hj => by rw [Hn.out j (by omega)]; rfl
            exact ⟨ret_bool H.symm, X.trans Y⟩
      · have H : Hid (chainOkI m bs = false) := by show _ = _; simp only [chainOkI, hA, Bool.and_false, Bool.false_and]
        replace hA := Lib.hid hA
        go_enter Try.func115, Try.ntmps115
        go_wp2_with fail
        refine (within_eq Hin.out _).mono ?_
        rintro e w1 ⟨rfl, rfl⟩
        go_wp2_with fail
        refine (areNotLess_eq hA.out _ (r'.ext (Ext.alloc _ _))).mono ?_
        rintro e w1 ⟨rfl, X1⟩
        go_wp2_with fail
        go_ret
        exact ⟨ret_bool H.out.symm, (Ext.alloc _ _).trans X1⟩
    · have H : Hid (chainOkI m bs = false) := by show _ = _; simp [chainOkI, hlen]
      have hne : ((bs.length : Int) != (m : Int) * m) = true := by simpa using hlen
      clear hlen
      go_enter Try.func115, Try.ntmps115
      go_wp2_with fail
      refine (within_eq Hin.out _).mono ?_
      rintro e w1 ⟨rfl, rfl⟩
      go_wp2_with fail
      go_ret
      exact ⟨ret_bool H.out.symm, Ext.alloc _ _⟩

end Go.Proofs.Ytkkmhckhggggaaa
