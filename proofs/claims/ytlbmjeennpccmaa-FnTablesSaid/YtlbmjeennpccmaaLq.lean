
/- The stable sort of lives: it leaves a sorted permutation. Condition: fewer than 2^20 lives, each with a time that is finite and greater than 0. -/
import Derived.Test.YtlbmjeennpccmaaLm
import Derived.Test.YtlbmjeennpccmaaLo
import Derived.Test.YtlbmjeennpccmaaSN
import Derived.WalkSpells
namespace Go.Proofs.Ytlbmjeennpccmaa
open Go Go.RowKit Go.ChangeShapes Go.WideShapes Go.ChangeAt

theorem merge_any : ∀ N, MergeOk N := by
  intro N
  induction N with
  | zero => intro A X Y Z X0 a m b g cap B L ai mi bi w hN own hX0 ha hm hb hL hz hx hy; omega
  | succ N ih =>
    intro A X Y Z X0 a m b g cap B L ai mi bi w hN own hX0 ha hm hb hL hz hx hy hxo hyo hsx hsy h1 h2 h3
    subst h1; subst h2; subst h3
    by_cases hX1 : X.length = 1
    · obtain ⟨x, rfl⟩ : ∃ x, X = [x] := by
        match X, hX1 with
        | [x], _ => exact ⟨x, rfl⟩
      exact merge_1 A Y Z X0 x a m b g cap B L w own hX0 ha hm hb hL hz (hxo x (by simp)) hyo hsy
    · by_cases hY1 : Y.length = 1
      · obtain ⟨y, rfl⟩ : ∃ y, Y = [y] := by
          match Y, hY1 with
          | [y], _ => exact ⟨y, rfl⟩
        exact merge_2 A X Z X0 y a m b g cap B L w own hX0 ha hm hb hL hz (by omega) (hyo y (by simp)) hxo hsx
      · exact merge_3 N ih A X Y Z X0 a m b g cap B L w hN own hX0 ha hm hb hL hz (by omega) (by omega) hxo hyo hsx hsy

/-- The contract, whatever the lengths. -/
theorem merge_i (A X Y Z X0 : List Lf) (a m b g cap B L : Nat) (ai mi bi : Int) (w : World) (own : OwnL B w g cap X0) (hX0 : X0 = A ++ (X ++ (Y ++ Z))) (ha : A.length = a) (hm : a + X.length = m) (hb : m + Y.length = b) (hL : X0.length = L) (hz : L ≤ 1048576)
    (hx : 0 < X.length) (hy : 0 < Y.length) (hok : AllOk X0) (hsx : Srt keyL X) (hsy : Srt keyL Y) (h1 : ai = a) (h2 : mi = m) (h3 : bi = b) :
    Calls Try.prog 113 #[.slice (some ⟨g, 0, none⟩) L cap, .int .i64 ai, .int .i64 mi, .int .i64 bi, .func (.func 96) #[] #[]] w (Merged A X Y Z g cap B w) :=
  merge_any _ A X Y Z X0 a m b g cap B L ai mi bi w (Nat.le_refl _) own hX0 ha hm hb hL hz hx hy (fun x h => hok x (by rw [hX0]; simp [h])) (fun x h => hok x (by rw [hX0]; simp [h])) hsx hsy h1 h2 h3

set_option maxRecDepth 100000 in
set_option maxHeartbeats 16000000 in
theorem stable_any (ls : List Lf) (g cap B : Nat) (w : World) (own : OwnL B w g cap ls) (hz : ls.length ≤ 1048576) (hok : AllOk ls) :
    Calls Try.prog 108 #[.slice (some ⟨g, 0, none⟩) ls.length cap, .int .i64 ls.length, .func (.func 96) #[] #[]] w fun e w' => e = .returned (.tuple #[]) ∧ w.grownBy w' (some g) ∧ ∃ W, W.Perm ls ∧ Srt keyL W ∧ OwnL B w' g cap W := by
  have hent := cmp_enter
  have HOK := Lib.hid hok
  clear hok
  generalize hn : ls.length = n at *
  have HLN := Lib.hid hn
  clear hn
  obtain ⟨wo, rfl⟩ : ∃ wo : World, wo = w := ⟨_, rfl⟩
  go_enter Try.func108, Try.ntmps108
  go_wp2_with fail
  go_loopw [7, 8] (fun a b wr => ∃ (k p q : Nat) (P R Y : List Lf), p = k * 20 ∧ q = p + 20 ∧ p ≤ n ∧ a = .int .i64 (p : Int) ∧ b = .int .i64 (q : Int) ∧ Hid (P.length = p) ∧ Hid (Y = P ++ R) ∧ Hid (Blk keyL 20 P) ∧ Hid (Y.Perm ls) ∧ wo.grownBy wr (some g) ∧ OwnL B wr g cap Y) (fun a _ _ => n - (intOf a).toNat)
  case atStart => exact ⟨0, 0, 20, [], ls, ls, rfl, rfl, Nat.zero_le _, rfl, rfl, rfl, rfl, blk_nil _, List.Perm.refl _, grownBy_refl _ _, own⟩
  case round =>
    clear own
    obtain ⟨k, p, q, P, R, Y, hp, hq, hpn, rfl, rfl, HP, HY, HB, HPM, G, own⟩ := hrel
    have hYn : Y.length = n := HPM.out.length_eq.trans HLN.out
    have HYN := Lib.hid hYn
    have hRn : p + R.length = n := by have h := HY.out; rw [h, List.length_append, HP.out] at hYn; exact hYn
    have hYok : AllOk Y := HOK.out.perm HPM.out
    have HYOK := Lib.hid hYok
    have HRN := Lib.hid hRn
    have HPK := Lib.hid hp
    have HQ := Lib.hid hq
    clear hYok hYn hRn hp
    by_cases hlt : q ≤ n
    · clear hq
      go_wp2_with fail
      refine (insSort_any P (R.take 20) (R.drop 20) Y p q g cap B n _ _ _ own (by rw [HY.out, List.take_append_drop]) HP.out (by have := HRN.out; have := HQ.out; rw [List.length_take]; omega) HYN.out hz (fun x hx => HYOK.out x (by rw [HY.out]; exact List.mem_append_right _ (List.mem_of_mem_take hx))) rfl rfl).mono ?_
      rintro e w1 ⟨rfl, G1, R1, p1, s1, own1⟩
      have hR1l : R1.length = 20 := by have h1 := HRN.out; have h2 := HQ.out; rw [p1.length_eq, List.length_take]; omega
      have N1 : Hid ((P ++ R1).length = q) := by show _ = _; rw [List.length_append, HP.out, hR1l, HQ.out]
      have N2 : Hid (Blk keyL 20 (P ++ R1)) := blk_app HB.out (blk_one s1 (by omega)) (HP.out.trans HPK.out)
      have N3 : Hid ((P ++ (R1 ++ R.drop 20)).Perm ls) := by
        refine List.Perm.trans ?_ HPM.out
        rw [HY.out]
        refine List.Perm.append_left _ ?_
        have h := List.Perm.append_right (R.drop 20) p1
        rw [List.take_append_drop] at h
        exact h
      have hqb : q + 20 ≤ 2097152 := by omega
      clear own hR1l p1 s1
      go_wp2_with fail
      go_roundw
      case rel => exact ⟨k + 1, q, q + 20, P ++ R1, R.drop 20, _, by have := HPK.out; have := HQ.out; omega, rfl, hlt, rfl, by go_num, N1, by show _ = _; rw [List.append_assoc], N2, N3, G.trans G1, own1⟩
      case measure => have := HQ.out; simp [intOf]; omega
    · have hle : ¬ (q : Int) ≤ (n : Int) := by omega
      go_wp2_with fail
      refine (insSort_any P R [] Y p n g cap B n _ _ _ own (by rw [HY.out, List.append_nil]) HP.out HRN.out HYN.out hz (fun x hx => HYOK.out x (by rw [HY.out]; exact List.mem_append_right _ hx)) rfl rfl).mono ?_
      rintro e w1 ⟨rfl, G1, R1, p1, s1, own1⟩
      have hR1l : R1.length ≤ 20 := by have h1 := HRN.out; rw [p1.length_eq]; omega
      rw [List.append_nil] at own1
      have N2 : Hid (Blk keyL 20 (P ++ R1)) := blk_app HB.out (blk_one s1 hR1l) (HP.out.trans HPK.out)
      have N3 : Hid ((P ++ R1).Perm ls) := by
        refine List.Perm.trans ?_ HPM.out
        rw [HY.out]
        exact List.Perm.append_left _ p1
      replace G := G.trans G1
      generalize P ++ R1 = Y0 at *
      clear own hR1l p1 s1 HB HPM HYN HYOK HRN HPK HQ hq hle hlt HP HY G1
      go_wp2_with fail
      go_loopw [6, 7, 8, 9] (fun bs _ _ _ wr => ∃ (s : Nat) (Y : List Lf), 20 ≤ s ∧ s ≤ 2097152 ∧ bs = .int .i64 (s : Int) ∧ Hid (Blk keyL s Y) ∧ Hid (Y.Perm ls) ∧ wo.grownBy wr (some g) ∧ OwnL B wr g cap Y) (fun bs _ _ _ _ => n - (intOf bs).toNat)
      case atStart => exact ⟨20, Y0, Nat.le_refl _, by omega, rfl, N2, N3, G, own1⟩
      case round =>
        clear own1 N2 N3 G
        obtain ⟨s, Y, hs20, hs2, rfl, HB, HPM, G, own⟩ := hrel
        have HYN : Hid (Y.length = n) := HPM.out.length_eq.trans HLN.out
        by_cases hlt : s < n
        · go_wp2_with fail
          obtain ⟨wz, rfl⟩ : ∃ wz : World, wz = wr := ⟨_, rfl⟩
          go_loopw [7, 8] (fun a b wr => ∃ (k p q : Nat) (P R Y : List Lf), p = k * (2 * s) ∧ q = p + 2 * s ∧ p ≤ n ∧ a = .int .i64 (p : Int) ∧ b = .int .i64 (q : Int) ∧ Hid (P.length = p) ∧ Hid (Y = P ++ R) ∧ Hid (Blk keyL (2 * s) P) ∧ Hid (Blk keyL s R) ∧ Hid (Y.Perm ls) ∧ wo.grownBy wr (some g) ∧ OwnL B wr g cap Y) (fun a _ _ => n - (intOf a).toNat)
          case atStart => exact ⟨0, 0, 2 * s, [], Y, Y, by omega, by omega, Nat.zero_le _, rfl, by go_num, rfl, rfl, blk_nil _, HB, HPM, G, own⟩
          case round =>
            clear own HB HPM G HYN
            obtain ⟨k, p, q, P, R, Y, hp, hq, hpn, rfl, rfl, HP, HY, HB, HBR, HPM, G, own⟩ := hrel
            have HYN : Hid (Y.length = n) := HPM.out.length_eq.trans HLN.out
            have HRN : Hid (p + R.length = n) := by show _ = _; rw [← HYN.out, HY.out, List.length_append, HP.out]
            have HYOK : Hid (AllOk Y) := HOK.out.perm HPM.out
            have HPK := Lib.hid hp
            have HQ := Lib.hid hq
            clear hp
            by_cases hlt2 : q ≤ n
            · have hqn : p + s ≤ n := by omega
              clear hq
              go_wp2_with fail
              refine (merge_i P (R.take s) ((R.drop s).take s) ((R.drop s).drop s) Y p (p + s) q g cap B n _ _ _ _ own (by rw [HY.out, List.take_append_drop, List.take_append_drop]) HP.out (by have := HRN.out; have := HQ.out; rw [List.length_take]; omega) (by have := HRN.out; have := HQ.out; rw [List.length_take, List.length_drop]; omega) HYN.out hz (by have := HRN.out; have := HQ.out; rw [List.length_take]; omega) (by have := HRN.out; have := HQ.out; rw [List.length_take, List.length_drop]; omega) HYOK.out HBR.out.first HBR.out.rest.first rfl (by first | rfl | omega) rfl).mono ?_
              rintro e w2 ⟨rfl, G1, W, p1, s1, own1⟩
              have hWl : W.length = 2 * s := by have h1 := HRN.out; have h2 := HQ.out; rw [p1.length_eq, List.length_append, List.length_take, List.length_take, List.length_drop]; omega
              have N1 : Hid ((P ++ W).length = q) := by show _ = _; rw [List.length_append, HP.out, hWl, HQ.out]
              have N2 : Hid (Blk keyL (2 * s) (P ++ W)) := blk_app HB.out (blk_one s1 (by omega)) (HP.out.trans HPK.out)
              have N4 : Hid (Blk keyL s ((R.drop s).drop s)) := HBR.out.rest.rest
              have N3 : Hid ((P ++ (W ++ (R.drop s).drop s)).Perm ls) := by
                refine List.Perm.trans ?_ HPM.out
                rw [HY.out]
                refine List.Perm.append_left _ ?_
                have h := List.Perm.append_right ((R.drop s).drop s) p1
                rw [List.append_assoc, List.take_append_drop, List.take_append_drop] at h
                exact h
              have hqb : q + 2 * s ≤ 8388608 := by omega
              have hs0 : (0 : Int) ≤ (s : Int) := by omega
              clear own hWl p1 s1
              go_wp2_with fail
              go_roundw
              case rel => exact ⟨k + 1, q, q + 2 * s, P ++ W, (R.drop s).drop s, _, by have := HPK.out; have := HQ.out; rw [Nat.succ_mul]; omega, rfl, hlt2, rfl, by go_num, N1, by show _ = _; rw [List.append_assoc], N2, N4, N3, G.trans G1, own1⟩
              case measure => have := HQ.out; simp [intOf]; omega
            · have hle : ¬ (q : Int) ≤ (n : Int) := by omega
              have hs2b : s * 2 ≤ 4194304 := by omega
              by_cases hm : p + s < n
              · have hm' : (p : Int) + (s : Int) < (n : Int) := by omega
                go_wp2_with fail
                refine (merge_i P (R.take s) (R.drop s) [] Y p (p + s) n g cap B n _ _ _ _ own (by rw [HY.out, List.append_nil, List.take_append_drop]) HP.out (by have := HRN.out; rw [List.length_take]; omega) (by have := HRN.out; rw [List.length_drop]; omega) HYN.out hz (by have := HRN.out; rw [List.length_take]; omega) (by have := HRN.out; rw [List.length_drop]; omega) HYOK.out HBR.out.first (HBR.out.rest.whole (by have := HRN.out; have := HQ.out; rw [List.length_drop]; omega)) rfl (by first | rfl | omega) rfl).mono ?_
                rintro e w2 ⟨rfl, G1, W, p1, s1, own1⟩
                have hWl : W.length ≤ 2 * s := by have h1 := HRN.out; have h2 := HQ.out; rw [p1.length_eq, List.take_append_drop]; omega
                have N2 : Hid (Blk keyL (2 * s) (P ++ W)) := blk_app HB.out (blk_one s1 hWl) (HP.out.trans HPK.out)
                rw [List.append_nil] at own1
                have N3 : Hid ((P ++ W).Perm ls) := by
                  refine List.Perm.trans ?_ HPM.out
                  rw [HY.out]
                  refine List.Perm.append_left _ ?_
                  rw [List.take_append_drop] at p1
                  exact p1
                clear own hWl p1 s1
                go_wp2_with fail
                go_roundw
                case rel => exact ⟨2 * s, P ++ W, by omega, by omega, by go_num, N2, N3, G.trans G1, own1⟩
                case measure => simp [intOf]; omega
              · have hm' : ¬ (p : Int) + (s : Int) < (n : Int) := by omega
                have N2 : Hid (Blk keyL (2 * s) (P ++ R)) := blk_app HB.out (blk_one (HBR.out.whole (by have := HRN.out; omega)) (by have := HRN.out; omega)) (HP.out.trans HPK.out)
                rw [← HY.out] at N2
                go_wp2_with fail
                go_roundw
                case rel => exact ⟨2 * s, Y, by omega, by omega, by go_num, N2, HPM, G, own⟩
                case measure => simp [intOf]; omega
        · go_wp2_with fail
          go_end0
          exact ⟨rfl, G, Y, HPM.out, HB.out.whole (by have := HYN.out; omega), own⟩
end Go.Proofs.Ytlbmjeennpccmaa
/- Lists are copied by append; lives are ordered: what the program and the reference compute is one list. Condition: fewer than 2^20 elements; lives with times that are finite and greater than 0. -/
namespace Go.Proofs.Ytlbmjeennpccmaa
open Go Go.RowKit Go.ChangeShapes Go.WideShapes Go.ChangeAt

attribute [local go_sem] run_store_float
attribute [local irreducible] LX

/-- append of all elements of a list that can be read to a list of the call's own. -/
theorem wpList_all {P : Program} {ops : Array Oper} {rest : List Oper} {o : Oper} {a : Act} {w : World} {Q : Exit → Act → World → Prop} {s x : Operand} {t e : TypeId} {z : Value} {k bytes base n m : Nat} {v sv : Value} {ys xs : List Value}
    (hinfo : (P.info? e).map (fun i => (i.zero, i.size, i.bytes)) = some (some z, k, bytes)) (hz : z.cells.size = k) (hk : 0 < k) (ht : P.underlying t = some (.slice e))
    (hgd : o.guard = none) (ho : o.op = .call { callee := .builtin .append, args := #[s, x], argTypes := #[t, t] })
    (hs : a.eval s = v) (hown : w.ownsRow base e k v n ys) (hx : a.eval x = sv) (r : Rd k w sv m xs) (hm : 0 < m) (h1 : ∀ u ∈ xs, u.oneCell' = true)
    (hn : n + m ≤ 8796093022208) (hb16 : bytes ≤ 16) (hbase : base ≤ w.heap.size)
    (h : ∀ g cap w', base ≤ g → w'.ownsRow base e k (.slice (some ⟨g, 0, none⟩) (n + m) cap) (n + m) (ys ++ xs) → w.grownBy w' v.ownBlock →
      wpList P ops Q rest (a.put o.dst (.slice (some ⟨g, 0, none⟩) (n + m) cap)) w') : wpList P ops Q (o :: rest) a w := by
  obtain ⟨i, hi, i1, i2, i3⟩ := info_parts hinfo
  obtain ⟨hl, a1, c1, rfl, hc1, hc2, hc3, hc4⟩ := r
  obtain ⟨p, rfl⟩ : ∃ p, a1 = some p := by
    cases a1 with
    | none => have := hc3 rfl; omega
    | some p => exact ⟨p, rfl⟩
  have hpos : 0 < m * k := Nat.mul_pos hm hk
  refine wpList_append_own w hgd s x t ho base e i z k bytes ht hi i1 i2 i3 hz hk v n ys hs hown p m c1 xs hx hl ?_ h1 (by simp only [maxLen]; omega) ?_ hbase ?_
  · intro j u hj
    have hjl : j < m * k := by rw [← hl]; exact (List.getElem?_eq_some_iff.1 hj).1
    obtain ⟨g1, g2, g3⟩ := hc4 p rfl j hjl
    have hadd : p.add j = ⟨p.block, p.off + j, none⟩ := by
      obtain ⟨b, off, sp⟩ := p
      simp only at g1; subst g1
      unfold Addr.add; split <;> simp_all
    rw [hadd, g3, hj]
  · have : (n + m) * bytes ≤ 8796093022208 * 16 := Nat.mul_le_mul hn hb16
    omega
  · intro v' w' hown' hg hnil
    obtain ⟨g, cap, rfl, hbg, _⟩ := own_head hown' (by omega)
    exact h g cap w' hbg hown' hg

/-- The same to an empty one. -/
theorem wpList_copy {P : Program} {ops : Array Oper} {rest : List Oper} {o : Oper} {a : Act} {w : World} {Q : Exit → Act → World → Prop} {s x : Operand} {t e : TypeId} {z : Value} {k bytes base m : Nat} {v sv : Value} {xs : List Value}
    (hinfo : (P.info? e).map (fun i => (i.zero, i.size, i.bytes)) = some (some z, k, bytes)) (hz : z.cells.size = k) (hk : 0 < k) (ht : P.underlying t = some (.slice e))
    (hgd : o.guard = none) (ho : o.op = .call { callee := .builtin .append, args := #[s, x], argTypes := #[t, t] })
    (hs : a.eval s = v) (hown : w.ownsRow base e k v 0 []) (hx : a.eval x = sv) (r : Rd k w sv m xs) (hm : 0 < m) (h1 : ∀ u ∈ xs, u.oneCell' = true)
    (hn : m ≤ 8796093022208) (hb16 : bytes ≤ 16) (hbase : base ≤ w.heap.size)
    (h : ∀ g cap w', base ≤ g → w'.ownsRow base e k (.slice (some ⟨g, 0, none⟩) m cap) m xs → w.grownBy w' v.ownBlock →
      wpList P ops Q rest (a.put o.dst (.slice (some ⟨g, 0, none⟩) m cap)) w') : wpList P ops Q (o :: rest) a w := by
  refine wpList_all hinfo hz hk ht hgd ho hs hown hx r hm h1 (by omega) hb16 hbase fun g cap w' hg own hgr => ?_
  rw [Nat.zero_add] at own ⊢
  exact h g cap w' hg own hgr

theorem infoLife : (Try.prog.info? 61).map (fun i => (i.zero, i.size, i.bytes)) = some (some (.agg #[.float .f32 0, .bool false]), 2, 8) := by kernel_rfl
theorem lfs_one (ls : List Lf) : ∀ u ∈ lfs ls, u.oneCell' = true := by
  induction ls with
  | nil => intro u h; cases h
  | cons x l ih => intro u h; rw [lfs_cons] at h; rcases List.mem_cons.1 h with rfl | h
                   · rfl
                   · rcases List.mem_cons.1 h with rfl | h
                     · rfl
                     · exact ih u h

set_option maxHeartbeats 1000000 in
theorem cloneL_any (v : Value) (ls : List Lf) (w : World) (r : RdL w v ls) (h0 : 0 < ls.length) (hz : ls.length ≤ 1048576) :
    Calls Try.prog 94 #[v] w fun e w' => ∃ g cap, e = .returned (.slice (some ⟨g, 0, none⟩) ls.length cap) ∧ OwnL w.heap.size w' g cap ls ∧ Ext w w' := by
  have r' := r
  obtain ⟨b0, o0, hb0, -, -, -⟩ : ∃ b off, (match v with | .slice a _ _ => a | _ => none) = some ⟨b, off, none⟩ ∧ True ∧ True ∧ True := by
    obtain ⟨⟨_, a1, c1, rfl, _⟩, _⟩ := r
    obtain ⟨b, o, h, _⟩ := r'.at h0
    exact ⟨b, o, h, trivial, trivial, trivial⟩
  obtain ⟨⟨-, a1, c1, rfl, -, -, -, -⟩, -⟩ := r
  simp only at hb0
  subst hb0
  have hnil : ∀ W, (binOp .eql 27 (.slice (some ⟨b0, o0, none⟩) ls.length c1) (.slice none 0 0)).run Try.prog W = .ok (.bool false) W := fun W => Lib.run_eql_slice_nil W 27 61 (some ⟨b0, o0, none⟩) ls.length c1 0 0 Try.underlying27
  go_enter Try.func94, Try.ntmps94
  go_wp2_with (at_builtin; refine wpList_copy infoLife rfl (by decide) Try.underlying27 rfl rfl rfl (World.ownsRow_lit (base := w.heap.size) (e := 61) (size := 2) w #[] 0 (Nat.le_refl _) (by decide) rfl) rfl (r'.1.alloc _) h0 (lfs_one ls) (by omega) (by decide) (by simp) ?_; intro g cap w' hg own hgr)
  go_ret
  exact ⟨g, cap, rfl, own, (below_alloc w _).grown hgr (by simp) (fun k hk => by cases hk; exact Nat.le_refl _)⟩

/-- Lives in order. -/
def ordL (ls : List Lf) : List Lf := ls.mergeSort fun x y => decide (keyL x ≤ keyL y)
theorem ordL_perm (ls : List Lf) : (ordL ls).Perm ls := List.mergeSort_perm _ _
theorem ordL_srt (ls : List Lf) : Srt keyL (ordL ls) := by
  have h := List.pairwise_mergeSort (le := fun x y => decide (keyL x ≤ keyL y)) (fun a b c h1 h2 => by simp only [decide_eq_true_eq] at *; omega) (fun a b => by simp only [Bool.or_eq_true, decide_eq_true_eq]; omega) ls
  exact List.Pairwise.imp (fun h => by simpa using h) h
theorem ordL_eq {W ls : List Lf} (p : W.Perm ls) (s : Srt keyL W) : W = ordL ls := srt_one_list keyL_inj s (ordL_srt ls) (p.trans (ordL_perm ls).symm)
theorem ordL_len (ls : List Lf) : (ordL ls).length = ls.length := (ordL_perm ls).length_eq

theorem sortStable_any (ls : List Lf) (g cap B : Nat) (w : World) (own : OwnL B w g cap ls) (hz : ls.length ≤ 1048576) (hok : AllOk ls) :
    Calls Try.prog 95 #[.slice (some ⟨g, 0, none⟩) ls.length cap, .func (.func 96) #[] #[]] w fun e w' => e = .returned (.tuple #[]) ∧ w.grownBy w' (some g) ∧ OwnL B w' g cap (ordL ls) := by
  have H := Lib.hid (stable_any ls g cap B w own hz hok)
  clear own hok
  go_enter Try.func95, Try.ntmps95
  go_wp2_with fail
  refine H.out.mono ?_
  rintro e w1 ⟨rfl, G, W, p, s, own⟩
  go_wp2_with fail
  go_end0
  rw [ordL_eq p s] at own
  exact ⟨rfl, G, own⟩
theorem ordered_any (v : Value) (ls : List Lf) (w : World) (r : RdL w v ls) (h0 : 0 < ls.length) (hz : ls.length ≤ 1048576) (hok : AllOk ls) :
    Calls Try.prog 71 #[v] w fun e w' => ∃ g cap, e = .returned (.slice (some ⟨g, 0, none⟩) ls.length cap) ∧ OwnL w.heap.size w' g cap (ordL ls) ∧ Ext w w' := by
  have HOK := Lib.hid hok
  have r' := r
  clear hok
  obtain ⟨⟨-, a1, c1, rfl, -, -, -, -⟩, -⟩ := r
  go_enter Try.func71, Try.ntmps71
  go_wp2_with fail
  refine (cloneL_any _ ls _ r' h0 hz).mono ?_
  rintro e w1 ⟨g, cap, rfl, own, X⟩
  go_wp2_with fail
  refine (sortStable_any ls g cap _ _ own hz HOK.out).mono ?_
  rintro e w2 ⟨rfl, G, own2⟩
  have hb := own.lt.1
  clear own
  go_wp2_with fail
  go_ret
  exact ⟨g, cap, rfl, own2, Below.trans X (grown_ext G hb X.size)⟩

theorem OwnL.other {B : Nat} {w : World} {g cap b j : Nat} {u : Value} {ls : List Lf} (h : OwnL B w g cap ls) (hne : b ≠ g) : OwnL B (w.setCell ⟨b, j, none⟩ u) g cap ls :=
  World.ownsRow.kept h (grownBy_setCell w b j u) (.inr fun he => by simp [Value.ownBlock] at he; exact hne he.symm)

set_option maxRecDepth 100000 in
set_option maxHeartbeats 8000000 in
theorem l02Order_any (v : Value) (ls : List Lf) (w : World) (r : RdL w v ls) (h0 : 0 < ls.length) (hz : ls.length ≤ 1048576) (hok : AllOk ls) :
    Calls Try.prog 69 #[v] w fun e w' => ∃ g cap, e = .returned (.slice (some ⟨g, 0, none⟩) ls.length cap) ∧ OwnL w.heap.size w' g cap (ordL ls) ∧ Ext w w' := by
  have HOK := Lib.hid hok
  have r' := r
  clear hok
  obtain ⟨⟨-, a1, c1, rfl, -, -, -, -⟩, -⟩ := r
  go_enter Try.func69, Try.ntmps69
  go_wp2_with (at_builtin; refine wpList_copy infoLife rfl (by decide) Try.underlying27 rfl rfl rfl (World.ownsRow_lit (base := w.heap.size) (e := 61) (size := 2) w #[] 0 (Nat.le_refl _) (by decide) rfl) rfl (r'.1.alloc _) h0 (lfs_one ls) (by omega) (by decide) (by simp) ?_; intro g cap w1 hg own hgr)
  replace own : OwnL w.heap.size w1 g cap ls := own
  have X : Ext w w1 := (below_alloc w _).grown hgr (by simp) (fun k hk => by cases hk; exact Nat.le_refl _)
  have HBW : Hid (w.heap.size ≤ w.heap.size) := Nat.le_refl _
  clear hgr
  generalize hn : ls.length = n at *
  have HLN := Lib.hid hn
  clear hn
  generalize hBB : w.heap.size = B at own
  have HBB := Lib.hid hBB
  clear hBB hg
  go_wp2_with fail
  have HB1 : Hid (B ≤ w1.heap.size) := by show B ≤ _; rw [← HBB.out]; exact X.size
  obtain ⟨wo, rfl⟩ : ∃ wo : World, wo = w1 := ⟨_, rfl⟩
  go_loopw [4] (fun i wr => ∃ (k : Nat) (Y : List Lf), 1 ≤ k ∧ k ≤ n + 1 ∧ i = .int .i64 (k : Int) ∧ Hid (Y.Perm ls) ∧ Hid (Srt keyL (Y.take k)) ∧ Below B wo wr ∧ OwnL B wr g cap Y) (fun i _ => n + 1 - (intOf i).toNat)
  case atStart => exact ⟨1, ls, Nat.le_refl _, by omega, rfl, List.Perm.refl _, (by show Srt _ _; cases ls with | nil => exact srt_nil | cons x l => exact srt_one x), Below.refl _ _, own⟩
  case round =>
    clear own
    obtain ⟨k, Y, hk1, hk2, rfl, HP, HS, G, own⟩ := hrel
    have hYl : Y.length = n := HP.out.length_eq.trans HLN.out
    by_cases hlt : k < n
    · obtain ⟨x, hx⟩ : ∃ x, x = Y[k]'(by omega) := ⟨_, rfl⟩
      have hsp : Y = Y.take k ++ x :: Y.drop (k + 1) := by
        rw [hx, ← List.drop_eq_getElem_cons (by omega), List.take_append_drop]
      obtain ⟨T, hT⟩ : ∃ T, T = Y.take k := ⟨_, rfl⟩
      obtain ⟨R, hR⟩ : ∃ R, R = Y.drop (k + 1) := ⟨_, rfl⟩
      have hTl : T.length = k := by rw [hT, List.length_take]; omega
      rw [← hT, ← hR] at hsp
      rw [← hT] at HS
      have hYe : Y = upL [] T R x k := by
        rw [hsp]; unfold upL
        rw [List.take_of_length_le (by omega), List.drop_of_length_le (by omega)]; rfl
      have hokx : okL x := HOK.out x (HP.out.mem_iff.1 (by rw [hx]; exact List.getElem_mem _))
      have hokT : AllOk T := fun y hy => HOK.out y (HP.out.mem_iff.1 (by rw [hsp]; exact List.mem_append_left _ hy))
      have hperm : (T ++ x :: R).Perm ls := by rw [← hsp]; exact HP.out
      have HPM := Lib.hid hperm
      have HYE := Lib.hid hYe
      have HKX := Lib.hid hokx
      have HKT := Lib.hid hokT
      have HTL := Lib.hid hTl
      have HL := Lib.hid hYl
      clear hperm hYe hokx hokT hsp hx hT hR HP hTl hYl
      go_wp2_with fail
      obtain ⟨wz, rfl⟩ : ∃ wz : World, wz = wr := ⟨_, rfl⟩
      go_loopw [5] (fun j wr => ∃ (t : Nat) (Y : List Lf), t ≤ k ∧ j = .int .i64 (t : Int) ∧ Hid (Y = upL [] T R x t) ∧ Hid (Y.length = n) ∧ Hid (∀ h : t < T.length, keyL x ≤ keyL T[t]) ∧ Below B wo wr ∧ OwnL B wr g cap Y) (fun j _ => (intOf j).toNat)
      case atStart => exact ⟨k, Y, Nat.le_refl _, rfl, HYE, HL, (fun h => by have := HTL.out; omega), G, own⟩
      case round =>
        clear own HL G HYE
        obtain ⟨t, Y, ht, rfl, HYE, HL, HB, G, own⟩ := hrel
        have hTL := HTL.out
        have hins : ∀ (_ : ∀ (_ : 0 < t), keyL (T[t - 1]'(by omega)) ≤ keyL x), Hid (Y.Perm ls) ∧ Hid (Srt keyL (Y.take (k + 1))) := fun h1 => by
          have e0 : Y = T.take t ++ x :: (T.drop t ++ R) := HYE.out
          constructor
          · show List.Perm _ _
            rw [e0]
            refine List.Perm.trans ?_ HPM.out
            have h := (upL_perm [] T [] x t).append_right R
            simp only [List.append_assoc, List.cons_append] at h
            exact h.trans ((List.perm_middle (a := x) (l₁ := T) (l₂ := R)).symm)
          · show Srt _ _
            have e : Y.take (k + 1) = T.take t ++ x :: T.drop t := by
              have : T.take t ++ x :: (T.drop t ++ R) = (T.take t ++ x :: T.drop t) ++ R := by simp only [List.append_assoc, List.cons_append]
              rw [e0, this, List.take_append_of_le_length (by rw [List.length_append, List.length_cons, List.length_take, List.length_drop]; omega), List.take_of_length_le (by rw [List.length_append, List.length_cons, List.length_take, List.length_drop]; omega)]
            rw [e]
            exact srt_ins HS.out t (by omega) h1 (fun h => HB.out h)
        by_cases h0 : t = 0
        · have hd2 : ¬ (0 : Int) < (t : Int) := by omega
          have hd3 : (t : Int) ≤ 0 := by omega
          have hd4 : ¬ 0 < t := by omega
          obtain ⟨N1, N2⟩ := hins (fun h => by omega)
          clear hins h0 hTL
          go_wp2_with fail
          refine wp_region_rel 14 (fun _ _ => True) (fun _ _ _ => True) (by kernel_rfl) (by kernel_rfl) (by kernel_rfl) ?_
          dsimp only [List.take, List.drop, List.length]
          refine LX_det (.int .i64 t) (by kernel_rfl) rfl (fun w' hx _ => ?_) ?_
          · go_simp
          refine LX_det (.bool false) (by kernel_rfl) rfl (fun w' hx _ => ?_) ?_
          · go_simp
          refine LX_det (.bool false) (by kernel_rfl) rfl (fun w' hx _ => ?_) ?_
          · go_simp
          iterate 10 refine LX_skip (by kernel_rfl) ?_
          refine LX_det (.bool false) (by kernel_rfl) rfl (fun w' hx _ => ?_) ?_
          · go_simp
          refine LX_nil fun w2 hx _ => ?_
          refine wpList_nil ?_
          simp only [Act.put, List.setIfInBounds_toArray, List.set_cons_succ, List.set_cons_zero]
          replace G := Below.trans G (Below.mono hx (by have := own.lt; omega))
          replace own := own.ext hx
          clear hx
          go_wp2_with fail
          go_roundw
          case rel => exact ⟨k + 1, Y, by omega, by omega, by go_num, N1, N2, G, own⟩
          case measure => simp [intOf]; omega
        · obtain ⟨q, rfl⟩ : ∃ q, t = q + 1 := ⟨t - 1, by omega⟩
          have hYl := HL.out
          have hpL : q + 1 < n := by omega
          have hxo : Y[q + 1]? = some x := by
            rw [HYE.out]; unfold upL
            rw [List.nil_append, List.getElem?_append_right (by rw [List.length_take]; omega)]
            have : q + 1 - (T.take (q + 1)).length = 0 := by rw [List.length_take]; omega
            rw [this]; rfl
          have hyo : Y[q]? = some (T[q]'(by omega)) := by
            rw [HYE.out]; unfold upL
            rw [List.nil_append, List.getElem?_append_left (by rw [List.length_take]; omega), List.getElem?_take, if_pos (by omega), List.getElem?_eq_getElem (by omega)]
          have hxe : Y[q + 1]'(by omega) = x := by
            have h := List.getElem?_eq_getElem (l := Y) (i := q + 1) (by omega)
            rw [hxo] at h; exact (Option.some.inj h).symm
          have hye : Y[q]'(by omega) = T[q]'(by omega) := by
            have h := List.getElem?_eq_getElem (l := Y) (i := q) (by omega)
            rw [hyo] at h; exact (Option.some.inj h).symm
          clear hxo hyo
          have hsw2 : swp2 Y (q + 1) q = upL [] T R x q := by
            have h := upL_down (A := ([] : List Lf)) (Z := R) (x := x) (i := q) (a := 0) rfl (show q < T.length by omega)
            rw [Nat.zero_add] at h
            rw [HYE.out]; exact h
          have hset : (Y.set (q + 1) (Y[q]'(by omega))).set q (Y[q + 1]'(by omega)) = upL [] T R x q := by rw [← hsw2, swp2_eq (by omega) (by omega)]
          have hcl : ∀ W : World, OwnL B W g cap Y → (W.cell? ⟨g, (q + 1) * 2, none⟩ = some (.float .f32 (Y[q + 1]'(by omega)).1) ∧ W.cell? ⟨g, (q + 1) * 2 + 1, none⟩ = some (.bool (Y[q + 1]'(by omega)).2)) ∧
              (W.cell? ⟨g, q * 2, none⟩ = some (.float .f32 (Y[q]'(by omega)).1) ∧ W.cell? ⟨g, q * 2 + 1, none⟩ = some (.bool (Y[q]'(by omega)).2)) := fun W o => ⟨o.cells (k := q + 1) (by omega), o.cells (k := q) (by omega)⟩
          rw [hxe, hye] at hcl hset
          have HCL := Lib.hid hcl
          have HSET := Lib.hid hset
          have HL2 : Hid ((upL [] T R x q).length = n) := by show _ = _; rw [← hsw2, swp2_len]; exact hYl
          have hoky : okL (T[q]'(by omega)) := HKT.out _ (List.getElem_mem _)
          have HOY := Lib.hid hoky
          have hins2 : ¬ keyL x < keyL (T[q]'(by omega)) → Hid (Y.Perm ls) ∧ Hid (Srt keyL (Y.take (k + 1))) := fun h => hins (fun _ => by simp only [Nat.add_sub_cancel]; omega)
          have hbnd : keyL x < keyL (T[q]'(by omega)) → ∀ h : q < T.length, keyL x ≤ keyL T[q] := fun h _ => Nat.le_of_lt h
          generalize T[q]'(by omega) = y at *
          obtain ⟨⟨cp0, cp1⟩, cq0, cq1⟩ := HCL.out wr own
          have hgl := own.lt.2
          have hgB := own.lt.1
          have s1 : IntKind.i64.wrap (q : Int) = (q : Int) := IntWalk.i64_in _ (by omega)
          have l1 : ((q + 1 : Nat) : Int) < (n : Int) := by omega
          have l2 : (q : Int) < (n : Int) := by omega
          have l4 : 0 < q + 1 := by omega
          have l3 : (0 : Int) < ((q + 1 : Nat) : Int) := by omega
          have HINS := Lib.hid hins2
          have HBND := Lib.hid hbnd
          clear hins hins2 hbnd hoky hsw2 hxe hye hTL h0 hcl hset hYl
          have np1 : ¬ (q + 1 = q) := by omega
          have np2 : ¬ (q = q + 1) := by omega
          have hm1 : ((q + 1 : Nat) : Int) - 1 = (q : Int) := by omega
          generalize hP : q + 1 = P at *
          have HP' := Lib.hid hP
          clear hP
          go_wp2_with fail
          refine wp_region_rel 13 (fun _ v => v = .bool (befL x y)) (fun _ _ _ => True) (by kernel_rfl) (by kernel_rfl) (by kernel_rfl) ?_
          dsimp only [List.take, List.drop, List.length]
          refine LX_det (.int .i64 P) (by kernel_rfl) rfl (fun w' hx _ => ?_) ?_
          · go_simp
          refine LX_det (.bool true) (by kernel_rfl) rfl (fun w' hx _ => ?_) ?_
          · go_simp
          refine LX_det (.bool true) (by kernel_rfl) rfl (fun w' hx _ => ?_) ?_
          · go_simp
          refine LX_det (.slice (some ⟨g, 0, none⟩) n cap) (by kernel_rfl) rfl (fun w' hx _ => ?_) ?_
          · go_simp
          refine LX_det (.int .i64 P) (by kernel_rfl) rfl (fun w' hx _ => ?_) ?_
          · go_simp
          refine LX_det (.pointer (some ⟨g, P * 2, none⟩)) (by kernel_rfl) rfl (fun w' hx _ => ?_) ?_
          · go_simp
          refine LX_det (.agg #[.float .f32 x.1, .bool x.2]) (by kernel_rfl) rfl (fun w' hx _ => ?_) ?_
          · have m0 := (Below.cell hx (p := ⟨g, P * 2, none⟩) hgl).trans cp0; have m1 := (Below.cell hx (p := ⟨g, P * 2 + 1, none⟩) hgl).trans cp1
            go_simp
          refine LX_det (.slice (some ⟨g, 0, none⟩) n cap) (by kernel_rfl) rfl (fun w' hx _ => ?_) ?_
          · go_simp
          refine LX_det (.int .i64 P) (by kernel_rfl) rfl (fun w' hx _ => ?_) ?_
          · go_simp
          refine LX_det (.int .i64 q) (by kernel_rfl) rfl (fun w' hx _ => ?_) ?_
          · go_simp
          refine LX_det (.pointer (some ⟨g, q * 2, none⟩)) (by kernel_rfl) rfl (fun w' hx _ => ?_) ?_
          · go_simp
          refine LX_det (.agg #[.float .f32 y.1, .bool y.2]) (by kernel_rfl) rfl (fun w' hx _ => ?_) ?_
          · have m0 := (Below.cell hx (p := ⟨g, q * 2, none⟩) hgl).trans cq0; have m1 := (Below.cell hx (p := ⟨g, q * 2 + 1, none⟩) hgl).trans cq1
            go_simp
          refine LX_call (by kernel_rfl) rfl (fun _ => St.top) (fun w' hx _ => ?_) ?_
          · go_simp
            refine UponC.enter ((l02Before_any x y HKX.out HOY.out _).mono ?_)
            rintro e w'' ⟨rfl, hx'⟩
            exact ⟨_, rfl, hx', rfl, trivial⟩
          rintro _ rfl
          refine LX_nil fun w2 hx _ => ?_
          simp only [Act.put, List.setIfInBounds_toArray, List.set_cons_succ, List.set_cons_zero]
          replace G := Below.trans G (Below.mono hx (by omega))
          replace own := own.ext hx
          clear hx cp0 cp1 cq0 cq1 hgl s1
          by_cases hk : keyL x < keyL y
          · have hneg : befL x y = true := by unfold befL; exact decide_eq_true hk
            have HB2 := Lib.hid (HBND.out hk)
            clear hk
            generalize befL x y = c at *
            subst hneg
            obtain ⟨⟨cp0, cp1⟩, cq0, cq1⟩ := HCL.out _ own
            have hgl := own.lt.2
            have fa0 := own.frozen (P * 2)
            have fa1 := own.frozen (P * 2 + 1)
            have fb0 := own.frozen (q * 2)
            have fb1 := own.frozen (q * 2 + 1)
            obtain ⟨xa, xb⟩ := x
            obtain ⟨ya, yb⟩ := y
            simp only at cp0 cp1 cq0 cq1
            have hgne : ¬ (g = w2.heap.size) := by omega
            have hgne2 : ¬ (w2.heap.size = g) := by omega
            go_wp2_with fail
            go_roundw
            case rel =>
              refine ⟨q, _, by have := HP'.out; omega, by go_num, rfl, HL2, HB2, ?_, ?_⟩
              · have h4 : Below B wo ((((w2.setCell ⟨g, P * 2, none⟩ (.float .f32 ya)).setCell ⟨g, P * 2 + 1, none⟩ (.bool yb)).setCell ⟨g, q * 2, none⟩ (.float .f32 xa)).setCell ⟨g, q * 2 + 1, none⟩ (.bool xb)) :=
                  by refine Below.setCell (Below.setCell (Below.setCell (Below.setCell G ?_ _) ?_ _) ?_ _) ?_ _ <;> exact hgB
                exact h4.alloc (Nat.le_trans HB1.out h4.size) _
              · have o1 := ((own.put P (ya, yb)).put q (xa, xb)).ext (Ext.alloc _ (.cells #[.float .f32 xa, .bool xb] 61))
                rw [HSET.out] at o1
                exact o1
            case measure => have := HP'.out; simp [intOf]; omega
          · have hneg : befL x y = false := by unfold befL; exact decide_eq_false hk
            obtain ⟨N1, N2⟩ := HINS.out hk
            clear hk
            generalize befL x y = c at *
            subst hneg
            go_wp2_with fail
            go_roundw
            case rel => exact ⟨k + 1, Y, by omega, by omega, by go_num, N1, N2, G, own⟩
            case measure => simp [intOf]; omega
    · have hge : ¬ (k : Int) < (n : Int) := by omega
      go_wp2_with fail
      go_ret
      have h := HS.out
      rw [List.take_of_length_le (by omega)] at h
      rw [ordL_eq HP.out h] at own
      refine ⟨g, cap, ?_, ?_, ?_⟩
      · rw [HLN.out]; rfl
      · rw [HBB.out]; exact own
      · exact Below.trans X (by rw [HBB.out]; exact G)
end Go.Proofs.Ytlbmjeennpccmaa
