
/- The diagram of a tree as the reference finds it. Condition: lists of gates that can be read. -/
import Derived.Test.YtgmdoboeenpjpaaZ4
namespace Go.Proofs.Ytgmdoboeenpjpaa
open Go Go.RowKit Go.ChangeShapes Go.WideShapes Go.ChangeAt

attribute [local irreducible] LX

theorem idx_first {t : Nd} : ∀ (L : List Nd) (j : Nat) (h : j < L.length), (∀ m (hm : m < j), L[m]'(by omega) ≠ t) → L[j] = t → L.idxOf t = j
  | a :: l, 0, _, _, e => by
    simp only [List.getElem_cons_zero] at e
    subst e
    exact List.idxOf_cons_self
  | a :: l, j + 1, h, hm, e => by
    have ha : a ≠ t := hm 0 (by omega)
    have ih := idx_first l j (by simpa using h) (fun m h2 => by simpa using hm (m + 1) (by omega)) (by simpa using e)
    have hb : (a == t) = false := by simpa using ha
    rw [List.idxOf_cons, hb, ih]; rfl
theorem not_mem_all {t : Nd} {L : List Nd} (h : ∀ m (hm : m < L.length), L[m] ≠ t) : t ∉ L := fun hm => by
  obtain ⟨i, hi, e⟩ := List.getElem_of_mem hm
  exact h i hi e

/-- Where the reference keeps what it tells. -/
structure StS (w0 : World) (P bd : Nat) (tv : Value) (W : World) (L : List Nd) : Prop where
  x : Ext w0 W
  b : w0.heap.size ≤ bd
  sz : bd + 1 ≤ W.heap.size
  ct : W.cell? ⟨bd, 0, none⟩ = some tv
  cp : W.cell? ⟨bd, 1, none⟩ = some (.int .i64 P)
  out : ∃ v, W.cell? ⟨bd, 2, none⟩ = some v ∧ OutN (bd + 1) W v L
  fo : W.frozen? ⟨bd, 2, none⟩ = false
theorem StS.ext {w0 : World} {P bd : Nat} {tv : Value} {W W' : World} {L : List Nd} (h : StS w0 P bd tv W L) (hx : Ext W W') : StS w0 P bd tv W' L := by
  have hb : bd < W.heap.size := h.sz
  obtain ⟨v, hv, ho⟩ := h.out
  exact ⟨h.x.trans hx, h.b, Nat.le_trans h.sz hx.size, (Below.cell hx (p := ⟨bd, 0, none⟩) hb).trans h.ct, (Below.cell hx (p := ⟨bd, 1, none⟩) hb).trans h.cp, ⟨v, (Below.cell hx (p := ⟨bd, 2, none⟩) hb).trans hv, ho.ext hx⟩, (Below.frozen hx (p := ⟨bd, 2, none⟩) hb).trans h.fo⟩
theorem StS.stored {w0 : World} {P bd : Nat} {tv : Value} {W W6 : World} {L L' : List Nd} {u : Value} (h : StS w0 P bd tv W L) (hx : Below (bd + 1) W W6) (ho : OutN (bd + 1) W6 u L') : StS w0 P bd tv (W6.setCell ⟨bd, 2, none⟩ u) L' := by
  have hb := h.b
  obtain ⟨v, hv, -⟩ := h.out
  have hc : ∀ j (v : Value), j ≠ 2 → W.cell? ⟨bd, j, none⟩ = some v → (W6.setCell ⟨bd, 2, none⟩ u).cell? ⟨bd, j, none⟩ = some v := fun j v h2 h3 =>
    (World.cell?_setCell_other _ _ _ _ (fun e => h2 (by injection e with _ e; exact e.symm))).trans ((hx.cell (p := ⟨bd, j, none⟩) (Nat.lt_succ_self bd)).trans h3)
  have hco := (hx.cell (p := ⟨bd, 2, none⟩) (Nat.lt_succ_self bd)).trans hv
  refine ⟨(Below.trans h.x (Below.mono hx (by omega))).setCell hb _, hb, Nat.le_trans (Nat.le_trans h.sz hx.size) (Below.setCell (Below.refl bd W6) (Nat.le_refl _) u).size, hc 0 _ (by decide) h.ct, hc 1 _ (by decide) h.cp, ⟨u, World.cell?_setCell_same' _ _ _ (by rw [hco]; rfl), ?_⟩, ?_⟩
  · exact ho.below fun b h1 h2 => Below.heap_setCell _ _ _ b (by show b ≠ bd; omega)
  · rw [World.frozen?_setCell]
    exact (hx.frozen (p := ⟨bd, 2, none⟩) (Nat.lt_succ_self bd)).trans h.fo
theorem OutN.cells {B : Nat} {w : World} {v : Value} {L : List Nd} (h : OutN B w v L) {j : Nat} (hj : j < L.length) : ∃ g cap, v = .slice (some ⟨g, 0, none⟩) (3 * L.length) cap ∧
    w.cell? ⟨g, 3 * j, none⟩ = some (.int .i64 L[j].1) ∧ w.cell? ⟨g, 3 * j + 1, none⟩ = some (.int .i64 L[j].2.1) ∧ w.cell? ⟨g, 3 * j + 2, none⟩ = some (.int .i64 L[j].2.2) := by
  rcases h with ⟨rfl, -⟩ | ⟨-, own⟩
  · simp at hj
  · have own' := own
    obtain ⟨g, cap, rfl, -, -⟩ := own_head own' (by omega)
    obtain ⟨f0, f1, f2⟩ := flatN_at L j hj
    refine ⟨g, cap, rfl, ?_, ?_, ?_⟩
    · rw [own.cellAt (3 * j) (by omega), List.getElem?_map, f0]; rfl
    · rw [own.cellAt (3 * j + 1) (by omega), List.getElem?_map, f1]; rfl
    · rw [own.cellAt (3 * j + 2) (by omega), List.getElem?_map, f2]; rfl
theorem OutN.shape {B : Nat} {w : World} {v : Value} {L : List Nd} (h : OutN B w v L) : ∃ a c, v = .slice a (3 * L.length) c := by
  rcases h with ⟨rfl, g0, rfl⟩ | ⟨-, own⟩
  · exact ⟨_, _, rfl⟩
  · exact own_shape own

set_option maxRecDepth 100000 in
set_option maxHeartbeats 8000000 in
theorem node_any (p : Int) (P : Nat) (gs : List Gt) (tv : Value) (w0 : World) (bd : Nat) (r : RdG w0 tv gs) (ht : treeOk p gs = true) (hP : P ≤ 10) :
    ∀ (k place set : Nat) (L : List Nd) (W : World), place + k = P → set < 2 ^ place → L.length + 2 ^ k ≤ 2048 → StS w0 P bd tv W L →
      Calls Try.prog 91 #[.pointer (some ⟨bd, 0, none⟩), .int .i64 place, .int .i64 set] W fun e W' =>
        e = .returned (.int .i64 (tellP (failN gs) k place set L).1) ∧ StS w0 P bd tv W' (tellP (failN gs) k place set L).2 := by
  intro k
  induction k with
  | zero =>
    intro place set L W hpl hset hlen st
    obtain rfl : place = P := by omega
    have hs10 : set < 1024 := by have := (pow10N hP).2.2.2; omega
    have r' := r.ext st.x
    obtain ⟨⟨-, a1, c1, rfl, -, -, -, -⟩, -⟩ := r
    have HL : Hid ((tellP (failN gs) 0 place set L).2 = L) := rfl
    have HF := Lib.hid (l03Fails_any p set _ gs W r' ht (by omega) (by omega))
    have cp := st.cp
    have ct := st.ct
    have ST := Lib.hid st
    have HFN : Hid (failB gs (set : Int) = failN gs set) := rfl
    rw [HL.out]
    cases hf : failN gs set
    · have HR : Hid ((tellP (failN gs) 0 place set L).1 = -1) := by show _ = _; unfold tellP; rw [hf]; rfl
      have HFF := Lib.hid hf
      clear HL hlen st hf
      go_enter Try.func91, Try.ntmps91
      go_wp2_with fail
      refine HF.out.mono ?_
      rintro e w1 ⟨rfl, hx⟩
      rw [HFN.out, HFF.out]
      go_wp2_with fail
      go_ret
      exact ⟨by rw [HR.out]; rfl, ST.out.ext hx⟩
    · have HR : Hid ((tellP (failN gs) 0 place set L).1 = -2) := by show _ = _; unfold tellP; rw [hf]; rfl
      have HFF := Lib.hid hf
      clear HL hlen st hf
      go_enter Try.func91, Try.ntmps91
      go_wp2_with fail
      refine HF.out.mono ?_
      rintro e w1 ⟨rfl, hx⟩
      rw [HFN.out, HFF.out]
      go_wp2_with fail
      go_ret
      exact ⟨by rw [HR.out]; rfl, ST.out.ext hx⟩
  | succ k ih =>
    intro place set L W hpl hset hlen st
    have hlt : place < P := by omega
    have hp2 : 2 ^ (k + 1) = 2 ^ k + 2 ^ k := by rw [Nat.pow_succ]; omega
    have hpp : 2 ^ (place + 1) = 2 ^ place + 2 ^ place := by rw [Nat.pow_succ]; omega
    obtain ⟨q1, q2, q3, q4⟩ := pow10N (p := place) (by omega)
    have hpi : (place : Int) < 64 := by omega
    have hne : ¬ (place : Int) = (P : Int) := by omega
    have hw1 : IntKind.i64.wrap ((place : Int) + 1) = ((place + 1 : Nat) : Int) := by rw [show (place : Int) + 1 = ((place + 1 : Nat) : Int) by omega]; exact wrap_nat _ (by omega)
    have l1 := tellP_len (failN gs) k (place + 1) set L
    have l2 := tellP_len (failN gs) k (place + 1) (set + 2 ^ place) (tellP (failN gs) k (place + 1) set L).2
    have HDEF : Hid (tellP (failN gs) (k + 1) place set L = if (tellP (failN gs) k (place + 1) set L).1 = (tellP (failN gs) k (place + 1) (set + 2 ^ place) (tellP (failN gs) k (place + 1) set L).2).1
      then ((tellP (failN gs) k (place + 1) set L).1, (tellP (failN gs) k (place + 1) (set + 2 ^ place) (tellP (failN gs) k (place + 1) set L).2).2)
      else nodeP ((place : Int), (tellP (failN gs) k (place + 1) set L).1, (tellP (failN gs) k (place + 1) (set + 2 ^ place) (tellP (failN gs) k (place + 1) set L).2).1) (tellP (failN gs) k (place + 1) (set + 2 ^ place) (tellP (failN gs) k (place + 1) set L).2).2) := rfl
    have I1 := ih (place + 1) set L W (by omega) (by omega) (by omega) st
    have I2 := Lib.hid (fun W' => ih (place + 1) (set + 2 ^ place) (tellP (failN gs) k (place + 1) set L).2 W' (by omega) (by omega) (by omega))
    clear ih
    generalize hx1 : tellP (failN gs) k (place + 1) set L = x1 at *
    obtain ⟨lo, L1⟩ := x1
    simp only at *
    generalize hx2 : tellP (failN gs) k (place + 1) (set + 2 ^ place) L1 = x2 at *
    obtain ⟨hi, L2⟩ := x2
    simp only at *
    clear hx1 hx2
    generalize tellP (failN gs) (k + 1) place set L = xr at *
    have hLlen : L2.length ≤ 2047 := by omega
    obtain ⟨s2, hs2⟩ : ∃ s2, s2 = set + 2 ^ place := ⟨_, rfl⟩
    have hs2i : IntKind.i64.wrap ((set : Int) + 2 ^ place) = (s2 : Int) := by rw [q3, show (set : Int) + ((2 ^ place : Nat) : Int) = (s2 : Int) by omega]; exact wrap_nat _ (by omega)
    rw [← hs2] at I2
    have hw2 : IntKind.i64.wrap ((2 : Int) ^ place) = (2 : Int) ^ place := IntWalk.i64_in _ (by omega)
    have cp := st.cp
    have HI1 := Lib.hid I1
    clear I1 hs2 hpp hset q3 q4 l1 l2 hp2 hlen st
    go_enter Try.func91, Try.ntmps91
    go_wp2_with fail
    refine HI1.out.mono ?_
    rintro e w1 ⟨rfl, st1⟩
    clear cp
    go_wp2_with fail
    refine (I2.out w1 st1).mono ?_
    rintro e w3 ⟨rfl, st3⟩
    clear st1 I2 HI1
    by_cases hlh : lo = hi
    · have HE : Hid (xr = (lo, L2)) := by show _ = _; rw [HDEF.out, if_pos hlh]
      subst hlh
      clear HDEF
      go_wp2_with fail
      go_ret
      exact ⟨by rw [HE.out]; rfl, by rw [HE.out]; exact st3⟩
    · have HE : Hid (xr = nodeP ((place : Int), lo, hi) L2) := by show _ = _; rw [HDEF.out, if_neg hlh]
      clear HDEF
      obtain ⟨ov, co, oo⟩ := st3.out
      obtain ⟨oa, oc, rfl⟩ := oo.shape
      have HOO := Lib.hid (fun j (hj : j < L2.length) => oo.cells hj)
      go_wp2_with fail
      clear hlh
      clear ‹(lo == hi) = false›
      go_loopw [9] (fun i wr => ∃ j c : Nat, j ≤ L2.length ∧ Hid (c = 3 * j) ∧ i = .int .i64 c ∧ Hid (∀ m (hm : m < L2.length), m < j → L2[m] ≠ ((place : Int), lo, hi)) ∧ wr = w3) (fun i _ => 3 * L2.length + 3 - (intOf i).toNat)
      case atStart => exact ⟨0, 0, Nat.zero_le _, rfl, rfl, fun m _ h => absurd h (Nat.not_lt_zero _), rfl⟩
      case round =>
        obtain ⟨j, c, hj, HC, rfl, HM, rfl⟩ := hrel
        by_cases hjl : j < L2.length
        · obtain ⟨g, cap, e1, k0, k1, k2⟩ := HOO.out j hjl
          cases e1
          rw [← HC.out] at k0 k1 k2
          have hLT : Hid (L2[j] = (L2[j].1, L2[j].2.1, L2[j].2.2)) := rfl
          generalize hx : L2[j] = x at *
          have HX := Lib.hid hx
          obtain ⟨a, b, d⟩ := x
          simp only at k0 k1 k2
          clear hLT hx
          obtain ⟨N3, hN3⟩ : ∃ N3, N3 = 3 * L2.length := ⟨_, rfl⟩
          obtain ⟨c1, hc1⟩ : ∃ c1, c1 = c + 1 := ⟨_, rfl⟩
          obtain ⟨c2, hc2⟩ : ∃ c2, c2 = c + 2 := ⟨_, rfl⟩
          have hcd := HC.out
          rw [← hN3] at co
          rw [← hc1] at k1
          rw [← hc2] at k2
          have hci : (c : Int) < (N3 : Int) := by omega
          have hci1 : (c1 : Int) < (N3 : Int) := by omega
          have hci2 : (c2 : Int) < (N3 : Int) := by omega
          have hw3 : IntKind.i64.wrap ((c : Int) + 1) = (c1 : Int) := by rw [show (c : Int) + 1 = (c1 : Int) by omega]; exact wrap_nat _ (by omega)
          have hw4 : IntKind.i64.wrap ((c : Int) + 2) = (c2 : Int) := by rw [show (c : Int) + 2 = (c2 : Int) by omega]; exact wrap_nat _ (by omega)
          have hw5 : IntKind.i64.wrap ((c : Int) + 3) = (c : Int) + 3 := IntWalk.i64_in _ (by omega)
          have hq3 : (c : Int) / 3 = (j : Int) := by omega
          have HN3 := Lib.hid hN3
          clear hc1 hc2 hcd hN3
          have HNX : Hid (¬ ((a, b, d) : Nd) = ((place : Int), lo, hi) → ∀ m (hm : m < L2.length), m < j + 1 → L2[m] ≠ ((place : Int), lo, hi)) := fun hne m hm h2 => by
            by_cases e : m = j
            · subst e; rw [HX.out]; exact hne
            · exact HM.out m hm (by omega)
          by_cases h1 : a = (place : Int)
          · by_cases h2 : b = lo
            · by_cases h3 : d = hi
              · have HIX : Hid (nodeP ((place : Int), lo, hi) L2 = (((j : Nat) : Int), L2)) := by
                  show _ = _
                  unfold nodeP
                  have e : L2[j] = ((place : Int), lo, hi) := by rw [HX.out, h1, h2, h3]
                  rw [if_pos (by rw [← e]; exact List.getElem_mem hjl), idx_first L2 j hjl (fun m hm => HM.out m (by omega) hm) e]
                subst h1 h2 h3
                clear HNX
                go_wp2_with fail
                go_ret
                exact ⟨by rw [HE.out, HIX.out]; rfl, by rw [HE.out, HIX.out]; exact st3⟩
              · have HNX2 := Lib.hid (HNX.out (fun e => h3 (by injection e with _ e; injection e)))
                subst h1 h2
                clear HNX
                go_wp2_with fail
                go_roundw
                case rel => exact ⟨j + 1, c + 3, by omega, by show _ = _; have := HC.out; omega, by go_num, HNX2, by first | rfl | trivial⟩
                case measure => have := HC.out; simp [intOf]; omega
            · have HNX2 := Lib.hid (HNX.out (fun e => h2 (by injection e with _ e; injection e)))
              subst h1
              clear HNX
              go_wp2_with fail
              go_roundw
              case rel => exact ⟨j + 1, c + 3, by omega, by show _ = _; have := HC.out; omega, by go_num, HNX2, by first | rfl | trivial⟩
              case measure => have := HC.out; simp [intOf]; omega
          · have HNX2 := Lib.hid (HNX.out (fun e => h1 (by injection e)))
            clear HNX
            go_wp2_with fail
            go_roundw
            case rel => exact ⟨j + 1, c + 3, by omega, by show _ = _; have := HC.out; omega, by go_num, HNX2, by first | rfl | trivial⟩
            case measure => have := HC.out; simp [intOf]; omega
        · obtain rfl : j = L2.length := by omega
          have hnm : ((place : Int), lo, hi) ∉ L2 := not_mem_all fun m hm => HM.out m hm hm
          have HN : Hid (nodeP ((place : Int), lo, hi) L2 = (((L2.length : Nat) : Int), L2 ++ [((place : Int), lo, hi)])) := by show _ = _; unfold nodeP; rw [if_neg hnm]
          have hcn : c = 3 * L2.length := HC.out
          subst hcn
          have oo2 := oo.ext (Ext.alloc wr (.cells #[.int .i64 place, .int .i64 lo, .int .i64 hi] 2))
          have b3 : Bx (wr.alloc (.cells #[.int .i64 place, .int .i64 lo, .int .i64 hi] 2)) wr.heap.size [.int .i64 place, .int .i64 lo, .int .i64 hi] := Bx.new _ _ _
          have st4 := st3.ext (Ext.alloc wr (.cells #[.int .i64 place, .int .i64 lo, .int .i64 hi] 2))
          have k0 := b3.2 0 (by simp)
          have k1 := b3.2 1 (by simp)
          have k2 := b3.2 2 (by simp)
          have hbd : bd < wr.heap.size := st3.sz
          obtain ⟨ov4, co4, -⟩ := st4.out
          have f4 := st4.fo
          have hq : (3 * ((L2.length : Int) + 1)) / 3 = (L2.length : Int) + 1 := by omega
          have hq2 : IntKind.i64.wrap ((L2.length : Int) + 1 - 1) = (L2.length : Int) := by rw [show (L2.length : Int) + 1 - 1 = (L2.length : Int) by omega]; exact wrap_nat _ (by omega)
          clear hnm HC HM HOO
          go_wp2_with (at_builtin; refine wpList_push3 (t := ((place : Int), lo, hi)) rfl rfl rfl oo2 rfl k0 k1 k2 st4.sz (by omega) ?_; intro g cap w7 o7 hg7 hx7; have st8 := st4.stored hx7 o7; have c7 := (hx7.cell (p := ⟨bd, 2, none⟩) (Nat.lt_succ_self bd)).trans co4; have f7 := (hx7.frozen (p := ⟨bd, 2, none⟩) (Nat.lt_succ_self bd)).trans f4)
          rw [show (L2 ++ [((place : Int), lo, hi)]).length = L2.length + 1 by simp] at st8
          go_ret
          exact ⟨by rw [HE.out, HN.out]; rfl, by rw [HE.out, HN.out]; exact st8⟩

set_option maxRecDepth 100000 in
set_option maxHeartbeats 8000000 in
theorem specTreeDiagram_any (p : Int) (v : Value) (gs : List Gt) (w : World) (r : RdG w v gs) (hn : gs.length ≤ 1048576) : Calls Try.prog 36 #[.int .i64 p, v] w (ZlPost (tdO p gs) w) := by
  have r' := r
  obtain ⟨⟨-, a1, c1, rfl, -, -, -, -⟩, -⟩ := r
  have HV := Lib.hid (l03Tree_any p _ gs w r' hn)
  cases hv : treeOk p gs
  · have HO : Hid (tdO p gs = none) := by show _ = _; unfold tdO; rw [hv]; rfl
    rw [hv] at HV
    clear hv
    go_enter Try.func36, Try.ntmps36
    go_wp2_with fail
    refine HV.out.mono ?_
    rintro e w1 ⟨rfl, rfl⟩
    go_wp2_with fail
    go_ret2
    unfold ZlPost
    rw [HO.out]
    exact ⟨Ext.refl _, rfl⟩
  · rw [hv] at HV
    have hp := (treeOk_get hv).1
    obtain ⟨P, hP⟩ : ∃ P, P = p.toNat := ⟨_, rfl⟩
    obtain rfl : p = (P : Int) := by omega
    have hP10 : P ≤ 10 := by omega
    have hv1 := tellP_val (failN gs) P 0 0 []
    have HDEF : Hid (tdO (P : Int) gs = if (tellP (failN gs) P 0 0 []).1 < 0 then none else some (flatN (tellP (failN gs) P 0 0 []).2)) := by show _ = _; unfold tdO; rw [hv]; rfl
    have hlen : ([] : List Nd).length + 2 ^ P ≤ 2048 := by have := (pow10N hP10).2.2.2; simp only [List.length_nil]; omega
    have HT := Lib.hid (fun W st => node_any (P : Int) P gs (.slice a1 gs.length c1) w w.heap.size r' hv hP10 P 0 0 [] W (by omega) (by decide) hlen st)
    clear hv hP hp
    generalize tellP (failN gs) P 0 0 [] = xr at *
    obtain ⟨rr, L⟩ := xr
    simp only at *
    clear hlen
    go_enter Try.func36, Try.ntmps36
    go_wp2_with fail
    refine HV.out.mono ?_
    rintro e w1 ⟨rfl, rfl⟩
    go_wp2_with fail
    have bz : Bz (w.alloc (.cells #[.slice a1 gs.length c1, .int .i64 P, .slice none 0 0] 100)) w.heap.size 100 [.slice a1 gs.length c1, .int .i64 P, .slice none 0 0] := Bz.new _ _ _
    have st : StS w P w.heap.size (.slice a1 gs.length c1) (w.alloc (.cells #[.slice a1 gs.length c1, .int .i64 P, .slice none 0 0] 100)) [] :=
      ⟨Ext.alloc _ _, Nat.le_refl _, by simp, bz.bx.2 0 (by simp), bz.bx.2 1 (by simp), ⟨_, bz.bx.2 2 (by simp), .inr ⟨⟨fun _ => rfl, fun _ => rfl⟩, World.ownsRow_nil _ _ _ _⟩⟩, bz.frozen⟩
    refine (HT.out _ st).mono ?_
    rintro e w6 ⟨rfl, st6⟩
    obtain ⟨ov, co, oo⟩ := st6.out
    clear st bz
    by_cases hr : rr < 0
    · have HO : Hid (tdO (P : Int) gs = none) := by show _ = _; rw [HDEF.out, if_pos hr]
      clear HDEF
      go_wp2_with fail
      go_ret2
      unfold ZlPost
      rw [HO.out]
      exact ⟨st6.x, rfl⟩
    · have HO : Hid (tdO (P : Int) gs = some (flatN L)) := by show _ = _; rw [HDEF.out, if_neg hr]
      obtain ⟨g, cap, rfl, own⟩ := outN_post oo (by omega) (show w.heap.size ≤ w.heap.size + 1 by omega)
      clear HDEF oo
      go_wp2_with fail
      go_ret2
      unfold ZlPost
      rw [HO.out]
      exact ⟨st6.x, g, cap, rfl, own⟩
end Go.Proofs.Ytgmdoboeenpjpaa
