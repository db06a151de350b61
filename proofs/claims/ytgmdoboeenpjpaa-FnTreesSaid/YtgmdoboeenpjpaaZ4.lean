
/- The diagram of a tree as the program finds it. Condition: a valid tree. -/
import Derived.Test.YtgmdoboeenpjpaaZ23
namespace Go.Proofs.Ytgmdoboeenpjpaa
open Go Go.RowKit Go.ChangeShapes Go.WideShapes Go.ChangeAt

attribute [local irreducible] LX

theorem run_store_fn (P : Program) (w : World) (a : Addr) (m : Mode) (fn : Fn) (x y : Array Value) : (store a (.func fn x y) m).run P w = stored P w a (.func fn x y) m := run_store P w a _ m rfl
attribute [local go_sem] run_store_fn

theorem len_mapN {ty : TypeId} {b : Nat} {es : Array MapEntry} {clock : Nat} {w : World} (hb : w.heap[b]? = some (.map es clock)) : (Builtin.len_ #[94] ty #[.map (some b)]).run Try.prog w = .ok (.int .i64 es.size) w := by
  simp [Builtin.len_, go_sem, Try.underlying94, MapKept.run_getObj_map hb]
/-- Where the program keeps what it tells: the parts, the tree, the function itself, the map of the nodes, their list. -/
structure PlI (w0 : World) (B bp bt bf bm mb bo : Nat) : Prop where
  l : bp < B ∧ bt < B ∧ bf < B ∧ bm < B ∧ mb < B ∧ bo < B
  o : bo ≠ bp ∧ bo ≠ bt ∧ bo ≠ bf ∧ bo ≠ bm ∧ bo ≠ mb
  m : mb ≠ bp ∧ mb ≠ bt ∧ mb ≠ bf ∧ mb ≠ bm
  w : w0.heap.size ≤ bo ∧ w0.heap.size ≤ mb ∧ w0.heap.size ≤ B
structure StI (w0 : World) (B P bp bt bf bm mb bo : Nat) (tv fv : Value) (W : World) (L : List Nd) : Prop where
  x : Ext w0 W
  sz : B ≤ W.heap.size
  cp : W.cell? ⟨bp, 0, none⟩ = some (.int .i64 P)
  ct : W.cell? ⟨bt, 0, none⟩ = some tv
  cf : W.cell? ⟨bf, 0, none⟩ = some fv
  cm : W.cell? ⟨bm, 0, none⟩ = some (.map (some mb))
  mp : MapN W mb L
  out : ∃ v, W.cell? ⟨bo, 0, none⟩ = some v ∧ OutN B W v L
  fo : W.frozen? ⟨bo, 0, none⟩ = false
theorem StI.ext {w0 : World} {B P bp bt bf bm mb bo : Nat} {tv fv : Value} {W W' : World} {L : List Nd} (pl : PlI w0 B bp bt bf bm mb bo) (h : StI w0 B P bp bt bf bm mb bo tv fv W L) (hx : Ext W W') : StI w0 B P bp bt bf bm mb bo tv fv W' L := by
  obtain ⟨l1, l2, l3, l4, l5, l6⟩ := pl.l
  have hz := h.sz
  obtain ⟨v, hv, ho⟩ := h.out
  exact ⟨h.x.trans hx, Nat.le_trans hz hx.size, (Below.cell hx (p := ⟨bp, 0, none⟩) (by show bp < _; omega)).trans h.cp, (Below.cell hx (p := ⟨bt, 0, none⟩) (by show bt < _; omega)).trans h.ct,
    (Below.cell hx (p := ⟨bf, 0, none⟩) (by show bf < _; omega)).trans h.cf, (Below.cell hx (p := ⟨bm, 0, none⟩) (by show bm < _; omega)).trans h.cm, h.mp.ext hx,
    ⟨v, (Below.cell hx (p := ⟨bo, 0, none⟩) (by show bo < _; omega)).trans hv, ho.ext hx⟩, (Below.frozen hx (p := ⟨bo, 0, none⟩) (by show bo < _; omega)).trans h.fo⟩
/-- A node is put into the map. -/
theorem StI.map {w0 : World} {B P bp bt bf bm mb bo : Nat} {tv fv : Value} {W W' : World} {L L' : List Nd} (pl : PlI w0 B bp bt bf bm mb bo) (h : StI w0 B P bp bt bf bm mb bo tv fv W L) (hg : W.grownBy W' (some mb)) (hm : MapN W' mb L') :
    Ext w0 W' ∧ B ≤ W'.heap.size ∧ W'.cell? ⟨bp, 0, none⟩ = some (.int .i64 P) ∧ W'.cell? ⟨bt, 0, none⟩ = some tv ∧ W'.cell? ⟨bf, 0, none⟩ = some fv ∧ W'.cell? ⟨bm, 0, none⟩ = some (.map (some mb)) ∧
      (∃ v, W'.cell? ⟨bo, 0, none⟩ = some v ∧ OutN B W' v L) ∧ W'.frozen? ⟨bo, 0, none⟩ = false := by
  obtain ⟨l1, l2, l3, l4, l5, l6⟩ := pl.l
  obtain ⟨o1, o2, o3, o4, o5⟩ := pl.o
  obtain ⟨m1, m2, m3, m4⟩ := pl.m
  obtain ⟨z1, z2, z3⟩ := pl.w
  have hz := h.sz
  obtain ⟨v, hv, ho⟩ := h.out
  have hb : ∀ b, b < B → b ≠ mb → W'.heap[b]? = W.heap[b]? := fun b h1 h2 => hg.block b (by omega) (fun e => h2 (Option.some.inj e))
  have hc : ∀ b j, b < B → b ≠ mb → W'.cell? ⟨b, j, none⟩ = W.cell? ⟨b, j, none⟩ := fun b j h1 h2 => World.cell?_of_block (hb b h1 h2)
  refine ⟨Below.grown h.x hg h.x.size (fun k e => by cases e; exact z2), Nat.le_trans hz hg.size, (hc bp 0 l1 m1.symm).trans h.cp, (hc bt 0 l2 m2.symm).trans h.ct, (hc bf 0 l3 m3.symm).trans h.cf, (hc bm 0 l4 m4.symm).trans h.cm, ⟨v, (hc bo 0 l6 o5).trans hv, ?_⟩, ?_⟩
  · exact ho.below fun b h1 h2 => hg.block b h2 (fun e => by have := Option.some.inj e; omega)
  · have := hb bo l6 o5
    have hf := h.fo
    unfold World.frozen? at hf ⊢
    rw [this]; exact hf

/-- The list is stored again. -/
theorem StI.stored {w0 : World} {B P bp bt bf bm mb bo : Nat} {tv fv : Value} {W5 W6 : World} {L : List Nd} {v5 u : Value} (pl : PlI w0 B bp bt bf bm mb bo)
    (x5 : Ext w0 W5) (z5 : B ≤ W5.heap.size) (cp : W5.cell? ⟨bp, 0, none⟩ = some (.int .i64 P)) (ct : W5.cell? ⟨bt, 0, none⟩ = some tv) (cf : W5.cell? ⟨bf, 0, none⟩ = some fv) (cm : W5.cell? ⟨bm, 0, none⟩ = some (.map (some mb))) (mp : MapN W5 mb L)
    (co : W5.cell? ⟨bo, 0, none⟩ = some v5) (fo : W5.frozen? ⟨bo, 0, none⟩ = false) (hx : Below B W5 W6) (ho : OutN B W6 u L) : StI w0 B P bp bt bf bm mb bo tv fv (W6.setCell ⟨bo, 0, none⟩ u) L := by
  obtain ⟨l1, l2, l3, l4, l5, l6⟩ := pl.l
  obtain ⟨o1, o2, o3, o4, o5⟩ := pl.o
  obtain ⟨y1, y2, y3⟩ := pl.w
  have hc : ∀ b (v : Value), b < B → bo ≠ b → W5.cell? ⟨b, 0, none⟩ = some v → (W6.setCell ⟨bo, 0, none⟩ u).cell? ⟨b, 0, none⟩ = some v := fun b v h1 h2 h3 =>
    (World.cell?_setCell_other _ _ _ _ (fun e => h2 (by injection e))).trans ((hx.cell (p := ⟨b, 0, none⟩) h1).trans h3)
  have hco : W6.cell? ⟨bo, 0, none⟩ = some v5 := (hx.cell (p := ⟨bo, 0, none⟩) l6).trans co
  have mp6 : MapN W6 mb L := by
    obtain ⟨hw, D, ⟨es, clock, hb, F, hs, hD⟩, h2⟩ := mp
    exact ⟨hw, D, ⟨es, clock, (hx.block mb l5).trans hb, F, hs, hD⟩, h2⟩
  refine ⟨(Below.trans x5 (Below.mono hx y3)).setCell y1 _, Nat.le_trans (Nat.le_trans z5 hx.size) (Below.setCell (Below.refl bo W6) (Nat.le_refl _) u).size, hc bp _ l1 o1 cp, hc bt _ l2 o2 ct, hc bf _ l3 o3 cf, hc bm _ l4 o4 cm, mp6.set (fun e => o5 e.symm) u, ⟨u, World.cell?_setCell_same' _ _ _ (by rw [hco]; rfl), ?_⟩, ?_⟩
  · exact ho.below fun b h1 h2 => Below.heap_setCell _ _ _ b (by show b ≠ bo; omega)
  · rw [World.frozen?_setCell]
    exact (hx.frozen (p := ⟨bo, 0, none⟩) l6).trans fo

set_option maxRecDepth 100000 in
set_option maxHeartbeats 8000000 in
theorem tell_any (p : Int) (P : Nat) (gs : List Gt) (tv : Value) (w0 : World) (B bp bt bf bm mb bo : Nat) (r : RdG w0 tv gs) (ht : treeOk p gs = true) (hP : P ≤ 10) (pl : PlI w0 B bp bt bf bm mb bo) (fv : Value)
    (hfv : fv = .func (.func 90) #[] #[.pointer (some ⟨bp, 0, none⟩), .pointer (some ⟨bt, 0, none⟩), .pointer (some ⟨bf, 0, none⟩), .pointer (some ⟨bm, 0, none⟩), .pointer (some ⟨bo, 0, none⟩)]) :
    ∀ (k place set : Nat) (L : List Nd) (W : World), place + k = P → set < 2 ^ place → L.length + 2 ^ k ≤ 2048 → StI w0 B P bp bt bf bm mb bo tv fv W L →
      Calls Try.prog 90 #[.int .i64 place, .int .i64 set, .pointer (some ⟨bp, 0, none⟩), .pointer (some ⟨bt, 0, none⟩), .pointer (some ⟨bf, 0, none⟩), .pointer (some ⟨bm, 0, none⟩), .pointer (some ⟨bo, 0, none⟩)] W fun e W' =>
        e = .returned (.int .i64 (tellP (failN gs) k place set L).1) ∧ StI w0 B P bp bt bf bm mb bo tv fv W' (tellP (failN gs) k place set L).2 := by
  have HFV := Lib.hid hfv
  clear hfv
  intro k
  induction k with
  | zero =>
    intro place set L W hpl hset hlen st
    obtain rfl : place = P := by omega
    have hs10 : set < 1024 := by have := (pow10N hP).2.2.2; omega
    have r' := r.ext st.x
    obtain ⟨⟨-, a1, c1, rfl, -, -, -, -⟩, -⟩ := r
    have HL : Hid ((tellP (failN gs) 0 place set L).2 = L) := rfl
    have HF := Lib.hid (fails_any p set _ gs W r' ht (by omega) (by omega))
    have cp := st.cp
    have ct := st.ct
    have ST := Lib.hid st
    have HFN : Hid (failB gs (set : Int) = failN gs set) := rfl
    rw [HL.out]
    cases hf : failN gs set
    · have HR : Hid ((tellP (failN gs) 0 place set L).1 = -1) := by show _ = _; unfold tellP; rw [hf]; rfl
      have HFF := Lib.hid hf
      clear HL hlen st hf
      go_enter Try.func90, Try.ntmps90
      go_wp2_with fail
      refine HF.out.mono ?_
      rintro e w1 ⟨rfl, hx⟩
      rw [HFN.out, HFF.out]
      go_wp2_with fail
      go_ret
      exact ⟨by rw [HR.out]; rfl, ST.out.ext pl hx⟩
    · have HR : Hid ((tellP (failN gs) 0 place set L).1 = -2) := by show _ = _; unfold tellP; rw [hf]; rfl
      have HFF := Lib.hid hf
      clear HL hlen st hf
      go_enter Try.func90, Try.ntmps90
      go_wp2_with fail
      refine HF.out.mono ?_
      rintro e w1 ⟨rfl, hx⟩
      rw [HFN.out, HFF.out]
      go_wp2_with fail
      go_ret
      exact ⟨by rw [HR.out]; rfl, ST.out.ext pl hx⟩
  | succ k ih =>
    intro place set L W hpl hset hlen st
    have hlt : place < P := by omega
    have hp2 : 2 ^ (k + 1) = 2 ^ k + 2 ^ k := by rw [Nat.pow_succ]; omega
    have hpp : 2 ^ (place + 1) = 2 ^ place + 2 ^ place := by rw [Nat.pow_succ]; omega
    obtain ⟨q1, q2, q3, q4⟩ := pow10N (p := place) (by omega)
    have hpi : (place : Int) < 64 := by omega
    have hne : ¬ (place : Int) = (P : Int) := by omega
    have hw1 : IntKind.i64.wrap ((place : Int) + 1) = ((place + 1 : Nat) : Int) := by rw [show (place : Int) + 1 = ((place + 1 : Nat) : Int) by omega]; exact wrap_nat _ (by omega)
    have l1 := tellP_len (failN gs) k (place + 1) set L
    have l2 := tellP_len (failN gs) k (place + 1) (set + 2 ^ place) (tellP (failN gs) k (place + 1) set L).2
    have v1 := tellP_val (failN gs) k (place + 1) set L
    have v2 := tellP_val (failN gs) k (place + 1) (set + 2 ^ place) (tellP (failN gs) k (place + 1) set L).2
    have HDEF : Hid (tellP (failN gs) (k + 1) place set L = if (tellP (failN gs) k (place + 1) set L).1 = (tellP (failN gs) k (place + 1) (set + 2 ^ place) (tellP (failN gs) k (place + 1) set L).2).1
      then ((tellP (failN gs) k (place + 1) set L).1, (tellP (failN gs) k (place + 1) (set + 2 ^ place) (tellP (failN gs) k (place + 1) set L).2).2)
      else nodeP ((place : Int), (tellP (failN gs) k (place + 1) set L).1, (tellP (failN gs) k (place + 1) (set + 2 ^ place) (tellP (failN gs) k (place + 1) set L).2).1) (tellP (failN gs) k (place + 1) (set + 2 ^ place) (tellP (failN gs) k (place + 1) set L).2).2) := rfl
    have I1 := ih (place + 1) set L W (by omega) (by omega) (by omega) st
    have I2 := Lib.hid (fun W' => ih (place + 1) (set + 2 ^ place) (tellP (failN gs) k (place + 1) set L).2 W' (by omega) (by omega) (by omega))
    clear ih
    generalize hx1 : tellP (failN gs) k (place + 1) set L = x1 at *
    obtain ⟨lo, L1⟩ := x1
    simp only at *
    generalize hx2 : tellP (failN gs) k (place + 1) (set + 2 ^ place) L1 = x2 at *
    obtain ⟨hi, L2⟩ := x2
    simp only at *
    clear hx1 hx2
    generalize tellP (failN gs) (k + 1) place set L = xr at *
    have hset10 : set < 1024 := by omega
    have hsum : set + 2 ^ place < 2048 := by omega
    have hor : bits .or .i64 (set : Int) ((2 ^ place : Nat) : Int) = ((set + 2 ^ place : Nat) : Int) := by
      rw [bits_or set (2 ^ place) (by omega) (by omega), or_bit (Nat.testBit_lt_two_pow hset)]
    obtain ⟨s2, hs2⟩ : ∃ s2, s2 = set + 2 ^ place := ⟨_, rfl⟩
    rw [← hs2] at hor I2
    rw [← q3] at hor
    have hw2 : IntKind.i64.wrap ((2 : Int) ^ place) = (2 : Int) ^ place := IntWalk.i64_in _ (by omega)
    have cp := st.cp
    have cf := st.cf
    rw [HFV.out] at cf
    have HI1 := Lib.hid I1
    clear I1 hs2 hpp hset q3 q4
    go_enter Try.func90, Try.ntmps90
    go_wp2_with fail
    refine HI1.out.mono ?_
    rintro e w1 ⟨rfl, st1⟩
    clear cp cf
    have cf := st1.cf
    rw [HFV.out] at cf
    have hbf : bf < w1.heap.size := Nat.lt_of_lt_of_le pl.l.2.2.1 st1.sz
    go_wp2_with fail
    refine wp_region_rel 7 (fun _ _ => True) (fun _ _ _ => True) (by kernel_rfl) (by kernel_rfl) (by kernel_rfl) ?_
    dsimp only [List.take, List.drop, List.length]
    refine LX_det (.func (.func 90) #[] #[.pointer (some ⟨bp, 0, none⟩), .pointer (some ⟨bt, 0, none⟩), .pointer (some ⟨bf, 0, none⟩), .pointer (some ⟨bm, 0, none⟩), .pointer (some ⟨bo, 0, none⟩)]) (by kernel_rfl) rfl (fun w' hx _ => ?_) ?_
    · have m0 := (Below.cell hx (p := ⟨bf, 0, none⟩) hbf).trans cf
      go_simp
    refine LX_det (.int .i64 place) (by kernel_rfl) rfl (fun w' hx _ => ?_) ?_
    · go_simp
    refine LX_det (.int .i64 ((place : Int) + 1)) (by kernel_rfl) rfl (fun w' hx _ => ?_) ?_
    · go_simp
    refine LX_det (.int .i64 set) (by kernel_rfl) rfl (fun w' hx _ => ?_) ?_
    · go_simp
    refine LX_det (.int .i64 place) (by kernel_rfl) rfl (fun w' hx _ => ?_) ?_
    · go_simp
    refine LX_det (.int .i64 (2 ^ place)) (by kernel_rfl) rfl (fun w' hx _ => ?_) ?_
    · go_simp
    refine LX_det (.int .i64 s2) (by kernel_rfl) rfl (fun w' hx _ => ?_) ?_
    · go_simp
    refine LX_nil fun w2 hx _ => ?_
    simp only [Act.put, List.setIfInBounds_toArray, List.set_cons_succ, List.set_cons_zero]
    have st2 := st1.ext pl hx
    have HI2 := Lib.hid (I2.out w2 st2)
    clear I2 st1 hx cf st2
    go_wp2_with fail
    refine HI2.out.mono ?_
    rintro e w3 ⟨rfl, st3⟩
    clear HI2
    by_cases hlh : lo = hi
    · have HE : Hid (xr = (lo, L2)) := by show _ = _; rw [HDEF.out, if_pos hlh]
      subst hlh
      clear HDEF
      go_wp2_with fail
      go_ret
      exact ⟨by rw [HE.out]; rfl, by rw [HE.out]; exact st3⟩
    · have HE : Hid (xr = nodeP ((place : Int), lo, hi) L2) := by show _ = _; rw [HDEF.out, if_neg hlh]
      have hLlen : L2.length ≤ 2047 := by omega
      have hwf : ndWf ((place : Int), lo, hi) := ⟨wf_small (by show (-1024 : Int) ≤ (place : Int); omega) (by show (place : Int) ≤ 1048576; omega), wf_small (by show -1024 ≤ lo; omega) (by show lo ≤ 1048576; omega), wf_small (by show -1024 ≤ hi; omega) (by show hi ≤ 1048576; omega)⟩
      have st4 := st3.ext pl (Ext.alloc w3 (.cells #[.int .i64 place, .int .i64 lo, .int .i64 hi] 96))
      have cm := st3.cm
      have hbm : bm < w3.heap.size := Nat.lt_of_lt_of_le pl.l.2.2.2.1 st3.sz
      have hbm' : ¬ bm = w3.heap.size := by omega
      have hbm2 : ¬ w3.heap.size = bm := by omega
      clear HDEF HI1 st
      by_cases hm : ((place : Int), lo, hi) ∈ L2
      · have hlt2 := List.idxOf_lt_length_of_mem hm
        have hrun := st4.mp.look_at hlt2
        rw [List.getElem_idxOf hlt2] at hrun
        have HN : Hid (nodeP ((place : Int), lo, hi) L2 = (((L2.idxOf ((place : Int), lo, hi) : Nat) : Int), L2)) := by show _ = _; unfold nodeP; rw [if_pos hm]
        generalize L2.idxOf ((place : Int), lo, hi) = i at *
        unfold ndV at hrun
        simp only at hrun
        clear hm
        go_wp2_with fail
        go_ret
        exact ⟨by rw [HE.out, HN.out]; rfl, by rw [HE.out, HN.out]; exact st4⟩
      · have hrun := st4.mp.look_no hwf hm
        have HN : Hid (nodeP ((place : Int), lo, hi) L2 = (((L2.length : Nat) : Int), L2 ++ [((place : Int), lo, hi)])) := by show _ = _; unfold nodeP; rw [if_neg hm]
        obtain ⟨es, clock, hb, hes⟩ := st4.mp.len
        obtain ⟨W5, hput, mp5, hg5⟩ := st4.mp.put hwf hm (by omega)
        unfold ndV at hrun hput
        simp only at hrun hput
        have hlenr := @len_mapN 3 mb es clock _ hb
        obtain ⟨x5, z5, c5p, c5t, c5f, c5m, ⟨v5, c5o, o5⟩, f5⟩ := st4.map pl hg5 mp5
        have hnk : w3.heap.size ≠ mb := by
          have := pl.l.2.2.2.2.1
          have := st3.sz
          omega
        have kb : ∀ j, W5.cell? ⟨w3.heap.size, j, none⟩ = (#[.int .i64 place, .int .i64 lo, .int .i64 hi] : Array Value)[j]? := fun j =>
          (World.cell?_of_block (hg5.block w3.heap.size (by simp) (fun e => hnk (Option.some.inj e)))).trans (World.cell?_alloc_new _ _ _ _)
        have k0 := kb 0
        have k1 := kb 1
        have k2 := kb 2
        simp only [List.getElem?_toArray, List.getElem?_cons_zero, List.getElem?_cons_succ] at k0 k1 k2
        have hbo5 : bo < W5.heap.size := Nat.lt_of_lt_of_le pl.l.2.2.2.2.2 z5
        have hz5 : w3.heap.size < W5.heap.size := by have := hg5.size; simp at this; omega
        clear hm hg5 kb
        go_wp2_with fail
        refine wp_region_rel 2 (fun _ _ => True) (fun _ _ _ => True) (by kernel_rfl) (by kernel_rfl) (by kernel_rfl) ?_
        dsimp only [List.take, List.drop, List.length]
        refine LX_det (v5) (by kernel_rfl) rfl (fun w' hx _ => ?_) ?_
        · have m0 := (Below.cell hx (p := ⟨bo, 0, none⟩) hbo5).trans c5o
          go_simp
        refine LX_det (.slice (some ⟨w3.heap.size, 0, none⟩) 3 3) (by kernel_rfl) rfl (fun w' hx _ => ?_) ?_
        · go_simp
        refine LX_nil fun w6 hx _ => ?_
        have kk0 := (Below.cell hx (p := ⟨w3.heap.size, 0, none⟩) (by have := hz5; show w3.heap.size < _; omega)).trans k0
        have kk1 := (Below.cell hx (p := ⟨w3.heap.size, 1, none⟩) (by have := hz5; show w3.heap.size < _; omega)).trans k1
        have kk2 := (Below.cell hx (p := ⟨w3.heap.size, 2, none⟩) (by have := hz5; show w3.heap.size < _; omega)).trans k2
        have c6o := (Below.cell hx (p := ⟨bo, 0, none⟩) hbo5).trans c5o
        have f6 := (Below.frozen hx (p := ⟨bo, 0, none⟩) hbo5).trans f5
        have z6 := Nat.le_trans z5 hx.size
        have o6 := o5.ext hx
        simp only [Act.put, List.setIfInBounds_toArray, List.set_cons_succ, List.set_cons_zero]
        refine wpList_push3 (t := ((place : Int), lo, hi)) rfl rfl rfl o6 rfl kk0 kk1 kk2 z6 (by omega) ?_
        intro g cap w7 o7 hg7 hx7
        have c7o := (Below.cell hx7 (p := ⟨bo, 0, none⟩) pl.l.2.2.2.2.2).trans c6o
        have f7 := (Below.frozen hx7 (p := ⟨bo, 0, none⟩) pl.l.2.2.2.2.2).trans f6
        have hxx : Below B W5 w7 := Below.trans (Below.mono hx z5) hx7
        have st8 := StI.stored pl x5 z5 c5p c5t c5f c5m mp5 c5o f5 hxx o7
        rw [show (L2 ++ [((place : Int), lo, hi)]).length = L2.length + 1 by simp] at st8
        simp only [Act.put, List.setIfInBounds_toArray, List.set_cons_succ, List.set_cons_zero]
        go_wp2_with fail
        go_ret
        exact ⟨by rw [HE.out, HN.out]; rfl, by rw [HE.out, HN.out]; exact st8⟩

def tdO (p : Int) (gs : List Gt) : Option (List Int) := if treeOk p gs then (if (tellP (failN gs) p.toNat 0 0 []).1 < 0 then none else some (flatN (tellP (failN gs) p.toNat 0 0 []).2)) else none
theorem tdO_dat {p : Int} {gs hs : List Gt} (e : gs.map Gt.dat = hs.map Gt.dat) : tdO p gs = tdO p hs := by unfold tdO; rw [treeOk_dat e, failN_dat e]
theorem tdO_len (p : Int) (gs : List Gt) : ((tdO p gs).getD []).length ≤ 1048576 := by
  unfold tdO
  split
  · rename_i h
    split
    · simp
    · have hp := (treeOk_get h).1
      have h2 := (pow10N (p := p.toNat) (by omega)).2.2.2
      have h3 := (tellP_len (failN gs) p.toNat 0 0 []).1
      simp only [Option.getD_some, flatN_len]
      simp only [List.length_nil] at h3
      omega
  · simp
theorem outN_post {B b0 : Nat} {w : World} {v : Value} {L : List Nd} (h : OutN B w v L) (hL : 0 < L.length) (hb : b0 ≤ B) : ∃ g cap, v = .slice (some ⟨g, 0, none⟩) (flatN L).length cap ∧ w.ownsRow b0 2 1 (.slice (some ⟨g, 0, none⟩) (flatN L).length cap) (flatN L).length ((flatN L).map (Value.int .i64)) := by
  rcases h with ⟨rfl, -⟩ | ⟨-, own⟩
  · simp at hL
  · have own' := own
    rw [flatN_len]
    obtain ⟨g, cap, rfl, -, -⟩ := own_head own' (by omega)
    exact ⟨g, cap, rfl, World.ownsRow.mono own hb⟩

set_option maxRecDepth 100000 in
set_option maxHeartbeats 8000000 in
theorem implTreeDiagram_any (p : Int) (v : Value) (gs : List Gt) (w : World) (r : RdG w v gs) (hn : gs.length ≤ 1048576) : Calls Try.prog 35 #[.int .i64 p, v] w (ZlPost (tdO p gs) w) := by
  have r' := r
  obtain ⟨⟨-, a1, c1, rfl, -, -, -, -⟩, -⟩ := r
  generalize hW0 : (w.alloc (.cells #[.int .i64 p] 2)).alloc (.cells #[.slice a1 gs.length c1] 53) = W0
  have X : Ext w W0 := hW0 ▸ (Ext.alloc _ _).trans (Ext.alloc _ _)
  have b1 : Bx W0 w.heap.size [.int .i64 p] := hW0 ▸ (Bx.new _ _ _).ext (Ext.alloc _ _)
  have b2 : Bx W0 (w.heap.size + 1) [.slice a1 gs.length c1] := hW0 ▸ Bx.new' _ _ _ (by simp)
  have HV := Lib.hid (fun W (x : Ext w W) => implValidTree_any p _ gs W (r'.ext x) hn)
  have k1 := b1.one
  have k2 := b2.one
  cases hv : treeOk p gs
  · have HO : Hid (tdO p gs = none) := by show _ = _; unfold tdO; rw [hv]; rfl
    rw [hv] at HV
    clear hv
    go_enter Try.func35, Try.ntmps35
    go_wp2_with fail
    clear hW0
    refine (HV.out _ X).mono ?_
    rintro e w1 ⟨rfl, hx⟩
    go_wp2_with fail
    go_ret2
    unfold ZlPost
    rw [HO.out]
    exact ⟨X.trans hx, rfl⟩
  · rw [hv] at HV
    go_enter Try.func35, Try.ntmps35
    go_wp2_with fail
    clear hW0
    refine (HV.out _ X).mono ?_
    rintro e w1 ⟨rfl, hx⟩
    replace X := X.trans hx
    replace b1 := b1.ext hx
    replace b2 := b2.ext hx
    clear hx k1 k2
    have hmm := @run_makeMap Try.prog
    have hp := (treeOk_get hv).1
    obtain ⟨P, hP⟩ : ∃ P, P = p.toNat := ⟨_, rfl⟩
    obtain rfl : p = (P : Int) := by omega
    have hP10 : P ≤ 10 := by omega
    have hv1 := tellP_val (failN gs) P 0 0 []
    have HDEF : Hid (tdO (P : Int) gs = if (tellP (failN gs) P 0 0 []).1 < 0 then none else some (flatN (tellP (failN gs) P 0 0 []).2)) := by show _ = _; unfold tdO; rw [hv]; rfl
    have hlen : ([] : List Nd).length + 2 ^ P ≤ 2048 := by have := (pow10N hP10).2.2.2; simp only [List.length_nil]; omega
    have HT := Lib.hid (fun B bp bt bf bm mb bo pl W st => tell_any (P : Int) P gs (.slice a1 gs.length c1) w B bp bt bf bm mb bo r' hv hP10 pl _ rfl P 0 0 [] W (by omega) (by decide) hlen st)
    clear hv hP hp
    generalize tellP (failN gs) P 0 0 [] = xr at *
    obtain ⟨rr, L⟩ := xr
    simp only at *
    clear hlen
    go_wp2_with fail
    have e1 : (w1.alloc (.cells #[] 2)).heap.size = w1.heap.size + 1 := by simp
    have bo1 : Bz ((w1.alloc (.cells #[] 2)).alloc (.cells #[.slice (some ⟨w1.heap.size, 0, none⟩) 0 0] 25)) (w1.heap.size + 1) 25 [.slice (some ⟨w1.heap.size, 0, none⟩) 0 0] := by rw [← e1]; exact Bz.new _ _ _
    generalize hA2 : (w1.alloc (.cells #[] 2)).alloc (.cells #[.slice (some ⟨w1.heap.size, 0, none⟩) 0 0] 25) = A2 at *
    have e2 : A2.heap.size = w1.heap.size + 2 := by rw [← hA2]; simp
    have X2 : Ext w1 A2 := hA2 ▸ (Ext.alloc _ _).trans (Ext.alloc _ _)
    have mp3 : MapN (A2.alloc (.map #[] 0)) (w1.heap.size + 2) [] := by rw [← e2]; exact MapN.made _
    have bo3 := bo1.ext (Ext.alloc A2 (.map #[] 0))
    have X3 := X2.trans (Ext.alloc A2 (.map #[] 0))
    generalize hA3 : A2.alloc (.map #[] 0) = A3 at *
    have e3 : A3.heap.size = w1.heap.size + 3 := by rw [← hA3]; simp [e2]
    have bm4 : Bx (A3.alloc (.cells #[.map (some (w1.heap.size + 1 + 1))] 94)) (w1.heap.size + 3) [.map (some (w1.heap.size + 1 + 1))] := by rw [← e3]; exact Bx.new _ _ _
    have bo4 := bo3.ext (Ext.alloc A3 (.cells #[.map (some (w1.heap.size + 1 + 1))] 94))
    have mp4 := mp3.ext (Ext.alloc A3 (.cells #[.map (some (w1.heap.size + 1 + 1))] 94))
    have X4 := X3.trans (Ext.alloc A3 (.cells #[.map (some (w1.heap.size + 1 + 1))] 94))
    generalize hA4 : A3.alloc (.cells #[.map (some (w1.heap.size + 1 + 1))] 94) = A4 at *
    have e4 : A4.heap.size = w1.heap.size + 4 := by rw [← hA4]; simp [e3]
    generalize hfv : Value.func (.func 90) #[] #[.pointer (some ⟨w.heap.size, 0, none⟩), .pointer (some ⟨w.heap.size + 1, 0, none⟩), .pointer (some ⟨w1.heap.size + 1 + 1 + 1 + 1, 0, none⟩), .pointer (some ⟨w1.heap.size + 1 + 1 + 1, 0, none⟩), .pointer (some ⟨w1.heap.size + 1, 0, none⟩)] = fv at *
    have bf5 : Bx (A4.alloc (.cells #[fv] 95)) (w1.heap.size + 4) [fv] := by rw [← e4]; exact Bx.new _ _ _
    have bo5 := bo4.ext (Ext.alloc A4 (.cells #[fv] 95))
    have mp5 := mp4.ext (Ext.alloc A4 (.cells #[fv] 95))
    have bm5 := bm4.ext (Ext.alloc A4 (.cells #[fv] 95))
    have X5 := X4.trans (Ext.alloc A4 (.cells #[fv] 95))
    generalize hA5 : A4.alloc (.cells #[fv] 95) = A5 at *
    have e5 : A5.heap.size = w1.heap.size + 5 := by rw [← hA5]; simp [e4]
    have hws : w.heap.size + 2 ≤ w1.heap.size := by have := b2.1; omega
    have pl : PlI w (w1.heap.size + 5) w.heap.size (w.heap.size + 1) (w1.heap.size + 4) (w1.heap.size + 3) (w1.heap.size + 2) (w1.heap.size + 1) :=
      ⟨⟨by omega, by omega, by omega, by omega, by omega, by omega⟩, ⟨by omega, by omega, by omega, by omega, by omega⟩, ⟨by omega, by omega, by omega, by omega⟩, ⟨by omega, by omega, by omega⟩⟩
    have st : StI w (w1.heap.size + 5) P w.heap.size (w.heap.size + 1) (w1.heap.size + 4) (w1.heap.size + 3) (w1.heap.size + 2) (w1.heap.size + 1) (.slice a1 gs.length c1) fv A5 [] :=
      ⟨X.trans X5, by omega, (b1.ext X5).one, (b2.ext X5).one, bf5.one, bm5.one, mp5, ⟨_, bo5.bx.one, .inl ⟨rfl, _, rfl⟩⟩, bo5.frozen⟩
    subst hfv
    refine (HT.out _ _ _ _ _ _ _ pl A5 st).mono ?_
    rintro e w6 ⟨rfl, st6⟩
    clear hA2 hA3 hA4 hA5 st bf5 bo5 mp5 bm5 bo4 mp4 bm4 bo3 mp3 bo1 HT hmm
    obtain ⟨ov, co, oo⟩ := st6.out
    by_cases hr : rr < 0
    · have HO : Hid (tdO (P : Int) gs = none) := by show _ = _; rw [HDEF.out, if_pos hr]
      clear HDEF
      go_wp2_with fail
      go_ret2
      unfold ZlPost
      rw [HO.out]
      exact ⟨st6.x, rfl⟩
    · have HO : Hid (tdO (P : Int) gs = some (flatN L)) := by show _ = _; rw [HDEF.out, if_neg hr]
      obtain ⟨g, cap, rfl, own⟩ := outN_post oo (by omega) (show w.heap.size ≤ w1.heap.size + 5 by omega)
      clear HDEF oo
      go_wp2_with fail
      go_ret2
      unfold ZlPost
      rw [HO.out]
      exact ⟨st6.x, g, cap, rfl, own⟩
end Go.Proofs.Ytgmdoboeenpjpaa
