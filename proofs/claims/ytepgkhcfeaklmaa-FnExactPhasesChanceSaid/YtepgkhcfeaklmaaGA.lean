
/- Contracts of the laws' functions that measure, copy and compare lists of gates. No condition. -/
import Derived.Test.YtepgkhcfeaklmaaRows
import Derived.Test.YtepgkhcfeaklmaaA
import Derived.Test.YtepgkhcfeaklmaaG
import Derived.Outline
namespace Go.Proofs.Ytepgkhcfeaklmaa
open Go Go.RowKit Go.ChangeShapes Go.WideShapes Go.ChangeAt

/-- What is left after a gate. -/
def szG1 (g : Gt) (l : Int) : Int := if l - g.kids.length < 0 then -1 else l - g.kids.length
theorem szGate_any (g : Gt) (l : Int) (w : World) (h : g.ok w) (h0 : 0 ≤ l) (h1 : l ≤ 1048576) :
    Calls Try.prog 80 #[.agg #[.int .i64 g.kind, .int .i64 g.votes, g.kv], .int .i64 l] w fun e w' => e = .returned (.int .i64 (szG1 g l)) ∧ Ext w w' := by
  obtain ⟨⟨-, a, c, hkv, p1, p2, -, -⟩, -⟩ := h
  have p3 : g.kids.length ≤ maxLen := Nat.le_trans p1 p2
  rw [hkv]
  unfold szG1
  by_cases h : l - g.kids.length < 0
  · rw [if_pos h]
    go_enter Try.func80, Try.ntmps80
    go_wp2_with fail
    refine (szInt64S_any a g.kids.length c l _ p3 h0 h1).mono ?_
    rintro e w1 ⟨rfl, rfl⟩
    rw [if_pos h]
    go_wp2_with fail
    go_ret
    exact ⟨rfl, Ext.alloc _ _⟩
  · rw [if_neg h]
    go_enter Try.func80, Try.ntmps80
    go_wp2_with fail
    refine (szInt64S_any a g.kids.length c l _ p3 h0 h1).mono ?_
    rintro e w1 ⟨rfl, rfl⟩
    rw [if_neg (by omega)]
    go_wp2_with fail
    go_ret
    exact ⟨rfl, Ext.alloc _ _⟩
set_option maxHeartbeats 1000000 in
theorem szGateS_any (v : Value) (gs : List Gt) (l : Int) (w : World) (r : RdG w v gs) (h0 : 0 ≤ l) (h1 : l ≤ 1048576) :
    Calls Try.prog 30 #[v, .int .i64 l] w fun e w' => ∃ q : Int, e = .returned (.int .i64 q) ∧ (q < 0 ∨ (0 ≤ q ∧ gs.length ≤ 1048576 ∧ ∀ g ∈ gs, g.kids.length ≤ 1048576)) ∧ Ext w w' := by
  have r' := r
  obtain ⟨⟨-, a1, c1, rfl, p1, p2, -, -⟩, -⟩ := r
  unfold maxLen at p2
  by_cases hl : l - gs.length < 0
  · go_enter Try.func30, Try.ntmps30
    go_wp2_with fail
    go_ret
    exact ⟨-1, rfl, .inl (by decide), Ext.refl _⟩
  · go_enter Try.func30, Try.ntmps30
    go_wp2_with fail
    go_loopw [1, 5] (fun q i wr => ∃ (k : Nat) (m : Int), k ≤ gs.length ∧ i = .int .i64 k ∧ q = .int .i64 m ∧ 0 ≤ m ∧ m ≤ l - gs.length ∧ Hid (∀ j, (h : j < gs.length) → j < k → gs[j].kids.length ≤ 1048576) ∧ Ext w wr) (fun _ i _ => gs.length - (intOf i).toNat)
    case atStart => exact ⟨0, _, Nat.zero_le _, rfl, rfl, by omega, by omega, fun j _ h => absurd h (Nat.not_lt_zero _), Ext.refl _⟩
    case round =>
      obtain ⟨k, m, hk, rfl, rfl, hm0, hm1, Hn, X⟩ := hrel
      by_cases hlt : k < gs.length
      · obtain ⟨b, o, rfl, hb, k0, k1, k2⟩ := (r'.ext X).at hlt
        have hok := (r'.ext X).2 gs[k] (List.getElem_mem hlt)
        have hsz : szG1 gs[k] m = if m - gs[k].kids.length < 0 then -1 else m - gs[k].kids.length := rfl
        have Hsz := Lib.hid hsz
        clear hsz
        go_wp2_with fail
        refine (szGate_any gs[k] m _ hok hm0 (by omega)).mono ?_
        rintro e w2 ⟨rfl, hx⟩
        generalize szG1 gs[k] m = q at *
        by_cases hneg : q < 0
        · clear hok
          go_wp2_with fail
          go_ret
          exact ⟨-1, rfl, .inl (by decide), X.trans hx⟩
        · have hq := Hsz.out
          rw [if_neg (by intro h; rw [if_pos h] at hq; omega)] at hq
          have hkl : gs[k].kids.length ≤ 1048576 := by omega
          have Hkl := Lib.hid hkl
          have hq1 : q ≤ l - gs.length := by omega
          clear hq hkl hok
          go_wp2_with fail
          go_roundw
          case rel =>
            refine ⟨k + 1, q, by omega, by go_num, rfl, by omega, hq1, fun j hj hjk => ?_, X.trans hx⟩
            by_cases hjk2 : j = k
            · subst hjk2; exact Hkl.out
            · exact Hn.out j hj (by omega)
          case measure => simp [intOf]; omega
      · go_wp2_with fail
        go_ret
        refine ⟨m, rfl, .inr ⟨hm0, by omega, fun g hg => ?_⟩, X⟩
        obtain ⟨j, hj, rfl⟩ := List.getElem_of_mem hg
        exact Hn.out j hj (by omega)

theorem own_ext' {B : Nat} {e : TypeId} {k : Nat} {v : Value} {n : Nat} {xs : List Value} {w w' : World} (h : w.ownsRow B e k v n xs) (hb : Ext w w') : w'.ownsRow B e k v n xs :=
  h.kept (row := none) ⟨hb.os, hb.tape, hb.output, hb.size, fun j hj _ => hb.block j hj⟩ (by cases hv : v.ownBlock <;> simp)

/-! ### Rows of three cells that are made anew -/
theorem rows_len {α : Type} (f : α → List Value) {k : Nat} (hk : ∀ x, (f x).length = k) : ∀ xs : List α, (xs.map f).flatten.length = xs.length * k
  | [] => by simp
  | x :: xs => by rw [List.map_cons, List.flatten_cons, List.length_append, hk, rows_len f hk xs, List.length_cons, Nat.succ_mul]; omega
theorem made_rows3 (a b c : Value) (n : Nat) : (madeCells #[a, b, c] (n * 3)).toList = ((List.replicate n ()).map fun _ => [a, b, c]).flatten := by
  induction n with
  | zero => simp [madeCells]
  | succ n ih =>
    have e : (madeCells #[a, b, c] ((n + 1) * 3)).toList = (madeCells #[a, b, c] (n * 3)).toList ++ [a, b, c] := by
      apply List.ext_getElem?
      intro j
      by_cases h1 : j < n * 3
      · rw [List.getElem?_append_left (by simpa [madeCells] using h1)]
        simp [madeCells, h1, show j < (n + 1) * 3 by omega]
      · rw [List.getElem?_append_right (by simpa [madeCells] using h1)]
        have hs : (madeCells #[a, b, c] (n * 3)).toList.length = n * 3 := by simp [madeCells]
        rw [hs]
        by_cases h2 : j < (n + 1) * 3
        · obtain h | h | h : j = n * 3 ∨ j = n * 3 + 1 ∨ j = n * 3 + 2 := by omega
          all_goals
            subst h
            simp [madeCells, h2]
            try omega
        · rw [List.getElem?_eq_none (by simp [madeCells]; omega), List.getElem?_eq_none (by simp; omega)]
    rw [e, ih, List.replicate_succ', List.map_append, List.flatten_append]
    rfl
theorem set_row3 {A B : List Value} {x y z a b c : Value} {i : Nat} (h : A.length = i) : (((A ++ [x, y, z] ++ B).set i a).set (i + 1) b).set (i + 2) c = A ++ [a, b, c] ++ B := by
  subst h
  rw [List.append_assoc, List.set_append_right _ _ (by omega), List.set_append_right _ _ (by omega), List.set_append_right _ _ (by omega)]
  simp

theorem toGate_any (g : Gt) (w : World) (h : g.ok w) (hn : g.kids.length ≤ 1048576) :
    Calls Try.prog 83 #[.agg #[.int .i64 g.kind, .int .i64 g.votes, g.kv]] w fun e w' => ∃ b, e = .returned (.agg #[.int .i64 g.kind, .int .i64 g.votes, .slice (some ⟨b, 0, none⟩) g.kids.length g.kids.length]) ∧ Ext w w' ∧ w'.ownsRow w.heap.size 2 1 (.slice (some ⟨b, 0, none⟩) g.kids.length g.kids.length) g.kids.length (g.kids.map (Value.int .i64)) := by
  obtain ⟨hr, -⟩ := h
  have hr' := hr
  obtain ⟨-, a, c, hkv, -, -, -, -⟩ := hr'
  rw [hkv] at hr ⊢
  go_enter Try.func83, Try.ntmps83
  go_wp2_with fail
  refine (toInt64S_any _ g.kids.length (g.kids.map (Value.int .i64)) _ (((hr.alloc _).alloc _).alloc _) (by intro x hx; obtain ⟨z, _, rfl⟩ := List.mem_map.1 hx; exact ⟨z, rfl⟩) hn).mono ?_
  rintro e w1 ⟨b, rfl, hb, hown⟩
  obtain ⟨hc, hf⟩ := bcell hb
  have hz := hb.size
  simp at hz
  have hg := (hown.lt b rfl).1
  simp at hg
  go_wp2
  refine bodyPost_ret (v := .agg #[.int .i64 g.kind, .int .i64 g.votes, .slice (some ⟨b, 0, none⟩) g.kids.length g.kids.length]) (by simp [results, Try.results83, go_sem, hc]) rfl ⟨b, rfl, ?_, ?_⟩
  · have h1 := (((below_alloc w _).trans ((below_alloc _ _).mono (by simp))).trans ((below_alloc _ _).mono (by simp; omega))).trans (hb.mono (by simp; omega))
    exact (((h1.setCell (by simp; omega) _).setCell (by simp) _).setCell (by simp) _).setCell (by simp) _
  · exact World.ownsRow.mono (ownsRow_setCell_below (ownsRow_setCell_below (ownsRow_setCell_below (ownsRow_setCell_below hown (by simp) _) (by simp) _) (by simp) _) (by simp) _) (by simp; omega)

theorem infoGate : (Try.prog.info? 97).map (fun i => (i.zero, i.size, i.bytes)) = some (some (.agg #[.int .i64 0, .int .i64 0, .slice none 0 0]), 3, 40) := by kernel_rfl
def Gt.dat (g : Gt) : Int × Int × List Int := (g.kind, g.votes, g.kids)
def zeroG : List Value := [.int .i64 0, .int .i64 0, .slice none 0 0]
/-- The rows of what is copied, and the rest. -/
def rowsG (ns : List Gt) (m : Nat) : List Value := (ns.map Gt.row).flatten ++ ((List.replicate m ()).map fun _ => zeroG).flatten
theorem rowsG_set (ns : List Gt) (m : Nat) (g : Gt) : (((rowsG ns (m + 1)).set (ns.length * 3) (.int .i64 g.kind)).set (ns.length * 3 + 1) (.int .i64 g.votes)).set (ns.length * 3 + 2) g.kv = rowsG (ns ++ [g]) m := by
  unfold rowsG
  rw [List.replicate_succ, List.map_cons, List.flatten_cons, ← List.append_assoc]
  show (((_ ++ [Value.int .i64 0, .int .i64 0, .slice none 0 0] ++ _).set _ _).set _ _).set _ _ = _
  rw [set_row3 (rows_len Gt.row (fun _ => rfl) ns), List.map_append, List.flatten_append]
  simp [Gt.row]
theorem rowsG_at (ns : List Gt) (m : Nat) : (rowsG ns (m + 1))[ns.length * 3]? = some (.int .i64 0) ∧ (rowsG ns (m + 1))[ns.length * 3 + 1]? = some (.int .i64 0) ∧ (rowsG ns (m + 1))[ns.length * 3 + 2]? = some (.slice none 0 0) := by
  have hl := rows_len Gt.row (k := 3) (fun _ => rfl) ns
  unfold rowsG
  rw [List.replicate_succ, List.map_cons, List.flatten_cons]
  refine ⟨?_, ?_, ?_⟩ <;> rw [List.getElem?_append_right (by omega), hl] <;> simp [zeroG]
/-- A list of gates of the call's own. -/
def KidsO (B b : Nat) (w : World) (g : Gt) : Prop := (w.ownsRow B 2 1 g.kv g.kids.length (g.kids.map (Value.int .i64)) ∧ g.kv.ownBlock ≠ some b) ∧ (Lit.int .i64 g.kind).wf = true ∧ (Lit.int .i64 g.votes).wf = true ∧ ∀ z ∈ g.kids, (Lit.int .i64 z).wf = true
def OwnG (B : Nat) (w : World) (b n : Nat) (ns : List Gt) : Prop := ns.length = n ∧ w.ownsRow B 97 3 (.slice (some ⟨b, 0, none⟩) n n) n (ns.map Gt.row).flatten ∧ ∀ g ∈ ns, KidsO B b w g
theorem KidsO.ext {B b : Nat} {w w' : World} {g : Gt} (h : KidsO B b w g) (hx : Ext w w') : KidsO B b w' g := ⟨⟨own_ext' h.1.1 hx, h.1.2⟩, h.2⟩
theorem KidsO.set {B b j : Nat} {w : World} {g : Gt} {u : Value} (h : KidsO B b w g) : KidsO B b (w.setCell ⟨b, j, none⟩ u) g := ⟨⟨ownsRow_setCell_other h.1.1 h.1.2 u, h.1.2⟩, h.2⟩
theorem OwnG.ext {B b n : Nat} {w w' : World} {ns : List Gt} (h : OwnG B w b n ns) (hx : Ext w w') : OwnG B w' b n ns := ⟨h.1, own_ext' h.2.1 hx, fun g hg => (h.2.2 g hg).ext hx⟩
theorem KidsO.ok {B b : Nat} {w : World} {g : Gt} (h : KidsO B b w g) : g.ok w := ⟨by have := own_rd h.1.1; exact this, h.2⟩
theorem OwnG.rd {B b n : Nat} {w : World} {ns : List Gt} (h : OwnG B w b n ns) : RdG w (.slice (some ⟨b, 0, none⟩) n n) ns := by
  obtain ⟨rfl, h1, h2⟩ := h
  exact ⟨own_rd h1, fun g hg => (h2 g hg).ok⟩

set_option maxHeartbeats 1000000 in
theorem toGateS_any (v : Value) (gs : List Gt) (w : World) (r : RdG w v gs) (hn : gs.length ≤ 1048576) (hk : ∀ g ∈ gs, g.kids.length ≤ 1048576) :
    Calls Try.prog 32 #[v] w fun e w' => ∃ (b : Nat) (ns : List Gt), e = .returned (.slice (some ⟨b, 0, none⟩) gs.length gs.length) ∧ ns.map Gt.dat = gs.map Gt.dat ∧ Ext w w' ∧ OwnG w.heap.size w' b gs.length ns := by
  have r' := r
  obtain ⟨⟨-, a1, c1, rfl, p1, p2, -, -⟩, hok⟩ := r
  obtain ⟨i0, hi0, hz0, hz1, hz2⟩ := info_parts infoGate
  unfold maxLen at p2
  have HK := Lib.hid hk
  clear hk hok
  go_enter Try.func32, Try.ntmps32
  go_wp2_with (at_make; refine wpList_make_full _ rfl _ _ 47 rfl w.heap.size 97 i0 (.agg #[.int .i64 0, .int .i64 0, .slice none 0 0]) 3 Try.underlying47 hi0 hz0 hz1 _ _ _ _ gs.length rfl rfl rfl rfl ?c1 ?c2 ?c3 ?_)
  case c1 => rw [hz2]; omega
  case c2 => unfold maxLen; omega
  case c3 => exact Nat.le_refl _
  intro w1 hown hg
  go_wp2
  go_loopw [4] (fun i wr => ∃ (k : Nat) (ns : List Gt), k ≤ gs.length ∧ i = .int .i64 k ∧ ns.length = k ∧ Hid (ns.map Gt.dat = (gs.take k).map Gt.dat) ∧ Hid (∀ g ∈ ns, KidsO w.heap.size w.heap.size wr g) ∧
    wr.ownsRow w.heap.size 97 3 (.slice (some ⟨w.heap.size, 0, none⟩) gs.length gs.length) gs.length (rowsG ns (gs.length - k)) ∧ Below w.heap.size w wr) (fun i _ => gs.length - (intOf i).toNat)
  case atStart =>
    refine ⟨0, [], Nat.zero_le _, rfl, rfl, rfl, (fun g hg => by simp at hg), ?_, ?_⟩
    · have h := hown
      rw [made_rows3] at h
      exact h
    · exact (Below.refl _ _).grown hg (Nat.le_refl _) (fun _ h => by cases h)
  case round =>
    obtain ⟨k, ns, hk, rfl, hns, Hn, Hok, own, X⟩ := hrel
    by_cases hlt : k < gs.length
    · obtain ⟨b1, o1, rfl, hb1, k0, k1, k2⟩ := (r'.ext X).at hlt
      have hok := (r'.ext X).2 gs[k] (List.getElem_mem hlt)
      have HOk := Lib.hid hok
      go_wp2_with fail
      refine (toGate_any gs[k] _ hok (HK.out _ (List.getElem_mem hlt))).mono ?_
      rintro e w2 ⟨b, rfl, hx, hr⟩
      have own2 := own_ext' own hx
      have hm : gs.length - k = (gs.length - (k + 1)) + 1 := by omega
      rw [hm] at own2
      have z := rowsG_at ns (gs.length - (k + 1))
      rw [hns] at z
      have c0 := (own2.cellAt (k * 3) (by omega)).trans z.1
      have c1 := (own2.cellAt (k * 3 + 1) (by omega)).trans z.2.1
      have c2 := (own2.cellAt (k * 3 + 2) (by omega)).trans z.2.2
      have f0 := own2.frozenAt (k * 3)
      have f1 := own2.frozenAt (k * 3 + 1)
      have f2 := own2.frozenAt (k * 3 + 2)
      have HB := Lib.hid (own.lt _ rfl)
      clear z own hok
      have Hm := Lib.hid hm
      clear hm k0 k1 k2
      go_wp2_with fail
      go_roundw
      case rel =>
        have hbb := (hr.lt b rfl).1
        refine ⟨k + 1, ns ++ [⟨gs[k].kind, gs[k].votes, .slice (some ⟨b, 0, none⟩) gs[k].kids.length gs[k].kids.length, gs[k].kids⟩], by omega, by go_num, by simp [hns], ?_, ?_, ?_, ?_⟩
        · show _ = _
          rw [List.map_append, Hn.out, List.take_add_one, List.map_append]
          simp [hlt, Gt.dat]
        · show ∀ _ ∈ _, _
          intro g hg
          refine KidsO.set (KidsO.set (KidsO.set ?_))
          rcases List.mem_append.1 hg with h | h
          · exact (Hok.out g h).ext hx
          · obtain rfl := List.mem_singleton.1 h
            have := HB.out.2
            exact ⟨⟨hr.mono (Nat.le_of_lt this), by simp [Value.ownBlock]; omega⟩, HOk.out.2⟩
        · have h3 := ((own2.stored (k * 3) (.int .i64 gs[k].kind)).1.stored (k * 3 + 1) (.int .i64 gs[k].votes)).1.stored (k * 3 + 2) (.slice (some ⟨b, 0, none⟩) gs[k].kids.length gs[k].kids.length)
          have h4 := rowsG_set ns (gs.length - (k + 1)) ⟨gs[k].kind, gs[k].votes, .slice (some ⟨b, 0, none⟩) gs[k].kids.length gs[k].kids.length, gs[k].kids⟩
          rw [hns] at h4
          simp only at h4
          rw [h4] at h3
          exact h3.1
        · exact (((X.trans (hx.mono X.size)).setCell (Nat.le_refl _) _).setCell (Nat.le_refl _) _).setCell (Nat.le_refl _) _
      case measure => simp [intOf]; omega
    · have hkn : k = gs.length := by omega
      subst hkn
      go_wp2
      go_ret
      refine ⟨_, ns, rfl, ?_, X, hns, ?_, Hok.out⟩
      · have := Hn.out
        rwa [List.take_length] at this
      · have h := own
        rw [Nat.sub_self] at h
        unfold rowsG at h
        simpa using h

theorem eqGate_any (g h : Gt) (w : World) (r1 : g.ok w) (r2 : h.ok w) (hd : g.dat = h.dat) :
    Calls Try.prog 87 #[.agg #[.int .i64 g.kind, .int .i64 g.votes, g.kv], .agg #[.int .i64 h.kind, .int .i64 h.votes, h.kv]] w fun e w' => e = .returned (.bool true) ∧ Ext w w' := by
  obtain ⟨gk, gv, gs, gl⟩ := g
  obtain ⟨hk, hv, hs, hl⟩ := h
  simp only [Gt.dat, Prod.mk.injEq] at hd
  obtain ⟨rfl, rfl, rfl⟩ := hd
  obtain ⟨s1, -⟩ := r1
  obtain ⟨s2, -⟩ := r2
  have t1 := s1
  have t2 := s2
  obtain ⟨-, a1, c1, k1, -, -, -, -⟩ := s1
  obtain ⟨-, a2, c2, k2, -, -, -, -⟩ := s2
  simp only at k1 k2 t1 t2
  subst k1 k2
  go_enter Try.func87, Try.ntmps87
  go_wp2_with fail
  refine (eqInt64S_any _ _ gl gl _ ((t1.alloc _).alloc _) ((t2.alloc _).alloc _)).mono ?_
  rintro e w1 ⟨rfl, m, rfl⟩
  have H : Hid (decide (gl = gl) = true) := by show _ = _; simp
  generalize decide (gl = gl) = z at *
  obtain rfl : z = true := H.out
  go_wp2_with fail
  go_ret
  exact ⟨rfl, ((Ext.alloc _ _).trans (Ext.alloc _ _)).trans (Ext.drewN _ _)⟩
set_option maxHeartbeats 1000000 in
theorem eqGateS_any (v1 v2 : Value) (gs hs : List Gt) (w : World) (r1 : RdG w v1 gs) (r2 : RdG w v2 hs) (hd : gs.map Gt.dat = hs.map Gt.dat) :
    Calls Try.prog 34 #[v1, v2] w fun e w' => e = .returned (.bool true) ∧ Ext w w' := by
  have r1' := r1
  have r2' := r2
  obtain ⟨⟨-, a1, c1, rfl, p1, p2, -, -⟩, -⟩ := r1
  obtain ⟨⟨-, a2, c2, rfl, -, -, -, -⟩, -⟩ := r2
  have hlen : hs.length = gs.length := by have := congrArg List.length hd; simpa using this.symm
  rw [hlen] at r2' ⊢
  unfold maxLen at p2
  have HD := Lib.hid hd
  have HL := Lib.hid hlen
  clear hd hlen
  go_enter Try.func34, Try.ntmps34
  go_wp2_with fail
  go_loopw [5] (fun i wr => ∃ k : Nat, k ≤ gs.length ∧ i = .int .i64 k ∧ Ext w wr) (fun i _ => gs.length - (intOf i).toNat)
  case atStart => exact ⟨0, Nat.zero_le _, rfl, Ext.refl _⟩
  case round =>
    obtain ⟨k, hk, rfl, X⟩ := hrel
    by_cases hlt : k < gs.length
    · have hl2 : k < hs.length := by rw [HL.out]; exact hlt
      have q1 := (r1'.ext X).2 gs[k] (List.getElem_mem hlt)
      have q2 := (r2'.ext X).2 hs[k] (List.getElem_mem hl2)
      have Q1 := Lib.hid q1
      have Q2 := Lib.hid q2
      have hdk : Gt.dat gs[k] = Gt.dat hs[k] := by
        have := congrArg (fun l => l[k]?) HD.out
        simpa [hlt, hl2] using this
      have HDk := Lib.hid hdk
      clear q1 q2 hdk
      obtain ⟨b1, o1, rfl, hb1, k0, k1, k2⟩ := (r1'.ext X).at hlt
      obtain ⟨b2, o2, rfl, hb2, l0, l1, l2⟩ := (r2'.ext X).at hl2
      go_wp2_with fail
      refine wp_region_rel 10 (fun i v => v = .bool true) (fun _ _ _ => True) (by kernel_rfl) (by kernel_rfl) (by kernel_rfl) ?_
      dsimp only [List.take, List.drop, List.length]
      refine LX_det (.slice (some ⟨b1, o1, none⟩) gs.length c1) rfl rfl (fun w' hx _ => ?_) ?_
      · go_simp
      refine LX_det (.int .i64 k) rfl rfl (fun w' hx _ => ?_) ?_
      · go_simp
      refine LX_det (.pointer (some ⟨b1, o1 + k * 3, none⟩)) rfl rfl (fun w' hx _ => ?_) ?_
      · go_simp
      refine LX_det (.agg #[.int .i64 gs[k].kind, .int .i64 gs[k].votes, gs[k].kv]) rfl rfl (fun w' hx _ => ?_) ?_
      · obtain ⟨_, _, hbo, _, m0, m1, m2⟩ := ((r1'.ext X).ext hx).at hlt
        cases hbo
        go_simp
      refine LX_det (.slice (some ⟨b2, o2, none⟩) gs.length c2) rfl rfl (fun w' hx _ => ?_) ?_
      · go_simp
      refine LX_det (.int .i64 k) rfl rfl (fun w' hx _ => ?_) ?_
      · go_simp
      refine LX_det (.pointer (some ⟨b2, o2 + k * 3, none⟩)) rfl rfl (fun w' hx _ => ?_) ?_
      · go_simp
      refine LX_det (.agg #[.int .i64 hs[k].kind, .int .i64 hs[k].votes, hs[k].kv]) rfl rfl (fun w' hx _ => ?_) ?_
      · obtain ⟨_, _, hbo, _, m0, m1, m2⟩ := ((r2'.ext X).ext hx).at hl2
        cases hbo
        go_simp
      refine LX_call rfl rfl (fun _ => St.top) (fun w' hx _ => ?_) ?_
      · go_simp
        refine UponC.enter ((eqGate_any gs[k] hs[k] _ (Q1.out.ext hx) (Q2.out.ext hx) HDk.out).mono ?_)
        rintro e w'' ⟨rfl, hx'⟩
        exact ⟨_, rfl, hx', rfl, trivial⟩
      rintro _ rfl
      refine LX_det (.bool false) rfl rfl (fun w' hx _ => ?_) ?_
      · go_simp
      refine LX_nil fun w3 hx _ => ?_
      replace X := X.trans hx
      refine wpList_nil ?_
      simp only [Act.put, List.setIfInBounds_toArray, List.set_cons_succ, List.set_cons_zero]
      go_wp2_with fail
      go_roundw
      case rel => exact ⟨k + 1, by omega, by go_num, X⟩
      case measure => simp [intOf]; omega
    · go_wp2_with fail
      go_ret
      exact ⟨rfl, X⟩

end Go.Proofs.Ytepgkhcfeaklmaa
