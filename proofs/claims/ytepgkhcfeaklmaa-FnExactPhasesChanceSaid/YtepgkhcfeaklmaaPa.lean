
/- Lists of systems: how they read, and the laws' functions that measure, copy and compare them. No condition. -/
import Derived.Test.YtepgkhcfeaklmaaRows
import Derived.Test.YtepgkhcfeaklmaaA
import Derived.Test.YtepgkhcfeaklmaaGA
import Derived.Test.YtepgkhcfeaklmaaSS
import Derived.Test.YtepgkhcfeaklmaaYg
import Derived.Outline
namespace Go.Proofs.Ytepgkhcfeaklmaa
open Go Go.RowKit Go.ChangeShapes Go.WideShapes Go.ChangeAt

attribute [local irreducible] LX

/-- A system in a list: its parts, its paths (the slice's value and what it holds). -/
structure Sy where
  parts : Int
  kv : Value
  zs : List Int
def Sy.row (g : Sy) : List Value := [.int .i64 g.parts, g.kv]
def Sy.ok (w : World) (g : Sy) : Prop := RdI w g.kv g.zs
def Sy.dat (g : Sy) : Int × List Int := (g.parts, g.zs)
def RdY (w : World) (v : Value) (gs : List Sy) : Prop := Rd 2 w v gs.length (gs.map Sy.row).flatten ∧ ∀ g ∈ gs, g.ok w
theorem Sy.ok.ext {w w' : World} {g : Sy} (h : g.ok w) (hb : Ext w w') : g.ok w' := RdI.ext h hb
theorem RdY.ext {w w' : World} {v : Value} {gs : List Sy} (h : RdY w v gs) (hb : Ext w w') : RdY w' v gs := ⟨h.1.ext hb, fun g hg => (h.2 g hg).ext hb⟩
theorem RdY.at {w : World} {a : Option Addr} {cap n : Nat} {gs : List Sy} (h : RdY w (.slice a n cap) gs) {i : Nat} (hi : i < gs.length) :
    ∃ b off, a = some ⟨b, off, none⟩ ∧ b < w.heap.size ∧ w.cell? ⟨b, off + i * 2, none⟩ = some (.int .i64 gs[i].parts) ∧ w.cell? ⟨b, off + i * 2 + 1, none⟩ = some gs[i].kv := by
  have hn : n = gs.length := by obtain ⟨⟨_, _, _, h2, _⟩, _⟩ := h; cases h2; rfl
  subst hn
  obtain ⟨b, off, h1, h2, h3⟩ := Rd.pos h.1 (by omega : 0 < gs.length * 2)
  have g := fun j (hj : j < 2) => (h3 (i * 2 + j) (by omega)).trans (flat_get Sy.row (fun _ => rfl) gs i j hi hj)
  refine ⟨b, off, h1, h2, ?_, ?_⟩
  · exact g 0 (by omega)
  · have := g 1 (by omega); rw [← Nat.add_assoc] at this; exact this

section
variable {H : Type} {enc : TypeId × Value → H} {P : Program} {w : World} {base : Nat} {held : Bool}
def ArgSyss (w : World) (v : Value) : Prop := ∃ (a : Option Addr) (len cap : Nat) (gs : List Sy), v = .slice a len cap ∧ RdY w (.slice a len cap) gs
variable {r : Reach} {b0 : Nat} {t e : TypeId} {v : Value} {d : DataW H} {p : List MemPlace}
open Go.Deep in
theorem argSyss {e1 : TypeId} {f0 f1 : Field} (ht : P.underlying t = some (.slice e)) (hs : P.underlying e = some (.struct #[f0, f1])) (hone : Go.Deep.oneCellFields P #[f0, f1] = true) (hC : P.cellsOf e = 2)
    (h0 : P.underlying f0.type = some (.int .i64)) (h1 : P.underlying f1.type = some (.slice e1)) (he : P.underlying e1 = some (.int .i64)) (hk : P.cellsOf e1 = 1)
    (hv : Value.okWide P w r b0 t v) (h : DataW.Trod enc P w base (fun _ => true) held t v d p) : ArgSyss w v := by
  obtain ⟨a, len, cap, rfl⟩ := okWide_slice ht hv
  obtain ⟨fuel, hf⟩ := h
  obtain ⟨a', len', cap', xs, e0, hr, hl, hrow⟩ := trod_rows ht hC (by omega) hf
  obtain ⟨gs, rfl, hg⟩ := rows_of Sy.row (Sy.ok w) xs fun r hm => by
    obtain ⟨hlen, n, y, hy⟩ := hrow r hm
    obtain ⟨y0, y1, n', _, _, g0, g1⟩ := trod_struct2 hs hy
    obtain ⟨c0, c1, rfl⟩ : ∃ a b, r = [a, b] := by
      match r, hlen with
      | [a, b], _ => exact ⟨a, b, rfl⟩
    obtain ⟨o0, k0⟩ := Go.Deep.hone_of hone 0 f0 rfl
    obtain ⟨o1, k1⟩ := Go.Deep.hone_of hone 1 f1 rfl
    have g0' : DataW.trod enc P w base (fun _ => true) held n' f0.type [c0] = some y0 := by simpa [o0, k0] using g0
    have g1' : DataW.trod enc P w base (fun _ => true) held n' f1.type [c1] = some y1 := by simpa [o1, k1] using g1
    obtain ⟨z0, q0, _, w0⟩ := DataW.trod_int h0 g0'
    obtain ⟨a2, l2, cp2, zs, rfl, hri, hz⟩ := trod_ints h1 he hk g1'
    simp at q0; subst q0
    exact ⟨⟨z0, .slice a2 l2 cp2, zs⟩, rfl, hri⟩
  simp only [List.length_map] at hl
  subst hl
  exact ⟨a', gs.length, cap', gs, e0, hr, hg⟩
end

set_option maxHeartbeats 1000000 in
theorem szSystemS_any (v : Value) (gs : List Sy) (l : Int) (w : World) (r : RdY w v gs) (h0 : 0 ≤ l) (h1 : l ≤ 1048576) :
    Calls Try.prog 47 #[v, .int .i64 l] w fun e w' => ∃ q : Int, e = .returned (.int .i64 q) ∧ (q < 0 ∨ (0 ≤ q ∧ gs.length ≤ 1048576 ∧ ∀ g ∈ gs, g.zs.length ≤ 1048576)) ∧ Ext w w' := by
  have r' := r
  obtain ⟨⟨-, a1, c1, rfl, p1, p2, -, -⟩, -⟩ := r
  unfold maxLen at p2
  by_cases hl : l - gs.length < 0
  · go_enter Try.func47, Try.ntmps47
    go_wp2_with fail
    go_ret
    exact ⟨-1, rfl, .inl (by decide), Ext.refl _⟩
  · go_enter Try.func47, Try.ntmps47
    go_wp2_with fail
    go_loopw [1, 5] (fun q i wr => ∃ (k : Nat) (m : Int), k ≤ gs.length ∧ i = .int .i64 k ∧ q = .int .i64 m ∧ 0 ≤ m ∧ m ≤ l - gs.length ∧ Hid (∀ j, (h : j < gs.length) → j < k → gs[j].zs.length ≤ 1048576) ∧ Ext w wr) (fun _ i _ => gs.length - (intOf i).toNat)
    case atStart => exact ⟨0, _, Nat.zero_le _, rfl, rfl, by omega, by omega, fun j _ h => absurd h (Nat.not_lt_zero _), Ext.refl _⟩
    case round =>
      obtain ⟨k, m, hk, rfl, rfl, hm0, hm1, Hn, X⟩ := hrel
      by_cases hlt : k < gs.length
      · obtain ⟨b, o, rfl, hb, k0, k1⟩ := (r'.ext X).at hlt
        have hok : RdI _ gs[k].kv gs[k].zs := (r'.ext X).2 gs[k] (List.getElem_mem hlt)
        obtain ⟨-, a2, c2, hkv, q1, q2, -, -⟩ := hok
        rw [hkv] at k1
        have hml : gs[k].zs.length ≤ maxLen := by omega
        clear hkv q1 q2
        have Hml := Lib.hid hml
        clear hml
        go_wp2_with fail
        refine (szSystem_any _ _ _ _ m _ Hml.out hm0 (by omega)).mono ?_
        rintro e w2 ⟨rfl, hx⟩
        by_cases hneg : m - gs[k].zs.length < 0
        · rw [if_pos hneg]
          go_wp2_with fail
          go_ret
          exact ⟨-1, rfl, .inl (by decide), X.trans hx⟩
        · rw [if_neg hneg]
          have hkl : gs[k].zs.length ≤ 1048576 := by omega
          have Hkl := Lib.hid hkl
          have hq1 : m - gs[k].zs.length ≤ l - gs.length := by omega
          clear hkl
          go_wp2_with fail
          go_roundw
          case rel =>
            refine ⟨k + 1, m - gs[k].zs.length, by omega, by go_num, rfl, by omega, hq1, fun j hj hjk => ?_, X.trans hx⟩
            by_cases hjk2 : j = k
            · subst hjk2; exact Hkl.out
            · exact Hn.out j hj (by omega)
          case measure => simp [intOf]; omega
      · go_wp2_with fail
        go_ret
        refine ⟨m, rfl, .inr ⟨hm0, by omega, fun g hg => ?_⟩, X⟩
        obtain ⟨j, hj, rfl⟩ := List.getElem_of_mem hg
        exact Hn.out j hj (by omega)

theorem made_rows2 (a b : Value) (n : Nat) : (madeCells #[a, b] (n * 2)).toList = ((List.replicate n ()).map fun _ => [a, b]).flatten := by
  induction n with
  | zero => simp [madeCells]
  | succ n ih =>
    have e : (madeCells #[a, b] ((n + 1) * 2)).toList = (madeCells #[a, b] (n * 2)).toList ++ [a, b] := by
      apply List.ext_getElem?
      intro j
      by_cases h1 : j < n * 2
      · rw [List.getElem?_append_left (by simpa [madeCells] using h1)]
        simp [madeCells, h1, show j < (n + 1) * 2 by omega]
      · rw [List.getElem?_append_right (by simpa [madeCells] using h1)]
        have hs : (madeCells #[a, b] (n * 2)).toList.length = n * 2 := by simp [madeCells]
        rw [hs]
        by_cases h2 : j < (n + 1) * 2
        · obtain h | h : j = n * 2 ∨ j = n * 2 + 1 := by omega
          all_goals
            subst h
            simp [madeCells, h2]
            try omega
        · rw [List.getElem?_eq_none (by simp [madeCells]; omega), List.getElem?_eq_none (by simp; omega)]
    rw [e, ih, List.replicate_succ', List.map_append, List.flatten_append]
    rfl
theorem set_row2 {A B : List Value} {x y a b : Value} {i : Nat} (h : A.length = i) : ((A ++ [x, y] ++ B).set i a).set (i + 1) b = A ++ [a, b] ++ B := by
  subst h
  rw [List.append_assoc, List.set_append_right _ _ (by omega), List.set_append_right _ _ (by omega)]
  simp

theorem infoSystem2 : (Try.prog.info? 33).map (fun i => (i.zero, i.size, i.bytes)) = some (some (.agg #[.int .i64 0, .slice none 0 0]), 2, 32) := by kernel_rfl
def zeroY : List Value := [.int .i64 0, .slice none 0 0]
def rowsY (ns : List Sy) (m : Nat) : List Value := (ns.map Sy.row).flatten ++ ((List.replicate m ()).map fun _ => zeroY).flatten
theorem rowsY_set (ns : List Sy) (m : Nat) (g : Sy) : ((rowsY ns (m + 1)).set (ns.length * 2) (.int .i64 g.parts)).set (ns.length * 2 + 1) g.kv = rowsY (ns ++ [g]) m := by
  unfold rowsY
  rw [List.replicate_succ, List.map_cons, List.flatten_cons, ← List.append_assoc]
  show ((_ ++ [Value.int .i64 0, .slice none 0 0] ++ _).set _ _).set _ _ = _
  rw [set_row2 (rows_len Sy.row (fun _ => rfl) ns), List.map_append, List.flatten_append]
  simp [Sy.row]
theorem rowsY_at (ns : List Sy) (m : Nat) : (rowsY ns (m + 1))[ns.length * 2]? = some (.int .i64 0) ∧ (rowsY ns (m + 1))[ns.length * 2 + 1]? = some (.slice none 0 0) := by
  have hl := rows_len Sy.row (k := 2) (fun _ => rfl) ns
  unfold rowsY
  rw [List.replicate_succ, List.map_cons, List.flatten_cons]
  refine ⟨?_, ?_⟩ <;> rw [List.getElem?_append_right (by omega), hl] <;> simp [zeroY]
/-- A list of systems of the call's own. -/
def KidsY (B b : Nat) (w : World) (g : Sy) : Prop := w.ownsRow B 2 1 g.kv g.zs.length (g.zs.map (Value.int .i64)) ∧ g.kv.ownBlock ≠ some b
def OwnY (B : Nat) (w : World) (b n : Nat) (ns : List Sy) : Prop := ns.length = n ∧ w.ownsRow B 33 2 (.slice (some ⟨b, 0, none⟩) n n) n (ns.map Sy.row).flatten ∧ ∀ g ∈ ns, KidsY B b w g
theorem KidsY.ext {B b : Nat} {w w' : World} {g : Sy} (h : KidsY B b w g) (hx : Ext w w') : KidsY B b w' g := ⟨own_ext' h.1 hx, h.2⟩
theorem KidsY.set {B b j : Nat} {w : World} {g : Sy} {u : Value} (h : KidsY B b w g) : KidsY B b (w.setCell ⟨b, j, none⟩ u) g := ⟨ownsRow_setCell_other h.1 h.2 u, h.2⟩
theorem OwnY.ext {B b n : Nat} {w w' : World} {ns : List Sy} (h : OwnY B w b n ns) (hx : Ext w w') : OwnY B w' b n ns := ⟨h.1, own_ext' h.2.1 hx, fun g hg => (h.2.2 g hg).ext hx⟩
theorem KidsY.ok {B b : Nat} {w : World} {g : Sy} (h : KidsY B b w g) : g.ok w := by have := own_rd h.1; exact this
theorem OwnY.rd {B b n : Nat} {w : World} {ns : List Sy} (h : OwnY B w b n ns) : RdY w (.slice (some ⟨b, 0, none⟩) n n) ns := by
  obtain ⟨rfl, h1, h2⟩ := h
  exact ⟨own_rd h1, fun g hg => (h2 g hg).ok⟩

set_option maxHeartbeats 1000000 in
theorem toSystemS_any (v : Value) (gs : List Sy) (w : World) (r : RdY w v gs) (hn : gs.length ≤ 1048576) (hk : ∀ g ∈ gs, g.zs.length ≤ 1048576) :
    Calls Try.prog 49 #[v] w fun e w' => ∃ (b : Nat) (ns : List Sy), e = .returned (.slice (some ⟨b, 0, none⟩) gs.length gs.length) ∧ ns.map Sy.dat = gs.map Sy.dat ∧ Ext w w' ∧ OwnY w.heap.size w' b gs.length ns := by
  have r' := r
  obtain ⟨⟨-, a1, c1, rfl, p1, p2, -, -⟩, hok⟩ := r
  obtain ⟨i0, hi0, hz0, hz1, hz2⟩ := info_parts infoSystem2
  unfold maxLen at p2
  have HK := Lib.hid hk
  clear hk hok
  go_enter Try.func49, Try.ntmps49
  go_wp2_with (at_make; refine wpList_make_full _ rfl _ _ 64 rfl w.heap.size 33 i0 (.agg #[.int .i64 0, .slice none 0 0]) 2 Try.underlying64 hi0 hz0 hz1 _ _ _ _ gs.length rfl rfl rfl rfl ?c1 ?c2 ?c3 ?_)
  case c1 => rw [hz2]; omega
  case c2 => unfold maxLen; omega
  case c3 => exact Nat.le_refl _
  intro w1 hown hg
  go_wp2
  go_loopw [4] (fun i wr => ∃ (k : Nat) (ns : List Sy), k ≤ gs.length ∧ i = .int .i64 k ∧ ns.length = k ∧ Hid (ns.map Sy.dat = (gs.take k).map Sy.dat) ∧ Hid (∀ g ∈ ns, KidsY w.heap.size w.heap.size wr g) ∧
    wr.ownsRow w.heap.size 33 2 (.slice (some ⟨w.heap.size, 0, none⟩) gs.length gs.length) gs.length (rowsY ns (gs.length - k)) ∧ Below w.heap.size w wr) (fun i _ => gs.length - (intOf i).toNat)
  case atStart =>
    refine ⟨0, [], Nat.zero_le _, rfl, rfl, rfl, (fun g hg => by simp at hg), ?_, ?_⟩
    · have h := hown
      rw [made_rows2] at h
      exact h
    · exact (Below.refl _ _).grown hg (Nat.le_refl _) (fun _ h => by cases h)
  case round =>
    obtain ⟨k, ns, hk, rfl, hns, Hn, Hok, own, X⟩ := hrel
    by_cases hlt : k < gs.length
    · obtain ⟨b1, o1, rfl, hb1, k0, k1⟩ := (r'.ext X).at hlt
      have hok : RdI _ gs[k].kv gs[k].zs := (r'.ext X).2 gs[k] (List.getElem_mem hlt)
      have HOk := Lib.hid hok
      obtain ⟨-, a2, c2, hkv, -, -, -, -⟩ := hok
      rw [hkv] at k1
      have HKV := Lib.hid hkv
      clear hkv
      go_wp2_with fail
      refine (toSystem_own gs[k].parts a2 c2 gs[k].zs.length gs[k].zs _ (by rw [← HKV.out]; exact HOk.out) (HK.out _ (List.getElem_mem hlt))).mono ?_
      rintro e w2 ⟨b, rfl, hx, hr⟩
      have own2 := own_ext' own hx
      have hm : gs.length - k = (gs.length - (k + 1)) + 1 := by omega
      rw [hm] at own2
      have z := rowsY_at ns (gs.length - (k + 1))
      rw [hns] at z
      have c0 := (own2.cellAt (k * 2) (by omega)).trans z.1
      have c1 := (own2.cellAt (k * 2 + 1) (by omega)).trans z.2
      have f0 := own2.frozenAt (k * 2)
      have f1 := own2.frozenAt (k * 2 + 1)
      have HB := Lib.hid (own.lt _ rfl)
      clear z own
      have Hm := Lib.hid hm
      clear hm k0 k1
      go_wp2_with fail
      go_roundw
      case rel =>
        have hbb := (hr.lt b rfl).1
        refine ⟨k + 1, ns ++ [⟨gs[k].parts, .slice (some ⟨b, 0, none⟩) gs[k].zs.length gs[k].zs.length, gs[k].zs⟩], by omega, by go_num, by simp [hns], ?_, ?_, ?_, ?_⟩
        · show _ = _
          rw [List.map_append, Hn.out, List.take_add_one, List.map_append]
          simp [hlt, Sy.dat]
        · show ∀ _ ∈ _, _
          intro g hg
          refine KidsY.set (KidsY.set ?_)
          rcases List.mem_append.1 hg with h | h
          · exact (Hok.out g h).ext hx
          · obtain rfl := List.mem_singleton.1 h
            have := HB.out.2
            exact ⟨hr.mono (Nat.le_of_lt this), by simp [Value.ownBlock]; omega⟩
        · have h3 := (own2.stored (k * 2) (.int .i64 gs[k].parts)).1.stored (k * 2 + 1) (.slice (some ⟨b, 0, none⟩) gs[k].zs.length gs[k].zs.length)
          have h4 := rowsY_set ns (gs.length - (k + 1)) ⟨gs[k].parts, .slice (some ⟨b, 0, none⟩) gs[k].zs.length gs[k].zs.length, gs[k].zs⟩
          rw [hns] at h4
          simp only at h4
          rw [h4] at h3
          exact h3.1
        · exact ((X.trans (hx.mono X.size)).setCell (Nat.le_refl _) _).setCell (Nat.le_refl _) _
      case measure => simp [intOf]; omega
    · have hkn : k = gs.length := by omega
      subst hkn
      go_wp2
      go_ret
      refine ⟨_, ns, rfl, ?_, X, hns, ?_, Hok.out⟩
      · have := Hn.out
        rwa [List.take_length] at this
      · have h := own
        rw [Nat.sub_self] at h
        unfold rowsY at h
        simpa using h

theorem eqSy_any (g h : Sy) (w : World) (r1 : g.ok w) (r2 : h.ok w) (hd : g.dat = h.dat) :
    Calls Try.prog 40 #[.agg #[.int .i64 g.parts, g.kv], .agg #[.int .i64 h.parts, h.kv]] w fun e w' => e = .returned (.bool true) ∧ Ext w w' := by
  obtain ⟨gp, gv, gz⟩ := g
  obtain ⟨hp, hv, hz⟩ := h
  simp only [Sy.dat, Prod.mk.injEq] at hd
  obtain ⟨rfl, rfl⟩ := hd
  exact eqSys_eq gp r1 r2
set_option maxHeartbeats 1000000 in
theorem eqSystemS_any (v1 v2 : Value) (gs hs : List Sy) (w : World) (r1 : RdY w v1 gs) (r2 : RdY w v2 hs) (hd : gs.map Sy.dat = hs.map Sy.dat) :
    Calls Try.prog 53 #[v1, v2] w fun e w' => e = .returned (.bool true) ∧ Ext w w' := by
  have r1' := r1
  have r2' := r2
  obtain ⟨⟨-, a1, c1, rfl, p1, p2, -, -⟩, -⟩ := r1
  obtain ⟨⟨-, a2, c2, rfl, -, -, -, -⟩, -⟩ := r2
  have hlen : hs.length = gs.length := by have := congrArg List.length hd; simpa using this.symm
  rw [hlen] at r2' ⊢
  unfold maxLen at p2
  have HD := Lib.hid hd
  have HL := Lib.hid hlen
  clear hd hlen
  go_enter Try.func53, Try.ntmps53
  go_wp2_with fail
  go_loopw [5] (fun i wr => ∃ k : Nat, k ≤ gs.length ∧ i = .int .i64 k ∧ Ext w wr) (fun i _ => gs.length - (intOf i).toNat)
  case atStart => exact ⟨0, Nat.zero_le _, rfl, Ext.refl _⟩
  case round =>
    obtain ⟨k, hk, rfl, X⟩ := hrel
    by_cases hlt : k < gs.length
    · have hl2 : k < hs.length := by rw [HL.out]; exact hlt
      have q1 := (r1'.ext X).2 gs[k] (List.getElem_mem hlt)
      have q2 := (r2'.ext X).2 hs[k] (List.getElem_mem hl2)
      have Q1 := Lib.hid q1
      have Q2 := Lib.hid q2
      have hdk : Sy.dat gs[k] = Sy.dat hs[k] := by
        have := congrArg (fun l => l[k]?) HD.out
        simpa [hlt, hl2] using this
      have HDk := Lib.hid hdk
      clear q1 q2 hdk
      obtain ⟨b1, o1, rfl, hb1, k0, k1⟩ := (r1'.ext X).at hlt
      obtain ⟨b2, o2, rfl, hb2, l0, l1⟩ := (r2'.ext X).at hl2
      go_wp2_with fail
      refine wp_region_rel 10 (fun i v => v = .bool true) (fun _ _ _ => True) (by kernel_rfl) (by kernel_rfl) (by kernel_rfl) ?_
      dsimp only [List.take, List.drop, List.length]
      refine LX_det (.slice (some ⟨b1, o1, none⟩) gs.length c1) (by kernel_rfl) rfl (fun w' hx _ => ?_) ?_
      · go_simp
      refine LX_det (.int .i64 k) (by kernel_rfl) rfl (fun w' hx _ => ?_) ?_
      · go_simp
      refine LX_det (.pointer (some ⟨b1, o1 + k * 2, none⟩)) (by kernel_rfl) rfl (fun w' hx _ => ?_) ?_
      · go_simp
      refine LX_det (.agg #[.int .i64 gs[k].parts, gs[k].kv]) (by kernel_rfl) rfl (fun w' hx _ => ?_) ?_
      · obtain ⟨_, _, hbo, _, m0, m1⟩ := ((r1'.ext X).ext hx).at hlt
        cases hbo
        go_simp
      refine LX_det (.slice (some ⟨b2, o2, none⟩) gs.length c2) (by kernel_rfl) rfl (fun w' hx _ => ?_) ?_
      · go_simp
      refine LX_det (.int .i64 k) (by kernel_rfl) rfl (fun w' hx _ => ?_) ?_
      · go_simp
      refine LX_det (.pointer (some ⟨b2, o2 + k * 2, none⟩)) (by kernel_rfl) rfl (fun w' hx _ => ?_) ?_
      · go_simp
      refine LX_det (.agg #[.int .i64 hs[k].parts, hs[k].kv]) (by kernel_rfl) rfl (fun w' hx _ => ?_) ?_
      · obtain ⟨_, _, hbo, _, m0, m1⟩ := ((r2'.ext X).ext hx).at hl2
        cases hbo
        go_simp
      refine LX_call (by kernel_rfl) rfl (fun _ => St.top) (fun w' hx _ => ?_) ?_
      · go_simp
        refine UponC.enter ((eqSy_any gs[k] hs[k] _ (Q1.out.ext hx) (Q2.out.ext hx) HDk.out).mono ?_)
        rintro e w'' ⟨rfl, hx'⟩
        exact ⟨_, rfl, hx', rfl, trivial⟩
      rintro _ rfl
      refine LX_det (.bool false) (by kernel_rfl) rfl (fun w' hx _ => ?_) ?_
      · go_simp
      refine LX_nil fun w3 hx _ => ?_
      replace X := X.trans hx
      refine wpList_nil ?_
      simp only [Act.put, List.setIfInBounds_toArray, List.set_cons_succ, List.set_cons_zero]
      go_wp2_with fail
      go_roundw
      case rel => exact ⟨k + 1, by omega, by go_num, X⟩
      case measure => simp [intOf]; omega
    · go_wp2_with fail
      go_ret
      exact ⟨rfl, X⟩
end Go.Proofs.Ytepgkhcfeaklmaa
