
/- Marks in lists of gates, and the walk of an exact law over a tree that hands back a list of ints. Condition: what is marked are cells of the law's own. -/
import Derived.Test.YtepgkhcfeaklmaaFB
import Derived.Test.YtepgkhcfeaklmaaYg
namespace Go.Proofs.Ytepgkhcfeaklmaa
open Go Go.RowKit Go.ChangeShapes Go.WideShapes Go.ChangeAt

/-- A slice whose cells are ints that may be written, in a block between B and z. -/
def WrI (B z : Nat) (w : World) (v : Value) : Prop := ∃ a n c, v = .slice a n c ∧ n ≤ 1048576 ∧ (n = 0 ∨ ∃ g, a = some ⟨g, 0, none⟩ ∧ B ≤ g ∧ g < z ∧ ∀ j, j < n → (∃ x, w.cell? ⟨g, j, none⟩ = some (.int .i64 x)) ∧ w.frozen? ⟨g, j, none⟩ = false)
/-- Cells that hold ints have been written, in blocks between B and z. -/
structure MkR (B z : Nat) (w w' : World) : Prop where
  below : Below B w w'
  kept : KeptFrom z w w'
  cell : ∀ a v, w.cell? a = some v → w.frozen? a = false → ∃ v', w'.cell? a = some v' ∧ w'.frozen? a = false ∧ (((∃ x, v = .int .i64 x) ∧ ∃ y, v' = .int .i64 y) ∨ v' = v)
theorem MkR.refl (B z : Nat) (w : World) : MkR B z w w := ⟨Below.refl _ _, fun _ _ _ => rfl, fun a v h hf => ⟨v, h, hf, .inr rfl⟩⟩
theorem MkR.trans {B z : Nat} {a b c : World} (h : MkR B z a b) (k : MkR B z b c) : MkR B z a c := by
  refine ⟨Below.trans h.below k.below, fun j h1 h2 => (k.kept j h1 (Nat.lt_of_lt_of_le h2 h.below.size)).trans (h.kept j h1 h2), fun ad v hc hf => ?_⟩
  obtain ⟨v1, c1, f1, d1⟩ := h.cell ad v hc hf
  obtain ⟨v2, c2, f2, d2⟩ := k.cell ad v1 c1 f1
  refine ⟨v2, c2, f2, ?_⟩
  rcases d1 with ⟨hx, y, rfl⟩ | rfl
  · rcases d2 with ⟨-, hy⟩ | rfl
    · exact .inl ⟨hx, hy⟩
    · exact .inl ⟨hx, y, rfl⟩
  · exact d2
theorem MkR.set {B z g j : Nat} {w : World} {x : Int} (y : Int) (hg : B ≤ g) (hz : g < z) (hc : w.cell? ⟨g, j, none⟩ = some (.int .i64 x)) : MkR B z w (w.setCell ⟨g, j, none⟩ (.int .i64 y)) := by
  refine ⟨Below.setCell (Below.refl _ _) hg _, fun b h1 h2 => Below.heap_setCell _ _ _ b (by show b ≠ g; omega), fun a v h hf => ?_⟩
  have hf' : (w.setCell ⟨g, j, none⟩ (.int .i64 y)).frozen? a = false := by rw [World.frozen?_setCell]; exact hf
  by_cases e : a = ⟨g, j, none⟩
  · subst e
    rw [hc] at h
    cases h
    exact ⟨_, World.cell?_setCell_same' _ _ _ (by rw [hc]; rfl), hf', .inl ⟨⟨_, rfl⟩, _, rfl⟩⟩
  · exact ⟨v, (World.cell?_setCell_other _ _ _ _ (fun h => e h.symm)).trans h, hf', .inr rfl⟩
theorem WrI.mk {B z : Nat} {w w' : World} {v : Value} (h : WrI B z w v) (m : MkR B z w w') : WrI B z w' v := by
  obtain ⟨a, n, c, rfl, hn, h⟩ := h
  refine ⟨a, n, c, rfl, hn, ?_⟩
  rcases h with h | ⟨g, rfl, h1, h2, h3⟩
  · exact .inl h
  · refine .inr ⟨g, rfl, h1, h2, fun j hj => ?_⟩
    obtain ⟨⟨x, hx⟩, hf⟩ := h3 j hj
    obtain ⟨v', hc, hf', hd⟩ := m.cell _ _ hx hf
    rcases hd with ⟨-, y, rfl⟩ | rfl
    · exact ⟨⟨y, hc⟩, hf'⟩
    · exact ⟨⟨x, hc⟩, hf'⟩
theorem WrI.ext {B z : Nat} {w w' : World} {v : Value} (h : WrI B z w v) (hz : z ≤ w.heap.size) (hx : Ext w w') : WrI B z w' v := by
  obtain ⟨a, n, c, rfl, hn, h⟩ := h
  refine ⟨a, n, c, rfl, hn, ?_⟩
  rcases h with h | ⟨g, rfl, h1, h2, h3⟩
  · exact .inl h
  · refine .inr ⟨g, rfl, h1, h2, fun j hj => ?_⟩
    obtain ⟨⟨x, hx'⟩, hf⟩ := h3 j hj
    have hg : g < w.heap.size := by omega
    exact ⟨⟨x, (Below.cell hx (p := ⟨g, j, none⟩) hg).trans hx'⟩, (Below.frozen hx (p := ⟨g, j, none⟩) hg).trans hf⟩

set_option maxHeartbeats 1000000 in
theorem markI_w (k0 : Int) (B z : Nat) (v : Value) (w : World) (h : WrI B z w v) (h0 : 0 ≤ k0) (h1 : k0 ≤ 1152921504606846976) :
    Calls Try.prog 14 #[v, .int .i64 k0] w fun e w' => ∃ k, e = .returned (.int .i64 k) ∧ k0 ≤ k ∧ k ≤ k0 + 1048576 ∧ MkR B z w w' := by
  obtain ⟨a, n, c, rfl, hn, h⟩ := h
  rcases h with rfl | ⟨g, rfl, hB, hz, h3⟩
  · go_enter Try.func14, Try.ntmps14
    go_wp2_with fail
    go_loopw [1, 5] (fun q i wr => i = .int .i64 0 ∧ q = .int .i64 k0 ∧ wr = w) (fun _ _ _ => 0)
    case atStart => exact ⟨rfl, rfl, rfl⟩
    case round =>
      obtain ⟨rfl, rfl, rfl⟩ := hrel
      go_wp2_with fail
      go_ret
      exact ⟨k0, rfl, Int.le_refl _, by omega, MkR.refl _ _ _⟩
  · have H3 := Lib.hid h3
    clear h3
    go_enter Try.func14, Try.ntmps14
    go_wp2_with fail
    go_loopw [1, 5] (fun q i wr => ∃ j : Nat, j ≤ n ∧ i = .int .i64 j ∧ q = .int .i64 (k0 + j) ∧ MkR B z w wr) (fun _ i _ => n - (intOf i).toNat)
    case atStart => exact ⟨0, Nat.zero_le _, rfl, by simp, MkR.refl _ _ _⟩
    case round =>
      obtain ⟨j, hj, rfl, rfl, M⟩ := hrel
      by_cases hlt : j < n
      · obtain ⟨⟨x, hx⟩, hf⟩ := H3.out j hlt
        obtain ⟨v', hc, hf', hd⟩ := M.cell _ _ hx hf
        obtain ⟨y, rfl⟩ : ∃ y, v' = .int .i64 y := by
          rcases hd with ⟨-, y, rfl⟩ | rfl
          · exact ⟨y, rfl⟩
          · exact ⟨x, rfl⟩
        clear hx hf hd
        have hw : IntKind.i64.wrap (k0 + j) = k0 + j := IntWalk.i64_in _ (by omega)
        go_wp2_with fail
        go_roundw
        case rel => exact ⟨j + 1, by omega, by go_num, by go_num, M.trans (MkR.set _ hB hz hc)⟩
        case measure => simp [intOf]; omega
      · obtain rfl : j = n := by omega
        go_wp2_with fail
        go_ret
        exact ⟨k0 + j, rfl, by omega, by omega, M⟩

/-- Gates of the law's own: their cells may be written. -/
def GateW (B z : Nat) (w : World) (b n : Nat) : Prop := B ≤ b ∧ b < z ∧ ∀ i, i < n → ∃ x y kv, (w.cell? ⟨b, i * 3, none⟩ = some (.int .i64 x) ∧ w.frozen? ⟨b, i * 3, none⟩ = false) ∧
  (w.cell? ⟨b, i * 3 + 1, none⟩ = some (.int .i64 y) ∧ w.frozen? ⟨b, i * 3 + 1, none⟩ = false) ∧ (w.cell? ⟨b, i * 3 + 2, none⟩ = some kv ∧ w.frozen? ⟨b, i * 3 + 2, none⟩ = false) ∧ WrI B z w kv
theorem GateW.mk {B z b n : Nat} {w w' : World} (h : GateW B z w b n) (m : MkR B z w w') : GateW B z w' b n := by
  obtain ⟨h1, h2, h3⟩ := h
  refine ⟨h1, h2, fun i hi => ?_⟩
  obtain ⟨x, y, kv, ⟨c0, f0⟩, ⟨c1, f1⟩, ⟨c2, f2⟩, hk⟩ := h3 i hi
  obtain ⟨v0, d0, g0, e0⟩ := m.cell _ _ c0 f0
  obtain ⟨v1, d1, g1, e1⟩ := m.cell _ _ c1 f1
  obtain ⟨v2, d2, g2, e2⟩ := m.cell _ _ c2 f2
  obtain ⟨x', rfl⟩ : ∃ y, v0 = .int .i64 y := by
    rcases e0 with ⟨-, y, rfl⟩ | rfl
    · exact ⟨y, rfl⟩
    · exact ⟨x, rfl⟩
  obtain ⟨y', rfl⟩ : ∃ y, v1 = .int .i64 y := by
    rcases e1 with ⟨-, y, rfl⟩ | rfl
    · exact ⟨y, rfl⟩
    · exact ⟨_, rfl⟩
  obtain rfl : v2 = kv := by
    rcases e2 with ⟨⟨q, rfl⟩, -⟩ | rfl
    · obtain ⟨a, n, c, e, -⟩ := hk
      cases e
    · rfl
  exact ⟨x', y', v2, ⟨d0, g0⟩, ⟨d1, g1⟩, ⟨d2, g2⟩, hk.mk m⟩
theorem GateW.ext {B z b n : Nat} {w w' : World} (h : GateW B z w b n) (hz : z ≤ w.heap.size) (hx : Ext w w') : GateW B z w' b n := by
  obtain ⟨h1, h2, h3⟩ := h
  have hb : b < w.heap.size := by omega
  refine ⟨h1, h2, fun i hi => ?_⟩
  obtain ⟨x, y, kv, ⟨c0, f0⟩, ⟨c1, f1⟩, ⟨c2, f2⟩, hk⟩ := h3 i hi
  exact ⟨x, y, kv, ⟨(Below.cell hx (p := ⟨b, _, none⟩) hb).trans c0, (Below.frozen hx (p := ⟨b, _, none⟩) hb).trans f0⟩, ⟨(Below.cell hx (p := ⟨b, _, none⟩) hb).trans c1, (Below.frozen hx (p := ⟨b, _, none⟩) hb).trans f1⟩,
    ⟨(Below.cell hx (p := ⟨b, _, none⟩) hb).trans c2, (Below.frozen hx (p := ⟨b, _, none⟩) hb).trans f2⟩, hk.ext hz hx⟩
theorem OwnG.gateW {B b n : Nat} {w : World} {ns : List Gt} (h : OwnG B w b n ns) (hk : ∀ g ∈ ns, g.kids.length ≤ 1048576) : GateW B w.heap.size w b n := by
  obtain ⟨rfl, own, hks⟩ := h
  refine ⟨(own.lt b rfl).1, (own.lt b rfl).2, fun i hi => ?_⟩
  obtain ⟨b', o', e, -, k0, k1, k2⟩ := (OwnG.rd ⟨rfl, own, hks⟩).at hi
  cases e
  rw [Nat.zero_add] at k0 k1 k2
  refine ⟨ns[i].kind, ns[i].votes, ns[i].kv, ⟨k0, own.frozenAt _⟩, ⟨k1, own.frozenAt _⟩, ⟨k2, own.frozenAt _⟩, ?_⟩
  · have hm := List.getElem_mem hi
    obtain ⟨⟨ok, -⟩, -⟩ := hks _ hm
    have hn := hk _ hm
    have ok' := ok
    rcases ok.2 with ⟨e, h2⟩ | ⟨g, cap, cur, e, h1, h2, h3⟩
    · rw [e]
      exact ⟨none, 0, 0, rfl, by decide, .inl rfl⟩
    · rw [e] at ok' ⊢
      refine ⟨_, _, _, rfl, hn, .inr ⟨g, rfl, h1, (ok'.lt g rfl).2, fun j hj => ⟨⟨ns[i].kids[j], ?_⟩, ok'.frozenAt j⟩⟩⟩
      rw [ok'.cellAt j (by omega), List.getElem?_map, List.getElem?_eq_getElem hj]; rfl

set_option maxHeartbeats 2000000 in
theorem markG_any (B z b n : Nat) (w : World) (h : GateW B z w b n) (hn : n ≤ 1048576) :
    Calls Try.prog 35 #[.slice (some ⟨b, 0, none⟩) n n, .int .i64 1] w fun e w' => ∃ k, e = .returned (.int .i64 k) ∧ 0 ≤ k ∧ MkR B z w w' := by
  have HG := Lib.hid h
  clear h
  go_enter Try.func35, Try.ntmps35
  go_wp2_with fail
  go_loopw [1, 5] (fun q i wr => ∃ (j : Nat) (k : Int), j ≤ n ∧ i = .int .i64 j ∧ q = .int .i64 k ∧ 0 ≤ k ∧ k ≤ 1 + (j : Int) * 1048578 ∧ MkR B z w wr) (fun _ i _ => n - (intOf i).toNat)
  case atStart => exact ⟨0, 1, Nat.zero_le _, rfl, rfl, by decide, by decide, MkR.refl _ _ _⟩
  case round =>
    obtain ⟨j, k, hj, rfl, rfl, hk0, hk1, M⟩ := hrel
    by_cases hlt : j < n
    · obtain ⟨hB, hz, hG⟩ := HG.out.mk M
      obtain ⟨x, y, kv, ⟨c0, f0⟩, ⟨c1, f1⟩, ⟨c2, f2⟩, hw⟩ := hG j hlt
      obtain ⟨ka, kn, kc, rfl, -⟩ := id hw
      have M1 : MkR B z wr (wr.setCell ⟨b, j * 3, none⟩ (.int .i64 k)) := MkR.set _ hB hz c0
      have c1' : (wr.setCell ⟨b, j * 3, none⟩ (.int .i64 k)).cell? ⟨b, j * 3 + 1, none⟩ = some (.int .i64 y) := (World.cell?_setCell_other _ _ _ _ (by simp)).trans c1
      have M2 : MkR B z wr ((wr.setCell ⟨b, j * 3, none⟩ (.int .i64 k)).setCell ⟨b, j * 3 + 1, none⟩ (.int .i64 (k + 1))) := M1.trans (MkR.set _ hB hz c1')
      have hw2 := hw.mk M2
      have hk2 : k ≤ 1 + 1048576 * 1048578 := by
        have : (j : Int) * 1048578 ≤ 1048576 * 1048578 := by omega
        omega
      have hkw : IntKind.i64.wrap (k + 1) = k + 1 := IntWalk.i64_in _ (by omega)
      have hkw2 : IntKind.i64.wrap (k + 1 + 1) = k + 1 + 1 := IntWalk.i64_in _ (by omega)
      have hji : (j : Int) < (n : Int) := by omega
      clear M1 hG
      go_wp2_with fail
      refine (markI_w (k + 1 + 1) B z _ _ hw2 (by omega) (by omega)).mono ?_
      rintro e w3 ⟨k3, rfl, h3, h4, M3⟩
      go_wp2_with fail
      go_roundw
      case rel => exact ⟨j + 1, k3, by omega, by go_num, rfl, by omega, by push_cast; omega, M.trans (M2.trans M3)⟩
      case measure => simp [intOf]; omega
    · obtain rfl : j = n := by omega
      go_wp2_with fail
      go_ret
      exact ⟨k, rfl, hk0, M⟩

theorem OwZ.keptFrom {B T z : Nat} {w w' : World} {v : Value} {zs : List Int} (h : OwZ B T w v zs) (k : KeptFrom z w w') (hz : z ≤ B) : OwZ B T w' v zs := by
  rcases h with h | ⟨g, cap, rfl, hT, hl, h⟩
  · exact .inl h
  · refine .inr ⟨g, cap, rfl, hT, hl, ?_⟩
    rcases h with h' | ⟨g', cap', cur, e, h1, h2, h3⟩
    · exact .inl h'
    · refine .inr ⟨g', cap', cur, e, h1, ?_, h3⟩
      have hg : g' < w.heap.size := (Array.getElem?_eq_some_iff.1 h2).1
      rw [k g' (by omega) hg]; exact h2

set_option maxRecDepth 100000 in
set_option maxHeartbeats 8000000 in
theorem FnExactTreeCuts_law (p : Int) (v : Value) (gs : List Gt) (o : Option (List Int)) (w : World) (r : RdG w v gs)
    (hs : gs.length ≤ 1048576 → ∀ (w : World) (v : Value) (ns : List Gt), RdG w v ns → ns.map Gt.dat = gs.map Gt.dat → Calls Try.prog 45 #[.int .i64 p, v] w (ZlPost o w))
    (hi : gs.length ≤ 1048576 → ∀ (w : World) (v : Value) (ns : List Gt), RdG w v ns → ns.map Gt.dat = gs.map Gt.dat → Calls Try.prog 46 #[.int .i64 p, v] w (ZlPost o w))
    (hlen : (o.getD []).length ≤ 1048576) :
    Calls Try.prog 8 #[.int .i64 p, v] w fun e w' => e = .returned (.bool true) ∧ Ext w w' := by
  have HS0 := Lib.hid hs
  have HI0 := Lib.hid hi
  clear hs hi
  go_enter Try.func8, Try.ntmps8
  go_wp2_with fail
  refine (szGateS_any v gs 1048576 _ r (by decide) (by decide)).mono ?_
  rintro e w1 ⟨q, rfl, hq, X⟩
  by_cases hq0 : q < 0
  · clear hq
    go_wp2_with fail
    go_ret
    exact ⟨rfl, X⟩
  obtain ⟨hn, hk⟩ : gs.length ≤ 1048576 ∧ ∀ g ∈ gs, g.kids.length ≤ 1048576 := by
    rcases hq with h | h
    · exact absurd h hq0
    · exact h.2
  have HK := Lib.hid hk
  clear hq hk
  have HS := Lib.hid (HS0.out hn)
  have HI := Lib.hid (HI0.out hn)
  clear HS0 HI0
  go_wp2_with fail
  refine (toGateS_any v gs _ (r.ext X) hn HK.out).mono ?_
  rintro e w2 ⟨b, ns, rfl, hd, hx, own⟩
  have D1 := Lib.hid hd
  clear hd
  replace X := X.trans hx
  clear hx
  go_wp2_with fail
  refine (HS.out _ _ ns own.rd D1.out).mono ?_
  intro e w3 h4
  obtain ⟨vs, rfl, os, hx⟩ := zlPost_own h4
  clear h4 own
  replace X := X.trans hx
  clear hx
  generalize hZ : o.getD [] = zz at *
  have Y : Ext w3 w3 := Ext.refl _
  go_wp2_with fail
  refine (toGateS_any v gs _ (r.ext (X.trans Y)) hn HK.out).mono ?_
  rintro e w5 ⟨g, ms, rfl, hd, hx, own⟩
  have D2 := Lib.hid hd
  clear hd
  have MW := own.gateW (fun g hg => by
    have hm : g.dat ∈ gs.map Gt.dat := by rw [← D2.out]; exact List.mem_map.2 ⟨g, hg, rfl⟩
    obtain ⟨g', hg', e⟩ := List.mem_map.1 hm
    have := HK.out g' hg'
    have e2 : g'.kids = g.kids := congrArg (fun d => d.2.2) e
    rw [← e2]; exact this)
  replace Y := Y.trans hx
  clear hx
  have hz5 : w5.heap.size ≤ w5.heap.size := Nat.le_refl _
  go_wp2_with fail
  refine (HI.out _ _ ms own.rd D2.out).mono ?_
  intro e w6 h7
  obtain ⟨vi, rfl, oi, hx⟩ := zlPost_own h7
  clear h7
  rw [hZ] at oi
  have hB6 := Y.size
  replace own := own.ext hx
  replace MW := MW.ext hz5 hx
  replace hz5 := Nat.le_trans hz5 hx.size
  replace Y := Y.trans hx
  have hz7 : w6.heap.size ≤ w6.heap.size := Nat.le_refl _
  clear hx
  go_wp2_with fail
  refine (eqI_eq oi.rd (os.ext Y).rd).mono ?_
  rintro e w7 ⟨rfl, hx⟩
  replace own := own.ext hx
  replace MW := MW.ext hz5 hx
  replace hz5 := Nat.le_trans hz5 hx.size
  replace hz7 := Nat.le_trans hz7 hx.size
  replace oi := oi.ext hx
  replace Y := Y.trans hx
  clear hx
  go_wp2_with fail
  refine (toGateS_any v gs _ (r.ext (X.trans Y)) hn HK.out).mono ?_
  rintro e w8 ⟨b3, ls, rfl, hd, hx, own3⟩
  have D3 := Lib.hid hd
  clear hd
  replace own := own.ext hx
  replace MW := MW.ext hz5 hx
  replace hz5 := Nat.le_trans hz5 hx.size
  replace hz7 := Nat.le_trans hz7 hx.size
  replace oi := oi.ext hx
  replace Y := Y.trans hx
  clear hx
  go_wp2_with fail
  refine (eqGateS_any _ _ ms ls _ own.rd own3.rd (D2.out.trans D3.out.symm)).mono ?_
  rintro e w9 ⟨rfl, hx⟩
  clear own own3
  replace MW := MW.ext hz5 hx
  replace hz5 := Nat.le_trans hz5 hx.size
  replace hz7 := Nat.le_trans hz7 hx.size
  replace oi := oi.ext hx
  replace Y := Y.trans hx
  clear hx
  go_wp2_with fail
  refine (markG_any _ _ g gs.length _ MW hn).mono ?_
  rintro e w10 ⟨k, rfl, hk0, MR⟩
  have hpos : ¬ k < 0 := by omega
  replace oi := oi.keptFrom MR.kept (Nat.le_refl _)
  replace hz7 := Nat.le_trans hz7 MR.below.size
  replace hz5 := Nat.le_trans hz5 MR.below.size
  replace Y := Below.trans Y MR.below
  clear MR MW hk0
  go_wp2_with fail
  refine (eqI_eq oi.rd (os.ext Y).rd).mono ?_
  rintro e w11 ⟨rfl, hx⟩
  replace oi := oi.ext hx
  replace hz5 := Nat.le_trans hz5 hx.size
  replace Y := Ext.trans Y hx
  clear hx hz7
  go_wp2_with fail
  refine (markZ_own 1 _ _ _ _ _ oi hz5 (by decide) (by decide) hlen).mono ?_
  rintro e w12 ⟨rfl, G10, -, RM⟩
  replace Y := Below.trans Y (G10.mono hB6)
  clear G10 oi
  go_wp2_with fail
  refine (heldZ_own 1 _ _ zz.length _ _ RM (by decide) (by decide) hlen).mono ?_
  rintro e w13 ⟨rfl, rfl⟩
  go_wp2_with fail
  refine (toGateS_any v gs _ (r.ext (X.trans Y)) hn HK.out).mono ?_
  rintro e w14 ⟨b4, ks, rfl, hd, hx, own⟩
  have D4 := Lib.hid hd
  clear hd
  replace RM := RM.ext hx
  replace Y := Ext.trans Y hx
  clear hx
  go_wp2_with fail
  refine (HI.out _ _ ks own.rd D4.out).mono ?_
  intro e w15 h18
  obtain ⟨vh, rfl, oh, hx⟩ := zlPost_own h18
  rw [hZ] at oh
  clear h18 own
  replace RM := RM.ext hx
  replace Y := Ext.trans Y hx
  clear hx
  go_wp2_with fail
  refine (eqI_eq oh.rd (os.ext Y).rd).mono ?_
  rintro e w16 ⟨rfl, hx⟩
  replace RM := RM.ext hx
  replace oh := oh.ext hx
  replace Y := Ext.trans Y hx
  clear hx
  go_wp2_with fail
  refine (heldZ_own 1 _ _ zz.length _ _ RM (by decide) (by decide) hlen).mono ?_
  rintro e w17 ⟨rfl, rfl⟩
  go_wp2_with fail
  go_ret
  exact ⟨rfl, X.trans Y⟩
set_option maxRecDepth 100000 in
set_option maxHeartbeats 8000000 in
theorem FnExactTreeDiagram_law (p : Int) (v : Value) (gs : List Gt) (o : Option (List Int)) (w : World) (r : RdG w v gs)
    (hs : gs.length ≤ 1048576 → ∀ (w : World) (v : Value) (ns : List Gt), RdG w v ns → ns.map Gt.dat = gs.map Gt.dat → Calls Try.prog 31 #[.int .i64 p, v] w (ZlPost o w))
    (hi : gs.length ≤ 1048576 → ∀ (w : World) (v : Value) (ns : List Gt), RdG w v ns → ns.map Gt.dat = gs.map Gt.dat → Calls Try.prog 33 #[.int .i64 p, v] w (ZlPost o w))
    (hlen : (o.getD []).length ≤ 1048576) :
    Calls Try.prog 5 #[.int .i64 p, v] w fun e w' => e = .returned (.bool true) ∧ Ext w w' := by
  have HS0 := Lib.hid hs
  have HI0 := Lib.hid hi
  clear hs hi
  go_enter Try.func5, Try.ntmps5
  go_wp2_with fail
  refine (szGateS_any v gs 1048576 _ r (by decide) (by decide)).mono ?_
  rintro e w1 ⟨q, rfl, hq, X⟩
  by_cases hq0 : q < 0
  · clear hq
    go_wp2_with fail
    go_ret
    exact ⟨rfl, X⟩
  obtain ⟨hn, hk⟩ : gs.length ≤ 1048576 ∧ ∀ g ∈ gs, g.kids.length ≤ 1048576 := by
    rcases hq with h | h
    · exact absurd h hq0
    · exact h.2
  have HK := Lib.hid hk
  clear hq hk
  have HS := Lib.hid (HS0.out hn)
  have HI := Lib.hid (HI0.out hn)
  clear HS0 HI0
  go_wp2_with fail
  refine (toGateS_any v gs _ (r.ext X) hn HK.out).mono ?_
  rintro e w2 ⟨b, ns, rfl, hd, hx, own⟩
  have D1 := Lib.hid hd
  clear hd
  replace X := X.trans hx
  clear hx
  go_wp2_with fail
  refine (HS.out _ _ ns own.rd D1.out).mono ?_
  intro e w3 h4
  obtain ⟨vs, rfl, os, hx⟩ := zlPost_own h4
  clear h4 own
  replace X := X.trans hx
  clear hx
  generalize hZ : o.getD [] = zz at *
  have Y : Ext w3 w3 := Ext.refl _
  go_wp2_with fail
  refine (toGateS_any v gs _ (r.ext (X.trans Y)) hn HK.out).mono ?_
  rintro e w5 ⟨g, ms, rfl, hd, hx, own⟩
  have D2 := Lib.hid hd
  clear hd
  have MW := own.gateW (fun g hg => by
    have hm : g.dat ∈ gs.map Gt.dat := by rw [← D2.out]; exact List.mem_map.2 ⟨g, hg, rfl⟩
    obtain ⟨g', hg', e⟩ := List.mem_map.1 hm
    have := HK.out g' hg'
    have e2 : g'.kids = g.kids := congrArg (fun d => d.2.2) e
    rw [← e2]; exact this)
  replace Y := Y.trans hx
  clear hx
  have hz5 : w5.heap.size ≤ w5.heap.size := Nat.le_refl _
  go_wp2_with fail
  refine (HI.out _ _ ms own.rd D2.out).mono ?_
  intro e w6 h7
  obtain ⟨vi, rfl, oi, hx⟩ := zlPost_own h7
  clear h7
  rw [hZ] at oi
  have hB6 := Y.size
  replace own := own.ext hx
  replace MW := MW.ext hz5 hx
  replace hz5 := Nat.le_trans hz5 hx.size
  replace Y := Y.trans hx
  have hz7 : w6.heap.size ≤ w6.heap.size := Nat.le_refl _
  clear hx
  go_wp2_with fail
  refine (eqI_eq oi.rd (os.ext Y).rd).mono ?_
  rintro e w7 ⟨rfl, hx⟩
  replace own := own.ext hx
  replace MW := MW.ext hz5 hx
  replace hz5 := Nat.le_trans hz5 hx.size
  replace hz7 := Nat.le_trans hz7 hx.size
  replace oi := oi.ext hx
  replace Y := Y.trans hx
  clear hx
  go_wp2_with fail
  refine (toGateS_any v gs _ (r.ext (X.trans Y)) hn HK.out).mono ?_
  rintro e w8 ⟨b3, ls, rfl, hd, hx, own3⟩
  have D3 := Lib.hid hd
  clear hd
  replace own := own.ext hx
  replace MW := MW.ext hz5 hx
  replace hz5 := Nat.le_trans hz5 hx.size
  replace hz7 := Nat.le_trans hz7 hx.size
  replace oi := oi.ext hx
  replace Y := Y.trans hx
  clear hx
  go_wp2_with fail
  refine (eqGateS_any _ _ ms ls _ own.rd own3.rd (D2.out.trans D3.out.symm)).mono ?_
  rintro e w9 ⟨rfl, hx⟩
  clear own own3
  replace MW := MW.ext hz5 hx
  replace hz5 := Nat.le_trans hz5 hx.size
  replace hz7 := Nat.le_trans hz7 hx.size
  replace oi := oi.ext hx
  replace Y := Y.trans hx
  clear hx
  go_wp2_with fail
  refine (markG_any _ _ g gs.length _ MW hn).mono ?_
  rintro e w10 ⟨k, rfl, hk0, MR⟩
  have hpos : ¬ k < 0 := by omega
  replace oi := oi.keptFrom MR.kept (Nat.le_refl _)
  replace hz7 := Nat.le_trans hz7 MR.below.size
  replace hz5 := Nat.le_trans hz5 MR.below.size
  replace Y := Below.trans Y MR.below
  clear MR MW hk0
  go_wp2_with fail
  refine (eqI_eq oi.rd (os.ext Y).rd).mono ?_
  rintro e w11 ⟨rfl, hx⟩
  replace oi := oi.ext hx
  replace hz5 := Nat.le_trans hz5 hx.size
  replace Y := Ext.trans Y hx
  clear hx hz7
  go_wp2_with fail
  refine (markZ_own 1 _ _ _ _ _ oi hz5 (by decide) (by decide) hlen).mono ?_
  rintro e w12 ⟨rfl, G10, -, RM⟩
  replace Y := Below.trans Y (G10.mono hB6)
  clear G10 oi
  go_wp2_with fail
  refine (heldZ_own 1 _ _ zz.length _ _ RM (by decide) (by decide) hlen).mono ?_
  rintro e w13 ⟨rfl, rfl⟩
  go_wp2_with fail
  refine (toGateS_any v gs _ (r.ext (X.trans Y)) hn HK.out).mono ?_
  rintro e w14 ⟨b4, ks, rfl, hd, hx, own⟩
  have D4 := Lib.hid hd
  clear hd
  replace RM := RM.ext hx
  replace Y := Ext.trans Y hx
  clear hx
  go_wp2_with fail
  refine (HI.out _ _ ks own.rd D4.out).mono ?_
  intro e w15 h18
  obtain ⟨vh, rfl, oh, hx⟩ := zlPost_own h18
  rw [hZ] at oh
  clear h18 own
  replace RM := RM.ext hx
  replace Y := Ext.trans Y hx
  clear hx
  go_wp2_with fail
  refine (eqI_eq oh.rd (os.ext Y).rd).mono ?_
  rintro e w16 ⟨rfl, hx⟩
  replace RM := RM.ext hx
  replace oh := oh.ext hx
  replace Y := Ext.trans Y hx
  clear hx
  go_wp2_with fail
  refine (heldZ_own 1 _ _ zz.length _ _ RM (by decide) (by decide) hlen).mono ?_
  rintro e w17 ⟨rfl, rfl⟩
  go_wp2_with fail
  go_ret
  exact ⟨rfl, X.trans Y⟩
end Go.Proofs.Ytepgkhcfeaklmaa
