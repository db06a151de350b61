
/- BesideSystems, both sides. Condition: lists of ints that can be read. -/
import Derived.Test.YtepgkhcfeaklmaaZj
import Derived.Test.YtepgkhcfeaklmaaYt
import Derived.Test.YtepgkhcfeaklmaaZd
import Derived.Test.YtepgkhcfeaklmaaYp
namespace Go.Proofs.Ytepgkhcfeaklmaa
open Go Go.RowKit Go.ChangeShapes Go.WideShapes Go.ChangeAt

attribute [local irreducible] LX

theorem shL_take (a : Nat) (B : List Nat) {k : Nat} (h : k < B.length) : shL a (B.take (k + 1)) = shL a (B.take k) ++ [B[k] * 2 ^ a] := by
  unfold shL
  rw [List.take_succ_eq_append_getElem h, List.map_append]; rfl


def twoB (p q : Int) (zs ys : List Int) : Bool := sysB p zs && sysB q ys && decide (p + q ≤ 10)

set_option maxRecDepth 100000 in
set_option maxHeartbeats 4000000 in
theorem l03Two_any (p q : Int) (v u : Value) (zs ys : List Int) (b1 b2 : Nat) (w : World) (x1 : Bx w b1 [.int .i64 p, v]) (x2 : Bx w b2 [.int .i64 q, u]) (r : RdI w v zs) (rb : RdI w u ys) :
    Calls Try.prog 89 #[.pointer (some ⟨b1, 0, none⟩), .pointer (some ⟨b2, 0, none⟩)] w fun e w' => e = .returned (.bool (twoB p q zs ys)) ∧ Ext w w' := by
  have H1 := Lib.hid (fun W (x : Ext w W) => l03Is_sys p v zs b1 W (x1.ext x) (r.ext x))
  have H2 := Lib.hid (fun W (x : Ext w W) => l03Is_sys q u ys b2 W (x2.ext x) (rb.ext x))
  cases hv1 : sysB p zs
  · have HF : Hid (twoB p q zs ys = false) := by show _ = _; unfold twoB; rw [hv1]; rfl
    rw [hv1] at H1
    clear hv1 H2
    go_enter Try.func89, Try.ntmps89
    go_wp2_with fail
    refine wp_region_rel 18 (fun _ v => v = .bool false) (fun _ _ _ => True) (by kernel_rfl) (by kernel_rfl) (by kernel_rfl) ?_
    dsimp only [List.take, List.drop, List.length]
    refine LX_det (.pointer (some ⟨b1, 0, none⟩)) (by kernel_rfl) rfl (fun w' hx _ => ?_) ?_
    · go_simp
    refine LX_call (by kernel_rfl) rfl (fun _ => St.top) (fun w' hx _ => ?_) ?_
    · go_simp
      refine UponC.enter ((H1.out _ hx).mono ?_)
      rintro e w'' ⟨rfl, hx'⟩
      exact ⟨_, rfl, hx', rfl, trivial⟩
    rintro _ rfl
    refine LX_det (.bool false) (by kernel_rfl) rfl (fun w' hx _ => ?_) ?_
    · go_simp
    iterate 2 refine LX_skip (by kernel_rfl) ?_
    refine LX_det (.bool false) (by kernel_rfl) rfl (fun w' hx _ => ?_) ?_
    · go_simp
    refine LX_det (.bool false) (by kernel_rfl) rfl (fun w' hx _ => ?_) ?_
    · go_simp
    iterate 10 refine LX_skip (by kernel_rfl) ?_
    refine LX_det (.bool false) (by kernel_rfl) rfl (fun w' hx _ => ?_) ?_
    · go_simp
    refine LX_nil fun w2 hx _ => ?_
    simp only [Act.put, List.setIfInBounds_toArray, List.set_cons_succ, List.set_cons_zero]
    go_wp2_with fail
    go_ret
    exact ⟨ret_bool HF.out.symm, hx⟩
  rw [hv1] at H1
  cases hv2 : sysB q ys
  · have HF : Hid (twoB p q zs ys = false) := by show _ = _; unfold twoB; rw [hv1, hv2]; rfl
    rw [hv2] at H2
    clear hv1 hv2
    go_enter Try.func89, Try.ntmps89
    go_wp2_with fail
    refine wp_region_rel 18 (fun i v => v = .bool (i == 1)) (fun _ _ _ => True) (by kernel_rfl) (by kernel_rfl) (by kernel_rfl) ?_
    dsimp only [List.take, List.drop, List.length]
    refine LX_det (.pointer (some ⟨b1, 0, none⟩)) (by kernel_rfl) rfl (fun w' hx _ => ?_) ?_
    · go_simp
    refine LX_call (by kernel_rfl) rfl (fun _ => St.top) (fun w' hx _ => ?_) ?_
    · go_simp
      refine UponC.enter ((H1.out _ hx).mono ?_)
      rintro e w'' ⟨rfl, hx'⟩
      exact ⟨_, rfl, hx', rfl, trivial⟩
    rintro _ rfl
    refine LX_det (.bool true) (by kernel_rfl) rfl (fun w' hx _ => ?_) ?_
    · go_simp
    refine LX_det (.pointer (some ⟨b2, 0, none⟩)) (by kernel_rfl) rfl (fun w' hx _ => ?_) ?_
    · go_simp
    refine LX_call (by kernel_rfl) rfl (fun _ => St.top) (fun w' hx _ => ?_) ?_
    · go_simp
      refine UponC.enter ((H2.out _ hx).mono ?_)
      rintro e w'' ⟨rfl, hx'⟩
      exact ⟨_, rfl, hx', rfl, trivial⟩
    rintro _ rfl
    refine LX_det (.bool false) (by kernel_rfl) rfl (fun w' hx _ => ?_) ?_
    · go_simp
    refine LX_det (.bool false) (by kernel_rfl) rfl (fun w' hx _ => ?_) ?_
    · go_simp
    iterate 10 refine LX_skip (by kernel_rfl) ?_
    refine LX_det (.bool false) (by kernel_rfl) rfl (fun w' hx _ => ?_) ?_
    · go_simp
    refine LX_nil fun w2 hx _ => ?_
    simp only [Act.put, List.setIfInBounds_toArray, List.set_cons_succ, List.set_cons_zero]
    go_wp2_with fail
    go_ret
    exact ⟨ret_bool HF.out.symm, hx⟩
  · have HF : Hid (twoB p q zs ys = decide (p + q ≤ 10)) := by show _ = _; unfold twoB; rw [hv1, hv2]; rfl
    rw [hv2] at H2
    obtain ⟨s1, hp, -⟩ := SysN.of (sys_good' hv1)
    obtain ⟨s2, hq, -⟩ := SysN.of (sys_good' hv2)
    have hp10 := s1.p10
    have hq10 := s2.p10
    have hw : IntKind.i64.wrap (p + q) = p + q := IntWalk.i64_in _ (by omega)
    clear hv1 hv2 s1 s2 hp hq hp10 hq10
    obtain ⟨k0, -⟩ := x1.two
    obtain ⟨k2, -⟩ := x2.two
    have hb1 := x1.1
    have hb2 := x2.1
    go_enter Try.func89, Try.ntmps89
    go_wp2_with fail
    refine wp_region_rel 18 (fun _ v => v = .bool true) (fun _ _ _ => True) (by kernel_rfl) (by kernel_rfl) (by kernel_rfl) ?_
    dsimp only [List.take, List.drop, List.length]
    refine LX_det (.pointer (some ⟨b1, 0, none⟩)) (by kernel_rfl) rfl (fun w' hx _ => ?_) ?_
    · go_simp
    refine LX_call (by kernel_rfl) rfl (fun _ => St.top) (fun w' hx _ => ?_) ?_
    · go_simp
      refine UponC.enter ((H1.out _ hx).mono ?_)
      rintro e w'' ⟨rfl, hx'⟩
      exact ⟨_, rfl, hx', rfl, trivial⟩
    rintro _ rfl
    refine LX_det (.bool true) (by kernel_rfl) rfl (fun w' hx _ => ?_) ?_
    · go_simp
    refine LX_det (.pointer (some ⟨b2, 0, none⟩)) (by kernel_rfl) rfl (fun w' hx _ => ?_) ?_
    · go_simp
    refine LX_call (by kernel_rfl) rfl (fun _ => St.top) (fun w' hx _ => ?_) ?_
    · go_simp
      refine UponC.enter ((H2.out _ hx).mono ?_)
      rintro e w'' ⟨rfl, hx'⟩
      exact ⟨_, rfl, hx', rfl, trivial⟩
    rintro _ rfl
    refine LX_det (.bool true) (by kernel_rfl) rfl (fun w' hx _ => ?_) ?_
    · go_simp
    refine LX_det (.bool true) (by kernel_rfl) rfl (fun w' hx _ => ?_) ?_
    · go_simp
    refine LX_det (.pointer (some ⟨b1, 0, none⟩)) (by kernel_rfl) rfl (fun w' hx _ => ?_) ?_
    · go_simp
    refine LX_det (.pointer (some ⟨b1, 0, none⟩)) (by kernel_rfl) rfl (fun w' hx _ => ?_) ?_
    · go_simp
    refine LX_det (.pointer (some ⟨b1, 0, none⟩)) (by kernel_rfl) rfl (fun w' hx _ => ?_) ?_
    · go_simp
    refine LX_det (.int .i64 p) (by kernel_rfl) rfl (fun w' hx _ => ?_) ?_
    · have m0 := (Below.cell hx (p := ⟨b1, 0, none⟩) hb1).trans k0
      go_simp
    refine LX_det (.pointer (some ⟨b2, 0, none⟩)) (by kernel_rfl) rfl (fun w' hx _ => ?_) ?_
    · go_simp
    refine LX_det (.pointer (some ⟨b2, 0, none⟩)) (by kernel_rfl) rfl (fun w' hx _ => ?_) ?_
    · go_simp
    refine LX_det (.pointer (some ⟨b2, 0, none⟩)) (by kernel_rfl) rfl (fun w' hx _ => ?_) ?_
    · go_simp
    refine LX_det (.int .i64 q) (by kernel_rfl) rfl (fun w' hx _ => ?_) ?_
    · have m0 := (Below.cell hx (p := ⟨b2, 0, none⟩) hb2).trans k2
      go_simp
    refine LX_det (.int .i64 (p + q)) (by kernel_rfl) rfl (fun w' hx _ => ?_) ?_
    · go_simp
    refine LX_det (.bool (decide (p + q ≤ 10))) (by kernel_rfl) rfl (fun w' hx _ => ?_) ?_
    · go_simp
    refine LX_det (.bool (decide (p + q ≤ 10))) (by kernel_rfl) rfl (fun w' hx _ => ?_) ?_
    · go_simp
    refine LX_nil fun w2 hx _ => ?_
    simp only [Act.put, List.setIfInBounds_toArray, List.set_cons_succ, List.set_cons_zero]
    go_wp2_with fail
    go_ret
    exact ⟨ret_bool HF.out.symm, hx⟩

/-- append of a list that can be read to an empty slice, in a region that draws its order. -/
theorem LX_app0 {P : Program} {ops : Array Oper} {w0 : World} {SC : Nat → Value → Prop} {AC : Nat → Value → World → Prop} {Q : Act → World → Prop} {i : Nat} {o : Oper} {rest : List Oper} {Γ : Tmp → World → Prop} {a : Act} {s x : Operand} {t e : TypeId} {z sv : Value} {bytes b m : Nat} {xs : List Value}
    (hinfo : (P.info? e).map (fun i => (i.zero, i.size, i.bytes)) = some (some z, 1, bytes)) (hz : z.cells.size = 1) (ht : P.underlying t = some (.slice e))
    (hw : Region.wanted o (yielded ops a.tmps) = true) (ho : o.op = .call { callee := .builtin .append, args := #[s, x], argTypes := #[t, t] })
    (hs : a.eval s = .slice (some ⟨b, 0, none⟩) 0 0) (hx : a.eval x = sv) (r : ∀ w, Ext w0 w → Rd 1 w sv m xs) (hm : 0 < m) (hn : m ≤ 8796093022208) (hb16 : bytes ≤ 16)
    (h : ∀ g cap, w0.heap.size ≤ g → LX P ops w0 SC AC Q (i + 1) rest (upC Γ o.dst (fun w => w.ownsRow w0.heap.size e 1 (.slice (some ⟨g, 0, none⟩) m cap) m xs)) (a.put o.dst (.slice (some ⟨g, 0, none⟩) m cap))) : LX P ops w0 SC AC Q i (o :: rest) Γ a := by
  obtain ⟨ii, hi, i1, i2, i3⟩ := info_parts hinfo
  have hc : isCallB o = false := by unfold isCallB; rw [ho]
  unfold LX opR
  rw [if_pos hw, if_neg (by simp [hc])]
  refine ⟨fun v => ∃ g cap, v = .slice (some ⟨g, 0, none⟩) m cap ∧ w0.heap.size ≤ g, fun v w => w.ownsRow w0.heap.size e 1 v m xs, fun v w w' h1 h2 => own_ext h1 h2, fun w hx0 _ => ?_, ?_⟩
  · obtain ⟨hl, a1, c1, rfl, hc1, hc2, hc3, hc4⟩ := r w hx0
    obtain ⟨p, rfl⟩ : ∃ p, a1 = some p := by
      cases a1 with
      | none => have := hc3 rfl; omega
      | some p => exact ⟨p, rfl⟩
    have hr := run_append_grow (P := P) w t o.type e ii z ht hi i1 ⟨b, 0, none⟩ 0 0 [] (by simp) (by simp) p m c1 xs (by rw [i2]; exact hl) (by
        intro j u hj
        have hjl : j < m * 1 := by rw [← hl]; exact (List.getElem?_eq_some_iff.1 hj).1
        obtain ⟨g1, g2, g3⟩ := hc4 p rfl j hjl
        have hadd : p.add j = ⟨p.block, p.off + j, none⟩ := by
          obtain ⟨b, off, sp⟩ := p
          simp only at g1; subst g1
          unfold Addr.add; split <;> simp_all
        rw [hadd, g3, hj]) (by omega) (by omega) (by
        rw [Nat.zero_add, nextslicecap_zero hm, i3]
        have : m * bytes ≤ 8796093022208 * 16 := Nat.mul_le_mul hn hb16
        omega)
    have hge := grownCap_ge w (0 + m) 0 e
    have hcm : grownCap w (0 + m) 0 e ≤ maxLen := grownCap_le_maxLen w (0 + m) 0 e (by simp only [maxLen]; omega)
    have hrun : (execOp a.eval o).run P w = .ok (.value (.slice (some ⟨w.heap.size, 0, none⟩) (0 + m) (grownCap w (0 + m) 0 e)))
        (w.drew.alloc (.cells ((([] : List Value).toArray ++ xs.toArray ++ Builtin.zeroCells z.cells (grownCap w (0 + m) 0 e - (0 + m)))) e)) := by
      unfold execOp
      simp only [ho, resolve, invoke, builtin, Sem.run_bind, Sem.run_pure, Result.andThen_ok, List.map_toArray, List.map_cons, List.map_nil, hs, hx, hr]
    rw [hrun]
    generalize grownCap w (0 + m) 0 e = cap at *
    rw [Nat.zero_add] at *
    refine ⟨(Ext.drewN w 1).trans (Ext.alloc _ _), ⟨_, _, rfl, hx0.size⟩, hl, .inr ⟨w.heap.size, cap, _, rfl, hx0.size, heap_alloc_new w.drew _, hge, hcm, ?_, ?_⟩⟩
    · simp only [Array.size_append, List.size_toArray, size_zeroCells, hz, hl, List.length_nil]
      omega
    · simp only [Array.toList_append, List.nil_append]
      rw [← hl]
      exact List.take_left
  · rintro _ ⟨g, cap, rfl, hg⟩
    exact h g cap hg
theorem NewS.own {w0 w : World} {t : TypeId} {b : Nat} (h : NewS w0 [] t 0 (.slice (some ⟨b, 0, none⟩) 0 0) w) : w.ownsRow w0.heap.size t 1 (.slice (some ⟨b, 0, none⟩) 0 0) 0 [] := by
  obtain ⟨b', e, hb, h3⟩ := h
  simp at e; subst e
  exact ⟨rfl, .inr ⟨b, 0, #[], rfl, hb, h3, Nat.le_refl _, Nat.zero_le _, rfl, rfl⟩⟩
theorem ints_one (zs : List Int) : ∀ u ∈ zs.map (Value.int .i64), u.oneCell' = true := by
  intro u hu; obtain ⟨b, _, rfl⟩ := List.mem_map.1 hu; rfl
theorem beside_none {p q : Int} {zs ys : List Int} (h : twoB p q zs ys = false) : besideO p q zs ys = none := by
  unfold besideO
  cases hv : sysB p zs && sysB q ys
  · rfl
  · unfold twoB at h
    rw [hv] at h
    simp only [Bool.true_and, decide_eq_false_iff_not] at h
    rw [if_pos rfl]
    unfold sysO sysB goodI inB
    rw [if_neg]
    simp
    intro; omega

/-- A system handed back, drawn in a region. -/
def YqV (P0 : Int) (c : Bool) (v : Value) : Prop := ∃ a n k, v = .tuple #[.agg #[.int .i64 P0, .slice a n k], .bool c]
def YqW (B : Nat) (P0 : Int) (c : Bool) (zs : List Int) (v : Value) (w : World) : Prop := ∀ s, v = .tuple #[.agg #[.int .i64 P0, s], .bool c] → ∃ T, B ≤ B ∧ OwZ B T w s zs
theorem YqW.st (B : Nat) (P0 : Int) (c : Bool) (zs : List Int) (v : Value) : St (YqW B P0 c zs v) := fun _ _ h hx s e => by
  obtain ⟨T, h1, h2⟩ := h s e
  exact ⟨T, h1, h2.ext hx⟩
theorem OwZ.base {B B' T : Nat} {w : World} {v : Value} {zs : List Int} (h : OwZ B T w v zs) (hb : B' ≤ B) : OwZ B' T w v zs := by
  rcases h with h | ⟨g, cap, rfl, h1, own⟩
  · exact .inl h
  · exact .inr ⟨g, cap, rfl, h1, World.ownsRow.mono own hb⟩
theorem yqPost {o : Option (Int × List Int)} {P0 : Int} {zz : List Int} {B : Nat} {w w' : World} {e : Ending} (hP : (o.getD (0, [])).1 = P0) (hZ : (o.getD (0, [])).2 = zz) (h : YsPost o w e w') (hB : B ≤ w.heap.size) :
    ∃ v, e = .returned v ∧ Ext w w' ∧ YqV P0 o.isSome v ∧ YqW B P0 o.isSome zz v w' := by
  obtain ⟨vs, rfl, os, hx⟩ := ysPost_own h
  rw [hP, hZ] at *
  obtain ⟨a, n, c, rfl⟩ := os.shape
  refine ⟨_, rfl, hx, ⟨a, n, c, rfl⟩, fun s e => ?_⟩
  injection e with e1
  simp at e1
  subst e1
  exact ⟨_, Nat.le_refl _, os.base hB⟩
theorem Bz.set {w : World} {b : Nat} {t : TypeId} {cs : List Value} (h : Bz w b t cs) (j : Nat) (u : Value) : Bz (w.setCell ⟨b, j, none⟩ u) b t (cs.set j u) := by
  have := heap_setCell_same w b j _ _ u h
  unfold Bz
  rw [this]
  simp
theorem OwZ.setBox {B T b : Nat} {w : World} {v : Value} {zs : List Int} {cs : List Value} (h : OwZ B T w v zs) (hb : Bz w b 33 cs) (j : Nat) (u : Value) : OwZ B T (w.setCell ⟨b, j, none⟩ u) v zs := by
  rcases h with h | ⟨g, cap, rfl, h1, own⟩
  · exact .inl h
  · have hne : g ≠ b := own_ne own hb (by decide)
    exact .inr ⟨g, cap, rfl, h1, ownsRow_setCell_other own (by simpa [Value.ownBlock] using hne) _⟩

end Go.Proofs.Ytepgkhcfeaklmaa
