
/- Codes: slices of bytes, the number that a code chooses. (As in the text on FnSpares, without that law's tables.) Conditions: in the theorems. Choices read from bytes: the next one, one below n. The place where they are read from is the call's own. Conditions: in the theorems. Lives that are drawn: times are halves up to 12, each ends by a failure or not. Condition: at most 200 lives. -/
import Derived.Test.YtlbmjeennpccmaaRead
import Derived.Test.YtlbmjeennpccmaaEx
import Derived.Test.YtlbmjeennpccmaaRh
import Derived.Test.YtlbmjeennpccmaaCr
import Derived.Test.YtlbmjeennpccmaaE
import Derived.Test.YtlbmjeennpccmaaMi
import Derived.Test.YtlbmjeennpccmaaLq
namespace Go.Proofs.Ytlbmjeennpccmaa
open Go Go.RowKit Go.ChangeShapes Go.WideShapes Go.ChangeAt

/-- A slice of bytes. -/
def RdY (w : World) (v : Value) (zs : List Int) : Prop := Rd 1 w v zs.length (zs.map (Value.int .u8)) ∧ ∀ z ∈ zs, 0 ≤ z ∧ z < 256
theorem RdY.ext {w w' : World} {v : Value} {zs : List Int} (h : RdY w v zs) (hb : Ext w w') : RdY w' v zs := ⟨h.1.ext hb, h.2⟩
theorem RdY.at {w : World} {a : Option Addr} {cap n : Nat} {zs : List Int} (h : RdY w (.slice a n cap) zs) {k : Nat} (hk : k < zs.length) :
    ∃ b off, a = some ⟨b, off, none⟩ ∧ b < w.heap.size ∧ w.cell? ⟨b, off + k, none⟩ = some (.int .u8 zs[k]) := by
  have hn : n = zs.length := by obtain ⟨⟨_, _, _, h2, _⟩, _⟩ := h; cases h2; rfl
  subst hn
  obtain ⟨b, off, h1, h2, h3⟩ := Rd.pos h.1 (by omega : 0 < zs.length * 1)
  refine ⟨b, off, h1, h2, ?_⟩
  rw [h3 k (by omega)]
  simp [hk]
section
variable {H : Type} {enc : TypeId × Value → H} {P : Program} {w : World} {base : Nat} {held : Bool} {r : Reach} {b0 : Nat} {t e : TypeId} {v : Value} {d : DataW H} {p : List MemPlace}
def ArgBytes (w : World) (v : Value) : Prop := ∃ (a : Option Addr) (len cap : Nat) (zs : List Int), v = .slice a len cap ∧ RdY w (.slice a len cap) zs
theorem argBytes (ht : P.underlying t = some (.slice e)) (he : P.underlying e = some (.int .u8)) (hk : P.cellsOf e = 1) (hv : Value.okWide P w r b0 t v) (h : DataW.Trod enc P w base (fun _ => true) held t v d p) : ArgBytes w v := by
  obtain ⟨a, len, cap, rfl⟩ := okWide_slice ht hv
  obtain ⟨fuel, hf⟩ := h
  obtain ⟨a', len', cap', xs, e0, hr, hl, hrow⟩ := trod_rows ht hk (by omega) hf
  obtain ⟨zs, e1, e2, e3⟩ := singles (Value.int .u8) (fun z => 0 ≤ z ∧ z < 256) xs fun r hm => by
    obtain ⟨_, n, y, hy⟩ := hrow r hm
    obtain ⟨z, h1, _, h3⟩ := DataW.trod_int he hy
    refine ⟨z, h1, ?_⟩
    have h4 : (IntKind.u8).min ≤ z ∧ z ≤ (IntKind.u8).max := by simpa [Lit.wf] using h3
    have h5 : (IntKind.u8).min = 0 := by decide
    have h6 : (IntKind.u8).max = 255 := by decide
    omega
  rw [e1] at hr
  have : len' = zs.length := by rw [e2, hl]
  subst this
  exact ⟨a', zs.length, cap', zs, e0, hr, e3⟩
end

/-- The number below n that an input chooses. -/
def at8 (zs : List Int) (k : Nat) (n : Nat) : Nat := if k < zs.length then (zs.getD k 0).toNat % n else 0
theorem at8_lt {zs : List Int} {k n : Nat} (h : 0 < n) : at8 zs k n < n := by
  unfold at8; split
  · exact Nat.mod_lt _ h
  · exact h
theorem r8Long_any (v1 v2 : Value) (xs ys : List Int) (w : World) (r1 : RdY w v1 xs) (r2 : RdY w v2 ys) :
    Calls Try.prog 21 #[v1, v2] w fun e w' => e = .returned (.bool (decide (48 < xs.length ∨ 48 < ys.length))) ∧ w = w' := by
  obtain ⟨⟨-, a1, c1, rfl, p1, p2, -, -⟩, -⟩ := r1
  obtain ⟨⟨-, a2, c2, rfl, q1, q2, -, -⟩, -⟩ := r2
  clear p1 p2 q1 q2
  go_enter Try.func21, Try.ntmps21
  go_wp2_with fail
  all_goals
    go_ret
    refine ⟨ret_bool ?_, rfl⟩
    rw [Bool.eq_iff_iff]
    simp [*] <;> omega
set_option maxRecDepth 100000 in
theorem r8At_any (v : Value) (zs : List Int) (k n : Nat) (w : World) (r : RdY w v zs) (hn : 2 ≤ n) (hn2 : n ≤ 1000) (hk : k ≤ 1000) :
    Calls Try.prog 22 #[v, .int .i64 k, .int .i64 n] w fun e w' => e = .returned (.int .i64 (at8 zs k n : Nat)) ∧ w = w' := by
  have r' := r
  obtain ⟨⟨-, a1, c1, rfl, p1, p2, -, -⟩, hz⟩ := r
  have p3 : zs.length ≤ maxLen := Nat.le_trans p1 p2
  clear p1 p2
  unfold maxLen at p3
  by_cases hlt : k < zs.length
  · obtain ⟨b, o, rfl, hb, hc⟩ := r'.at hlt
    obtain ⟨z0, z1⟩ := hz _ (List.getElem_mem hlt)
    have H : Hid ((at8 zs k n : Nat) = zs[k].toNat % n) := by show _ = _; unfold at8; rw [if_pos hlt]; simp [hlt]
    obtain ⟨y, hy⟩ := Int.eq_ofNat_of_zero_le z0
    have H2 : Hid ((at8 zs k n : Nat) = y % n) := by show _ = _; rw [H.out, hy]; rfl
    rw [hy] at hc z1 z0
    clear H hy hz
    go_enter Try.func22, Try.ntmps22
    go_wp2_with fail
    go_ret
    refine ⟨ret_int ?_, rfl⟩
    rw [H2.out]
    omega
  · have H : Hid (at8 zs k n = 0) := by show _ = _; unfold at8; rw [if_neg hlt]
    clear hz
    go_enter Try.func22, Try.ntmps22
    go_wp2_with fail
    go_ret
    exact ⟨ret_int (by rw [H.out]; rfl), rfl⟩

section
variable {P : Program} {ops : Array Oper} {Q : Exit → Act → World → Prop} {o : Oper} {rest : List Oper} {a : Act} {w : World}
theorem order_some {k : FloatKind} {p q : Nat} (hn : isN k p = false) (hm : isN k q = false) : ∃ c, k.format.order p q = some c := by
  unfold Ieee.Format.order
  unfold isN at hn hm
  cases hp : k.format.read p with
  | nan s f => rw [hp] at hn; simp [Ieee.Datum.isNaN] at hn
  | infinity s => cases hq : k.format.read q with
    | nan s f => rw [hq] at hm; simp [Ieee.Datum.isNaN] at hm
    | infinity t => exact ⟨_, rfl⟩
    | number t n j => exact ⟨_, rfl⟩
  | number s m i => cases hq : k.format.read q with
    | nan s f => rw [hq] at hm; simp [Ieee.Datum.isNaN] at hm
    | infinity t => exact ⟨_, rfl⟩
    | number t n j => exact ⟨_, rfl⟩
theorem max_float (ats : Array TypeId) (ty : TypeId) {k : FloatKind} {p q : Nat} (hn : isN k p = false) (hm : isN k q = false) : ∃ r, (r = p ∨ r = q) ∧ Builtin.max_ ats ty #[.float k p, .float k q] = pure (.float k r) := by
  obtain ⟨c, hc⟩ := order_some hn hm
  cases c
  · exact ⟨q, .inr rfl, by simp [Builtin.max_, Builtin.max2, hc]⟩
  · by_cases hg : (k.decode p).neg = true
    · exact ⟨q, .inr rfl, by simp [Builtin.max_, Builtin.max2, hc, hg]⟩
    · exact ⟨p, .inl rfl, by simp [Builtin.max_, Builtin.max2, hc, hg]⟩
  · exact ⟨p, .inl rfl, by simp [Builtin.max_, Builtin.max2, hc]⟩
theorem wpList_fmax {x y : Operand} {ats : Array TypeId} {k : FloatKind} {p q : Nat} (hw : Region.wanted o (yielded ops a.tmps) = true) (hop : o.op = .call { callee := .builtin .max, args := #[x, y], argTypes := ats })
    (hx : a.eval x = .float k p) (hy : a.eval y = .float k q) (hn : isN k p = false) (hm : isN k q = false) (hK : ∀ r, r = p ∨ r = q → wpList P ops Q rest (a.put o.dst (.float k r)) w) : wpList P ops Q (o :: rest) a w := by
  obtain ⟨r, hr, he⟩ := max_float ats o.type hn hm
  unfold wpList
  rw [if_pos hw]
  left
  unfold Oper.wp
  simp [go_sem] at hx hy
  simp [execOp, hop, go_sem, hx, hy, he, Result.andThen]
  exact hK r hr
end


open Go Go.RowKit Go.ChangeShapes Go.WideShapes Go.ChangeAt
attribute [local irreducible] LX
/-- Where choices are read from: bytes, the place in them, a seed. -/
structure SrcW (w0 : World) (bs m : Nat) (v : Value) (zs : List Int) (W : World) : Prop where
  r : RdY w0 v zs
  l : zs.length ≤ 1048576
  b : w0.heap.size ≤ bs
  x : Ext w0 W
  lt : bs < W.heap.size
  c0 : W.cell? ⟨bs, 0, none⟩ = some v
  c1 : ∃ i : Nat, i ≤ m ∧ W.cell? ⟨bs, 1, none⟩ = some (.int .i64 i)
  c2 : ∃ q : Int, W.cell? ⟨bs, 2, none⟩ = some (.int .u64 q)
  f1 : W.frozen? ⟨bs, 1, none⟩ = false
  f2 : W.frozen? ⟨bs, 2, none⟩ = false
theorem SrcW.ext {w0 W W' : World} {bs m : Nat} {v : Value} {zs : List Int} (h : SrcW w0 bs m v zs W) (hx : Ext W W') : SrcW w0 bs m v zs W' := by
  obtain ⟨i, hi, hc⟩ := h.c1
  obtain ⟨q, hq⟩ := h.c2
  exact ⟨h.r, h.l, h.b, h.x.trans hx, Nat.lt_of_lt_of_le h.lt hx.size, (Below.cell hx (p := ⟨bs, 0, none⟩) h.lt).trans h.c0, ⟨i, hi, (Below.cell hx (p := ⟨bs, 1, none⟩) h.lt).trans hc⟩, ⟨q, (Below.cell hx (p := ⟨bs, 2, none⟩) h.lt).trans hq⟩,
    (Below.frozen hx (p := ⟨bs, 1, none⟩) h.lt).trans h.f1, (Below.frozen hx (p := ⟨bs, 2, none⟩) h.lt).trans h.f2⟩
theorem SrcW.mono {w0 W : World} {bs m m' : Nat} {v : Value} {zs : List Int} (h : SrcW w0 bs m v zs W) (hm : m ≤ m') : SrcW w0 bs m' v zs W := by
  obtain ⟨i, hi, hc⟩ := h.c1
  exact ⟨h.r, h.l, h.b, h.x, h.lt, h.c0, ⟨i, Nat.le_trans hi hm, hc⟩, h.c2, h.f1, h.f2⟩
theorem grown_any {W W' : World} {b : Nat} (h : Ext W W') : W.grownBy W' (some b) := ⟨h.os, h.tape, h.output, h.size, fun j hj _ => h.block j hj⟩
theorem and_255 (a : Int) : ∃ x : Nat, x < 256 ∧ bits .and .u64 a 255 = (x : Int) := by
  refine ⟨(BitVec.ofInt 64 a &&& BitVec.ofInt 64 255).toNat, ?_, ?_⟩
  · have h : (BitVec.ofInt 64 a &&& BitVec.ofInt 64 255).toNat ≤ 255 := by
      rw [BitVec.toNat_and]; exact Nat.and_le_right
    omega
  · have h : (BitVec.ofInt 64 a &&& BitVec.ofInt 64 255).toNat ≤ 255 := by
      rw [BitVec.toNat_and]; exact Nat.and_le_right
    show IntKind.u64.wrap ((BitVec.ofInt 64 a &&& BitVec.ofInt 64 255).toNat : Int) = _
    have e : ∀ n : Nat, n ≤ 255 → IntKind.u64.wrap (n : Int) = (n : Int) := fun n hn => by
      have e : IntKind.u64.wrap (n : Int) = (n : Int) % 18446744073709551616 := by simp [IntKind.wrap, IntKind.bits, IntKind.signed]
      rw [e]; omega
    exact e _ h

set_option maxRecDepth 100000 in
set_option maxHeartbeats 4000000 in
theorem next_any (w0 : World) (bs m : Nat) (v : Value) (zs : List Int) (W : World) (h : SrcW w0 bs m v zs W) (hm : m ≤ 4194304) :
    Calls Try.prog 110 #[.pointer (some ⟨bs, 0, none⟩)] W fun e W' => (∃ x : Nat, x < 256 ∧ e = .returned (.int .i64 x)) ∧ W.grownBy W' (some bs) ∧ SrcW w0 bs (m + 1) v zs W' := by
  have h' := h
  obtain ⟨r, hl, hb, hX, hlt, c0, ⟨i, hi, c1⟩, ⟨q, c2⟩, f1, f2⟩ := h
  have r' := r
  obtain ⟨⟨-, a1, k1, rfl, -, -, -, -⟩, hz⟩ := r
  have hi1 : IntKind.i64.wrap ((i : Int) + 1) = (i : Int) + 1 := IntWalk.i64_in _ (by omega)
  by_cases hlen : i < zs.length
  · obtain ⟨b1, o1, rfl, hb1, hc1⟩ := r'.at hlen
    have hc := (Below.cell hX (p := ⟨b1, o1 + i, none⟩) hb1).trans hc1
    have hb1W : b1 < W.heap.size := Nat.lt_of_lt_of_le hb1 hX.size
    obtain ⟨z0, z1⟩ := hz _ (List.getElem_mem hlen)
    obtain ⟨y, hy⟩ := Int.eq_ofNat_of_zero_le z0
    rw [hy] at hc z1
    have z1' : y < 256 := by omega
    have hyw : IntKind.i64.wrap (y : Int) = (y : Int) := IntWalk.i64_in _ (by omega)
    have hil : (i : Int) < (zs.length : Int) := by omega
    have hle : (i : Int) + 1 ≤ (zs.length : Int) := by omega
    clear hy hz z0 hc1
    go_enter Try.func110, Try.ntmps110
    go_wp2_with fail
    refine wp_region_rel 10 (fun _ _ => True) (fun _ _ _ => True) (by kernel_rfl) (by kernel_rfl) (by kernel_rfl) ?_
    dsimp only [List.take, List.drop, List.length]
    refine LX_det (.pointer (some ⟨bs, 0, none⟩)) (by kernel_rfl) rfl (fun w' hx _ => ?_) ?_
    · go_simp
    refine LX_det (.pointer (some ⟨bs, 0, none⟩)) (by kernel_rfl) rfl (fun w' hx _ => ?_) ?_
    · go_simp
    refine LX_det (.pointer (some ⟨bs, 1, none⟩)) (by kernel_rfl) rfl (fun w' hx _ => ?_) ?_
    · go_simp
    refine LX_det (.int .i64 i) (by kernel_rfl) rfl (fun w' hx _ => ?_) ?_
    · have m0 := (Below.cell hx (p := ⟨bs, 1, none⟩) hlt).trans c1
      go_simp
    refine LX_det (.pointer (some ⟨bs, 0, none⟩)) (by kernel_rfl) rfl (fun w' hx _ => ?_) ?_
    · go_simp
    refine LX_det (.pointer (some ⟨bs, 0, none⟩)) (by kernel_rfl) rfl (fun w' hx _ => ?_) ?_
    · go_simp
    refine LX_det (.pointer (some ⟨bs, 0, none⟩)) (by kernel_rfl) rfl (fun w' hx _ => ?_) ?_
    · go_simp
    refine LX_det (.slice (some ⟨b1, o1, none⟩) zs.length k1) (by kernel_rfl) rfl (fun w' hx _ => ?_) ?_
    · have m0 := (Below.cell hx (p := ⟨bs, 0, none⟩) hlt).trans c0
      go_simp
    refine LX_det (.int .i64 zs.length) (by kernel_rfl) rfl (fun w' hx _ => ?_) ?_
    · go_simp
    refine LX_det (.bool true) (by kernel_rfl) rfl (fun w' hx _ => ?_) ?_
    · go_simp
    refine LX_nil fun w1 hx1 _ => ?_
    simp only [Act.put, List.setIfInBounds_toArray, List.set_cons_succ, List.set_cons_zero]
    have h1 := h'.ext hx1
    have d0 := (Below.cell hx1 (p := ⟨bs, 0, none⟩) hlt).trans c0
    have d1 := (Below.cell hx1 (p := ⟨bs, 1, none⟩) hlt).trans c1
    have dc := (Below.cell hx1 (p := ⟨b1, o1 + i, none⟩) hb1W).trans hc
    have hlt1 := h1.lt
    have hb1W1 : b1 < w1.heap.size := Nat.lt_of_lt_of_le hb1W hx1.size
    go_wp2_with fail
    refine wp_region_rel 11 (fun _ _ => True) (fun _ _ _ => True) (by kernel_rfl) (by kernel_rfl) (by kernel_rfl) ?_
    dsimp only [List.take, List.drop, List.length]
    refine LX_det (.pointer (some ⟨bs, 0, none⟩)) (by kernel_rfl) rfl (fun w' hx _ => ?_) ?_
    · go_simp
    refine LX_det (.pointer (some ⟨bs, 0, none⟩)) (by kernel_rfl) rfl (fun w' hx _ => ?_) ?_
    · go_simp
    refine LX_det (.pointer (some ⟨bs, 0, none⟩)) (by kernel_rfl) rfl (fun w' hx _ => ?_) ?_
    · go_simp
    refine LX_det (.slice (some ⟨b1, o1, none⟩) zs.length k1) (by kernel_rfl) rfl (fun w' hx _ => ?_) ?_
    · have m0 := (Below.cell hx (p := ⟨bs, 0, none⟩) hlt1).trans d0
      go_simp
    refine LX_det (.pointer (some ⟨bs, 0, none⟩)) (by kernel_rfl) rfl (fun w' hx _ => ?_) ?_
    · go_simp
    refine LX_det (.pointer (some ⟨bs, 0, none⟩)) (by kernel_rfl) rfl (fun w' hx _ => ?_) ?_
    · go_simp
    refine LX_det (.pointer (some ⟨bs, 1, none⟩)) (by kernel_rfl) rfl (fun w' hx _ => ?_) ?_
    · go_simp
    refine LX_det (.int .i64 i) (by kernel_rfl) rfl (fun w' hx _ => ?_) ?_
    · have m0 := (Below.cell hx (p := ⟨bs, 1, none⟩) hlt1).trans d1
      go_simp
    refine LX_det (.pointer (some ⟨b1, o1 + i, none⟩)) (by kernel_rfl) rfl (fun w' hx _ => ?_) ?_
    · go_simp
    refine LX_det (.int .u8 y) (by kernel_rfl) rfl (fun w' hx _ => ?_) ?_
    · have m0 := (Below.cell hx (p := ⟨b1, o1 + i, none⟩) hb1W1).trans dc
      go_simp
    refine LX_det (.int .i64 y) (by kernel_rfl) rfl (fun w' hx _ => ?_) ?_
    · go_simp
    refine LX_nil fun w2 hx2 _ => ?_
    simp only [Act.put, List.setIfInBounds_toArray, List.set_cons_succ, List.set_cons_zero]
    have h2 := h1.ext hx2
    have d20 := (Below.cell hx2 (p := ⟨bs, 0, none⟩) hlt1).trans d0
    have d21 := (Below.cell hx2 (p := ⟨bs, 1, none⟩) hlt1).trans d1
    obtain ⟨q2, d22⟩ := h2.c2
    have hf21 := h2.f1
    have hf22 := h2.f2
    have XX : Ext W w2 := hx1.trans hx2
    clear hx1 hx2 c0 c1 c2 d0 d1 dc hc f1 f2
    go_wp2_with fail
    generalize hW3 : World.setCell (World.setCell w2 ⟨bs, 1, none⟩ (.int .i64 ((i : Int) + 1))) ⟨bs, 2, none⟩ _ = W3
    have G3 : W.grownBy W3 (some bs) := by
      rw [← hW3]
      exact (grown_any XX).trans ((grownBy_setCell _ bs 1 _).trans (grownBy_setCell _ bs 2 _))
    have e0 : W3.cell? ⟨bs, 0, none⟩ = some (.slice (some ⟨b1, o1, none⟩) zs.length k1) := by
      rw [← hW3, World.cell?_setCell_other _ _ _ _ (by simp), World.cell?_setCell_other _ _ _ _ (by simp)]
      exact d20
    have e1 : W3.cell? ⟨bs, 1, none⟩ = some (.int .i64 ((i : Int) + 1)) := by
      rw [← hW3, World.cell?_setCell_other _ _ _ _ (by simp)]
      exact World.cell?_setCell_same' _ _ _ (by rw [d21]; rfl)
    have e2 : ∃ q : Int, W3.cell? ⟨bs, 2, none⟩ = some (.int .u64 q) := by
      rw [← hW3]
      exact ⟨_, World.cell?_setCell_same' _ _ _ (by rw [World.cell?_setCell_other _ _ _ _ (by simp), d22]; rfl)⟩
    have g1 : W3.frozen? ⟨bs, 1, none⟩ = false := by rw [← hW3, World.frozen?_setCell, World.frozen?_setCell]; exact h2.f1
    have g2 : W3.frozen? ⟨bs, 2, none⟩ = false := by rw [← hW3, World.frozen?_setCell, World.frozen?_setCell]; exact h2.f2
    have hlt3 : bs < W3.heap.size := Nat.lt_of_lt_of_le hlt G3.size
    have S3 : SrcW w0 bs (m + 1) (.slice (some ⟨b1, o1, none⟩) zs.length k1) zs W3 :=
      ⟨r', hl, hb, Below.grown h'.x G3 h'.x.size (fun k e => by cases e; exact hb), hlt3, e0, ⟨i + 1, by omega, e1⟩, e2, g1, g2⟩
    clear hW3
    refine wp_region_rel 10 (fun _ _ => True) (fun _ _ _ => True) (by kernel_rfl) (by kernel_rfl) (by kernel_rfl) ?_
    dsimp only [List.take, List.drop, List.length]
    refine LX_det (.pointer (some ⟨bs, 0, none⟩)) (by kernel_rfl) rfl (fun w' hx _ => ?_) ?_
    · go_simp
    refine LX_det (.pointer (some ⟨bs, 0, none⟩)) (by kernel_rfl) rfl (fun w' hx _ => ?_) ?_
    · go_simp
    refine LX_det (.pointer (some ⟨bs, 1, none⟩)) (by kernel_rfl) rfl (fun w' hx _ => ?_) ?_
    · go_simp
    refine LX_det (.int .i64 ((i : Int) + 1)) (by kernel_rfl) rfl (fun w' hx _ => ?_) ?_
    · have m0 := (Below.cell hx (p := ⟨bs, 1, none⟩) hlt3).trans e1
      go_simp
    refine LX_det (.pointer (some ⟨bs, 0, none⟩)) (by kernel_rfl) rfl (fun w' hx _ => ?_) ?_
    · go_simp
    refine LX_det (.pointer (some ⟨bs, 0, none⟩)) (by kernel_rfl) rfl (fun w' hx _ => ?_) ?_
    · go_simp
    refine LX_det (.pointer (some ⟨bs, 0, none⟩)) (by kernel_rfl) rfl (fun w' hx _ => ?_) ?_
    · go_simp
    refine LX_det (.slice (some ⟨b1, o1, none⟩) zs.length k1) (by kernel_rfl) rfl (fun w' hx _ => ?_) ?_
    · have m0 := (Below.cell hx (p := ⟨bs, 0, none⟩) hlt3).trans e0
      go_simp
    refine LX_det (.int .i64 zs.length) (by kernel_rfl) rfl (fun w' hx _ => ?_) ?_
    · go_simp
    refine LX_det (.bool true) (by kernel_rfl) rfl (fun w' hx _ => ?_) ?_
    · go_simp
    refine LX_nil fun w4 hx4 _ => ?_
    simp only [Act.put, List.setIfInBounds_toArray, List.set_cons_succ, List.set_cons_zero]
    have S4 := S3.ext hx4
    have G4 := G3.trans (grown_any hx4)
    go_wp2_with fail
    go_ret
    exact ⟨⟨y, z1' , rfl⟩, G4, S4⟩
  · have hil : ¬ (i : Int) < (zs.length : Int) := by omega
    have hle : ¬ (i : Int) + 1 ≤ (zs.length : Int) := by omega
    clear hz
    go_enter Try.func110, Try.ntmps110
    go_wp2_with fail
    refine wp_region_rel 10 (fun _ _ => True) (fun _ _ _ => True) (by kernel_rfl) (by kernel_rfl) (by kernel_rfl) ?_
    dsimp only [List.take, List.drop, List.length]
    refine LX_det (.pointer (some ⟨bs, 0, none⟩)) (by kernel_rfl) rfl (fun w' hx _ => ?_) ?_
    · go_simp
    refine LX_det (.pointer (some ⟨bs, 0, none⟩)) (by kernel_rfl) rfl (fun w' hx _ => ?_) ?_
    · go_simp
    refine LX_det (.pointer (some ⟨bs, 1, none⟩)) (by kernel_rfl) rfl (fun w' hx _ => ?_) ?_
    · go_simp
    refine LX_det (.int .i64 i) (by kernel_rfl) rfl (fun w' hx _ => ?_) ?_
    · have m0 := (Below.cell hx (p := ⟨bs, 1, none⟩) hlt).trans c1
      go_simp
    refine LX_det (.pointer (some ⟨bs, 0, none⟩)) (by kernel_rfl) rfl (fun w' hx _ => ?_) ?_
    · go_simp
    refine LX_det (.pointer (some ⟨bs, 0, none⟩)) (by kernel_rfl) rfl (fun w' hx _ => ?_) ?_
    · go_simp
    refine LX_det (.pointer (some ⟨bs, 0, none⟩)) (by kernel_rfl) rfl (fun w' hx _ => ?_) ?_
    · go_simp
    refine LX_det (.slice a1 zs.length k1) (by kernel_rfl) rfl (fun w' hx _ => ?_) ?_
    · have m0 := (Below.cell hx (p := ⟨bs, 0, none⟩) hlt).trans c0
      go_simp
    refine LX_det (.int .i64 zs.length) (by kernel_rfl) rfl (fun w' hx _ => ?_) ?_
    · go_simp
    refine LX_det (.bool false) (by kernel_rfl) rfl (fun w' hx _ => ?_) ?_
    · go_simp
    refine LX_nil fun w1 hx1 _ => ?_
    simp only [Act.put, List.setIfInBounds_toArray, List.set_cons_succ, List.set_cons_zero]
    have h2 := h'.ext hx1
    have d20 := (Below.cell hx1 (p := ⟨bs, 0, none⟩) hlt).trans c0
    have d21 := (Below.cell hx1 (p := ⟨bs, 1, none⟩) hlt).trans c1
    obtain ⟨q2, d22⟩ := h2.c2
    have hf21 := h2.f1
    have hf22 := h2.f2
    clear c0 c1 c2 f1 f2
    go_wp2_with fail
    generalize hW3 : World.setCell (World.setCell w1 ⟨bs, 1, none⟩ (.int .i64 ((i : Int) + 1))) ⟨bs, 2, none⟩ _ = W3
    have G3 : W.grownBy W3 (some bs) := by
      rw [← hW3]
      exact (grown_any hx1).trans ((grownBy_setCell _ bs 1 _).trans (grownBy_setCell _ bs 2 _))
    have e0 : W3.cell? ⟨bs, 0, none⟩ = some (.slice a1 zs.length k1) := by
      rw [← hW3, World.cell?_setCell_other _ _ _ _ (by simp), World.cell?_setCell_other _ _ _ _ (by simp)]
      exact d20
    have e1 : W3.cell? ⟨bs, 1, none⟩ = some (.int .i64 ((i : Int) + 1)) := by
      rw [← hW3, World.cell?_setCell_other _ _ _ _ (by simp)]
      exact World.cell?_setCell_same' _ _ _ (by rw [d21]; rfl)
    have e2 : ∃ q : Int, W3.cell? ⟨bs, 2, none⟩ = some (.int .u64 q) := by
      rw [← hW3]
      exact ⟨_, World.cell?_setCell_same' _ _ _ (by rw [World.cell?_setCell_other _ _ _ _ (by simp), d22]; rfl)⟩
    have g1 : W3.frozen? ⟨bs, 1, none⟩ = false := by rw [← hW3, World.frozen?_setCell, World.frozen?_setCell]; exact h2.f1
    have g2 : W3.frozen? ⟨bs, 2, none⟩ = false := by rw [← hW3, World.frozen?_setCell, World.frozen?_setCell]; exact h2.f2
    have hlt3 : bs < W3.heap.size := Nat.lt_of_lt_of_le hlt G3.size
    have S3 : SrcW w0 bs (m + 1) (.slice a1 zs.length k1) zs W3 :=
      ⟨r', hl, hb, Below.grown h'.x G3 h'.x.size (fun k e => by cases e; exact hb), hlt3, e0, ⟨i + 1, by omega, e1⟩, e2, g1, g2⟩
    clear hW3
    refine wp_region_rel 10 (fun _ _ => True) (fun _ _ _ => True) (by kernel_rfl) (by kernel_rfl) (by kernel_rfl) ?_
    dsimp only [List.take, List.drop, List.length]
    refine LX_det (.pointer (some ⟨bs, 0, none⟩)) (by kernel_rfl) rfl (fun w' hx _ => ?_) ?_
    · go_simp
    refine LX_det (.pointer (some ⟨bs, 0, none⟩)) (by kernel_rfl) rfl (fun w' hx _ => ?_) ?_
    · go_simp
    refine LX_det (.pointer (some ⟨bs, 1, none⟩)) (by kernel_rfl) rfl (fun w' hx _ => ?_) ?_
    · go_simp
    refine LX_det (.int .i64 ((i : Int) + 1)) (by kernel_rfl) rfl (fun w' hx _ => ?_) ?_
    · have m0 := (Below.cell hx (p := ⟨bs, 1, none⟩) hlt3).trans e1
      go_simp
    refine LX_det (.pointer (some ⟨bs, 0, none⟩)) (by kernel_rfl) rfl (fun w' hx _ => ?_) ?_
    · go_simp
    refine LX_det (.pointer (some ⟨bs, 0, none⟩)) (by kernel_rfl) rfl (fun w' hx _ => ?_) ?_
    · go_simp
    refine LX_det (.pointer (some ⟨bs, 0, none⟩)) (by kernel_rfl) rfl (fun w' hx _ => ?_) ?_
    · go_simp
    refine LX_det (.slice a1 zs.length k1) (by kernel_rfl) rfl (fun w' hx _ => ?_) ?_
    · have m0 := (Below.cell hx (p := ⟨bs, 0, none⟩) hlt3).trans e0
      go_simp
    refine LX_det (.int .i64 zs.length) (by kernel_rfl) rfl (fun w' hx _ => ?_) ?_
    · go_simp
    refine LX_det (.bool false) (by kernel_rfl) rfl (fun w' hx _ => ?_) ?_
    · go_simp
    refine LX_nil fun w4 hx4 _ => ?_
    simp only [Act.put, List.setIfInBounds_toArray, List.set_cons_succ, List.set_cons_zero]
    have S4 := S3.ext hx4
    have G4 := G3.trans (grown_any hx4)
    obtain ⟨q4, e4⟩ := S4.c2
    obtain ⟨x, hx256, hxe⟩ := and_255 (q4 / 1099511627776)
    have hxw : IntKind.i64.wrap (x : Int) = (x : Int) := IntWalk.i64_in _ (by omega)
    go_wp2_with fail
    go_ret
    exact ⟨⟨x, hx256, rfl⟩, G4, S4⟩

theorem SrcW.below {w0 W W' : World} {bs m B : Nat} {v : Value} {zs : List Int} (h : SrcW w0 bs m v zs W) (hx : Below B W W') (hB : bs < B) : SrcW w0 bs m v zs W' := by
  obtain ⟨i, hi, hc⟩ := h.c1
  obtain ⟨q, hq⟩ := h.c2
  have hb := h.b
  exact ⟨h.r, h.l, h.b, Below.trans h.x (Below.mono hx (by omega)), Nat.lt_of_lt_of_le h.lt hx.size, (Below.cell hx (p := ⟨bs, 0, none⟩) hB).trans h.c0, ⟨i, hi, (Below.cell hx (p := ⟨bs, 1, none⟩) hB).trans hc⟩, ⟨q, (Below.cell hx (p := ⟨bs, 2, none⟩) hB).trans hq⟩,
    (Below.frozen hx (p := ⟨bs, 1, none⟩) hB).trans h.f1, (Below.frozen hx (p := ⟨bs, 2, none⟩) hB).trans h.f2⟩
set_option maxHeartbeats 1000000 in
theorem pick_any (w0 : World) (bs m n : Nat) (v : Value) (zs : List Int) (W : World) (h : SrcW w0 bs m v zs W) (hm : m ≤ 4194304) (hn : 1 ≤ n) (hn2 : n ≤ 200) :
    Calls Try.prog 100 #[.pointer (some ⟨bs, 0, none⟩), .int .i64 n] W fun e W' => (∃ x : Nat, x < n ∧ e = .returned (.int .i64 x)) ∧ W.grownBy W' (some bs) ∧ SrcW w0 bs (m + 1) v zs W' := by
  have H := Lib.hid h
  clear h
  by_cases h1 : n = 1
  · subst h1
    go_enter Try.func100, Try.ntmps100
    go_wp2_with fail
    go_ret
    exact ⟨⟨0, by decide, rfl⟩, grownBy_refl _ _, H.out.mono (Nat.le_succ _)⟩
  · have h2 : ¬ (n : Int) ≤ 1 := by omega
    have h3 : ¬ 200 < (n : Int) := by omega
    go_enter Try.func100, Try.ntmps100
    go_wp2_with fail
    refine (next_any w0 bs m v zs W H.out hm).mono ?_
    rintro e w1 ⟨⟨x, hx, rfl⟩, G, S⟩
    have hmi : (x : Int).tmod (n : Int) = ((x % n : Nat) : Int) := by rw [Int.tmod_eq_emod_of_nonneg (by omega)]; rfl
    have hlt : x % n < n := Nat.mod_lt _ (by omega)
    generalize x % n = y at *
    go_wp2_with fail
    go_ret
    exact ⟨⟨y, hlt, rfl⟩, G, S⟩

theorem l00From_any (a : Option Addr) (n c : Nat) (w : World) :
    Calls Try.prog 73 #[.slice a n c] w fun e w' => e = .returned (.pointer (some ⟨w.heap.size, 0, none⟩)) ∧ w' = w.alloc (.cells #[.slice a n c, .int .i64 0, .int .u64 0] 103) := by
  go_enter Try.func73, Try.ntmps73
  go_wp2_with fail
  go_ret
  exact ⟨rfl, rfl⟩

open Go Go.RowKit Go.ChangeShapes Go.WideShapes Go.ChangeAt

/-- A block of a type whose cells are told. -/
def Bz (w : World) (b : Nat) (t : TypeId) (cs : List Value) : Prop := w.heap[b]? = some (.cells cs.toArray t (0, 0))
theorem Bz.new (w : World) (cs : List Value) (t : TypeId) : Bz (w.alloc (.cells cs.toArray t)) w.heap.size t cs := heap_alloc_new w _
theorem Bz.lt {w : World} {b : Nat} {t : TypeId} {cs : List Value} (h : Bz w b t cs) : b < w.heap.size := by
  unfold Bz at h
  rcases Nat.lt_or_ge b w.heap.size with h' | h'
  · exact h'
  · rw [Array.getElem?_eq_none h'] at h; cases h
theorem Bz.ext {w w' : World} {b : Nat} {t : TypeId} {cs : List Value} (h : Bz w b t cs) (hx : Ext w w') : Bz w' b t cs := (hx.block b h.lt).trans h
theorem Bz.frozen {w : World} {b j : Nat} {t : TypeId} {cs : List Value} (h : Bz w b t cs) : w.frozen? ⟨b, j, none⟩ = false := by unfold Bz at h; simp [World.frozen?, h]
theorem Bz.bx {w : World} {b : Nat} {t : TypeId} {cs : List Value} (h : Bz w b t cs) : Bx w b cs := ⟨h.lt, fun j hj => by rw [cell_of_row _ b j cs.toArray t (0, 0) h]; simp⟩
/-- k + 1 halves. -/
def hT (k : Nat) : Nat := fop .quo .f32 (cn .f32 (floatOfInt .f32 ((k + 1 : Nat) : Int))) (cn .f32 1073741824)
/-- Lives as they are drawn. -/
def Drawn (ls : List Lf) : Prop := ∀ x ∈ ls, ∃ k, k < 24 ∧ x.1 = hT k
theorem hT_all : ((List.range 24).all fun k => decide (0 < hT k) && decide (hT k < 2139095040)) = true := by decide +kernel
theorem hT_pos {k : Nat} (h : k < 24) : posW (hT k) := by
  have h0 := hT_all
  rw [List.all_eq_true] at h0
  have h1 := h0 k (List.mem_range.2 h)
  rw [Bool.and_eq_true, decide_eq_true_eq, decide_eq_true_eq] at h1
  exact h1
theorem Drawn.ok {ls : List Lf} (h : Drawn ls) : AllOk ls := fun x hx => by obtain ⟨k, hk, e⟩ := h x hx; show posW x.1; rw [e]; exact hT_pos hk
theorem Drawn.lt {ls : List Lf} (h : Drawn ls) : ∀ x ∈ ls, x.1 < 4294967296 := fun x hx => by have : posW x.1 := h.ok x hx; have := this.2; omega

theorem lfs_one2 (x : Lf) : lfs [x] = [.float .f32 x.1, .bool x.2] := by rw [lfs_cons]; rfl
theorem lfs_app : ∀ (xs ys : List Lf), lfs (xs ++ ys) = lfs xs ++ lfs ys
  | [], ys => rfl
  | x :: xs, ys => by rw [List.cons_append, lfs_cons, lfs_cons, lfs_app xs ys]; rfl
/-- append of one life to lives of the call's own. -/
theorem wpList_pushL {ops : Array Oper} {rest : List Oper} {o : Oper} {a : Act} {w : World} {Q : Exit → Act → World → Prop} {s x : Operand} {B g0 cap0 : Nat} {ls : List Lf} {t : Lf} {blk c : Nat}
    (hgd : o.guard = none) (ho : o.op = .call { callee := .builtin .append, args := #[s, x], argTypes := #[27, 27] })
    (hs : a.eval s = .slice (some ⟨g0, 0, none⟩) ls.length cap0) (own : OwnL B w g0 cap0 ls) (hx : a.eval x = .slice (some ⟨blk, 0, none⟩) 1 c) (c0 : w.cell? ⟨blk, 0, none⟩ = some (.float .f32 t.1)) (c1 : w.cell? ⟨blk, 1, none⟩ = some (.bool t.2))
    (hB : B ≤ w.heap.size) (hl : ls.length ≤ 4096)
    (h : ∀ g cap w', B ≤ g → OwnL B w' g cap (ls ++ [t]) → Below B w w' → wpList Try.prog ops Q rest (a.put o.dst (.slice (some ⟨g, 0, none⟩) (ls ++ [t]).length cap)) w') : wpList Try.prog ops Q (o :: rest) a w := by
  obtain ⟨i, hi, h1, h2, h3⟩ := info_parts infoLife
  refine wpList_append_own w hgd s x 27 ho B 61 i (.agg #[.float .f32 0, .bool false]) 2 8 Try.underlying27 hi h1 h2 h3 rfl (by omega) _ ls.length _ hs own ⟨blk, 0, none⟩ 1 c [.float .f32 t.1, .bool t.2] hx rfl ?_ ?_ (by simp only [maxLen]; omega) (by omega) hB ?_
  · intro j u hj
    match j, hj with
    | 0, hj => simp at hj; subst hj; simpa [Addr.add] using c0
    | 1, hj => simp at hj; subst hj; simpa [Addr.add] using c1
    | j + 2, hj => simp at hj
  · intro u hu
    simp at hu
    rcases hu with rfl | rfl <;> rfl
  · intro v' w' own' hg _
    obtain ⟨g, cap, rfl, hbg, _⟩ := own_head own' (by omega)
    have e : ls.length + 1 = (ls ++ [t]).length := by simp
    rw [e] at own' ⊢
    have e2 : lfs ls ++ [.float .f32 t.1, .bool t.2] = lfs (ls ++ [t]) := by rw [lfs_app, lfs_one2]
    rw [e2] at own'
    exact h g cap w' hbg own' ((Below.refl _ _).grown hg hB fun k hk => (World.ownsRow.lt own k hk).1)

theorem one_any (w0 : World) (bs m n : Nat) (v : Value) (zs : List Int) (W : World) (h : SrcW w0 bs m v zs W) (hm : m ≤ 4194304) (hn : 1 ≤ n) (hn2 : n ≤ 200) :
    Calls Try.prog 101 #[.pointer (some ⟨bs, 0, none⟩), .int .i64 n] W fun e W' => (∃ c : Bool, e = .returned (.bool c)) ∧ W.grownBy W' (some bs) ∧ SrcW w0 bs (m + 1) v zs W' := by
  have H := Lib.hid (pick_any w0 bs m n v zs W h hm hn hn2)
  clear h
  go_enter Try.func101, Try.ntmps101
  go_wp2_with fail
  refine H.out.mono ?_
  rintro e w1 ⟨⟨x, hx, rfl⟩, G, S⟩
  go_wp2_with fail
  go_ret
  exact ⟨⟨_, rfl⟩, G, S⟩
set_option maxRecDepth 100000 in
set_option maxHeartbeats 4000000 in
theorem drawSome_any (w0 : World) (bs m n : Nat) (v : Value) (zs : List Int) (W : World) (h : SrcW w0 bs m v zs W) (hm : m ≤ 1048576) (hn : n ≤ 200) :
    Calls Try.prog 74 #[.pointer (some ⟨bs, 0, none⟩), .int .i64 n] W fun e W' => ∃ (g cap : Nat) (ls : List Lf), e = .returned (.slice (some ⟨g, 0, none⟩) ls.length cap) ∧ ls.length = n ∧ Ext w0 W' ∧ OwnL W.heap.size W' g cap ls ∧ Drawn ls := by
  have HS := Lib.hid (h.ext (Ext.alloc W (.cells #[] 61)))
  have hlt := h.lt
  have HPK := Lib.hid (fun m W n (S : SrcW w0 bs m v zs W) (hm : m ≤ 4194304) (h1 : 1 ≤ n) (h2 : n ≤ 200) => pick_any w0 bs m n v zs W S hm h1 h2)
  have HON := Lib.hid (fun m W n (S : SrcW w0 bs m v zs W) (hm : m ≤ 4194304) (h1 : 1 ≤ n) (h2 : n ≤ 200) => one_any w0 bs m n v zs W S hm h1 h2)
  clear h
  go_enter Try.func74, Try.ntmps74
  go_wp2_with fail
  have own0 : OwnL W.heap.size (W.alloc (.cells #[] 61)) W.heap.size 0 [] := World.ownsRow_lit W #[] 0 (Nat.le_refl _) (by decide) rfl
  have hsz : W.heap.size ≤ (W.alloc (.cells #[] 61)).heap.size := by simp
  go_loopw [1, 5] (fun c o wr => ∃ (j g cap : Nat) (xs : List Lf), c = .int .i64 j ∧ o = .slice (some ⟨g, 0, none⟩) xs.length cap ∧ j + xs.length = n ∧ Hid (Drawn xs) ∧
      OwnL W.heap.size wr g cap xs ∧ SrcW w0 bs (m + 2 * xs.length) v zs wr ∧ W.heap.size ≤ wr.heap.size) (fun c _ _ => (intOf c).toNat)
  case atStart => exact ⟨n, W.heap.size, 0, [], rfl, rfl, by simp, (fun n hn => by cases hn), own0, HS.out, hsz⟩
  case round =>
    clear own0 hsz HS
    obtain ⟨j, g, cap, xs, rfl, rfl, hjx, HX, own, S, hsz⟩ := hrel
    by_cases hj : 0 < j
    · have hji : (0 : Int) < (j : Int) := by omega
      have hjw : IntKind.i64.wrap ((j : Int) - 1) = (j : Int) - 1 := IntWalk.i64_in _ (by omega)
      go_wp2_with fail
      refine (HPK.out _ _ 24 S (by omega) (by decide) (by decide)).mono ?_
      rintro e w2 ⟨⟨x, hx, rfl⟩, G, S2⟩
      have own2 : OwnL W.heap.size w2 g cap xs := World.ownsRow.kept own G (.inr fun e => by
        have := (own.lt).1
        simp [Value.ownBlock] at e; omega)
      have hsz2 := Nat.le_trans hsz G.size
      have hxw : IntKind.i64.wrap (1 + (x : Int)) = ((x + 1 : Nat) : Int) := by rw [IntWalk.i64_in _ (by omega)]; omega
      have HY : Hid (hT x = fop .quo .f32 (cn .f32 (floatOfInt .f32 ((x + 1 : Nat) : Int))) (cn .f32 1073741824)) := rfl
      have HXN := Lib.hid hx
      have HPX := Lib.hid (hT_pos hx)
      clear own S hsz hx G
      go_wp2_with (first | (refine wpList_fop rfl rfl rfl rfl rfl ?_; intro fb nf hfb hfl; replace hfb := Lib.hid hfb; replace hfl := Lib.hid hfl))
      obtain rfl : fb = hT x := bits_of (by rw [HY.out]; exact hfb.out) HPX.out.num
      clear hfb hfl
      refine (HON.out _ _ 4 (S2.ext (Ext.drewN _ _)) (by omega) (by decide) (by decide)).mono ?_
      rintro e w3 ⟨⟨c, rfl⟩, G, S3⟩
      have own3 : OwnL W.heap.size w3 g cap xs := World.ownsRow.kept (own2.drewN _) G (.inr fun e => by
        have := (own2.lt).1
        simp [Value.ownBlock] at e; omega)
      have hsz3 := Nat.le_trans hsz2 (Nat.le_trans (Ext.drewN w2 nf).size G.size)
      clear own2 S2 G hsz2
      have bx : Bx (w3.alloc (.cells #[.float .f32 (hT x), .bool (!c)] 61)) w3.heap.size [.float .f32 (hT x), .bool (!c)] := Bx.new _ _ _
      obtain ⟨bx0, bx1⟩ := bx.two
      go_wp2_with (at_builtin; refine wpList_pushL (t := (hT x, !c)) rfl rfl rfl (own3.ext (Ext.alloc _ _)) rfl bx0 bx1 (Nat.le_trans hsz3 (Ext.alloc _ _).size) (by omega) ?_; intro g2 cap2 w4 hg2 own4 bel4)
      go_roundw
      case rel =>
        refine ⟨j - 1, g2, cap2, xs ++ [(hT x, !c)], by go_num, by simp, by simp; omega, ?_, own4, ?_, ?_⟩
        · intro y hy
          rcases List.mem_append.1 hy with hy | hy
          · exact HX.out y hy
          · obtain rfl := List.mem_singleton.1 hy; exact ⟨x, HXN.out, rfl⟩
        · have := (S3.ext (Ext.alloc w3 (.cells #[.float .f32 (hT x), .bool (!c)] 61))).below bel4 hlt
          rw [List.length_append, List.length_singleton]
          exact this.mono (by omega)
        · exact Nat.le_trans (Nat.le_trans hsz3 (Ext.alloc _ _).size) bel4.size
      case measure => simp [intOf]; omega
    · obtain rfl : j = 0 := by omega
      go_wp2_with fail
      go_ret
      exact ⟨g, cap, xs, rfl, by omega, S.x, own, HX.out⟩
set_option maxRecDepth 100000 in
theorem r8Lives_any (n : Nat) (v : Value) (zs : List Int) (w : World) (r : RdY w v zs) (hl : zs.length ≤ 1048576) (hn : n ≤ 200) :
    Calls Try.prog 30 #[v, .int .i64 n] w fun e w' => ∃ (g cap : Nat) (ls : List Lf), e = .returned (.slice (some ⟨g, 0, none⟩) ls.length cap) ∧ ls.length = n ∧ Ext w w' ∧ OwnL w.heap.size w' g cap ls ∧ Drawn ls := by
  have r' := r
  obtain ⟨⟨-, a1, c1, rfl, -, -, -, -⟩, -⟩ := r
  have bz : Bz (w.alloc (.cells #[.slice a1 zs.length c1, .int .i64 0, .int .u64 0] 103)) w.heap.size 103 [.slice a1 zs.length c1, .int .i64 0, .int .u64 0] := Bz.new _ _ _
  have S : SrcW w w.heap.size 0 (.slice a1 zs.length c1) zs (w.alloc (.cells #[.slice a1 zs.length c1, .int .i64 0, .int .u64 0] 103)) :=
    ⟨r', hl, Nat.le_refl _, Ext.alloc _ _, by simp, bz.bx.2 0 (by simp), ⟨0, Nat.le_refl _, bz.bx.2 1 (by simp)⟩, ⟨0, bz.bx.2 2 (by simp)⟩, bz.frozen, bz.frozen⟩
  have HD := Lib.hid (drawSome_any w w.heap.size 0 n _ zs _ S (by omega) hn)
  have hsz : w.heap.size ≤ (w.alloc (.cells #[.slice a1 zs.length c1, .int .i64 0, .int .u64 0] 103)).heap.size := by simp
  clear bz S
  go_enter Try.func30, Try.ntmps30
  go_wp2_with fail
  refine (l00From_any _ _ _ _).mono ?_
  rintro e w1 ⟨rfl, rfl⟩
  go_wp2_with fail
  refine HD.out.mono ?_
  rintro e w2 ⟨g, cap, ls, rfl, h1, X, own, hd⟩
  have HDR := Lib.hid hd
  clear hd
  go_wp2_with fail
  go_ret
  exact ⟨g, cap, ls, by first | rfl | (rw [h1]; rfl), h1, X, World.ownsRow.mono own hsz, HDR.out⟩
end Go.Proofs.Ytlbmjeennpccmaa
