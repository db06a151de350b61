
/- Codes: slices of bytes, the number that a code chooses; choices read from bytes. Conditions: in the theorems. -/
import Derived.Test.YtmcnfapdghoenaaRead
import Derived.Test.YtmcnfapdghoenaaFX
import Derived.Test.YtmcnfapdghoenaaEM
namespace Go.Proofs.Ytmcnfapdghoenaa
open Go Go.RowKit Go.ChangeShapes Go.WideShapes Go.ChangeAt

/-- A slice of bytes. -/
def RdY (w : World) (v : Value) (zs : List Int) : Prop := Rd 1 w v zs.length (zs.map (Value.int .u8)) ∧ ∀ z ∈ zs, 0 ≤ z ∧ z < 256
theorem RdY.ext {w w' : World} {v : Value} {zs : List Int} (h : RdY w v zs) (hb : Ext w w') : RdY w' v zs := ⟨h.1.ext hb, h.2⟩
theorem RdY.at {w : World} {a : Option Addr} {cap n : Nat} {zs : List Int} (h : RdY w (.slice a n cap) zs) {k : Nat} (hk : k < zs.length) :
    ∃ b off, a = some ⟨b, off, none⟩ ∧ b < w.heap.size ∧ w.cell? ⟨b, off + k, none⟩ = some (.int .u8 zs[k]) := by
  have hn : n = zs.length := by obtain ⟨⟨_, _, _, h2, _⟩, _⟩ := h; cases h2; rfl
  subst hn
  obtain ⟨b, off, h1, h2, h3⟩ := Rd.pos h.1 (by omega : 0 < zs.length * 1)
  refine ⟨b, off, h1, h2, ?_⟩
  rw [h3 k (by omega)]
  simp [hk]
section
variable {H : Type} {enc : TypeId × Value → H} {P : Program} {w : World} {base : Nat} {held : Bool} {r : Reach} {b0 : Nat} {t e : TypeId} {v : Value} {d : DataW H} {p : List MemPlace}
def ArgBytes (w : World) (v : Value) : Prop := ∃ (a : Option Addr) (len cap : Nat) (zs : List Int), v = .slice a len cap ∧ RdY w (.slice a len cap) zs
theorem argBytes (ht : P.underlying t = some (.slice e)) (he : P.underlying e = some (.int .u8)) (hk : P.cellsOf e = 1) (hv : Value.okWide P w r b0 t v) (h : DataW.Trod enc P w base (fun _ => true) held t v d p) : ArgBytes w v := by
  obtain ⟨a, len, cap, rfl⟩ := okWide_slice ht hv
  obtain ⟨fuel, hf⟩ := h
  obtain ⟨a', len', cap', xs, e0, hr, hl, hrow⟩ := trod_rows ht hk (by omega) hf
  obtain ⟨zs, e1, e2, e3⟩ := singles (Value.int .u8) (fun z => 0 ≤ z ∧ z < 256) xs fun r hm => by
    obtain ⟨_, n, y, hy⟩ := hrow r hm
    obtain ⟨z, h1, _, h3⟩ := DataW.trod_int he hy
    refine ⟨z, h1, ?_⟩
    have h4 : (IntKind.u8).min ≤ z ∧ z ≤ (IntKind.u8).max := by simpa [Lit.wf] using h3
    have h5 : (IntKind.u8).min = 0 := by decide
    have h6 : (IntKind.u8).max = 255 := by decide
    omega
  rw [e1] at hr
  have : len' = zs.length := by rw [e2, hl]
  subst this
  exact ⟨a', zs.length, cap', zs, e0, hr, e3⟩
end

/-- The number below n that an input chooses. -/
def at8 (zs : List Int) (k : Nat) (n : Nat) : Nat := if k < zs.length then (zs.getD k 0).toNat % n else 0
theorem at8_lt {zs : List Int} {k n : Nat} (h : 0 < n) : at8 zs k n < n := by
  unfold at8; split
  · exact Nat.mod_lt _ h
  · exact h
theorem r8Long_any (v1 v2 : Value) (xs ys : List Int) (w : World) (r1 : RdY w v1 xs) (r2 : RdY w v2 ys) :
    Calls Try.prog 4 #[v1, v2] w fun e w' => e = .returned (.bool (decide (48 < xs.length ∨ 48 < ys.length))) ∧ w = w' := by
  obtain ⟨⟨-, a1, c1, rfl, p1, p2, -, -⟩, -⟩ := r1
  obtain ⟨⟨-, a2, c2, rfl, q1, q2, -, -⟩, -⟩ := r2
  clear p1 p2 q1 q2
  go_enter Try.func4, Try.ntmps4
  go_wp2_with fail
  all_goals
    go_ret
    refine ⟨ret_bool ?_, rfl⟩
    rw [Bool.eq_iff_iff]
    simp [*] <;> omega
set_option maxRecDepth 100000 in
theorem r8At_any (v : Value) (zs : List Int) (k n : Nat) (w : World) (r : RdY w v zs) (hn : 2 ≤ n) (hn2 : n ≤ 1000) (hk : k ≤ 1000) :
    Calls Try.prog 6 #[v, .int .i64 k, .int .i64 n] w fun e w' => e = .returned (.int .i64 (at8 zs k n : Nat)) ∧ w = w' := by
  have r' := r
  obtain ⟨⟨-, a1, c1, rfl, p1, p2, -, -⟩, hz⟩ := r
  have p3 : zs.length ≤ maxLen := Nat.le_trans p1 p2
  clear p1 p2
  unfold maxLen at p3
  by_cases hlt : k < zs.length
  · obtain ⟨b, o, rfl, hb, hc⟩ := r'.at hlt
    obtain ⟨z0, z1⟩ := hz _ (List.getElem_mem hlt)
    have H : Hid ((at8 zs k n : Nat) = zs[k].toNat % n) := by show _ = _; unfold at8; rw [if_pos hlt]; simp [hlt]
    obtain ⟨y, hy⟩ := Int.eq_ofNat_of_zero_le z0
    have H2 : Hid ((at8 zs k n : Nat) = y % n) := by show _ = _; rw [H.out, hy]; rfl
    rw [hy] at hc z1 z0
    clear H hy hz
    go_enter Try.func6, Try.ntmps6
    go_wp2_with fail
    go_ret
    refine ⟨ret_int ?_, rfl⟩
    rw [H2.out]
    omega
  · have H : Hid (at8 zs k n = 0) := by show _ = _; unfold at8; rw [if_neg hlt]
    clear hz
    go_enter Try.func6, Try.ntmps6
    go_wp2_with fail
    go_ret
    exact ⟨ret_int (by rw [H.out]; rfl), rfl⟩

section
variable {P : Program} {ops : Array Oper} {Q : Exit → Act → World → Prop} {o : Oper} {rest : List Oper} {a : Act} {w : World}
theorem order_some {k : FloatKind} {p q : Nat} (hn : isN k p = false) (hm : isN k q = false) : ∃ c, k.format.order p q = some c := by
  unfold Ieee.Format.order
  unfold isN at hn hm
  cases hp : k.format.read p with
  | nan s f => rw [hp] at hn; simp [Ieee.Datum.isNaN] at hn
  | infinity s => cases hq : k.format.read q with
    | nan s f => rw [hq] at hm; simp [Ieee.Datum.isNaN] at hm
    | infinity t => exact ⟨_, rfl⟩
    | number t n j => exact ⟨_, rfl⟩
  | number s m i => cases hq : k.format.read q with
    | nan s f => rw [hq] at hm; simp [Ieee.Datum.isNaN] at hm
    | infinity t => exact ⟨_, rfl⟩
    | number t n j => exact ⟨_, rfl⟩
theorem max_float (ats : Array TypeId) (ty : TypeId) {k : FloatKind} {p q : Nat} (hn : isN k p = false) (hm : isN k q = false) : ∃ r, (r = p ∨ r = q) ∧ Builtin.max_ ats ty #[.float k p, .float k q] = pure (.float k r) := by
  obtain ⟨c, hc⟩ := order_some hn hm
  cases c
  · exact ⟨q, .inr rfl, by simp [Builtin.max_, Builtin.max2, hc]⟩
  · by_cases hg : (k.decode p).neg = true
    · exact ⟨q, .inr rfl, by simp [Builtin.max_, Builtin.max2, hc, hg]⟩
    · exact ⟨p, .inl rfl, by simp [Builtin.max_, Builtin.max2, hc, hg]⟩
  · exact ⟨p, .inl rfl, by simp [Builtin.max_, Builtin.max2, hc]⟩
theorem wpList_fmax {x y : Operand} {ats : Array TypeId} {k : FloatKind} {p q : Nat} (hw : Region.wanted o (yielded ops a.tmps) = true) (hop : o.op = .call { callee := .builtin .max, args := #[x, y], argTypes := ats })
    (hx : a.eval x = .float k p) (hy : a.eval y = .float k q) (hn : isN k p = false) (hm : isN k q = false) (hK : ∀ r, r = p ∨ r = q → wpList P ops Q rest (a.put o.dst (.float k r)) w) : wpList P ops Q (o :: rest) a w := by
  obtain ⟨r, hr, he⟩ := max_float ats o.type hn hm
  unfold wpList
  rw [if_pos hw]
  left
  unfold Oper.wp
  simp [go_sem] at hx hy
  simp [execOp, hop, go_sem, hx, hy, he, Result.andThen]
  exact hK r hr
end


open Go Go.RowKit Go.ChangeShapes Go.WideShapes Go.ChangeAt
attribute [local irreducible] LX
/-- Where choices are read from: bytes, the place in them, a seed. -/
structure SrcW (w0 : World) (bs m : Nat) (v : Value) (zs : List Int) (W : World) : Prop where
  r : RdY w0 v zs
  l : zs.length ≤ 1048576
  b : w0.heap.size ≤ bs
  x : Ext w0 W
  lt : bs < W.heap.size
  c0 : W.cell? ⟨bs, 0, none⟩ = some v
  c1 : ∃ i : Nat, i ≤ m ∧ W.cell? ⟨bs, 1, none⟩ = some (.int .i64 i)
  c2 : ∃ q : Int, W.cell? ⟨bs, 2, none⟩ = some (.int .u64 q)
  f1 : W.frozen? ⟨bs, 1, none⟩ = false
  f2 : W.frozen? ⟨bs, 2, none⟩ = false
theorem SrcW.ext {w0 W W' : World} {bs m : Nat} {v : Value} {zs : List Int} (h : SrcW w0 bs m v zs W) (hx : Ext W W') : SrcW w0 bs m v zs W' := by
  obtain ⟨i, hi, hc⟩ := h.c1
  obtain ⟨q, hq⟩ := h.c2
  exact ⟨h.r, h.l, h.b, h.x.trans hx, Nat.lt_of_lt_of_le h.lt hx.size, (Below.cell hx (p := ⟨bs, 0, none⟩) h.lt).trans h.c0, ⟨i, hi, (Below.cell hx (p := ⟨bs, 1, none⟩) h.lt).trans hc⟩, ⟨q, (Below.cell hx (p := ⟨bs, 2, none⟩) h.lt).trans hq⟩,
    (Below.frozen hx (p := ⟨bs, 1, none⟩) h.lt).trans h.f1, (Below.frozen hx (p := ⟨bs, 2, none⟩) h.lt).trans h.f2⟩
theorem SrcW.mono {w0 W : World} {bs m m' : Nat} {v : Value} {zs : List Int} (h : SrcW w0 bs m v zs W) (hm : m ≤ m') : SrcW w0 bs m' v zs W := by
  obtain ⟨i, hi, hc⟩ := h.c1
  exact ⟨h.r, h.l, h.b, h.x, h.lt, h.c0, ⟨i, Nat.le_trans hi hm, hc⟩, h.c2, h.f1, h.f2⟩
theorem grown_any {W W' : World} {b : Nat} (h : Ext W W') : W.grownBy W' (some b) := ⟨h.os, h.tape, h.output, h.size, fun j hj _ => h.block j hj⟩
theorem and_255 (a : Int) : ∃ x : Nat, x < 256 ∧ bits .and .u64 a 255 = (x : Int) := by
  refine ⟨(BitVec.ofInt 64 a &&& BitVec.ofInt 64 255).toNat, ?_, ?_⟩
  · have h : (BitVec.ofInt 64 a &&& BitVec.ofInt 64 255).toNat ≤ 255 := by
      rw [BitVec.toNat_and]; exact Nat.and_le_right
    omega
  · have h : (BitVec.ofInt 64 a &&& BitVec.ofInt 64 255).toNat ≤ 255 := by
      rw [BitVec.toNat_and]; exact Nat.and_le_right
    show IntKind.u64.wrap ((BitVec.ofInt 64 a &&& BitVec.ofInt 64 255).toNat : Int) = _
    have e : ∀ n : Nat, n ≤ 255 → IntKind.u64.wrap (n : Int) = (n : Int) := fun n hn => by
      have e : IntKind.u64.wrap (n : Int) = (n : Int) % 18446744073709551616 := by simp [IntKind.wrap, IntKind.bits, IntKind.signed]
      rw [e]; omega
    exact e _ h

set_option maxRecDepth 100000 in
set_option maxHeartbeats 4000000 in
theorem next_any (w0 : World) (bs m : Nat) (v : Value) (zs : List Int) (W : World) (h : SrcW w0 bs m v zs W) (hm : m ≤ 4194304) :
    Calls Try.prog 42 #[.pointer (some ⟨bs, 0, none⟩)] W fun e W' => (∃ x : Nat, x < 256 ∧ e = .returned (.int .i64 x)) ∧ W.grownBy W' (some bs) ∧ SrcW w0 bs (m + 1) v zs W' := by
  have h' := h
  obtain ⟨r, hl, hb, hX, hlt, c0, ⟨i, hi, c1⟩, ⟨q, c2⟩, f1, f2⟩ := h
  have r' := r
  obtain ⟨⟨-, a1, k1, rfl, -, -, -, -⟩, hz⟩ := r
  have hi1 : IntKind.i64.wrap ((i : Int) + 1) = (i : Int) + 1 := IntWalk.i64_in _ (by omega)
  by_cases hlen : i < zs.length
  · obtain ⟨b1, o1, rfl, hb1, hc1⟩ := r'.at hlen
    have hc := (Below.cell hX (p := ⟨b1, o1 + i, none⟩) hb1).trans hc1
    have hb1W : b1 < W.heap.size := Nat.lt_of_lt_of_le hb1 hX.size
    obtain ⟨z0, z1⟩ := hz _ (List.getElem_mem hlen)
    obtain ⟨y, hy⟩ := Int.eq_ofNat_of_zero_le z0
    rw [hy] at hc z1
    have z1' : y < 256 := by omega
    have hyw : IntKind.i64.wrap (y : Int) = (y : Int) := IntWalk.i64_in _ (by omega)
    have hil : (i : Int) < (zs.length : Int) := by omega
    have hle : (i : Int) + 1 ≤ (zs.length : Int) := by omega
    clear hy hz z0 hc1
    go_enter Try.func42, Try.ntmps42
    go_wp2_with fail
    refine wp_region_rel 10 (fun _ _ => True) (fun _ _ _ => True) (by kernel_rfl) (by kernel_rfl) (by kernel_rfl) ?_
    dsimp only [List.take, List.drop, List.length]
    refine LX_det (.pointer (some ⟨bs, 0, none⟩)) (by kernel_rfl) rfl (fun w' hx _ => ?_) ?_
    · go_simp
    refine LX_det (.pointer (some ⟨bs, 0, none⟩)) (by kernel_rfl) rfl (fun w' hx _ => ?_) ?_
    · go_simp
    refine LX_det (.pointer (some ⟨bs, 1, none⟩)) (by kernel_rfl) rfl (fun w' hx _ => ?_) ?_
    · go_simp
    refine LX_det (.int .i64 i) (by kernel_rfl) rfl (fun w' hx _ => ?_) ?_
    · have m0 := (Below.cell hx (p := ⟨bs, 1, none⟩) hlt).trans c1
      go_simp
    refine LX_det (.pointer (some ⟨bs, 0, none⟩)) (by kernel_rfl) rfl (fun w' hx _ => ?_) ?_
    · go_simp
    refine LX_det (.pointer (some ⟨bs, 0, none⟩)) (by kernel_rfl) rfl (fun w' hx _ => ?_) ?_
    · go_simp
    refine LX_det (.pointer (some ⟨bs, 0, none⟩)) (by kernel_rfl) rfl (fun w' hx _ => ?_) ?_
    · go_simp
    refine LX_det (.slice (some ⟨b1, o1, none⟩) zs.length k1) (by kernel_rfl) rfl (fun w' hx _ => ?_) ?_
    · have m0 := (Below.cell hx (p := ⟨bs, 0, none⟩) hlt).trans c0
      go_simp
    refine LX_det (.int .i64 zs.length) (by kernel_rfl) rfl (fun w' hx _ => ?_) ?_
    · go_simp
    refine LX_det (.bool true) (by kernel_rfl) rfl (fun w' hx _ => ?_) ?_
    · go_simp
    refine LX_nil fun w1 hx1 _ => ?_
    simp only [Act.put, List.setIfInBounds_toArray, List.set_cons_succ, List.set_cons_zero]
    have h1 := h'.ext hx1
    have d0 := (Below.cell hx1 (p := ⟨bs, 0, none⟩) hlt).trans c0
    have d1 := (Below.cell hx1 (p := ⟨bs, 1, none⟩) hlt).trans c1
    have dc := (Below.cell hx1 (p := ⟨b1, o1 + i, none⟩) hb1W).trans hc
    have hlt1 := h1.lt
    have hb1W1 : b1 < w1.heap.size := Nat.lt_of_lt_of_le hb1W hx1.size
    go_wp2_with fail
    refine wp_region_rel 11 (fun _ _ => True) (fun _ _ _ => True) (by kernel_rfl) (by kernel_rfl) (by kernel_rfl) ?_
    dsimp only [List.take, List.drop, List.length]
    refine LX_det (.pointer (some ⟨bs, 0, none⟩)) (by kernel_rfl) rfl (fun w' hx _ => ?_) ?_
    · go_simp
    refine LX_det (.pointer (some ⟨bs, 0, none⟩)) (by kernel_rfl) rfl (fun w' hx _ => ?_) ?_
    · go_simp
    refine LX_det (.pointer (some ⟨bs, 0, none⟩)) (by kernel_rfl) rfl (fun w' hx _ => ?_) ?_
    · go_simp
    refine LX_det (.slice (some ⟨b1, o1, none⟩) zs.length k1) (by kernel_rfl) rfl (fun w' hx _ => ?_) ?_
    · have m0 := (Below.cell hx (p := ⟨bs, 0, none⟩) hlt1).trans d0
      go_simp
    refine LX_det (.pointer (some ⟨bs, 0, none⟩)) (by kernel_rfl) rfl (fun w' hx _ => ?_) ?_
    · go_simp
    refine LX_det (.pointer (some ⟨bs, 0, none⟩)) (by kernel_rfl) rfl (fun w' hx _ => ?_) ?_
    · go_simp
    refine LX_det (.pointer (some ⟨bs, 1, none⟩)) (by kernel_rfl) rfl (fun w' hx _ => ?_) ?_
    · go_simp
    refine LX_det (.int .i64 i) (by kernel_rfl) rfl (fun w' hx _ => ?_) ?_
    · have m0 := (Below.cell hx (p := ⟨bs, 1, none⟩) hlt1).trans d1
      go_simp
    refine LX_det (.pointer (some ⟨b1, o1 + i, none⟩)) (by kernel_rfl) rfl (fun w' hx _ => ?_) ?_
    · go_simp
    refine LX_det (.int .u8 y) (by kernel_rfl) rfl (fun w' hx _ => ?_) ?_
    · have m0 := (Below.cell hx (p := ⟨b1, o1 + i, none⟩) hb1W1).trans dc
      go_simp
    refine LX_det (.int .i64 y) (by kernel_rfl) rfl (fun w' hx _ => ?_) ?_
    · go_simp
    refine LX_nil fun w2 hx2 _ => ?_
    simp only [Act.put, List.setIfInBounds_toArray, List.set_cons_succ, List.set_cons_zero]
    have h2 := h1.ext hx2
    have d20 := (Below.cell hx2 (p := ⟨bs, 0, none⟩) hlt1).trans d0
    have d21 := (Below.cell hx2 (p := ⟨bs, 1, none⟩) hlt1).trans d1
    obtain ⟨q2, d22⟩ := h2.c2
    have hf21 := h2.f1
    have hf22 := h2.f2
    have XX : Ext W w2 := hx1.trans hx2
    clear hx1 hx2 c0 c1 c2 d0 d1 dc hc f1 f2
    go_wp2_with fail
    generalize hW3 : World.setCell (World.setCell w2 ⟨bs, 1, none⟩ (.int .i64 ((i : Int) + 1))) ⟨bs, 2, none⟩ _ = W3
    have G3 : W.grownBy W3 (some bs) := by
      rw [← hW3]
      exact (grown_any XX).trans ((grownBy_setCell _ bs 1 _).trans (grownBy_setCell _ bs 2 _))
    have e0 : W3.cell? ⟨bs, 0, none⟩ = some (.slice (some ⟨b1, o1, none⟩) zs.length k1) := by
      rw [← hW3, World.cell?_setCell_other _ _ _ _ (by simp), World.cell?_setCell_other _ _ _ _ (by simp)]
      exact d20
    have e1 : W3.cell? ⟨bs, 1, none⟩ = some (.int .i64 ((i : Int) + 1)) := by
      rw [← hW3, World.cell?_setCell_other _ _ _ _ (by simp)]
      exact World.cell?_setCell_same' _ _ _ (by rw [d21]; rfl)
    have e2 : ∃ q : Int, W3.cell? ⟨bs, 2, none⟩ = some (.int .u64 q) := by
      rw [← hW3]
      exact ⟨_, World.cell?_setCell_same' _ _ _ (by rw [World.cell?_setCell_other _ _ _ _ (by simp), d22]; rfl)⟩
    have g1 : W3.frozen? ⟨bs, 1, none⟩ = false := by rw [← hW3, World.frozen?_setCell, World.frozen?_setCell]; exact h2.f1
    have g2 : W3.frozen? ⟨bs, 2, none⟩ = false := by rw [← hW3, World.frozen?_setCell, World.frozen?_setCell]; exact h2.f2
    have hlt3 : bs < W3.heap.size := Nat.lt_of_lt_of_le hlt G3.size
    have S3 : SrcW w0 bs (m + 1) (.slice (some ⟨b1, o1, none⟩) zs.length k1) zs W3 :=
      ⟨r', hl, hb, Below.grown h'.x G3 h'.x.size (fun k e => by cases e; exact hb), hlt3, e0, ⟨i + 1, by omega, e1⟩, e2, g1, g2⟩
    clear hW3
    refine wp_region_rel 10 (fun _ _ => True) (fun _ _ _ => True) (by kernel_rfl) (by kernel_rfl) (by kernel_rfl) ?_
    dsimp only [List.take, List.drop, List.length]
    refine LX_det (.pointer (some ⟨bs, 0, none⟩)) (by kernel_rfl) rfl (fun w' hx _ => ?_) ?_
    · go_simp
    refine LX_det (.pointer (some ⟨bs, 0, none⟩)) (by kernel_rfl) rfl (fun w' hx _ => ?_) ?_
    · go_simp
    refine LX_det (.pointer (some ⟨bs, 1, none⟩)) (by kernel_rfl) rfl (fun w' hx _ => ?_) ?_
    · go_simp
    refine LX_det (.int .i64 ((i : Int) + 1)) (by kernel_rfl) rfl (fun w' hx _ => ?_) ?_
    · have m0 := (Below.cell hx (p := ⟨bs, 1, none⟩) hlt3).trans e1
      go_simp
    refine LX_det (.pointer (some ⟨bs, 0, none⟩)) (by kernel_rfl) rfl (fun w' hx _ => ?_) ?_
    · go_simp
    refine LX_det (.pointer (some ⟨bs, 0, none⟩)) (by kernel_rfl) rfl (fun w' hx _ => ?_) ?_
    · go_simp
    refine LX_det (.pointer (some ⟨bs, 0, none⟩)) (by kernel_rfl) rfl (fun w' hx _ => ?_) ?_
    · go_simp
    refine LX_det (.slice (some ⟨b1, o1, none⟩) zs.length k1) (by kernel_rfl) rfl (fun w' hx _ => ?_) ?_
    · have m0 := (Below.cell hx (p := ⟨bs, 0, none⟩) hlt3).trans e0
      go_simp
    refine LX_det (.int .i64 zs.length) (by kernel_rfl) rfl (fun w' hx _ => ?_) ?_
    · go_simp
    refine LX_det (.bool true) (by kernel_rfl) rfl (fun w' hx _ => ?_) ?_
    · go_simp
    refine LX_nil fun w4 hx4 _ => ?_
    simp only [Act.put, List.setIfInBounds_toArray, List.set_cons_succ, List.set_cons_zero]
    have S4 := S3.ext hx4
    have G4 := G3.trans (grown_any hx4)
    go_wp2_with fail
    go_ret
    exact ⟨⟨y, z1' , rfl⟩, G4, S4⟩
  · have hil : ¬ (i : Int) < (zs.length : Int) := by omega
    have hle : ¬ (i : Int) + 1 ≤ (zs.length : Int) := by omega
    clear hz
    go_enter Try.func42, Try.ntmps42
    go_wp2_with fail
    refine wp_region_rel 10 (fun _ _ => True) (fun _ _ _ => True) (by kernel_rfl) (by kernel_rfl) (by kernel_rfl) ?_
    dsimp only [List.take, List.drop, List.length]
    refine LX_det (.pointer (some ⟨bs, 0, none⟩)) (by kernel_rfl) rfl (fun w' hx _ => ?_) ?_
    · go_simp
    refine LX_det (.pointer (some ⟨bs, 0, none⟩)) (by kernel_rfl) rfl (fun w' hx _ => ?_) ?_
    · go_simp
    refine LX_det (.pointer (some ⟨bs, 1, none⟩)) (by kernel_rfl) rfl (fun w' hx _ => ?_) ?_
    · go_simp
    refine LX_det (.int .i64 i) (by kernel_rfl) rfl (fun w' hx _ => ?_) ?_
    · have m0 := (Below.cell hx (p := ⟨bs, 1, none⟩) hlt).trans c1
      go_simp
    refine LX_det (.pointer (some ⟨bs, 0, none⟩)) (by kernel_rfl) rfl (fun w' hx _ => ?_) ?_
    · go_simp
    refine LX_det (.pointer (some ⟨bs, 0, none⟩)) (by kernel_rfl) rfl (fun w' hx _ => ?_) ?_
    · go_simp
    refine LX_det (.pointer (some ⟨bs, 0, none⟩)) (by kernel_rfl) rfl (fun w' hx _ => ?_) ?_
    · go_simp
    refine LX_det (.slice a1 zs.length k1) (by kernel_rfl) rfl (fun w' hx _ => ?_) ?_
    · have m0 := (Below.cell hx (p := ⟨bs, 0, none⟩) hlt).trans c0
      go_simp
    refine LX_det (.int .i64 zs.length) (by kernel_rfl) rfl (fun w' hx _ => ?_) ?_
    · go_simp
    refine LX_det (.bool false) (by kernel_rfl) rfl (fun w' hx _ => ?_) ?_
    · go_simp
    refine LX_nil fun w1 hx1 _ => ?_
    simp only [Act.put, List.setIfInBounds_toArray, List.set_cons_succ, List.set_cons_zero]
    have h2 := h'.ext hx1
    have d20 := (Below.cell hx1 (p := ⟨bs, 0, none⟩) hlt).trans c0
    have d21 := (Below.cell hx1 (p := ⟨bs, 1, none⟩) hlt).trans c1
    obtain ⟨q2, d22⟩ := h2.c2
    have hf21 := h2.f1
    have hf22 := h2.f2
    clear c0 c1 c2 f1 f2
    go_wp2_with fail
    generalize hW3 : World.setCell (World.setCell w1 ⟨bs, 1, none⟩ (.int .i64 ((i : Int) + 1))) ⟨bs, 2, none⟩ _ = W3
    have G3 : W.grownBy W3 (some bs) := by
      rw [← hW3]
      exact (grown_any hx1).trans ((grownBy_setCell _ bs 1 _).trans (grownBy_setCell _ bs 2 _))
    have e0 : W3.cell? ⟨bs, 0, none⟩ = some (.slice a1 zs.length k1) := by
      rw [← hW3, World.cell?_setCell_other _ _ _ _ (by simp), World.cell?_setCell_other _ _ _ _ (by simp)]
      exact d20
    have e1 : W3.cell? ⟨bs, 1, none⟩ = some (.int .i64 ((i : Int) + 1)) := by
      rw [← hW3, World.cell?_setCell_other _ _ _ _ (by simp)]
      exact World.cell?_setCell_same' _ _ _ (by rw [d21]; rfl)
    have e2 : ∃ q : Int, W3.cell? ⟨bs, 2, none⟩ = some (.int .u64 q) := by
      rw [← hW3]
      exact ⟨_, World.cell?_setCell_same' _ _ _ (by rw [World.cell?_setCell_other _ _ _ _ (by simp), d22]; rfl)⟩
    have g1 : W3.frozen? ⟨bs, 1, none⟩ = false := by rw [← hW3, World.frozen?_setCell, World.frozen?_setCell]; exact h2.f1
    have g2 : W3.frozen? ⟨bs, 2, none⟩ = false := by rw [← hW3, World.frozen?_setCell, World.frozen?_setCell]; exact h2.f2
    have hlt3 : bs < W3.heap.size := Nat.lt_of_lt_of_le hlt G3.size
    have S3 : SrcW w0 bs (m + 1) (.slice a1 zs.length k1) zs W3 :=
      ⟨r', hl, hb, Below.grown h'.x G3 h'.x.size (fun k e => by cases e; exact hb), hlt3, e0, ⟨i + 1, by omega, e1⟩, e2, g1, g2⟩
    clear hW3
    refine wp_region_rel 10 (fun _ _ => True) (fun _ _ _ => True) (by kernel_rfl) (by kernel_rfl) (by kernel_rfl) ?_
    dsimp only [List.take, List.drop, List.length]
    refine LX_det (.pointer (some ⟨bs, 0, none⟩)) (by kernel_rfl) rfl (fun w' hx _ => ?_) ?_
    · go_simp
    refine LX_det (.pointer (some ⟨bs, 0, none⟩)) (by kernel_rfl) rfl (fun w' hx _ => ?_) ?_
    · go_simp
    refine LX_det (.pointer (some ⟨bs, 1, none⟩)) (by kernel_rfl) rfl (fun w' hx _ => ?_) ?_
    · go_simp
    refine LX_det (.int .i64 ((i : Int) + 1)) (by kernel_rfl) rfl (fun w' hx _ => ?_) ?_
    · have m0 := (Below.cell hx (p := ⟨bs, 1, none⟩) hlt3).trans e1
      go_simp
    refine LX_det (.pointer (some ⟨bs, 0, none⟩)) (by kernel_rfl) rfl (fun w' hx _ => ?_) ?_
    · go_simp
    refine LX_det (.pointer (some ⟨bs, 0, none⟩)) (by kernel_rfl) rfl (fun w' hx _ => ?_) ?_
    · go_simp
    refine LX_det (.pointer (some ⟨bs, 0, none⟩)) (by kernel_rfl) rfl (fun w' hx _ => ?_) ?_
    · go_simp
    refine LX_det (.slice a1 zs.length k1) (by kernel_rfl) rfl (fun w' hx _ => ?_) ?_
    · have m0 := (Below.cell hx (p := ⟨bs, 0, none⟩) hlt3).trans e0
      go_simp
    refine LX_det (.int .i64 zs.length) (by kernel_rfl) rfl (fun w' hx _ => ?_) ?_
    · go_simp
    refine LX_det (.bool false) (by kernel_rfl) rfl (fun w' hx _ => ?_) ?_
    · go_simp
    refine LX_nil fun w4 hx4 _ => ?_
    simp only [Act.put, List.setIfInBounds_toArray, List.set_cons_succ, List.set_cons_zero]
    have S4 := S3.ext hx4
    have G4 := G3.trans (grown_any hx4)
    obtain ⟨q4, e4⟩ := S4.c2
    obtain ⟨x, hx256, hxe⟩ := and_255 (q4 / 1099511627776)
    have hxw : IntKind.i64.wrap (x : Int) = (x : Int) := IntWalk.i64_in _ (by omega)
    go_wp2_with fail
    go_ret
    exact ⟨⟨x, hx256, rfl⟩, G4, S4⟩

theorem SrcW.below {w0 W W' : World} {bs m B : Nat} {v : Value} {zs : List Int} (h : SrcW w0 bs m v zs W) (hx : Below B W W') (hB : bs < B) : SrcW w0 bs m v zs W' := by
  obtain ⟨i, hi, hc⟩ := h.c1
  obtain ⟨q, hq⟩ := h.c2
  have hb := h.b
  exact ⟨h.r, h.l, h.b, Below.trans h.x (Below.mono hx (by omega)), Nat.lt_of_lt_of_le h.lt hx.size, (Below.cell hx (p := ⟨bs, 0, none⟩) hB).trans h.c0, ⟨i, hi, (Below.cell hx (p := ⟨bs, 1, none⟩) hB).trans hc⟩, ⟨q, (Below.cell hx (p := ⟨bs, 2, none⟩) hB).trans hq⟩,
    (Below.frozen hx (p := ⟨bs, 1, none⟩) hB).trans h.f1, (Below.frozen hx (p := ⟨bs, 2, none⟩) hB).trans h.f2⟩
set_option maxHeartbeats 1000000 in
theorem pick_any (w0 : World) (bs m n : Nat) (v : Value) (zs : List Int) (W : World) (h : SrcW w0 bs m v zs W) (hm : m ≤ 4194304) (hn : 1 ≤ n) (hn2 : n ≤ 200) :
    Calls Try.prog 30 #[.pointer (some ⟨bs, 0, none⟩), .int .i64 n] W fun e W' => (∃ x : Nat, x < n ∧ e = .returned (.int .i64 x)) ∧ W.grownBy W' (some bs) ∧ SrcW w0 bs (m + 1) v zs W' := by
  have H := Lib.hid h
  clear h
  by_cases h1 : n = 1
  · subst h1
    go_enter Try.func30, Try.ntmps30
    go_wp2_with fail
    go_ret
    exact ⟨⟨0, by decide, rfl⟩, grownBy_refl _ _, H.out.mono (Nat.le_succ _)⟩
  · have h2 : ¬ (n : Int) ≤ 1 := by omega
    have h3 : ¬ 200 < (n : Int) := by omega
    go_enter Try.func30, Try.ntmps30
    go_wp2_with fail
    refine (next_any w0 bs m v zs W H.out hm).mono ?_
    rintro e w1 ⟨⟨x, hx, rfl⟩, G, S⟩
    have hmi : (x : Int).tmod (n : Int) = ((x % n : Nat) : Int) := by rw [Int.tmod_eq_emod_of_nonneg (by omega)]; rfl
    have hlt : x % n < n := Nat.mod_lt _ (by omega)
    generalize x % n = y at *
    go_wp2_with fail
    go_ret
    exact ⟨⟨y, hlt, rfl⟩, G, S⟩

theorem l00From_any (a : Option Addr) (n c : Nat) (w : World) :
    Calls Try.prog 16 #[.slice a n c] w fun e w' => e = .returned (.pointer (some ⟨w.heap.size, 0, none⟩)) ∧ w' = w.alloc (.cells #[.slice a n c, .int .i64 0, .int .u64 0] 55) := by
  go_enter Try.func16, Try.ntmps16
  go_wp2_with fail
  go_ret
  exact ⟨rfl, rfl⟩

open Go Go.RowKit Go.ChangeShapes Go.WideShapes Go.ChangeAt

/-- A block of a type whose cells are told. -/
def Bz (w : World) (b : Nat) (t : TypeId) (cs : List Value) : Prop := w.heap[b]? = some (.cells cs.toArray t (0, 0))
theorem Bz.new (w : World) (cs : List Value) (t : TypeId) : Bz (w.alloc (.cells cs.toArray t)) w.heap.size t cs := heap_alloc_new w _
theorem Bz.lt {w : World} {b : Nat} {t : TypeId} {cs : List Value} (h : Bz w b t cs) : b < w.heap.size := by
  unfold Bz at h
  rcases Nat.lt_or_ge b w.heap.size with h' | h'
  · exact h'
  · rw [Array.getElem?_eq_none h'] at h; cases h
theorem Bz.ext {w w' : World} {b : Nat} {t : TypeId} {cs : List Value} (h : Bz w b t cs) (hx : Ext w w') : Bz w' b t cs := (hx.block b h.lt).trans h
theorem Bz.frozen {w : World} {b j : Nat} {t : TypeId} {cs : List Value} (h : Bz w b t cs) : w.frozen? ⟨b, j, none⟩ = false := by unfold Bz at h; simp [World.frozen?, h]
theorem Bz.bx {w : World} {b : Nat} {t : TypeId} {cs : List Value} (h : Bz w b t cs) : Bx w b cs := ⟨h.lt, fun j hj => by rw [cell_of_row _ b j cs.toArray t (0, 0) h]; simp⟩
end Go.Proofs.Ytmcnfapdghoenaa
