
/- Contracts of the helpers of the laws on codes: a number that an input chooses, the gap of two numbers. Conditions: in the theorems. -/
import Derived.Test.YtlbmjeennpccmaaSr
import Derived.Test.YtlbmjeennpccmaaRead
namespace Go.Proofs.Ytlbmjeennpccmaa
open Go Go.RowKit Go.ChangeShapes Go.WideShapes Go.ChangeAt

/-- A slice of bytes. -/
def RdY (w : World) (v : Value) (zs : List Int) : Prop := Rd 1 w v zs.length (zs.map (Value.int .u8)) ∧ ∀ z ∈ zs, 0 ≤ z ∧ z < 256
theorem RdY.ext {w w' : World} {v : Value} {zs : List Int} (h : RdY w v zs) (hb : Ext w w') : RdY w' v zs := ⟨h.1.ext hb, h.2⟩
theorem RdY.at {w : World} {a : Option Addr} {cap n : Nat} {zs : List Int} (h : RdY w (.slice a n cap) zs) {k : Nat} (hk : k < zs.length) :
    ∃ b off, a = some ⟨b, off, none⟩ ∧ b < w.heap.size ∧ w.cell? ⟨b, off + k, none⟩ = some (.int .u8 zs[k]) := by
  have hn : n = zs.length := by obtain ⟨⟨_, _, _, h2, _⟩, _⟩ := h; cases h2; rfl
  subst hn
  obtain ⟨b, off, h1, h2, h3⟩ := Rd.pos h.1 (by omega : 0 < zs.length * 1)
  refine ⟨b, off, h1, h2, ?_⟩
  rw [h3 k (by omega)]
  simp [hk]
section
variable {H : Type} {enc : TypeId × Value → H} {P : Program} {w : World} {base : Nat} {held : Bool} {r : Reach} {b0 : Nat} {t e : TypeId} {v : Value} {d : DataW H} {p : List MemPlace}
def ArgBytes (w : World) (v : Value) : Prop := ∃ (a : Option Addr) (len cap : Nat) (zs : List Int), v = .slice a len cap ∧ RdY w (.slice a len cap) zs
theorem argBytes (ht : P.underlying t = some (.slice e)) (he : P.underlying e = some (.int .u8)) (hk : P.cellsOf e = 1) (hv : Value.okWide P w r b0 t v) (h : DataW.Trod enc P w base (fun _ => true) held t v d p) : ArgBytes w v := by
  obtain ⟨a, len, cap, rfl⟩ := okWide_slice ht hv
  obtain ⟨fuel, hf⟩ := h
  obtain ⟨a', len', cap', xs, e0, hr, hl, hrow⟩ := trod_rows ht hk (by omega) hf
  obtain ⟨zs, e1, e2, e3⟩ := singles (Value.int .u8) (fun z => 0 ≤ z ∧ z < 256) xs fun r hm => by
    obtain ⟨_, n, y, hy⟩ := hrow r hm
    obtain ⟨z, h1, _, h3⟩ := DataW.trod_int he hy
    refine ⟨z, h1, ?_⟩
    have h4 : (IntKind.u8).min ≤ z ∧ z ≤ (IntKind.u8).max := by simpa [Lit.wf] using h3
    have h5 : (IntKind.u8).min = 0 := by decide
    have h6 : (IntKind.u8).max = 255 := by decide
    omega
  rw [e1] at hr
  have : len' = zs.length := by rw [e2, hl]
  subst this
  exact ⟨a', zs.length, cap', zs, e0, hr, e3⟩
end

/-- The number below n that an input chooses. -/
def at8 (zs : List Int) (k : Nat) (n : Nat) : Nat := if k < zs.length then (zs.getD k 0).toNat % n else 0
theorem at8_lt {zs : List Int} {k n : Nat} (h : 0 < n) : at8 zs k n < n := by
  unfold at8; split
  · exact Nat.mod_lt _ h
  · exact h
theorem r8Long_any (v1 v2 : Value) (xs ys : List Int) (w : World) (r1 : RdY w v1 xs) (r2 : RdY w v2 ys) :
    Calls Try.prog 21 #[v1, v2] w fun e w' => e = .returned (.bool (decide (48 < xs.length ∨ 48 < ys.length))) ∧ w = w' := by
  obtain ⟨⟨-, a1, c1, rfl, p1, p2, -, -⟩, -⟩ := r1
  obtain ⟨⟨-, a2, c2, rfl, q1, q2, -, -⟩, -⟩ := r2
  clear p1 p2 q1 q2
  go_enter Try.func21, Try.ntmps21
  go_wp2_with fail
  all_goals
    go_ret
    refine ⟨ret_bool ?_, rfl⟩
    rw [Bool.eq_iff_iff]
    simp [*] <;> omega
set_option maxRecDepth 100000 in
theorem r8At_any (v : Value) (zs : List Int) (k n : Nat) (w : World) (r : RdY w v zs) (hn : 2 ≤ n) (hn2 : n ≤ 1000) (hk : k ≤ 1000) :
    Calls Try.prog 22 #[v, .int .i64 k, .int .i64 n] w fun e w' => e = .returned (.int .i64 (at8 zs k n : Nat)) ∧ w = w' := by
  have r' := r
  obtain ⟨⟨-, a1, c1, rfl, p1, p2, -, -⟩, hz⟩ := r
  have p3 : zs.length ≤ maxLen := Nat.le_trans p1 p2
  clear p1 p2
  unfold maxLen at p3
  by_cases hlt : k < zs.length
  · obtain ⟨b, o, rfl, hb, hc⟩ := r'.at hlt
    obtain ⟨z0, z1⟩ := hz _ (List.getElem_mem hlt)
    have H : Hid ((at8 zs k n : Nat) = zs[k].toNat % n) := by show _ = _; unfold at8; rw [if_pos hlt]; simp [hlt]
    obtain ⟨y, hy⟩ := Int.eq_ofNat_of_zero_le z0
    have H2 : Hid ((at8 zs k n : Nat) = y % n) := by show _ = _; rw [H.out, hy]; rfl
    rw [hy] at hc z1 z0
    clear H hy hz
    go_enter Try.func22, Try.ntmps22
    go_wp2_with fail
    go_ret
    refine ⟨ret_int ?_, rfl⟩
    rw [H2.out]
    omega
  · have H : Hid (at8 zs k n = 0) := by show _ = _; unfold at8; rw [if_neg hlt]
    clear hz
    go_enter Try.func22, Try.ntmps22
    go_wp2_with fail
    go_ret
    exact ⟨ret_int (by rw [H.out]; rfl), rfl⟩

section
variable {P : Program} {ops : Array Oper} {Q : Exit → Act → World → Prop} {o : Oper} {rest : List Oper} {a : Act} {w : World}
theorem order_some {k : FloatKind} {p q : Nat} (hn : isN k p = false) (hm : isN k q = false) : ∃ c, k.format.order p q = some c := by
  unfold Ieee.Format.order
  unfold isN at hn hm
  cases hp : k.format.read p with
  | nan s f => rw [hp] at hn; simp [Ieee.Datum.isNaN] at hn
  | infinity s => cases hq : k.format.read q with
    | nan s f => rw [hq] at hm; simp [Ieee.Datum.isNaN] at hm
    | infinity t => exact ⟨_, rfl⟩
    | number t n j => exact ⟨_, rfl⟩
  | number s m i => cases hq : k.format.read q with
    | nan s f => rw [hq] at hm; simp [Ieee.Datum.isNaN] at hm
    | infinity t => exact ⟨_, rfl⟩
    | number t n j => exact ⟨_, rfl⟩
theorem max_float (ats : Array TypeId) (ty : TypeId) {k : FloatKind} {p q : Nat} (hn : isN k p = false) (hm : isN k q = false) : ∃ r, (r = p ∨ r = q) ∧ Builtin.max_ ats ty #[.float k p, .float k q] = pure (.float k r) := by
  obtain ⟨c, hc⟩ := order_some hn hm
  cases c
  · exact ⟨q, .inr rfl, by simp [Builtin.max_, Builtin.max2, hc]⟩
  · by_cases hg : (k.decode p).neg = true
    · exact ⟨q, .inr rfl, by simp [Builtin.max_, Builtin.max2, hc, hg]⟩
    · exact ⟨p, .inl rfl, by simp [Builtin.max_, Builtin.max2, hc, hg]⟩
  · exact ⟨p, .inl rfl, by simp [Builtin.max_, Builtin.max2, hc]⟩
theorem wpList_fmax {x y : Operand} {ats : Array TypeId} {k : FloatKind} {p q : Nat} (hw : Region.wanted o (yielded ops a.tmps) = true) (hop : o.op = .call { callee := .builtin .max, args := #[x, y], argTypes := ats })
    (hx : a.eval x = .float k p) (hy : a.eval y = .float k q) (hn : isN k p = false) (hm : isN k q = false) (hK : ∀ r, r = p ∨ r = q → wpList P ops Q rest (a.put o.dst (.float k r)) w) : wpList P ops Q (o :: rest) a w := by
  obtain ⟨r, hr, he⟩ := max_float ats o.type hn hm
  unfold wpList
  rw [if_pos hw]
  left
  unfold Oper.wp
  simp [go_sem] at hx hy
  simp [execOp, hop, go_sem, hx, hy, he, Result.andThen]
  exact hK r hr
end

theorem gapOk_get {x y : Nat} (h : gapOk x y = true) : fcmp .gtr .f64 (gapA x y) 4562254508917369340 = false ∧ fcmp .gtr .f64 (gapA y x) 4562254508917369340 = false ∧ isN .f64 (gapA x y) = false ∧ isN .f64 (gapA y x) = false := by
  unfold gapOk at h
  simpa [and_assoc] using h
theorem r8Gap_any (x y : Nat) (w : World) (h : gapOk (cn .f32 x) (cn .f32 y) = true) :
    Calls Try.prog 24 #[.float .f32 x, .float .f32 y] w fun e w' => ∃ z, e = .returned (.float .f64 z) ∧ fcmp .gtr .f64 (cn .f64 z) (cn .f64 4562254508917369340) = false ∧ ∃ m, w' = w.drewN m := by
  obtain ⟨g1, g2, g3, g4⟩ := gapOk_get h
  have G1 := Lib.hid g1
  have G2 := Lib.hid g2
  have G3 := Lib.hid g3
  have G4 := Lib.hid g4
  clear g1 g2 g3 g4 h
  have wa : (Try.prog.underlying 24).isSome = true := by kernel_rfl
  go_enter Try.func24, Try.ntmps24
  go_wp2_with (first | (refine wpList_fop rfl rfl rfl rfl rfl ?_; intro fb nf hfb hfl; replace hfb := Lib.hid hfb; replace hfl := Lib.hid hfl) | (refine wpList_wide wa Try.underlying30 rfl rfl rfl ?_; intro zb zn hzb hzl; clear hzl; replace hzb := Lib.hid hzb))
  rename_i z1 n1 e1 z2 n2 e2 f1 m1 k1 l1 z3 n3 e3 x1 x2
  have a1 : cn .f64 f1 = gapA (cn .f32 x) (cn .f32 y) := by rw [k1.out, e1.out, e2.out]; rfl
  have a2 : cn .f64 fb = gapA (cn .f32 y) (cn .f32 x) := by rw [hfb.out, e3.out, hzb.out]; rfl
  have b1 : isN .f64 f1 = false := by rw [← isN_cn, a1]; exact G3.out
  have b2 : isN .f64 fb = false := by rw [← isN_cn, a2]; exact G4.out
  have A1 := Lib.hid a1
  have A2 := Lib.hid a2
  have B1 := Lib.hid b1
  have B2 := Lib.hid b2
  clear a1 a2 b1 b2
  obtain ⟨r, hr, he⟩ := max_float #[30, 30] 30 B1.out B2.out
  rw [he]
  replace hr := Lib.hid hr
  clear he
  simp [go_sem, Oper.upon, Result.andThen]
  go_wp2_with fail
  go_ret
  refine ⟨r, rfl, ?_, _, rfl⟩
  have hc : cn .f64 4562254508917369340 = 4562254508917369340 := by decide +kernel
  rcases hr.out with h | h
  · rw [h, A1.out, hc]; exact G1.out
  · rw [h, A2.out, hc]; exact G2.out
/-- The same, the result told ahead of the world. -/
theorem r8Gap_det (x y : Nat) (h : gapOk (cn .f32 x) (cn .f32 y) = true) : ∃ z, fcmp .gtr .f64 (cn .f64 z) (cn .f64 4562254508917369340) = false ∧
    ∀ w, Calls Try.prog 24 #[.float .f32 x, .float .f32 y] w fun e w' => e = .returned (.float .f64 z) ∧ ∃ m, w' = w.drewN m := by
  obtain ⟨g1, g2, g3, g4⟩ := gapOk_get h
  have G1 := Lib.hid g1
  have G2 := Lib.hid g2
  have G3 := Lib.hid g3
  have G4 := Lib.hid g4
  clear g1 g2 g3 g4 h
  obtain ⟨r, hr, he⟩ := max_float #[30, 30] 30 G3.out G4.out
  refine ⟨r, ?_, fun w => ?_⟩
  · have hc : cn .f64 4562254508917369340 = 4562254508917369340 := by decide +kernel
    rcases hr with h | h
    · rw [h, hc, cn_of_not G3.out]; exact G1.out
    · rw [h, hc, cn_of_not G4.out]; exact G2.out
  have HE := Lib.hid he
  clear hr he
  have wa : (Try.prog.underlying 24).isSome = true := by kernel_rfl
  go_enter Try.func24, Try.ntmps24
  go_wp2_with (first | (refine wpList_fop rfl rfl rfl rfl rfl ?_; intro fb nf hfb hfl; replace hfb := Lib.hid hfb; replace hfl := Lib.hid hfl) | (refine wpList_wide wa Try.underlying30 rfl rfl rfl ?_; intro zb zn hzb hzl; clear hzl; replace hzb := Lib.hid hzb))
  rename_i z1 n1 e1 z2 n2 e2 f1 m1 k1 l1 z3 n3 e3 x1 x2
  have a1 : cn .f64 f1 = gapA (cn .f32 x) (cn .f32 y) := by rw [k1.out, e1.out, e2.out]; rfl
  have a2 : cn .f64 fb = gapA (cn .f32 y) (cn .f32 x) := by rw [hfb.out, e3.out, hzb.out]; rfl
  have b1 := bits_of a1 G3.out
  have b2 := bits_of a2 G4.out
  clear a1 a2 k1 hfb
  subst b1
  subst b2
  rw [HE.out]
  clear HE
  simp [go_sem, Oper.upon, Result.andThen]
  go_wp2_with fail
  go_ret
  exact ⟨rfl, _, rfl⟩
end Go.Proofs.Ytlbmjeennpccmaa
