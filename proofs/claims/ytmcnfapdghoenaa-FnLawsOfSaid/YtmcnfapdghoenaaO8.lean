
/- Contracts: the gap of two numbers; a law that is drawn. Conditions: in the theorems. -/
import Derived.Test.YtmcnfapdghoenaaOB
import Derived.Test.YtmcnfapdghoenaaNv
import Derived.Test.YtmcnfapdghoenaaN0
namespace Go.Proofs.Ytmcnfapdghoenaa
open Go Go.RowKit Go.ChangeShapes Go.WideShapes Go.ChangeAt

attribute [local irreducible] tw EX expX logF LX
theorem u64' : 0 < uu .f64 ∧ uu .f64 ≤ 1 / 9000000000000000 := ⟨u64j.2.1, u64j.1⟩
theorem e64' : 0 < eta .f64 ∧ eta .f64 ≤ 1 / 1000000000000000000 := ⟨u64j.2.2.2, u64j.2.2.1⟩
/-- The gap of two numbers, not above D. -/
theorem r8Gap_num (x y : Nat) (D : Rat) (w : World) (hx : Num .f32 x) (hy : Num .f32 y) (h1 : fv .f32 x - fv .f32 y ≤ D) (h2 : fv .f32 y - fv .f32 x ≤ D) (hD : D ≤ 1000000000) :
    Calls Try.prog 11 #[.float .f32 x, .float .f32 y] w fun e w' => ∃ z, e = .returned (.float .f64 z) ∧ (Num .f64 z ∧ fv .f64 z ≤ D + 1 / 1000000) ∧ Ext w w' := by
  obtain ⟨u1, v1⟩ := wide_val hx
  obtain ⟨u2, v2⟩ := wide_val hy
  obtain ⟨hu0, hu⟩ := u64'
  obtain ⟨he0, he⟩ := e64'
  have h100 := tw100
  obtain ⟨⟨m1, p1, q1⟩, -⟩ := (wr_sub u1 u2).nr (A := 1000000000) (by rw [v1, v2]; grind) (by rw [v1, v2]; grind) (by grind)
  obtain ⟨⟨m2, p2, q2⟩, -⟩ := (wr_sub u2 u1).nr (A := 1000000000) (by rw [v1, v2]; grind) (by rw [v1, v2]; grind) (by grind)
  have b1 : fv .f64 (fop .sub .f64 (wide x) (wide y)) ≤ D + 1 / 1000000 := by rw [v1, v2] at p1; grind
  have b2 : fv .f64 (fop .sub .f64 (wide y) (wide x)) ≤ D + 1 / 1000000 := by rw [v1, v2] at p2; grind
  have B1 := Lib.hid b1
  have B2 := Lib.hid b2
  have M1 := Lib.hid m1
  have M2 := Lib.hid m2
  have C1 : Hid (cn .f32 x = x) := hx.cn
  have C2 : Hid (cn .f32 y = y) := hy.cn
  have W1 := Lib.hid u1
  have W2 := Lib.hid u2
  clear p1 q1 p2 q2 b1 b2 m1 m2 h100 hu hu0 he he0 h1 h2 hD u1 u2 v1 v2
  have wa : (Try.prog.underlying 24).isSome = true := by kernel_rfl
  go_enter Try.func11, Try.ntmps11
  go_wp2_with (first | (refine wpList_fop rfl rfl rfl rfl rfl ?_; intro fb nf hfb hfl; replace hfb := Lib.hid hfb; replace hfl := Lib.hid hfl) | (refine wpList_wide wa Try.underlying32 rfl rfl rfl ?_; intro zb zn hzb hzl; clear hzl; replace hzb := Lib.hid hzb))
  rename_i z1 n1 e1 z2 n2 e2 f1 m1 k1 l1 z3 n3 e3 x1 x2
  have a1 : f1 = fop .sub .f64 (wide x) (wide y) := bits_of (by rw [k1.out, e1.out, e2.out, C1.out, C2.out]) M1.out.notN
  have a2 : fb = fop .sub .f64 (wide y) (wide x) := bits_of (by rw [hfb.out, e3.out, hzb.out, C1.out, C2.out]) M2.out.notN
  clear k1 hfb
  subst a1
  subst a2
  obtain ⟨r, hr, he⟩ := max_float #[32, 32] 32 M1.out.notN M2.out.notN
  rw [he]
  replace hr := Lib.hid hr
  clear he
  simp [go_sem, Oper.upon, Result.andThen]
  go_wp2_with fail
  go_ret
  refine ⟨r, rfl, ?_, Ext.drewN _ _⟩
  rcases hr.out with h | h
  · rw [h]; exact ⟨M1.out, B1.out⟩
  · rw [h]; exact ⟨M2.out, B2.out⟩
theorem Bz.grown {w w' : World} {b g : Nat} {t : TypeId} {cs : List Value} (h : Bz w b t cs) (k : w.grownBy w' (some g)) (hne : b ≠ g) : Bz w' b t cs := (k.block b h.lt (fun e => hne (Option.some.inj e))).trans h
theorem Bz.set {w : World} {b j : Nat} {t : TypeId} {cs : List Value} (h : Bz w b t cs) (u : Value) : Bz (w.setCell ⟨b, j, none⟩ u) b t (cs.set j u) := by
  unfold Bz at *
  unfold World.setCell
  simp [Array.getElem?_modify, h]
attribute [local go_sem] run_store_float
set_option maxHeartbeats 2000000 in
theorem drawLaw_any (w0 : World) (bs : Nat) (v : Value) (zs : List Int) (W : World) (h : SrcW w0 bs 0 v zs W) :
    Calls Try.prog 17 #[.pointer (some ⟨bs, 0, none⟩)] W fun e W' => (∃ k m b : Nat, k < 4 ∧ 2 ≤ m ∧ m ≤ 12 ∧ 1 ≤ b ∧ b ≤ 32 ∧ e = .returned (lawV k (yF m) (cF b))) ∧ Ext w0 W' := by
  have H := Lib.hid h
  have hsz := h.lt
  have hx0 := h.x
  clear h
  go_enter Try.func17, Try.ntmps17
  have b0 : Bz (W.alloc (.cells #[.int .i64 0, .float .f32 0, .float .f32 0] 26)) W.heap.size 26 [.int .i64 0, .float .f32 0, .float .f32 0] := Bz.new _ _ _
  have S := H.out.ext (Ext.alloc W (.cells #[.int .i64 0, .float .f32 0, .float .f32 0] 26))
  go_wp2_with fail
  refine (pick_any w0 bs 0 4 v zs _ S (by decide) (by decide) (by decide)).mono ?_
  rintro e w1 ⟨⟨k, hk, rfl⟩, G, S1⟩
  replace b0 := b0.grown G (by omega)
  have hlt1 := S1.lt
  have hr1 := b0.lt
  clear S G
  have bl : Bz (w1.alloc (.cells #[.int .i64 k, .float .f32 0, .float .f32 0] 26)) w1.heap.size 26 [.int .i64 k, .float .f32 0, .float .f32 0] := Bz.new _ _ _
  replace b0 := b0.ext (Ext.alloc w1 (.cells #[.int .i64 k, .float .f32 0, .float .f32 0] 26))
  have S1' := S1.ext (Ext.alloc w1 (.cells #[.int .i64 k, .float .f32 0, .float .f32 0] 26))
  go_wp2_with fail
  refine (pick_any w0 bs 1 11 v zs _ S1' (by decide) (by decide) (by decide)).mono ?_
  rintro e w2 ⟨⟨x, hx, rfl⟩, G, S2⟩
  replace b0 := b0.grown G (by omega)
  replace bl := bl.grown G (by omega)
  clear S1 S1' G
  obtain ⟨m, hm⟩ : ∃ m : Nat, m = x + 2 := ⟨_, rfl⟩
  have hmw : IntKind.i64.wrap (2 + (x : Int)) = (m : Int) := by rw [show 2 + (x : Int) = (m : Int) by omega]; exact IntWalk.i64_in _ (by omega)
  have hm2 : 2 ≤ m := by omega
  have hm12 : m ≤ 12 := by omega
  clear hm hx
  have q1 : FopV .quo .f32 (floatOfInt .f32 (m : Int)) 1082130432 (yF m) := ⟨(yF_all m (by omega)).1, (yF_all m (by omega)).2.1⟩
  obtain ⟨l0, l1, l2⟩ := bl.bx.three
  have fl := bl.frozen (j := 1)
  have hl2 := bl.lt
  have hs2 := S2.lt
  have B2 : Below (bs + 1) w2 (w2.setCell ⟨w1.heap.size, 1, none⟩ (.float .f32 (yF m))) := (Below.refl _ _).setCell (by show bs + 1 ≤ w1.heap.size; omega) _
  have S3 := S2.below B2 (Nat.lt_succ_self _)
  have B3 : Below (W.heap.size + 1) w2 (w2.setCell ⟨w1.heap.size, 1, none⟩ (.float .f32 (yF m))) := (Below.refl _ _).setCell (by show W.heap.size + 1 ≤ w1.heap.size; omega) _
  have b0' : Bz (w2.setCell ⟨w1.heap.size, 1, none⟩ (.float .f32 (yF m))) W.heap.size 26 [.int .i64 0, .float .f32 0, .float .f32 0] := (B3.block W.heap.size (Nat.lt_succ_self _)).trans b0
  have bl' : Bz (w2.setCell ⟨w1.heap.size, 1, none⟩ (.float .f32 (yF m))) w1.heap.size 26 [.int .i64 k, .float .f32 (yF m), .float .f32 0] := bl.set (j := 1) (.float .f32 (yF m))
  clear B2 B3 b0 bl S2
  go_wp2_with (first | (refine wpList_fopV rfl rfl rfl rfl (by with_reducible assumption) ?_))
  clear l0 l1 l2 fl q1
  generalize (w2.setCell ⟨w1.heap.size, 1, none⟩ (.float .f32 (yF m))) = w3 at *
  refine (pick_any w0 bs 2 32 v zs _ S3 (by decide) (by decide) (by decide)).mono ?_
  rintro e w4 ⟨⟨x', hx', rfl⟩, G, S4⟩
  replace b0' := b0'.grown G (by omega)
  replace bl' := bl'.grown G (by omega)
  clear S3 G
  obtain ⟨c, hc⟩ : ∃ c : Nat, c = x' + 1 := ⟨_, rfl⟩
  have hcw : IntKind.i64.wrap (1 + (x' : Int)) = (c : Int) := by rw [show 1 + (x' : Int) = (c : Int) by omega]; exact IntWalk.i64_in _ (by omega)
  have hc1 : 1 ≤ c := by omega
  have hc32 : c ≤ 32 := by omega
  clear hc hx'
  have q1 : FopV .quo .f32 (floatOfInt .f32 (c : Int)) 1073741824 (cF c) := ⟨(cF_all c (by omega)).1, (cF_all c (by omega)).2.1⟩
  obtain ⟨l0, l1, l2⟩ := bl'.bx.three
  obtain ⟨r0, r1, r2⟩ := b0'.bx.three
  have fl := bl'.frozen (j := 2)
  have f0 := b0'.frozen (j := 0)
  have f1 := b0'.frozen (j := 1)
  have f2 := b0'.frozen (j := 2)
  have hwb := S4.b
  have X := S4.x
  have hne : ¬ w1.heap.size = W.heap.size := by omega
  have hne2 : ¬ W.heap.size = w1.heap.size := by omega
  clear b0' bl' S4
  go_wp2_with (first | (refine wpList_fopV rfl rfl rfl rfl (by with_reducible assumption) ?_))
  refine bodyPost_ret (v := .agg #[.int .i64 k, .float .f32 (yF m), .float .f32 (cF c)]) (by simp [results, Try.results17, go_sem, r0, r1, r2, hne, hne2]) rfl ?_
  exact ⟨⟨k, m, c, hk, hm2, hm12, hc1, hc32, rfl⟩, (((X.setCell (by show _ ≤ w1.heap.size; omega) _).setCell (by show _ ≤ W.heap.size; omega) _).setCell (by show _ ≤ W.heap.size; omega) _).setCell (by show _ ≤ W.heap.size; omega) _⟩
set_option maxHeartbeats 1000000 in
theorem r8Law_any (v : Value) (zs : List Int) (w : World) (r : RdY w v zs) (hl : zs.length ≤ 1048576) :
    Calls Try.prog 5 #[v] w fun e w' => (∃ k m b : Nat, k < 4 ∧ 2 ≤ m ∧ m ≤ 12 ∧ 1 ≤ b ∧ b ≤ 32 ∧ e = .returned (lawV k (yF m) (cF b))) ∧ Ext w w' := by
  have r' := r
  obtain ⟨⟨-, a1, c1, rfl, -, -, -, -⟩, -⟩ := r
  go_enter Try.func5, Try.ntmps5
  have b0 : Bz (w.alloc (.cells #[.int .i64 0, .float .f32 0, .float .f32 0] 26)) w.heap.size 26 [.int .i64 0, .float .f32 0, .float .f32 0] := Bz.new _ _ _
  generalize hW : w.alloc (.cells #[.int .i64 0, .float .f32 0, .float .f32 0] 26) = W at *
  have X : Ext w W := by rw [← hW]; exact Ext.alloc _ _
  have hsz : w.heap.size < W.heap.size := b0.lt
  have bz : Bz (W.alloc (.cells #[.slice a1 zs.length c1, .int .i64 0, .int .u64 0] 55)) W.heap.size 55 [.slice a1 zs.length c1, .int .i64 0, .int .u64 0] := Bz.new _ _ _
  have S : SrcW W W.heap.size 0 (.slice a1 zs.length c1) zs (W.alloc (.cells #[.slice a1 zs.length c1, .int .i64 0, .int .u64 0] 55)) :=
    ⟨r'.ext X, hl, Nat.le_refl _, Ext.alloc _ _, by simp, bz.bx.2 0 (by simp), ⟨0, Nat.le_refl _, bz.bx.2 1 (by simp)⟩, ⟨0, bz.bx.2 2 (by simp)⟩, bz.frozen, bz.frozen⟩
  have HD := Lib.hid (drawLaw_any W W.heap.size (.slice a1 zs.length c1) zs _ S)
  clear bz S
  go_wp2_with fail
  clear hW
  refine (l00From_any _ _ _ _).mono ?_
  rintro e w1 ⟨rfl, rfl⟩
  go_wp2_with fail
  refine HD.out.mono ?_
  rintro e w2 ⟨⟨k, m, b, h1, h2, h3, h4, h5, rfl⟩, X2⟩
  replace b0 := b0.ext X2
  obtain ⟨r0, r1, r2⟩ := b0.bx.three
  have f0 := b0.frozen (j := 0)
  have f1 := b0.frozen (j := 1)
  have f2 := b0.frozen (j := 2)
  replace X2 := X.trans X2
  clear b0
  unfold lawV
  go_wp2_with fail
  refine bodyPost_ret (v := .agg #[.int .i64 k, .float .f32 (yF m), .float .f32 (cF b)]) (by simp [results, Try.results5, go_sem, r0, r1, r2]) rfl ?_
  exact ⟨⟨k, m, b, h1, h2, h3, h4, h5, rfl⟩, ((X2.setCell (Nat.le_refl _) _).setCell (Nat.le_refl _) _).setCell (Nat.le_refl _) _⟩
end Go.Proofs.Ytmcnfapdghoenaa
