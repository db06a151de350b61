
/- Choices out of bytes, and a system that is drawn from them: what is drawn is valid. Conditions: in the theorems. -/
import Derived.Test.YtgmdoboeenpjpaaYk
import Derived.Test.YtgmdoboeenpjpaaYN
import Derived.Test.YtgmdoboeenpjpaaEM
import Derived.Test.YtgmdoboeenpjpaaRead
namespace Go.Proofs.Ytgmdoboeenpjpaa
open Go Go.RowKit Go.ChangeShapes Go.WideShapes Go.ChangeAt

attribute [local irreducible] LX

/-- A slice of bytes. -/
def RdY (w : World) (v : Value) (zs : List Int) : Prop := Rd 1 w v zs.length (zs.map (Value.int .u8)) ∧ ∀ z ∈ zs, 0 ≤ z ∧ z < 256
theorem RdY.ext {w w' : World} {v : Value} {zs : List Int} (h : RdY w v zs) (hb : Ext w w') : RdY w' v zs := ⟨h.1.ext hb, h.2⟩
theorem RdY.at {w : World} {a : Option Addr} {cap n : Nat} {zs : List Int} (h : RdY w (.slice a n cap) zs) {k : Nat} (hk : k < zs.length) :
    ∃ b off, a = some ⟨b, off, none⟩ ∧ b < w.heap.size ∧ w.cell? ⟨b, off + k, none⟩ = some (.int .u8 zs[k]) := by
  have hn : n = zs.length := by obtain ⟨⟨_, _, _, h2, _⟩, _⟩ := h; cases h2; rfl
  subst hn
  obtain ⟨b, off, h1, h2, h3⟩ := Rd.pos h.1 (by omega : 0 < zs.length * 1)
  refine ⟨b, off, h1, h2, ?_⟩
  rw [h3 k (by omega)]
  simp [hk]
section
variable {H : Type} {enc : TypeId × Value → H} {P : Program} {w : World} {base : Nat} {held : Bool} {r : Reach} {b0 : Nat} {t e : TypeId} {v : Value} {d : DataW H} {p : List MemPlace}
def ArgBytes (w : World) (v : Value) : Prop := ∃ (a : Option Addr) (len cap : Nat) (zs : List Int), v = .slice a len cap ∧ RdY w (.slice a len cap) zs
theorem argBytes (ht : P.underlying t = some (.slice e)) (he : P.underlying e = some (.int .u8)) (hk : P.cellsOf e = 1) (hv : Value.okWide P w r b0 t v) (h : DataW.Trod enc P w base (fun _ => true) held t v d p) : ArgBytes w v := by
  obtain ⟨a, len, cap, rfl⟩ := okWide_slice ht hv
  obtain ⟨fuel, hf⟩ := h
  obtain ⟨a', len', cap', xs, e0, hr, hl, hrow⟩ := trod_rows ht hk (by omega) hf
  obtain ⟨zs, e1, e2, e3⟩ := singles (Value.int .u8) (fun z => 0 ≤ z ∧ z < 256) xs fun r hm => by
    obtain ⟨_, n, y, hy⟩ := hrow r hm
    obtain ⟨z, h1, _, h3⟩ := DataW.trod_int he hy
    refine ⟨z, h1, ?_⟩
    have h4 : (IntKind.u8).min ≤ z ∧ z ≤ (IntKind.u8).max := by simpa [Lit.wf] using h3
    have h5 : (IntKind.u8).min = 0 := by decide
    have h6 : (IntKind.u8).max = 255 := by decide
    omega
  rw [e1] at hr
  have : len' = zs.length := by rw [e2, hl]
  subst this
  exact ⟨a', zs.length, cap', zs, e0, hr, e3⟩
end

theorem b10Long_any (v1 v2 : Value) (xs ys : List Int) (w : World) (r1 : RdY w v1 xs) (r2 : RdY w v2 ys) :
    Calls Try.prog 6 #[v1, v2] w fun e w' => e = .returned (.bool (decide (1048576 < xs.length ∨ 1048576 < ys.length))) ∧ w = w' := by
  obtain ⟨⟨-, a1, c1, rfl, p1, p2, -, -⟩, -⟩ := r1
  obtain ⟨⟨-, a2, c2, rfl, q1, q2, -, -⟩, -⟩ := r2
  clear p1 p2 q1 q2
  go_enter Try.func6, Try.ntmps6
  go_wp2_with fail
  all_goals
    go_ret
    refine ⟨ret_bool ?_, rfl⟩
    rw [Bool.eq_iff_iff]
    simp [*] <;> omega
theorem tmod_nat (a n : Nat) : ((a : Int)).tmod (n : Int) = ((a % n : Nat) : Int) := by
  rw [Int.tmod_eq_emod_of_nonneg (by omega)]; rfl
set_option maxRecDepth 100000 in
theorem b10At_any (v : Value) (zs : List Int) (k n : Nat) (w : World) (r : RdY w v zs) (hn : 2 ≤ n) (hn2 : n ≤ 1000) (hk : k ≤ 1000) :
    Calls Try.prog 7 #[v, .int .i64 k, .int .i64 n] w fun e w' => ∃ x : Nat, x < n ∧ e = .returned (.int .i64 x) ∧ w = w' := by
  have r' := r
  obtain ⟨⟨-, a1, c1, rfl, p1, p2, -, -⟩, hz⟩ := r
  have p3 : zs.length ≤ maxLen := Nat.le_trans p1 p2
  clear p1 p2
  unfold maxLen at p3
  by_cases hlt : k < zs.length
  · obtain ⟨b, o, rfl, hb, hc⟩ := r'.at hlt
    obtain ⟨z0, z1⟩ := hz _ (List.getElem_mem hlt)
    obtain ⟨y, hy⟩ := Int.eq_ofNat_of_zero_le z0
    rw [hy] at hc z1 z0
    have hm : y % n < n := Nat.mod_lt _ (by omega)
    have hmi : (y : Int).tmod (n : Int) = ((y % n : Nat) : Int) := tmod_nat y n
    clear hy hz
    generalize y % n = m at *
    go_enter Try.func7, Try.ntmps7
    go_wp2_with fail
    go_ret
    exact ⟨m, hm, ret_int (by first | omega | rfl), rfl⟩
  · have hm : (k * 37 + 11) % n < n := Nat.mod_lt _ (by omega)
    have hmi : ((k : Int) * 37 + 11).tmod (n : Int) = (((k * 37 + 11) % n : Nat) : Int) := by
      have := tmod_nat (k * 37 + 11) n
      rw [← this]; rfl
    clear hz
    generalize (k * 37 + 11) % n = m at *
    go_enter Try.func7, Try.ntmps7
    go_wp2_with fail
    go_ret
    exact ⟨m, hm, ret_int (by first | omega | rfl), rfl⟩

/-- Where choices are read from: bytes, the place in them, a seed. -/
structure SrcW (w0 : World) (bs m : Nat) (v : Value) (zs : List Int) (W : World) : Prop where
  r : RdY w0 v zs
  l : zs.length ≤ 1048576
  b : w0.heap.size ≤ bs
  x : Ext w0 W
  lt : bs < W.heap.size
  c0 : W.cell? ⟨bs, 0, none⟩ = some v
  c1 : ∃ i : Nat, i ≤ m ∧ W.cell? ⟨bs, 1, none⟩ = some (.int .i64 i)
  c2 : ∃ q : Int, W.cell? ⟨bs, 2, none⟩ = some (.int .u64 q)
  f1 : W.frozen? ⟨bs, 1, none⟩ = false
  f2 : W.frozen? ⟨bs, 2, none⟩ = false
theorem SrcW.ext {w0 W W' : World} {bs m : Nat} {v : Value} {zs : List Int} (h : SrcW w0 bs m v zs W) (hx : Ext W W') : SrcW w0 bs m v zs W' := by
  obtain ⟨i, hi, hc⟩ := h.c1
  obtain ⟨q, hq⟩ := h.c2
  exact ⟨h.r, h.l, h.b, h.x.trans hx, Nat.lt_of_lt_of_le h.lt hx.size, (Below.cell hx (p := ⟨bs, 0, none⟩) h.lt).trans h.c0, ⟨i, hi, (Below.cell hx (p := ⟨bs, 1, none⟩) h.lt).trans hc⟩, ⟨q, (Below.cell hx (p := ⟨bs, 2, none⟩) h.lt).trans hq⟩,
    (Below.frozen hx (p := ⟨bs, 1, none⟩) h.lt).trans h.f1, (Below.frozen hx (p := ⟨bs, 2, none⟩) h.lt).trans h.f2⟩
theorem SrcW.mono {w0 W : World} {bs m m' : Nat} {v : Value} {zs : List Int} (h : SrcW w0 bs m v zs W) (hm : m ≤ m') : SrcW w0 bs m' v zs W := by
  obtain ⟨i, hi, hc⟩ := h.c1
  exact ⟨h.r, h.l, h.b, h.x, h.lt, h.c0, ⟨i, Nat.le_trans hi hm, hc⟩, h.c2, h.f1, h.f2⟩
theorem grown_any {W W' : World} {b : Nat} (h : Ext W W') : W.grownBy W' (some b) := ⟨h.os, h.tape, h.output, h.size, fun j hj _ => h.block j hj⟩
theorem and_255 (a : Int) : ∃ x : Nat, x < 256 ∧ bits .and .u64 a 255 = (x : Int) := by
  refine ⟨(BitVec.ofInt 64 a &&& BitVec.ofInt 64 255).toNat, ?_, ?_⟩
  · have h : (BitVec.ofInt 64 a &&& BitVec.ofInt 64 255).toNat ≤ 255 := by
      rw [BitVec.toNat_and]; exact Nat.and_le_right
    omega
  · have h : (BitVec.ofInt 64 a &&& BitVec.ofInt 64 255).toNat ≤ 255 := by
      rw [BitVec.toNat_and]; exact Nat.and_le_right
    show IntKind.u64.wrap ((BitVec.ofInt 64 a &&& BitVec.ofInt 64 255).toNat : Int) = _
    have e : ∀ n : Nat, n ≤ 255 → IntKind.u64.wrap (n : Int) = (n : Int) := fun n hn => by
      have e : IntKind.u64.wrap (n : Int) = (n : Int) % 18446744073709551616 := by simp [IntKind.wrap, IntKind.bits, IntKind.signed]
      rw [e]; omega
    exact e _ h

set_option maxRecDepth 100000 in
set_option maxHeartbeats 4000000 in
theorem next_any (w0 : World) (bs m : Nat) (v : Value) (zs : List Int) (W : World) (h : SrcW w0 bs m v zs W) (hm : m ≤ 4194304) :
    Calls Try.prog 95 #[.pointer (some ⟨bs, 0, none⟩)] W fun e W' => (∃ x : Nat, x < 256 ∧ e = .returned (.int .i64 x)) ∧ W.grownBy W' (some bs) ∧ SrcW w0 bs (m + 1) v zs W' := by
  have h' := h
  obtain ⟨r, hl, hb, hX, hlt, c0, ⟨i, hi, c1⟩, ⟨q, c2⟩, f1, f2⟩ := h
  have r' := r
  obtain ⟨⟨-, a1, k1, rfl, -, -, -, -⟩, hz⟩ := r
  have hi1 : IntKind.i64.wrap ((i : Int) + 1) = (i : Int) + 1 := IntWalk.i64_in _ (by omega)
  by_cases hlen : i < zs.length
  · obtain ⟨b1, o1, rfl, hb1, hc1⟩ := r'.at hlen
    have hc := (Below.cell hX (p := ⟨b1, o1 + i, none⟩) hb1).trans hc1
    have hb1W : b1 < W.heap.size := Nat.lt_of_lt_of_le hb1 hX.size
    obtain ⟨z0, z1⟩ := hz _ (List.getElem_mem hlen)
    obtain ⟨y, hy⟩ := Int.eq_ofNat_of_zero_le z0
    rw [hy] at hc z1
    have z1' : y < 256 := by omega
    have hyw : IntKind.i64.wrap (y : Int) = (y : Int) := IntWalk.i64_in _ (by omega)
    have hil : (i : Int) < (zs.length : Int) := by omega
    have hle : (i : Int) + 1 ≤ (zs.length : Int) := by omega
    clear hy hz z0 hc1
    go_enter Try.func95, Try.ntmps95
    go_wp2_with fail
    refine wp_region_rel 10 (fun _ _ => True) (fun _ _ _ => True) (by kernel_rfl) (by kernel_rfl) (by kernel_rfl) ?_
    dsimp only [List.take, List.drop, List.length]
    refine LX_det (.pointer (some ⟨bs, 0, none⟩)) (by kernel_rfl) rfl (fun w' hx _ => ?_) ?_
    · go_simp
    refine LX_det (.pointer (some ⟨bs, 0, none⟩)) (by kernel_rfl) rfl (fun w' hx _ => ?_) ?_
    · go_simp
    refine LX_det (.pointer (some ⟨bs, 1, none⟩)) (by kernel_rfl) rfl (fun w' hx _ => ?_) ?_
    · go_simp
    refine LX_det (.int .i64 i) (by kernel_rfl) rfl (fun w' hx _ => ?_) ?_
    · have m0 := (Below.cell hx (p := ⟨bs, 1, none⟩) hlt).trans c1
      go_simp
    refine LX_det (.pointer (some ⟨bs, 0, none⟩)) (by kernel_rfl) rfl (fun w' hx _ => ?_) ?_
    · go_simp
    refine LX_det (.pointer (some ⟨bs, 0, none⟩)) (by kernel_rfl) rfl (fun w' hx _ => ?_) ?_
    · go_simp
    refine LX_det (.pointer (some ⟨bs, 0, none⟩)) (by kernel_rfl) rfl (fun w' hx _ => ?_) ?_
    · go_simp
    refine LX_det (.slice (some ⟨b1, o1, none⟩) zs.length k1) (by kernel_rfl) rfl (fun w' hx _ => ?_) ?_
    · have m0 := (Below.cell hx (p := ⟨bs, 0, none⟩) hlt).trans c0
      go_simp
    refine LX_det (.int .i64 zs.length) (by kernel_rfl) rfl (fun w' hx _ => ?_) ?_
    · go_simp
    refine LX_det (.bool true) (by kernel_rfl) rfl (fun w' hx _ => ?_) ?_
    · go_simp
    refine LX_nil fun w1 hx1 _ => ?_
    simp only [Act.put, List.setIfInBounds_toArray, List.set_cons_succ, List.set_cons_zero]
    have h1 := h'.ext hx1
    have d0 := (Below.cell hx1 (p := ⟨bs, 0, none⟩) hlt).trans c0
    have d1 := (Below.cell hx1 (p := ⟨bs, 1, none⟩) hlt).trans c1
    have dc := (Below.cell hx1 (p := ⟨b1, o1 + i, none⟩) hb1W).trans hc
    have hlt1 := h1.lt
    have hb1W1 : b1 < w1.heap.size := Nat.lt_of_lt_of_le hb1W hx1.size
    go_wp2_with fail
    refine wp_region_rel 11 (fun _ _ => True) (fun _ _ _ => True) (by kernel_rfl) (by kernel_rfl) (by kernel_rfl) ?_
    dsimp only [List.take, List.drop, List.length]
    refine LX_det (.pointer (some ⟨bs, 0, none⟩)) (by kernel_rfl) rfl (fun w' hx _ => ?_) ?_
    · go_simp
    refine LX_det (.pointer (some ⟨bs, 0, none⟩)) (by kernel_rfl) rfl (fun w' hx _ => ?_) ?_
    · go_simp
    refine LX_det (.pointer (some ⟨bs, 0, none⟩)) (by kernel_rfl) rfl (fun w' hx _ => ?_) ?_
    · go_simp
    refine LX_det (.slice (some ⟨b1, o1, none⟩) zs.length k1) (by kernel_rfl) rfl (fun w' hx _ => ?_) ?_
    · have m0 := (Below.cell hx (p := ⟨bs, 0, none⟩) hlt1).trans d0
      go_simp
    refine LX_det (.pointer (some ⟨bs, 0, none⟩)) (by kernel_rfl) rfl (fun w' hx _ => ?_) ?_
    · go_simp
    refine LX_det (.pointer (some ⟨bs, 0, none⟩)) (by kernel_rfl) rfl (fun w' hx _ => ?_) ?_
    · go_simp
    refine LX_det (.pointer (some ⟨bs, 1, none⟩)) (by kernel_rfl) rfl (fun w' hx _ => ?_) ?_
    · go_simp
    refine LX_det (.int .i64 i) (by kernel_rfl) rfl (fun w' hx _ => ?_) ?_
    · have m0 := (Below.cell hx (p := ⟨bs, 1, none⟩) hlt1).trans d1
      go_simp
    refine LX_det (.pointer (some ⟨b1, o1 + i, none⟩)) (by kernel_rfl) rfl (fun w' hx _ => ?_) ?_
    · go_simp
    refine LX_det (.int .u8 y) (by kernel_rfl) rfl (fun w' hx _ => ?_) ?_
    · have m0 := (Below.cell hx (p := ⟨b1, o1 + i, none⟩) hb1W1).trans dc
      go_simp
    refine LX_det (.int .i64 y) (by kernel_rfl) rfl (fun w' hx _ => ?_) ?_
    · go_simp
    refine LX_nil fun w2 hx2 _ => ?_
    simp only [Act.put, List.setIfInBounds_toArray, List.set_cons_succ, List.set_cons_zero]
    have h2 := h1.ext hx2
    have d20 := (Below.cell hx2 (p := ⟨bs, 0, none⟩) hlt1).trans d0
    have d21 := (Below.cell hx2 (p := ⟨bs, 1, none⟩) hlt1).trans d1
    obtain ⟨q2, d22⟩ := h2.c2
    have hf21 := h2.f1
    have hf22 := h2.f2
    have XX : Ext W w2 := hx1.trans hx2
    clear hx1 hx2 c0 c1 c2 d0 d1 dc hc f1 f2
    go_wp2_with fail
    generalize hW3 : World.setCell (World.setCell w2 ⟨bs, 1, none⟩ (.int .i64 ((i : Int) + 1))) ⟨bs, 2, none⟩ _ = W3
    have G3 : W.grownBy W3 (some bs) := by
      rw [← hW3]
      exact (grown_any XX).trans ((grownBy_setCell _ bs 1 _).trans (grownBy_setCell _ bs 2 _))
    have e0 : W3.cell? ⟨bs, 0, none⟩ = some (.slice (some ⟨b1, o1, none⟩) zs.length k1) := by
      rw [← hW3, World.cell?_setCell_other _ _ _ _ (by simp), World.cell?_setCell_other _ _ _ _ (by simp)]
      exact d20
    have e1 : W3.cell? ⟨bs, 1, none⟩ = some (.int .i64 ((i : Int) + 1)) := by
      rw [← hW3, World.cell?_setCell_other _ _ _ _ (by simp)]
      exact World.cell?_setCell_same' _ _ _ (by rw [d21]; rfl)
    have e2 : ∃ q : Int, W3.cell? ⟨bs, 2, none⟩ = some (.int .u64 q) := by
      rw [← hW3]
      exact ⟨_, World.cell?_setCell_same' _ _ _ (by rw [World.cell?_setCell_other _ _ _ _ (by simp), d22]; rfl)⟩
    have g1 : W3.frozen? ⟨bs, 1, none⟩ = false := by rw [← hW3, World.frozen?_setCell, World.frozen?_setCell]; exact h2.f1
    have g2 : W3.frozen? ⟨bs, 2, none⟩ = false := by rw [← hW3, World.frozen?_setCell, World.frozen?_setCell]; exact h2.f2
    have hlt3 : bs < W3.heap.size := Nat.lt_of_lt_of_le hlt G3.size
    have S3 : SrcW w0 bs (m + 1) (.slice (some ⟨b1, o1, none⟩) zs.length k1) zs W3 :=
      ⟨r', hl, hb, Below.grown h'.x G3 h'.x.size (fun k e => by cases e; exact hb), hlt3, e0, ⟨i + 1, by omega, e1⟩, e2, g1, g2⟩
    clear hW3
    refine wp_region_rel 10 (fun _ _ => True) (fun _ _ _ => True) (by kernel_rfl) (by kernel_rfl) (by kernel_rfl) ?_
    dsimp only [List.take, List.drop, List.length]
    refine LX_det (.pointer (some ⟨bs, 0, none⟩)) (by kernel_rfl) rfl (fun w' hx _ => ?_) ?_
    · go_simp
    refine LX_det (.pointer (some ⟨bs, 0, none⟩)) (by kernel_rfl) rfl (fun w' hx _ => ?_) ?_
    · go_simp
    refine LX_det (.pointer (some ⟨bs, 1, none⟩)) (by kernel_rfl) rfl (fun w' hx _ => ?_) ?_
    · go_simp
    refine LX_det (.int .i64 ((i : Int) + 1)) (by kernel_rfl) rfl (fun w' hx _ => ?_) ?_
    · have m0 := (Below.cell hx (p := ⟨bs, 1, none⟩) hlt3).trans e1
      go_simp
    refine LX_det (.pointer (some ⟨bs, 0, none⟩)) (by kernel_rfl) rfl (fun w' hx _ => ?_) ?_
    · go_simp
    refine LX_det (.pointer (some ⟨bs, 0, none⟩)) (by kernel_rfl) rfl (fun w' hx _ => ?_) ?_
    · go_simp
    refine LX_det (.pointer (some ⟨bs, 0, none⟩)) (by kernel_rfl) rfl (fun w' hx _ => ?_) ?_
    · go_simp
    refine LX_det (.slice (some ⟨b1, o1, none⟩) zs.length k1) (by kernel_rfl) rfl (fun w' hx _ => ?_) ?_
    · have m0 := (Below.cell hx (p := ⟨bs, 0, none⟩) hlt3).trans e0
      go_simp
    refine LX_det (.int .i64 zs.length) (by kernel_rfl) rfl (fun w' hx _ => ?_) ?_
    · go_simp
    refine LX_det (.bool true) (by kernel_rfl) rfl (fun w' hx _ => ?_) ?_
    · go_simp
    refine LX_nil fun w4 hx4 _ => ?_
    simp only [Act.put, List.setIfInBounds_toArray, List.set_cons_succ, List.set_cons_zero]
    have S4 := S3.ext hx4
    have G4 := G3.trans (grown_any hx4)
    go_wp2_with fail
    go_ret
    exact ⟨⟨y, z1' , rfl⟩, G4, S4⟩
  · have hil : ¬ (i : Int) < (zs.length : Int) := by omega
    have hle : ¬ (i : Int) + 1 ≤ (zs.length : Int) := by omega
    clear hz
    go_enter Try.func95, Try.ntmps95
    go_wp2_with fail
    refine wp_region_rel 10 (fun _ _ => True) (fun _ _ _ => True) (by kernel_rfl) (by kernel_rfl) (by kernel_rfl) ?_
    dsimp only [List.take, List.drop, List.length]
    refine LX_det (.pointer (some ⟨bs, 0, none⟩)) (by kernel_rfl) rfl (fun w' hx _ => ?_) ?_
    · go_simp
    refine LX_det (.pointer (some ⟨bs, 0, none⟩)) (by kernel_rfl) rfl (fun w' hx _ => ?_) ?_
    · go_simp
    refine LX_det (.pointer (some ⟨bs, 1, none⟩)) (by kernel_rfl) rfl (fun w' hx _ => ?_) ?_
    · go_simp
    refine LX_det (.int .i64 i) (by kernel_rfl) rfl (fun w' hx _ => ?_) ?_
    · have m0 := (Below.cell hx (p := ⟨bs, 1, none⟩) hlt).trans c1
      go_simp
    refine LX_det (.pointer (some ⟨bs, 0, none⟩)) (by kernel_rfl) rfl (fun w' hx _ => ?_) ?_
    · go_simp
    refine LX_det (.pointer (some ⟨bs, 0, none⟩)) (by kernel_rfl) rfl (fun w' hx _ => ?_) ?_
    · go_simp
    refine LX_det (.pointer (some ⟨bs, 0, none⟩)) (by kernel_rfl) rfl (fun w' hx _ => ?_) ?_
    · go_simp
    refine LX_det (.slice a1 zs.length k1) (by kernel_rfl) rfl (fun w' hx _ => ?_) ?_
    · have m0 := (Below.cell hx (p := ⟨bs, 0, none⟩) hlt).trans c0
      go_simp
    refine LX_det (.int .i64 zs.length) (by kernel_rfl) rfl (fun w' hx _ => ?_) ?_
    · go_simp
    refine LX_det (.bool false) (by kernel_rfl) rfl (fun w' hx _ => ?_) ?_
    · go_simp
    refine LX_nil fun w1 hx1 _ => ?_
    simp only [Act.put, List.setIfInBounds_toArray, List.set_cons_succ, List.set_cons_zero]
    have h2 := h'.ext hx1
    have d20 := (Below.cell hx1 (p := ⟨bs, 0, none⟩) hlt).trans c0
    have d21 := (Below.cell hx1 (p := ⟨bs, 1, none⟩) hlt).trans c1
    obtain ⟨q2, d22⟩ := h2.c2
    have hf21 := h2.f1
    have hf22 := h2.f2
    clear c0 c1 c2 f1 f2
    go_wp2_with fail
    generalize hW3 : World.setCell (World.setCell w1 ⟨bs, 1, none⟩ (.int .i64 ((i : Int) + 1))) ⟨bs, 2, none⟩ _ = W3
    have G3 : W.grownBy W3 (some bs) := by
      rw [← hW3]
      exact (grown_any hx1).trans ((grownBy_setCell _ bs 1 _).trans (grownBy_setCell _ bs 2 _))
    have e0 : W3.cell? ⟨bs, 0, none⟩ = some (.slice a1 zs.length k1) := by
      rw [← hW3, World.cell?_setCell_other _ _ _ _ (by simp), World.cell?_setCell_other _ _ _ _ (by simp)]
      exact d20
    have e1 : W3.cell? ⟨bs, 1, none⟩ = some (.int .i64 ((i : Int) + 1)) := by
      rw [← hW3, World.cell?_setCell_other _ _ _ _ (by simp)]
      exact World.cell?_setCell_same' _ _ _ (by rw [d21]; rfl)
    have e2 : ∃ q : Int, W3.cell? ⟨bs, 2, none⟩ = some (.int .u64 q) := by
      rw [← hW3]
      exact ⟨_, World.cell?_setCell_same' _ _ _ (by rw [World.cell?_setCell_other _ _ _ _ (by simp), d22]; rfl)⟩
    have g1 : W3.frozen? ⟨bs, 1, none⟩ = false := by rw [← hW3, World.frozen?_setCell, World.frozen?_setCell]; exact h2.f1
    have g2 : W3.frozen? ⟨bs, 2, none⟩ = false := by rw [← hW3, World.frozen?_setCell, World.frozen?_setCell]; exact h2.f2
    have hlt3 : bs < W3.heap.size := Nat.lt_of_lt_of_le hlt G3.size
    have S3 : SrcW w0 bs (m + 1) (.slice a1 zs.length k1) zs W3 :=
      ⟨r', hl, hb, Below.grown h'.x G3 h'.x.size (fun k e => by cases e; exact hb), hlt3, e0, ⟨i + 1, by omega, e1⟩, e2, g1, g2⟩
    clear hW3
    refine wp_region_rel 10 (fun _ _ => True) (fun _ _ _ => True) (by kernel_rfl) (by kernel_rfl) (by kernel_rfl) ?_
    dsimp only [List.take, List.drop, List.length]
    refine LX_det (.pointer (some ⟨bs, 0, none⟩)) (by kernel_rfl) rfl (fun w' hx _ => ?_) ?_
    · go_simp
    refine LX_det (.pointer (some ⟨bs, 0, none⟩)) (by kernel_rfl) rfl (fun w' hx _ => ?_) ?_
    · go_simp
    refine LX_det (.pointer (some ⟨bs, 1, none⟩)) (by kernel_rfl) rfl (fun w' hx _ => ?_) ?_
    · go_simp
    refine LX_det (.int .i64 ((i : Int) + 1)) (by kernel_rfl) rfl (fun w' hx _ => ?_) ?_
    · have m0 := (Below.cell hx (p := ⟨bs, 1, none⟩) hlt3).trans e1
      go_simp
    refine LX_det (.pointer (some ⟨bs, 0, none⟩)) (by kernel_rfl) rfl (fun w' hx _ => ?_) ?_
    · go_simp
    refine LX_det (.pointer (some ⟨bs, 0, none⟩)) (by kernel_rfl) rfl (fun w' hx _ => ?_) ?_
    · go_simp
    refine LX_det (.pointer (some ⟨bs, 0, none⟩)) (by kernel_rfl) rfl (fun w' hx _ => ?_) ?_
    · go_simp
    refine LX_det (.slice a1 zs.length k1) (by kernel_rfl) rfl (fun w' hx _ => ?_) ?_
    · have m0 := (Below.cell hx (p := ⟨bs, 0, none⟩) hlt3).trans e0
      go_simp
    refine LX_det (.int .i64 zs.length) (by kernel_rfl) rfl (fun w' hx _ => ?_) ?_
    · go_simp
    refine LX_det (.bool false) (by kernel_rfl) rfl (fun w' hx _ => ?_) ?_
    · go_simp
    refine LX_nil fun w4 hx4 _ => ?_
    simp only [Act.put, List.setIfInBounds_toArray, List.set_cons_succ, List.set_cons_zero]
    have S4 := S3.ext hx4
    have G4 := G3.trans (grown_any hx4)
    obtain ⟨q4, e4⟩ := S4.c2
    obtain ⟨x, hx256, hxe⟩ := and_255 (q4 / 1099511627776)
    have hxw : IntKind.i64.wrap (x : Int) = (x : Int) := IntWalk.i64_in _ (by omega)
    go_wp2_with fail
    go_ret
    exact ⟨⟨x, hx256, rfl⟩, G4, S4⟩

theorem SrcW.below {w0 W W' : World} {bs m B : Nat} {v : Value} {zs : List Int} (h : SrcW w0 bs m v zs W) (hx : Below B W W') (hB : bs < B) : SrcW w0 bs m v zs W' := by
  obtain ⟨i, hi, hc⟩ := h.c1
  obtain ⟨q, hq⟩ := h.c2
  have hb := h.b
  exact ⟨h.r, h.l, h.b, Below.trans h.x (Below.mono hx (by omega)), Nat.lt_of_lt_of_le h.lt hx.size, (Below.cell hx (p := ⟨bs, 0, none⟩) hB).trans h.c0, ⟨i, hi, (Below.cell hx (p := ⟨bs, 1, none⟩) hB).trans hc⟩, ⟨q, (Below.cell hx (p := ⟨bs, 2, none⟩) hB).trans hq⟩,
    (Below.frozen hx (p := ⟨bs, 1, none⟩) hB).trans h.f1, (Below.frozen hx (p := ⟨bs, 2, none⟩) hB).trans h.f2⟩
set_option maxHeartbeats 1000000 in
theorem pick_any (w0 : World) (bs m n : Nat) (v : Value) (zs : List Int) (W : World) (h : SrcW w0 bs m v zs W) (hm : m ≤ 4194304) (hn : 1 ≤ n) (hn2 : n ≤ 200) :
    Calls Try.prog 41 #[.pointer (some ⟨bs, 0, none⟩), .int .i64 n] W fun e W' => (∃ x : Nat, x < n ∧ e = .returned (.int .i64 x)) ∧ W.grownBy W' (some bs) ∧ SrcW w0 bs (m + 1) v zs W' := by
  have H := Lib.hid h
  clear h
  by_cases h1 : n = 1
  · subst h1
    go_enter Try.func41, Try.ntmps41
    go_wp2_with fail
    go_ret
    exact ⟨⟨0, by decide, rfl⟩, grownBy_refl _ _, H.out.mono (Nat.le_succ _)⟩
  · have h2 : ¬ (n : Int) ≤ 1 := by omega
    have h3 : ¬ 200 < (n : Int) := by omega
    go_enter Try.func41, Try.ntmps41
    go_wp2_with fail
    refine (next_any w0 bs m v zs W H.out hm).mono ?_
    rintro e w1 ⟨⟨x, hx, rfl⟩, G, S⟩
    have hmi : (x : Int).tmod (n : Int) = ((x % n : Nat) : Int) := by rw [Int.tmod_eq_emod_of_nonneg (by omega)]; rfl
    have hlt : x % n < n := Nat.mod_lt _ (by omega)
    generalize x % n = y at *
    go_wp2_with fail
    go_ret
    exact ⟨⟨y, hlt, rfl⟩, G, S⟩

set_option maxHeartbeats 4000000 in
theorem drawSets_any (w0 : World) (bs m P : Nat) (v : Value) (zs : List Int) (W : World) (h : SrcW w0 bs m v zs W) (hm : m ≤ 1048576) (hP : 1 ≤ P) (hP5 : P ≤ 5) :
    Calls Try.prog 94 #[.pointer (some ⟨bs, 0, none⟩), .int .i64 P] W fun e W' => ∃ (g cap : Nat) (ns : List Nat), e = .returned (.slice (some ⟨g, 0, none⟩) ns.length cap) ∧ Ext w0 W' ∧ OwnS W.heap.size W' g cap ns ∧
      (1 ≤ ns.length ∧ ns.length ≤ 5) ∧ (∀ n ∈ ns, 1 ≤ n ∧ n < 2 ^ P) ∧ (∀ b, b < W.heap.size → b ≠ bs → W'.heap[b]? = W.heap[b]?) ∧ W.heap.size ≤ W'.heap.size := by
  obtain ⟨q1, q2, q3, q4⟩ := pow10N (p := P) (by omega)
  have h25 : 2 ^ P ≤ 2 ^ 5 := Nat.pow_le_pow_right (by decide) hP5
  have h21 : 2 ^ 1 ≤ 2 ^ P := Nat.pow_le_pow_right (by decide) hP
  obtain ⟨N, hN⟩ : ∃ N, N + 1 = 2 ^ P := ⟨2 ^ P - 1, by omega⟩
  have hNi : (2 : Int) ^ P - 1 = (N : Int) := by rw [q3]; omega
  have hw1 : IntKind.i64.wrap ((2 : Int) ^ P) = (2 : Int) ^ P := IntWalk.i64_in _ (by omega)
  have hw2 : IntKind.i64.wrap ((2 : Int) ^ P - 1) = (N : Int) := by rw [hNi]; exact wrap_nat _ (by omega)
  have hP63 : (P : Int) < 64 := by omega
  have hN31 : N ≤ 31 := by omega
  have hN1 : 1 ≤ N := by omega
  have HN := Lib.hid hN
  have HS := Lib.hid (h.ext (Ext.alloc W (.cells #[] 2)))
  have hlt := h.lt
  have HPK := Lib.hid (fun m W n (S : SrcW w0 bs m v zs W) (hm : m ≤ 4194304) (h1 : 1 ≤ n) (h2 : n ≤ 200) => pick_any w0 bs m n v zs W S hm h1 h2)
  clear h hN q3 q4 h25 h21
  go_enter Try.func94, Try.ntmps94
  go_wp2_with fail
  refine (HPK.out m _ 5 HS.out (by omega) (by decide) (by decide)).mono ?_
  rintro e w1 ⟨⟨k, hk, rfl⟩, G, S⟩
  have own0 : OwnS W.heap.size w1 W.heap.size 0 [] := World.ownsRow.kept (World.ownsRow_lit W #[] 0 (Nat.le_refl _) (by decide) rfl) G (.inr fun e => by simp [Value.ownBlock] at e; omega)
  have hsz : W.heap.size ≤ w1.heap.size := by have := G.size; simp at this; omega
  have hko : Hid (∀ b, b < W.heap.size → b ≠ bs → w1.heap[b]? = W.heap[b]?) := fun b h1 h2 => (G.block b (by simp; omega) (fun e => h2 (Option.some.inj e))).trans ((Ext.alloc W (.cells #[] 2)).block b h1)
  have hkw : IntKind.i64.wrap (1 + (k : Int)) = 1 + (k : Int) := IntWalk.i64_in _ (by omega)
  clear HS G
  go_wp2_with fail
  go_loopw [6, 5] (fun c o wr => ∃ (j g cap : Nat) (xs : List Nat), c = .int .i64 j ∧ o = .slice (some ⟨g, 0, none⟩) xs.length cap ∧ j + xs.length = 1 + k ∧ Hid (∀ n ∈ xs, 1 ≤ n ∧ n < 2 ^ P) ∧
      OwnS W.heap.size wr g cap xs ∧ SrcW w0 bs (m + 1 + xs.length) v zs wr ∧ W.heap.size ≤ wr.heap.size ∧ Hid (∀ b, b < W.heap.size → b ≠ bs → wr.heap[b]? = W.heap[b]?)) (fun c _ _ => (intOf c).toNat)
  case atStart => exact ⟨1 + k, W.heap.size, 0, [], by go_num, rfl, by simp, (fun n hn => by cases hn), own0, S, hsz, hko⟩
  case round =>
    clear S own0 hsz hko
    obtain ⟨j, g, cap, xs, rfl, rfl, hjx, HX, own, S, hsz, hko⟩ := hrel
    by_cases hj : 0 < j
    · have hji : (0 : Int) < (j : Int) := by omega
      have hjw : IntKind.i64.wrap ((j : Int) - 1) = (j : Int) - 1 := IntWalk.i64_in _ (by omega)
      go_wp2_with fail
      refine (HPK.out _ _ N S (by omega) hN1 (by omega)).mono ?_
      rintro e w2 ⟨⟨x, hx, rfl⟩, G, S2⟩
      have own2 : OwnS W.heap.size w2 g cap xs := World.ownsRow.kept own G (.inr fun e => by
        have := (own.lt g rfl).1
        simp [Value.ownBlock] at e; omega)
      have hsz2 := Nat.le_trans hsz G.size
      have hko2 : Hid (∀ b, b < W.heap.size → b ≠ bs → w2.heap[b]? = W.heap[b]?) := fun b h1 h2 => (G.block b (by omega) (fun e => h2 (Option.some.inj e))).trans (hko.out b h1 h2)
      have hxw : IntKind.i64.wrap (1 + (x : Int)) = ((x + 1 : Nat) : Int) := by rw [show 1 + (x : Int) = ((x + 1 : Nat) : Int) by omega]; exact wrap_nat _ (by omega)
      obtain ⟨y, hy⟩ : ∃ y, y = x + 1 := ⟨_, rfl⟩
      rw [← hy] at hxw
      have HY : Hid (1 ≤ y ∧ y < 2 ^ P) := by show _ ∧ _; have := HN.out; omega
      clear own S hsz hy hx G hko
      go_wp2_with (at_builtin; refine wpList_push infoI64 rfl Try.underlying25 rfl rfl rfl (World.ownsRow.alloc (w := _) own2 _) rfl (Bx.new _ [_] _).one rfl (by omega) (by decide) (Nat.le_trans hsz2 (Ext.alloc _ _).size) ?_; intro g2 cap2 w4 hg2 own4 bel4 sz4)
      go_roundw
      case rel =>
        have BB := bel4 w2 (Below.mono (Ext.alloc w2 _) hsz2)
        refine ⟨j - 1, g2, cap2, xs ++ [y], by go_num, by simp, by simp; omega, ?_, by unfold OwnS; rw [ups_append, List.map_append, List.length_append]; exact own4, ?_, Nat.le_trans hsz2 BB.size, fun b h1 h2 => (BB.block b h1).trans (hko2.out b h1 h2)⟩
        · intro n hn
          rcases List.mem_append.1 hn with hn | hn
          · exact HX.out n hn
          · simp only [List.mem_singleton] at hn
            subst hn; exact HY.out
        · rw [List.length_append]
          exact (S2.below BB hlt)
      case measure => simp [intOf]; omega
    · obtain rfl : j = 0 := by omega
      go_wp2_with fail
      go_ret
      exact ⟨g, cap, xs, rfl, S.x, own, ⟨by omega, by omega⟩, HX.out, hko.out, hsz⟩

/-- The least of sets that are drawn make a valid system. -/
theorem draw_sys {P : Nat} {ns : List Nat} (hP : 1 ≤ P) (hP5 : P ≤ 5) (hl : 1 ≤ ns.length) (hm : ∀ n ∈ ns, 1 ≤ n ∧ n < 2 ^ P) : sysB (P : Int) (ups (leastS ns)) = true := by
  have h25 : 2 ^ P ≤ 2 ^ 5 := Nat.pow_le_pow_right (by decide) hP5
  have h5 : (2 : Nat) ^ 5 = 32 := by decide
  have hb : ∀ z ∈ ns, z < 1048577 := fun z hz => by have := hm z hz; omega
  have e : minL (setsOf 1048577 ns) = leastS ns := least_same hb fun z hz => by have := hm z hz; omega
  have hmem : ∀ z ∈ leastS ns, z ∈ ns := fun z hz => by rw [← e, mem_minL] at hz; exact (mem_setsOf hb).1 hz.1
  have hasc : (leastS ns).Pairwise (· < ·) := asc_filter (asc_range _)
  have hanti : anti (leastS ns) = true := by rw [← e]; exact minL_anti _
  have hpos : 1 ≤ (leastS ns).length := by
    obtain ⟨a, ha⟩ : ∃ a, a ∈ ns := by
      cases ns with
      | nil => simp at hl
      | cons a l => exact ⟨a, by simp⟩
    obtain ⟨q, hq, -⟩ := minL_below ((mem_setsOf hb).2 ha)
    rw [e] at hq
    exact List.length_pos_of_mem hq
  have hle : (leastS ns).length ≤ 32 := by
    have h1 : (leastS ns) = (List.range 32).filter fun s => (leastS ns).contains s := asc_ext hasc (asc_filter (asc_range _)) fun x => by
      rw [List.mem_filter, List.mem_range, List.contains_iff_mem]
      exact ⟨fun h => ⟨by have := hm x (hmem x h); omega, h⟩, fun h => h.2⟩
    rw [h1]
    exact Nat.le_trans (List.length_filter_le _ _) (by rw [List.length_range]; exact Nat.le_refl _)
  have q3 : (2 : Int) ^ (P : Int).toNat = ((2 ^ P : Nat) : Int) := by rw [Int.toNat_natCast]; exact_mod_cast rfl
  unfold sysB goodI manyB
  rw [downs_ups, asc_iff.2 hasc, hanti, ups_len]
  rw [inB_iff.2 (by omega), inB_iff.2 (by omega)]
  rw [Bool.and_true, Bool.and_true, Bool.true_and, Bool.true_and, List.all_eq_true]
  intro z hz
  obtain ⟨n, hn, rfl⟩ := mem_ups.1 hz
  have := hm n (hmem n hn)
  rw [inB_iff, q3]
  omega

set_option maxHeartbeats 4000000 in
theorem drawOk_any (w0 : World) (bs m P : Nat) (v : Value) (zs : List Int) (W : World) (h : SrcW w0 bs m v zs W) (hm : m ≤ 1048576) (hP : 1 ≤ P) (hP5 : P ≤ 5) :
    Calls Try.prog 40 #[.pointer (some ⟨bs, 0, none⟩), .int .i64 P] W fun e W' => ∃ (g cap : Nat) (ns : List Nat), e = .returned (.agg #[.int .i64 P, .slice (some ⟨g, 0, none⟩) ns.length cap]) ∧ Ext w0 W' ∧ OwnS w0.heap.size W' g cap ns ∧ sysB P (ups ns) = true := by
  have b2 : Bz (W.alloc (.cells #[.int .i64 0, .slice none 0 0] 27)) W.heap.size 27 [.int .i64 0, .slice none 0 0] := Bz.new _ _ _
  have HD := Lib.hid (drawSets_any w0 bs m P v zs _ (h.ext (Ext.alloc W (.cells #[.int .i64 0, .slice none 0 0] 27))) hm hP hP5)
  have hw0 := h.x.size
  have hws : (W.alloc (.cells #[.int .i64 0, .slice none 0 0] 27)).heap.size = W.heap.size + 1 := by simp
  have hbs := h.lt
  clear h
  go_enter Try.func40, Try.ntmps40
  go_wp2_with fail
  refine HD.out.mono ?_
  rintro e w1 ⟨g, cap, ns, rfl, X, own, ⟨hl1, hl5⟩, hmem, hko, hsz⟩
  have b3 : Bz w1 W.heap.size 27 [.int .i64 0, .slice none 0 0] := (hko W.heap.size (by omega) (by omega)).trans b2
  have hsys := draw_sys hP hP5 hl1 hmem
  have HMEM := Lib.hid hmem
  have h25 : 2 ^ P ≤ 2 ^ 5 := Nat.pow_le_pow_right (by decide) hP5
  clear hko hmem HD b2
  go_wp2_with fail
  refine (l03Least_any _ ns w1 own.rd (by omega) (fun n hn => by have := HMEM.out n hn; omega)).mono ?_
  rintro e w2 ⟨g2, cap2, rfl, hx, own2⟩
  replace X := X.trans hx
  replace b3 := b3.ext hx
  have hz2 : W.heap.size < w2.heap.size := b3.lt
  have hg2 := (own2.lt g2 rfl).1
  generalize leastS ns = ls at *
  obtain ⟨k0, k1⟩ := b3.bx.two
  have z2 := b3.lt
  have f0 := b3.frozen (j := 0)
  have f1 := b3.frozen (j := 1)
  clear own hx b3 HMEM h25
  go_wp2_with fail
  refine bodyPost_ret (v := .agg #[.int .i64 P, .slice (some ⟨g2, 0, none⟩) ls.length cap2]) (by simp [results, Try.results40, go_sem, k0, k1, f0, f1]) rfl ?_
  refine ⟨g2, cap2, ls, rfl, (X.setCell hw0 _).setCell hw0 _, ?_, hsys⟩
  exact World.ownsRow.mono (ownsRow_setCell_other (ownsRow_setCell_other own2 (by simp [Value.ownBlock]; omega) _) (by simp [Value.ownBlock]; omega) _) (by omega)
theorem l00From_any (a : Option Addr) (n c : Nat) (w : World) :
    Calls Try.prog 39 #[.slice a n c] w fun e w' => e = .returned (.pointer (some ⟨w.heap.size, 0, none⟩)) ∧ w' = w.alloc (.cells #[.slice a n c, .int .i64 0, .int .u64 0] 106) := by
  go_enter Try.func39, Try.ntmps39
  go_wp2_with fail
  go_ret
  exact ⟨rfl, rfl⟩
set_option maxRecDepth 100000 in
set_option maxHeartbeats 4000000 in
theorem b10System_any (P : Nat) (v : Value) (zs : List Int) (w : World) (r : RdY w v zs) (hl : zs.length ≤ 1048576) (hP : 1 ≤ P) (hP5 : P ≤ 5) :
    Calls Try.prog 8 #[v, .int .i64 P] w fun e w' => ∃ (g cap : Nat) (ns : List Nat), e = .returned (.agg #[.int .i64 P, .slice (some ⟨g, 0, none⟩) ns.length cap]) ∧ Ext w w' ∧ OwnS w.heap.size w' g cap ns ∧ sysB P (ups ns) = true := by
  have r' := r
  obtain ⟨⟨-, a1, c1, rfl, -, -, -, -⟩, -⟩ := r
  generalize hW0 : w.alloc (.cells #[.int .i64 0, .slice none 0 0] 27) = w0
  have X0 : Ext w w0 := hW0 ▸ Ext.alloc _ _
  have b2 : Bz w0 w.heap.size 27 [.int .i64 0, .slice none 0 0] := by rw [← hW0]; exact Bz.new _ _ _
  have hw0s : w0.heap.size = w.heap.size + 1 := by rw [← hW0]; simp
  have bz : Bz (w0.alloc (.cells #[.slice a1 zs.length c1, .int .i64 0, .int .u64 0] 106)) w0.heap.size 106 [.slice a1 zs.length c1, .int .i64 0, .int .u64 0] := Bz.new _ _ _
  have S : SrcW w0 w0.heap.size 0 (.slice a1 zs.length c1) zs (w0.alloc (.cells #[.slice a1 zs.length c1, .int .i64 0, .int .u64 0] 106)) :=
    ⟨r'.ext X0, hl, Nat.le_refl _, Ext.alloc _ _, by simp, bz.bx.2 0 (by simp), ⟨0, Nat.le_refl _, bz.bx.2 1 (by simp)⟩, ⟨0, bz.bx.2 2 (by simp)⟩, bz.frozen, bz.frozen⟩
  have HD := Lib.hid (drawOk_any w0 w0.heap.size 0 P _ zs _ S (by omega) hP hP5)
  have hlt0 : w.heap.size < w0.heap.size := by omega
  clear hw0s
  go_enter Try.func8, Try.ntmps8
  go_wp2_with fail
  try rw [hW0]
  clear hW0
  refine (l00From_any _ _ _ _).mono ?_
  rintro e w1 ⟨rfl, rfl⟩
  go_wp2_with fail
  refine HD.out.mono ?_
  rintro e w2 ⟨g, cap, ns, rfl, X, own, hsys⟩
  replace b2 := b2.ext X
  have XX := X0.trans X
  have hz2 : w.heap.size < w2.heap.size := b2.lt
  have hg2 := (own.lt g rfl).1
  obtain ⟨k0, k1⟩ := b2.bx.two
  have z2 := b2.lt
  have f0 := b2.frozen (j := 0)
  have f1 := b2.frozen (j := 1)
  clear b2 bz S HD X X0
  go_wp2_with fail
  refine bodyPost_ret (v := .agg #[.int .i64 P, .slice (some ⟨g, 0, none⟩) ns.length cap]) (by simp [results, Try.results8, go_sem, k0, k1, f0, f1]) rfl ?_
  refine ⟨g, cap, ns, rfl, (XX.setCell (Nat.le_refl _) _).setCell (Nat.le_refl _) _, ?_, hsys⟩
  exact World.ownsRow.mono (ownsRow_setCell_other (ownsRow_setCell_other own (by simp [Value.ownBlock]; omega) _) (by simp [Value.ownBlock]; omega) _) (Nat.le_of_lt hlt0)

set_option maxHeartbeats 1000000 in
theorem b10Ints_any (v1 v2 : Value) (xs ys : List Int) (w : World) (r1 : RdI w v1 xs) (r2 : RdI w v2 ys) :
    Calls Try.prog 29 #[v1, v2] w fun e w' => e = .returned (.bool (decide (xs = ys))) ∧ Ext w w' := by
  have r1' := r1
  have r2' := r2
  obtain ⟨-, a1, c1, rfl, p1, p2, -, -⟩ := r1
  obtain ⟨-, a2, c2, rfl, q1, q2, -, -⟩ := r2
  have hx : xs.length ≤ maxLen := by omega
  have hy : ys.length ≤ maxLen := by omega
  unfold maxLen at hx hy
  clear p1 p2 q1 q2
  by_cases hl : xs.length = ys.length
  · have HL := Lib.hid hl
    have hli : (xs.length : Int) = (ys.length : Int) := by omega
    go_enter Try.func29, Try.ntmps29
    go_wp2_with fail
    clear hl hli
    go_loopw [13] (fun i wr => ∃ k : Nat, k ≤ xs.length ∧ i = .int .i64 k ∧ Hid (∀ j (h : j < xs.length) (h2 : j < ys.length), j < k → xs[j] = ys[j]) ∧ Ext w wr) (fun i _ => xs.length - (intOf i).toNat)
    case atStart => exact ⟨0, Nat.zero_le _, rfl, fun j _ _ h => absurd h (Nat.not_lt_zero _), Ext.refl _⟩
    case round =>
      obtain ⟨k, hk, rfl, HE, X⟩ := hrel
      by_cases hlt : k < xs.length
      · have hlt2 : k < ys.length := by rw [← HL.out]; exact hlt
        obtain ⟨b1, o1, e1, hb1, hc1⟩ := (r1'.ext X).at hlt
        obtain ⟨b2, o2, e2, hb2, hc2⟩ := (r2'.ext X).at hlt2
        subst e1
        subst e2
        have hki : (k : Int) < (xs.length : Int) := by omega
        have hki2 : (k : Int) < (ys.length : Int) := by omega
        generalize hxx : xs[k] = x at *
        generalize hyy : ys[k] = y at *
        have HXX := Lib.hid hxx
        have HYY := Lib.hid hyy
        clear hxx hyy
        generalize hcc : (x == y) = cc at *
        have hcn : (x != y) = !cc := by rw [← hcc]; rfl
        go_wp2_with fail
        refine wp_region_rel 9 (fun _ _ => True) (fun _ _ _ => True) (by kernel_rfl) (by kernel_rfl) (by kernel_rfl) ?_
        dsimp only [List.take, List.drop, List.length]
        refine LX_det (.slice (some ⟨b1, o1, none⟩) xs.length c1) (by kernel_rfl) rfl (fun w' hx _ => ?_) ?_
        · go_simp
        refine LX_det (.int .i64 k) (by kernel_rfl) rfl (fun w' hx _ => ?_) ?_
        · go_simp
        refine LX_det (.pointer (some ⟨b1, o1 + k, none⟩)) (by kernel_rfl) rfl (fun w' hx _ => ?_) ?_
        · go_simp
        refine LX_det (.int .i64 x) (by kernel_rfl) rfl (fun w' hx _ => ?_) ?_
        · have m0 := (Below.cell hx (p := ⟨b1, o1 + k, none⟩) hb1).trans hc1
          go_simp
        refine LX_det (.slice (some ⟨b2, o2, none⟩) ys.length c2) (by kernel_rfl) rfl (fun w' hx _ => ?_) ?_
        · go_simp
        refine LX_det (.int .i64 k) (by kernel_rfl) rfl (fun w' hx _ => ?_) ?_
        · go_simp
        refine LX_det (.pointer (some ⟨b2, o2 + k, none⟩)) (by kernel_rfl) rfl (fun w' hx _ => ?_) ?_
        · go_simp
        refine LX_det (.int .i64 y) (by kernel_rfl) rfl (fun w' hx _ => ?_) ?_
        · have m0 := (Below.cell hx (p := ⟨b2, o2 + k, none⟩) hb2).trans hc2
          go_simp
        refine LX_det (.bool (!cc)) (by kernel_rfl) rfl (fun w' hx _ => ?_) ?_
        · go_simp
        refine LX_nil fun w2 hx _ => ?_
        simp only [Act.put, List.setIfInBounds_toArray, List.set_cons_succ, List.set_cons_zero]
        cases cc
        · have HF : Hid (decide (xs = ys) = false) := by
            show _ = _
            rw [decide_eq_false_iff_not]
            intro e
            have e2 : x = y := by rw [← HXX.out, ← HYY.out]; simp [e]
            rw [e2] at hcc
            simp at hcc
          go_wp2_with fail
          go_ret
          exact ⟨ret_bool HF.out.symm, X.trans hx⟩
        · have hxy : x = y := by simpa using hcc
          go_wp2_with fail
          go_roundw
          case rel => exact ⟨k + 1, by omega, by go_num, (fun j h1 h2 h3 => by
            by_cases e : j = k
            · subst e; rw [HXX.out, HYY.out, hxy]
            · exact HE.out j h1 h2 (by omega)), X.trans hx⟩
          case measure => simp [intOf]; omega
      · obtain rfl : k = xs.length := by omega
        have HT : Hid (decide (xs = ys) = true) := by
          show _ = _
          rw [decide_eq_true_eq]
          exact List.ext_getElem HL.out fun j h1 h2 => HE.out j h1 h2 h1
        have hnn : ¬ (xs.length : Int) < (ys.length : Int) := by have := HL.out; omega
        have hnn2 : ¬ xs.length < ys.length := by have := HL.out; omega
        go_wp2_with fail
        go_ret
        exact ⟨ret_bool HT.out.symm, X⟩
  · have hli : ¬ (xs.length : Int) = (ys.length : Int) := by omega
    have HF : Hid (decide (xs = ys) = false) := by
      show _ = _
      rw [decide_eq_false_iff_not]
      intro e
      exact hl (by rw [e])
    go_enter Try.func29, Try.ntmps29
    go_wp2_with fail
    go_ret
    exact ⟨ret_bool HF.out.symm, Ext.refl _⟩
end Go.Proofs.Ytgmdoboeenpjpaa
