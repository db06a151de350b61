
/- Small lemmas that every proof of this seat uses: floats by their canonical bits, slices that can be read, worlds that grow. No condition. -/
import Derived.WalkKit
import Derived.WalkLawsBesides
import Derived.Deep.Draws
import Derived.Deep.Onto
import Derived.Lib.Hide
namespace Go.Proofs.Ytmcnfapdghoenaa
open Go Go.RowKit

/-- The one NaN that stands for all. -/
def nanW : FloatKind → Nat
  | .f32 => 2143289344
  | .f64 => 9221120237041090560

def isN (k : FloatKind) (b : Nat) : Bool := (k.format.read b).isNaN

/-- The canonical bits. -/
def cn (k : FloatKind) (b : Nat) : Nat := if isN k b then nanW k else b

theorem isN_nanW (k : FloatKind) : isN k (nanW k) = true := by cases k <;> decide +kernel

theorem isN_cn (k : FloatKind) (b : Nat) : isN k (cn k b) = isN k b := by
  unfold cn; split
  · rename_i h; rw [isN_nanW, h]
  · rfl

theorem cn_cn (k : FloatKind) (b : Nat) : cn k (cn k b) = cn k b := by
  unfold cn; split
  · rw [if_pos (isN_nanW k)]
  · rfl

theorem cn_of_not {k : FloatKind} {b : Nat} (h : isN k b = false) : cn k b = b := by unfold cn; rw [if_neg (by simp [h])]

theorem read_nan {k : FloatKind} {b : Nat} (h : isN k b = true) : ∃ s f, k.format.read b = .nan s f := by
  unfold isN Ieee.Datum.isNaN at h
  generalize k.format.read b = d at h
  cases d <;> simp_all

theorem order_cn (k : FloatKind) (x y : Nat) : k.format.order (cn k x) (cn k y) = k.format.order x y := by
  unfold Ieee.Format.order
  by_cases hx : isN k x = true
  · obtain ⟨s, f, e⟩ := read_nan hx
    obtain ⟨s', f', e'⟩ := read_nan (k := k) (b := cn k x) (by rw [isN_cn, hx])
    rw [e, e']; simp [Ieee.Datum.order]
  · have ex : cn k x = x := by unfold cn; rw [if_neg hx]
    rw [ex]
    by_cases hy : isN k y = true
    · obtain ⟨s, f, e⟩ := read_nan hy
      obtain ⟨s', f', e'⟩ := read_nan (k := k) (b := cn k y) (by rw [isN_cn, hy])
      rw [e, e']; cases k.format.read x <;> simp [Ieee.Datum.order]
    · have ey : cn k y = y := by unfold cn; rw [if_neg hy]
      rw [ey]

theorem floatBits_cn (op : BinOp) (k : FloatKind) (x y : Nat) : floatBits op k (cn k x) (cn k y) = floatBits op k x y := by
  unfold floatBits Ieee.Format.add Ieee.Format.sub Ieee.Format.mul Ieee.Format.div
  by_cases hx : isN k x = true
  · obtain ⟨s, f, e⟩ := read_nan hx
    obtain ⟨s', f', e'⟩ := read_nan (k := k) (b := cn k x) (by rw [isN_cn, hx])
    rw [e, e']; cases op <;> simp [Ieee.Datum.sum, Ieee.Datum.product, Ieee.Datum.quotient]
  · have ex : cn k x = x := by unfold cn; rw [if_neg hx]
    rw [ex]
    by_cases hy : isN k y = true
    · obtain ⟨s, f, e⟩ := read_nan hy
      obtain ⟨s', f', e'⟩ := read_nan (k := k) (b := cn k y) (by rw [isN_cn, hy])
      rw [e, e']; cases k.format.read x <;> cases op <;> simp [Ieee.Datum.sum, Ieee.Datum.product, Ieee.Datum.quotient, Ieee.Datum.opposite]
    · have ey : cn k y = y := by unfold cn; rw [if_neg hy]
      rw [ey]


theorem isN_word (k : FloatKind) (neg : Bool) {rung : Nat} (h : rung ≤ k.format.infRung) : isN k (k.format.word neg rung) = false := by
  have h1 : k.format.word neg rung % k.format.signWeight = rung := by
    have hlt : rung < k.format.signWeight := Nat.lt_of_le_of_lt h k.format.infRung_lt
    unfold Ieee.Format.word
    cases neg
    · simpa using Nat.mod_eq_of_lt hlt
    · simp [Nat.mod_eq_of_lt hlt]
  unfold isN Ieee.Format.read
  simp only [h1]
  split
  · rfl
  · split
    · rfl
    · split
      · rfl
      · omega

theorem isN_nearest (k : FloatKind) (neg : Bool) (m : Nat) (p : Int) : isN k (k.format.nearest neg m p) = false := by
  unfold Ieee.Format.nearest
  split
  · exact isN_word k neg (Nat.zero_le _)
  · exact isN_word k neg (Nat.min_le_right _ _)

theorem isN_write (k : FloatKind) {d : Ieee.Datum} (h : d.isNaN = false) : isN k (k.format.write d) = false := by
  cases d with
  | number s m p => exact isN_nearest k s m p
  | infinity s => exact isN_word k s (Nat.le_refl _)
  | nan s f => simp [Ieee.Datum.isNaN] at h

theorem floatBits_not_nan {op : BinOp} {k : FloatKind} {x y r : Nat} (h : floatBits op k x y = some r) : isN k r = false := by
  unfold floatBits Ieee.Format.add Ieee.Format.sub Ieee.Format.mul Ieee.Format.div at h
  have key : ∀ {d : Option Ieee.Datum}, (∀ e, d = some e → e.isNaN = false) → d.map k.format.write = some r → isN k r = false := by
    intro d hd hr
    obtain ⟨e, he, rfl⟩ := Option.map_eq_some_iff.1 hr
    exact isN_write k (hd e he)
  cases op <;> simp only at h
  all_goals first | (cases h; done) | skip
  all_goals refine key ?_ h
  all_goals
    intro e he
    generalize k.format.read x = p at he
    generalize k.format.read y = q at he
    cases p <;> cases q <;>
      simp only [Ieee.Datum.sum, Ieee.Datum.product, Ieee.Datum.quotient, Ieee.Datum.opposite, reduceCtorEq, Option.some.injEq] at he
    all_goals first | (subst he; rfl) | (split at he <;> first | (cases he; done) | (split at he <;> first | (cases he; done) | (cases he; rfl)) | (cases he; rfl))

/-- The operation on canonical bits. -/
def fop (op : BinOp) (k : FloatKind) (x y : Nat) : Nat := (floatBits op k x y).getD (nanW k)

theorem cn_fop (op : BinOp) (k : FloatKind) (x y : Nat) : cn k (fop op k x y) = fop op k x y := by
  unfold fop
  cases h : floatBits op k x y with
  | none => simp only [Option.getD_none]; unfold cn; rw [if_pos (isN_nanW k)]
  | some r => simp only [Option.getD_some]; unfold cn; rw [if_neg (by simp [floatBits_not_nan h])]

theorem fop_cn (op : BinOp) (k : FloatKind) (x y : Nat) : fop op k (cn k x) (cn k y) = fop op k x y := by unfold fop; rw [floatBits_cn]

/-- What the model draws for a NaN is one, and fits. -/
theorem isN_cut (k : FloatKind) (x y t : Nat) : isN k ((Question.nanBits k x y).cut t) = true ∧ (Question.nanBits k x y).cut t < 2 ^ k.format.width := by
  have hs : ∀ (a b : Nat), a < 2 → b < 2 ^ k.format.fractionBits - 1 → isN k (a * k.format.signWeight + k.format.infRung + 1 + b) = true := by
    intro a b ha hb
    have hi := k.format.infRung_add_binade
    have hbin : k.format.binade = 2 ^ k.format.fractionBits := rfl
    have hm : (a * k.format.signWeight + k.format.infRung + 1 + b) % k.format.signWeight = k.format.infRung + 1 + b := by
      rw [Nat.add_assoc, Nat.add_assoc, Nat.mul_add_mod_self_right, Nat.mod_eq_of_lt (by omega)]
      omega
    unfold isN Ieee.Format.read
    simp only [hm]
    have h2 : k.format.binade ≤ k.format.infRung := by cases k <;> decide +kernel
    rw [if_neg (by omega), if_neg (by omega), if_neg (by omega)]
    rfl
  cases k
  · have h := hs (t % 2) ((t / 2) % (2 ^ 23 - 1)) (by omega) (Nat.mod_lt _ (by decide))
    refine ⟨h, ?_⟩
    simp only [Question.cut]
    show _ < 2 ^ 32
    have := Nat.mod_lt (t / 2) (show 0 < 2 ^ 23 - 1 by decide)
    omega
  · have h := hs (t % 2) ((t / 2) % (2 ^ 52 - 1)) (by omega) (Nat.mod_lt _ (by decide))
    refine ⟨h, ?_⟩
    simp only [Question.cut]
    show _ < 2 ^ 64
    have := Nat.mod_lt (t / 2) (show 0 < 2 ^ 52 - 1 by decide)
    omega

/-- A float value that stands for canonical bits. -/
def FV (k : FloatKind) (f : Nat) (v : Value) : Prop := ∃ b, v = .float k b ∧ cn k b = f ∧ b < 2 ^ k.format.width

theorem run_fop (P : Program) (w : World) (op : BinOp) (hop : op = .add ∨ op = .sub ∨ op = .mul ∨ op = .quo) (t : TypeId) (k : FloatKind) (x y : Nat) :
    ∃ v n, (binOp op t (.float k x) (.float k y)).run P w = .ok v (w.drewN n) ∧ FV k (fop op k (cn k x) (cn k y)) v := by
  rw [fop_cn]
  cases h : floatBits op k x y with
  | some r =>
    refine ⟨_, 0, run_float_arith w op t k x y r h, r, rfl, ?_, ?_⟩
    · unfold fop; rw [h]; unfold cn; rw [if_neg (by simp [floatBits_not_nan h])]; rfl
    · have h1 := floatBits_wf h
      cases k
      · have h2 : r < 2 ^ 32 := by simpa [Lit.wf] using h1
        exact h2
      · have h2 : r < 2 ^ 64 := by simpa [Lit.wf] using h1
        exact h2
  | none =>
    have hc := isN_cut k x y (w.tape w.drawn (.nanBits k x y))
    refine ⟨.float k ((Question.nanBits k x y).cut (w.tape w.drawn (.nanBits k x y))), 1, ?_, _, rfl, ?_, hc.2⟩
    · unfold floatBits at h
      rcases hop with rfl | rfl | rfl | rfl <;> simp only at h <;> simp [binOp, Op.floatArith, h, choose, Sem.run, Question.forced, World.drewN]
    · unfold fop; rw [h]; unfold cn; rw [if_pos hc.1]; rfl

/-- A slice that can be read: n elements of k cells each, xs their cells. -/
def Rd (k : Nat) (w : World) (v : Value) (n : Nat) (xs : List Value) : Prop :=
  xs.length = n * k ∧ ∃ a cap, v = .slice a n cap ∧ n ≤ cap ∧ cap ≤ maxLen ∧ (a = none → cap = 0) ∧
    ∀ p, a = some p → ∀ j, j < n * k → p.spot = none ∧ p.block < w.heap.size ∧ w.cell? ⟨p.block, p.off + j, none⟩ = xs[j]?

theorem Rd.below {k : Nat} {w w' : World} {v : Value} {n : Nat} {xs : List Value} (h : Rd k w v n xs) (hb : Below w.heap.size w w') : Rd k w' v n xs := by
  obtain ⟨h1, a, cap, h2, h3, h4, h5, h6⟩ := h
  refine ⟨h1, a, cap, h2, h3, h4, h5, fun p hp j hj => ?_⟩
  obtain ⟨g1, g2, g3⟩ := h6 p hp j hj
  exact ⟨g1, Nat.lt_of_lt_of_le g2 hb.size, (hb.cell (p := ⟨p.block, p.off + j, none⟩) g2).trans g3⟩

theorem below_alloc (w : World) (o : Obj) : Below w.heap.size w (w.alloc o) := (Below.refl _ _).alloc (Nat.le_refl _) o

theorem Rd.alloc {k : Nat} {w : World} {v : Value} {n : Nat} {xs : List Value} (h : Rd k w v n xs) (o : Obj) : Rd k (w.alloc o) v n xs := h.below (below_alloc w o)

theorem Rd.pos {k : Nat} {w : World} {a : Option Addr} {cap : Nat} {n : Nat} {xs : List Value} (h : Rd k w (.slice a n cap) n xs) (hn : 0 < n * k) :
    ∃ b off, a = some ⟨b, off, none⟩ ∧ b < w.heap.size ∧ ∀ j, j < n * k → w.cell? ⟨b, off + j, none⟩ = xs[j]? := by
  obtain ⟨h1, a', cap', h2, h3, h4, h5, h6⟩ := h
  cases h2
  cases a with
  | none =>
    have h0 := h5 rfl
    have : n = 0 := by omega
    subst this
    omega
  | some p =>
    obtain ⟨g1, g2, g3⟩ := h6 p rfl 0 hn
    obtain ⟨b, off, s⟩ := p
    simp only at g1 g2 g3 h6
    subst g1
    exact ⟨b, off, rfl, g2, fun j hj => (h6 _ rfl j hj).2.2⟩

theorem bcell {W w1 : World} (hb : Below W.heap.size W w1) : (∀ b o, b < W.heap.size → w1.cell? ⟨b, o, none⟩ = W.cell? ⟨b, o, none⟩) ∧ (∀ b o, b < W.heap.size → w1.frozen? ⟨b, o, none⟩ = W.frozen? ⟨b, o, none⟩) :=
  ⟨fun b o h => hb.cell (p := ⟨b, o, none⟩) h, fun b o h => hb.frozen (p := ⟨b, o, none⟩) h⟩

def RdI (w : World) (v : Value) (zs : List Int) : Prop := Rd 1 w v zs.length (zs.map (Value.int .i64))

theorem RdI.at {w : World} {a : Option Addr} {cap n : Nat} {zs : List Int} (h : RdI w (.slice a n cap) zs) {k : Nat} (hk : k < zs.length) :
    ∃ b off, a = some ⟨b, off, none⟩ ∧ b < w.heap.size ∧ w.cell? ⟨b, off + k, none⟩ = some (.int .i64 zs[k]) := by
  have hn : n = zs.length := by obtain ⟨_, _, _, h2, _⟩ := h; cases h2; rfl
  subst hn
  obtain ⟨b, off, h1, h2, h3⟩ := Rd.pos h (by omega : 0 < zs.length * 1)
  refine ⟨b, off, h1, h2, ?_⟩
  rw [h3 k (by omega)]
  simp [hk]

theorem ret_bool {a b : Bool} (h : a = b) : Ending.returned (.bool a) = Ending.returned (.bool b) := by rw [h]
theorem ret_int {k : IntKind} {a b : Int} (h : a = b) : Ending.returned (.int k a) = Ending.returned (.int k b) := by rw [h]
theorem below_drewN {B : Nat} {a w : World} (h : Below B a w) (n : Nat) : Below B a (w.drewN n) := ⟨h.os, h.tape, h.output, h.size, h.block⟩

theorem RdI.alloc {w : World} {v : Value} {zs : List Int} (h : RdI w v zs) (o : Obj) : RdI (w.alloc o) v zs := Rd.alloc h o
theorem RdI.below {w w' : World} {v : Value} {zs : List Int} (h : RdI w v zs) (hb : Below w.heap.size w w') : RdI w' v zs := Rd.below h hb

theorem take_same {zs ys : List Int} {k : Nat} (h1 : k < zs.length) (h2 : k < ys.length) (h : zs.take k = ys.take k) (e : zs[k] = ys[k]) : zs.take (k + 1) = ys.take (k + 1) := by
  rw [List.take_add_one, List.take_add_one, h, List.getElem?_eq_getElem h1, List.getElem?_eq_getElem h2, e]

end Go.Proofs.Ytmcnfapdghoenaa
