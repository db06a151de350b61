
/- How the arguments of a statement read as data: integers, floats, lists, structs. No condition. -/
import Derived.Test.YtmcnfapdghoenaaRg
import Derived.ProofKit
import Derived.OpenShut
import Derived.ChangeOld
import Derived.Deep.Slices
import Derived.Lib.SmallJoins
namespace Go.Proofs.Ytmcnfapdghoenaa
open Go Go.RowKit Go.ChangeShapes Go.WideShapes Go.ChangeAt

section
variable {H : Type} {enc : TypeId × Value → H} {P : Program} {w : World} {base : Nat} {held : Bool}

theorem addr_add2 {w : World} {a : Addr} {i j : Nat} {v : Value} (h : w.cell? ((a.add i).add j) = some v) : a.spot = none ∨ 0 < i + j := by
  by_cases hij : i + j = 0
  · left
    have h1 : i = 0 := by omega
    have h2 : j = 0 := by omega
    subst h1; subst h2
    have h' : w.cell? a = some v := by simpa [Addr.add] using h
    exact World.cell?_spot h'
  · right; omega

theorem add_add (a : Addr) (i j : Nat) (h : a.spot = none) : (a.add i).add j = ⟨a.block, a.off + (i + j), none⟩ := by
  obtain ⟨b, o, s⟩ := a
  simp only at h; subst h
  unfold Addr.add
  split <;> split <;> simp_all <;> omega

/-- A slice of elements of k cells, as rows. -/
theorem trod_rows {t e : TypeId} {fuel k : Nat} {c : Value} {x : DataW H × List MemPlace} (ht : P.underlying t = some (.slice e)) (hk : P.cellsOf e = k) (hk0 : 0 < k)
    (h : DataW.trod enc P w base (fun _ => true) held fuel t [c] = some x) :
    ∃ (a : Option Addr) (len cap : Nat) (xs : List (List Value)), c = .slice a len cap ∧ Rd k w (.slice a len cap) len xs.flatten ∧ xs.length = len ∧
      ∀ r ∈ xs, r.length = k ∧ ∃ n y, DataW.trod enc P w base (fun _ => true) held n e r = some y := by
  rcases Go.Deep.open_slice ht h with ⟨hc, _⟩ | ⟨a, len, cap, m, n, D, Pl, hc, hb, hl, hm, hmm, hx, hel⟩
  · refine ⟨none, 0, 0, [], by simpa using hc, ⟨by simp, none, 0, rfl, Nat.le_refl _, Nat.zero_le _, fun _ => rfl, fun p hp => by cases hp⟩, rfl, by simp⟩
  · simp only [if_true] at hmm
    subst hmm
    have hrow : ∀ i, ∃ r : List Value, i < m → (r.length = k ∧ w.cells? base (a.add (i * k)) k = some r ∧ DataW.trod enc P w base (fun _ => true) held n e r = some (D i, Pl i)) := fun i => by
      by_cases hi : i < m
      · obtain ⟨cs', h1, h2⟩ := hel i hi
        rw [hk] at h1
        exact ⟨cs', fun _ => ⟨(World.cells?_some h1).2.1, h1, h2⟩⟩
      · exact ⟨[], fun h => absurd h hi⟩
    let R : Nat → List Value := fun i => Classical.choose (hrow i)
    have hR : ∀ i, i < m → (R i).length = k ∧ w.cells? base (a.add (i * k)) k = some (R i) ∧ DataW.trod enc P w base (fun _ => true) held n e (R i) = some (D i, Pl i) := fun i hi => Classical.choose_spec (hrow i) hi
    have hflat : ∀ l, l ≤ m → ((List.range l).map R).flatten.length = l * k ∧ ∀ j, j < l * k → ((List.range l).map R).flatten[j]? = (R (j / k))[j % k]? := by
      intro l
      induction l with
      | zero => intro _; exact ⟨by simp, fun j hj => by omega⟩
      | succ l ih =>
        intro hl'
        obtain ⟨i1, i2⟩ := ih (by omega)
        have hlen : (R l).length = k := (hR l (by omega)).1
        rw [List.range_succ, List.map_append, List.flatten_append]
        simp only [List.map_cons, List.map_nil, List.flatten_cons, List.flatten_nil, List.append_nil]
        have hs : (l + 1) * k = l * k + k := Nat.succ_mul l k
        refine ⟨by rw [List.length_append, i1, hlen, hs], fun j hj => ?_⟩
        by_cases hjl : j < l * k
        · rw [List.getElem?_append_left (by rw [i1]; exact hjl)]; exact i2 j hjl
        · rw [List.getElem?_append_right (by rw [i1]; omega), i1]
          have e1 : j / k = l := by
            apply Nat.div_eq_of_lt_le
            · omega
            · rw [hs] at hj; rw [hs]; exact hj
          have e2 : j % k = j - l * k := by
            have := Nat.div_add_mod j k
            rw [e1, Nat.mul_comm] at this
            omega
          rw [e1, e2]
    obtain ⟨f1, f2⟩ := hflat len hl
    refine ⟨some a, len, m, (List.range len).map R, by simpa using hc, ⟨f1, some a, m, rfl, hl, hm, (fun h => by cases h), ?_⟩, by simp, ?_⟩
    · intro p hp j hj
      cases hp
      have hq : j / k < len := Nat.div_lt_of_lt_mul (by rw [Nat.mul_comm]; exact hj)
      have hr : j % k < k := Nat.mod_lt _ hk0
      obtain ⟨g1, g2, _⟩ := hR (j / k) (by omega)
      obtain ⟨_, _, g5⟩ := World.cells?_some g2
      have g6 := g5 (j % k) hr
      have hsome : ∃ v, (R (j / k))[j % k]? = some v := ⟨_, List.getElem?_eq_getElem (by rw [g1]; exact hr)⟩
      obtain ⟨v, hv⟩ := hsome
      rw [hv] at g6
      have hspot : a.spot = none := by
        have hpos : 0 < len := Nat.pos_of_ne_zero (by rintro rfl; simp at hj)
        obtain ⟨q1, q2, _⟩ := hR 0 (by omega)
        obtain ⟨_, _, q5⟩ := World.cells?_some q2
        have q6 := q5 0 hk0
        have hsome : ∃ v, (R 0)[0]? = some v := ⟨_, List.getElem?_eq_getElem (by rw [q1]; exact hk0)⟩
        obtain ⟨v', hv'⟩ := hsome
        rw [hv'] at q6
        have : w.cell? a = some v' := by simpa [Addr.add] using q6
        exact World.cell?_spot this
      rw [add_add a _ _ hspot] at g6
      have e : j / k * k + j % k = j := by rw [Nat.mul_comm]; exact Nat.div_add_mod j k
      rw [e] at g6
      refine ⟨hspot, World.block_lt_of_cell? w ⟨a.block, a.off + j, none⟩ g6, ?_⟩
      rw [g6, f2 j hj, hv]
    · intro r hr
      obtain ⟨i, hi, rfl⟩ := List.mem_map.1 hr
      obtain ⟨g1, _, g3⟩ := hR i (by have := List.mem_range.1 hi; omega)
      exact ⟨g1, n, _, g3⟩

theorem singles {α : Type} (f : α → Value) (p : α → Prop) : ∀ xs : List (List Value), (∀ r ∈ xs, ∃ z, r = [f z] ∧ p z) → ∃ zs : List α, xs.flatten = zs.map f ∧ zs.length = xs.length ∧ ∀ z ∈ zs, p z := by
  intro xs
  induction xs with
  | nil => intro _; exact ⟨[], rfl, rfl, by simp⟩
  | cons r xs ih =>
    intro hh
    obtain ⟨z, rfl, hz⟩ := hh r (by simp)
    obtain ⟨zs, e1, e2, e3⟩ := ih fun r' hr' => hh r' (by simp [hr'])
    exact ⟨z :: zs, by simp [e1], by simp [e2], fun y hy => by
      rcases List.mem_cons.1 hy with rfl | hy
      · exact hz
      · exact e3 y hy⟩

/-- A slice of integers. -/
theorem trod_ints {t e : TypeId} {fuel : Nat} {c : Value} {x : DataW H × List MemPlace} (ht : P.underlying t = some (.slice e)) (he : P.underlying e = some (.int .i64)) (hk : P.cellsOf e = 1)
    (h : DataW.trod enc P w base (fun _ => true) held fuel t [c] = some x) :
    ∃ (a : Option Addr) (len cap : Nat) (zs : List Int), c = .slice a len cap ∧ RdI w (.slice a len cap) zs ∧ ∀ z ∈ zs, (Lit.int .i64 z).wf = true := by
  obtain ⟨a, len, cap, xs, rfl, hr, hl, hrow⟩ := trod_rows ht hk (by omega) h
  obtain ⟨zs, e1, e2, e3⟩ := singles (Value.int .i64) (fun z => (Lit.int .i64 z).wf = true) xs fun r hm => by
    obtain ⟨_, n, y, hy⟩ := hrow r hm
    obtain ⟨z, h1, _, h3⟩ := DataW.trod_int he hy
    exact ⟨z, h1, h3⟩
  rw [e1] at hr
  have : len = zs.length := by rw [e2, hl]
  subst this
  exact ⟨a, zs.length, cap, zs, rfl, hr, e3⟩

theorem trod_float1 {e : TypeId} {n : Nat} {k : FloatKind} {v : Value} {y : DataW H × List MemPlace} (he : P.underlying e = some (.float k))
    (hy : DataW.trod enc P w base (fun _ => true) held n e [v] = some y) : ∃ z, v = .float k z ∧ (Lit.float k z).wf = true := by
  cases n with
  | zero => simp [DataW.trod] at hy
  | succ n =>
    unfold DataW.trod at hy
    simp only [he] at hy
    cases v <;> simp at hy
    obtain ⟨⟨rfl, hw⟩, _⟩ := hy
    exact ⟨_, rfl, hw⟩

/-- A slice of 32-bit numbers. -/
def RdF (w : World) (v : Value) (bs : List Nat) : Prop := Rd 1 w v bs.length (bs.map (Value.float .f32)) ∧ ∀ b ∈ bs, b < 4294967296
theorem RdF.ext {w w' : World} {v : Value} {bs : List Nat} (h : RdF w v bs) (hb : Ext w w') : RdF w' v bs := ⟨h.1.ext hb, h.2⟩

theorem wf_f32 {b : Nat} (h : (Lit.float .f32 b).wf = true) : b < 4294967296 := by simpa [Lit.wf] using h

theorem trod_floats {t e : TypeId} {fuel : Nat} {c : Value} {x : DataW H × List MemPlace} (ht : P.underlying t = some (.slice e)) (he : P.underlying e = some (.float .f32)) (hk : P.cellsOf e = 1)
    (h : DataW.trod enc P w base (fun _ => true) held fuel t [c] = some x) :
    ∃ (a : Option Addr) (len cap : Nat) (bs : List Nat), c = .slice a len cap ∧ RdF w (.slice a len cap) bs := by
  obtain ⟨a, len, cap, xs, rfl, hr, hl, hrow⟩ := trod_rows ht hk (by omega) h
  obtain ⟨zs, e1, e2, e3⟩ := singles (Value.float .f32) (fun z => z < 4294967296) xs fun r hm => by
    obtain ⟨hlen, n, y, hy⟩ := hrow r hm
    obtain ⟨v, rfl⟩ : ∃ v, r = [v] := by
      match r, hlen with
      | [v], _ => exact ⟨v, rfl⟩
    obtain ⟨z, rfl, hz⟩ := trod_float1 he hy
    exact ⟨z, rfl, wf_f32 hz⟩
  rw [e1] at hr
  have : len = zs.length := by rw [e2, hl]
  subst this
  exact ⟨a, zs.length, cap, zs, rfl, hr, e3⟩

/-! ### The arguments, kind by kind: what the walk is told of each -/
def ArgInts (w : World) (v : Value) : Prop := ∃ (a : Option Addr) (len cap : Nat) (zs : List Int), v = .slice a len cap ∧ RdI w (.slice a len cap) zs ∧ ∀ z ∈ zs, (Lit.int .i64 z).wf = true
def ArgFloats (w : World) (v : Value) : Prop := ∃ (a : Option Addr) (len cap : Nat) (bs : List Nat), v = .slice a len cap ∧ RdF w (.slice a len cap) bs
def ArgInt (_ : World) (v : Value) : Prop := ∃ n, v = .int .i64 n ∧ (Lit.int .i64 n).wf = true
def ArgF32 (_ : World) (v : Value) : Prop := ∃ b, v = .float .f32 b ∧ b < 4294967296
def ArgSys (w : World) (v : Value) : Prop := ∃ (p : Int) (a : Option Addr) (len cap : Nat) (zs : List Int), v = .agg #[.int .i64 p, .slice a len cap] ∧ (Lit.int .i64 p).wf = true ∧ RdI w (.slice a len cap) zs ∧ ∀ z ∈ zs, (Lit.int .i64 z).wf = true
def ArgChain (w : World) (v : Value) : Prop := ∃ (p : Int) (a : Option Addr) (len cap : Nat) (bs : List Nat), v = .agg #[.int .i64 p, .slice a len cap] ∧ (Lit.int .i64 p).wf = true ∧ RdF w (.slice a len cap) bs

variable {r : Reach} {b0 : Nat} {t e : TypeId} {v : Value} {d : DataW H} {p : List MemPlace}
theorem argInt (ht : P.underlying t = some (.int .i64)) (hv : Value.okWide P w r b0 t v) (h : DataW.Trod enc P w base (fun _ => true) held t v d p) : ArgInt w v := by
  obtain ⟨n, rfl, _, _, hw⟩ := open_int ht hv h
  exact ⟨n, rfl, hw⟩
theorem argF32 (ht : P.underlying t = some (.float .f32)) (hv : Value.okWide P w r b0 t v) (h : DataW.Trod enc P w base (fun _ => true) held t v d p) : ArgF32 w v := by
  obtain ⟨n, rfl, _, _, hw⟩ := open_float ht hv h
  exact ⟨n, rfl, wf_f32 hw⟩
theorem argInts (ht : P.underlying t = some (.slice e)) (he : P.underlying e = some (.int .i64)) (hk : P.cellsOf e = 1) (hv : Value.okWide P w r b0 t v) (h : DataW.Trod enc P w base (fun _ => true) held t v d p) : ArgInts w v := by
  obtain ⟨a, len, cap, rfl⟩ := okWide_slice ht hv
  obtain ⟨fuel, hf⟩ := h
  obtain ⟨a', len', cap', zs, h1, h2, h3⟩ := trod_ints ht he hk hf
  exact ⟨a', len', cap', zs, h1, h2, h3⟩
theorem argFloats (ht : P.underlying t = some (.slice e)) (he : P.underlying e = some (.float .f32)) (hk : P.cellsOf e = 1) (hv : Value.okWide P w r b0 t v) (h : DataW.Trod enc P w base (fun _ => true) held t v d p) : ArgFloats w v := by
  obtain ⟨a, len, cap, rfl⟩ := okWide_slice ht hv
  obtain ⟨fuel, hf⟩ := h
  obtain ⟨a', len', cap', bs, h1, h2⟩ := trod_floats ht he hk hf
  exact ⟨a', len', cap', bs, h1, h2⟩
theorem argSys {f0 f1 : Field} (hs : P.underlying t = some (.struct #[f0, f1])) (hone : Go.Deep.oneCellFields P #[f0, f1] = true) (hC : P.cellsOf t = 2) (h0 : P.underlying f0.type = some (.int .i64))
    (h1 : P.underlying f1.type = some (.slice e)) (he : P.underlying e = some (.int .i64)) (hk : P.cellsOf e = 1) (hv : Value.okWide P w r b0 t v) (h : DataW.Trod enc P w base (fun _ => true) held t v d p) : ArgSys w v := by
  obtain ⟨v0, v1, y0, y1, n, rfl, _, _, g0, g1⟩ := Go.Joins.open_agg2 hs hone hC hv h
  obtain ⟨p, e0, _, hw⟩ := DataW.trod_int h0 g0
  obtain ⟨a, len, cap, zs, rfl, hr, hz⟩ := trod_ints h1 he hk g1
  simp at e0; subst e0
  exact ⟨p, a, len, cap, zs, rfl, hw, hr, hz⟩
theorem argChain {f0 f1 : Field} (hs : P.underlying t = some (.struct #[f0, f1])) (hone : Go.Deep.oneCellFields P #[f0, f1] = true) (hC : P.cellsOf t = 2) (h0 : P.underlying f0.type = some (.int .i64))
    (h1 : P.underlying f1.type = some (.slice e)) (he : P.underlying e = some (.float .f32)) (hk : P.cellsOf e = 1) (hv : Value.okWide P w r b0 t v) (h : DataW.Trod enc P w base (fun _ => true) held t v d p) : ArgChain w v := by
  obtain ⟨v0, v1, y0, y1, n, rfl, _, _, g0, g1⟩ := Go.Joins.open_agg2 hs hone hC hv h
  obtain ⟨p, e0, _, hw⟩ := DataW.trod_int h0 g0
  obtain ⟨a, len, cap, bs, rfl, hr⟩ := trod_floats h1 he hk g1
  simp at e0; subst e0
  exact ⟨p, a, len, cap, bs, rfl, hw, hr⟩
end
end Go.Proofs.Ytmcnfapdghoenaa
