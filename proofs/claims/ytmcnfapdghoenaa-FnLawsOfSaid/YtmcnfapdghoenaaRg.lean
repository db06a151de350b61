
/- A region that draws its order, walked once in the order of the text, where operations and calls may yield values that are known only up to a predicate, and may make memory: no condition beyond those in the theorem's statement. -/
import Derived.Test.YtmcnfapdghoenaaLib
import Derived.Still
import Derived.Tactics2
namespace Go.Proofs.Ytmcnfapdghoenaa
open Go Go.RowKit

/-- The world has grown: no block that was there has turned. -/
def Ext (w w' : World) : Prop := Below w.heap.size w w'
theorem Ext.refl (w : World) : Ext w w := Below.refl _ _
theorem Ext.trans {a b c : World} (h : Ext a b) (k : Ext b c) : Ext a c := Below.trans h (Below.mono k h.size)
theorem Ext.drewN (w : World) (n : Nat) : Ext w (w.drewN n) := below_drewN (Below.refl _ _) n

theorem Ext.alloc (w : World) (o : Obj) : Ext w (w.alloc o) := below_alloc w o

def St (A : World → Prop) : Prop := ∀ w w', A w → Ext w w' → A w'
theorem St.top : St (fun _ => True) := fun _ _ _ _ => trivial

theorem Ext.size {w w' : World} (h : Ext w w') : w.heap.size ≤ w'.heap.size := Below.size h
theorem Ext.below {w w' : World} (h : Ext w w') : Below w.heap.size w w' := h
theorem RdI.ext {w w' : World} {v : Value} {zs : List Int} (h : RdI w v zs) (hb : Ext w w') : RdI w' v zs := Rd.below h hb
theorem Rd.ext {k : Nat} {w w' : World} {v : Value} {n : Nat} {xs : List Value} (h : Rd k w v n xs) (hb : Ext w w') : Rd k w' v n xs := Rd.below h hb

/-- A block of cells that lies there: a box. -/
def Bx (w : World) (b : Nat) (cs : List Value) : Prop := b < w.heap.size ∧ ∀ j, j < cs.length → w.cell? ⟨b, j, none⟩ = cs[j]?
theorem Bx.ext {w w' : World} {b : Nat} {cs : List Value} (h : Bx w b cs) (hb : Ext w w') : Bx w' b cs :=
  ⟨Nat.lt_of_lt_of_le h.1 hb.size, fun j hj => (Below.cell hb (p := ⟨b, j, none⟩) h.1).trans (h.2 j hj)⟩
theorem Bx.new (w : World) (cs : List Value) (t : TypeId) : Bx (w.alloc (.cells cs.toArray t)) w.heap.size cs :=
  ⟨by simp, fun j hj => by rw [cell_of_row _ w.heap.size j cs.toArray t (0, 0) (heap_alloc_new w _)]; simp⟩
theorem Bx.new' (w : World) (cs : List Value) (t : TypeId) {b : Nat} (h : b = w.heap.size) : Bx (w.alloc (.cells cs.toArray t)) b cs := h ▸ Bx.new w cs t
theorem Bx.one {w : World} {b : Nat} {x : Value} (h : Bx w b [x]) : w.cell? ⟨b, 0, none⟩ = some x := h.2 0 (by simp)
theorem Bx.two {w : World} {b : Nat} {x y : Value} (h : Bx w b [x, y]) : w.cell? ⟨b, 0, none⟩ = some x ∧ w.cell? ⟨b, 1, none⟩ = some y := ⟨h.2 0 (by simp), h.2 1 (by simp)⟩
theorem Bx.three {w : World} {b : Nat} {x y z : Value} (h : Bx w b [x, y, z]) : w.cell? ⟨b, 0, none⟩ = some x ∧ w.cell? ⟨b, 1, none⟩ = some y ∧ w.cell? ⟨b, 2, none⟩ = some z :=
  ⟨h.2 0 (by simp), h.2 1 (by simp), h.2 2 (by simp)⟩

theorem own_rd {k : Nat} {w : World} {B : Nat} {e : TypeId} {v : Value} {n : Nat} {xs : List Value} (h : w.ownsRow B e k v n xs) : Rd k w v n xs := by
  refine ⟨h.1, ?_⟩
  rcases h.2 with ⟨rfl, rfl⟩ | ⟨g, cap, cur, rfl, hb, hg, h1, h2, h3, h4⟩
  · exact ⟨none, 0, rfl, Nat.le_refl _, Nat.zero_le _, fun _ => rfl, fun p hp => by cases hp⟩
  · refine ⟨_, cap, rfl, h1, h2, (fun he => by cases he), fun p hp j hj => ?_⟩
    cases hp
    refine ⟨rfl, (Array.getElem?_eq_some_iff.1 hg).1, ?_⟩
    simp only [Nat.zero_add]
    rw [cell_of_row w g j cur e (0, 0) hg, ← h4, List.getElem?_take, if_pos hj]
    simp

/-- What is known of the world for each slot's value. -/
def upC (Γ : Tmp → World → Prop) (d : Option Tmp) (A : World → Prop) : Tmp → World → Prop := fun s w => Γ s w ∧ (d = some s → A w)

def UponN (w : World) (S : Value → Prop) (A : Value → World → Prop) : Result Next → Prop
  | .ok (.value v) w' => Ext w w' ∧ S v ∧ A v w'
  | .ok .skip w' => Ext w w' ∧ S undef ∧ A undef w'
  | _ => False

def UponC (P : Program) (w : World) (S : Value → Prop) (A : Value → World → Prop) : Result Next → Prop
  | .ok (.enter f args) w' => Calls P f args w' fun e w'' => ∃ v, e = .returned v ∧ Ext w w'' ∧ S v ∧ A v w''
  | _ => False

theorem UponC.enter {P : Program} {w w' : World} {S : Value → Prop} {A : Value → World → Prop} {f : FuncId} {args : Array Value} (h : Calls P f args w' fun e w'' => ∃ v, e = .returned v ∧ Ext w w'' ∧ S v ∧ A v w'') : UponC P w S A (.ok (.enter f args) w') := h

def isCallB (o : Oper) : Bool := match o.op with
  | .call { callee := .value _, .. } => true
  | _ => false

section
variable {P : Program} {ops : Array Oper} {w0 : World} {SC : Nat → Value → Prop} {AC : Nat → Value → World → Prop}

def Sat (w0 : World) (Γ : Tmp → World → Prop) : Prop := ∃ w, Ext w0 w ∧ ∀ s, Γ s w

def YN (P : Program) (ops : Array Oper) (w0 : World) (Γ : Tmp → World → Prop) (o : Oper) (S : Value → Prop) (A : Value → World → Prop) (a : Act) : Prop :=
  ∀ w, Ext w0 w → (∀ s ∈ o.looksAt ops, Γ s w) → UponN w S A ((execOp a.eval o).run P w)
def YC (P : Program) (ops : Array Oper) (w0 : World) (Γ : Tmp → World → Prop) (o : Oper) (S : Value → Prop) (A : Value → World → Prop) (a : Act) : Prop :=
  ∀ w, Ext w0 w → (∀ s ∈ o.looksAt ops, Γ s w) → UponC P w S A ((execOp a.eval o).run P w)

def opR (P : Program) (ops : Array Oper) (w0 : World) (SC : Nat → Value → Prop) (AC : Nat → Value → World → Prop) (i : Nat) (o : Oper) (K : (Tmp → World → Prop) → Act → Prop) (Γ : Tmp → World → Prop) (a : Act) : Prop :=
  if Region.wanted o (yielded ops a.tmps) then
    if isCallB o then (∀ v, St (AC i v)) ∧ YC P ops w0 Γ o (SC i) (AC i) a ∧ ∀ v, SC i v → K (upC Γ o.dst (AC i v)) (a.put o.dst v)
    else ∃ (S : Value → Prop) (A : Value → World → Prop), (∀ v, St (A v)) ∧ YN P ops w0 Γ o S A a ∧ ∀ v, S v → K (upC Γ o.dst (A v)) (a.put o.dst v)
  else K (upC Γ o.dst fun _ => True) (a.put o.dst undef)

/-- The walk in the order of the text. -/
def LX (P : Program) (ops : Array Oper) (w0 : World) (SC : Nat → Value → Prop) (AC : Nat → Value → World → Prop) (Q : Act → World → Prop) : Nat → List Oper → (Tmp → World → Prop) → Act → Prop
  | _, [], Γ, a => ∀ w, Ext w0 w → (∀ s, Γ s w) → Q a w
  | i, o :: rest, Γ, a => opR P ops w0 SC AC i o (LX P ops w0 SC AC Q (i + 1) rest) Γ a

/-- All of the first m operations are listed. -/
def doneB (m : Nat) (listed : Array Bool) : Bool := (List.range m).all fun i => listed.getD i false

def wpAnyR (P : Program) (ops : Array Oper) (w0 : World) (SC : Nat → Value → Prop) (AC : Nat → Value → World → Prop) (m : Nat) (Q : Exit → Act → World → Prop) : Nat → Array Bool → (Tmp → World → Prop) → Act → Prop
  | 0, listed, Γ, a => Sat w0 Γ → doneB m listed = true ∧ ∀ w, Ext w0 w → (∀ s, Γ s w) → wpAny P .any ops Q 0 listed a w
  | fuel + 1, listed, Γ, a => Sat w0 Γ →
    (doneB m listed = true → ∀ w, Ext w0 w → (∀ s, Γ s w) → wpAny P .any ops Q (fuel + 1) listed a w) ∧
    (doneB m listed = false → ∀ i ∈ Region.ready .any ops listed, i < m → ∀ o, ops[i]? = some o → opR P ops w0 SC AC i o (wpAnyR P ops w0 SC AC m Q fuel (listed.setIfInBounds i true)) Γ a)

theorem upC_mono {Γ Γ' : Tmp → World → Prop} {d : Option Tmp} {A A' : World → Prop} (h : ∀ s w, Γ s w → Γ' s w) (hA : ∀ w, A w → A' w) : ∀ s w, upC Γ d A s w → upC Γ' d A' s w :=
  fun s w hh => ⟨h s w hh.1, fun e => hA w (hh.2 e)⟩

theorem Sat_mono {Γ Γ' : Tmp → World → Prop} (h : ∀ s w, Γ s w → Γ' s w) (hs : Sat w0 Γ) : Sat w0 Γ' := let ⟨w, h1, h2⟩ := hs; ⟨w, h1, fun s => h s w (h2 s)⟩

theorem opR_mono {i : Nat} {o : Oper} {K K' : (Tmp → World → Prop) → Act → Prop} {Γ Γ' : Tmp → World → Prop} {a : Act} (h : ∀ s w, Γ s w → Γ' s w)
    (hK : ∀ G G' a, (∀ s w, G s w → G' s w) → K' G' a → K G a) (hh : opR P ops w0 SC AC i o K' Γ' a) : opR P ops w0 SC AC i o K Γ a := by
  unfold opR at *
  split
  · rename_i hw
    rw [if_pos hw] at hh
    split
    · rename_i hc
      rw [if_pos hc] at hh
      obtain ⟨hA, hY, hn⟩ := hh
      exact ⟨hA, fun w hw' hs => hY w hw' fun s hm => h s w (hs s hm), fun v hv => hK _ _ _ (upC_mono h fun _ x => x) (hn v hv)⟩
    · rename_i hc
      rw [if_neg hc] at hh
      obtain ⟨S, A, hA, hY, hn⟩ := hh
      exact ⟨S, A, hA, fun w hw' hs => hY w hw' fun s hm => h s w (hs s hm), fun v hv => hK _ _ _ (upC_mono h fun _ x => x) (hn v hv)⟩
  · rename_i hw
    rw [if_neg hw] at hh
    exact hK _ _ _ (upC_mono h fun _ x => x) hh

theorem wpAnyR_mono {m : Nat} {Q : Exit → Act → World → Prop} : ∀ (fuel : Nat) (listed : Array Bool) (Γ Γ' : Tmp → World → Prop) (a : Act), (∀ s w, Γ s w → Γ' s w) →
    wpAnyR P ops w0 SC AC m Q fuel listed Γ' a → wpAnyR P ops w0 SC AC m Q fuel listed Γ a
  | 0, _, _, _, _, h, hh => fun hs => ⟨(hh (Sat_mono h hs)).1, fun w hw hg => (hh (Sat_mono h hs)).2 w hw fun s => h s w (hg s)⟩
  | fuel + 1, _, _, _, _, h, hh => fun hs => ⟨fun hd w hw hg => (hh (Sat_mono h hs)).1 hd w hw fun s => h s w (hg s), fun hd i hi hm o ho =>
      opR_mono h (fun G G' a hG hk => wpAnyR_mono fuel _ G G' a hG hk) ((hh (Sat_mono h hs)).2 hd i hi hm o ho)⟩

theorem upC_swap {Γ : Tmp → World → Prop} {d e : Option Tmp} {A B B' : World → Prop} (hB : ∀ w, A w ∨ True → B w → B' w) :
    ∀ s w, upC (upC Γ e B) d A s w → upC (upC Γ d A) e B' s w :=
  fun _ w ⟨⟨h1, h2⟩, h3⟩ => ⟨⟨h1, h3⟩, fun e => hB w (.inr trivial) (h2 e)⟩

theorem ctx_up {o : Oper} {Γ : Tmp → World → Prop} {d : Option Tmp} {B : World → Prop} (hd : ∀ x, d = some x → x ∉ o.looksAt ops) (w : World) :
    (∀ s ∈ o.looksAt ops, upC Γ d B s w) ↔ ∀ s ∈ o.looksAt ops, Γ s w :=
  ⟨fun h s hm => (h s hm).1, fun h s hm => ⟨h s hm, fun e => absurd hm (hd s e)⟩⟩

theorem YN_up {o : Oper} {S : Value → Prop} {A : Value → World → Prop} {a : Act} {Γ : Tmp → World → Prop} {d : Option Tmp} {B : World → Prop} {v : Value}
    (hs : ∀ cs b, o.op ≠ .select cs b) (hd : ∀ x, d = some x → x ∉ o.looksAt ops) : YN P ops w0 (upC Γ d B) o S A (a.put d v) ↔ YN P ops w0 Γ o S A a := by
  unfold YN
  rw [execOp_put o hs a d v hd]
  exact ⟨fun h w hw hg => h w hw ((ctx_up hd w).2 hg), fun h w hw hg => h w hw ((ctx_up hd w).1 hg)⟩
theorem YC_up {o : Oper} {S : Value → Prop} {A : Value → World → Prop} {a : Act} {Γ : Tmp → World → Prop} {d : Option Tmp} {B : World → Prop} {v : Value}
    (hs : ∀ cs b, o.op ≠ .select cs b) (hd : ∀ x, d = some x → x ∉ o.looksAt ops) : YC P ops w0 (upC Γ d B) o S A (a.put d v) ↔ YC P ops w0 Γ o S A a := by
  unfold YC
  rw [execOp_put o hs a d v hd]
  exact ⟨fun h w hw hg => h w hw ((ctx_up hd w).2 hg), fun h w hw hg => h w hw ((ctx_up hd w).1 hg)⟩

/-- Either form of an operation's own step. -/
def opY (P : Program) (ops : Array Oper) (w0 : World) (SC : Nat → Value → Prop) (AC : Nat → Value → World → Prop) (i : Nat) (o : Oper) (S : Value → Prop) (A : Value → World → Prop) (Γ : Tmp → World → Prop) (a : Act) : Prop :=
  (∀ v, St (A v)) ∧ ((Region.wanted o (yielded ops a.tmps) = true ∧ isCallB o = true ∧ S = SC i ∧ A = AC i ∧ YC P ops w0 Γ o S A a) ∨
    (Region.wanted o (yielded ops a.tmps) = true ∧ isCallB o = false ∧ YN P ops w0 Γ o S A a) ∨ (Region.wanted o (yielded ops a.tmps) = false ∧ S = (fun v => v = undef) ∧ A = fun _ _ => True))

theorem opR_of_opY {i : Nat} {o : Oper} {S : Value → Prop} {A : Value → World → Prop} {Γ : Tmp → World → Prop} {a : Act} {K : (Tmp → World → Prop) → Act → Prop}
    (h : opY P ops w0 SC AC i o S A Γ a) (hK : ∀ v, S v → K (upC Γ o.dst (A v)) (a.put o.dst v)) : opR P ops w0 SC AC i o K Γ a := by
  obtain ⟨hA, hc | hc | hc⟩ := h
  · obtain ⟨hw, h1, rfl, rfl, h4⟩ := hc
    unfold opR; rw [if_pos hw, if_pos h1]; exact ⟨hA, h4, hK⟩
  · obtain ⟨hw, h1, h4⟩ := hc
    unfold opR; rw [if_pos hw, if_neg (by simp [h1])]; exact ⟨S, A, hA, h4, hK⟩
  · obtain ⟨hw, rfl, rfl⟩ := hc
    unfold opR; rw [if_neg (by simp [hw])]; exact hK undef rfl

theorem opY_up {i : Nat} {o : Oper} {S : Value → Prop} {A : Value → World → Prop} {Γ : Tmp → World → Prop} {a : Act} {d : Option Tmp} {B : World → Prop} {v : Value}
    (hs : ∀ cs b, o.op ≠ .select cs b) (hd : ∀ x, d = some x → x ∉ o.looksAt ops) (h : opY P ops w0 SC AC i o S A Γ a) : opY P ops w0 SC AC i o S A (upC Γ d B) (a.put d v) := by
  obtain ⟨hA, hc⟩ := h
  have hw := wanted_put o a d v hd
  refine ⟨hA, ?_⟩
  rw [hw]
  exact hc.imp (fun ⟨h0, h1, h2, h3, h4⟩ => ⟨h0, h1, h2, h3, (YC_up hs hd).2 h4⟩) (Or.imp (fun ⟨h0, h1, h4⟩ => ⟨h0, h1, (YN_up hs hd).2 h4⟩) id)

/-- From a world that meets all facts, the step leads to one that does. -/
theorem opY_sat {i : Nat} {o : Oper} {S : Value → Prop} {A : Value → World → Prop} {Γ : Tmp → World → Prop} {a : Act} (hst : ∀ s, St (Γ s))
    (h : opY P ops w0 SC AC i o S A Γ a) (hsat : Sat w0 Γ) : ∃ v, S v ∧ Sat w0 (upC Γ o.dst (A v)) := by
  obtain ⟨w, hw, hg⟩ := hsat
  obtain ⟨_, hc | hc | hc⟩ := h
  · obtain ⟨_, _, _, _, hy⟩ := hc
    have h1 := hy w hw fun s _ => hg s
    generalize (execOp a.eval o).run P w = r at h1
    cases r with
    | halt => exact h1.elim
    | ok n w' =>
      cases n <;> try exact h1.elim
      obtain ⟨e, w'', fr, ⟨v, _, hx, hS, hA⟩, _⟩ := h1 []
      exact ⟨v, hS, w'', hw.trans hx, fun s => ⟨hst s w w'' (hg s) hx, fun _ => hA⟩⟩
  · obtain ⟨_, _, hy⟩ := hc
    have h1 := hy w hw fun s _ => hg s
    generalize (execOp a.eval o).run P w = r at h1
    cases r with
    | halt => exact h1.elim
    | ok n w' =>
      cases n <;> try exact h1.elim
      all_goals
        obtain ⟨hx, hS, hA⟩ := h1
        exact ⟨_, hS, w', hw.trans hx, fun s => ⟨hst s w w' (hg s) hx, fun _ => hA⟩⟩
  · obtain ⟨_, rfl, rfl⟩ := hc
    exact ⟨undef, rfl, w, hw, fun s => ⟨hg s, fun _ => trivial⟩⟩

theorem St_up {Γ : Tmp → World → Prop} {d : Option Tmp} {A : World → Prop} (h : ∀ s, St (Γ s)) (hA : St A) : ∀ s, St (upC Γ d A s) :=
  fun s w w' ⟨h1, h2⟩ hx => ⟨h s w w' h1 hx, fun e => hA w w' (h2 e) hx⟩

theorem not_done {m i : Nat} {oi : Oper} {listed : Array Bool} (hi : ops[i]? = some oi) (him : i < m) (hsz : listed.size = ops.size) (hr : i ∈ Region.ready .any ops listed) : doneB m listed = false := by
  have h0 := (mem_ready.1 hr).1
  cases hd : doneB m listed with
  | false => rfl
  | true =>
    unfold doneB at hd
    rw [List.all_eq_true] at hd
    have := hd i (List.mem_range.2 him)
    have hlt : i < listed.size := by rw [hsz]; exact (Array.getElem?_eq_some_iff.1 hi).1
    simp [hlt] at h0 this
    rw [h0] at this; cases this

/-- An operation that is ready may be taken first, if all others that are not listed wait for it or are apart from it. -/
theorem wpAnyR_first {m : Nat} {Q : Exit → Act → World → Prop} {i : Nat} {oi : Oper} {S : Value → Prop} {A : Value → World → Prop} (hi : ops[i]? = some oi) (him : i < m)
    (hsel : ∀ (j : Nat) (o : Oper) cs b, ops[j]? = some o → o.op ≠ .select cs b) :
    ∀ (fuel : Nat) (listed : Array Bool) (Γ : Tmp → World → Prop) (a : Act), listed.size = ops.size → (∀ s, St (Γ s)) →
      (∀ j oj, ops[j]? = some oj → j ≠ i → listed.getD j true = false → (∀ e ∈ oj.after, Region.binds .any e = true → e.on ≠ i) → oi.apart ops oj = true) →
      i ∈ Region.ready .any ops listed → opY P ops w0 SC AC i oi S A Γ a →
      (∀ v, S v → wpAnyR P ops w0 SC AC m Q fuel (listed.setIfInBounds i true) (upC Γ oi.dst (A v)) (a.put oi.dst v)) → wpAnyR P ops w0 SC AC m Q (fuel + 1) listed Γ a := by
  intro fuel
  induction fuel with
  | zero =>
    intro listed Γ a hsz hst hfree hr hy H hsat
    have hnd := not_done hi him hsz hr
    refine ⟨fun h => absurd (hnd.symm.trans h) Bool.false_ne_true, fun _ j hj hjm oj hoj => ?_⟩
    by_cases hji : j = i
    · subst hji
      rw [hi] at hoj; cases hoj
      exact opR_of_opY hy H
    · obtain ⟨v, hv, hsv⟩ := opY_sat hst hy hsat
      have hd := (H v hv hsv).1
      have hjl := (mem_ready.1 hj).1
      unfold doneB at hd
      rw [List.all_eq_true] at hd
      have h1 := hd j (List.mem_range.2 hjm)
      rw [getD_set_ne false (Ne.symm hji)] at h1
      have hlt : j < listed.size := by rw [hsz]; exact (Array.getElem?_eq_some_iff.1 hoj).1
      simp [hlt] at hjl h1
      rw [hjl] at h1; cases h1
  | succ fuel ih =>
    intro listed Γ a hsz hst hfree hr hy H hsat
    have hnd := not_done hi him hsz hr
    refine ⟨fun h => absurd (hnd.symm.trans h) Bool.false_ne_true, fun _ j hj hjm oj hoj => ?_⟩
    by_cases hji : j = i
    · subst hji
      rw [hi] at hoj; cases hoj
      exact opR_of_opY hy H
    · obtain ⟨hjun, oj', hoj', hall⟩ := mem_ready.1 hj
      rw [hoj] at hoj'; cases hoj'
      have hnot : ∀ e ∈ oj.after, Region.binds .any e = true → e.on ≠ i := fun e he hb heq => by
        have h1 := hall e he hb
        have h0 := (mem_ready.1 hr).1
        rw [heq] at h1
        have hlt : i < listed.size := by rw [hsz]; exact (Array.getElem?_eq_some_iff.1 hi).1
        simp [hlt] at h0 h1; rw [h0] at h1; cases h1
      obtain ⟨h1, h2, h3⟩ := Oper.apart_spec (hfree j oj hoj hji hjun hnot)
      have hfree' : ∀ k ok, ops[k]? = some ok → k ≠ i → (listed.setIfInBounds j true).getD k true = false →
          (∀ e ∈ ok.after, Region.binds .any e = true → e.on ≠ i) → oi.apart ops ok = true := fun k ok hk hki hun hno => by
        refine hfree k ok hk hki ?_ hno
        by_cases hjk : j = k
        · subst hjk; exact hjun
        · rw [getD_set_ne true hjk] at hun; exact hun
      have hr1 := ready_mono hj hji
      have hH : ∀ v, S v → Sat w0 (upC Γ oi.dst (A v)) → opR P ops w0 SC AC j oj (wpAnyR P ops w0 SC AC m Q fuel ((listed.setIfInBounds i true).setIfInBounds j true)) (upC Γ oi.dst (A v)) (a.put oi.dst v) :=
        fun v hv hs => (H v hv hs).2 (not_done hoj hjm (by simpa using hsz) hr1) j hr1 hjm oj hoj
      have hwj : ∀ v, Region.wanted oj (yielded ops (a.put oi.dst v).tmps) = Region.wanted oj (yielded ops a.tmps) := fun v => wanted_put oj a oi.dst v h1
      have hr2 := ready_mono hr (Ne.symm hji)
      have hsz2 : (listed.setIfInBounds j true).size = ops.size := by simpa using hsz
      unfold opR
      split
      · rename_i hwt
        split
        · rename_i hcall
          have hone : ∀ v, S v → Sat w0 (upC Γ oi.dst (A v)) → (∀ u, St (AC j u)) ∧ YC P ops w0 Γ oj (SC j) (AC j) a ∧
              ∀ u, SC j u → wpAnyR P ops w0 SC AC m Q fuel ((listed.setIfInBounds i true).setIfInBounds j true) (upC (upC Γ oi.dst (A v)) oj.dst (AC j u)) ((a.put oi.dst v).put oj.dst u) := fun v hv hs => by
            have := hH v hv hs
            unfold opR at this
            rw [hwj v, if_pos hwt, if_pos hcall] at this
            exact ⟨this.1, (YC_up (fun cs b => hsel j oj cs b hoj) h1).1 this.2.1, this.2.2⟩
          obtain ⟨v0, hv0, hs0⟩ := opY_sat hst hy hsat
          obtain ⟨g1, g2, _⟩ := hone v0 hv0 hs0
          refine ⟨g1, g2, fun u hu => ?_⟩
          refine ih (listed.setIfInBounds j true) _ _ hsz2 (St_up hst (g1 u)) hfree' hr2 (opY_up (fun cs b => hsel i oi cs b hi) h3 hy) fun v hv => ?_
          by_cases hs : Sat w0 (upC Γ oi.dst (A v))
          · have h4 := (hone v hv hs).2.2 u hu
            rw [Array.setIfInBounds_comm _ _ (Ne.symm hji)] at h4
            rw [Act.put_comm a v u h2] at h4
            exact wpAnyR_mono _ _ _ _ _ (upC_swap fun w _ hb => hb) h4
          · have : ¬ Sat w0 (upC (upC Γ oj.dst (AC j u)) oi.dst (A v)) := fun hx => hs (Sat_mono (fun s w hw => ⟨hw.1.1, hw.2⟩) hx)
            cases fuel <;> exact fun hx => absurd hx this
        · rename_i hcall
          have hH' : ∀ v, S v ∧ Sat w0 (upC Γ oi.dst (A v)) → ∃ (S' : Value → Prop) (A' : Value → World → Prop), (∀ u, St (A' u)) ∧ YN P ops w0 Γ oj S' A' a ∧
              ∀ u, S' u → wpAnyR P ops w0 SC AC m Q fuel ((listed.setIfInBounds i true).setIfInBounds j true) (upC (upC Γ oi.dst (A v)) oj.dst (A' u)) ((a.put oi.dst v).put oj.dst u) := fun v hv => by
            have := hH v hv.1 hv.2
            unfold opR at this
            rw [hwj v, if_pos hwt, if_neg hcall] at this
            obtain ⟨S', A', e2, e3, e4⟩ := this
            exact ⟨S', A', e2, (YN_up (fun cs b => hsel j oj cs b hoj) h1).1 e3, e4⟩
          refine ⟨fun u => ∀ v (hv : S v ∧ Sat w0 (upC Γ oi.dst (A v))), (Classical.choose (hH' v hv)) u, fun u w => ∀ v (hv : S v ∧ Sat w0 (upC Γ oi.dst (A v))), Classical.choose (Classical.choose_spec (hH' v hv)) u w, ?_, ?_, ?_⟩
          · intro u w w' ha hx v hv
            exact (Classical.choose_spec (Classical.choose_spec (hH' v hv))).1 u w w' (ha v hv) hx
          · intro w hw' hg
            have each : ∀ v (hv : S v ∧ Sat w0 (upC Γ oi.dst (A v))), UponN w (Classical.choose (hH' v hv)) (Classical.choose (Classical.choose_spec (hH' v hv))) ((execOp a.eval oj).run P w) :=
              fun v hv => (Classical.choose_spec (Classical.choose_spec (hH' v hv))).2.1 w hw' hg
            obtain ⟨v0, hv0, hs0⟩ := opY_sat hst hy hsat
            have e0 := each v0 ⟨hv0, hs0⟩
            generalize (execOp a.eval oj).run P w = r at e0 each
            cases r with
            | halt => exact e0.elim
            | ok n w' =>
              cases n <;> try exact e0.elim
              all_goals exact ⟨e0.1, fun v hv => (each v hv).2.1, fun v hv => (each v hv).2.2⟩
          · intro u hu
            refine ih (listed.setIfInBounds j true) _ _ hsz2 (St_up hst ?_) hfree' hr2 (opY_up (fun cs b => hsel i oi cs b hi) h3 hy) fun v hv => ?_
            · intro w w' ha hx v hv
              exact (Classical.choose_spec (Classical.choose_spec (hH' v hv))).1 u w w' (ha v hv) hx
            · by_cases hs : Sat w0 (upC Γ oi.dst (A v))
              · have h4 := (Classical.choose_spec (Classical.choose_spec (hH' v ⟨hv, hs⟩))).2.2 u (hu v ⟨hv, hs⟩)
                rw [Array.setIfInBounds_comm _ _ hji, ← Act.put_comm a v u h2]
                exact wpAnyR_mono _ _ _ _ _ (upC_swap fun w _ hb => hb v ⟨hv, hs⟩) h4
              · have : ¬ Sat w0 (upC (upC Γ oj.dst (fun w => ∀ v (hv : S v ∧ Sat w0 (upC Γ oi.dst (A v))), Classical.choose (Classical.choose_spec (hH' v hv)) u w)) oi.dst (A v)) := fun hx => hs (Sat_mono (fun s w hw => ⟨hw.1.1, hw.2⟩) hx)
                cases fuel <;> exact fun hx => absurd hx this
      · rename_i hwt
        refine ih (listed.setIfInBounds j true) _ _ hsz2 (St_up hst St.top) hfree' hr2 (opY_up (fun cs b => hsel i oi cs b hi) h3 hy) fun v hv => ?_
        by_cases hs : Sat w0 (upC Γ oi.dst (A v))
        · have h4 := hH v hv hs
          unfold opR at h4
          rw [hwj v, if_neg hwt, Array.setIfInBounds_comm _ _ (Ne.symm hji), Act.put_comm a v undef h2] at h4
          exact wpAnyR_mono _ _ _ _ _ (upC_swap fun _ _ h => h) h4
        · have : ¬ Sat w0 (upC (upC Γ oj.dst fun _ => True) oi.dst (A v)) := fun hx => hs (Sat_mono (fun s w hw => ⟨hw.1.1, hw.2⟩) hx)
          cases fuel <;> exact fun hx => absurd hx this

/-- Every operation waits only for earlier ones; those from m on wait for all earlier ones. -/
def predsB (ops : Array Oper) : Bool := (List.range ops.size).all fun k => ((ops[k]?).map fun o => o.after.all fun e => !Region.binds .any e || decide (e.on < k)).getD true
def onB (ops : Array Oper) (j k : Nat) : Bool := ((ops[j]?).map fun o => o.after.any fun e => Region.binds .any e && e.on == k).getD false
/-- Which of the operations below m are needed by m, told from m - 1 downwards: 'acc' has the needed ones. -/
def needFrom (ops : Array Oper) : Nat → List Nat → Bool
  | 0, _ => true
  | k + 1, acc => acc.any (fun j => onB ops j k) && needFrom ops k (k :: acc)
def tailB (ops : Array Oper) (m : Nat) : Bool := decide (ops.size ≤ m) || (needFrom ops m [m] && (List.range ops.size).all fun t => decide (t ≤ m) || onB ops t (t - 1))
def lexToB (ops : Array Oper) : Nat → Nat → Array Bool → Bool
  | 0, _, _ => true
  | fuel + 1, k, listed => (Region.ready .any ops listed).contains k && Region.free .any ops listed k && lexToB ops fuel (k + 1) (listed.setIfInBounds k true)
def relB (ops : Array Oper) (m : Nat) : Bool := decide (m ≤ ops.size) && Region.noSelect ops && predsB ops && tailB ops m && lexToB ops m 0 (Array.replicate ops.size false)

def Closed (ops : Array Oper) (listed : Array Bool) : Prop := ∀ j o, ops[j]? = some o → listed.getD j false = true → ∀ e ∈ o.after, Region.binds .any e = true → listed.getD e.on false = true

theorem onB_spec {j k : Nat} (h : onB ops j k = true) : ∃ o e, ops[j]? = some o ∧ e ∈ o.after ∧ Region.binds .any e = true ∧ e.on = k := by
  unfold onB at h
  cases ho : ops[j]? with
  | none => simp [ho] at h
  | some o =>
    simp only [ho, Option.map_some, Option.getD_some] at h
    obtain ⟨e, he, hb⟩ := Array.any_eq_true'.1 h
    simp only [Bool.and_eq_true, beq_iff_eq] at hb
    exact ⟨o, e, rfl, he, hb.1, hb.2⟩

theorem need_all {listed : Array Bool} (hc : Closed ops listed) : ∀ (k : Nat) (acc : List Nat), needFrom ops k acc = true →
    (∀ j ∈ acc, ∀ o e, ops[j]? = some o → e ∈ o.after → Region.binds .any e = true → listed.getD e.on false = true) → ∀ i, i < k → listed.getD i false = true
  | 0, _, _, _, _, hi => absurd hi (Nat.not_lt_zero _)
  | k + 1, acc, h, hacc, i, hi => by
    simp only [needFrom, Bool.and_eq_true, List.any_eq_true] at h
    obtain ⟨⟨j, hj, hon⟩, hrest⟩ := h
    obtain ⟨o, e, ho, he, hb, hk⟩ := onB_spec hon
    have hkl : listed.getD k false = true := hk ▸ hacc j hj o e ho he hb
    by_cases hik : i = k
    · subst hik; exact hkl
    · refine need_all hc k (k :: acc) hrest ?_ i (by omega)
      intro j' hj' o' e' ho' he' hb'
      rcases List.mem_cons.1 hj' with rfl | hj'
      · exact hc _ o' ho' hkl e' he' hb'
      · exact hacc j' hj' o' e' ho' he' hb'

theorem Closed.set {listed : Array Bool} {i : Nat} (hc : Closed ops listed) (hr : i ∈ Region.ready .any ops listed) : Closed ops (listed.setIfInBounds i true) := by
  intro j o ho hl e he hb
  apply getD_set_true
  by_cases hij : i = j
  · subst hij
    obtain ⟨_, o', ho', hall⟩ := mem_ready.1 hr
    rw [ho] at ho'; cases ho'
    exact hall e he hb
  · rw [getD_set_ne false hij] at hl
    exact hc j o ho hl e he hb

theorem upon_sound {m : Nat} {Q : Exit → Act → World → Prop} {K : (Tmp → World → Prop) → Act → Prop} {K' : Act → World → Prop} {i : Nat} {o : Oper} {Γ : Tmp → World → Prop} {a : Act} {w : World}
    (hi : ops[i]? = some o) (hx : Ext w0 w) (hst : ∀ s, St (Γ s)) (hg : ∀ s, Γ s w) (h : opR P ops w0 SC AC i o K Γ a)
    (hK : ∀ G a w, Ext w0 w → (∀ s, St (G s)) → (∀ s, G s w) → K G a → K' a w) (_ : m = m) : wpOp P ops Q i K' a w := by
  unfold wpOp
  simp only [hi]
  unfold opR at h
  split
  · rename_i hw
    rw [if_pos hw] at h
    left
    split at h
    · obtain ⟨hA, hY, hn⟩ := h
      have h1 := hY w hx fun s _ => hg s
      unfold Oper.wp
      generalize (execOp a.eval o).run P w = r at h1
      cases r with
      | halt => exact h1.elim
      | ok n w' =>
        cases n <;> try exact h1.elim
        refine Calls.mono h1 ?_
        rintro e w'' ⟨v, rfl, hx', hS, hAv⟩
        exact hK _ _ _ (hx.trans hx') (St_up hst (hA v)) (fun s => ⟨hst s w w'' (hg s) hx', fun _ => hAv⟩) (hn v hS)
    · obtain ⟨S, A, hA, hY, hn⟩ := h
      have h1 := hY w hx fun s _ => hg s
      unfold Oper.wp
      generalize (execOp a.eval o).run P w = r at h1
      cases r with
      | halt => exact h1.elim
      | ok n w' =>
        cases n <;> try exact h1.elim
        all_goals
          obtain ⟨hx', hS, hAv⟩ := h1
          exact hK _ _ _ (hx.trans hx') (St_up hst (hA _)) (fun s => ⟨hst s w w' (hg s) hx', fun _ => hAv⟩) (hn _ hS)
  · rename_i hw
    rw [if_neg hw] at h
    exact hK _ _ _ hx (St_up hst St.top) (fun s => ⟨hg s, fun _ => trivial⟩) h

theorem wpAnyR_sound {m : Nat} {Q : Exit → Act → World → Prop} (hp : predsB ops = true) (ht : tailB ops m = true) (hm : m ≤ ops.size) :
    ∀ (fuel : Nat) (listed : Array Bool) (Γ : Tmp → World → Prop) (a : Act) (w : World), listed.size = ops.size → Closed ops listed → Ext w0 w → (∀ s, St (Γ s)) → (∀ s, Γ s w) →
      wpAnyR P ops w0 SC AC m Q fuel listed Γ a → wpAny P .any ops Q fuel listed a w := by
  intro fuel
  induction fuel with
  | zero => intro listed Γ a w _ _ hx _ hg h; exact (h ⟨w, hx, hg⟩).2 w hx hg
  | succ fuel ih =>
    intro listed Γ a w hsz hcl hx hst hg h
    have h' := h ⟨w, hx, hg⟩
    cases hd : doneB m listed with
    | true => exact h'.1 hd w hx hg
    | false =>
      -- the least one that is not listed is ready
      have hleast : ∃ k, k < m ∧ k ∈ Region.ready .any ops listed := by
        have hex : ∃ k, k < m ∧ listed.getD k false = false := by
          unfold doneB at hd
          rw [List.all_eq_false] at hd
          obtain ⟨k, hk, hkf⟩ := hd
          exact ⟨k, List.mem_range.1 hk, by simpa using hkf⟩
        have hmin : ∀ n k, k ≤ n → k < m → listed.getD k false = false → ∃ k, k < m ∧ listed.getD k false = false ∧ ∀ j, j < k → listed.getD j false = true := by
          intro n
          induction n with
          | zero => intro k hk hkm hkf; exact ⟨k, hkm, hkf, fun j hj => by omega⟩
          | succ n ihn =>
            intro k hk hkm hkf
            by_cases hall : ∀ j, j < k → listed.getD j false = true
            · exact ⟨k, hkm, hkf, hall⟩
            · simp only [Classical.not_forall] at hall
              obtain ⟨j, hj, hjf⟩ := hall
              exact ihn j (by omega) (by omega) (by simpa using hjf)
        obtain ⟨k0, h1, h2⟩ := hex
        obtain ⟨k, hkm, hkf, hall⟩ := hmin k0 k0 (Nat.le_refl _) h1 h2
        have hlt : k < ops.size := by omega
        refine ⟨k, hkm, mem_ready.2 ⟨?_, ops[k], Array.getElem?_eq_getElem hlt, fun e he hb => hall _ ?_⟩⟩
        · have : k < listed.size := by omega
          simp [this] at hkf ⊢
          exact hkf
        · unfold predsB at hp
          rw [List.all_eq_true] at hp
          have h3 := hp k (List.mem_range.2 hlt)
          simp only [Array.getElem?_eq_getElem hlt, Option.map_some, Option.getD_some, Array.all_eq_true_iff_forall_mem] at h3
          have h4 := h3 e he
          simpa [hb] using h4
      refine ⟨fun h0 => ?_, fun i hi => ?_⟩
      · obtain ⟨k, _, hk⟩ := hleast
        rw [h0] at hk; cases hk
      · obtain ⟨hiun, o, ho, hall⟩ := mem_ready.1 hi
        have him : i < m := by
          apply Classical.byContradiction
          intro hge
          have hilt : i < ops.size := (Array.getElem?_eq_some_iff.1 ho).1
          unfold tailB at ht
          have hmlt : ¬ ops.size ≤ m := by omega
          simp only [hmlt, decide_false, Bool.false_or, Bool.and_eq_true, List.all_eq_true, List.mem_range, Bool.or_eq_true, decide_eq_true_eq] at ht
          obtain ⟨hneed, htail⟩ := ht
          -- m is i, or is listed: all below it are then
          have hmdone : ∀ t, m ≤ t → t < ops.size → (∀ o, ops[t]? = some o → ∀ e ∈ o.after, Region.binds .any e = true → listed.getD e.on false = true) →
              ∀ o, ops[m]? = some o → ∀ e ∈ o.after, Region.binds .any e = true → listed.getD e.on false = true := by
            intro t
            induction t with
            | zero =>
              intro hmt ht0 hh
              have hm0 : m = 0 := by omega
              subst hm0
              exact hh
            | succ t iht =>
              intro hmt ht0 hh
              by_cases hmt' : m = t + 1
              · subst hmt'; exact hh
              · have h5 := (htail (t + 1) ht0).resolve_left (by omega)
                obtain ⟨o5, e5, ho5, he5, hb5, hk5⟩ := onB_spec h5
                have h6 := hh o5 ho5 e5 he5 hb5
                rw [hk5] at h6
                exact iht (by omega) (by omega) fun o' ho' => hcl t o' ho' h6
          have hpre := hmdone i (by omega) hilt fun o' ho' => by rw [ho] at ho'; cases ho'; exact hall
          have hall' := need_all hcl m [m] hneed fun j hj o' e' ho' he' hb' => by
            rcases List.mem_cons.1 hj with rfl | hj
            · exact hpre o' ho' e' he' hb'
            · cases hj
          have : doneB m listed = true := by
            unfold doneB
            rw [List.all_eq_true]
            exact fun k hk => hall' k (List.mem_range.1 hk)
          rw [hd] at this; cases this
        exact upon_sound (m := m) ho hx hst hg (h'.2 hd i hi him o ho) (fun G a w hx hG hg hk => ih _ G a w (by simpa using hsz) (Closed.set hcl hi) hx hG hg hk) rfl

/-- The array of which just the first k are listed. -/
def firstL (n k : Nat) : Array Bool := (List.range k).foldl (fun l i => l.setIfInBounds i true) (Array.replicate n false)

theorem firstL_succ (n k : Nat) : firstL n (k + 1) = (firstL n k).setIfInBounds k true := by
  unfold firstL; rw [List.range_succ, List.foldl_append]; rfl
theorem firstL_size (n k : Nat) : (firstL n k).size = n := by
  induction k with
  | zero => simp [firstL]
  | succ k ih => rw [firstL_succ]; simpa using ih
theorem firstL_get (n : Nat) : ∀ k i, i < k → k ≤ n → (firstL n k).getD i false = true := by
  intro k
  induction k with
  | zero => intro i hi; omega
  | succ k ih =>
    intro i hi hk
    rw [firstL_succ]
    by_cases h : k = i
    · subst h
      have hs : k < (firstL n k).size := by rw [firstL_size]; omega
      simp [hs]
    · rw [getD_set_ne false h]; exact ih i (by omega) (by omega)

theorem wpAnyR_lex {m extra : Nat} {Q : Exit → Act → World → Prop} (hs : Region.noSelect ops = true) (hm : m ≤ ops.size) : ∀ (l : List Oper) (k : Nat) (Γ : Tmp → World → Prop) (a : Act),
    (∀ j, j < l.length → l[j]? = ops[k + j]?) → k + l.length = m → (∀ s, St (Γ s)) → lexToB ops l.length k (firstL ops.size k) = true →
    LX P ops w0 SC AC (fun a w => wpAny P .any ops Q extra (firstL ops.size m) a w) k l Γ a → wpAnyR P ops w0 SC AC m Q (l.length + extra) (firstL ops.size k) Γ a
  | [], k, Γ, a, _, hkm, _, _, h => by
    have hkm' : k = m := by simpa using hkm
    subst hkm'
    have hd : doneB k (firstL ops.size k) = true := by
      unfold doneB
      rw [List.all_eq_true]
      exact fun i hi => firstL_get _ k i (List.mem_range.1 hi) hm
    cases extra with
    | zero => exact fun _ => ⟨hd, h⟩
    | succ e => 
      show wpAnyR P ops w0 SC AC k Q (0 + (e + 1)) _ _ _
      rw [Nat.zero_add]
      exact fun _ => ⟨fun _ => h, fun hf => absurd (hd.symm.trans hf) (by simp)⟩
  | o :: l, k, Γ, a, hl, hkm, hst, hB, h => by
    have h0 : ops[k]? = some o := by simpa using (hl 0 (by simp)).symm
    simp only [List.length_cons, lexToB, Bool.and_eq_true] at hB
    obtain ⟨⟨hr, hf⟩, hB'⟩ := hB
    rw [← firstL_succ] at hB'
    have hr' : k ∈ Region.ready .any ops (firstL ops.size k) := by simpa using hr
    have hrec : ∀ G b, (∀ s, St (G s)) → LX P ops w0 SC AC (fun a w => wpAny P .any ops Q extra (firstL ops.size m) a w) (k + 1) l G b →
        wpAnyR P ops w0 SC AC m Q (l.length + extra) ((firstL ops.size k).setIfInBounds k true) G b := fun G b hG hh => by
      rw [← firstL_succ]
      refine wpAnyR_lex hs hm l (k + 1) G b (fun j hj => ?_) (by simp at hkm; omega) hG hB' hh
      have := hl (j + 1) (by simp; omega)
      simpa [Nat.add_assoc, Nat.add_comm 1 j] using this
    have hlen : (o :: l).length + extra = (l.length + extra) + 1 := by simp; omega
    rw [hlen]
    have hkm2 : k < m := by simp at hkm; omega
    have hh : opR P ops w0 SC AC k o (LX P ops w0 SC AC (fun a w => wpAny P .any ops Q extra (firstL ops.size m) a w) (k + 1) l) Γ a := h
    have go : ∀ S A, opY P ops w0 SC AC k o S A Γ a → (∀ v, S v → LX P ops w0 SC AC (fun a w => wpAny P .any ops Q extra (firstL ops.size m) a w) (k + 1) l (upC Γ o.dst (A v)) (a.put o.dst v)) →
        wpAnyR P ops w0 SC AC m Q (l.length + extra + 1) (firstL ops.size k) Γ a := fun S A hy hn =>
      wpAnyR_first h0 hkm2 (Region.noSelect_spec hs) _ _ _ _ (firstL_size _ _) hst (Region.free_spec h0 hf) hr' hy fun v hv => hrec _ _ (St_up hst (hy.1 v)) (hn v hv)
    by_cases hw : Region.wanted o (yielded ops a.tmps) = true
    · unfold opR at hh
      rw [if_pos hw] at hh
      split at hh
      · rename_i hc
        obtain ⟨hA, hY, hn⟩ := hh
        exact go _ _ ⟨hA, .inl ⟨hw, hc, rfl, rfl, hY⟩⟩ hn
      · rename_i hc
        obtain ⟨S, A, hA, hY, hn⟩ := hh
        exact go S A ⟨hA, .inr (.inl ⟨hw, by simpa using hc, hY⟩)⟩ hn
    · unfold opR at hh
      rw [if_neg hw] at hh
      exact go (fun v => v = undef) (fun _ _ => True) ⟨fun _ => St.top, .inr (.inr ⟨by simpa using hw, rfl, rfl⟩)⟩ fun v hv => by subst hv; exact hh

/-- From m on the order is forced. -/
def forcedB (ops : Array Oper) : Nat → Nat → Bool
  | 0, t => (Region.ready .any ops (firstL ops.size t)).isEmpty
  | fuel + 1, t => Region.ready .any ops (firstL ops.size t) == [t] && forcedB ops fuel (t + 1)

theorem tail_sound {Q : Exit → Act → World → Prop} : ∀ (l : List Oper) (t : Nat) (a : Act) (w : World), (∀ j, j < l.length → l[j]? = ops[t + j]?) → forcedB ops l.length t = true →
    wpList P ops Q l a w → wpAny P .any ops Q l.length (firstL ops.size t) a w
  | [], t, a, w, _, hf, h => ⟨by simpa [forcedB] using hf, h⟩
  | o :: l, t, a, w, hl, hf, h => by
    have h0 : ops[t]? = some o := by simpa using (hl 0 (by simp)).symm
    simp only [List.length_cons, forcedB, Bool.and_eq_true, beq_iff_eq] at hf
    have hrec : ∀ b v, wpList P ops Q l b v → wpAny P .any ops Q l.length ((firstL ops.size t).setIfInBounds t true) b v := fun b v hh => by
      rw [← firstL_succ]
      refine tail_sound l (t + 1) b v (fun j hj => ?_) hf.2 hh
      have := hl (j + 1) (by simp; omega)
      simpa [Nat.add_assoc, Nat.add_comm 1 j] using this
    refine ⟨fun h1 => ?_, fun i hi => ?_⟩
    · rw [hf.1] at h1; cases h1
    · rw [hf.1] at hi
      obtain rfl : i = t := by simpa using hi
      unfold wpOp
      simp only [h0]
      unfold wpList at h
      split
      · rename_i hw
        rw [if_pos hw] at h
        exact h.imp (Oper.wp_mono hrec) id
      · rename_i hw
        rw [if_neg hw] at h
        exact hrec _ _ h

/-- **A region that draws its order**: the first m operations by the walk in the order of the text, each known up to a predicate; then the others, in order. -/
theorem wp_region_rel {id : Nat} {l : List Oper} {a : Act} {w : World} {Q : Exit → Act → World → Prop} (m : Nat) (SC : Nat → Value → Prop) (AC : Nat → Value → World → Prop)
    (hm : P.follows .mixedOrders = true) (hB : relB l.toArray m = true) (hF : forcedB l.toArray (l.drop m).length m = true)
    (h : LX P l.toArray w SC AC (fun a' w' => wpList P l.toArray Q (l.drop m) a' w') 0 (l.take m) (fun _ _ => True) a) : (Code.region id l.toArray true).wp P Q a w := by
  simp only [relB, Bool.and_eq_true, decide_eq_true_eq] at hB
  obtain ⟨⟨⟨⟨h1, h2⟩, h3⟩, h4⟩, h5⟩ := hB
  have hml : m ≤ l.length := by simpa using h1
  refine wp_region_any hm ?_
  have hlen : (l.take m).length = m := by simp [hml]
  have htail : ∀ a w, wpList P l.toArray Q (l.drop m) a w → wpAny P .any l.toArray Q (l.drop m).length (firstL l.toArray.size m) a w := fun a w =>
    tail_sound (l.drop m) m a w (fun j _ => by simp) hF
  have hmono : ∀ (r : List Oper) i Γ b, LX P l.toArray w SC AC (fun a' w' => wpList P l.toArray Q (l.drop m) a' w') i r Γ b →
      LX P l.toArray w SC AC (fun a' w' => wpAny P .any l.toArray Q (l.drop m).length (firstL l.toArray.size m) a' w') i r Γ b := by
    intro r
    induction r with
    | nil => intro i Γ b hh w' hx hg; exact htail _ _ (hh w' hx hg)
    | cons o r ih => intro i Γ b hh; exact opR_mono (fun _ _ x => x) (fun G G' a hG hk => ih _ _ _ (by
        have hlx : ∀ (r : List Oper) i (G G' : Tmp → World → Prop) b, (∀ s w, G s w → G' s w) → LX P l.toArray w SC AC (fun a' w' => wpList P l.toArray Q (l.drop m) a' w') i r G' b → LX P l.toArray w SC AC (fun a' w' => wpList P l.toArray Q (l.drop m) a' w') i r G b := by
          intro r
          induction r with
          | nil => intro i G G' b hG hh w' hx hg; exact hh w' hx fun s => hG s w' (hg s)
          | cons o r ih => intro i G G' b hG hh; exact opR_mono hG (fun _ _ _ h k => ih _ _ _ _ h k) hh
        exact hlx r _ G G' a hG hk)) hh
  have key := wpAnyR_lex (SC := SC) (AC := AC) (Q := Q) (extra := (l.drop m).length) (m := m) h2 (by simpa using hml) (l.take m) 0 (fun _ _ => True) a
    (fun j hj => by simp only [List.length_take] at hj; rw [List.getElem?_take, if_pos (by omega)]; simp) (by omega) (fun _ => St.top) (by rw [hlen]; exact h5) (hmono _ _ _ _ h)
  have hsound := wpAnyR_sound (P := P) (m := m) (Q := Q) h3 h4 (by simpa using hml) _ (firstL l.toArray.size 0) (fun _ _ => True) a w.drew (firstL_size _ _)
    (fun j o ho hl0 => by
      have : (firstL l.toArray.size 0).getD j false = false := by
        simp only [firstL, List.range_zero, List.foldl_nil, Array.getD_eq_getD_getElem?, Array.getElem?_replicate]
        split <;> rfl
      rw [this] at hl0; cases hl0) (Ext.drewN w 1) (fun _ => St.top) (fun _ => trivial) key
  have hsize : (l.take m).length + (l.drop m).length = l.toArray.size := by simp; omega
  rw [hsize] at hsound
  exact hsound

/-! ### The steps of the walk in the order of the text -/
theorem LX_call {Q : Act → World → Prop} {i : Nat} {o : Oper} {rest : List Oper} {Γ : Tmp → World → Prop} {a : Act} (hw : Region.wanted o (yielded ops a.tmps) = true) (hc : isCallB o = true) (hA : ∀ v, St (AC i v))
    (hY : YC P ops w0 Γ o (SC i) (AC i) a) (hn : ∀ v, SC i v → LX P ops w0 SC AC Q (i + 1) rest (upC Γ o.dst (AC i v)) (a.put o.dst v)) : LX P ops w0 SC AC Q i (o :: rest) Γ a := by
  unfold LX opR; rw [if_pos hw, if_pos hc]; exact ⟨hA, hY, hn⟩
theorem LX_det {Q : Act → World → Prop} {i : Nat} {o : Oper} {rest : List Oper} {Γ : Tmp → World → Prop} {a : Act} (v : Value) (hw : Region.wanted o (yielded ops a.tmps) = true) (hc : isCallB o = false)
    (hY : ∀ w, Ext w0 w → (∀ s ∈ o.looksAt ops, Γ s w) → (execOp a.eval o).run P w = .ok (.value v) w) (hn : LX P ops w0 SC AC Q (i + 1) rest (upC Γ o.dst fun _ => True) (a.put o.dst v)) : LX P ops w0 SC AC Q i (o :: rest) Γ a := by
  unfold LX opR; rw [if_pos hw, if_neg (by simp [hc])]
  exact ⟨fun u => u = v, fun _ _ => True, fun _ => St.top, fun w hx hg => by rw [hY w hx hg]; exact ⟨Ext.refl _, rfl, trivial⟩, fun u hu => by subst hu; exact hn⟩
theorem LX_skip {Q : Act → World → Prop} {i : Nat} {o : Oper} {rest : List Oper} {Γ : Tmp → World → Prop} {a : Act} (hw : Region.wanted o (yielded ops a.tmps) = false)
    (hn : LX P ops w0 SC AC Q (i + 1) rest (upC Γ o.dst fun _ => True) (a.put o.dst undef)) : LX P ops w0 SC AC Q i (o :: rest) Γ a := by
  unfold LX opR; rw [if_neg (by simp [hw])]; exact hn
theorem LX_nil {Q : Act → World → Prop} {i : Nat} {Γ : Tmp → World → Prop} {a : Act} (h : ∀ w, Ext w0 w → (∀ s, Γ s w) → Q a w) : LX P ops w0 SC AC Q i [] Γ a := h
end
end Go.Proofs.Ytmcnfapdghoenaa
