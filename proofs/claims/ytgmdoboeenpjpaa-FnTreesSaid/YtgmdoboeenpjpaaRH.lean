
/- A step that makes a box, in a region that draws its order. No condition. -/
import Derived.Test.YtgmdoboeenpjpaaRg
import Derived.Test.YtgmdoboeenpjpaaEM
import Derived.OrdersIn
import Derived.RangeFuncCalls
namespace Go.Proofs.Ytgmdoboeenpjpaa
open Go Go.RowKit

/-- A block of the region's own. -/
def NewB (w0 : World) (zs : List Value) (t : TypeId) (v : Value) (w : World) : Prop := ∃ b, v = .pointer (some ⟨b, 0, none⟩) ∧ w0.heap.size ≤ b ∧ w.heap[b]? = some (.cells zs.toArray t (0, 0))
theorem NewB.st (w0 : World) (zs : List Value) (t : TypeId) (v : Value) : St (NewB w0 zs t v) := fun w w' ⟨b, h1, h2, h3⟩ hx => by
  have hlt := (Array.getElem?_eq_some_iff.1 h3).1
  exact ⟨b, h1, h2, by rw [hx.block b hlt]; exact h3⟩
theorem NewB.cell {w0 w : World} {zs : List Value} {t : TypeId} {b : Nat} (h : NewB w0 zs t (.pointer (some ⟨b, 0, none⟩)) w) (j : Nat) : w.cell? ⟨b, j, none⟩ = zs[j]? := by
  obtain ⟨b', e, _, h3⟩ := h
  simp at e; subst e
  rw [cell_of_row w b j zs.toArray t (0, 0) h3]; simp
theorem NewB.frozen {w0 w : World} {zs : List Value} {t : TypeId} {b : Nat} (h : NewB w0 zs t (.pointer (some ⟨b, 0, none⟩)) w) (j : Nat) : w.frozen? ⟨b, j, none⟩ = false := by
  obtain ⟨b', e, _, h3⟩ := h
  simp at e; subst e
  exact frozen_of_row w b j zs.toArray t h3

/-- A slice of the region's own. -/
def NewS (w0 : World) (zs : List Value) (t : TypeId) (n : Nat) (v : Value) (w : World) : Prop := ∃ b, v = .slice (some ⟨b, 0, none⟩) n n ∧ w0.heap.size ≤ b ∧ w.heap[b]? = some (.cells zs.toArray t (0, 0))
theorem NewS.st (w0 : World) (zs : List Value) (t : TypeId) (n : Nat) (v : Value) : St (NewS w0 zs t n v) := fun w w' ⟨b, h1, h2, h3⟩ hx => by
  have hlt := (Array.getElem?_eq_some_iff.1 h3).1
  exact ⟨b, h1, h2, by rw [hx.block b hlt]; exact h3⟩
theorem NewS.bx {w0 w : World} {zs : List Value} {t : TypeId} {n b : Nat} (h : NewS w0 zs t n (.slice (some ⟨b, 0, none⟩) n n) w) : Bx w b zs := by
  obtain ⟨b', e, _, h3⟩ := h
  simp at e; subst e
  exact ⟨(Array.getElem?_eq_some_iff.1 h3).1, fun j _ => by rw [cell_of_row w b j zs.toArray t (0, 0) h3]; simp⟩

section
variable {P : Program} {ops : Array Oper} {w0 : World} {SC : Nat → Value → Prop} {AC : Nat → Value → World → Prop}
theorem LX_alloc (zs : List Value) (t : TypeId) {Q : Act → World → Prop} {i : Nat} {o : Oper} {rest : List Oper} {Γ : Tmp → World → Prop} {a : Act} (hw : Region.wanted o (yielded ops a.tmps) = true) (hc : isCallB o = false)
    (hY : ∀ w, Ext w0 w → (execOp a.eval o).run P w = .ok (.value (.pointer (some ⟨w.heap.size, 0, none⟩))) (w.alloc (.cells zs.toArray t)))
    (hn : ∀ b, w0.heap.size ≤ b → LX P ops w0 SC AC Q (i + 1) rest (upC Γ o.dst (NewB w0 zs t (.pointer (some ⟨b, 0, none⟩)))) (a.put o.dst (.pointer (some ⟨b, 0, none⟩)))) : LX P ops w0 SC AC Q i (o :: rest) Γ a := by
  unfold LX opR
  rw [if_pos hw, if_neg (by simp [hc])]
  refine ⟨fun v => ∃ b, v = .pointer (some ⟨b, 0, none⟩) ∧ w0.heap.size ≤ b, fun v => NewB w0 zs t v, NewB.st w0 zs t, fun w hx _ => ?_, ?_⟩
  · rw [hY w hx]
    exact ⟨Ext.alloc _ _, ⟨_, rfl, hx.size⟩, _, rfl, hx.size, heap_alloc_new w _⟩
  · rintro _ ⟨b, rfl, hb⟩
    exact hn b hb
theorem LX_build (zs : List Value) (t : TypeId) (n : Nat) {Q : Act → World → Prop} {i : Nat} {o : Oper} {rest : List Oper} {Γ : Tmp → World → Prop} {a : Act} (hw : Region.wanted o (yielded ops a.tmps) = true) (hc : isCallB o = false)
    (hY : ∀ w, Ext w0 w → (execOp a.eval o).run P w = .ok (.value (.slice (some ⟨w.heap.size, 0, none⟩) n n)) (w.alloc (.cells zs.toArray t)))
    (hn : ∀ b, w0.heap.size ≤ b → LX P ops w0 SC AC Q (i + 1) rest (upC Γ o.dst (NewS w0 zs t n (.slice (some ⟨b, 0, none⟩) n n))) (a.put o.dst (.slice (some ⟨b, 0, none⟩) n n))) : LX P ops w0 SC AC Q i (o :: rest) Γ a := by
  unfold LX opR
  rw [if_pos hw, if_neg (by simp [hc])]
  refine ⟨fun v => ∃ b, v = .slice (some ⟨b, 0, none⟩) n n ∧ w0.heap.size ≤ b, fun v => NewS w0 zs t n v, NewS.st w0 zs t n, fun w hx _ => ?_, ?_⟩
  · rw [hY w hx]
    exact ⟨Ext.alloc _ _, ⟨_, rfl, hx.size⟩, _, rfl, hx.size, heap_alloc_new w _⟩
  · rintro _ ⟨b, rfl, hb⟩
    exact hn b hb
end
/-- A row of one type is no block of another. -/
theorem own_ne {w : World} {base n g cap B : Nat} {e t : TypeId} {xs : List Value} {cs : Array Value} (h : w.ownsRow base e 1 (.slice (some ⟨g, 0, none⟩) n cap) n xs) (hB : w.heap[B]? = some (.cells cs t (0, 0))) (ht : e ≠ t) : g ≠ B := by
  rintro rfl
  rcases h.2 with ⟨h', _⟩ | ⟨g', cap', cur, h', _, hg, _⟩
  · simp at h'
  · simp only [Value.slice.injEq, Option.some.injEq, Addr.mk.injEq, and_true, true_and] at h'
    obtain ⟨rfl, rfl⟩ := h'
    rw [hg] at hB
    simp at hB
    exact ht hB.2

/-- append of one element to a slice of the call's own: no other block turns. -/
theorem wpList_pushB {P : Program} {ops : Array Oper} {rest : List Oper} {o : Oper} {a : Act} {w : World} {Q : Exit → Act → World → Prop} {s x : Operand} {t e : TypeId} {z u : Value} {bytes : Nat} {base n : Nat} {v : Value} {xs : List Value} {blk c : Nat}
    (hinfo : (P.info? e).map (fun i => (i.zero, i.size, i.bytes)) = some (some z, 1, bytes)) (hz : z.cells.size = 1) (ht : P.underlying t = some (.slice e))
    (hgd : o.guard = none) (ho : o.op = .call { callee := .builtin .append, args := #[s, x], argTypes := #[t, t] })
    (hs : a.eval s = v) (hown : w.ownsRow base e 1 v n xs) (hx : a.eval x = .slice (some ⟨blk, 0, none⟩) 1 c) (hu : w.cell? ⟨blk, 0, none⟩ = some u) (hu1 : u.oneCell' = true)
    (hn : n + 1 ≤ 8796093022208) (hb16 : bytes ≤ 16) (hbase : base ≤ w.heap.size)
    (h : ∀ g cap w', base ≤ g → w'.ownsRow base e 1 (.slice (some ⟨g, 0, none⟩) (n + 1) cap) (n + 1) (xs ++ [u]) → (∀ W, Below base W w → Below base W w') → w.heap.size ≤ w'.heap.size → (∀ k, k < w.heap.size → some k ≠ v.ownBlock → w'.heap[k]? = w.heap[k]?) →
      wpList P ops Q rest (a.put o.dst (.slice (some ⟨g, 0, none⟩) (n + 1) cap)) w') : wpList P ops Q (o :: rest) a w := by
  obtain ⟨i, hi, h1, h2, h3⟩ := info_parts hinfo
  refine wpList_append_own w hgd s x t ho base e i z 1 bytes ht hi h1 h2 h3 hz (by omega) v n xs hs hown ⟨blk, 0, none⟩ 1 c [u] hx rfl ?_ ?_ ?_ ?_ hbase ?_
  · intro j u' hj
    cases j with
    | zero => simp at hj; subst hj; simpa [Addr.add] using hu
    | succ j => simp at hj
  · intro u' hu'; simp at hu'; subst hu'; exact hu1
  · simp only [maxLen]; omega
  · have : (n + 1) * bytes ≤ 8796093022208 * 16 := Nat.mul_le_mul hn hb16
    omega
  · intro v' w' hown' hg hh
    obtain ⟨g, cap, rfl, hbg, _⟩ := own_head hown' (by omega)
    exact h g cap w' hbg hown' (fun W hW => hW.grown hg hbase fun k hk => (hown.lt k hk).1) hg.size fun k hk hne => hg.block k hk hne
end Go.Proofs.Ytgmdoboeenpjpaa
/- A region that draws its order inside a round of a range over a function: the walk of Rg. No condition beyond those in the theorems' statements. -/
namespace Go.Proofs.Ytgmdoboeenpjpaa
open Go Go.RowKit

section
variable {P : Program}
/-- **A region that draws its order**, all its orders: the first m operations by the walk in the order of the text, each known up to a predicate; then the others, in order. -/
theorem any_region_rel {l : List Oper} {a : Act} {w : World} {Q : Exit → Act → World → Prop} (m : Nat) (SC : Nat → Value → Prop) (AC : Nat → Value → World → Prop)
    (hB : relB l.toArray m = true) (hF : forcedB l.toArray (l.drop m).length m = true)
    (h : LX P l.toArray w SC AC (fun a' w' => wpList P l.toArray Q (l.drop m) a' w') 0 (l.take m) (fun _ _ => True) a) : wpAny P .any l.toArray Q l.toArray.size (Array.replicate l.toArray.size false) a { w with drawn := w.drawn + 1 } := by
  simp only [relB, Bool.and_eq_true, decide_eq_true_eq] at hB
  obtain ⟨⟨⟨⟨h1, h2⟩, h3⟩, h4⟩, h5⟩ := hB
  have hml : m ≤ l.length := by simpa using h1
  have hlen : (l.take m).length = m := by simp [hml]
  have htail : ∀ a w, wpList P l.toArray Q (l.drop m) a w → wpAny P .any l.toArray Q (l.drop m).length (firstL l.toArray.size m) a w := fun a w =>
    tail_sound (l.drop m) m a w (fun j _ => by simp) hF
  have hmono : ∀ (r : List Oper) i Γ b, LX P l.toArray w SC AC (fun a' w' => wpList P l.toArray Q (l.drop m) a' w') i r Γ b →
      LX P l.toArray w SC AC (fun a' w' => wpAny P .any l.toArray Q (l.drop m).length (firstL l.toArray.size m) a' w') i r Γ b := by
    intro r
    induction r with
    | nil => intro i Γ b hh w' hx hg; exact htail _ _ (hh w' hx hg)
    | cons o r ih => intro i Γ b hh; exact opR_mono (fun _ _ x => x) (fun G G' a hG hk => ih _ _ _ (by
        have hlx : ∀ (r : List Oper) i (G G' : Tmp → World → Prop) b, (∀ s w, G s w → G' s w) → LX P l.toArray w SC AC (fun a' w' => wpList P l.toArray Q (l.drop m) a' w') i r G' b → LX P l.toArray w SC AC (fun a' w' => wpList P l.toArray Q (l.drop m) a' w') i r G b := by
          intro r
          induction r with
          | nil => intro i G G' b hG hh w' hx hg; exact hh w' hx fun s => hG s w' (hg s)
          | cons o r ih => intro i G G' b hG hh; exact opR_mono hG (fun _ _ _ h k => ih _ _ _ _ h k) hh
        exact hlx r _ G G' a hG hk)) hh
  have key := wpAnyR_lex (SC := SC) (AC := AC) (Q := Q) (extra := (l.drop m).length) (m := m) h2 (by simpa using hml) (l.take m) 0 (fun _ _ => True) a
    (fun j hj => by simp only [List.length_take] at hj; rw [List.getElem?_take, if_pos (by omega)]; simp) (by omega) (fun _ => St.top) (by rw [hlen]; exact h5) (hmono _ _ _ _ h)
  have hsound := wpAnyR_sound (P := P) (m := m) (Q := Q) h3 h4 (by simpa using hml) _ (firstL l.toArray.size 0) (fun _ _ => True) a w.drew (firstL_size _ _)
    (fun j o ho hl0 => by
      have : (firstL l.toArray.size 0).getD j false = false := by
        simp only [firstL, List.range_zero, List.foldl_nil, Array.getD_eq_getD_getElem?, Array.getElem?_replicate]
        split <;> rfl
      rw [this] at hl0; cases hl0) (Ext.drewN w 1) (fun _ => St.top) (fun _ => trivial) key
  have hsize : (l.take m).length + (l.drop m).length = l.toArray.size := by simp; omega
  rw [hsize] at hsound
  exact hsound


theorem rows_wide {l n : Nat} {row : String} {args : Array Value} {w : World} {R : Value → World → Prop} (h : Rows P row args w R) : RowsIn (Fence.wide.inRound l) n P row args w R :=
  fun c cs _ => let ⟨v, w', r, s⟩ := h c cs; ⟨v, w', r, stepsIn_wide.2 s⟩
theorem oper_round {l n : Nat} {o : Oper} {a : Act} {w : World} {K : Act → World → Prop} {Q : Exit → Act → World → Prop} (hd : ∀ c, o.op ≠ .defer c) (hL : ¬ LetsOut Q) (h : o.wp P a w K Q) :
    o.wpIn (Fence.wide.inRound l) n P a w K Q := by
  refine ⟨fun _ _ => trivial, ?_⟩
  rw [Oper.semAt_eq _ _ _ hd]
  unfold Oper.wp at h
  cases hr : (execOp a.eval o).run P w with
  | ok v w' =>
    rw [hr] at h
    cases v with
    | value v => exact h
    | skip => exact h
    | defer d => exact h
    | enter f args =>
      refine ⟨fun e => by simp [Fence.wide, Fence.inRound] at e, ?_⟩
      refine (CallsIn.inRound l (callsIn_wide.2 h)).mono ?_
      intro e w'' hh
      cases e with
      | returned v => exact hh
      | panicked c => exact hh
      | outgrown => exact absurd hh hL
    | row r args => exact ⟨fun e => by simp [Fence.wide, Fence.inRound] at e, rows_wide h⟩
    | _ => exact h.elim
  | halt hh w' =>
    rw [hr] at h
    cases hh <;> first | exact h | exact h.elim
theorem anyIn_round {l n : Nat} {md : Region.Mode} {ops : Array Oper} {Q : Exit → Act → World → Prop} (hd : ∀ (i : Nat) (o : Oper), ops[i]? = some o → ∀ c, o.op ≠ .defer c) (hL : ¬ LetsOut Q) :
    ∀ fuel listed a w, wpAny P md ops Q fuel listed a w → wpAnyIn (Fence.wide.inRound l) n P md ops Q fuel listed a w
  | 0, listed, a, w, h => h
  | fuel + 1, listed, a, w, h => by
    refine ⟨h.1, fun i hi => ?_⟩
    have h2 := h.2 i hi
    unfold wpOp at h2
    unfold wpOpIn
    cases ho : ops[i]? with
    | none => rw [ho] at h2; exact anyIn_round hd hL fuel _ _ _ h2
    | some o =>
      rw [ho] at h2
      simp only at h2 ⊢
      split
      · rename_i hw
        rw [if_pos hw] at h2
        rcases h2 with h2 | ⟨-, h2⟩
        · exact Oper.wpIn_mono (fun a w hh => anyIn_round hd hL fuel _ a w hh) (oper_round (hd i o ho) hL h2)
        · exact absurd h2 hL
      · rename_i hw
        rw [if_neg hw] at h2
        exact ⟨fun _ _ => trivial, anyIn_round hd hL fuel _ _ _ h2⟩
/-- No operation is a defer statement. -/
def noDeferB (l : List Oper) : Bool := l.all fun o => match o.op with | .defer _ => false | _ => true
theorem noDefer {l : List Oper} (h : noDeferB l = true) : ∀ (i : Nat) (o : Oper), l.toArray[i]? = some o → ∀ c, o.op ≠ .defer c := fun i o ho c e => by
  unfold noDeferB at h
  rw [List.all_eq_true] at h
  have h2 := h o (by simpa using List.mem_of_getElem? (by simpa using ho))
  rw [e] at h2
  cases h2
/-- **The region inside a round.** -/
theorem wpIn_region_rel {id lp n : Nat} {l : List Oper} {a : Act} {w : World} {Q : Exit → Act → World → Prop} (m : Nat) (SC : Nat → Value → Prop) (AC : Nat → Value → World → Prop)
    (hm : P.follows .mixedOrders = true) (hB : relB l.toArray m = true) (hF : forcedB l.toArray (l.drop m).length m = true) (hd : noDeferB l = true) (hL : ¬ LetsOut Q)
    (h : LX P l.toArray w SC AC (fun a' w' => wpList P l.toArray Q (l.drop m) a' w') 0 (l.take m) (fun _ _ => True) a) : (Code.region id l.toArray true).wpIn (Fence.wide.inRound lp) n P Q a w :=
  wpIn_region_any hm (anyIn_round (noDefer hd) hL _ _ _ _ (any_region_rel m SC AC hB hF h))
end
end Go.Proofs.Ytgmdoboeenpjpaa
