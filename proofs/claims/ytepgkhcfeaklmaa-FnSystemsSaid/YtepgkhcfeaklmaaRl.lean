
/- A region that draws its order, where one extraction may also come behind the last store: as if it came before. No condition beyond those in the theorem's statement. -/
import Derived.Test.YtepgkhcfeaklmaaRg
namespace Go.Proofs.Ytepgkhcfeaklmaa
open Go Go.RowKit

/-- Operation t waits for e too. -/
def addEdge (l : List Oper) (t e : Nat) : List Oper := l.modify t fun o => { o with after := o.after.push { on := e, ground := .data } }
def lateB (l : List Oper) (t e : Nat) : Bool :=
  e != t && Region.noSelect l.toArray &&
  (match l[e]?, l[t]? with
   | some oe, some ot =>
     (match oe.op with | .extract _ _ => true | _ => false) && oe.guard.isNone &&
     (oe.after.all fun x => !Region.binds .any x || (x.on != t && ot.after.any fun y => Region.binds .any y && y.on == x.on)) &&
     ((List.range l.length).all fun j => j == e || (oe.after.any fun x => Region.binds .any x && x.on == j) || (match l[j]? with
       | some oj => (oj.after.any fun x => Region.binds .any x && x.on == e) || oe.apart l.toArray oj
       | none => true))
   | _, _ => false)

theorem get_addEdge_ne {l : List Oper} {t e j : Nat} (h : j ≠ t) : (addEdge l t e).toArray[j]? = l.toArray[j]? := by
  simp only [addEdge, List.getElem?_toArray]
  rw [List.getElem?_modify]
  simp [Ne.symm h]
theorem get_addEdge {l : List Oper} {t e : Nat} {o : Oper} (h : l.toArray[t]? = some o) : (addEdge l t e).toArray[t]? = some { o with after := o.after.push { on := e, ground := .data } } := by
  simp only [addEdge, List.getElem?_toArray] at h ⊢
  rw [List.getElem?_modify, h]
  simp
theorem yielded_addEdge (l : List Oper) (t e : Nat) (tmps : Array Value) : yielded (addEdge l t e).toArray tmps = yielded l.toArray tmps := by
  funext j
  unfold yielded
  have : ((addEdge l t e).toArray[j]?).bind (·.dst) = (l.toArray[j]?).bind (·.dst) := by
    by_cases h : j = t
    · subst h
      cases ho : l.toArray[j]? with
      | none =>
        have : (addEdge l j e).toArray[j]? = none := by
          simp only [addEdge, List.getElem?_toArray] at ho ⊢
          rw [List.getElem?_modify, ho]; rfl
        rw [this]
      | some o => rw [get_addEdge ho]; rfl
    · rw [get_addEdge_ne h]
  rw [this]

section
variable {P : Program} {l : List Oper} {t e : Nat} {Q : Exit → Act → World → Prop}
theorem wpOp_addEdge {i : Nat} {K : Act → World → Prop} {a : Act} {w : World} (h : wpOp P (addEdge l t e).toArray Q i K a w) : wpOp P l.toArray Q i K a w := by
  unfold wpOp at *
  rw [yielded_addEdge] at h
  by_cases hi : i = t
  · subst hi
    cases ho : l.toArray[i]? with
    | none =>
      have : (addEdge l i e).toArray[i]? = none := by
        simp only [addEdge, List.getElem?_toArray] at ho ⊢
        rw [List.getElem?_modify, ho]; rfl
      rw [this] at h
      exact h
    | some o => rw [get_addEdge ho] at h; exact h
  · rw [get_addEdge_ne hi] at h; exact h

theorem ready_addEdge_ne {j : Nat} {listed : Array Bool} (h : j ≠ t) : j ∈ Region.ready .any (addEdge l t e).toArray listed ↔ j ∈ Region.ready .any l.toArray listed := by
  rw [mem_ready, mem_ready, get_addEdge_ne h]
theorem ready_addEdge {listed : Array Bool} : t ∈ Region.ready .any (addEdge l t e).toArray listed ↔ t ∈ Region.ready .any l.toArray listed ∧ listed.getD e false = true := by
  rw [mem_ready, mem_ready]
  constructor
  · rintro ⟨h1, o, ho, h2⟩
    cases hl : l.toArray[t]? with
    | none =>
      exfalso
      simp only [addEdge, List.getElem?_toArray] at hl ho
      rw [List.getElem?_modify, hl] at ho
      simp at ho
    | some o' =>
      rw [get_addEdge hl] at ho
      cases ho
      exact ⟨⟨h1, o', rfl, fun x hx hb => h2 x (Array.mem_push.2 (.inl hx)) hb⟩, h2 { on := e, ground := .data } (Array.mem_push.2 (.inr rfl)) rfl⟩
  · rintro ⟨⟨h1, o, ho, h2⟩, h3⟩
    refine ⟨h1, _, get_addEdge ho, fun x hx hb => ?_⟩
    rcases Array.mem_push.1 hx with hx | rfl
    · exact h2 x hx hb
    · exact h3

theorem empty_iff {xs : List Nat} : xs = [] ↔ ∀ i, i ∉ xs := by
  constructor
  · rintro rfl i h; cases h
  · intro h
    cases xs with
    | nil => rfl
    | cons x r => exact absurd (List.mem_cons_self) (h x)

/-- Once e is listed the new edge holds nothing up. -/
theorem wpAny_after : ∀ (fuel : Nat) (listed : Array Bool) (a : Act) (w : World), listed.getD e false = true →
    wpAny P .any (addEdge l t e).toArray Q fuel listed a w → wpAny P .any l.toArray Q fuel listed a w := by
  intro fuel
  have hiff : ∀ (listed : Array Bool) i, listed.getD e false = true → (i ∈ Region.ready .any (addEdge l t e).toArray listed ↔ i ∈ Region.ready .any l.toArray listed) := fun listed i he => by
    by_cases hi : i = t
    · subst hi; rw [ready_addEdge]; exact ⟨fun h => h.1, fun h => ⟨h, he⟩⟩
    · exact ready_addEdge_ne hi
  have hnil : ∀ (listed : Array Bool), listed.getD e false = true → (Region.ready .any (addEdge l t e).toArray listed = [] ↔ Region.ready .any l.toArray listed = []) := fun listed he => by
    rw [empty_iff, empty_iff]
    exact ⟨fun h i hi => h i ((hiff listed i he).2 hi), fun h i hi => h i ((hiff listed i he).1 hi)⟩
  induction fuel with
  | zero => intro listed a w he h; exact ⟨(hnil listed he).1 h.1, h.2⟩
  | succ fuel ih =>
    intro listed a w he h
    refine ⟨fun h0 => h.1 ((hnil listed he).2 h0), fun i hi => ?_⟩
    exact wpOp_mono (fun a w hh => ih _ a w (getD_set_true he) hh) (wpOp_addEdge (h.2 i ((hiff listed i he).2 hi)))

theorem extract_yields {o : Oper} {i : Nat} {x : Operand} {n : Nat} {K : Act → World → Prop} {a : Act} {w : World} (hi : l.toArray[i]? = some o) (ho : o.op = .extract x n) (hg : o.guard = none)
    (h : wpOp P l.toArray Q i K a w) : ∃ v, Yields P l.toArray o v a ∧ K (a.put o.dst v) w := by
  have hwt : Region.wanted o (yielded l.toArray a.tmps) = true := by unfold Region.wanted; rw [hg]
  unfold wpOp at h
  simp only [hi] at h
  rw [if_pos hwt] at h
  cases hx : a.eval x with
  | tuple vs =>
    cases hv : vs[n]? with
    | some v =>
      have hr : ∀ w, (execOp a.eval o).run P w = .ok (.value v) w := fun w => by unfold execOp; simp only [ho, Instr.extract, hx, hv]; rfl
      refine ⟨v, .inl ⟨hwt, hr⟩, ?_⟩
      rcases h with h | h
      · unfold Oper.wp at h; rw [hr] at h; exact h
      · exfalso
        have h1 := h.1.1
        unfold execOp at h1
        simp only [ho, Instr.extract, hx, hv] at h1
        exact absurd (show noRoomEvent ∈ (#[] : Array Event) from h1) (by simp)
    | none =>
      exfalso
      rcases h with h | h
      · unfold Oper.wp execOp at h; simp only [ho, Instr.extract, hx, hv] at h; exact h
      · have h1 := h.1.1
        unfold execOp at h1
        simp only [ho, Instr.extract, hx, hv] at h1
        exact absurd (show noRoomEvent ∈ (#[] : Array Event) from h1) (by simp)
  | _ =>
    exfalso
    rcases h with h | h
    · unfold Oper.wp execOp at h; simp only [ho, Instr.extract, hx] at h; exact h
    · have h1 := h.1.1
      unfold execOp at h1
      simp only [ho, Instr.extract, hx] at h1
      exact absurd (show noRoomEvent ∈ (#[] : Array Event) from h1) (by simp)
theorem wpAny_late (hB : lateB l t e = true) (hQ : ∀ c a w d v, Q (.panic c) (a.put d v) w → Q (.panic c) a w) : ∀ (fuel : Nat) (listed : Array Bool) (a : Act) (w : World), listed.size = l.toArray.size →
    wpAny P .any (addEdge l t e).toArray Q fuel listed a w → wpAny P .any l.toArray Q fuel listed a w := by
  unfold lateB at hB
  rw [Bool.and_eq_true, Bool.and_eq_true] at hB
  obtain ⟨⟨hne, hs⟩, hB⟩ := hB
  have hne' : e ≠ t := by simpa using hne
  cases hoe0 : l[e]? with
  | none => rw [hoe0] at hB; simp at hB
  | some oe =>
  cases hot0 : l[t]? with
  | none => rw [hoe0, hot0] at hB; simp at hB
  | some ot =>
  rw [hoe0, hot0] at hB
  simp only [Bool.and_eq_true] at hB
  obtain ⟨⟨⟨hop, hgd⟩, hpred⟩, hfree⟩ := hB
  have hoe : l.toArray[e]? = some oe := by simpa using hoe0
  have hot : l.toArray[t]? = some ot := by simpa using hot0
  obtain ⟨x, n, hx⟩ : ∃ x n, oe.op = .extract x n := by
    split at hop
    · rename_i h; exact ⟨_, _, h⟩
    · cases hop
  have hg : oe.guard = none := by simpa using hgd
  have helt : e < l.toArray.size := (Array.getElem?_eq_some_iff.1 hoe).1
  have hpr : ∀ listed : Array Bool, t ∈ Region.ready .any l.toArray listed → listed.getD e true = false → e ∈ Region.ready .any l.toArray listed := by
    intro listed ht he
    obtain ⟨h1, o, ho, h2⟩ := mem_ready.1 ht
    rw [hot] at ho; cases ho
    refine mem_ready.2 ⟨he, oe, hoe, fun y hy hb => ?_⟩
    rw [Array.all_eq_true_iff_forall_mem] at hpred
    have h3 := hpred y hy
    simp only [hb, Bool.not_true, Bool.false_or, Bool.and_eq_true] at h3
    obtain ⟨z, hz, hzb⟩ := Array.any_eq_true'.1 h3.2
    simp only [Bool.and_eq_true, beq_iff_eq] at hzb
    rw [← hzb.2]
    exact h2 z hz hzb.1
  have hun : ∀ listed : Array Bool, listed.size = l.toArray.size → ¬ listed.getD e false = true → listed.getD e true = false := by
    intro listed hsz hn
    have : e < listed.size := by omega
    simp [this] at hn ⊢
    exact hn
  intro fuel
  induction fuel with
  | zero =>
    intro listed a w hsz h
    by_cases he : listed.getD e false = true
    · exact wpAny_after 0 listed a w he h
    · refine ⟨empty_iff.2 fun i hi => ?_, h.2⟩
      by_cases hit : i = t
      · subst hit
        exact empty_iff.1 h.1 e ((ready_addEdge_ne hne').2 (hpr listed hi (hun listed hsz he)))
      · exact empty_iff.1 h.1 i ((ready_addEdge_ne hit).2 hi)
  | succ fuel ih =>
    intro listed a w hsz h
    by_cases he : listed.getD e false = true
    · exact wpAny_after (fuel + 1) listed a w he h
    · by_cases her : e ∈ Region.ready .any l.toArray listed
      · obtain ⟨v, hy, hk⟩ := extract_yields hoe hx hg (wpOp_addEdge (h.2 e ((ready_addEdge_ne hne').2 her)))
        have hset : (listed.setIfInBounds e true).getD e false = true := by
          have : e < listed.size := by omega
          simp [this]
        refine wpAny_first hoe (Region.noSelect_spec hs) (fun c a w => hQ c a w _ _) fuel listed a w ?_ her hy (wpAny_after fuel _ _ _ hset hk)
        intro j oj hj hje hunj hno
        rw [List.all_eq_true] at hfree
        have hjl : j < l.length := by have := (Array.getElem?_eq_some_iff.1 hj).1; simpa using this
        have h3 := hfree j (List.mem_range.2 hjl)
        have hj0 : l[j]? = some oj := by simpa using hj
        rw [hj0] at h3
        simp only [Bool.or_eq_true, beq_iff_eq, hje, false_or] at h3
        rcases h3 with h3 | h3 | h3
        · exfalso
          obtain ⟨y, hy1, hy2⟩ := Array.any_eq_true'.1 h3
          simp only [Bool.and_eq_true, beq_iff_eq] at hy2
          obtain ⟨_, o9, ho9, hall⟩ := mem_ready.1 her
          rw [hoe] at ho9; cases ho9
          have h4 := hall y hy1 hy2.1
          rw [hy2.2] at h4
          have hlt : j < listed.size := by have := (Array.getElem?_eq_some_iff.1 hj).1; omega
          simp [hlt] at h4 hunj
          rw [hunj] at h4; cases h4
        · obtain ⟨y, hy1, hy2⟩ := Array.any_eq_true'.1 h3
          simp only [Bool.and_eq_true, beq_iff_eq] at hy2
          exact absurd hy2.2 (hno y hy1 hy2.1)
        · exact h3
      · have hnt : t ∉ Region.ready .any l.toArray listed := fun ht => her (hpr listed ht (hun listed hsz he))
        have hiff : ∀ i, i ∈ Region.ready .any l.toArray listed → i ∈ Region.ready .any (addEdge l t e).toArray listed := fun i hi => by
          by_cases hit : i = t
          · subst hit; exact absurd hi hnt
          · exact (ready_addEdge_ne hit).2 hi
        have hiff' : ∀ i, i ∈ Region.ready .any (addEdge l t e).toArray listed → i ∈ Region.ready .any l.toArray listed := fun i hi => by
          by_cases hit : i = t
          · subst hit; exact (ready_addEdge.1 hi).1
          · exact (ready_addEdge_ne hit).1 hi
        refine ⟨fun h0 => h.1 (empty_iff.2 fun i hi => empty_iff.1 h0 i (hiff' i hi)), fun i hi => ?_⟩
        exact wpOp_mono (fun a w hh => ih _ a w (by simpa using hsz) hh) (wpOp_addEdge (h.2 i (hiff i hi)))

/-- **A region that draws its order**, where one extraction (e) may also come behind the store (t): the first m operations by the walk in the order of the text; then the others, in order. -/
theorem wp_region_late {id : Nat} {a : Act} {w : World} (t e m : Nat) (SC : Nat → Value → Prop) (AC : Nat → Value → World → Prop)
    (hm : P.follows .mixedOrders = true) (hL : lateB l t e = true) (hB : relB (addEdge l t e).toArray m = true) (hF : forcedB (addEdge l t e).toArray ((addEdge l t e).drop m).length m = true)
    (hQ : ∀ c a w d v, Q (.panic c) (a.put d v) w → Q (.panic c) a w)
    (h : LX P (addEdge l t e).toArray w SC AC (fun a' w' => wpList P (addEdge l t e).toArray Q ((addEdge l t e).drop m) a' w') 0 ((addEdge l t e).take m) (fun _ _ => True) a) : (Code.region id l.toArray true).wp P Q a w := by
  have hlen0 : (addEdge l t e).toArray.size = l.toArray.size := by simp [addEdge]
  refine wp_region_any hm ?_
  rw [← hlen0]
  refine wpAny_late hL hQ _ _ _ _ (by rw [Array.size_replicate, hlen0]) ?_
  generalize addEdge l t e = l at *
  simp only [relB, Bool.and_eq_true, decide_eq_true_eq] at hB
  obtain ⟨⟨⟨⟨h1, h2⟩, h3⟩, h4⟩, h5⟩ := hB
  have hml : m ≤ l.length := by simpa using h1
  have hlen : (l.take m).length = m := by simp [hml]
  have htail : ∀ a w, wpList P l.toArray Q (l.drop m) a w → wpAny P .any l.toArray Q (l.drop m).length (firstL l.toArray.size m) a w := fun a w =>
    tail_sound (l.drop m) m a w (fun j _ => by simp) hF
  have hmono : ∀ (r : List Oper) i Γ b, LX P l.toArray w SC AC (fun a' w' => wpList P l.toArray Q (l.drop m) a' w') i r Γ b →
      LX P l.toArray w SC AC (fun a' w' => wpAny P .any l.toArray Q (l.drop m).length (firstL l.toArray.size m) a' w') i r Γ b := by
    intro r
    induction r with
    | nil => intro i Γ b hh w' hx hg; exact htail _ _ (hh w' hx hg)
    | cons o r ih => intro i Γ b hh; exact opR_mono (fun _ _ x => x) (fun G G' a hG hk => ih _ _ _ (by
        have hlx : ∀ (r : List Oper) i (G G' : Tmp → World → Prop) b, (∀ s w, G s w → G' s w) → LX P l.toArray w SC AC (fun a' w' => wpList P l.toArray Q (l.drop m) a' w') i r G' b → LX P l.toArray w SC AC (fun a' w' => wpList P l.toArray Q (l.drop m) a' w') i r G b := by
          intro r
          induction r with
          | nil => intro i G G' b hG hh w' hx hg; exact hh w' hx fun s => hG s w' (hg s)
          | cons o r ih => intro i G G' b hG hh; exact opR_mono hG (fun _ _ _ h k => ih _ _ _ _ h k) hh
        exact hlx r _ G G' a hG hk)) hh
  have key := wpAnyR_lex (SC := SC) (AC := AC) (Q := Q) (extra := (l.drop m).length) (m := m) h2 (by simpa using hml) (l.take m) 0 (fun _ _ => True) a
    (fun j hj => by simp only [List.length_take] at hj; rw [List.getElem?_take, if_pos (by omega)]; simp) (by omega) (fun _ => St.top) (by rw [hlen]; exact h5) (hmono _ _ _ _ h)
  have hsound := wpAnyR_sound (P := P) (m := m) (Q := Q) h3 h4 (by simpa using hml) _ (firstL l.toArray.size 0) (fun _ _ => True) a w.drew (firstL_size _ _)
    (fun j o ho hl0 => by
      have : (firstL l.toArray.size 0).getD j false = false := by
        simp only [firstL, List.range_zero, List.foldl_nil, Array.getD_eq_getD_getElem?, Array.getElem?_replicate]
        split <;> rfl
      rw [this] at hl0; cases hl0) (Ext.drewN w 1) (fun _ => St.top) (fun _ => trivial) key
  have hsize : (l.take m).length + (l.drop m).length = l.toArray.size := by simp; omega
  rw [hsize] at hsound
  exact hsound

theorem wp_region_lateK {id : Nat} {a : Act} {w : World} {K : Act → World → Prop} {Q' : Exit → Act → World → Prop} (t e m : Nat) (SC : Nat → Value → Prop) (AC : Nat → Value → World → Prop)
    (hm : P.follows .mixedOrders = true) (hL : lateB l t e = true) (hB : relB (addEdge l t e).toArray m = true) (hF : forcedB (addEdge l t e).toArray ((addEdge l t e).drop m).length m = true)
    (h : ∀ QQ, LX P (addEdge l t e).toArray w SC AC (fun a' w' => wpList P (addEdge l t e).toArray (Exit.then K QQ) ((addEdge l t e).drop m) a' w') 0 ((addEdge l t e).take m) (fun _ _ => True) a) : (Code.region id l.toArray true).wp P (Exit.then K Q') a w := by
  have h1 := wp_region_late (id := id) (Q := Exit.then K (fun _ _ _ => False)) t e m SC AC hm hL hB hF (fun _ _ _ _ _ h => h.elim) (h _)
  intro b k cs
  obtain ⟨ex, a1, w1, hq, harr⟩ := h1 b k cs
  refine ⟨ex, a1, w1, ?_, harr⟩
  cases ex <;> first | exact hq | exact hq.elim
end
end Go.Proofs.Ytepgkhcfeaklmaa
