
/- The cuts of a system as the reference finds them; CutsOf and OtherSystem, both sides. Condition: lists of ints that can be read. -/
import Derived.Test.YtgmdoboeenpjpaaYn
namespace Go.Proofs.Ytgmdoboeenpjpaa
open Go Go.RowKit Go.ChangeShapes Go.WideShapes Go.ChangeAt

attribute [local irreducible] LX

theorem and_two_pow (s j : Nat) : s &&& 2 ^ j = if s.testBit j then 2 ^ j else 0 := by
  apply Nat.eq_of_testBit_eq; intro i
  rw [Nat.testBit_and, Nat.testBit_two_pow]
  by_cases hj : j = i
  · subst hj; cases h : s.testBit j <;> simp [h]
  · cases h : s.testBit j <;> simp [h, hj]
/-- A cut, and none of the first j parts can be left out. -/
def cutJ (p : Nat) (ns : List Nat) (s j : Nat) : Bool := cutB p ns s && (List.range j).all fun b => !(s.testBit b) || worksB ns (2 ^ p - 1 - (s - 2 ^ b))
theorem cutJ_succ (p : Nat) (ns : List Nat) (s j : Nat) : cutJ p ns s (j + 1) = (cutJ p ns s j && (!(s.testBit j) || worksB ns (2 ^ p - 1 - (s - 2 ^ j)))) := by
  unfold cutJ
  rw [List.range_succ, List.all_append, Bool.and_assoc]; simp
theorem cutJ_no {p : Nat} {ns : List Nat} {s j k : Nat} (h : cutJ p ns s j = false) (hk : j ≤ k) : cutJ p ns s k = false := by
  induction k with
  | zero => have : j = 0 := by omega
            subst this; exact h
  | succ k ih =>
    rcases Nat.lt_or_ge j (k + 1) with h1 | h1
    · rw [cutJ_succ, ih (by omega), Bool.false_and]
    · have : j = k + 1 := by omega
      subst this; exact h

end Go.Proofs.Ytgmdoboeenpjpaa
/- CutsOf and OtherSystem, both sides. Condition: lists of ints that can be read. -/
namespace Go.Proofs.Ytgmdoboeenpjpaa
open Go Go.RowKit Go.ChangeShapes Go.WideShapes Go.ChangeAt

theorem LX_detA {P : Program} {ops : Array Oper} {w0 : World} {SC : Nat → Value → Prop} {AC : Nat → Value → World → Prop} {Q : Act → World → Prop} {i : Nat} {o : Oper} {rest : List Oper} {Γ : Tmp → World → Prop} {a : Act} (v : Value) (A : Value → World → Prop) (hA : ∀ v, St (A v))
    (hw : Region.wanted o (yielded ops a.tmps) = true) (hc : isCallB o = false)
    (hY : ∀ w, Ext w0 w → (∀ s ∈ o.looksAt ops, Γ s w) → (execOp a.eval o).run P w = .ok (.value v) w ∧ A v w) (hn : LX P ops w0 SC AC Q (i + 1) rest (upC Γ o.dst (A v)) (a.put o.dst v)) : LX P ops w0 SC AC Q i (o :: rest) Γ a := by
  unfold LX opR; rw [if_pos hw, if_neg (by simp [hc])]
  exact ⟨fun u => u = v, A, hA, fun w hx hg => by rw [(hY w hx hg).1]; exact ⟨Ext.refl _, rfl, (hY w hx hg).2⟩, fun u hu => by subst hu; exact hn⟩

attribute [local irreducible] LX

theorem cutsS_facts {p : Nat} {ns : List Nat} (h : SysN p ns) : (cutsS p ns).Pairwise (· < ·) ∧ anti (cutsS p ns) = true ∧ 0 < (cutsS p ns).length ∧ (∀ z ∈ cutsS p ns, z < 2 ^ p) ∧ (cutsS p ns).length ≤ 1024 := by
  have hs := cuts_same (by have := h.p10; omega) h.whole
  have hN0 : 0 < 2 ^ p := Nat.pow_pos (by decide)
  have hb := (pow10N h.p10).2.2.2
  refine ⟨asc_filter (asc_range _), ?_, ?_, fun z hz => ?_, ?_⟩
  · rw [← hs]; exact minL_anti _
  · rw [← hs]
    obtain ⟨q, hq, -⟩ := minL_below (zs := (List.range (2 ^ p)).filter (cutB p ns)) (s := 2 ^ p - 1) (List.mem_filter.2 ⟨List.mem_range.2 (by omega), by unfold cutB; rw [Nat.sub_self, h.none]; rfl⟩)
    exact List.length_pos_of_mem hq
  · unfold cutsS at hz; rw [List.mem_filter, List.mem_range] at hz; exact hz.1
  · unfold cutsS
    exact Nat.le_trans (List.length_filter_le _ _) (by rw [List.length_range]; exact hb)
theorem cutsS_least {p : Nat} {ns : List Nat} (h : SysN p ns) : leastN (cutsS p ns) = cutsS p ns := by
  obtain ⟨h1, h2, h3, h4, h5⟩ := cutsS_facts h
  have hb := (pow10N h.p10).2.2.2
  unfold leastN
  rw [setsOf_self (fun z hz => by have := h4 z hz; omega) h1, minL_of_anti h2]

def cutsO (p : Int) (zs : List Int) : Option (List Int) := if sysB p zs then some (ups (cutsS p.toNat (downs zs))) else none
def otherO (p : Int) (zs : List Int) : Option (Int × List Int) := if sysB p zs then sysO p (ups (cutsS p.toNat (downs zs))) else none
theorem cutsO_len (p : Int) (zs : List Int) : ((cutsO p zs).getD []).length ≤ 1048576 := by
  unfold cutsO
  split
  · rename_i h
    obtain ⟨h1, -, -⟩ := SysN.of (sys_good' h)
    have := (cutsS_facts h1).2.2.2.2
    simp only [Option.getD_some, ups_len]; omega
  · simp



def OlV (cs : List Nat) (v : Value) : Prop := ∃ g cap, v = .slice (some ⟨g, 0, none⟩) cs.length cap
def OlW (B : Nat) (cs : List Nat) (v : Value) (w : World) : Prop := ∀ g cap, v = .slice (some ⟨g, 0, none⟩) cs.length cap → OwnS B w g cap cs
theorem OlW.st (B : Nat) (cs : List Nat) (v : Value) : St (OlW B cs v) := fun _ _ h hx g cap e => (h g cap e).ext hx
def YtV (q : Int × List Int) (v : Value) : Prop := ∃ g cap, v = .tuple #[.agg #[.int .i64 q.1, .slice (some ⟨g, 0, none⟩) q.2.length cap], .bool true]
def YtW (B : Nat) (q : Int × List Int) (v : Value) (w : World) : Prop := ∀ g cap, v = .tuple #[.agg #[.int .i64 q.1, .slice (some ⟨g, 0, none⟩) q.2.length cap], .bool true] →
  w.ownsRow B 2 1 (.slice (some ⟨g, 0, none⟩) q.2.length cap) q.2.length (q.2.map (Value.int .i64))
theorem YtW.st (B : Nat) (q : Int × List Int) (v : Value) : St (YtW B q v) := fun _ _ h hx g cap e => own_ext' (h g cap e) hx


end Go.Proofs.Ytgmdoboeenpjpaa
