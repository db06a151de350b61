
/- PartChances, both sides. Condition: lists that can be read, of at most 2^20 numbers. -/
import Derived.Test.YtepgkhcfeaklmaaZb
import Derived.Test.YtepgkhcfeaklmaaYh
namespace Go.Proofs.Ytepgkhcfeaklmaa
open Go Go.RowKit Go.ChangeShapes Go.WideShapes Go.ChangeAt

attribute [local go_sem] run_store_float
attribute [local irreducible] LX

/-- append of all elements of a list that can be read to a list of the call's own. -/
theorem wpList_allZ {P : Program} {ops : Array Oper} {rest : List Oper} {o : Oper} {a : Act} {w : World} {Q : Exit → Act → World → Prop} {s x : Operand} {t e : TypeId} {z : Value} {k bytes base n m : Nat} {v sv : Value} {ys xs : List Value}
    (hinfo : (P.info? e).map (fun i => (i.zero, i.size, i.bytes)) = some (some z, k, bytes)) (hz : z.cells.size = k) (hk : 0 < k) (ht : P.underlying t = some (.slice e))
    (hgd : o.guard = none) (ho : o.op = .call { callee := .builtin .append, args := #[s, x], argTypes := #[t, t] })
    (hs : a.eval s = v) (hown : w.ownsRow base e k v n ys) (hx : a.eval x = sv) (r : Rd k w sv m xs) (hm : 0 < m) (h1 : ∀ u ∈ xs, u.oneCell' = true)
    (hn : n + m ≤ 8796093022208) (hb16 : bytes ≤ 16) (hbase : base ≤ w.heap.size)
    (h : ∀ g cap w', base ≤ g → w'.ownsRow base e k (.slice (some ⟨g, 0, none⟩) (n + m) cap) (n + m) (ys ++ xs) → w.grownBy w' v.ownBlock →
      wpList P ops Q rest (a.put o.dst (.slice (some ⟨g, 0, none⟩) (n + m) cap)) w') : wpList P ops Q (o :: rest) a w := by
  obtain ⟨i, hi, i1, i2, i3⟩ := info_parts hinfo
  obtain ⟨hl, a1, c1, rfl, hc1, hc2, hc3, hc4⟩ := r
  obtain ⟨p, rfl⟩ : ∃ p, a1 = some p := by
    cases a1 with
    | none => have := hc3 rfl; omega
    | some p => exact ⟨p, rfl⟩
  have hpos : 0 < m * k := Nat.mul_pos hm hk
  refine wpList_append_own w hgd s x t ho base e i z k bytes ht hi i1 i2 i3 hz hk v n ys hs hown p m c1 xs hx hl ?_ h1 (by simp only [maxLen]; omega) ?_ hbase ?_
  · intro j u hj
    have hjl : j < m * k := by rw [← hl]; exact (List.getElem?_eq_some_iff.1 hj).1
    obtain ⟨g1, g2, g3⟩ := hc4 p rfl j hjl
    have hadd : p.add j = ⟨p.block, p.off + j, none⟩ := by
      obtain ⟨b, off, sp⟩ := p
      simp only at g1; subst g1
      unfold Addr.add; split <;> simp_all
    rw [hadd, g3, hj]
  · have : (n + m) * bytes ≤ 8796093022208 * 16 := Nat.mul_le_mul hn hb16
    omega
  · intro v' w' hown' hg hnil
    obtain ⟨g, cap, rfl, hbg, _⟩ := own_head hown' (by omega)
    exact h g cap w' hbg hown' hg

/-- The same to an empty one. -/
theorem wpList_copyZ {P : Program} {ops : Array Oper} {rest : List Oper} {o : Oper} {a : Act} {w : World} {Q : Exit → Act → World → Prop} {s x : Operand} {t e : TypeId} {z : Value} {k bytes base m : Nat} {v sv : Value} {xs : List Value}
    (hinfo : (P.info? e).map (fun i => (i.zero, i.size, i.bytes)) = some (some z, k, bytes)) (hz : z.cells.size = k) (hk : 0 < k) (ht : P.underlying t = some (.slice e))
    (hgd : o.guard = none) (ho : o.op = .call { callee := .builtin .append, args := #[s, x], argTypes := #[t, t] })
    (hs : a.eval s = v) (hown : w.ownsRow base e k v 0 []) (hx : a.eval x = sv) (r : Rd k w sv m xs) (hm : 0 < m) (h1 : ∀ u ∈ xs, u.oneCell' = true)
    (hn : m ≤ 8796093022208) (hb16 : bytes ≤ 16) (hbase : base ≤ w.heap.size)
    (h : ∀ g cap w', base ≤ g → w'.ownsRow base e k (.slice (some ⟨g, 0, none⟩) m cap) m xs → w.grownBy w' v.ownBlock →
      wpList P ops Q rest (a.put o.dst (.slice (some ⟨g, 0, none⟩) m cap)) w') : wpList P ops Q (o :: rest) a w := by
  refine wpList_allZ hinfo hz hk ht hgd ho hs hown hx r hm h1 (by omega) hb16 hbase fun g cap w' hg own hgr => ?_
  rw [Nat.zero_add] at own ⊢
  exact h g cap w' hg own hgr

theorem floatsZ_one (bs : List Nat) : ∀ u ∈ bs.map (Value.float .f32), u.oneCell' = true := by
  intro u hu; obtain ⟨b, _, rfl⟩ := List.mem_map.1 hu; rfl


/-- How much more likely a system works with a part. -/
def pcK (p : Nat) (ns bs : List Nat) (i : Nat) : Nat := fop .sub .f32 (chS p ns ((bs.set i 1065353216).map (cn .f32))) (chS p ns ((bs.set i 0).map (cn .f32)))
def pcL (p : Nat) (ns bs : List Nat) (k : Nat) : List Nat := (List.range k).map (pcK p ns bs)
def pcO (p : Int) (zs : List Int) (bs : List Nat) : Option (List Nat) := if chOk p zs bs then some (pcL p.toNat (downs zs) bs p.toNat) else none
theorem pcL_succ (p : Nat) (ns bs : List Nat) (k : Nat) : pcL p ns bs (k + 1) = pcL p ns bs k ++ [pcK p ns bs k] := by unfold pcL; rw [List.range_succ, List.map_append]; rfl
theorem pcO_len (p : Int) (zs : List Int) (bs : List Nat) : ((pcO p zs bs).getD []).length ≤ 1048576 := by
  unfold pcO
  split
  · rename_i h
    have := (chOk_get h).1.p10
    simp only [Option.getD_some, pcL, List.length_map, List.length_range]; omega
  · simp

end Go.Proofs.Ytepgkhcfeaklmaa
