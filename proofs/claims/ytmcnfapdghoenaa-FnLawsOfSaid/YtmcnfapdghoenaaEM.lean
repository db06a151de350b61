
/- append of one element to a slice that the call itself has made. Condition: fewer than 2^43 elements. -/
import Derived.Test.YtmcnfapdghoenaaRg
import Derived.Test.YtmcnfapdghoenaaAB
import Derived.Maps.AppendAt
import Derived.Test.YtmcnfapdghoenaaRows
import Derived.Outline
namespace Go.Proofs.Ytmcnfapdghoenaa
open Go Go.RowKit

/-- A slice that owns an element lies at the head of a block. -/
theorem own_head {w : World} {base : Nat} {e : TypeId} {size : Nat} {v : Value} {n : Nat} {xs : List Value} (h : w.ownsRow base e size v n xs) (hn : 0 < n) :
    ∃ g cap, v = .slice (some ⟨g, 0, none⟩) n cap ∧ base ≤ g ∧ g < w.heap.size := by
  obtain ⟨_, ⟨_, h0⟩ | ⟨g, cap, cur, hv, hb, hg, _⟩⟩ := h
  · omega
  · exact ⟨g, cap, hv, hb, (Array.getElem?_eq_some_iff.1 hg).1⟩

theorem wpList_push {P : Program} {ops : Array Oper} {rest : List Oper} {o : Oper} {a : Act} {w : World} {Q : Exit → Act → World → Prop} {s x : Operand} {t e : TypeId} {z u : Value} {bytes : Nat} {base n : Nat} {v : Value} {xs : List Value} {blk c : Nat}
    (hinfo : (P.info? e).map (fun i => (i.zero, i.size, i.bytes)) = some (some z, 1, bytes)) (hz : z.cells.size = 1) (ht : P.underlying t = some (.slice e))
    (hgd : o.guard = none) (ho : o.op = .call { callee := .builtin .append, args := #[s, x], argTypes := #[t, t] })
    (hs : a.eval s = v) (hown : w.ownsRow base e 1 v n xs) (hx : a.eval x = .slice (some ⟨blk, 0, none⟩) 1 c) (hu : w.cell? ⟨blk, 0, none⟩ = some u) (hu1 : u.oneCell' = true)
    (hn : n + 1 ≤ 8796093022208) (hb16 : bytes ≤ 16) (hbase : base ≤ w.heap.size)
    (h : ∀ g cap w', base ≤ g → w'.ownsRow base e 1 (.slice (some ⟨g, 0, none⟩) (n + 1) cap) (n + 1) (xs ++ [u]) → (∀ W, Below base W w → Below base W w') → w.heap.size ≤ w'.heap.size →
      wpList P ops Q rest (a.put o.dst (.slice (some ⟨g, 0, none⟩) (n + 1) cap)) w') : wpList P ops Q (o :: rest) a w := by
  obtain ⟨i, hi, h1, h2, h3⟩ := info_parts hinfo
  refine wpList_append_own w hgd s x t ho base e i z 1 bytes ht hi h1 h2 h3 hz (by omega) v n xs hs hown ⟨blk, 0, none⟩ 1 c [u] hx rfl ?_ ?_ ?_ ?_ hbase ?_
  · intro j u' hj
    cases j with
    | zero => simp at hj; subst hj; simpa [Addr.add] using hu
    | succ j => simp at hj
  · intro u' hu'; simp at hu'; subst hu'; exact hu1
  · simp only [maxLen]; omega
  · have : (n + 1) * bytes ≤ 8796093022208 * 16 := Nat.mul_le_mul hn hb16
    omega
  · intro v' w' hown' hg _
    obtain ⟨g, cap, rfl, hbg, _⟩ := own_head hown' (by omega)
    exact h g cap w' hbg hown' (fun W hW => hW.grown hg hbase fun k hk => (hown.lt k hk).1) hg.size
end Go.Proofs.Ytmcnfapdghoenaa
/- Contracts of the functions of the laws that write marks into a list of 32-bit numbers and look whether they hold. No condition. -/
namespace Go.Proofs.Ytmcnfapdghoenaa
open Go Go.RowKit Go.ChangeShapes Go.WideShapes Go.ChangeAt

attribute [local go_sem] run_store_float

/-- The marks from k on. -/
def marksF (k : Int) (n : Nat) : List Nat := (List.range n).map fun (i : Nat) => floatOfInt .f32 (k + (i : Int))
theorem marksF_len (k : Int) (n : Nat) : (marksF k n).length = n := by simp [marksF]
theorem marksF_get (k : Int) (n i : Nat) (h : i < n) : (marksF k n)[i]'(by rw [marksF_len]; exact h) = floatOfInt .f32 (k + (i : Int)) := by simp [marksF]
theorem marksF_succ (k : Int) (n : Nat) : marksF k (n + 1) = marksF k n ++ [floatOfInt .f32 (k + (n : Int))] := by
  unfold marksF; rw [List.range_succ, List.map_append]; rfl
theorem floatOfInt_lt (n : Int) : floatOfInt .f32 n < 4294967296 := by
  have h : floatOfInt .f32 n < 2 ^ FloatKind.f32.format.width := by
    unfold floatOfInt FloatKind.nearest FloatKind.encode; exact Ieee.Format.write_lt _ _
  exact h
theorem marksF_lt (k : Int) (n : Nat) : ∀ b ∈ marksF k n, b < 4294967296 := by
  intro b hb
  obtain ⟨i, _, rfl⟩ := List.mem_map.1 hb
  exact floatOfInt_lt _
theorem floatOfInt_neq (n : Int) : fcmp .neq .f32 (cn .f32 (floatOfInt .f32 n)) (cn .f32 (floatOfInt .f32 n)) = false := by
  rw [neq_self]
  unfold floatOfInt FloatKind.nearest FloatKind.encode
  exact isN_write .f32 rfl


end Go.Proofs.Ytmcnfapdghoenaa
/- Marks in lists of integers and of 32-bit numbers: what is written lies in the list's own block. Condition: at most 2^20 numbers. -/
namespace Go.Proofs.Ytmcnfapdghoenaa
open Go Go.RowKit Go.ChangeShapes Go.WideShapes Go.ChangeAt

theorem grownBy_setCell (W : World) (b j : Nat) (v : Value) : W.grownBy (W.setCell ⟨b, j, none⟩ v) (some b) :=
  ⟨rfl, rfl, rfl, (Below.setCell (Below.refl b W) (Nat.le_refl _) v).size, fun k _ hk => Below.heap_setCell _ _ _ k (fun e => hk (by rw [e]))⟩
theorem grownBy_refl (W : World) (row : Option Nat) : W.grownBy W row := ⟨rfl, rfl, rfl, Nat.le_refl _, fun _ _ _ => rfl⟩
theorem grown_ext {w w' : World} {B g : Nat} (h : w.grownBy w' (some g)) (hb : B ≤ g) (hB : B ≤ w.heap.size) : Below B w w' := (Below.refl _ _).grown h hB fun k hk => by cases hk; exact hb
theorem own_grown {w w' : World} {B g g2 n cap k : Nat} {e : TypeId} {xs : List Value} (h : w.ownsRow B e k (.slice (some ⟨g2, 0, none⟩) n cap) n xs) (hg : w.grownBy w' (some g)) (hne : g < B) :
    w'.ownsRow B e k (.slice (some ⟨g2, 0, none⟩) n cap) n xs :=
  h.kept hg (.inr fun he => by
    have := (h.lt g2 rfl).1
    simp [Value.ownBlock] at he
    omega)

/-- The marks from k on. -/
def marksI (k : Int) (n : Nat) : List Int := (List.range n).map fun (i : Nat) => k + (i : Int)
theorem marksI_len (k : Int) (n : Nat) : (marksI k n).length = n := by simp [marksI]
theorem marksI_get (k : Int) (n i : Nat) (h : i < n) : (marksI k n)[i]'(by rw [marksI_len]; exact h) = k + (i : Int) := by simp [marksI]
theorem marksI_succ (k : Int) (n : Nat) : marksI k (n + 1) = marksI k n ++ [k + (n : Int)] := by
  unfold marksI; rw [List.range_succ, List.map_append]; rfl

attribute [local go_sem] run_store_float




/-- A list of integers is nothing or its own. -/
theorem RdI_nil (w : World) : RdI w (.slice none 0 0) [] := ⟨rfl, none, 0, rfl, Nat.le_refl _, Nat.zero_le _, fun _ => rfl, fun _ h => by cases h⟩
end Go.Proofs.Ytmcnfapdghoenaa
/- The balance of crews: what the program and the reference compute is one list. No condition. -/
namespace Go.Proofs.Ytmcnfapdghoenaa
open Go Go.RowKit Go.ChangeShapes Go.WideShapes Go.ChangeAt

theorem own_ext {B : Nat} {e : TypeId} {k : Nat} {v : Value} {n : Nat} {xs : List Value} {w w' : World} (h : w.ownsRow B e k v n xs) (hb : Ext w w') : w'.ownsRow B e k v n xs :=
  h.kept (row := none) ⟨hb.os, hb.tape, hb.output, hb.size, fun j hj _ => hb.block j hj⟩ (by cases hv : v.ownBlock <;> simp)

/-- The 32-bit number nearest to an integer. -/
def ofI (n : Int) : Nat := floatOfInt .f32 n
theorem cn_ofI (n : Int) : cn .f32 (floatOfInt .f32 n) = ofI n := by
  unfold ofI floatOfInt FloatKind.nearest FloatKind.encode
  exact cn_of_not (isN_write .f32 rfl)
theorem ofI_lt (n : Int) : ofI n < 4294967296 := by
  have h : ofI n < 2 ^ FloatKind.f32.format.width := by
    unfold ofI floatOfInt FloatKind.nearest FloatKind.encode; exact Ieee.Format.write_lt _ _
  exact h

def minI (a b : Int) : Int := if a < b then a else b
def crewStep (m c : Int) (f r : Nat) (k : Int) (p : Nat) : Nat :=
  fop .quo .f32 (fop .mul .f32 (fop .mul .f32 p (ofI (m - k + 1))) f) (fop .mul .f32 (ofI (minI k c)) r)
/-- The first k + 1 terms. -/
def crewL (m c : Int) (f r : Nat) : Nat → List Nat
  | 0 => [cn .f32 1065353216]
  | k + 1 => crewL m c f r k ++ [crewStep m c f r (k + 1) ((crewL m c f r k).getD k 0)]
theorem crewL_len (m c : Int) (f r : Nat) : ∀ k, (crewL m c f r k).length = k + 1
  | 0 => rfl
  | k + 1 => by simp [crewL, crewL_len m c f r k]
def crewSum (m c : Int) (f r : Nat) (k : Nat) : Nat := sumF (cn .f32 1065353216) ((crewL m c f r k).drop 1)
def crewOut (m c : Int) (f r : Nat) : List Nat := (crewL m c f r m.toNat).map fun u => fop .quo .f32 u (crewSum m c f r m.toNat)
def crewPre (m c : Int) (f r : Nat) : Bool := inB m 1 16 && inB c 1 m && leastB f && aboveB r

theorem crewL_take (m c : Int) (f r : Nat) (k : Nat) : (crewL m c f r (k + 1)).drop 1 = (crewL m c f r k).drop 1 ++ [crewStep m c f r (k + 1) ((crewL m c f r k).getD k 0)] := by
  show (crewL m c f r k ++ [_]).drop 1 = _
  rw [List.drop_append_of_le_length (by rw [crewL_len]; omega)]
theorem crewSum_succ (m c : Int) (f r : Nat) (k : Nat) : crewSum m c f r (k + 1) = fop .add .f32 (crewSum m c f r k) (crewStep m c f r (k + 1) ((crewL m c f r k).getD k 0)) := by
  unfold crewSum
  rw [crewL_take]
  unfold sumF
  rw [List.foldl_append]
  rfl

/-- What a call of either hands back. -/
def CrewPost (m c : Int) (f r : Nat) (w : World) (e : Ending) (w' : World) : Prop :=
  Ext w w' ∧ if crewPre m c f r && finAll (crewOut m c f r) then
    ∃ (g cap : Nat) (os : List Nat), e = .returned (.tuple #[.slice (some ⟨g, 0, none⟩) os.length cap, .bool true]) ∧ os.map (cn .f32) = crewOut m c f r ∧ (∀ b ∈ os, b < 4294967296) ∧
      w'.ownsRow w.heap.size 24 1 (.slice (some ⟨g, 0, none⟩) os.length cap) os.length (os.map (Value.float .f32))
  else e = .returned (.tuple #[.slice none 0 0, .bool false])

theorem crewPost_of {m c : Int} {f r : Nat} {w w' : World} {g cap : Nat} {os : List Nat} (hp : crewPre m c f r = true) (X : Ext w w') (h : os.map (cn .f32) = crewOut m c f r) (hb : ∀ b ∈ os, b < 4294967296)
    (own : w'.ownsRow w.heap.size 24 1 (.slice (some ⟨g, 0, none⟩) os.length cap) os.length (os.map (Value.float .f32))) :
    CrewPost m c f r w (.returned (.tuple #[orNil (finAll (os.map (cn .f32))) (.slice (some ⟨g, 0, none⟩) os.length cap), .bool (finAll (os.map (cn .f32)))])) w' := by
  refine ⟨X, ?_⟩
  rw [hp, h, Bool.true_and]
  cases finAll (crewOut m c f r)
  · rfl
  · exact ⟨g, cap, os, rfl, h, hb, own⟩
theorem crewPost_no {m c : Int} {f r : Nat} {w w' : World} (hp : crewPre m c f r = false) (X : Ext w w') : CrewPost m c f r w (.returned (.tuple #[.slice none 0 0, .bool false])) w' := by
  refine ⟨X, ?_⟩
  rw [hp, Bool.false_and]
  rfl

theorem min_int (ats : Array TypeId) (ty : TypeId) (k : IntKind) (a b : Int) : Builtin.min_ ats ty #[.int k a, .int k b] = pure (.int k (minI a b)) := by
  have h : (if b < a then b else a) = minI a b := by unfold minI; split <;> split <;> omega
  show (pure (Value.int k (if b < a then b else a)) : Sem Value) = _
  rw [h]
theorem crew_head (m c : Int) (f r : Nat) : ∀ k, crewL m c f r k = cn .f32 1065353216 :: (crewL m c f r k).drop 1
  | 0 => rfl
  | k + 1 => by
    rw [crewL_take]
    exact congrArg (fun l => l ++ [crewStep m c f r (k + 1) ((crewL m c f r k).getD k 0)]) (crew_head m c f r k)
theorem crew_sum0 (m c : Int) (f r : Nat) (k : Nat) : sumF (cn .f32 0) (crewL m c f r k) = crewSum m c f r k := by
  rw [crew_head]
  unfold crewSum sumF
  rw [List.foldl_cons]
  have h : fop .add .f32 (cn .f32 0) (cn .f32 1065353216) = cn .f32 1065353216 := by decide +kernel
  rw [h]
theorem areNotLess_one {b : Nat} {c : Bool} (h : leastB (cn .f32 b) = c) (w : World) (v : Value) (R : RdF w v [b]) :
    Calls Try.prog 27 #[v] w fun e w' => e = .returned (.bool c) ∧ Ext w w' := by
  subst h
  refine (areNotLess_any v [b] w R).mono ?_
  rintro e w' ⟨rfl, X⟩
  exact ⟨by simp, X⟩
theorem areMore_one {b : Nat} {c : Bool} (h : aboveB (cn .f32 b) = c) (w : World) (v : Value) (R : RdF w v [b]) :
    Calls Try.prog 36 #[v] w fun e w' => e = .returned (.bool c) ∧ Ext w w' := by
  subst h
  refine (areMore_any v [b] w R).mono ?_
  rintro e w' ⟨rfl, X⟩
  exact ⟨by simp, X⟩
theorem RdF_one (w : World) (b : Nat) (hb : b < 4294967296) : RdF (w.alloc (.cells #[.float .f32 b] 24)) (.slice (some ⟨w.heap.size, 0, none⟩) 1 1) [b] :=
  ⟨own_rd (B := w.heap.size) (e := 24) (World.ownsRow_lit w #[.float .f32 b] 1 (Nat.le_refl _) (by decide) rfl), fun x hx => by obtain rfl := List.mem_singleton.1 hx; exact hb⟩

attribute [local go_sem ↓] min_int
attribute [local go_sem] run_store_float

end Go.Proofs.Ytmcnfapdghoenaa
/- FnExactCrewBalance returns true for every input and changes nothing that was there. No condition. -/
namespace Go.Proofs.Ytmcnfapdghoenaa
open Go Go.RowKit Go.ChangeShapes Go.WideShapes Go.ChangeAt

theorem RdF_nil (w : World) : RdF w (.slice none 0 0) [] := ⟨⟨rfl, none, 0, rfl, Nat.le_refl _, Nat.zero_le _, fun _ => rfl, fun _ h => by cases h⟩, by simp⟩

/-- A list of 32-bit numbers of the call's own and true; or nothing and false. -/
def FlPost (o : Option (List Nat)) (w : World) (e : Ending) (w' : World) : Prop :=
  Ext w w' ∧ match o with
  | some xs => ∃ (g cap : Nat) (os : List Nat), e = .returned (.tuple #[.slice (some ⟨g, 0, none⟩) os.length cap, .bool true]) ∧ os.map (cn .f32) = xs ∧ (∀ b ∈ os, b < 4294967296) ∧
      w'.ownsRow w.heap.size 24 1 (.slice (some ⟨g, 0, none⟩) os.length cap) os.length (os.map (Value.float .f32))
  | none => e = .returned (.tuple #[.slice none 0 0, .bool false])

theorem flPost_crew {m c : Int} {f r : Nat} {w w' : World} {e : Ending} (h : CrewPost m c f r w e w') : FlPost (if crewPre m c f r && finAll (crewOut m c f r) then some (crewOut m c f r) else none) w e w' := by
  obtain ⟨X, h⟩ := h
  refine ⟨X, ?_⟩
  split at h
  · rename_i hc
    rw [if_pos hc]
    exact h
  · rename_i hc
    rw [if_neg hc]
    exact h


end Go.Proofs.Ytmcnfapdghoenaa
/- Contracts of the functions that hand back one number and whether it is finite; and a law's walk over such. No condition. -/
namespace Go.Proofs.Ytmcnfapdghoenaa
open Go Go.RowKit Go.ChangeShapes Go.WideShapes Go.ChangeAt

/-- A number and true; or 0 and false. -/
def NmPost (o : Option Nat) (w : World) (e : Ending) (w' : World) : Prop :=
  Ext w w' ∧ match o with
  | some x => ∃ b, e = .returned (.tuple #[.float .f32 b, .bool true]) ∧ cn .f32 b = x ∧ b < 4294967296
  | none => e = .returned (.tuple #[.float .f32 0, .bool false])
/-- The number, or 0 if it is not finite. -/
def numOr (b : Nat) : Nat := if finB (cn .f32 b) then b else 0
def finO (x : Nat) : Option Nat := if finB x then some x else none
theorem NmPost.ext {o : Option Nat} {w w1 w' : World} {e : Ending} (h : NmPost o w1 e w') (X : Ext w w1) : NmPost o w e w' := ⟨X.trans h.1, h.2⟩
theorem nmPost_of {b : Nat} {w w' : World} (X : Ext w w') (hb : b < 4294967296) :
    NmPost (finO (cn .f32 b)) w (.returned (.tuple #[.float .f32 (numOr b), .bool (finB (cn .f32 b))])) w' := by
  refine ⟨X, ?_⟩
  unfold finO numOr
  cases finB (cn .f32 b)
  · rfl
  · exact ⟨b, rfl, rfl, hb⟩

theorem isFinite_eq {b : Nat} {c : Bool} (h : finB (cn .f32 b) = c) (w : World) : Calls Try.prog 31 #[.float .f32 b] w fun e w' => e = .returned (.bool c) ∧ Ext w w' := by subst h; exact isFinite_any b w
theorem ifFinite_any (b : Nat) (w : World) : Calls Try.prog 19 #[.float .f32 b] w fun e w' => e = .returned (.tuple #[.float .f32 (numOr b), .bool (finB (cn .f32 b))]) ∧ Ext w w' := by
  have hn : numOr b = if finB (cn .f32 b) then b else 0 := rfl
  rw [hn]
  clear hn
  cases hf : finB (cn .f32 b)
  all_goals
    have Hf := Lib.hid hf
    clear hf
    go_enter Try.func19, Try.ntmps19
    go_wp2_with fail
    refine (isFinite_eq Hf.out _).mono ?_
    rintro e w1 ⟨rfl, X⟩
    go_wp2_with fail
    go_ret2
    exact ⟨rfl, X⟩

theorem wide_same {a b x y : Nat} (ha : cn .f32 a = cn .f32 b) (hx : cn .f64 x = Go.Proofs.Ytmcnfapdghoenaa.wide (cn .f32 a)) (hy : cn .f64 y = Go.Proofs.Ytmcnfapdghoenaa.wide (cn .f32 b)) : cn .f64 x = cn .f64 y := by rw [hx, hy, ha]
end Go.Proofs.Ytmcnfapdghoenaa
