
/- The balance of crews: what the program and the reference compute is one list. No condition. -/
import Derived.Test.YtgmdoboeenpjpaaRows
import Derived.Test.YtgmdoboeenpjpaaD
import Derived.Test.YtgmdoboeenpjpaaE
import Derived.Outline
namespace Go.Proofs.Ytgmdoboeenpjpaa
open Go Go.RowKit Go.ChangeShapes Go.WideShapes Go.ChangeAt

theorem own_ext {B : Nat} {e : TypeId} {k : Nat} {v : Value} {n : Nat} {xs : List Value} {w w' : World} (h : w.ownsRow B e k v n xs) (hb : Ext w w') : w'.ownsRow B e k v n xs :=
  h.kept (row := none) ⟨hb.os, hb.tape, hb.output, hb.size, fun j hj _ => hb.block j hj⟩ (by cases hv : v.ownBlock <;> simp)

/-- The 32-bit number nearest to an integer. -/
def ofI (n : Int) : Nat := floatOfInt .f32 n
theorem cn_ofI (n : Int) : cn .f32 (floatOfInt .f32 n) = ofI n := by
  unfold ofI floatOfInt FloatKind.nearest FloatKind.encode
  exact cn_of_not (isN_write .f32 rfl)
theorem ofI_lt (n : Int) : ofI n < 4294967296 := by
  have h : ofI n < 2 ^ FloatKind.f32.format.width := by
    unfold ofI floatOfInt FloatKind.nearest FloatKind.encode; exact Ieee.Format.write_lt _ _
  exact h

def minI (a b : Int) : Int := if a < b then a else b
def crewStep (m c : Int) (f r : Nat) (k : Int) (p : Nat) : Nat :=
  fop .quo .f32 (fop .mul .f32 (fop .mul .f32 p (ofI (m - k + 1))) f) (fop .mul .f32 (ofI (minI k c)) r)
/-- The first k + 1 terms. -/
def crewL (m c : Int) (f r : Nat) : Nat → List Nat
  | 0 => [cn .f32 1065353216]
  | k + 1 => crewL m c f r k ++ [crewStep m c f r (k + 1) ((crewL m c f r k).getD k 0)]
theorem crewL_len (m c : Int) (f r : Nat) : ∀ k, (crewL m c f r k).length = k + 1
  | 0 => rfl
  | k + 1 => by simp [crewL, crewL_len m c f r k]
def crewSum (m c : Int) (f r : Nat) (k : Nat) : Nat := sumF (cn .f32 1065353216) ((crewL m c f r k).drop 1)
def crewOut (m c : Int) (f r : Nat) : List Nat := (crewL m c f r m.toNat).map fun u => fop .quo .f32 u (crewSum m c f r m.toNat)
def crewPre (m c : Int) (f r : Nat) : Bool := inB m 1 16 && inB c 1 m && leastB f && aboveB r

theorem crewL_take (m c : Int) (f r : Nat) (k : Nat) : (crewL m c f r (k + 1)).drop 1 = (crewL m c f r k).drop 1 ++ [crewStep m c f r (k + 1) ((crewL m c f r k).getD k 0)] := by
  show (crewL m c f r k ++ [_]).drop 1 = _
  rw [List.drop_append_of_le_length (by rw [crewL_len]; omega)]
theorem crewSum_succ (m c : Int) (f r : Nat) (k : Nat) : crewSum m c f r (k + 1) = fop .add .f32 (crewSum m c f r k) (crewStep m c f r (k + 1) ((crewL m c f r k).getD k 0)) := by
  unfold crewSum
  rw [crewL_take]
  unfold sumF
  rw [List.foldl_append]
  rfl

/-- What a call of either hands back. -/
def CrewPost (m c : Int) (f r : Nat) (w : World) (e : Ending) (w' : World) : Prop :=
  Ext w w' ∧ if crewPre m c f r && finAll (crewOut m c f r) then
    ∃ (g cap : Nat) (os : List Nat), e = .returned (.tuple #[.slice (some ⟨g, 0, none⟩) os.length cap, .bool true]) ∧ os.map (cn .f32) = crewOut m c f r ∧ (∀ b ∈ os, b < 4294967296) ∧
      w'.ownsRow w.heap.size 31 1 (.slice (some ⟨g, 0, none⟩) os.length cap) os.length (os.map (Value.float .f32))
  else e = .returned (.tuple #[.slice none 0 0, .bool false])

theorem crewPost_of {m c : Int} {f r : Nat} {w w' : World} {g cap : Nat} {os : List Nat} (hp : crewPre m c f r = true) (X : Ext w w') (h : os.map (cn .f32) = crewOut m c f r) (hb : ∀ b ∈ os, b < 4294967296)
    (own : w'.ownsRow w.heap.size 31 1 (.slice (some ⟨g, 0, none⟩) os.length cap) os.length (os.map (Value.float .f32))) :
    CrewPost m c f r w (.returned (.tuple #[orNil (finAll (os.map (cn .f32))) (.slice (some ⟨g, 0, none⟩) os.length cap), .bool (finAll (os.map (cn .f32)))])) w' := by
  refine ⟨X, ?_⟩
  rw [hp, h, Bool.true_and]
  cases finAll (crewOut m c f r)
  · rfl
  · exact ⟨g, cap, os, rfl, h, hb, own⟩
theorem crewPost_no {m c : Int} {f r : Nat} {w w' : World} (hp : crewPre m c f r = false) (X : Ext w w') : CrewPost m c f r w (.returned (.tuple #[.slice none 0 0, .bool false])) w' := by
  refine ⟨X, ?_⟩
  rw [hp, Bool.false_and]
  rfl

theorem min_int (ats : Array TypeId) (ty : TypeId) (k : IntKind) (a b : Int) : Builtin.min_ ats ty #[.int k a, .int k b] = pure (.int k (minI a b)) := by
  have h : (if b < a then b else a) = minI a b := by unfold minI; split <;> split <;> omega
  show (pure (Value.int k (if b < a then b else a)) : Sem Value) = _
  rw [h]
theorem crew_head (m c : Int) (f r : Nat) : ∀ k, crewL m c f r k = cn .f32 1065353216 :: (crewL m c f r k).drop 1
  | 0 => rfl
  | k + 1 => by
    rw [crewL_take]
    exact congrArg (fun l => l ++ [crewStep m c f r (k + 1) ((crewL m c f r k).getD k 0)]) (crew_head m c f r k)
theorem crew_sum0 (m c : Int) (f r : Nat) (k : Nat) : sumF (cn .f32 0) (crewL m c f r k) = crewSum m c f r k := by
  rw [crew_head]
  unfold crewSum sumF
  rw [List.foldl_cons]
  have h : fop .add .f32 (cn .f32 0) (cn .f32 1065353216) = cn .f32 1065353216 := by decide +kernel
  rw [h]
theorem RdF_one (w : World) (b : Nat) (hb : b < 4294967296) : RdF (w.alloc (.cells #[.float .f32 b] 31)) (.slice (some ⟨w.heap.size, 0, none⟩) 1 1) [b] :=
  ⟨own_rd (B := w.heap.size) (e := 31) (World.ownsRow_lit w #[.float .f32 b] 1 (Nat.le_refl _) (by decide) rfl), fun x hx => by obtain rfl := List.mem_singleton.1 hx; exact hb⟩

attribute [local go_sem ↓] min_int
attribute [local go_sem] run_store_float

end Go.Proofs.Ytgmdoboeenpjpaa
