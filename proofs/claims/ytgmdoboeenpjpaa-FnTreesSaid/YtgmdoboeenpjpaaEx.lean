
/- Contracts of the exponential function of the reference and of the program. Condition: a number from -64 to 0. -/
import Derived.Test.YtgmdoboeenpjpaaFU
import Derived.Test.YtgmdoboeenpjpaaAB
namespace Go.Proofs.Ytgmdoboeenpjpaa
open Go Go.RowKit Go.ChangeShapes Go.WideShapes Go.ChangeAt

section
variable {P : Program} {ops : Array Oper} {Q : Exit → Act → World → Prop} {o : Oper} {rest : List Oper} {a : Act} {w : World}
theorem wpList_narrow {src dst : TypeId} {x : Operand} {p r : Nat} (hs : (P.underlying src).isSome = true) (hd : P.underlying dst = some (.float .f32)) (hw : Region.wanted o (yielded ops a.tmps) = true) (hop : o.op = .convert src dst x)
    (hx : a.eval x = .float .f64 p) (hr : floatToFloatBits .f64 p .f32 = some r) (hK : wpList P ops Q rest (a.put o.dst (.float .f32 r)) w) : wpList P ops Q (o :: rest) a w := by
  have hrun := run_convert_float_float (P := P) w src dst .f64 .f32 p r hs hd hr
  unfold wpList
  rw [if_pos hw]
  left
  unfold Oper.wp
  simp [execOp, hop, hx, hrun, Result.andThen]
  exact hK
end

theorem cn_fkD (k : Nat) : cn .f64 (fkD k) = fkD k := by
  unfold fkD floatOfInt FloatKind.nearest FloatKind.encode
  exact cn_of_not (isN_write .f64 rfl)
theorem cn_oneD : cn .f64 oneD = oneD := cn_of_not one_bp.notN
theorem fk_geq : ∀ k, 1 ≤ k → k ≤ 12 → fcmp .geq .f64 (fkD k) oneD = true := by
  intro k h1 h2
  have : k = 1 ∨ k = 2 ∨ k = 3 ∨ k = 4 ∨ k = 5 ∨ k = 6 ∨ k = 7 ∨ k = 8 ∨ k = 9 ∨ k = 10 ∨ k = 11 ∨ k = 12 := by omega
  rcases this with h | h | h | h | h | h | h | h | h | h | h | h <;> subst h <;> decide +kernel
theorem fk_geq0 : fcmp .geq .f64 (fkD 0) oneD = false := by decide +kernel
theorem fk_sub : ∀ k, 1 ≤ k → k ≤ 12 → fop .sub .f64 (fkD k) oneD = fkD (k - 1) := by
  intro k h1 h2
  have : k = 1 ∨ k = 2 ∨ k = 3 ∨ k = 4 ∨ k = 5 ∨ k = 6 ∨ k = 7 ∨ k = 8 ∨ k = 9 ∨ k = 10 ∨ k = 11 ∨ k = 12 := by omega
  rcases this with h | h | h | h | h | h | h | h | h | h | h | h <;> subst h <;> decide +kernel
/-- The bits are those of the number, if this is none of the NaNs. -/
theorem bits_of {k : FloatKind} {b r : Nat} (h : cn k b = r) (hr : isN k r = false) : b = r := by
  rw [← h, isN_cn] at hr
  rw [← h, cn_of_not hr]
theorem cnW {x y : Nat} (hx : Bn .f32 x 6) (hy : cn .f64 y = wide x) : Bn .f64 (cn .f64 y) 6 := by rw [hy]; exact wide_bn hx (inF64 (by decide) (by decide))


theorem expF_eq (x : Nat) : expF x = narrowF (expW x) := rfl
theorem expF_bits {x : Nat} (hx : Bn .f32 x 6) : floatToFloatBits .f64 (expW x) .f32 = some (expF x) := by
  rw [expF_eq]; exact (narrow_bp (expW_bp hx) (inF32 (by decide) (by decide))).2

/-- How many steps are left. -/
def expMes (v : Value) : Nat := match v with
  | .float _ c => ((List.range 13).findIdx? fun k => fkD k == cn .f64 c).getD 0
  | _ => 0
theorem expMes_fk {c k : Nat} (h : cn .f64 c = fkD k) (hk : k ≤ 12) : expMes (.float .f64 c) = k := by
  show ((List.range 13).findIdx? fun k => fkD k == cn .f64 c).getD 0 = k
  rw [h]
  have : k = 0 ∨ k = 1 ∨ k = 2 ∨ k = 3 ∨ k = 4 ∨ k = 5 ∨ k = 6 ∨ k = 7 ∨ k = 8 ∨ k = 9 ∨ k = 10 ∨ k = 11 ∨ k = 12 := by omega
  rcases this with h | h | h | h | h | h | h | h | h | h | h | h | h <;> subst h <;> decide +kernel
end Go.Proofs.Ytgmdoboeenpjpaa
