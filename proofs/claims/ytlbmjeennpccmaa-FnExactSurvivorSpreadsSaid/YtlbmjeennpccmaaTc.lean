
/- The square root in single precision: what the program and the reference compute. Condition: a number from 0 to 2^48. -/
import Derived.Test.YtlbmjeennpccmaaTb
import Derived.Laws.Externs
namespace Go.Proofs.Ytlbmjeennpccmaa
open Go Go.RowKit Go.ChangeShapes Go.WideShapes Go.ChangeAt

theorem run_sqrt {x r : Nat} (h : (FloatKind.f64).format.sqrt x = some r) (w : World) : (callFunc 104 #[.float .f64 x]).run Try.prog w = .ok (.value (.float .f64 r)) w := by
  rw [run_callFunc_extern (e := Extern.MathSqrt.sqrt) Try.func104 (by kernel_rfl) (by kernel_rfl) (by kernel_rfl) (by kernel_rfl)]
  have e1 : (Extern.MathSqrt.sqrt #[.float .f64 x]).run Try.prog w = .ok (.float .f64 r) w := by
    change Sem.run Try.prog (match (FloatKind.f64).format.sqrt x with
      | some r => (pure (Value.float FloatKind.f64 r) : Sem Value)
      | none => do pure (Value.float FloatKind.f64 (← choose (.nanBits .f64 x x)))) w = _
    rw [h]; rfl
  rw [e1]; rfl
theorem mathSqrt_any {x r : Nat} (h : (FloatKind.f64).format.sqrt x = some r) (w : World) : Calls Try.prog 87 #[.float .f64 x] w fun e w' => e = .returned (.float .f64 r) ∧ w = w' := by
  have hrun := run_sqrt h
  clear h
  go_enter Try.func87, Try.ntmps87
  go_wp2_with fail
  go_ret
  exact ⟨rfl, rfl⟩

theorem rootNumber_any (x : Nat) (w : World) (hx : Bp .f32 x 48) :
    Calls Try.prog 59 #[.float .f32 x] w fun e w' => e = .returned (.float .f32 (rootF x)) ∧ Ext w w' := by
  have wa : (Try.prog.underlying 24).isSome = true := by kernel_rfl
  have wb : (Try.prog.underlying 30).isSome = true := by kernel_rfl
  have HC : Hid (cn .f32 x = x) := cn_of_not hx.notN
  have HW : Hid (isN .f64 (wide x) = false) := (wide_bp hx (inF64 (by decide) (by decide))).notN
  have HS := Lib.hid (rootW_eq hx).1
  have HB := Lib.hid (rootF_bits hx)
  clear hx
  go_enter Try.func59, Try.ntmps59
  go_wp2_with (refine wpList_wide wa Try.underlying30 rfl rfl rfl ?_; intro zb zn hzb hzl; clear hzl; replace hzb := Lib.hid hzb)
  obtain rfl : zb = wide x := bits_of (by rw [hzb.out, HC.out]) HW.out
  refine (mathSqrt_any HS.out _).mono ?_
  rintro e w1 ⟨rfl, rfl⟩
  go_wp2_with (refine wpList_narrow wb Try.underlying24 rfl rfl rfl HB.out ?_)
  go_ret
  exact ⟨rfl, Ext.drewN _ _⟩
theorem l01Narrow_to (W r : Nat) (h : floatToFloatBits .f64 W .f32 = some r) (w : World) : Calls Try.prog 86 #[.float .f64 W] w fun e w' => e = .returned (.float .f32 r) ∧ w = w' := by
  have wb : (Try.prog.underlying 30).isSome = true := by kernel_rfl
  have HZ := Lib.hid h
  clear h
  go_enter Try.func86, Try.ntmps86
  go_wp2_with (refine wpList_narrow wb Try.underlying24 rfl rfl rfl HZ.out ?_)
  go_ret
  exact ⟨rfl, rfl⟩
theorem l01Sqrt_any (x : Nat) (w : World) (hx : Bp .f32 x 48) :
    Calls Try.prog 56 #[.float .f32 x] w fun e w' => e = .returned (.float .f32 (rootF x)) ∧ Ext w w' := by
  have wa : (Try.prog.underlying 24).isSome = true := by kernel_rfl
  have HC : Hid (cn .f32 x = x) := cn_of_not hx.notN
  have HW : Hid (isN .f64 (wide x) = false) := (wide_bp hx (inF64 (by decide) (by decide))).notN
  have HS := Lib.hid (rootW_eq hx).1
  have HB := Lib.hid (rootF_bits hx)
  clear hx
  go_enter Try.func56, Try.ntmps56
  go_wp2_with (refine wpList_wide wa Try.underlying30 rfl rfl rfl ?_; intro zb zn hzb hzl; clear hzl; replace hzb := Lib.hid hzb)
  obtain rfl : zb = wide x := bits_of (by rw [hzb.out, HC.out]) HW.out
  refine (mathSqrt_any HS.out _).mono ?_
  rintro e w1 ⟨rfl, rfl⟩
  go_wp2_with fail
  refine (l01Narrow_to (rootW x) (rootF x) HB.out _).mono ?_
  rintro e w2 ⟨rfl, rfl⟩
  go_wp2_with fail
  go_ret
  exact ⟨rfl, Ext.drewN _ _⟩
end Go.Proofs.Ytlbmjeennpccmaa
