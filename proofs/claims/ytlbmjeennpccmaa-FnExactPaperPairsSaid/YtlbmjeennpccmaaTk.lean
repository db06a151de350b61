
/- The logarithm in single precision of every number, infinity or not-a-number: what the program and the reference compute. Condition: 32 bits. -/
import Derived.Test.YtlbmjeennpccmaaTj
namespace Go.Proofs.Ytlbmjeennpccmaa
open Go Go.RowKit Go.ChangeShapes Go.WideShapes Go.ChangeAt

/-! ### Narrowing -/
/-- W narrows to r, a not-a-number to the one that stands for all. -/
def NarR (W r : Nat) : Prop := (isN .f64 W = true ∧ r = nanW .f32) ∨ (floatToFloatBits .f64 W .f32 = some r ∧ r < 4294967296 ∧ isN .f32 r = false)
theorem run_narrow {P : Program} (w : World) (src dst : TypeId) (hs : (P.underlying src).isSome = true) (hd : P.underlying dst = some (.float .f32)) {W r : Nat} (h : NarR W r) :
    ∃ v n, (convert src dst (.float .f64 W)).run P w = .ok v (w.drewN n) ∧ FV .f32 r v := by
  rcases h with ⟨h, rfl⟩ | ⟨h, h1, h2⟩
  · obtain ⟨u, hs'⟩ := Option.isSome_iff_exists.1 hs
    obtain ⟨s, f, e0⟩ := read_nan h
    have e0 : (FloatKind.f64).decode W = .nan s f := e0
    have hc : isN .f32 ((Question.nanConv .f32 W).cut (w.tape w.drawn (.nanConv .f32 W))) = true ∧ (Question.nanConv .f32 W).cut (w.tape w.drawn (.nanConv .f32 W)) < 2 ^ 32 := isN_cut .f32 W W _
    refine ⟨.float .f32 ((Question.nanConv .f32 W).cut (w.tape w.drawn (.nanConv .f32 W))), 1, ?_, _, rfl, ?_, hc.2⟩
    · cases u <;> simp [convert, run_underlying hs', run_underlying hd, Conv.floatToFloat, e0, choose, Sem.run, Question.forced, World.drewN]
    · unfold cn; rw [if_pos hc.1]
  · exact ⟨.float .f32 r, 0, run_convert_float_float (P := P) w src dst .f64 .f32 W r hs hd h, r, rfl, cn_of_not h2, h1⟩
theorem wpList_narrowC {P : Program} {ops : Array Oper} {Q : Exit → Act → World → Prop} {o : Oper} {rest : List Oper} {a : Act} {w : World} {src dst : TypeId} {x : Operand} {p r : Nat}
    (hs : (P.underlying src).isSome = true) (hd : P.underlying dst = some (.float .f32)) (hw : Region.wanted o (yielded ops a.tmps) = true) (hop : o.op = .convert src dst x)
    (hx : a.eval x = .float .f64 p) (hr : NarR p r) (hK : ∀ b n, cn .f32 b = r → b < 4294967296 → wpList P ops Q rest (a.put o.dst (.float .f32 b)) (w.drewN n)) : wpList P ops Q (o :: rest) a w := by
  obtain ⟨v, n, hrun, b, rfl, h1, h2⟩ := run_narrow (P := P) w src dst hs hd hr
  unfold wpList
  rw [if_pos hw]
  left
  unfold Oper.wp
  simp [execOp, hop, hx, hrun, Result.andThen]
  exact hK b n h1 h2

/-! ### What kind of number it is -/
def logF (x : Nat) : Nat := match Ieee.single.read x with
  | .nan _ _ => nanW .f32
  | .infinity s => if s then nanW .f32 else 2139095040
  | .number s m _ => if m = 0 then 4286578688 else if s then nanW .f32 else narrowF (logW (wide x))
theorem order_zero {k : FloatKind} {x m : Nat} {s : Bool} {e : Int} (h : k.format.read x = .number s m e) (z : Nat) (hz : ∃ j, k.format.read z = .number false 0 j) :
    k.format.order x z = some (if m = 0 then .eq else if s then .lt else .gt) := by
  obtain ⟨j, hz⟩ := hz
  unfold Ieee.Format.order
  rw [h, hz]
  simp only [Ieee.Datum.order]
  generalize (e - min e j).toNat = a
  generalize (j - min e j).toNat = b
  have h0 : Ieee.signed false 0 b = 0 := by unfold Ieee.signed; simp
  rw [h0]
  have hp : 0 < 2 ^ a := Nat.pow_pos (by omega)
  by_cases hm : m = 0
  · subst hm
    have : Ieee.signed s 0 a = 0 := by unfold Ieee.signed; cases s <;> simp
    rw [this]; rfl
  · have hpos : 0 < m * 2 ^ a := Nat.mul_pos (by omega) hp
    rw [if_neg hm]
    cases s
    · have : Ieee.signed false m a = ((m * 2 ^ a : Nat) : Int) := signed_pos (.inr rfl)
      rw [this]
      show some (compareOfLessAndEq _ _) = _
      unfold compareOfLessAndEq
      rw [if_neg (by omega), if_neg (by omega)]; rfl
    · have : Ieee.signed true m a = -((m * 2 ^ a : Nat) : Int) := by unfold Ieee.signed; rw [Nat.shiftLeft_eq]; rfl
      rw [this]
      show some (compareOfLessAndEq _ _) = _
      unfold compareOfLessAndEq
      rw [if_pos (by omega)]; rfl
theorem order_inf {k : FloatKind} {x : Nat} {s : Bool} (h : k.format.read x = .infinity s) (z : Nat) (hz : ∃ j, k.format.read z = .number false 0 j) :
    k.format.order x z = some (if s then .lt else .gt) := by
  obtain ⟨j, hz⟩ := hz
  unfold Ieee.Format.order
  rw [h, hz]
  cases s <;> rfl
theorem zero32 : ∃ j, (FloatKind.f32).format.read (cn .f32 0) = .number false 0 j := ⟨-149, by decide +kernel⟩
theorem zero64 : ∃ j, (FloatKind.f64).format.read (cn .f64 0) = .number false 0 j := ⟨-1074, by decide +kernel⟩
theorem inf_bits {x : Nat} {s : Bool} (hx : x < 4294967296) (h : Ieee.single.read x = .infinity s) : x = if s then 4286578688 else 2139095040 := by
  unfold Ieee.Format.read at h
  have h1 : Ieee.single.signWeight = 2147483648 := by decide
  have h2 : Ieee.single.binade = 8388608 := by decide
  have h3 : Ieee.single.infRung = 2139095040 := by decide
  simp only [h1, h2, h3] at h
  split at h
  · cases h
  · split at h
    · cases h
    · split at h
      · rename_i h4 h5 h6
        injection h with h
        have h6 : x % 2147483648 = 2139095040 := by omega
        rcases Nat.lt_or_ge x 2147483648 with h7 | h7
        · have : x / 2147483648 = 0 := Nat.div_eq_of_lt h7
          rw [this] at h
          subst h
          rw [Nat.mod_eq_of_lt h7] at h6
          exact h6
        · have : x / 2147483648 = 1 := by omega
          rw [this] at h
          subst h
          show x = 4286578688
          omega
      · cases h
theorem wide_num {x m : Nat} {s : Bool} {e : Int} (h : Ieee.single.read x = .number s m e) (hm : m ≠ 0) :
    ∃ m' e', (FloatKind.f64).format.read (wide x) = .number s m' e' ∧ LeP m' e' 128 ∧ GeP m' e' (-149) := by
  obtain ⟨h1, h2, h3⟩ := single_read h
  have : wide x = (FloatKind.f64).format.write (.number s m e) := by unfold wide; rw [h]; rfl
  rw [this]
  refine nearest_ge (k := .f64) (c := 128) (.inr ⟨by omega, ?_⟩) ⟨hm, by omega⟩ (by decide +kernel) (inF64 (by decide) (by decide))
  have : m < 2 ^ (128 - e).toNat := Nat.lt_of_lt_of_le h1 (Nat.pow_le_pow_right (by omega) (by omega))
  omega
theorem wide_zero {x : Nat} {s : Bool} {e : Int} (h : Ieee.single.read x = .number s 0 e) : ∃ j, (FloatKind.f64).format.read (wide x) = .number s 0 j := by
  have : wide x = (FloatKind.f64).format.word s 0 := by unfold wide; rw [h]; rfl
  rw [this]
  exact ⟨_, read_zero .f64 s⟩
theorem wide_bg {x m : Nat} {e : Int} (h : Ieee.single.read x = .number false m e) (hm : m ≠ 0) : Bg .f64 (wide x) (-149) 128 := by
  obtain ⟨m', e', h1, h2, h3⟩ := wide_num h hm
  exact ⟨m', e', h1, h2, h3⟩
theorem narrow_log {y : Nat} (h : Bg .f64 y (-149) 128) : NarR (logW y) (narrowF (logW y)) := by
  have h1 := ba_narrow (logW_ba h) (inF32 (by omega) (by omega))
  refine .inr ⟨h1.2, ?_, h1.1.notN⟩
  exact Ieee.single.write_lt _
theorem fin_num {x m : Nat} {s : Bool} {e : Int} (h : Ieee.single.read x = .number s m e) (hm : m ≠ 0) (hs : s = false) : finB x = true := by
  obtain ⟨h1, h2, h3⟩ := single_read h
  refine finB_num (c := 128) ⟨s, m, e, h, .inr ⟨by omega, ?_⟩, .inr hs⟩
  have : m < 2 ^ (128 - e).toNat := Nat.lt_of_lt_of_le h1 (Nat.pow_le_pow_right (by omega) (by omega))
  omega

/-! ### The contracts -/
theorem inf_minus (w : World) : Calls Try.prog 90 #[.int .i64 (-1)] w fun e w' => e = .returned (.float .f64 18442240474082181120) ∧ w = w' := by
  have hrun := fun n w => ex_f64frombits n w
  go_enter Try.func90, Try.ntmps90
  go_wp2_with fail
  go_ret
  exact ⟨rfl, rfl⟩
theorem nan_any (w : World) : Calls Try.prog 98 #[] w fun e w' => e = .returned (.float .f64 9221120237041090561) ∧ w = w' := by
  have hrun := fun n w => ex_f64frombits n w
  go_enter Try.func98, Try.ntmps98
  go_wp2_with fail
  go_ret
  exact ⟨rfl, rfl⟩
set_option maxHeartbeats 4000000 in
theorem logNumber_any (x : Nat) (w : World) (hx : x < 4294967296) :
    Calls Try.prog 72 #[.float .f32 x] w fun e w' => ∃ b, e = .returned (.float .f32 b) ∧ cn .f32 b = logF (cn .f32 x) ∧ b < 4294967296 ∧ Ext w w' := by
  have wa : (Try.prog.underlying 24).isSome = true := by kernel_rfl
  have wb : (Try.prog.underlying 30).isSome = true := by kernel_rfl
  cases hr : Ieee.single.read x with
  | nan s f =>
    have hN : isN .f32 x = true := by unfold isN; rw [show (FloatKind.f32).format.read x = .nan s f from hr]; rfl
    have q1 : fcmp .eql .f32 (cn .f32 x) (cn .f32 0) = false := by rw [fcmp_cn]; unfold fcmp; rw [order_nan _ _ _ hN]; rfl
    have q2 : fcmp .lss .f32 (cn .f32 x) (cn .f32 0) = false := by rw [fcmp_cn]; unfold fcmp; rw [order_nan _ _ _ hN]; rfl
    have q3 : fcmp .neq .f32 (cn .f32 x) (cn .f32 x) = true := by rw [fcmp_self_neq, isN_cn, hN]
    have HR : Hid (NarR 9221120237041090561 (nanW .f32)) := .inl ⟨by decide +kernel, rfl⟩
    have HL : Hid (logF (cn .f32 x) = nanW .f32) := by
      obtain ⟨s', f', e'⟩ := read_nan (k := .f32) (b := cn .f32 x) (by rw [isN_cn, hN])
      show _ = _; unfold logF; rw [show Ieee.single.read (cn .f32 x) = .nan s' f' from e']
    clear hN hr hx
    go_enter Try.func72, Try.ntmps72
    go_wp2_with (refine wpList_fcmp rfl rfl rfl rfl rfl (by first | with_reducible assumption | exact rfl) ?_)
    refine (nan_any _).mono ?_
    rintro e w1 ⟨rfl, rfl⟩
    go_wp2_with (refine wpList_narrowC wb Try.underlying24 rfl rfl rfl HR.out ?_; intro zb zn hzb hzl; replace hzb := Lib.hid hzb)
    go_ret
    exact ⟨_, rfl, by rw [hzb.out, HL.out], hzl, Ext.drewN _ _⟩
  | infinity s =>
    have hb := inf_bits hx hr
    cases s
    · have q1 : fcmp .eql .f32 (cn .f32 2139095040) (cn .f32 0) = false := by decide +kernel
      have q2 : fcmp .lss .f32 (cn .f32 2139095040) (cn .f32 0) = false := by decide +kernel
      have q3 : fcmp .neq .f32 (cn .f32 2139095040) (cn .f32 2139095040) = false := by decide +kernel
      have HF : Hid (finB (cn .f32 2139095040) = false) := by show _ = _; decide +kernel
      have HL : Hid (cn .f32 2139095040 = logF (cn .f32 2139095040)) := by show _ = _; decide +kernel
      simp only [Bool.false_eq_true, if_false] at hb
      subst hb
      clear hr hx
      go_enter Try.func72, Try.ntmps72
      go_wp2_with (refine wpList_fcmp rfl rfl rfl rfl rfl (by first | with_reducible assumption | exact rfl) ?_)
      refine (isFinite_eq HF.out _).mono ?_
      rintro e w1 ⟨rfl, X⟩
      go_wp2_with fail
      go_ret
      exact ⟨_, rfl, HL.out, by decide, X⟩
    · have q1 : fcmp .eql .f32 (cn .f32 4286578688) (cn .f32 0) = false := by decide +kernel
      have q2 : fcmp .lss .f32 (cn .f32 4286578688) (cn .f32 0) = true := by decide +kernel
      have HR : Hid (NarR 9221120237041090561 (nanW .f32)) := .inl ⟨by decide +kernel, rfl⟩
      have HL : Hid (nanW .f32 = logF (cn .f32 4286578688)) := by show _ = _; decide +kernel
      simp only [if_true] at hb
      subst hb
      clear hr hx
      go_enter Try.func72, Try.ntmps72
      go_wp2_with (refine wpList_fcmp rfl rfl rfl rfl rfl (by first | with_reducible assumption | exact rfl) ?_)
      refine (nan_any _).mono ?_
      rintro e w1 ⟨rfl, rfl⟩
      go_wp2_with (refine wpList_narrowC wb Try.underlying24 rfl rfl rfl HR.out ?_; intro zb zn hzb hzl; replace hzb := Lib.hid hzb)
      go_ret
      exact ⟨_, rfl, by rw [hzb.out, HL.out], hzl, Ext.drewN _ _⟩
  | number s m e =>
    have hN : isN .f32 x = false := by unfold isN; rw [show (FloatKind.f32).format.read x = .number s m e from hr]; rfl
    have hc : cn .f32 x = x := cn_of_not hN
    have ho := order_zero (k := .f32) (show (FloatKind.f32).format.read x = .number s m e from hr) (cn .f32 0) zero32
    have q3 : fcmp .neq .f32 (cn .f32 x) (cn .f32 x) = false := by rw [fcmp_self_neq, isN_cn, hN]
    have hL : logF (cn .f32 x) = if m = 0 then 4286578688 else if s then nanW .f32 else narrowF (logW (wide x)) := by rw [hc]; unfold logF; rw [hr]
    by_cases hm : m = 0
    · have q1 : fcmp .eql .f32 (cn .f32 x) (cn .f32 0) = true := by rw [hc]; unfold fcmp; rw [ho, if_pos hm]; rfl
      have HR : Hid (NarR 18442240474082181120 4286578688) := .inr ⟨by decide +kernel, by decide, by decide +kernel⟩
      rw [if_pos hm] at hL
      have HL := Lib.hid hL
      clear hN hc ho q3 hL hr hx hm
      go_enter Try.func72, Try.ntmps72
      go_wp2_with (refine wpList_fcmp rfl rfl rfl rfl rfl (by first | with_reducible assumption | exact rfl) ?_)
      refine (inf_minus _).mono ?_
      rintro e w1 ⟨rfl, rfl⟩
      go_wp2_with (refine wpList_narrowC wb Try.underlying24 rfl rfl rfl HR.out ?_; intro zb zn hzb hzl; replace hzb := Lib.hid hzb)
      go_ret
      exact ⟨_, rfl, by rw [hzb.out, HL.out], hzl, Ext.drewN _ _⟩
    · have q1 : fcmp .eql .f32 (cn .f32 x) (cn .f32 0) = false := by rw [hc]; unfold fcmp; rw [ho, if_neg hm]; cases s <;> rfl
      rw [if_neg hm] at hL ho
      cases s
      · have q2 : fcmp .lss .f32 (cn .f32 x) (cn .f32 0) = false := by rw [hc]; unfold fcmp; rw [ho]; rfl
        have HF : Hid (finB (cn .f32 x) = true) := by show _ = _; rw [hc]; exact fin_num hr hm rfl
        have hbg := wide_bg hr hm
        have HB := Lib.hid hbg
        have HR := Lib.hid (narrow_log hbg)
        have HNW : Hid (isN .f64 (wide x) = false) := hbg.notN
        simp only [Bool.false_eq_true, if_false] at hL
        have HL := Lib.hid hL
        have HC := Lib.hid hc
        clear hN hc ho hL hr hx hm hbg
        go_enter Try.func72, Try.ntmps72
        go_wp2_with (refine wpList_fcmp rfl rfl rfl rfl rfl (by first | with_reducible assumption | exact rfl) ?_)
        refine (isFinite_eq HF.out _).mono ?_
        rintro e w1 ⟨rfl, X⟩
        go_wp2_with (refine wpList_wide wa Try.underlying30 rfl rfl rfl ?_; intro zb zn hzb hzl; clear hzl; replace hzb := Lib.hid hzb)
        obtain rfl : zb = wide x := bits_of (by rw [hzb.out, HC.out]) HNW.out
        refine (naturalLog_any _ _ HB.out).mono ?_
        rintro e w2 ⟨rfl, X2⟩
        go_wp2_with (refine wpList_narrowC wb Try.underlying24 rfl rfl rfl HR.out ?_; intro ub un hub hul; replace hub := Lib.hid hub)
        go_ret
        exact ⟨_, rfl, by rw [hub.out, HL.out], hul, X.trans ((Ext.drewN _ _).trans (X2.trans (Ext.drewN _ _)))⟩
      · have q2 : fcmp .lss .f32 (cn .f32 x) (cn .f32 0) = true := by rw [hc]; unfold fcmp; rw [ho]; rfl
        have HR : Hid (NarR 9221120237041090561 (nanW .f32)) := .inl ⟨by decide +kernel, rfl⟩
        simp only [if_true] at hL
        have HL := Lib.hid hL
        clear hN hc ho q3 hL hr hx hm
        go_enter Try.func72, Try.ntmps72
        go_wp2_with (refine wpList_fcmp rfl rfl rfl rfl rfl (by first | with_reducible assumption | exact rfl) ?_)
        refine (nan_any _).mono ?_
        rintro e w1 ⟨rfl, rfl⟩
        go_wp2_with (refine wpList_narrowC wb Try.underlying24 rfl rfl rfl HR.out ?_; intro zb zn hzb hzl; replace hzb := Lib.hid hzb)
        go_ret
        exact ⟨_, rfl, by rw [hzb.out, HL.out], hzl, Ext.drewN _ _⟩
theorem l01LogWide_none (y : Nat) (w : World) (h : fcmp .neq .f64 (cn .f64 y) (cn .f64 y) = true) : Calls Try.prog 93 #[.float .f64 y] w fun e w' => e = .returned (.float .f64 9221120237041090561) ∧ w = w' := by
  go_enter Try.func93, Try.ntmps93
  go_wp2_with (refine wpList_fcmp rfl rfl rfl rfl rfl (by first | with_reducible assumption | exact rfl) ?_)
  refine (nan_any _).mono ?_
  rintro e w1 ⟨rfl, rfl⟩
  go_wp2_with fail
  go_ret
  exact ⟨rfl, rfl⟩
theorem l01LogWide_neg (y : Nat) (w : World) (h1 : fcmp .neq .f64 (cn .f64 y) (cn .f64 y) = false) (h2 : fcmp .lss .f64 (cn .f64 y) (cn .f64 0) = true) : Calls Try.prog 93 #[.float .f64 y] w fun e w' => e = .returned (.float .f64 9221120237041090561) ∧ w = w' := by
  go_enter Try.func93, Try.ntmps93
  go_wp2_with (refine wpList_fcmp rfl rfl rfl rfl rfl (by first | with_reducible assumption | exact rfl) ?_)
  refine (nan_any _).mono ?_
  rintro e w1 ⟨rfl, rfl⟩
  go_wp2_with fail
  go_ret
  exact ⟨rfl, rfl⟩
theorem l01LogWide_zero (y : Nat) (w : World) (h1 : fcmp .neq .f64 (cn .f64 y) (cn .f64 y) = false) (h2 : fcmp .lss .f64 (cn .f64 y) (cn .f64 0) = false) (h3 : fcmp .eql .f64 (cn .f64 y) (cn .f64 0) = true) : Calls Try.prog 93 #[.float .f64 y] w fun e w' => e = .returned (.float .f64 18442240474082181120) ∧ w = w' := by
  go_enter Try.func93, Try.ntmps93
  go_wp2_with (refine wpList_fcmp rfl rfl rfl rfl rfl (by first | with_reducible assumption | exact rfl) ?_)
  refine (inf_minus _).mono ?_
  rintro e w1 ⟨rfl, rfl⟩
  go_wp2_with fail
  go_ret
  exact ⟨rfl, rfl⟩
theorem l01LogWide_inf (w : World) : Calls Try.prog 93 #[.float .f64 9218868437227405312] w fun e w' => e = .returned (.float .f64 9218868437227405312) ∧ w = w' := by
  have h1 : fcmp .neq .f64 (cn .f64 9218868437227405312) (cn .f64 9218868437227405312) = false := by decide +kernel
  have h2 : fcmp .lss .f64 (cn .f64 9218868437227405312) (cn .f64 0) = false := by decide +kernel
  have h3 : fcmp .eql .f64 (cn .f64 9218868437227405312) (cn .f64 0) = false := by decide +kernel
  have H4 : Hid (fcmp .gtr .f64 (cn .f64 9218868437227405312) (cn .f64 9218868437227405311) = true) := by show _ = _; decide +kernel
  go_enter Try.func93, Try.ntmps93
  go_wp2_with (refine wpList_fcmp rfl rfl rfl rfl rfl (by first | with_reducible assumption | exact rfl) ?_)
  refine (isInf_one _ true H4.out _).mono ?_
  rintro e w1 ⟨rfl, rfl⟩
  go_wp2_with fail
  go_ret
  exact ⟨rfl, rfl⟩
theorem l01Narrow_c (W r : Nat) (h : NarR W r) (w : World) : Calls Try.prog 86 #[.float .f64 W] w fun e w' => ∃ b, e = .returned (.float .f32 b) ∧ cn .f32 b = r ∧ b < 4294967296 ∧ Ext w w' := by
  have wb : (Try.prog.underlying 30).isSome = true := by kernel_rfl
  have HZ := Lib.hid h
  clear h
  go_enter Try.func86, Try.ntmps86
  go_wp2_with (refine wpList_narrowC wb Try.underlying24 rfl rfl rfl HZ.out ?_; intro zb zn hzb hzl; replace hzb := Lib.hid hzb)
  go_ret
  exact ⟨_, rfl, hzb.out, hzl, Ext.drewN _ _⟩
/-- What the logarithm in double precision is, of whatever number. -/
theorem l01LogWide_all (x y : Nat) (w : World) (hx : x < 4294967296) (hy : cn .f64 y = wide (cn .f32 x)) :
    Calls Try.prog 93 #[.float .f64 y] w fun e w' => ∃ W, e = .returned (.float .f64 W) ∧ NarR W (logF (cn .f32 x)) ∧ Ext w w' := by
  have hN9 : NarR 9221120237041090561 (nanW .f32) := .inl ⟨by decide +kernel, rfl⟩
  cases hr : Ieee.single.read x with
  | nan s f =>
    have hN : isN .f32 x = true := by unfold isN; rw [show (FloatKind.f32).format.read x = .nan s f from hr]; rfl
    obtain ⟨s', f', e'⟩ := read_nan (k := .f32) (b := cn .f32 x) (by rw [isN_cn, hN])
    have hw : wide (cn .f32 x) = nanW .f64 := by unfold wide; rw [show Ieee.single.read (cn .f32 x) = .nan s' f' from e']
    have hl : logF (cn .f32 x) = nanW .f32 := by unfold logF; rw [show Ieee.single.read (cn .f32 x) = .nan s' f' from e']
    have q : fcmp .neq .f64 (cn .f64 y) (cn .f64 y) = true := by rw [hy, hw]; decide +kernel
    refine (l01LogWide_none y w q).mono ?_
    rintro e w1 ⟨rfl, rfl⟩
    exact ⟨_, rfl, by rw [hl]; exact hN9, Ext.refl _⟩
  | infinity s =>
    have hb := inf_bits hx hr
    cases s
    · simp only [Bool.false_eq_true, if_false] at hb
      subst hb
      have hw : wide (cn .f32 2139095040) = 9218868437227405312 := by decide +kernel
      obtain rfl : y = 9218868437227405312 := bits_of (by rw [hy, hw]) (by decide +kernel)
      refine (l01LogWide_inf w).mono ?_
      rintro e w1 ⟨rfl, rfl⟩
      exact ⟨_, rfl, .inr ⟨by decide +kernel, by decide +kernel, by decide +kernel⟩, Ext.refl _⟩
    · simp only [if_true] at hb
      subst hb
      have q1 : fcmp .neq .f64 (cn .f64 y) (cn .f64 y) = false := by rw [hy]; decide +kernel
      have q2 : fcmp .lss .f64 (cn .f64 y) (cn .f64 0) = true := by rw [hy]; decide +kernel
      have hl : logF (cn .f32 4286578688) = nanW .f32 := by decide +kernel
      refine (l01LogWide_neg y w q1 q2).mono ?_
      rintro e w1 ⟨rfl, rfl⟩
      exact ⟨_, rfl, by rw [hl]; exact hN9, Ext.refl _⟩
  | number s m e =>
    have hN : isN .f32 x = false := by unfold isN; rw [show (FloatKind.f32).format.read x = .number s m e from hr]; rfl
    have hc : cn .f32 x = x := cn_of_not hN
    have hL : logF (cn .f32 x) = if m = 0 then 4286578688 else if s then nanW .f32 else narrowF (logW (wide x)) := by rw [hc]; unfold logF; rw [hr]
    rw [hc] at hy
    by_cases hm : m = 0
    · subst hm
      obtain ⟨j, hj⟩ := wide_zero hr
      have ho := order_zero (k := .f64) hj (cn .f64 0) zero64
      have hNw : isN .f64 (wide x) = false := by unfold isN; rw [hj]; rfl
      have q1 : fcmp .neq .f64 (cn .f64 y) (cn .f64 y) = false := by rw [fcmp_self_neq, hy]; exact hNw
      have q2 : fcmp .lss .f64 (cn .f64 y) (cn .f64 0) = false := by rw [hy]; unfold fcmp; rw [ho]; rfl
      have q3 : fcmp .eql .f64 (cn .f64 y) (cn .f64 0) = true := by rw [hy]; unfold fcmp; rw [ho]; rfl
      rw [if_pos rfl] at hL
      refine (l01LogWide_zero y w q1 q2 q3).mono ?_
      rintro e w1 ⟨rfl, rfl⟩
      exact ⟨_, rfl, by rw [hL]; exact .inr ⟨by decide +kernel, by decide, by decide +kernel⟩, Ext.refl _⟩
    · rw [if_neg hm] at hL
      cases s
      · have hbg := wide_bg hr hm
        obtain rfl : y = wide x := bits_of hy hbg.notN
        simp only [Bool.false_eq_true, if_false] at hL
        refine (l01LogWide_num _ w hbg).mono ?_
        rintro e w1 ⟨rfl, X⟩
        exact ⟨_, rfl, by rw [hL]; exact narrow_log hbg, X⟩
      · obtain ⟨m', e', h1, _, hg⟩ := wide_num hr hm
        have ho := order_zero (k := .f64) h1 (cn .f64 0) zero64
        have hNw : isN .f64 (wide x) = false := by unfold isN; rw [h1]; rfl
        have q1 : fcmp .neq .f64 (cn .f64 y) (cn .f64 y) = false := by rw [fcmp_self_neq, hy]; exact hNw
        have q2 : fcmp .lss .f64 (cn .f64 y) (cn .f64 0) = true := by rw [hy]; unfold fcmp; rw [ho, if_neg hg.1]; rfl
        simp only [if_true] at hL
        refine (l01LogWide_neg y w q1 q2).mono ?_
        rintro e w1 ⟨rfl, rfl⟩
        exact ⟨_, rfl, by rw [hL]; exact hN9, Ext.refl _⟩
theorem l01Log_any (x : Nat) (w : World) (hx : x < 4294967296) :
    Calls Try.prog 70 #[.float .f32 x] w fun e w' => ∃ b, e = .returned (.float .f32 b) ∧ cn .f32 b = logF (cn .f32 x) ∧ b < 4294967296 ∧ Ext w w' := by
  have wa : (Try.prog.underlying 24).isSome = true := by kernel_rfl
  have HX := Lib.hid hx
  clear hx
  go_enter Try.func70, Try.ntmps70
  go_wp2_with (refine wpList_wide wa Try.underlying30 rfl rfl rfl ?_; intro zb zn hzb hzl; clear hzl; replace hzb := Lib.hid hzb)
  refine (l01LogWide_all x zb _ HX.out hzb.out).mono ?_
  rintro e w1 ⟨W, rfl, hW, X⟩
  have HW := Lib.hid hW
  clear hW
  go_wp2_with fail
  refine (l01Narrow_c W _ HW.out _).mono ?_
  rintro e w2 ⟨b, rfl, hb, hl, X2⟩
  have HB := Lib.hid hb
  clear hb
  go_wp2_with fail
  go_ret
  exact ⟨_, rfl, HB.out, hl, (Ext.drewN _ _).trans (X.trans X2)⟩
end Go.Proofs.Ytlbmjeennpccmaa
