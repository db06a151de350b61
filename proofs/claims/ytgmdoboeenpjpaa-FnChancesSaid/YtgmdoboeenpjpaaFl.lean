
/- Floats in a walk: one operation at a time, each known by its canonical bits. Condition of each law: the operands are floats of one kind. -/
import Derived.Test.YtgmdoboeenpjpaaRg
namespace Go.Proofs.Ytgmdoboeenpjpaa
open Go Go.RowKit

/-- A comparison, on canonical bits or not: the same. -/
def fcmp (op : BinOp) (k : FloatKind) (x y : Nat) : Bool :=
  match op with
  | .eql => k.format.order x y == some .eq
  | .neq => k.format.order x y != some .eq
  | .lss => k.format.order x y == some .lt
  | .leq => k.format.order x y == some .lt || k.format.order x y == some .eq
  | .gtr => k.format.order x y == some .gt
  | .geq => k.format.order x y == some .gt || k.format.order x y == some .eq
  | _ => false

theorem fcmp_cn (op : BinOp) (k : FloatKind) (x y : Nat) : fcmp op k (cn k x) (cn k y) = fcmp op k x y := by
  unfold fcmp; simp only [order_cn]

theorem order_self (k : FloatKind) (x : Nat) (h : isN k x = false) : k.format.order x x = some .eq := by
  unfold Ieee.Format.order
  unfold isN at h
  generalize k.format.read x = d at h
  cases d with
  | nan => simp [Ieee.Datum.isNaN] at h
  | infinity s => simp [Ieee.Datum.order]
  | number s m e => simp [Ieee.Datum.order]

theorem order_nan (k : FloatKind) (x y : Nat) (h : isN k x = true) : k.format.order x y = none := by
  unfold Ieee.Format.order
  obtain ⟨s, f, e⟩ := read_nan h
  rw [e]; rfl

theorem fcmp_self_neq (k : FloatKind) (x : Nat) : fcmp .neq k x x = isN k x := by
  unfold fcmp
  cases h : isN k x with
  | false => simp only [order_self k x h]; rfl
  | true => simp only [order_nan k x x h]; rfl

/-- A contract that leaves the world alone, in a region that only reads. -/
theorem quietL {P : Program} {f : FuncId} {args : Array Value} {w : World} {n : Nat} {v : Value}
    (h : Calls P f args (w.drewN n) fun e w' => e = .returned v ∧ w.drewN n = w') : Calls P f args (w.drewN n) fun e w'' => e = .returned v ∧ ∃ m, w'' = w.drewN m :=
  h.mono fun _ _ ⟨he, hm⟩ => ⟨he, n, hm.symm⟩

/-- The same behind a quiet region. -/
theorem quietLL {P : Program} {f : FuncId} {args : Array Value} {w : World} {a n : Nat} {v : Value}
    (h : Calls P f args (w.drewN (a + n)) fun e w' => e = .returned v ∧ w.drewN (a + n) = w') : Calls P f args (w.drewN (a + n)) fun e w'' => e = .returned v ∧ ∃ m, w'' = w.drewN (a + m) :=
  h.mono fun _ _ ⟨he, hm⟩ => ⟨he, n, hm.symm⟩

section
variable {P : Program} {ops : Array Oper} {Q : Exit → Act → World → Prop} {o : Oper} {rest : List Oper} {a : Act} {w : World}

/-- One of '+', '-', '*', '/' on floats. -/
theorem wpList_fop {op : BinOp} {t t' : TypeId} {x y : Operand} {k : FloatKind} {p q : Nat} (hw : Region.wanted o (yielded ops a.tmps) = true) (hop : o.op = .binOp op t x y t')
    (har : (op == .add || op == .sub || op == .mul || op == .quo) = true) (hx : a.eval x = .float k p) (hy : a.eval y = .float k q)
    (hK : ∀ b n, cn k b = fop op k (cn k p) (cn k q) → b < 2 ^ k.format.width → wpList P ops Q rest (a.put o.dst (.float k b)) (w.drewN n)) : wpList P ops Q (o :: rest) a w := by
  have har' : op = .add ∨ op = .sub ∨ op = .mul ∨ op = .quo := by simpa [or_assoc] using har
  obtain ⟨v, n, hrun, b, rfl, h1, h2⟩ := run_fop P w op har' t k p q
  unfold wpList
  rw [if_pos hw]
  left
  unfold Oper.wp
  simp [execOp, hop, hx, hy, eqGuard_at_float, hrun, Result.andThen]
  exact hK b n h1 h2

/-- A comparison of floats. -/
theorem wpList_fcmp {op : BinOp} {t t' : TypeId} {x y : Operand} {k : FloatKind} {p q : Nat} {c : Bool} (hw : Region.wanted o (yielded ops a.tmps) = true) (hop : o.op = .binOp op t x y t')
    (har : (op == .eql || op == .neq || op == .lss || op == .leq || op == .gtr || op == .geq) = true) (hx : a.eval x = .float k p) (hy : a.eval y = .float k q)
    (hc : fcmp op k (cn k p) (cn k q) = c) (hK : wpList P ops Q rest (a.put o.dst (.bool c)) w) : wpList P ops Q (o :: rest) a w := by
  unfold wpList
  rw [if_pos hw]
  left
  rw [← hc, fcmp_cn] at hK
  unfold Oper.wp
  have hrun : (binOp op t (.float k p) (.float k q)).run P w = .ok (.bool (fcmp op k p q)) w := by
    cases op <;> first | (simp at har; done) | simp [binOp, Op.floatCmp, fcmp]
  simp [execOp, hop, hx, hy, eqGuard_at_float, hrun, Result.andThen]
  exact hK

/-! ### From 32 to 64 bits -/
def wide (x : Nat) : Nat :=
  match Ieee.single.read x with
  | .nan _ _ => nanW .f64
  | .infinity s => Ieee.double.write (.infinity s)
  | .number s m e => Ieee.double.write (.number s m e)

theorem wide_cn (x : Nat) : wide (cn .f32 x) = wide x := by
  unfold wide
  by_cases hx : isN .f32 x = true
  · obtain ⟨s, f, e⟩ := read_nan hx
    obtain ⟨s', f', e'⟩ := read_nan (k := .f32) (b := cn .f32 x) (by rw [isN_cn, hx])
    have e1 : Ieee.single.read x = .nan s f := e
    have e2 : Ieee.single.read (cn .f32 x) = .nan s' f' := e'
    rw [e1, e2]
  · have ex : cn .f32 x = x := by unfold cn; rw [if_neg hx]
    rw [ex]

theorem single_read {x : Nat} {s : Bool} {m : Nat} {e : Int} (h : Ieee.single.read x = .number s m e) : m < 2 ^ 24 ∧ -149 ≤ e ∧ e ≤ 104 := by
  unfold Ieee.Format.read at h
  have h1 : Ieee.single.signWeight = 2147483648 := by decide
  have h2 : Ieee.single.binade = 8388608 := by decide
  have h3 : Ieee.single.infRung = 2139095040 := by decide
  have h4 : Ieee.single.leastPlace = -149 := by decide
  simp only [h1, h2, h3, h4] at h
  generalize x % 2147483648 = rung at h
  split at h
  · cases h; omega
  · split at h
    · cases h; omega
    · split at h <;> cases h

theorem double_small (s : Bool) (m : Nat) (e : Int) (hm : m < 2 ^ 24) (he : e ≤ 104) : ((FloatKind.f64).decode (Ieee.double.write (.number s m e))).isInfinity = false := by
  have hn : Ieee.double.nearest s m e = Ieee.double.write (.number s m e) := rfl
  show (Ieee.double.read (Ieee.double.write (.number s m e))).isInfinity = false
  rw [← hn]
  have key : ∃ rung, rung < Ieee.double.infRung ∧ Ieee.double.nearest s m e = Ieee.double.word s rung := by
    unfold Ieee.Format.nearest
    split
    · exact ⟨0, by decide +kernel, rfl⟩
    · rename_i hm0
      simp only []
      generalize hl : max (e + (m.log2 : Int) - (Ieee.double.fractionBits : Int)) Ieee.double.leastPlace = last
      have h52 : (Ieee.double.fractionBits : Int) = 52 := by decide
      have hlp : Ieee.double.leastPlace = -1074 := by decide +kernel
      have hb : Ieee.double.binade = 2 ^ 52 := rfl
      have hi : Ieee.double.infRung = 2047 * 2 ^ 52 := by decide +kernel
      have hlog : m.log2 < 24 := by rw [Nat.log2_lt hm0]; exact hm
      rw [h52, hlp] at hl
      have hlast : last ≤ 75 := by omega
      have hlast0 : -1074 ≤ last := by omega
      -- what is kept has at most 53 digits
      have hkept : Ieee.Toward.even.cut s (m <<< (e - last).toNat) (last - e).toNat ≤ 2 ^ 53 := by
        unfold Ieee.Toward.cut
        have hsh : m <<< (e - last).toNat < 2 ^ 53 := by
          rw [Nat.shiftLeft_eq]
          by_cases hle : e ≤ last
          · have : (e - last).toNat = 0 := by omega
            rw [this]; simp only [Nat.pow_zero, Nat.mul_one]
            exact Nat.lt_of_lt_of_le hm (Nat.pow_le_pow_right (by omega) (by omega))
          · have h1 : m < 2 ^ (m.log2 + 1) := Nat.lt_log2_self
            have h2 : (e - last).toNat + m.log2 ≤ 52 := by omega
            calc m * 2 ^ (e - last).toNat < 2 ^ (m.log2 + 1) * 2 ^ (e - last).toNat := Nat.mul_lt_mul_of_pos_right h1 (Nat.pow_pos (by omega))
              _ = 2 ^ (m.log2 + 1 + (e - last).toNat) := (Nat.pow_add _ _ _).symm
              _ ≤ 2 ^ 53 := Nat.pow_le_pow_right (by omega) (by omega)
        simp only []
        generalize 1 <<< min (last - e).toNat ((m <<< (e - last).toNat).log2 + 2) = gap
        have hdiv := Nat.div_le_self (m <<< (e - last).toNat) gap
        have hbool : ∀ b : Bool, b.toNat ≤ 1 := fun b => by cases b <;> simp
        have := hbool (decide (gap < 2 * (m <<< (e - last).toNat % gap)) || gap == 2 * (m <<< (e - last).toNat % gap) && m <<< (e - last).toNat / gap % 2 == 1)
        omega
      refine ⟨_, ?_, rfl⟩
      rw [hb, hlp, hi]
      have h3 : (last - -1074).toNat ≤ 1149 := by omega
      have h4 : (last - -1074).toNat * 2 ^ 52 ≤ 1149 * 2 ^ 52 := Nat.mul_le_mul_right _ h3
      have h5 : (2 : Nat) ^ 53 = 2 * 2 ^ 52 := by decide
      refine Nat.lt_of_le_of_lt (Nat.min_le_left _ _) ?_
      rw [h5] at hkept
      omega
  obtain ⟨rung, hr, he'⟩ := key
  rw [he']
  have h1 : Ieee.double.word s rung % Ieee.double.signWeight = rung := by
    have hlt : rung < Ieee.double.signWeight := Nat.lt_trans hr Ieee.double.infRung_lt
    unfold Ieee.Format.word
    cases s
    · simpa using Nat.mod_eq_of_lt hlt
    · simp [Nat.mod_eq_of_lt hlt]
  unfold Ieee.Format.read
  simp only [h1, if_pos hr]
  split <;> rfl

theorem run_wide (w : World) (src dst : TypeId) (hs : (P.underlying src).isSome = true) (hd : P.underlying dst = some (.float .f64)) (x : Nat) :
    ∃ v n, (convert src dst (.float .f32 x)).run P w = .ok v (w.drewN n) ∧ FV .f64 (wide (cn .f32 x)) v := by
  obtain ⟨u, hs'⟩ := Option.isSome_iff_exists.1 hs
  rw [wide_cn]
  have e0 : (FloatKind.f32).decode x = Ieee.single.read x := rfl
  have hcut : ∀ t, isN .f64 ((Question.nanConv .f64 x).cut t) = true ∧ (Question.nanConv .f64 x).cut t < 2 ^ 64 := fun t => isN_cut .f64 x x t
  cases hr : Ieee.single.read x with
  | nan s f =>
    have hw : wide x = nanW .f64 := by unfold wide; rw [hr]
    have hc := hcut (w.tape w.drawn (.nanConv .f64 x))
    refine ⟨.float .f64 ((Question.nanConv .f64 x).cut (w.tape w.drawn (.nanConv .f64 x))), 1, ?_, _, rfl, ?_, hc.2⟩
    · cases u <;> simp [convert, run_underlying hs', run_underlying hd, Conv.floatToFloat, e0, hr, choose, Sem.run, Question.forced, World.drewN]
    · unfold cn; rw [if_pos hc.1, hw]
  | infinity s =>
    have hw : wide x = Ieee.double.write (.infinity s) := by unfold wide; rw [hr]
    refine ⟨.float .f64 (Ieee.double.write (.infinity s)), 0, ?_, _, rfl, ?_, Ieee.double.write_lt _⟩
    · cases u <;> simp [convert, run_underlying hs', run_underlying hd, Conv.floatToFloat, e0, hr, World.drewN] <;> rfl
    · rw [hw]; unfold cn; exact if_neg (by rw [show isN .f64 (Ieee.double.write (.infinity s)) = false from isN_write .f64 rfl]; exact Bool.false_ne_true)
  | number s m e =>
    have hw : wide x = Ieee.double.write (.number s m e) := by unfold wide; rw [hr]
    obtain ⟨hm, _, he⟩ := single_read hr
    have hinf := double_small s m e hm he
    have hinf' : ((FloatKind.f64).decode ((FloatKind.f64).encode (.number s m e))).isInfinity = false := hinf
    refine ⟨.float .f64 (Ieee.double.write (.number s m e)), 0, ?_, _, rfl, ?_, Ieee.double.write_lt _⟩
    · cases u <;> simp [convert, run_underlying hs', run_underlying hd, Conv.floatToFloat, e0, hr, World.drewN, hinf'] <;> rfl
    · rw [hw]; unfold cn; exact if_neg (by rw [show isN .f64 (Ieee.double.write (.number s m e)) = false from isN_write .f64 rfl]; exact Bool.false_ne_true)

theorem wpList_wide {src dst : TypeId} {x : Operand} {p : Nat} (hs : (P.underlying src).isSome = true) (hd : P.underlying dst = some (.float .f64)) (hw : Region.wanted o (yielded ops a.tmps) = true) (hop : o.op = .convert src dst x)
    (hx : a.eval x = .float .f32 p) (hK : ∀ b n, cn .f64 b = wide (cn .f32 p) → b < 18446744073709551616 → wpList P ops Q rest (a.put o.dst (.float .f64 b)) (w.drewN n)) : wpList P ops Q (o :: rest) a w := by
  obtain ⟨v, n, hrun, b, rfl, h1, h2⟩ := run_wide (P := P) w src dst hs hd p
  unfold wpList
  rw [if_pos hw]
  left
  unfold Oper.wp
  simp [execOp, hop, hx, hrun, Result.andThen]
  exact hK b n h1 h2

/-! ### The same in a region that draws its order -/
variable {w0 : World} {SC : Nat → Value → Prop} {AC : Nat → Value → World → Prop} {QL : Act → World → Prop} {i : Nat} {Γ : Tmp → World → Prop}
theorem LX_some (S : Value → Prop) (hw : Region.wanted o (yielded ops a.tmps) = true) (hc : isCallB o = false)
    (hY : ∀ w, Ext w0 w → (∀ s ∈ o.looksAt ops, Γ s w) → ∃ v n, (execOp a.eval o).run P w = .ok (.value v) (w.drewN n) ∧ S v)
    (hn : ∀ v, S v → LX P ops w0 SC AC QL (i + 1) rest (upC Γ o.dst fun _ => True) (a.put o.dst v)) : LX P ops w0 SC AC QL i (o :: rest) Γ a := by
  unfold LX opR
  rw [if_pos hw, if_neg (by simp [hc])]
  refine ⟨S, fun _ _ => True, fun _ => St.top, fun w hx hg => ?_, hn⟩
  obtain ⟨v, n, h1, h2⟩ := hY w hx hg
  rw [h1]
  exact ⟨Ext.drewN _ _, h2, trivial⟩

theorem LX_fop {op : BinOp} {t t' : TypeId} {x y : Operand} {k : FloatKind} {p q : Nat} (hw : Region.wanted o (yielded ops a.tmps) = true) (hop : o.op = .binOp op t x y t')
    (har : (op == .add || op == .sub || op == .mul || op == .quo) = true) (hx : a.eval x = .float k p) (hy : a.eval y = .float k q)
    (hK : ∀ b, cn k b = fop op k (cn k p) (cn k q) → b < 2 ^ k.format.width → LX P ops w0 SC AC QL (i + 1) rest (upC Γ o.dst fun _ => True) (a.put o.dst (.float k b))) : LX P ops w0 SC AC QL i (o :: rest) Γ a := by
  have har' : op = .add ∨ op = .sub ∨ op = .mul ∨ op = .quo := by simpa [or_assoc] using har
  refine LX_some (FV k (fop op k (cn k p) (cn k q))) hw (by unfold isCallB; rw [hop]) (fun w _ _ => ?_) (fun v hv => ?_)
  · obtain ⟨v, n, hrun, hv⟩ := run_fop P w op har' t k p q
    exact ⟨v, n, by simp [execOp, hop, hx, hy, eqGuard_at_float, hrun, Result.andThen], hv⟩
  · obtain ⟨b, rfl, h1, h2⟩ := hv
    exact hK b h1 h2

theorem LX_wide {src dst : TypeId} {x : Operand} {p : Nat} (hs : (P.underlying src).isSome = true) (hd : P.underlying dst = some (.float .f64)) (hw : Region.wanted o (yielded ops a.tmps) = true) (hop : o.op = .convert src dst x)
    (hx : a.eval x = .float .f32 p) (hK : ∀ b, cn .f64 b = wide (cn .f32 p) → b < 18446744073709551616 → LX P ops w0 SC AC QL (i + 1) rest (upC Γ o.dst fun _ => True) (a.put o.dst (.float .f64 b))) : LX P ops w0 SC AC QL i (o :: rest) Γ a := by
  refine LX_some (FV .f64 (wide (cn .f32 p))) hw (by unfold isCallB; rw [hop]) (fun w _ _ => ?_) (fun v hv => ?_)
  · obtain ⟨v, n, hrun, hv⟩ := run_wide (P := P) w src dst hs hd p
    exact ⟨v, n, by simp [execOp, hop, hx, hrun, Result.andThen], hv⟩
  · obtain ⟨b, rfl, h1, h2⟩ := hv
    exact hK b h1 h2

theorem LX_fcmp {op : BinOp} {t t' : TypeId} {x y : Operand} {k : FloatKind} {p q : Nat} {c : Bool} (hw : Region.wanted o (yielded ops a.tmps) = true) (hop : o.op = .binOp op t x y t')
    (har : (op == .eql || op == .neq || op == .lss || op == .leq || op == .gtr || op == .geq) = true) (hx : a.eval x = .float k p) (hy : a.eval y = .float k q)
    (hc : fcmp op k (cn k p) (cn k q) = c) (hK : LX P ops w0 SC AC QL (i + 1) rest (upC Γ o.dst fun _ => True) (a.put o.dst (.bool c))) : LX P ops w0 SC AC QL i (o :: rest) Γ a := by
  refine LX_det (.bool c) hw (by unfold isCallB; rw [hop]) (fun w _ _ => ?_) hK
  rw [fcmp_cn] at hc
  have hrun : (binOp op t (.float k p) (.float k q)).run P w = .ok (.bool c) w := by
    rw [← hc]
    cases op <;> first | (simp at har; done) | simp [binOp, Op.floatCmp, fcmp]
  simp [execOp, hop, hx, hy, eqGuard_at_float, hrun, Result.andThen]

/-- 'move', 'assign'. -/
theorem LX_move {x : Operand} {v : Value} (hw : Region.wanted o (yielded ops a.tmps) = true) (hop : o.op = .move x ∨ o.op = .assign x) (hx : a.eval x = v)
    (hK : LX P ops w0 SC AC QL (i + 1) rest (upC Γ o.dst fun _ => True) (a.put o.dst v)) : LX P ops w0 SC AC QL i (o :: rest) Γ a := by
  refine LX_det v hw (by unfold isCallB; rcases hop with h | h <;> rw [h]) (fun w _ _ => ?_) hK
  rcases hop with h | h <;> simp [execOp, h, hx]
end
end Go.Proofs.Ytgmdoboeenpjpaa
