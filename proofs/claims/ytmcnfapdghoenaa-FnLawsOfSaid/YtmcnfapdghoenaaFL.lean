
/- Floats in a walk: one operation at a time, each known by its canonical bits. Condition of each law: the operands are floats of one kind. -/
import Derived.Test.YtmcnfapdghoenaaRg
namespace Go.Proofs.Ytmcnfapdghoenaa
open Go Go.RowKit

/-- A comparison, on canonical bits or not: the same. -/
def fcmp (op : BinOp) (k : FloatKind) (x y : Nat) : Bool :=
  match op with
  | .eql => k.format.order x y == some .eq
  | .neq => k.format.order x y != some .eq
  | .lss => k.format.order x y == some .lt
  | .leq => k.format.order x y == some .lt || k.format.order x y == some .eq
  | .gtr => k.format.order x y == some .gt
  | .geq => k.format.order x y == some .gt || k.format.order x y == some .eq
  | _ => false

theorem fcmp_cn (op : BinOp) (k : FloatKind) (x y : Nat) : fcmp op k (cn k x) (cn k y) = fcmp op k x y := by
  unfold fcmp; simp only [order_cn]

theorem order_self (k : FloatKind) (x : Nat) (h : isN k x = false) : k.format.order x x = some .eq := by
  unfold Ieee.Format.order
  unfold isN at h
  generalize k.format.read x = d at h
  cases d with
  | nan => simp [Ieee.Datum.isNaN] at h
  | infinity s => simp [Ieee.Datum.order]
  | number s m e => simp [Ieee.Datum.order]

theorem order_nan (k : FloatKind) (x y : Nat) (h : isN k x = true) : k.format.order x y = none := by
  unfold Ieee.Format.order
  obtain ⟨s, f, e⟩ := read_nan h
  rw [e]; rfl

theorem fcmp_self_neq (k : FloatKind) (x : Nat) : fcmp .neq k x x = isN k x := by
  unfold fcmp
  cases h : isN k x with
  | false => simp only [order_self k x h]; rfl
  | true => simp only [order_nan k x x h]; rfl

/-- A contract that leaves the world alone, in a region that only reads. -/
theorem quietL {P : Program} {f : FuncId} {args : Array Value} {w : World} {n : Nat} {v : Value}
    (h : Calls P f args (w.drewN n) fun e w' => e = .returned v ∧ w.drewN n = w') : Calls P f args (w.drewN n) fun e w'' => e = .returned v ∧ ∃ m, w'' = w.drewN m :=
  h.mono fun _ _ ⟨he, hm⟩ => ⟨he, n, hm.symm⟩

/-- The same behind a quiet region. -/
theorem quietLL {P : Program} {f : FuncId} {args : Array Value} {w : World} {a n : Nat} {v : Value}
    (h : Calls P f args (w.drewN (a + n)) fun e w' => e = .returned v ∧ w.drewN (a + n) = w') : Calls P f args (w.drewN (a + n)) fun e w'' => e = .returned v ∧ ∃ m, w'' = w.drewN (a + m) :=
  h.mono fun _ _ ⟨he, hm⟩ => ⟨he, n, hm.symm⟩

section
variable {P : Program} {ops : Array Oper} {Q : Exit → Act → World → Prop} {o : Oper} {rest : List Oper} {a : Act} {w : World}

/-- One of '+', '-', '*', '/' on floats. -/
theorem wpList_fop {op : BinOp} {t t' : TypeId} {x y : Operand} {k : FloatKind} {p q : Nat} (hw : Region.wanted o (yielded ops a.tmps) = true) (hop : o.op = .binOp op t x y t')
    (har : (op == .add || op == .sub || op == .mul || op == .quo) = true) (hx : a.eval x = .float k p) (hy : a.eval y = .float k q)
    (hK : ∀ b n, cn k b = fop op k (cn k p) (cn k q) → b < 2 ^ k.format.width → wpList P ops Q rest (a.put o.dst (.float k b)) (w.drewN n)) : wpList P ops Q (o :: rest) a w := by
  have har' : op = .add ∨ op = .sub ∨ op = .mul ∨ op = .quo := by simpa [or_assoc] using har
  obtain ⟨v, n, hrun, b, rfl, h1, h2⟩ := run_fop P w op har' t k p q
  unfold wpList
  rw [if_pos hw]
  left
  unfold Oper.wp
  simp [execOp, hop, hx, hy, eqGuard_at_float, hrun, Result.andThen]
  exact hK b n h1 h2

/-- A comparison of floats. -/
theorem wpList_fcmp {op : BinOp} {t t' : TypeId} {x y : Operand} {k : FloatKind} {p q : Nat} {c : Bool} (hw : Region.wanted o (yielded ops a.tmps) = true) (hop : o.op = .binOp op t x y t')
    (har : (op == .eql || op == .neq || op == .lss || op == .leq || op == .gtr || op == .geq) = true) (hx : a.eval x = .float k p) (hy : a.eval y = .float k q)
    (hc : fcmp op k (cn k p) (cn k q) = c) (hK : wpList P ops Q rest (a.put o.dst (.bool c)) w) : wpList P ops Q (o :: rest) a w := by
  unfold wpList
  rw [if_pos hw]
  left
  rw [← hc, fcmp_cn] at hK
  unfold Oper.wp
  have hrun : (binOp op t (.float k p) (.float k q)).run P w = .ok (.bool (fcmp op k p q)) w := by
    cases op <;> first | (simp at har; done) | simp [binOp, Op.floatCmp, fcmp]
  simp [execOp, hop, hx, hy, eqGuard_at_float, hrun, Result.andThen]
  exact hK

/-! ### From 32 to 64 bits -/
def wide (x : Nat) : Nat :=
  match Ieee.single.read x with
  | .nan _ _ => nanW .f64
  | .infinity s => Ieee.double.write (.infinity s)
  | .number s m e => Ieee.double.write (.number s m e)

theorem wide_cn (x : Nat) : wide (cn .f32 x) = wide x := by
  unfold wide
  by_cases hx : isN .f32 x = true
  · obtain ⟨s, f, e⟩ := read_nan hx
    obtain ⟨s', f', e'⟩ := read_nan (k := .f32) (b := cn .f32 x) (by rw [isN_cn, hx])
    have e1 : Ieee.single.read x = .nan s f := e
    have e2 : Ieee.single.read (cn .f32 x) = .nan s' f' := e'
    rw [e1, e2]
  · have ex : cn .f32 x = x := by unfold cn; rw [if_neg hx]
    rw [ex]

theorem single_read {x : Nat} {s : Bool} {m : Nat} {e : Int} (h : Ieee.single.read x = .number s m e) : m < 2 ^ 24 ∧ -149 ≤ e ∧ e ≤ 104 := by
  unfold Ieee.Format.read at h
  have h1 : Ieee.single.signWeight = 2147483648 := by decide
  have h2 : Ieee.single.binade = 8388608 := by decide
  have h3 : Ieee.single.infRung = 2139095040 := by decide
  have h4 : Ieee.single.leastPlace = -149 := by decide
  simp only [h1, h2, h3, h4] at h
  generalize x % 2147483648 = rung at h
  split at h
  · cases h; omega
  · split at h
    · cases h; omega
    · split at h <;> cases h

theorem double_small (s : Bool) (m : Nat) (e : Int) (hm : m < 2 ^ 24) (he : e ≤ 104) : ((FloatKind.f64).decode (Ieee.double.write (.number s m e))).isInfinity = false := by
  have hn : Ieee.double.nearest s m e = Ieee.double.write (.number s m e) := rfl
  show (Ieee.double.read (Ieee.double.write (.number s m e))).isInfinity = false
  rw [← hn]
  have key : ∃ rung, rung < Ieee.double.infRung ∧ Ieee.double.nearest s m e = Ieee.double.word s rung := by
    unfold Ieee.Format.nearest
    split
    · exact ⟨0, by decide +kernel, rfl⟩
    · rename_i hm0
      simp only []
      generalize hl : max (e + (m.log2 : Int) - (Ieee.double.fractionBits : Int)) Ieee.double.leastPlace = last
      have h52 : (Ieee.double.fractionBits : Int) = 52 := by decide
      have hlp : Ieee.double.leastPlace = -1074 := by decide +kernel
      have hb : Ieee.double.binade = 2 ^ 52 := rfl
      have hi : Ieee.double.infRung = 2047 * 2 ^ 52 := by decide +kernel
      have hlog : m.log2 < 24 := by rw [Nat.log2_lt hm0]; exact hm
      rw [h52, hlp] at hl
      have hlast : last ≤ 75 := by omega
      have hlast0 : -1074 ≤ last := by omega
      -- what is kept has at most 53 digits
      have hkept : Ieee.Toward.even.cut s (m <<< (e - last).toNat) (last - e).toNat ≤ 2 ^ 53 := by
        unfold Ieee.Toward.cut
        have hsh : m <<< (e - last).toNat < 2 ^ 53 := by
          rw [Nat.shiftLeft_eq]
          by_cases hle : e ≤ last
          · have : (e - last).toNat = 0 := by omega
            rw [this]; simp only [Nat.pow_zero, Nat.mul_one]
            exact Nat.lt_of_lt_of_le hm (Nat.pow_le_pow_right (by omega) (by omega))
          · have h1 : m < 2 ^ (m.log2 + 1) := Nat.lt_log2_self
            have h2 : (e - last).toNat + m.log2 ≤ 52 := by omega
            calc m * 2 ^ (e - last).toNat < 2 ^ (m.log2 + 1) * 2 ^ (e - last).toNat := Nat.mul_lt_mul_of_pos_right h1 (Nat.pow_pos (by omega))
              _ = 2 ^ (m.log2 + 1 + (e - last).toNat) := (Nat.pow_add _ _ _).symm
              _ ≤ 2 ^ 53 := Nat.pow_le_pow_right (by omega) (by omega)
        simp only []
        generalize 1 <<< min (last - e).toNat ((m <<< (e - last).toNat).log2 + 2) = gap
        have hdiv := Nat.div_le_self (m <<< (e - last).toNat) gap
        have hbool : ∀ b : Bool, b.toNat ≤ 1 := fun b => by cases b <;> simp
        have := hbool (decide (gap < 2 * (m <<< (e - last).toNat % gap)) || gap == 2 * (m <<< (e - last).toNat % gap) && m <<< (e - last).toNat / gap % 2 == 1)
        omega
      refine ⟨_, ?_, rfl⟩
      rw [hb, hlp, hi]
      have h3 : (last - -1074).toNat ≤ 1149 := by omega
      have h4 : (last - -1074).toNat * 2 ^ 52 ≤ 1149 * 2 ^ 52 := Nat.mul_le_mul_right _ h3
      have h5 : (2 : Nat) ^ 53 = 2 * 2 ^ 52 := by decide
      refine Nat.lt_of_le_of_lt (Nat.min_le_left _ _) ?_
      rw [h5] at hkept
      omega
  obtain ⟨rung, hr, he'⟩ := key
  rw [he']
  have h1 : Ieee.double.word s rung % Ieee.double.signWeight = rung := by
    have hlt : rung < Ieee.double.signWeight := Nat.lt_trans hr Ieee.double.infRung_lt
    unfold Ieee.Format.word
    cases s
    · simpa using Nat.mod_eq_of_lt hlt
    · simp [Nat.mod_eq_of_lt hlt]
  unfold Ieee.Format.read
  simp only [h1, if_pos hr]
  split <;> rfl

theorem run_wide (w : World) (src dst : TypeId) (hs : (P.underlying src).isSome = true) (hd : P.underlying dst = some (.float .f64)) (x : Nat) :
    ∃ v n, (convert src dst (.float .f32 x)).run P w = .ok v (w.drewN n) ∧ FV .f64 (wide (cn .f32 x)) v := by
  obtain ⟨u, hs'⟩ := Option.isSome_iff_exists.1 hs
  rw [wide_cn]
  have e0 : (FloatKind.f32).decode x = Ieee.single.read x := rfl
  have hcut : ∀ t, isN .f64 ((Question.nanConv .f64 x).cut t) = true ∧ (Question.nanConv .f64 x).cut t < 2 ^ 64 := fun t => isN_cut .f64 x x t
  cases hr : Ieee.single.read x with
  | nan s f =>
    have hw : wide x = nanW .f64 := by unfold wide; rw [hr]
    have hc := hcut (w.tape w.drawn (.nanConv .f64 x))
    refine ⟨.float .f64 ((Question.nanConv .f64 x).cut (w.tape w.drawn (.nanConv .f64 x))), 1, ?_, _, rfl, ?_, hc.2⟩
    · cases u <;> simp [convert, run_underlying hs', run_underlying hd, Conv.floatToFloat, e0, hr, choose, Sem.run, Question.forced, World.drewN]
    · unfold cn; rw [if_pos hc.1, hw]
  | infinity s =>
    have hw : wide x = Ieee.double.write (.infinity s) := by unfold wide; rw [hr]
    refine ⟨.float .f64 (Ieee.double.write (.infinity s)), 0, ?_, _, rfl, ?_, Ieee.double.write_lt _⟩
    · cases u <;> simp [convert, run_underlying hs', run_underlying hd, Conv.floatToFloat, e0, hr, World.drewN] <;> rfl
    · rw [hw]; unfold cn; exact if_neg (by rw [show isN .f64 (Ieee.double.write (.infinity s)) = false from isN_write .f64 rfl]; exact Bool.false_ne_true)
  | number s m e =>
    have hw : wide x = Ieee.double.write (.number s m e) := by unfold wide; rw [hr]
    obtain ⟨hm, _, he⟩ := single_read hr
    have hinf := double_small s m e hm he
    have hinf' : ((FloatKind.f64).decode ((FloatKind.f64).encode (.number s m e))).isInfinity = false := hinf
    refine ⟨.float .f64 (Ieee.double.write (.number s m e)), 0, ?_, _, rfl, ?_, Ieee.double.write_lt _⟩
    · cases u <;> simp [convert, run_underlying hs', run_underlying hd, Conv.floatToFloat, e0, hr, World.drewN, hinf'] <;> rfl
    · rw [hw]; unfold cn; exact if_neg (by rw [show isN .f64 (Ieee.double.write (.number s m e)) = false from isN_write .f64 rfl]; exact Bool.false_ne_true)

theorem wpList_wide {src dst : TypeId} {x : Operand} {p : Nat} (hs : (P.underlying src).isSome = true) (hd : P.underlying dst = some (.float .f64)) (hw : Region.wanted o (yielded ops a.tmps) = true) (hop : o.op = .convert src dst x)
    (hx : a.eval x = .float .f32 p) (hK : ∀ b n, cn .f64 b = wide (cn .f32 p) → b < 18446744073709551616 → wpList P ops Q rest (a.put o.dst (.float .f64 b)) (w.drewN n)) : wpList P ops Q (o :: rest) a w := by
  obtain ⟨v, n, hrun, b, rfl, h1, h2⟩ := run_wide (P := P) w src dst hs hd p
  unfold wpList
  rw [if_pos hw]
  left
  unfold Oper.wp
  simp [execOp, hop, hx, hrun, Result.andThen]
  exact hK b n h1 h2

/-! ### The same in a region that draws its order -/
variable {w0 : World} {SC : Nat → Value → Prop} {AC : Nat → Value → World → Prop} {QL : Act → World → Prop} {i : Nat} {Γ : Tmp → World → Prop}
theorem LX_some (S : Value → Prop) (hw : Region.wanted o (yielded ops a.tmps) = true) (hc : isCallB o = false)
    (hY : ∀ w, Ext w0 w → (∀ s ∈ o.looksAt ops, Γ s w) → ∃ v n, (execOp a.eval o).run P w = .ok (.value v) (w.drewN n) ∧ S v)
    (hn : ∀ v, S v → LX P ops w0 SC AC QL (i + 1) rest (upC Γ o.dst fun _ => True) (a.put o.dst v)) : LX P ops w0 SC AC QL i (o :: rest) Γ a := by
  unfold LX opR
  rw [if_pos hw, if_neg (by simp [hc])]
  refine ⟨S, fun _ _ => True, fun _ => St.top, fun w hx hg => ?_, hn⟩
  obtain ⟨v, n, h1, h2⟩ := hY w hx hg
  rw [h1]
  exact ⟨Ext.drewN _ _, h2, trivial⟩

theorem LX_fop {op : BinOp} {t t' : TypeId} {x y : Operand} {k : FloatKind} {p q : Nat} (hw : Region.wanted o (yielded ops a.tmps) = true) (hop : o.op = .binOp op t x y t')
    (har : (op == .add || op == .sub || op == .mul || op == .quo) = true) (hx : a.eval x = .float k p) (hy : a.eval y = .float k q)
    (hK : ∀ b, cn k b = fop op k (cn k p) (cn k q) → b < 2 ^ k.format.width → LX P ops w0 SC AC QL (i + 1) rest (upC Γ o.dst fun _ => True) (a.put o.dst (.float k b))) : LX P ops w0 SC AC QL i (o :: rest) Γ a := by
  have har' : op = .add ∨ op = .sub ∨ op = .mul ∨ op = .quo := by simpa [or_assoc] using har
  refine LX_some (FV k (fop op k (cn k p) (cn k q))) hw (by unfold isCallB; rw [hop]) (fun w _ _ => ?_) (fun v hv => ?_)
  · obtain ⟨v, n, hrun, hv⟩ := run_fop P w op har' t k p q
    exact ⟨v, n, by simp [execOp, hop, hx, hy, eqGuard_at_float, hrun, Result.andThen], hv⟩
  · obtain ⟨b, rfl, h1, h2⟩ := hv
    exact hK b h1 h2

theorem LX_wide {src dst : TypeId} {x : Operand} {p : Nat} (hs : (P.underlying src).isSome = true) (hd : P.underlying dst = some (.float .f64)) (hw : Region.wanted o (yielded ops a.tmps) = true) (hop : o.op = .convert src dst x)
    (hx : a.eval x = .float .f32 p) (hK : ∀ b, cn .f64 b = wide (cn .f32 p) → b < 18446744073709551616 → LX P ops w0 SC AC QL (i + 1) rest (upC Γ o.dst fun _ => True) (a.put o.dst (.float .f64 b))) : LX P ops w0 SC AC QL i (o :: rest) Γ a := by
  refine LX_some (FV .f64 (wide (cn .f32 p))) hw (by unfold isCallB; rw [hop]) (fun w _ _ => ?_) (fun v hv => ?_)
  · obtain ⟨v, n, hrun, hv⟩ := run_wide (P := P) w src dst hs hd p
    exact ⟨v, n, by simp [execOp, hop, hx, hrun, Result.andThen], hv⟩
  · obtain ⟨b, rfl, h1, h2⟩ := hv
    exact hK b h1 h2

theorem LX_fcmp {op : BinOp} {t t' : TypeId} {x y : Operand} {k : FloatKind} {p q : Nat} {c : Bool} (hw : Region.wanted o (yielded ops a.tmps) = true) (hop : o.op = .binOp op t x y t')
    (har : (op == .eql || op == .neq || op == .lss || op == .leq || op == .gtr || op == .geq) = true) (hx : a.eval x = .float k p) (hy : a.eval y = .float k q)
    (hc : fcmp op k (cn k p) (cn k q) = c) (hK : LX P ops w0 SC AC QL (i + 1) rest (upC Γ o.dst fun _ => True) (a.put o.dst (.bool c))) : LX P ops w0 SC AC QL i (o :: rest) Γ a := by
  refine LX_det (.bool c) hw (by unfold isCallB; rw [hop]) (fun w _ _ => ?_) hK
  rw [fcmp_cn] at hc
  have hrun : (binOp op t (.float k p) (.float k q)).run P w = .ok (.bool c) w := by
    rw [← hc]
    cases op <;> first | (simp at har; done) | simp [binOp, Op.floatCmp, fcmp]
  simp [execOp, hop, hx, hy, eqGuard_at_float, hrun, Result.andThen]

/-- 'move', 'assign'. -/
theorem LX_move {x : Operand} {v : Value} (hw : Region.wanted o (yielded ops a.tmps) = true) (hop : o.op = .move x ∨ o.op = .assign x) (hx : a.eval x = v)
    (hK : LX P ops w0 SC AC QL (i + 1) rest (upC Γ o.dst fun _ => True) (a.put o.dst v)) : LX P ops w0 SC AC QL i (o :: rest) Γ a := by
  refine LX_det v hw (by unfold isCallB; rcases hop with h | h <;> rw [h]) (fun w _ _ => ?_) hK
  rcases hop with h | h <;> simp [execOp, h, hx]
end
end Go.Proofs.Ytmcnfapdghoenaa
/- How great the results of operations on floats are: bounds by powers of two. No condition. -/
namespace Go.Proofs.Ytmcnfapdghoenaa
open Go Go.RowKit

/-- m * 2^p is at most 2^c. -/
def LeP (m : Nat) (p c : Int) : Prop := m = 0 ∨ (p ≤ c ∧ m ≤ 2 ^ (c - p).toNat)
def rungOf (f : Ieee.Format) (c : Int) : Nat := (c - f.leastPlace - f.fractionBits + 1).toNat * f.binade

theorem pow_split {a b : Nat} (h : a ≤ b) : (2 : Nat) ^ b = 2 ^ a * 2 ^ (b - a) := by rw [← Nat.pow_add]; congr 1; omega

theorem cut_le (s : Bool) (n d : Nat) : Ieee.Toward.even.cut s n d ≤ n / 2 ^ (min d (n.log2 + 2)) + 1 := by
  unfold Ieee.Toward.cut
  simp only [Nat.one_shiftLeft]
  have hb : ∀ b : Bool, b.toNat ≤ 1 := fun b => by cases b <;> simp
  have := hb (decide (2 ^ min d (n.log2 + 2) < 2 * (n % 2 ^ min d (n.log2 + 2))) || 2 ^ min d (n.log2 + 2) == 2 * (n % 2 ^ min d (n.log2 + 2)) && n / 2 ^ min d (n.log2 + 2) % 2 == 1)
  omega

theorem cut_exact (s : Bool) (n d : Nat) (h : n % 2 ^ (min d (n.log2 + 2)) = 0) : Ieee.Toward.even.cut s n d = n / 2 ^ (min d (n.log2 + 2)) := by
  unfold Ieee.Toward.cut
  simp only [Nat.one_shiftLeft, h]
  have hp : 0 < 2 ^ min d (n.log2 + 2) := Nat.pow_pos (by omega)
  have h1 : ¬ (2 ^ min d (n.log2 + 2) < 2 * 0) := by omega
  have h2 : (2 ^ min d (n.log2 + 2) == 2 * 0) = false := by rw [beq_eq_false_iff_ne]; omega
  simp only [h1, h2, decide_false, Bool.false_and, Bool.or_self, Bool.toNat_false, Nat.add_zero]

/-- What is kept: at most 2^(a+1), if the number has no more than a+1 digits before the last place. -/
theorem kept_le (s : Bool) (m : Nat) (p last : Int) (a : Nat) (hm : m ≠ 0) (h : p + m.log2 + 1 ≤ last + a) : Ieee.Toward.even.cut s (m <<< (p - last).toNat) (last - p).toNat ≤ 2 ^ a := by
  have hlt : m < 2 ^ (m.log2 + 1) := Nat.lt_log2_self
  rw [Nat.shiftLeft_eq]
  by_cases hle : last ≤ p
  · have e : (last - p).toNat = 0 := by omega
    rw [e]
    have h1 := cut_exact s (m * 2 ^ (p - last).toNat) 0 (by simp [Nat.mod_one])
    rw [h1]
    simp only [Nat.zero_min, Nat.pow_zero, Nat.div_one]
    have : m * 2 ^ (p - last).toNat < 2 ^ (m.log2 + 1) * 2 ^ (p - last).toNat := Nat.mul_lt_mul_of_pos_right hlt (Nat.pow_pos (by omega))
    rw [← Nat.pow_add] at this
    exact Nat.le_of_lt (Nat.lt_of_lt_of_le this (Nat.pow_le_pow_right (by omega) (by omega)))
  · have e : (p - last).toNat = 0 := by omega
    rw [e, Nat.pow_zero, Nat.mul_one]
    refine Nat.le_trans (cut_le _ _ _) ?_
    by_cases hd : (last - p).toNat ≤ m.log2 + 2
    · rw [Nat.min_eq_left hd]
      have : m / 2 ^ (last - p).toNat < 2 ^ a := by
        rw [Nat.div_lt_iff_lt_mul (Nat.pow_pos (by omega)), ← Nat.pow_add]
        exact Nat.lt_of_lt_of_le hlt (Nat.pow_le_pow_right (by omega) (by omega))
      omega
    · rw [Nat.min_eq_right (by omega)]
      have : m / 2 ^ (m.log2 + 2) = 0 := Nat.div_eq_of_lt (Nat.lt_trans hlt (Nat.pow_lt_pow_right (by omega) (by omega)))
      rw [this]
      exact Nat.pow_pos (by omega)

theorem nearest_rung (f : Ieee.Format) (s : Bool) (m : Nat) (p c : Int) (h : LeP m p c) (h0 : f.leastPlace + f.fractionBits ≤ c) (h1 : rungOf f c ≤ f.infRung) :
    ∃ r, r ≤ rungOf f c ∧ f.nearest s m p = f.word s r := by
  unfold Ieee.Format.nearest
  split
  · exact ⟨0, Nat.zero_le _, rfl⟩
  · rename_i hm
    obtain hm' | ⟨hp, hmc⟩ := h
    · exact absurd hm' hm
    · refine ⟨_, ?_, rfl⟩
      refine Nat.le_trans (Nat.min_le_left _ _) ?_
      generalize hl : max (p + (m.log2 : Int) - (f.fractionBits : Int)) f.leastPlace = last
      have hb : f.binade = 2 ^ f.fractionBits := rfl
      have hlog : m.log2 ≤ (c - p).toNat := by
        have := Nat.log2_self_le hm
        have h2 : 2 ^ m.log2 ≤ 2 ^ (c - p).toNat := Nat.le_trans this hmc
        exact (Nat.pow_le_pow_iff_right (by omega)).1 h2
      unfold rungOf
      by_cases heq : m = 2 ^ (c - p).toNat
      · have hlg : m.log2 = (c - p).toNat := by rw [heq, Nat.log2_two_pow]
        have hla : last = c - f.fractionBits := by omega
        have hk : Ieee.Toward.even.cut s (m <<< (p - last).toNat) (last - p).toNat = f.binade := by
          rw [Nat.shiftLeft_eq, hb]
          by_cases hle : last ≤ p
          · have e : (last - p).toNat = 0 := by omega
            rw [e, cut_exact s _ 0 (by simp [Nat.mod_one]), Nat.zero_min, Nat.pow_zero, Nat.div_one, heq, ← Nat.pow_add]
            congr 1; omega
          · have e : (p - last).toNat = 0 := by omega
            rw [e, Nat.pow_zero, Nat.mul_one]
            have hmin : min (last - p).toNat (m.log2 + 2) = (last - p).toNat := Nat.min_eq_left (by omega)
            have hs : m = 2 ^ (last - p).toNat * 2 ^ f.fractionBits := by rw [heq, ← Nat.pow_add]; congr 1; omega
            rw [cut_exact s _ _ (by rw [hmin, hs]; exact Nat.mul_mod_right _ _), hmin]
            conv => lhs; rw [hs]
            rw [Nat.mul_div_cancel_left _ (Nat.pow_pos (by omega))]
        rw [hk, ← Nat.succ_mul]
        exact Nat.mul_le_mul_right _ (by omega)
      · have hlt : m.log2 + 1 ≤ (c - p).toNat := by
          by_cases h' : m.log2 = (c - p).toNat
          · have := Nat.log2_self_le hm
            rw [h'] at this
            omega
          · omega
        by_cases hc : f.leastPlace ≤ p + (m.log2 : Int) - (f.fractionBits : Int)
        · have hla : last = p + (m.log2 : Int) - (f.fractionBits : Int) := by omega
          have hk := kept_le s m p last (f.fractionBits + 1) hm (by omega)
          rw [Nat.pow_succ, ← hb] at hk
          have : (last - f.leastPlace).toNat * f.binade + f.binade * 2 ≤ (c - f.leastPlace - f.fractionBits + 1).toNat * f.binade := by
            rw [Nat.mul_comm f.binade 2, ← Nat.add_mul]
            exact Nat.mul_le_mul_right _ (by omega)
          omega
        · have hla : last = f.leastPlace := by omega
          have hk := kept_le s m p last f.fractionBits hm (by omega)
          rw [← hb] at hk
          have h3 : (last - f.leastPlace).toNat = 0 := by omega
          rw [h3, Nat.zero_mul, Nat.zero_add]
          refine Nat.le_trans hk ?_
          have : 1 * f.binade ≤ (c - f.leastPlace - f.fractionBits + 1).toNat * f.binade := Nat.mul_le_mul_right _ (by omega)
          omega

theorem word_read (f : Ieee.Format) (s : Bool) (r : Nat) (h : r < f.infRung) : (f.word s r) % f.signWeight = r ∧ ((f.word s r) / f.signWeight % 2 == 1) = s := by
  have hlt : r < f.signWeight := Nat.lt_trans h f.infRung_lt
  have hpos : 0 < f.signWeight := Nat.pow_pos (by omega)
  unfold Ieee.Format.word
  cases s
  · simp [Nat.mod_eq_of_lt hlt, Nat.div_eq_of_lt hlt]
  · simp only [if_true]
    rw [Nat.add_mod_left, Nat.mod_eq_of_lt hlt, Nat.add_div_left _ hpos, Nat.div_eq_of_lt hlt]
    simp

theorem read_rung (f : Ieee.Format) (s : Bool) (r : Nat) (c : Int) (h : r ≤ rungOf f c) (h0 : f.leastPlace + f.fractionBits ≤ c) (h1 : rungOf f c < f.infRung) :
    ∃ m e, f.read (f.word s r) = .number s m e ∧ LeP m e c := by
  have hr : r < f.infRung := Nat.lt_of_le_of_lt h h1
  obtain ⟨w1, w2⟩ := word_read f s r hr
  have hb : f.binade = 2 ^ f.fractionBits := rfl
  have hbp : 0 < f.binade := Nat.pow_pos (by omega)
  unfold Ieee.Format.read
  simp only [w1, w2]
  by_cases h2 : r < f.binade
  · rw [if_pos h2]
    refine ⟨_, _, rfl, ?_⟩
    right
    refine ⟨by omega, ?_⟩
    rw [hb] at h2
    exact Nat.le_trans (Nat.le_of_lt h2) (Nat.pow_le_pow_right (by omega) (by omega))
  · rw [if_neg h2, if_pos hr]
    refine ⟨_, _, rfl, ?_⟩
    right
    unfold rungOf at h
    have hq : r / f.binade ≤ (c - f.leastPlace - f.fractionBits + 1).toNat := by
      have h' : r ≤ f.binade * (c - f.leastPlace - f.fractionBits + 1).toNat := by rw [Nat.mul_comm]; exact h
      exact Nat.div_le_of_le_mul h'
    have hq1 : 1 ≤ r / f.binade := (Nat.one_le_div_iff hbp).2 (by omega)
    have hmod : r % f.binade < f.binade := Nat.mod_lt _ hbp
    have hdm := Nat.div_add_mod r f.binade
    by_cases heq : r / f.binade = (c - f.leastPlace - f.fractionBits + 1).toNat
    · have h0' : r % f.binade = 0 := by
        rw [heq, Nat.mul_comm] at hdm; omega
      refine ⟨by omega, ?_⟩
      rw [h0', Nat.add_zero]
      exact Nat.le_trans (Nat.le_of_eq hb) (Nat.pow_le_pow_right (by omega) (by omega))
    · refine ⟨by omega, ?_⟩
      have : f.binade + r % f.binade ≤ 2 ^ (f.fractionBits + 1) := by rw [Nat.pow_succ, ← hb]; omega
      exact Nat.le_trans this (Nat.pow_le_pow_right (by omega) (by omega))

/-- **What is written of a number that is at most 2^c is at most 2^c.** -/
theorem nearest_le (f : Ieee.Format) (s : Bool) (m : Nat) (p c : Int) (h : LeP m p c) (h0 : f.leastPlace + f.fractionBits ≤ c) (h1 : rungOf f c < f.infRung) :
    ∃ m' e, f.read (f.nearest s m p) = .number s m' e ∧ LeP m' e c := by
  obtain ⟨r, hr, e⟩ := nearest_rung f s m p c h h0 (Nat.le_of_lt h1)
  rw [e]
  exact read_rung f s r c hr h0 h1

/-! ### Operations -/
/-- The bits stand for a number of this sign, of at most 2^c. -/
def Bd (k : FloatKind) (b : Nat) (s : Bool) (c : Int) : Prop := ∃ m e, k.format.read b = .number s m e ∧ LeP m e c
theorem Bd.notN {k : FloatKind} {b : Nat} {s : Bool} {c : Int} (h : Bd k b s c) : isN k b = false := by
  obtain ⟨m, e, h, _⟩ := h; unfold isN; rw [h]; rfl
theorem Bd.cn {k : FloatKind} {b : Nat} {s : Bool} {c : Int} (h : Bd k b s c) : cn k b = b := cn_of_not h.notN
theorem LeP.mono {m : Nat} {p c d : Int} (h : LeP m p c) (hd : c ≤ d) : LeP m p d := by
  rcases h with h | ⟨h1, h2⟩
  · exact .inl h
  · exact .inr ⟨by omega, Nat.le_trans h2 (Nat.pow_le_pow_right (by omega) (by omega))⟩
theorem Bd.mono {k : FloatKind} {b : Nat} {s : Bool} {c d : Int} (h : Bd k b s c) (hd : c ≤ d) : Bd k b s d := by
  obtain ⟨m, e, h1, h2⟩ := h; exact ⟨m, e, h1, h2.mono hd⟩
/-- Within the format. -/
def InF (k : FloatKind) (c : Int) : Prop := k.format.leastPlace + k.format.fractionBits ≤ c ∧ rungOf k.format c < k.format.infRung
theorem inF64 {c : Int} (h0 : -1022 ≤ c) (h1 : c ≤ 1023) : InF .f64 c := by
  have e1 : (FloatKind.f64).format.leastPlace = -1074 := by decide +kernel
  have e2 : ((FloatKind.f64).format.fractionBits : Int) = 52 := rfl
  have e3 : (FloatKind.f64).format.infRung = 2047 * 2 ^ 52 := by decide +kernel
  have e4 : (FloatKind.f64).format.binade = 2 ^ 52 := rfl
  unfold InF rungOf
  rw [e1, e2, e3, e4]
  exact ⟨by omega, (Nat.mul_lt_mul_right (Nat.pow_pos (by omega))).2 (by omega)⟩
theorem inF32 {c : Int} (h0 : -126 ≤ c) (h1 : c ≤ 127) : InF .f32 c := by
  have e1 : (FloatKind.f32).format.leastPlace = -149 := by decide +kernel
  have e2 : ((FloatKind.f32).format.fractionBits : Int) = 23 := rfl
  have e3 : (FloatKind.f32).format.infRung = 255 * 2 ^ 23 := by decide +kernel
  have e4 : (FloatKind.f32).format.binade = 2 ^ 23 := rfl
  unfold InF rungOf
  rw [e1, e2, e3, e4]
  exact ⟨by omega, (Nat.mul_lt_mul_right (Nat.pow_pos (by omega))).2 (by omega)⟩
theorem bd_write {k : FloatKind} {s : Bool} {m : Nat} {e c : Int} (h : LeP m e c) (hc : InF k c) : Bd k (k.format.write (.number s m e)) s c :=
  nearest_le k.format s m e c h hc.1 hc.2

theorem LeP.mul {m n : Nat} {i j a b : Int} (h1 : LeP m i a) (h2 : LeP n j b) : LeP (m * n) (i + j) (a + b) := by
  rcases h1 with rfl | ⟨h1, h1'⟩
  · exact .inl (Nat.zero_mul _)
  · rcases h2 with rfl | ⟨h2, h2'⟩
    · exact .inl (Nat.mul_zero _)
    · refine .inr ⟨by omega, ?_⟩
      have : (a + b - (i + j)).toNat = (a - i).toNat + (b - j).toNat := by omega
      rw [this, Nat.pow_add]
      exact Nat.mul_le_mul h1' h2'
theorem bd_mul {k : FloatKind} {x y : Nat} {s t : Bool} {a b : Int} (hx : Bd k x s a) (hy : Bd k y t b) (hc : InF k (a + b)) : Bd k (fop .mul k x y) (s ^^ t) (a + b) := by
  obtain ⟨m, i, h1, h2⟩ := hx
  obtain ⟨n, j, h3, h4⟩ := hy
  have : fop .mul k x y = k.format.write (.number (s ^^ t) (m * n) (i + j)) := by
    unfold fop floatBits Ieee.Format.mul
    rw [h1, h3]; rfl
  rw [this]
  exact bd_write (h2.mul h4) hc

/-- At least 2^b. -/
def GeP (n : Nat) (j b : Int) : Prop := n ≠ 0 ∧ b ≤ n.log2 + j
theorem LeP.log {m : Nat} {i a : Int} (h : LeP m i a) (hm : m ≠ 0) : i + m.log2 ≤ a := by
  rcases h with rfl | ⟨h, h'⟩
  · exact absurd rfl hm
  · have h1 := Nat.log2_self_le hm
    have h2 := (Nat.pow_le_pow_iff_right (a := 2) (by omega)).1 (Nat.le_trans h1 h')
    omega
theorem bd_div {k : FloatKind} {x y : Nat} {s t : Bool} {a b : Int} {n : Nat} {j : Int} (hx : Bd k x s a) (hy : k.format.read y = .number t n j) (hn : GeP n j b) (hc : InF k (a - b + 1)) : Bd k (fop .quo k x y) (s ^^ t) (a - b + 1) := by
  obtain ⟨m, i, h1, h2⟩ := hx
  obtain ⟨hn0, hnb⟩ := hn
  generalize hmore : k.format.fractionBits + 2 + n.log2 - m.log2 = more
  have : fop .quo k x y = k.format.write (.number (s ^^ t) (2 * ((m <<< more) / n) + ((m <<< more) % n != 0).toNat) (i - j - more - 1)) := by
    unfold fop floatBits Ieee.Format.div
    rw [h1, hy]
    simp only [Ieee.Datum.quotient, if_neg hn0, hmore]
    rfl
  rw [this]
  refine bd_write ?_ hc
  by_cases hm : m = 0
  · left
    subst hm
    simp
  · right
    have hlog := h2.log hm
    have hml : m < 2 ^ (m.log2 + 1) := Nat.lt_log2_self
    have hnl := Nat.log2_self_le hn0
    have hq : (m <<< more) / n < 2 ^ (m.log2 + 1 + more - n.log2) := by
      rw [Nat.shiftLeft_eq, Nat.div_lt_iff_lt_mul (by omega)]
      have e1 : m * 2 ^ more < 2 ^ (m.log2 + 1) * 2 ^ more := Nat.mul_lt_mul_of_pos_right hml (Nat.pow_pos (by omega))
      rw [← Nat.pow_add] at e1
      have e2 : 2 ^ (m.log2 + 1 + more) = 2 ^ (m.log2 + 1 + more - n.log2) * 2 ^ n.log2 := by rw [← Nat.pow_add]; congr 1; omega
      rw [e2] at e1
      exact Nat.lt_of_lt_of_le e1 (Nat.mul_le_mul_left _ hnl)
    have hb : ∀ b : Bool, b.toNat ≤ 1 := fun b => by cases b <;> simp
    have hb' := hb ((m <<< more) % n != 0)
    refine ⟨by omega, ?_⟩
    have e3 : 2 * ((m <<< more) / n) + ((m <<< more) % n != 0).toNat ≤ 2 * 2 ^ (m.log2 + 1 + more - n.log2) := by omega
    refine Nat.le_trans e3 ?_
    rw [Nat.mul_comm, ← Nat.pow_succ]
    exact Nat.pow_le_pow_right (by omega) (by omega)
end Go.Proofs.Ytmcnfapdghoenaa
