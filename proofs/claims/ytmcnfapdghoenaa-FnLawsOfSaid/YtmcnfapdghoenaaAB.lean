
/- Contracts of the laws' helpers for lists of 32-bit numbers. Conditions: lists that can be read, of at most 2^20 numbers where they are copied. -/
import Derived.Test.YtmcnfapdghoenaaProg
import Derived.Test.YtmcnfapdghoenaaA
import Derived.Test.YtmcnfapdghoenaaRead
import Derived.Test.YtmcnfapdghoenaaFL
import Derived.Test.YtmcnfapdghoenaaRows
import Derived.Deep.QuietTactic
import Derived.BigQuiet
import Derived.Outline
namespace Go.Proofs.Ytmcnfapdghoenaa
open Go Go.RowKit

theorem run_store_float (P : Program) (w : World) (a : Addr) (m : Mode) (k : FloatKind) (b : Nat) : (store a (.float k b) m).run P w = stored P w a (.float k b) m := run_store P w a _ m rfl
attribute [local go_sem] run_store_float


theorem infoF32 : (Try.prog.info? 24).map (fun i => (i.zero, i.size, i.bytes)) = some (some (.float .f32 0), 1, 4) := by kernel_rfl

/-- Two lists that have the same numbers. -/
def SameC (bs cs : List Nat) : Prop := bs.map (cn .f32) = cs.map (cn .f32)

theorem SameC.at {bs cs : List Nat} (h : SameC bs cs) {k : Nat} (h1 : k < bs.length) (h2 : k < cs.length) : cn .f32 bs[k] = cn .f32 cs[k] := by
  unfold SameC at h
  have e1 : (bs.map (cn .f32))[k]? = some (cn .f32 bs[k]) := by simp [h1]
  have e2 : (cs.map (cn .f32))[k]? = some (cn .f32 cs[k]) := by simp [h2]
  rw [h, e2] at e1
  exact (Option.some.inj e1).symm

theorem RdF.at {w : World} {a : Option Addr} {cap n : Nat} {bs : List Nat} (h : RdF w (.slice a n cap) bs) {k : Nat} (hk : k < bs.length) :
    ∃ b off, a = some ⟨b, off, none⟩ ∧ b < w.heap.size ∧ w.cell? ⟨b, off + k, none⟩ = some (.float .f32 bs[k]) := by
  have hn : n = bs.length := by obtain ⟨⟨_, _, _, h2, _⟩, _⟩ := h; cases h2; rfl
  subst hn
  obtain ⟨b, off, h1, h2, h3⟩ := Rd.pos h.1 (by omega : 0 < bs.length * 1)
  refine ⟨b, off, h1, h2, ?_⟩
  rw [h3 k (by omega)]
  simp [hk]

end Go.Proofs.Ytmcnfapdghoenaa
/- Contracts of small tests on integers and 32-bit numbers. No condition. -/
namespace Go.Proofs.Ytmcnfapdghoenaa
open Go Go.RowKit

def inB (n lo hi : Int) : Bool := decide (lo ≤ n ∧ n ≤ hi)
theorem inB_true {n lo hi : Int} (h1 : lo ≤ n) (h2 : n ≤ hi) : inB n lo hi = true := by simp [inB, h1, h2]
theorem inB_iff {n lo hi : Int} : inB n lo hi = true ↔ lo ≤ n ∧ n ≤ hi := by simp [inB]
theorem inB_low {n lo hi : Int} (h1 : ¬ lo ≤ n) : inB n lo hi = false := by simp [inB, h1]
theorem inB_high {n lo hi : Int} (h1 : ¬ n ≤ hi) : inB n lo hi = false := by simp [inB, h1]

theorem within_any (n lo hi : Int) (w : World) : Calls Try.prog 21 #[.int .i64 n, .int .i64 lo, .int .i64 hi] w fun e w' => e = .returned (.bool (inB n lo hi)) ∧ w = w' := by
  by_cases h1 : lo ≤ n
  · by_cases h2 : n ≤ hi
    · have H := Lib.hid (inB_true h1 h2)
      go_enter Try.func21, Try.ntmps21
      go_wp2
      go_ret
      exact ⟨ret_bool H.out.symm, rfl⟩
    · have H := Lib.hid (inB_high (lo := lo) h2)
      have hd : decide (n ≤ hi) = false := by simpa using h2
      go_enter Try.func21, Try.ntmps21
      go_wp2
      go_ret
      exact ⟨ret_bool H.out.symm, rfl⟩
  · have H := Lib.hid (inB_low (hi := hi) h1)
    have hd : decide (lo ≤ n) = false := by simpa using h1
    go_enter Try.func21, Try.ntmps21
    go_wp2
    go_ret
    exact ⟨ret_bool H.out.symm, rfl⟩
theorem within_eq {n lo hi : Int} {c : Bool} (h : inB n lo hi = c) (w : World) : Calls Try.prog 21 #[.int .i64 n, .int .i64 lo, .int .i64 hi] w fun e w' => e = .returned (.bool c) ∧ w = w' := by
  subst h; exact within_any n lo hi w

theorem ex_f64frombits (n : Int) (w : World) : (callFunc 43 #[.int .u64 n]).run Try.prog w = .ok (.value (.float .f64 n.toNat)) w := by
  rw [run_callFunc_extern (e := Extern.MathFloatBits.float64frombits) Try.func43 (by kernel_rfl) (by kernel_rfl) (by kernel_rfl) (by kernel_rfl)]; rfl

/-- Finite: what is taken from itself is zero then alone. -/
def finB (x : Nat) : Bool := fcmp .eql .f32 (fop .sub .f32 x x) (cn .f32 0)
def leastB (x : Nat) : Bool := finB x && fcmp .geq .f32 x (cn .f32 0)
def aboveB (x : Nat) : Bool := finB x && fcmp .gtr .f32 x (cn .f32 0)
def shareB (x : Nat) : Bool := fcmp .geq .f32 x (cn .f32 0) && fcmp .leq .f32 x (cn .f32 1065353216)

theorem isFinite_any (b : Nat) (w : World) : Calls Try.prog 31 #[.float .f32 b] w fun e w' => e = .returned (.bool (finB (cn .f32 b))) ∧ Ext w w' := by
  go_enter Try.func31, Try.ntmps31
  go_wp2_with (first | (refine wpList_fcmp rfl rfl rfl rfl rfl (by first | with_reducible assumption | exact rfl) ?_) | (refine wpList_fop rfl rfl rfl rfl rfl ?_; intro fb nf hfb hfl))
  go_ret
  exact ⟨ret_bool rfl, Ext.drewN _ _⟩


/-! ### Lists of numbers asked by a function value -/
def PredF (P : Program) (fn : FuncId) (cap : Array Value) (p : Nat → Bool) (w : World) : Prop :=
  ∀ w', Ext w w' → ∀ b, b < 4294967296 → Calls P fn (#[.float .f32 b] ++ cap) w' fun e w'' => e = .returned (.bool (p (cn .f32 b))) ∧ Ext w' w''
def PredI (P : Program) (fn : FuncId) (cap : Array Value) (p : Int → Bool) (w : World) : Prop :=
  ∀ w', Ext w w' → ∀ z, Calls P fn (#[.int .i64 z] ++ cap) w' fun e w'' => e = .returned (.bool (p z)) ∧ Ext w' w''

/-- A call of function f enters its body. -/
def EnterOk (P : Program) (f : FuncId) : Prop := ∀ args w, (callFunc f args).run P w = .ok (.enter f args) w
theorem enterOk {P : Program} {f : FuncId} {fn : Func} {c : Code} (hf : P.funcs[f]? = some fn) (hname : (fn.name == "runtime.NumGoroutine") = false) (hb : fn.body = some c) : EnterOk P f := by
  intro args w
  have h1 : fn.name ≠ "runtime.NumGoroutine" := by simpa using hname
  simp [callFunc, hf, h1, hb, mark]

/-- The place of the first element for which p holds, or -1. -/
def idxOf {α : Type} (p : α → Bool) (l : List α) : Int := match l.findIdx? p with | some i => i | none => -1
theorem idxOf_hit {α : Type} {p : α → Bool} {l : List α} {k : Nat} (hk : k < l.length) (hp : p l[k] = true) (hn : ∀ j, (h : j < k) → p (l[j]'(by omega)) = false) : idxOf p l = k := by
  have : l.findIdx? p = some k := by
    rw [List.findIdx?_eq_some_iff_getElem]
    exact ⟨hk, hp, fun j hj => by simp [hn j hj]⟩
  unfold idxOf; rw [this]
theorem idxOf_none {α : Type} {p : α → Bool} {l : List α} (hn : ∀ j, (h : j < l.length) → p l[j] = false) : idxOf p l = -1 := by
  have : l.findIdx? p = none := by
    rw [List.findIdx?_eq_none_iff]
    intro x hx
    obtain ⟨j, hj, rfl⟩ := List.getElem_of_mem hx
    exact hn j hj
  unfold idxOf; rw [this]
theorem idxOf_any {α : Type} (p : α → Bool) (l : List α) : decide (0 ≤ idxOf p l) = l.any p := by
  unfold idxOf
  cases h : l.findIdx? p with
  | none =>
    rw [List.findIdx?_eq_none_iff] at h
    have : l.any p = false := by rw [List.any_eq_false]; intro x hx; simp [h x hx]
    rw [this]; rfl
  | some i =>
    rw [List.findIdx?_eq_some_iff_getElem] at h
    obtain ⟨h1, h2, _⟩ := h
    have : l.any p = true := by rw [List.any_eq_true]; exact ⟨_, List.getElem_mem h1, h2⟩
    rw [this]; simp
theorem idxOf_range {α : Type} (p : α → Bool) (l : List α) : -1 ≤ idxOf p l ∧ idxOf p l < l.length ∨ idxOf p l = -1 := by
  unfold idxOf
  cases h : l.findIdx? p with
  | none => right; rfl
  | some i =>
    rw [List.findIdx?_eq_some_iff_getElem] at h
    obtain ⟨h1, _⟩ := h
    left; simp; omega

set_option maxHeartbeats 1000000 in
theorem indexFuncF_any (fn : FuncId) (cap : Array Value) (p : Nat → Bool) (v : Value) (bs : List Nat) (w : World) (r : RdF w v bs) (hen : EnterOk Try.prog fn) (hp : PredF Try.prog fn cap p w) :
    Calls Try.prog 46 #[v, .func (.func fn) #[] cap] w fun e w' => e = .returned (.int .i64 (idxOf p (bs.map (cn .f32)))) ∧ Ext w w' := by
  have r' := r
  obtain ⟨⟨_, a1, c1, rfl, p1, p2, _, _⟩, hlt32⟩ := r
  unfold maxLen at p2
  have hent : ∀ args w, (callFunc fn args).run Try.prog w = .ok (.enter fn args) w := hen
  clear hen
  have HP := Lib.hid hp
  have HL := Lib.hid hlt32
  clear hp hlt32
  go_enter Try.func46, Try.ntmps46
  go_wp2_with fail
  go_loopw [8] (fun i wr => ∃ k : Nat, k ≤ bs.length ∧ i = .int .i64 k ∧ Hid (∀ j, (h : j < k) → (h' : j < bs.length) → p (cn .f32 bs[j]) = false) ∧ Ext w wr) (fun i _ => bs.length - (intOf i).toNat)
  case atStart => exact ⟨0, Nat.zero_le _, rfl, fun j h => absurd h (Nat.not_lt_zero _), Ext.refl _⟩
  case round =>
    obtain ⟨k, hk, rfl, Hn, X⟩ := hrel
    by_cases hlt : k < bs.length
    · obtain ⟨b1, o1, rfl, hb1, hc1⟩ := (r'.ext X).at hlt
      go_wp2_with fail
      refine (HP.out _ X bs[k] (HL.out _ (List.getElem_mem hlt))).mono ?_
      rintro e w1 ⟨rfl, hx⟩
      replace X := X.trans hx
      cases hpk : p (cn .f32 bs[k])
      · have Hk := Lib.hid hpk
        clear hpk hc1 hb1 hx
        go_wp2_with fail
        go_roundw
        case rel =>
          refine ⟨k + 1, by omega, by go_num, (fun j hj hj' => ?_), X⟩
          by_cases hjk : j = k
          · subst hjk; exact Hk.out
          · exact Hn.out j (by omega) hj'
        case measure => simp [intOf]; omega
      · have Hk := Lib.hid hpk
        clear hpk hc1 hb1 hx
        go_wp2_with fail
        go_ret
        have he : idxOf p (bs.map (cn .f32)) = k := idxOf_hit (by simpa using hlt) (by simpa using Hk.out) fun j hj => by
          simp only [List.getElem_map]; exact Hn.out j hj (by omega)
        exact ⟨ret_int he.symm, X⟩
    · go_wp2_with fail
      go_ret
      have he : idxOf p (bs.map (cn .f32)) = -1 := idxOf_none fun j hj => by
        have hj' : j < bs.length := by simpa using hj
        simp only [List.getElem_map]; exact Hn.out j (by omega) hj'
      exact ⟨ret_int he.symm, X⟩

theorem containsFuncF_any (fn : FuncId) (cap : Array Value) (p : Nat → Bool) (v : Value) (bs : List Nat) (w : World) (r : RdF w v bs) (hen : EnterOk Try.prog fn) (hp : PredF Try.prog fn cap p w) :
    Calls Try.prog 39 #[v, .func (.func fn) #[] cap] w fun e w' => e = .returned (.bool ((bs.map (cn .f32)).any p)) ∧ Ext w w' := by
  have H := Lib.hid (indexFuncF_any fn cap p v bs w r hen hp)
  have H2 := Lib.hid (idxOf_any p (bs.map (cn .f32)))
  obtain ⟨⟨_, a1, c1, rfl, p1, p2, _, _⟩, _⟩ := r
  clear hen hp p1 p2
  go_enter Try.func39, Try.ntmps39
  go_wp2_with fail
  refine H.out.mono ?_
  rintro e w1 ⟨rfl, X⟩
  clear H
  generalize idxOf p (bs.map (cn .f32)) = z at *
  go_wp2_with fail
  go_ret
  exact ⟨ret_bool H2.out, X⟩


end Go.Proofs.Ytmcnfapdghoenaa
/- Contracts of the functions on chains, and the laws FnExactValidChain, FnExactSameChain. No condition. -/
namespace Go.Proofs.Ytmcnfapdghoenaa
open Go Go.RowKit Go.ChangeShapes Go.WideShapes Go.ChangeAt

theorem areNotLess_1 (b : Nat) (w : World) : Calls Try.prog 40 #[.float .f32 b] w fun e w' => e = .returned (.bool (!(leastB (cn .f32 b)))) ∧ Ext w w' := by
  go_enter Try.func40, Try.ntmps40
  go_wp2_with fail
  refine (isFinite_any b _).mono ?_
  rintro e w1 ⟨rfl, X⟩
  cases h : finB (cn .f32 b)
  all_goals
    have H := Lib.hid h
    clear h
    go_wp2_with (first | (refine wpList_fcmp rfl rfl rfl rfl rfl (by first | with_reducible assumption | exact rfl) ?_) | (refine wpList_fop rfl rfl rfl rfl rfl ?_; intro fb nf hfb hfl))
    go_ret
    exact ⟨ret_bool (by unfold leastB; rw [H.out]; rfl), X⟩

theorem areNotLess_any (v : Value) (bs : List Nat) (w : World) (r : RdF w v bs) : Calls Try.prog 27 #[v] w fun e w' => e = .returned (.bool ((bs.map (cn .f32)).all leastB)) ∧ Ext w w' := by
  have H := Lib.hid (containsFuncF_any 40 #[] (fun x => !(leastB x)) v bs w r (enterOk Try.func40 (by kernel_rfl) rfl) (fun w' _ b _ => areNotLess_1 b w'))
  have H2 : Hid ((!(bs.map (cn .f32)).any fun x => !(leastB x)) = (bs.map (cn .f32)).all leastB) := by
    show _ = _; induction (bs.map (cn .f32)) with
    | nil => rfl
    | cons x l ih => simp only [List.any_cons, List.all_cons, Bool.not_or, Bool.not_not, ih]
  obtain ⟨⟨_, a1, c1, rfl, _, _, _, _⟩, _⟩ := r
  go_enter Try.func27, Try.ntmps27
  go_wp2_with fail
  refine H.out.mono ?_
  rintro e w1 ⟨rfl, X⟩
  clear H
  generalize ((bs.map (cn .f32)).any fun x => !(leastB x)) = z at *
  go_wp2_with fail
  go_ret
  exact ⟨ret_bool H2.out, X⟩

theorem areMore_1 (b : Nat) (w : World) : Calls Try.prog 44 #[.float .f32 b] w fun e w' => e = .returned (.bool (!(aboveB (cn .f32 b)))) ∧ Ext w w' := by
  go_enter Try.func44, Try.ntmps44
  go_wp2_with fail
  refine (isFinite_any b _).mono ?_
  rintro e w1 ⟨rfl, X⟩
  cases h : finB (cn .f32 b)
  all_goals
    have H := Lib.hid h
    clear h
    go_wp2_with (first | (refine wpList_fcmp rfl rfl rfl rfl rfl (by first | with_reducible assumption | exact rfl) ?_) | (refine wpList_fop rfl rfl rfl rfl rfl ?_; intro fb nf hfb hfl))
    go_ret
    exact ⟨ret_bool (by unfold aboveB; rw [H.out]; rfl), X⟩

theorem areMore_any (v : Value) (bs : List Nat) (w : World) (r : RdF w v bs) : Calls Try.prog 36 #[v] w fun e w' => e = .returned (.bool ((bs.map (cn .f32)).all aboveB)) ∧ Ext w w' := by
  have H := Lib.hid (containsFuncF_any 44 #[] (fun x => !(aboveB x)) v bs w r (enterOk Try.func44 (by kernel_rfl) rfl) (fun w' _ b _ => areMore_1 b w'))
  have H2 : Hid ((!(bs.map (cn .f32)).any fun x => !(aboveB x)) = (bs.map (cn .f32)).all aboveB) := by
    show _ = _; induction (bs.map (cn .f32)) with
    | nil => rfl
    | cons x l ih => simp only [List.any_cons, List.all_cons, Bool.not_or, Bool.not_not, ih]
  obtain ⟨⟨_, a1, c1, rfl, _, _, _, _⟩, _⟩ := r
  go_enter Try.func36, Try.ntmps36
  go_wp2_with fail
  refine H.out.mono ?_
  rintro e w1 ⟨rfl, X⟩
  clear H
  generalize ((bs.map (cn .f32)).any fun x => !(aboveB x)) = z at *
  go_wp2_with fail
  go_ret
  exact ⟨ret_bool H2.out, X⟩



/-- What a valid chain is, as the reference asks it. -/
def diagB (n : Nat) (i : Nat) (x : Nat) : Bool := leastB x && !(decide (i % (n + 1) = 0) && fcmp .neq .f32 x (cn .f32 0))
def chainOk (n : Int) (bs : List Nat) : Bool := inB n 1 8 && decide ((bs.length : Int) = n * n) && (List.range bs.length).all fun i => diagB n.toNat i (cn .f32 (bs.getD i 0))


def chainOkI (n : Int) (bs : List Nat) : Bool := inB n 1 8 && decide ((bs.length : Int) = n * n) && (bs.map (cn .f32)).all leastB &&
  (List.range n.toNat).all fun i => !(fcmp .neq .f32 (cn .f32 (bs.getD (i * n.toNat + i) 0)) (cn .f32 0))

theorem areNotLess_eq {v : Value} {bs : List Nat} {c : Bool} (h : (bs.map (cn .f32)).all leastB = c) (w : World) (r : RdF w v bs) : Calls Try.prog 27 #[v] w fun e w' => e = .returned (.bool c) ∧ Ext w w' := by
  subst h; exact areNotLess_any v bs w r

end Go.Proofs.Ytmcnfapdghoenaa
/- Contracts of the functions that sum lists of 32-bit numbers and ask whether all are finite. No condition. -/
namespace Go.Proofs.Ytmcnfapdghoenaa
open Go Go.RowKit

/-- The sum of canonical bits, from left to right. -/
def sumF (s : Nat) (xs : List Nat) : Nat := xs.foldl (fun a x => fop .add .f32 a x) s
theorem sumF_take {s : Nat} {xs : List Nat} {k : Nat} (hk : k < xs.length) : sumF s (xs.take (k + 1)) = fop .add .f32 (sumF s (xs.take k)) xs[k] := by
  unfold sumF
  rw [List.take_add_one, List.getElem?_eq_getElem hk]
  simp only [Option.toList_some, List.foldl_append, List.foldl_cons, List.foldl_nil]
theorem map_take_cn {bs : List Nat} {k : Nat} : (bs.take k).map (cn .f32) = (bs.map (cn .f32)).take k := by rw [List.map_take]

set_option maxHeartbeats 1000000 in
theorem addUp_any (v : Value) (bs : List Nat) (w : World) (r : RdF w v bs) :
    Calls Try.prog 28 #[v] w fun e w' => ∃ b, e = .returned (.float .f32 b) ∧ cn .f32 b = sumF (cn .f32 0) (bs.map (cn .f32)) ∧ b < 4294967296 ∧ Ext w w' := by
  have r' := r
  obtain ⟨⟨-, a1, c1, rfl, p1, p2, -, -⟩, l1⟩ := r
  clear l1
  unfold maxLen at p2
  go_enter Try.func28, Try.ntmps28
  go_wp2_with fail
  go_loopw [3, 8] (fun s i wr => ∃ (k b : Nat), k ≤ bs.length ∧ i = .int .i64 k ∧ s = .float .f32 b ∧ Hid (cn .f32 b = sumF (cn .f32 0) ((bs.map (cn .f32)).take k)) ∧ Hid (b < 4294967296) ∧ Ext w wr) (fun _ i _ => bs.length - (intOf i).toNat)
  case atStart => exact ⟨0, 0, Nat.zero_le _, rfl, rfl, rfl, (by show (0 : Nat) < _; decide), Ext.refl _⟩
  case round =>
    obtain ⟨k, b, hk, rfl, rfl, Hb, Hl, X⟩ := hrel
    by_cases hlt : k < bs.length
    · obtain ⟨b1, o1, rfl, hb1, hc1⟩ := (r'.ext X).at hlt
      go_wp2_with (first | (refine wpList_fop rfl rfl rfl rfl rfl ?_; intro fb nf hfb hfl; replace hfb := Lib.hid hfb; replace hfl := Lib.hid hfl))
      go_roundw
      case rel =>
        refine ⟨k + 1, fb, by omega, by go_num, rfl, ?_, hfl, X.trans (Ext.drewN _ _)⟩
        show _ = _
        rw [hfb.out, Hb.out, sumF_take (by simpa using hlt)]
        simp
      case measure => simp [intOf]; omega
    · go_wp2_with fail
      go_ret
      refine ⟨b, rfl, ?_, Hl.out, X⟩
      have h := Hb.out
      rw [List.take_of_length_le (by simp; omega)] at h
      exact h

def finAll (xs : List Nat) : Bool := xs.all finB


theorem areFinite_1 (b : Nat) (w : World) : Calls Try.prog 47 #[.float .f32 b] w fun e w' => e = .returned (.bool (!(finB (cn .f32 b)))) ∧ Ext w w' := by
  go_enter Try.func47, Try.ntmps47
  go_wp2_with fail
  refine (isFinite_any b _).mono ?_
  rintro e w1 ⟨rfl, X⟩
  generalize hz : finB (cn .f32 b) = z
  have Hz := Lib.hid hz
  clear hz
  go_wp2_with fail
  go_ret
  exact ⟨ret_bool (by rw [Hz.out]), X⟩
theorem areFinite_any (v : Value) (bs : List Nat) (w : World) (r : RdF w v bs) : Calls Try.prog 41 #[v] w fun e w' => e = .returned (.bool (finAll (bs.map (cn .f32)))) ∧ Ext w w' := by
  have H := Lib.hid (containsFuncF_any 47 #[] (fun x => !(finB x)) v bs w r (enterOk Try.func47 (by kernel_rfl) rfl) (fun w' _ b _ => areFinite_1 b w'))
  have H2 : Hid ((!(bs.map (cn .f32)).any fun x => !(finB x)) = finAll (bs.map (cn .f32))) := by
    show _ = _; unfold finAll; induction (bs.map (cn .f32)) with
    | nil => rfl
    | cons x l ih => simp only [List.any_cons, List.all_cons, Bool.not_or, Bool.not_not, ih]
  obtain ⟨⟨_, a1, c1, rfl, _, _, _, _⟩, _⟩ := r
  go_enter Try.func41, Try.ntmps41
  go_wp2_with fail
  refine H.out.mono ?_
  rintro e w1 ⟨rfl, X⟩
  clear H
  generalize ((bs.map (cn .f32)).any fun x => !(finB x)) = z at *
  go_wp2_with fail
  go_ret
  exact ⟨ret_bool H2.out, X⟩
theorem areFinite_eq {v : Value} {bs : List Nat} {c : Bool} (h : finAll (bs.map (cn .f32)) = c) (w : World) (r : RdF w v bs) :
    Calls Try.prog 41 #[v] w fun e w' => e = .returned (.bool c) ∧ Ext w w' := by subst h; exact areFinite_any v bs w r

/-- What 'ifAll' hands back: the list itself, or nothing. -/
def orNil (c : Bool) (v : Value) : Value := if c then v else .slice none 0 0

theorem ifAll_any (v : Value) (bs : List Nat) (w : World) (r : RdF w v bs) :
    Calls Try.prog 29 #[v] w fun e w' => e = .returned (.tuple #[orNil (finAll (bs.map (cn .f32))) v, .bool (finAll (bs.map (cn .f32)))]) ∧ Ext w w' := by
  have r' := r
  obtain ⟨⟨-, a1, c1, rfl, -, -, -, -⟩, l1⟩ := r
  clear l1
  cases hf : finAll (bs.map (cn .f32))
  all_goals
    have Hf := Lib.hid hf
    clear hf
    go_enter Try.func29, Try.ntmps29
    go_wp2_with fail
    refine (areFinite_eq Hf.out _ r').mono ?_
    rintro e w1 ⟨rfl, X⟩
    go_wp2_with fail
    go_ret2
    exact ⟨rfl, X⟩

end Go.Proofs.Ytmcnfapdghoenaa
/- Two 32-bit numbers are the same just if their canonical bits are. No condition. -/
namespace Go.Proofs.Ytmcnfapdghoenaa
open Go Go.RowKit

theorem single_form (x : Nat) (h : isN .f32 x = false) (hx : x < 4294967296) :
    (x % 2147483648 < 8388608 ∧ Ieee.single.read x = .number (decide (2147483648 ≤ x)) (x % 2147483648) (-149)) ∨
    (8388608 ≤ x % 2147483648 ∧ x % 2147483648 < 2139095040 ∧ Ieee.single.read x = .number (decide (2147483648 ≤ x)) (8388608 + x % 2147483648 % 8388608) (-149 + ((x % 2147483648 / 8388608 - 1 : Nat) : Int))) ∨
    (x % 2147483648 = 2139095040 ∧ Ieee.single.read x = .infinity (decide (2147483648 ≤ x))) := by
  have h1 : Ieee.single.signWeight = 2147483648 := by decide
  have h2 : Ieee.single.binade = 8388608 := by decide
  have h3 : Ieee.single.infRung = 2139095040 := by decide
  have h4 : Ieee.single.leastPlace = -149 := by decide
  have hs : (x / 2147483648 % 2 == 1) = decide (2147483648 ≤ x) := by
    rw [Bool.eq_iff_iff, beq_iff_eq, decide_eq_true_iff]; omega
  have hr : Ieee.single.read x = if x % 2147483648 < 8388608 then .number (decide (2147483648 ≤ x)) (x % 2147483648) (-149)
      else if x % 2147483648 < 2139095040 then .number (decide (2147483648 ≤ x)) (8388608 + x % 2147483648 % 8388608) (-149 + ((x % 2147483648 / 8388608 - 1 : Nat) : Int))
      else if x % 2147483648 = 2139095040 then .infinity (decide (2147483648 ≤ x)) else .nan (decide (2147483648 ≤ x)) (x % 2147483648 - 2139095040) := by
    unfold Ieee.Format.read
    simp only [h1, h2, h3, h4, hs]
  by_cases c1 : x % 2147483648 < 8388608
  · rw [if_pos c1] at hr; exact .inl ⟨c1, hr⟩
  · rw [if_neg c1] at hr
    by_cases c2 : x % 2147483648 < 2139095040
    · rw [if_pos c2] at hr; exact .inr (.inl ⟨by omega, c2, hr⟩)
    · rw [if_neg c2] at hr
      by_cases c3 : x % 2147483648 = 2139095040
      · rw [if_pos c3] at hr; exact .inr (.inr ⟨c3, hr⟩)
      · rw [if_neg c3] at hr
        unfold isN at h
        have hr' : (FloatKind.f32).format.read x = .nan (decide (2147483648 ≤ x)) (x % 2147483648 - 2139095040) := hr
        rw [hr'] at h
        simp [Ieee.Datum.isNaN] at h

theorem int_cmp_eq {a b : Int} (h : compare a b = .eq) : a = b := by
  have h' : compareOfLessAndEq a b = .eq := h
  unfold compareOfLessAndEq at h'
  split at h'
  · cases h'
  · split at h'
    · assumption
    · cases h'

theorem shift_eq {m n i j : Nat} (h : m <<< i = n <<< j) : m * 2 ^ i = n * 2 ^ j := by simpa [Nat.shiftLeft_eq] using h

theorem signed_inj {s : Bool} {m n i j : Nat} (h : Ieee.signed s m i = Ieee.signed s n j) : m * 2 ^ i = n * 2 ^ j := by
  unfold Ieee.signed at h
  cases s <;> simp at h <;> exact shift_eq (by exact_mod_cast h)

/-- Equal and of one sign: one word. -/
theorem order_eq_inj {x y : Nat} (hx : x < 4294967296) (hy : y < 4294967296) (nx : isN .f32 x = false) (ny : isN .f32 y = false)
    (ho : (FloatKind.f32).format.order x y = some .eq) (hs : decide (2147483648 ≤ x) = decide (2147483648 ≤ y)) : x = y := by
  have hrung : x % 2147483648 = y % 2147483648 := by
    have ho' : (Ieee.single.read x).order (Ieee.single.read y) = some .eq := ho
    rcases single_form x nx hx with ⟨a1, a2⟩ | ⟨a1, a2, a3⟩ | ⟨a1, a2⟩ <;> rcases single_form y ny hy with ⟨b1, b2⟩ | ⟨b1, b2, b3⟩ | ⟨b1, b2⟩
    · rw [a2, b2, hs] at ho'
      simp only [Ieee.Datum.order, Option.some.injEq] at ho'; replace ho' := int_cmp_eq ho'
      have := signed_inj ho'
      simpa using this
    · rw [a2, b3, hs] at ho'
      simp only [Ieee.Datum.order, Option.some.injEq] at ho'; replace ho' := int_cmp_eq ho'
      have h := signed_inj ho'
      have e : min (-149 : Int) (-149 + ((y % 2147483648 / 8388608 - 1 : Nat) : Int)) = -149 := by omega
      rw [e] at h
      simp only [Int.sub_self, Int.toNat_zero, Nat.pow_zero, Nat.mul_one] at h
      have : 8388608 + y % 2147483648 % 8388608 ≤ (8388608 + y % 2147483648 % 8388608) * 2 ^ (-149 + ((y % 2147483648 / 8388608 - 1 : Nat) : Int) - -149).toNat := Nat.le_mul_of_pos_right _ (Nat.pow_pos (by omega))
      omega
    · rw [a2, b2] at ho'; simp only [Ieee.Datum.order, Option.some.injEq] at ho'; split at ho' <;> cases ho'
    · rw [a3, b2, hs] at ho'
      simp only [Ieee.Datum.order, Option.some.injEq] at ho'; replace ho' := int_cmp_eq ho'
      have h := signed_inj ho'
      have e : min (-149 + ((x % 2147483648 / 8388608 - 1 : Nat) : Int)) (-149 : Int) = -149 := by omega
      rw [e] at h
      simp only [Int.sub_self, Int.toNat_zero, Nat.pow_zero, Nat.mul_one] at h
      have : 8388608 + x % 2147483648 % 8388608 ≤ (8388608 + x % 2147483648 % 8388608) * 2 ^ (-149 + ((x % 2147483648 / 8388608 - 1 : Nat) : Int) - -149).toNat := Nat.le_mul_of_pos_right _ (Nat.pow_pos (by omega))
      omega
    · rw [a3, b3, hs] at ho'
      simp only [Ieee.Datum.order, Option.some.injEq] at ho'; replace ho' := int_cmp_eq ho'
      have h := signed_inj ho'
      generalize hp : x % 2147483648 / 8388608 - 1 = p at *
      generalize hq : y % 2147483648 / 8388608 - 1 = q at *
      have hmx : x % 2147483648 % 8388608 < 8388608 := Nat.mod_lt _ (by omega)
      have hmy : y % 2147483648 % 8388608 < 8388608 := Nat.mod_lt _ (by omega)
      have hdx := Nat.div_add_mod (x % 2147483648) 8388608
      have hdy := Nat.div_add_mod (y % 2147483648) 8388608
      have hpow : ∀ (m d : Nat), 0 < d → 2 * m ≤ m * 2 ^ d := fun m d hd => by
        obtain ⟨d, rfl⟩ : ∃ e, d = e + 1 := ⟨d - 1, by omega⟩
        have : 1 ≤ 2 ^ d := Nat.pow_pos (by omega)
        rw [Nat.pow_succ]
        calc 2 * m = m * (1 * 2) := by omega
          _ ≤ m * (2 ^ d * 2) := Nat.mul_le_mul_left _ (Nat.mul_le_mul_right _ this)
      rcases Nat.lt_trichotomy p q with hlt | heq | hgt
      · have e1 : (-149 + (p : Int) - min (-149 + (p : Int)) (-149 + (q : Int))).toNat = 0 := by omega
        have e2 : (-149 + (q : Int) - min (-149 + (p : Int)) (-149 + (q : Int))).toNat = q - p := by omega
        rw [e1, e2] at h
        have := hpow (8388608 + y % 2147483648 % 8388608) (q - p) (by omega)
        omega
      · subst heq
        have e1 : (-149 + (p : Int) - min (-149 + (p : Int)) (-149 + (p : Int))).toNat = 0 := by omega
        rw [e1] at h
        omega
      · have e1 : (-149 + (p : Int) - min (-149 + (p : Int)) (-149 + (q : Int))).toNat = p - q := by omega
        have e2 : (-149 + (q : Int) - min (-149 + (p : Int)) (-149 + (q : Int))).toNat = 0 := by omega
        rw [e1, e2] at h
        have := hpow (8388608 + x % 2147483648 % 8388608) (p - q) (by omega)
        omega
    · rw [a3, b2] at ho'; simp only [Ieee.Datum.order, Option.some.injEq] at ho'; split at ho' <;> cases ho'
    · rw [a2, b2] at ho'; simp only [Ieee.Datum.order, Option.some.injEq] at ho'; split at ho' <;> cases ho'
    · rw [a2, b3] at ho'; simp only [Ieee.Datum.order, Option.some.injEq] at ho'; split at ho' <;> cases ho'
    · omega
  have hs' : (2147483648 ≤ x) ↔ (2147483648 ≤ y) := by simpa using hs
  omega

/-- The sign of a number outlives the way to 64 bits. -/
theorem wide_sign {x : Nat} (hx : x < 4294967296) (nx : isN .f32 x = false) : decide (9223372036854775808 ≤ wide x) = decide (2147483648 ≤ x) := by
  have hw : ∀ (s : Bool) (rung : Nat), rung ≤ Ieee.double.infRung → decide (9223372036854775808 ≤ Ieee.double.word s rung) = s := fun s rung hr => by
    have h1 : Ieee.double.signWeight = 9223372036854775808 := by decide +kernel
    have h2 : Ieee.double.infRung < 9223372036854775808 := by decide +kernel
    unfold Ieee.Format.word
    cases s
    · simp; omega
    · simp [h1]
  have hn : ∀ s m e, ∃ rung, rung ≤ Ieee.double.infRung ∧ Ieee.double.write (.number s m e) = Ieee.double.word s rung := fun s m e => by
    show ∃ rung, rung ≤ Ieee.double.infRung ∧ Ieee.double.nearest s m e = Ieee.double.word s rung
    unfold Ieee.Format.nearest
    split
    · exact ⟨0, Nat.zero_le _, rfl⟩
    · exact ⟨_, Nat.min_le_right _ _, rfl⟩
  have key : ∃ rung, rung ≤ Ieee.double.infRung ∧ wide x = Ieee.double.word (decide (2147483648 ≤ x)) rung := by
    rcases single_form x nx hx with ⟨_, a2⟩ | ⟨_, _, a2⟩ | ⟨_, a2⟩
    · have e : wide x = Ieee.double.write (.number (decide (2147483648 ≤ x)) (x % 2147483648) (-149)) := by unfold wide; rw [a2]
      rw [e]; exact hn _ _ _
    · have e : wide x = Ieee.double.write (.number (decide (2147483648 ≤ x)) (8388608 + x % 2147483648 % 8388608) (-149 + ((x % 2147483648 / 8388608 - 1 : Nat) : Int))) := by unfold wide; rw [a2]
      rw [e]; exact hn _ _ _
    · have e : wide x = Ieee.double.write (.infinity (decide (2147483648 ≤ x))) := by unfold wide; rw [a2]
      rw [e]; exact ⟨_, Nat.le_refl _, rfl⟩
  obtain ⟨rung, h1, h2⟩ := key
  have h3 := hw (decide (2147483648 ≤ x)) rung h1
  rw [← h2] at h3
  exact h3

theorem cn_of_num {k : FloatKind} {b : Nat} (h : isN k b = false) : cn k b = b := by unfold cn; rw [if_neg (by simp [h])]
theorem cn_of_nan {k : FloatKind} {b : Nat} (h : isN k b = true) : cn k b = nanW k := by unfold cn; rw [if_pos h]
theorem neq_self (k : FloatKind) (b : Nat) : fcmp .neq k (cn k b) (cn k b) = isN k b := by rw [fcmp_cn, fcmp_self_neq]


/-- Two numbers, by their canonical bits. -/
def sameN (x y : Nat) : Bool := decide (x = y)




end Go.Proofs.Ytmcnfapdghoenaa
