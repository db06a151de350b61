
/- Contracts of small tests on integers and 32-bit numbers. No condition. -/
import Derived.Test.YtgmdoboeenpjpaaProg
import Derived.Test.YtgmdoboeenpjpaaAF
namespace Go.Proofs.Ytgmdoboeenpjpaa
open Go Go.RowKit

def inB (n lo hi : Int) : Bool := decide (lo ≤ n ∧ n ≤ hi)
theorem inB_true {n lo hi : Int} (h1 : lo ≤ n) (h2 : n ≤ hi) : inB n lo hi = true := by simp [inB, h1, h2]
theorem inB_iff {n lo hi : Int} : inB n lo hi = true ↔ lo ≤ n ∧ n ≤ hi := by simp [inB]
theorem inB_low {n lo hi : Int} (h1 : ¬ lo ≤ n) : inB n lo hi = false := by simp [inB, h1]
theorem inB_high {n lo hi : Int} (h1 : ¬ n ≤ hi) : inB n lo hi = false := by simp [inB, h1]

theorem within_any (n lo hi : Int) (w : World) : Calls Try.prog 52 #[.int .i64 n, .int .i64 lo, .int .i64 hi] w fun e w' => e = .returned (.bool (inB n lo hi)) ∧ w = w' := by
  by_cases h1 : lo ≤ n
  · by_cases h2 : n ≤ hi
    · have H := Lib.hid (inB_true h1 h2)
      go_enter Try.func52, Try.ntmps52
      go_wp2
      go_ret
      exact ⟨ret_bool H.out.symm, rfl⟩
    · have H := Lib.hid (inB_high (lo := lo) h2)
      have hd : decide (n ≤ hi) = false := by simpa using h2
      go_enter Try.func52, Try.ntmps52
      go_wp2
      go_ret
      exact ⟨ret_bool H.out.symm, rfl⟩
  · have H := Lib.hid (inB_low (hi := hi) h1)
    have hd : decide (lo ≤ n) = false := by simpa using h1
    go_enter Try.func52, Try.ntmps52
    go_wp2
    go_ret
    exact ⟨ret_bool H.out.symm, rfl⟩
theorem within_eq {n lo hi : Int} {c : Bool} (h : inB n lo hi = c) (w : World) : Calls Try.prog 52 #[.int .i64 n, .int .i64 lo, .int .i64 hi] w fun e w' => e = .returned (.bool c) ∧ w = w' := by
  subst h; exact within_any n lo hi w
theorem l00In_any (n lo hi : Int) (w : World) : Calls Try.prog 75 #[.int .i64 n, .int .i64 lo, .int .i64 hi] w fun e w' => e = .returned (.bool (inB n lo hi)) ∧ w = w' := by
  by_cases h1 : lo ≤ n
  · by_cases h2 : n ≤ hi
    · have H := Lib.hid (inB_true h1 h2)
      go_enter Try.func75, Try.ntmps75
      go_wp2
      go_ret
      exact ⟨ret_bool H.out.symm, rfl⟩
    · have H := Lib.hid (inB_high (lo := lo) h2)
      have hd : decide (n ≤ hi) = false := by simpa using h2
      go_enter Try.func75, Try.ntmps75
      go_wp2
      go_ret
      exact ⟨ret_bool H.out.symm, rfl⟩
  · have H := Lib.hid (inB_low (hi := hi) h1)
    have hd : decide (lo ≤ n) = false := by simpa using h1
    go_enter Try.func75, Try.ntmps75
    go_wp2
    go_ret
    exact ⟨ret_bool H.out.symm, rfl⟩
theorem l00In_eq {n lo hi : Int} {c : Bool} (h : inB n lo hi = c) (w : World) : Calls Try.prog 75 #[.int .i64 n, .int .i64 lo, .int .i64 hi] w fun e w' => e = .returned (.bool c) ∧ w = w' := by
  subst h; exact l00In_any n lo hi w

theorem ex_f32bits (b : Nat) (w : World) : (callFunc 115 #[.float .f32 b]).run Try.prog w = .ok (.value (.int .u32 b)) w := by
  rw [run_callFunc_extern (e := Extern.MathFloatBits.float32bits) Try.func115 (by kernel_rfl) (by kernel_rfl) (by kernel_rfl) (by kernel_rfl)]; rfl

/-- Finite: what is taken from itself is zero then alone. -/
def finB (x : Nat) : Bool := fcmp .eql .f32 (fop .sub .f32 x x) (cn .f32 0)
def leastB (x : Nat) : Bool := finB x && fcmp .geq .f32 x (cn .f32 0)
def aboveB (x : Nat) : Bool := finB x && fcmp .gtr .f32 x (cn .f32 0)
def shareB (x : Nat) : Bool := fcmp .geq .f32 x (cn .f32 0) && fcmp .leq .f32 x (cn .f32 1065353216)



/-! ### Lists of numbers asked by a function value -/
def PredF (P : Program) (fn : FuncId) (cap : Array Value) (p : Nat → Bool) (w : World) : Prop :=
  ∀ w', Ext w w' → ∀ b, b < 4294967296 → Calls P fn (#[.float .f32 b] ++ cap) w' fun e w'' => e = .returned (.bool (p (cn .f32 b))) ∧ Ext w' w''
def PredI (P : Program) (fn : FuncId) (cap : Array Value) (p : Int → Bool) (w : World) : Prop :=
  ∀ w', Ext w w' → ∀ z, Calls P fn (#[.int .i64 z] ++ cap) w' fun e w'' => e = .returned (.bool (p z)) ∧ Ext w' w''

/-- A call of function f enters its body. -/
def EnterOk (P : Program) (f : FuncId) : Prop := ∀ args w, (callFunc f args).run P w = .ok (.enter f args) w
theorem enterOk {P : Program} {f : FuncId} {fn : Func} {c : Code} (hf : P.funcs[f]? = some fn) (hname : (fn.name == "runtime.NumGoroutine") = false) (hb : fn.body = some c) : EnterOk P f := by
  intro args w
  have h1 : fn.name ≠ "runtime.NumGoroutine" := by simpa using hname
  simp [callFunc, hf, h1, hb, mark]

/-- The place of the first element for which p holds, or -1. -/
def idxOf {α : Type} (p : α → Bool) (l : List α) : Int := match l.findIdx? p with | some i => i | none => -1
theorem idxOf_hit {α : Type} {p : α → Bool} {l : List α} {k : Nat} (hk : k < l.length) (hp : p l[k] = true) (hn : ∀ j, (h : j < k) → p (l[j]'(by omega)) = false) : idxOf p l = k := by
  have : l.findIdx? p = some k := by
    rw [List.findIdx?_eq_some_iff_getElem]
    exact ⟨hk, hp, fun j hj => by simp [hn j hj]⟩
  unfold idxOf; rw [this]
theorem idxOf_none {α : Type} {p : α → Bool} {l : List α} (hn : ∀ j, (h : j < l.length) → p l[j] = false) : idxOf p l = -1 := by
  have : l.findIdx? p = none := by
    rw [List.findIdx?_eq_none_iff]
    intro x hx
    obtain ⟨j, hj, rfl⟩ := List.getElem_of_mem hx
    exact hn j hj
  unfold idxOf; rw [this]
theorem idxOf_any {α : Type} (p : α → Bool) (l : List α) : decide (0 ≤ idxOf p l) = l.any p := by
  unfold idxOf
  cases h : l.findIdx? p with
  | none =>
    rw [List.findIdx?_eq_none_iff] at h
    have : l.any p = false := by rw [List.any_eq_false]; intro x hx; simp [h x hx]
    rw [this]; rfl
  | some i =>
    rw [List.findIdx?_eq_some_iff_getElem] at h
    obtain ⟨h1, h2, _⟩ := h
    have : l.any p = true := by rw [List.any_eq_true]; exact ⟨_, List.getElem_mem h1, h2⟩
    rw [this]; simp
theorem idxOf_range {α : Type} (p : α → Bool) (l : List α) : -1 ≤ idxOf p l ∧ idxOf p l < l.length ∨ idxOf p l = -1 := by
  unfold idxOf
  cases h : l.findIdx? p with
  | none => right; rfl
  | some i =>
    rw [List.findIdx?_eq_some_iff_getElem] at h
    obtain ⟨h1, _⟩ := h
    left; simp; omega

set_option maxHeartbeats 1000000 in
theorem indexFuncF_any (fn : FuncId) (cap : Array Value) (p : Nat → Bool) (v : Value) (bs : List Nat) (w : World) (r : RdF w v bs) (hen : EnterOk Try.prog fn) (hp : PredF Try.prog fn cap p w) :
    Calls Try.prog 113 #[v, .func (.func fn) #[] cap] w fun e w' => e = .returned (.int .i64 (idxOf p (bs.map (cn .f32)))) ∧ Ext w w' := by
  have r' := r
  obtain ⟨⟨_, a1, c1, rfl, p1, p2, _, _⟩, hlt32⟩ := r
  unfold maxLen at p2
  have hent : ∀ args w, (callFunc fn args).run Try.prog w = .ok (.enter fn args) w := hen
  clear hen
  have HP := Lib.hid hp
  have HL := Lib.hid hlt32
  clear hp hlt32
  go_enter Try.func113, Try.ntmps113
  go_wp2_with fail
  go_loopw [8] (fun i wr => ∃ k : Nat, k ≤ bs.length ∧ i = .int .i64 k ∧ Hid (∀ j, (h : j < k) → (h' : j < bs.length) → p (cn .f32 bs[j]) = false) ∧ Ext w wr) (fun i _ => bs.length - (intOf i).toNat)
  case atStart => exact ⟨0, Nat.zero_le _, rfl, fun j h => absurd h (Nat.not_lt_zero _), Ext.refl _⟩
  case round =>
    obtain ⟨k, hk, rfl, Hn, X⟩ := hrel
    by_cases hlt : k < bs.length
    · obtain ⟨b1, o1, rfl, hb1, hc1⟩ := (r'.ext X).at hlt
      go_wp2_with fail
      refine (HP.out _ X bs[k] (HL.out _ (List.getElem_mem hlt))).mono ?_
      rintro e w1 ⟨rfl, hx⟩
      replace X := X.trans hx
      cases hpk : p (cn .f32 bs[k])
      · have Hk := Lib.hid hpk
        clear hpk hc1 hb1 hx
        go_wp2_with fail
        go_roundw
        case rel =>
          refine ⟨k + 1, by omega, by go_num, (fun j hj hj' => ?_), X⟩
          by_cases hjk : j = k
          · subst hjk; exact Hk.out
          · exact Hn.out j (by omega) hj'
        case measure => simp [intOf]; omega
      · have Hk := Lib.hid hpk
        clear hpk hc1 hb1 hx
        go_wp2_with fail
        go_ret
        have he : idxOf p (bs.map (cn .f32)) = k := idxOf_hit (by simpa using hlt) (by simpa using Hk.out) fun j hj => by
          simp only [List.getElem_map]; exact Hn.out j hj (by omega)
        exact ⟨ret_int he.symm, X⟩
    · go_wp2_with fail
      go_ret
      have he : idxOf p (bs.map (cn .f32)) = -1 := idxOf_none fun j hj => by
        have hj' : j < bs.length := by simpa using hj
        simp only [List.getElem_map]; exact Hn.out j (by omega) hj'
      exact ⟨ret_int he.symm, X⟩

theorem containsFuncF_any (fn : FuncId) (cap : Array Value) (p : Nat → Bool) (v : Value) (bs : List Nat) (w : World) (r : RdF w v bs) (hen : EnterOk Try.prog fn) (hp : PredF Try.prog fn cap p w) :
    Calls Try.prog 98 #[v, .func (.func fn) #[] cap] w fun e w' => e = .returned (.bool ((bs.map (cn .f32)).any p)) ∧ Ext w w' := by
  have H := Lib.hid (indexFuncF_any fn cap p v bs w r hen hp)
  have H2 := Lib.hid (idxOf_any p (bs.map (cn .f32)))
  obtain ⟨⟨_, a1, c1, rfl, p1, p2, _, _⟩, _⟩ := r
  clear hen hp p1 p2
  go_enter Try.func98, Try.ntmps98
  go_wp2_with fail
  refine H.out.mono ?_
  rintro e w1 ⟨rfl, X⟩
  clear H
  generalize idxOf p (bs.map (cn .f32)) = z at *
  go_wp2_with fail
  go_ret
  exact ⟨ret_bool H2.out, X⟩

set_option maxHeartbeats 1000000 in
theorem indexFuncI_any (fn : FuncId) (cap : Array Value) (p : Int → Bool) (v : Value) (bs : List Int) (w : World) (r : RdI w v bs) (hen : EnterOk Try.prog fn) (hp : PredI Try.prog fn cap p w) :
    Calls Try.prog 111 #[v, .func (.func fn) #[] cap] w fun e w' => e = .returned (.int .i64 (idxOf p bs)) ∧ Ext w w' := by
  have r' := r
  obtain ⟨_, a1, c1, rfl, p1, p2, _, _⟩ := r
  unfold maxLen at p2
  have hent : ∀ args w, (callFunc fn args).run Try.prog w = .ok (.enter fn args) w := hen
  clear hen
  have HP := Lib.hid hp
  clear hp
  go_enter Try.func111, Try.ntmps111
  go_wp2_with fail
  go_loopw [8] (fun i wr => ∃ k : Nat, k ≤ bs.length ∧ i = .int .i64 k ∧ Hid (∀ j, (h : j < k) → (h' : j < bs.length) → p bs[j] = false) ∧ Ext w wr) (fun i _ => bs.length - (intOf i).toNat)
  case atStart => exact ⟨0, Nat.zero_le _, rfl, fun j h => absurd h (Nat.not_lt_zero _), Ext.refl _⟩
  case round =>
    obtain ⟨k, hk, rfl, Hn, X⟩ := hrel
    by_cases hlt : k < bs.length
    · obtain ⟨b1, o1, rfl, hb1, hc1⟩ := (r'.ext X).at hlt
      go_wp2_with fail
      refine (HP.out _ X bs[k]).mono ?_
      rintro e w1 ⟨rfl, hx⟩
      replace X := X.trans hx
      cases hpk : p bs[k]
      · have Hk := Lib.hid hpk
        clear hpk hc1 hb1 hx
        go_wp2_with fail
        go_roundw
        case rel =>
          refine ⟨k + 1, by omega, by go_num, (fun j hj hj' => ?_), X⟩
          by_cases hjk : j = k
          · subst hjk; exact Hk.out
          · exact Hn.out j (by omega) hj'
        case measure => simp [intOf]; omega
      · have Hk := Lib.hid hpk
        clear hpk hc1 hb1 hx
        go_wp2_with fail
        go_ret
        have he : idxOf p bs = k := idxOf_hit hlt Hk.out fun j hj => Hn.out j hj (by omega)
        exact ⟨ret_int he.symm, X⟩
    · go_wp2_with fail
      go_ret
      have he : idxOf p bs = -1 := idxOf_none fun j hj => Hn.out j (by omega) hj
      exact ⟨ret_int he.symm, X⟩

theorem containsFuncI_any (fn : FuncId) (cap : Array Value) (p : Int → Bool) (v : Value) (bs : List Int) (w : World) (r : RdI w v bs) (hen : EnterOk Try.prog fn) (hp : PredI Try.prog fn cap p w) :
    Calls Try.prog 88 #[v, .func (.func fn) #[] cap] w fun e w' => e = .returned (.bool (bs.any p)) ∧ Ext w w' := by
  have H := Lib.hid (indexFuncI_any fn cap p v bs w r hen hp)
  have H2 := Lib.hid (idxOf_any p bs)
  obtain ⟨_, a1, c1, rfl, p1, p2, _, _⟩ := r
  clear hen hp p1 p2
  go_enter Try.func88, Try.ntmps88
  go_wp2_with fail
  refine H.out.mono ?_
  rintro e w1 ⟨rfl, X⟩
  clear H
  generalize idxOf p bs = z at *
  go_wp2_with fail
  go_ret
  exact ⟨ret_bool H2.out, X⟩

end Go.Proofs.Ytgmdoboeenpjpaa
