
/- Joined systems: what the law gets of them. Plain. Conditions: two valid systems of at most four parts, shares that are drawn. -/
import Derived.Test.YtgmdoboeenpjpaaVB
import Derived.Test.YtgmdoboeenpjpaaVA
import Derived.Test.YtgmdoboeenpjpaaZJ
import Derived.Test.YtgmdoboeenpjpaaZs
import Derived.Test.YtgmdoboeenpjpaaZU
import Derived.Test.YtgmdoboeenpjpaaYN
import Derived.Test.YtgmdoboeenpjpaaYl
import Derived.Test.YtgmdoboeenpjpaaZn
namespace Go.Proofs.Ytgmdoboeenpjpaa
open Go Go.RowKit

attribute [local irreducible] tw
theorem two4 {p : Nat} (h : p ≤ 4) : 2 ^ p ≤ 16 := Nat.pow_le_pow_right (n := 2) (by decide) h
theorem jn_get {P : Nat} {ns : List Nat} (h : sysB (P : Int) (ups ns) = true) : SysN P ns ∧ ns.Pairwise (· < ·) ∧ anti ns = true := by
  obtain ⟨hs, -, -⟩ := SysN.of (sys_good' h)
  rw [Int.toNat_natCast, downs_ups] at hs
  obtain ⟨h1, h2⟩ := sysB_ups h
  rw [downs_ups] at h1 h2
  exact ⟨hs, h1, h2⟩
theorem jn_make {P : Nat} {ns : List Nat} (h1 : 1 ≤ P) (h2 : P ≤ 10) (h3 : 1 ≤ ns.length) (h4 : ns.length ≤ 64) (h5 : ∀ n ∈ ns, 1 ≤ n ∧ n < 2 ^ P) (h6 : ns.Pairwise (· < ·)) (h7 : anti ns = true) : sysB (P : Int) (ups ns) = true := by
  unfold sysB goodI manyB
  rw [downs_ups, ups_len, inB_true (by omega) (by omega), inB_true (by omega) (by omega), asc_iff.2 h6, h7, Int.toNat_natCast]
  simp only [Bool.true_and, Bool.and_true, List.all_eq_true]
  intro z hz
  obtain ⟨n, hn, rfl⟩ := mem_ups.1 hz
  obtain ⟨a, b⟩ := h5 n hn
  have e : (2 : Int) ^ P = ((2 ^ P : Nat) : Int) := by rw [Int.natCast_pow]; rfl
  rw [e]
  exact inB_true (by omega) (by omega)
theorem be_valid {P Q : Nat} {A B : List Nat} (hA : sysB (P : Int) (ups A) = true) (hB : sysB (Q : Int) (ups B) = true) (hP : P ≤ 4) (hQ : Q ≤ 4) : sysB ((P + Q : Nat) : Int) (ups (beL P A B)) = true := by
  obtain ⟨a1, a2, a3⟩ := jn_get hA
  obtain ⟨b1, b2, b3⟩ := jn_get hB
  have p16 := two4 hP
  have q16 := two4 hQ
  have la := asc_len a2 a1.lt
  have lb := asc_len b2 b1.lt
  have hl : (beL P A B).length = A.length + B.length := by unfold beL; rw [List.length_append, shL_len]
  have l1 := a1.l1
  refine jn_make (by have := a1.p1; omega) (by omega) (by omega) (by omega) (fun n hn => ?_) (be_asc a2 b2 a1.lt b1.pos) (be_anti a3 b3 (fun x hx => ⟨a1.pos x hx, a1.lt x hx⟩) b1.pos)
  have hpp : 0 < 2 ^ P := Nat.pow_pos (by decide)
  rw [Nat.pow_add]
  rcases List.mem_append.1 hn with h | h
  · have x1 := a1.pos n h
    have x2 := a1.lt n h
    have : 2 ^ P * 1 ≤ 2 ^ P * 2 ^ Q := Nat.mul_le_mul_left _ (Nat.pow_pos (by decide))
    omega
  · obtain ⟨q, hq, rfl⟩ := List.mem_map.1 h
    have x1 := b1.pos q hq
    have x2 := b1.lt q hq
    have y1 : 1 * 2 ^ P ≤ q * 2 ^ P := Nat.mul_le_mul_right _ x1
    have y2 : 2 ^ P * (q + 1) ≤ 2 ^ P * 2 ^ Q := Nat.mul_le_mul_left _ x2
    have y3 : 2 ^ P * (q + 1) = q * 2 ^ P + 2 ^ P := by rw [Nat.mul_succ, Nat.mul_comm]
    omega
theorem be_some {P Q : Nat} {A B : List Nat} (hA : sysB (P : Int) (ups A) = true) (hB : sysB (Q : Int) (ups B) = true) (hP : P ≤ 4) (hQ : Q ≤ 4) : besideO (P : Int) (Q : Int) (ups A) (ups B) = some (((P + Q : Nat) : Int), ups (beL P A B)) := by
  unfold besideO
  rw [hA, hB, downs_ups, downs_ups, Int.toNat_natCast]
  have e : (P : Int) + (Q : Int) = ((P + Q : Nat) : Int) := by omega
  rw [e]
  show (if sysB _ _ then _ else none) = _
  rw [be_valid hA hB hP hQ]; rfl
theorem ser_two {P Q : Nat} {A B : List Nat} (hA : sysB (P : Int) (ups A) = true) (hB : sysB (Q : Int) (ups B) = true) :
    serO (P : Int) (Q : Int) (ups A) (ups B) = none ∨ (serO (P : Int) (Q : Int) (ups A) (ups B) = some (((P + Q : Nat) : Int), ups (chL (2 ^ P) A B)) ∧ sysB ((P + Q : Nat) : Int) (ups (chL (2 ^ P) A B)) = true) := by
  unfold serO
  rw [hA, hB, downs_ups, downs_ups, Int.toNat_natCast]
  have e : (P : Int) + (Q : Int) = ((P + Q : Nat) : Int) := by omega
  rw [e]
  show (if sysB _ _ then _ else none) = none ∨ ((if sysB _ _ then _ else none) = _ ∧ _)
  cases h : sysB ((P + Q : Nat) : Int) (ups (chL (2 ^ P) A B))
  · exact .inl rfl
  · exact .inr ⟨rfl, rfl⟩
/-! ### Shares of both -/
theorem Shs.app {C D : List Nat} (hC : Shs C) (hD : Shs D) : Shs (C ++ D) := fun b hb => (List.mem_append.1 hb).elim (hC b) (hD b)
theorem shr_of {C : List Nat} {P : Nat} (h : Shs C) (hl : C.length = P) : ShR P C := hl ▸ h.shr
theorem cR_low {C D : List Nat} {i : Nat} (h : i < C.length) : cR (C ++ D) i = cR C i := by
  unfold cR; rw [List.getD_eq_getElem?_getD, List.getD_eq_getElem?_getD, List.getElem?_append_left h]
theorem cR_high {C D : List Nat} {i : Nat} : cR (C ++ D) (C.length + i) = cR D i := by
  unfold cR; rw [List.getD_eq_getElem?_getD, List.getD_eq_getElem?_getD, List.getElem?_append_right (by omega), show C.length + i - C.length = i by omega]
/-- The chance of a system of at most four parts, and of the joined ones. -/
structure JnG (P Q : Nat) (A B C D : List Nat) (X Y : Rat) : Prop where
  x : Nr .f32 (chS P A C) X (1 / 10000)
  y : Nr .f32 (chS Q B D) Y (1 / 10000)
  x0 : 0 ≤ X
  x1 : X ≤ 1
  y0 : 0 ≤ Y
  y1 : Y ≤ 1
  ch : Nr .f32 (chS (P + Q) (chL (2 ^ P) A B) (C ++ D)) (X * Y) (1 / 10000)
  be : Nr .f32 (chS (P + Q) (beL P A B) (C ++ D)) (1 - (1 - X) * (1 - Y)) (1 / 10000)
theorem jn_good {P Q : Nat} {A B C D : List Nat} (hA : sysB (P : Int) (ups A) = true) (hB : sysB (Q : Int) (ups B) = true) (hP : P ≤ 4) (hQ : Q ≤ 4) (hC : Shs C) (hD : Shs D) (hcl : C.length = P) (hdl : D.length = Q) :
    ∃ X Y, JnG P Q A B C D X Y := by
  obtain ⟨a1, a2, a3⟩ := jn_get hA
  have sC := shr_of hC hcl
  have sD := shr_of hD hdl
  have sE := shr_of (P := P + Q) (hC.app hD) (by rw [List.length_append]; omega)
  have e1 : Ex (cR (C ++ D)) P (ind (worksB A)) = Ex (cR C) P (ind (worksB A)) := Ex_chances fun i hi => cR_low (by omega)
  have e2 : Ex (fun i => cR (C ++ D) (P + i)) Q (ind (worksB B)) = Ex (cR D) Q (ind (worksB B)) := Ex_chances fun i hi => by rw [← hcl]; exact cR_high
  obtain ⟨x0, x1⟩ := Ex_bounds sC.inU (g := ind (worksB A)) (fun s _ => ind_nn _ s) fun s _ => ind_le _ s
  obtain ⟨y0, y1⟩ := Ex_bounds sD.inU (g := ind (worksB B)) (fun s _ => ind_nn _ s) fun s _ => ind_le _ s
  refine ⟨_, _, chS_near8 (by omega) sC, chS_near8 (by omega) sD, x0, x1, y0, y1, ?_, ?_⟩
  · have h := chS_near8 (ns := chL (2 ^ P) A B) (show P + Q ≤ 8 by omega) sE
    rw [Ex_chain (C := cR (C ++ D)) a1.lt (fun s => mem_chL), e1, e2] at h
    exact h
  · have h := chS_near8 (ns := beL P A B) (show P + Q ≤ 8 by omega) sE
    rw [Ex_beside (C := cR (C ++ D)) (B := B) a1.lt (fun s => by
      unfold beL shL
      rw [List.mem_append, List.mem_map]
      constructor
      · rintro (h | ⟨q, hq, rfl⟩)
        · exact .inl h
        · exact .inr ⟨q, hq, rfl⟩
      · rintro (h | ⟨q, hq, rfl⟩)
        · exact .inl h
        · exact .inr ⟨q, hq, rfl⟩), e1, e2] at h
    exact h
def k1f : Nat := 4607182418800017408
theorem k1_val : Num .f64 k1f ∧ fv .f64 k1f = 1 := by
  have h : (FloatKind.f64).format.read k1f = .number false 4503599627370496 (-52) := by decide +kernel
  refine ⟨⟨_, _, _, h⟩, ?_⟩
  rw [fv_eq h]
  have h1 : tw (-((52 : Nat) : Int)) * ((2 ^ 52 : Nat) : Rat) = 1 := tw_neg 52
  have h3 : ((2 ^ 52 : Nat) : Rat) = 4503599627370496 := rfl
  have h4 : tw (-((52 : Nat) : Int)) = tw (-52) := rfl
  rw [h3, h4] at h1
  have h2 : ((4503599627370496 : Nat) : Rat) = 4503599627370496 := rfl
  simp only [Bool.false_eq_true, if_false, h2]
  grind
theorem prod_near {a b X Y e f : Rat} (h1 : a - X ≤ e) (h2 : X - a ≤ e) (h3 : b - Y ≤ f) (h4 : Y - b ≤ f) (x0 : 0 ≤ X) (x1 : X ≤ 1) (y0 : 0 ≤ Y) (y1 : Y ≤ 1) (e0 : 0 ≤ e) (f0 : 0 ≤ f) (f1 : f ≤ 1) : a * b - X * Y ≤ 2 * e + f ∧ X * Y - a * b ≤ 2 * e + f := by
  obtain ⟨p1, p2⟩ := abs_mul (u := a - X) (v := b) (e := e) (B := 2) (by grind) (by grind) (by grind) (by grind)
  obtain ⟨q1, q2⟩ := abs_mul (u := b - Y) (v := X) (e := f) (B := 1) (by grind) (by grind) (by grind) (by grind)
  have e2 : a * b = X * Y + (a - X) * b + (b - Y) * X := by grind
  rw [e2]
  generalize (a - X) * b = P at *
  generalize (b - Y) * X = Q at *
  constructor <;> grind
/-- What the law compares for a chain. -/
theorem JnG.chain {P Q : Nat} {A B C D : List Nat} {X Y : Rat} (h : JnG P Q A B C D X Y) :
    Num .f64 (fop .mul .f64 (wide (chS P A C)) (wide (chS Q B D))) ∧
    fv .f64 (wide (chS (P + Q) (chL (2 ^ P) A B) (C ++ D))) - fv .f64 (fop .mul .f64 (wide (chS P A C)) (wide (chS Q B D))) ≤ 6 / 10000 ∧
    fv .f64 (fop .mul .f64 (wide (chS P A C)) (wide (chS Q B D))) - fv .f64 (wide (chS (P + Q) (chL (2 ^ P) A B) (C ++ D))) ≤ 6 / 10000 := by
  obtain ⟨⟨nx, x2, x3⟩, ⟨ny, y2, y3⟩, x0, x1, y0, y1, ⟨nu, u2, u3⟩, -⟩ := h
  generalize chS (P + Q) (chL (2 ^ P) A B) (C ++ D) = u at *
  generalize chS P A C = x at *
  generalize chS Q B D = y at *
  obtain ⟨wx, vx⟩ := wide_val nx
  obtain ⟨wy, vy⟩ := wide_val ny
  obtain ⟨wu, vu⟩ := wide_val nu
  obtain ⟨p1, p2⟩ := prod_near (a := fv .f32 x) (b := fv .f32 y) (X := X) (Y := Y) (e := 1 / 10000) (f := 1 / 10000) (by grind) (by grind) (by grind) (by grind) x0 x1 y0 y1 (by grind) (by grind) (by grind)
  have xy0 := rmul_nn x0 y0
  have xy1 := rmul_le y1 x0
  have m := mul64 wx wy (by rw [vx, vy]; grind) (by rw [vx, vy]; grind)
  rw [vx, vy] at m
  obtain ⟨nm, l, r⟩ := m
  rw [vu]
  generalize fv .f32 x * fv .f32 y = M at *
  generalize X * Y = N at *
  exact ⟨nm, by grind, by grind⟩
/-- What the law compares for systems beside one another. -/
theorem JnG.beside {P Q : Nat} {A B C D : List Nat} {X Y : Rat} (h : JnG P Q A B C D X Y) :
    Num .f64 (fop .sub .f64 k1f (wide (chS P A C))) ∧ Num .f64 (fop .sub .f64 k1f (wide (chS Q B D))) ∧
    Num .f64 (fop .mul .f64 (fop .sub .f64 k1f (wide (chS P A C))) (fop .sub .f64 k1f (wide (chS Q B D)))) ∧
    Num .f64 (fop .sub .f64 k1f (fop .mul .f64 (fop .sub .f64 k1f (wide (chS P A C))) (fop .sub .f64 k1f (wide (chS Q B D))))) ∧
    fv .f64 (wide (chS (P + Q) (beL P A B) (C ++ D))) - fv .f64 (fop .sub .f64 k1f (fop .mul .f64 (fop .sub .f64 k1f (wide (chS P A C))) (fop .sub .f64 k1f (wide (chS Q B D))))) ≤ 6 / 10000 ∧
    fv .f64 (fop .sub .f64 k1f (fop .mul .f64 (fop .sub .f64 k1f (wide (chS P A C))) (fop .sub .f64 k1f (wide (chS Q B D))))) - fv .f64 (wide (chS (P + Q) (beL P A B) (C ++ D))) ≤ 6 / 10000 := by
  obtain ⟨⟨nx, x2, x3⟩, ⟨ny, y2, y3⟩, x0, x1, y0, y1, -, ⟨nu, u2, u3⟩⟩ := h
  generalize chS (P + Q) (beL P A B) (C ++ D) = u at *
  generalize chS P A C = x at *
  generalize chS Q B D = y at *
  obtain ⟨n1, v1⟩ := k1_val
  obtain ⟨wx, vx⟩ := wide_val nx
  obtain ⟨wy, vy⟩ := wide_val ny
  obtain ⟨wu, vu⟩ := wide_val nu
  obtain ⟨na, la, ra⟩ := sub64 n1 wx (by rw [v1, vx]; grind) (by rw [v1, vx]; grind)
  obtain ⟨nb, lb, rb⟩ := sub64 n1 wy (by rw [v1, vy]; grind) (by rw [v1, vy]; grind)
  rw [v1, vx] at la ra
  rw [v1, vy] at lb rb
  generalize fop .sub .f64 k1f (wide x) = a at *
  generalize fop .sub .f64 k1f (wide y) = b at *
  obtain ⟨p1, p2⟩ := prod_near (a := fv .f64 a) (b := fv .f64 b) (X := 1 - X) (Y := 1 - Y) (e := 2 / 10000) (f := 11 / 100000) (by grind) (by grind) (by grind) (by grind) (by grind) (by grind) (by grind) (by grind) (by grind) (by grind) (by grind)
  obtain ⟨p1, p2⟩ := prod_near (a := fv .f64 a) (b := fv .f64 b) (X := 1 - X) (Y := 1 - Y) (e := 101 / 1000000) (f := 101 / 1000000) (by grind) (by grind) (by grind) (by grind) (by grind) (by grind) (by grind) (by grind) (by grind) (by grind) (by grind)
  have xy0 := rmul_nn (show (0 : Rat) ≤ 1 - X by grind) (show (0 : Rat) ≤ 1 - Y by grind)
  have xy1 := rmul_le (show (1 : Rat) - Y ≤ 1 by grind) (show (0 : Rat) ≤ 1 - X by grind)
  rw [vu]
  have m := mul64 na nb (by grind) (by grind)
  obtain ⟨nm, l, r⟩ := m
  generalize fop .mul .f64 a b = m at *
  generalize fv .f64 a * fv .f64 b = M at *
  generalize (1 - X) * (1 - Y) = N at *
  obtain ⟨ns, ls, rs⟩ := sub64 n1 nm (by rw [v1]; grind) (by rw [v1]; grind)
  rw [v1] at ls rs
  generalize fop .sub .f64 k1f m = s at *
  exact ⟨na, nb, nm, ns, by grind, by grind⟩
/-! ### Votes and roads -/
def voteS (n v : Nat) : Bool := match voteO (n : Int) (v : Int) with
  | some (p, zs) => decide (p = (n : Int)) && (match wcO p zs with | some cs => decide (cs.length = n + 1) && (List.range (n + 1)).all fun k => decide ((0 < cs.getD k 0) ↔ v ≤ k) | none => false)
  | none => false
theorem vote_tab : ((List.range 5).all fun n => (List.range 5).all fun v => (n == 0 || v == 0 || decide (n < v)) || voteS n v) = true := by decide +kernel
theorem vote_val {n v : Nat} (h1 : 1 ≤ n) (h2 : n ≤ 4) (h3 : 1 ≤ v) (h4 : v ≤ n) : ∃ (zs cs : List Int), voteO (n : Int) (v : Int) = some ((n : Int), zs) ∧ wcO (n : Int) zs = some cs ∧ cs.length = n + 1 ∧ ∀ k, (h : k < cs.length) → decide (0 < cs[k]) = decide (v ≤ k) := by
  have h := vote_tab
  rw [List.all_eq_true] at h
  have h := h n (List.mem_range.2 (by omega))
  rw [List.all_eq_true] at h
  have h := h v (List.mem_range.2 (by omega))
  have e1 : (n == 0) = false := by simp; omega
  have e2 : (v == 0) = false := by simp; omega
  rw [e1, e2, decide_eq_false (by omega), Bool.false_or, Bool.false_or, Bool.false_or] at h
  unfold voteS at h
  split at h
  · rename_i p zs hv
    rw [Bool.and_eq_true, decide_eq_true_eq] at h
    obtain ⟨rfl, h⟩ := h
    split at h
    · rename_i cs hc
      rw [Bool.and_eq_true, decide_eq_true_eq, List.all_eq_true] at h
      obtain ⟨hl, h⟩ := h
      refine ⟨zs, cs, hv, hc, hl, fun k hk => ?_⟩
      have := h k (List.mem_range.2 (by omega))
      rw [decide_eq_true_eq, List.getD_eq_getElem?_getD, List.getElem?_eq_getElem hk] at this
      rw [Bool.eq_iff_iff, decide_eq_true_eq, decide_eq_true_eq]
      exact this
    · cases h
  · cases h
theorem least_one : leastN [1] = [1] := by
  unfold leastN
  have : setsOf 1048577 [1] = [1] := asc_ext (setsOf_asc _ _) (by simp) fun x => by rw [mem_setsOf (by simp)]
  rw [this, minL_of_anti (by decide)]
theorem one_tab : ((List.range 5).all fun n => (n == 0) || (goodI (n : Int) [1] && sysB (n : Int) (ups [1]))) = true := by decide +kernel
theorem one_sys {n : Nat} (h1 : 1 ≤ n) (h2 : n ≤ 4) : sysOfO (n : Int) [1] = some ((n : Int), ups [1]) := by
  have h := one_tab
  rw [List.all_eq_true] at h
  have h := h n (List.mem_range.2 (by omega))
  have e1 : (n == 0) = false := by simp; omega
  rw [e1, Bool.false_or, Bool.and_eq_true] at h
  unfold sysOfO sysO
  have e2 : downs [1] = [1] := rfl
  rw [h.1, e2, least_one, h.2]; rfl
theorem road_val : jcO 3 [0, 1, 1, 2, 0, 2] = some [0, 0, 3, 1] := by decide +kernel
theorem road_sys : roadO 3 [0, 1, 1, 2, 0, 2] = some (3, [3, 4]) := by decide +kernel
end Go.Proofs.Ytgmdoboeenpjpaa
/- Joined systems: the program's functions on them. Conditions: in the theorems. -/
namespace Go.Proofs.Ytgmdoboeenpjpaa
open Go Go.RowKit Go.ChangeShapes Go.WideShapes Go.ChangeAt

attribute [local irreducible] LX tw pop cntL
theorem b10AtOne_any (v : Value) (zs : List Int) (k : Nat) (w : World) (r : RdY w v zs) :
    Calls Try.prog 7 #[v, .int .i64 k, .int .i64 1] w fun e w' => e = .returned (.int .i64 0) ∧ w = w' := by
  obtain ⟨⟨-, a1, c1, rfl, p1, p2, -, -⟩, hz⟩ := r
  go_enter Try.func7, Try.ntmps7
  go_wp2_with fail
  go_ret
  exact ⟨rfl, rfl⟩
theorem b10AtAny_any (v : Value) (zs : List Int) (k n : Nat) (w : World) (r : RdY w v zs) (hn : 1 ≤ n) (hn2 : n ≤ 1000) (hk : k ≤ 1000) :
    Calls Try.prog 7 #[v, .int .i64 k, .int .i64 n] w fun e w' => ∃ x : Nat, x < n ∧ e = .returned (.int .i64 x) ∧ w = w' := by
  by_cases h : n = 1
  · subst h
    refine (b10AtOne_any v zs k w r).mono ?_
    rintro e w' ⟨rfl, rfl⟩
    exact ⟨0, by decide, rfl, rfl⟩
  · exact b10At_any v zs k n w r (by omega) hn2 hk
theorem areWorkers_any (k : Nat) (h1 : 1 ≤ k) (h8 : k ≤ 8) (w : World) : Calls Try.prog 68 #[.int .i64 k] w fun e w' => e = .returned (.bool true) ∧ w = w' := by
  have H := Lib.hid (within_eq (n := (k : Int)) (lo := 1) (hi := 8) (inB_true (by omega) (by omega)) w)
  go_enter Try.func68, Try.ntmps68
  go_wp2_with fail
  refine H.out.mono ?_
  rintro e w' ⟨rfl, rfl⟩
  go_wp2_with fail
  go_ret
  exact ⟨rfl, rfl⟩
set_option maxHeartbeats 4000000 in
theorem implChancesShared_any (v u : Value) (gs : List Sy) (C : List Nat) (t : Nat) (f : Sy → Nat) (w : World) (r : RdSy w v gs) (rb : RdF w u C) (ht : 1 ≤ t) (ht8 : t ≤ 8) (hg : gs.length ≤ 16)
    (hf : ∀ g ∈ gs, chanceO g.parts g.zs C = some (f g) ∧ Num .f32 (f g)) :
    Calls Try.prog 23 #[v, u, .int .i64 t] w fun e w' => ∃ g cap, e = .returned (.tuple #[.slice (some ⟨g, 0, none⟩) gs.length cap, .bool true]) ∧ Ext w w' ∧ RdF w' (.slice (some ⟨g, 0, none⟩) (gs.map f).length cap) (gs.map f) := by
  have r' := r
  obtain ⟨⟨-, a1, c1, rfl, -, -, -, -⟩, -⟩ := r
  have h16 : ¬ (16 : Int) < (gs.length : Int) := by omega
  have HF := Lib.hid hf
  have HW := Lib.hid (areWorkers_any t ht ht8 w)
  clear hf ht ht8
  go_enter Try.func23, Try.ntmps23
  go_wp2_with fail
  refine HW.out.mono ?_
  rintro e w1 ⟨rfl, rfl⟩
  go_wp2_with fail
  have own0 : (w.alloc (.cells #[] 31)).ownsRow w.heap.size 31 1 (.slice (some ⟨w.heap.size, 0, none⟩) 0 0) 0 [] := World.ownsRow_lit w #[] 0 (Nat.le_refl _) (by decide) rfl
  clear h16 HW
  go_loopw [24, 8] (fun i o wr => ∃ (k g cap : Nat) (xs : List Nat), k ≤ gs.length ∧ i = .int .i64 k ∧ Hid (xs.length = k) ∧ o = .slice (some ⟨g, 0, none⟩) xs.length cap ∧ Hid (xs = (gs.take k).map f ∧ ∀ x ∈ xs, x < 4294967296) ∧
      wr.ownsRow w.heap.size 31 1 (.slice (some ⟨g, 0, none⟩) xs.length cap) xs.length (xs.map (Value.float .f32)) ∧ Ext w wr) (fun i _ _ => gs.length - (intOf i).toNat)
  case atStart => exact ⟨0, w.heap.size, 0, [], Nat.zero_le _, rfl, rfl, rfl, ⟨rfl, fun x hx => by cases hx⟩, own0, Ext.alloc _ _⟩
  case round =>
    clear own0
    obtain ⟨k, g, cap, xs, hk, rfl, hxk, rfl, HX, own, X⟩ := hrel
    by_cases hlt : k < gs.length
    · have hki : (k : Int) < (gs.length : Int) := by omega
      obtain ⟨bb, oo, rfl, hbb, m0, m1⟩ := (r'.ext X).at hlt
      have hok : RdI _ gs[k].kv gs[k].zs := (r'.ext X).2 _ (List.getElem_mem hlt)
      have HFK := Lib.hid (HF.out _ (List.getElem_mem hlt))
      have HTK : Hid ((gs.take (k + 1)).map f = (gs.take k).map f ++ [f gs[k]]) := by show _ = _; rw [List.take_succ_eq_append_getElem hlt, List.map_append]; rfl
      generalize gs[k] = sy at *
      obtain ⟨pt, kv, zs⟩ := sy
      simp only at *
      generalize f ⟨pt, kv, zs⟩ = y at *
      have hok' := hok
      obtain ⟨-, a3, c3, rfl, -, -, -, -⟩ := hok'
      have RI := Lib.hid (RdI.ext hok (Ext.alloc wr (.cells #[.int .i64 pt, .slice a3 zs.length c3] 27)))
      have RB := Lib.hid ((rb.ext X).ext (Ext.alloc wr (.cells #[.int .i64 pt, .slice a3 zs.length c3] 27)))
      have bx : Bx (wr.alloc (.cells #[.int .i64 pt, .slice a3 zs.length c3] 27)) wr.heap.size [.int .i64 pt, .slice a3 zs.length c3] := Bx.new _ _ _
      obtain ⟨k0, k1⟩ := bx.two
      have hq := bx.1
      clear hok bx
      go_wp2_with fail
      refine (implChanceOf_any pt _ _ zs C _ RI.out RB.out).mono ?_
      intro e w2 h2
      obtain ⟨rfl, X2, hy32⟩ := nm_num2 h2 HFK.out.1 HFK.out.2
      have X3 : Ext wr w2 := (Ext.alloc _ _).trans X2
      have own2 := own_ext own X3
      have HY : Hid (y < 4294967296) := hy32
      clear h2 own k0 k1 hq m0 m1 hy32 RI RB
      have hsz2 : w.heap.size ≤ w2.heap.size := (X.trans X3).size
      go_wp2_with (first | (at_builtin; refine wpList_push infoF32 rfl Try.underlying29 rfl rfl rfl (World.ownsRow.alloc (w := _) own2 _) rfl (Bx.new _ [_] _).one rfl (by have := hxk.out; omega) (by decide) (Nat.le_trans hsz2 (Ext.alloc _ _).size) ?_; intro g2 cap2 w4 hg2 own4 bel4 sz4))
      go_roundw
      case rel =>
        refine ⟨k + 1, g2, cap2, xs ++ [y], by omega, by go_num, (by show _ = _; rw [List.length_append, hxk.out]; rfl), by simp, ⟨?_, ?_⟩, by rw [List.map_append, List.length_append]; exact own4, bel4 w ((X.trans X3).trans (Ext.alloc _ _))⟩
        · rw [HX.out.1, HTK.out]
        · intro x hx
          rcases List.mem_append.1 hx with hx | hx
          · exact HX.out.2 x hx
          · obtain rfl := List.mem_singleton.1 hx; exact HY.out
      case measure => simp [intOf]; omega
    · have hkl : k = gs.length := by omega
      have e1 : xs = gs.map f := by rw [HX.out.1, hkl, List.take_length]
      have HB := Lib.hid HX.out.2
      have hxl : Hid (xs.length = gs.length) := by show _ = _; rw [hxk.out, hkl]
      clear HX HF hkl
      go_wp2_with fail
      go_ret2
      refine ⟨g, cap, by rw [← hxl.out]; rfl, X, ?_⟩
      rw [← e1]
      exact ⟨own_rd own, HB.out⟩
/-! ### Values -/
theorem jn_ok {P : Nat} {ns C : List Nat} {x : Nat} (hsys : sysB (P : Int) (ups ns) = true) (hC : Shs C) (hl : C.length = P) (hx : chS P ns C = x) : chanceO (P : Int) (ups ns) C = some x := by rw [ch_x hsys hC hl, hx]
theorem chanceI_val {P : Nat} {ns C : List Nat} (hsys : sysB (P : Int) (ups ns) = true) (hP8 : P ≤ 8) (hC : Shs C) (hl : C.length = P) (W : World) (v u : Value) (r : RdI W v (ups ns)) (rb : RdF W u C) :
    Calls Try.prog 10 #[.agg #[.int .i64 P, v], u] W fun e w' => e = .returned (.tuple #[.float .f32 (chS P ns C), .bool true]) ∧ Ext W w' ∧ chS P ns C < 4294967296 :=
  (implChanceOf_any (P : Int) v u (ups ns) C W r rb).mono fun _ _ h => nm_num2 h (ch_x hsys hC hl) (chS_near8 hP8 (shr_of hC hl)).1
theorem chanceS_val {P : Nat} {ns C : List Nat} (hsys : sysB (P : Int) (ups ns) = true) (hP8 : P ≤ 8) (hC : Shs C) (hl : C.length = P) (W : World) (v u : Value) (r : RdI W v (ups ns)) (rb : RdF W u C) :
    Calls Try.prog 22 #[.agg #[.int .i64 P, v], u] W fun e w' => e = .returned (.tuple #[.float .f32 (chS P ns C), .bool true]) ∧ Ext W w' ∧ chS P ns C < 4294967296 :=
  (specChanceOf_any (P : Int) v u (ups ns) C W r rb).mono fun _ _ h => nm_num2 h (ch_x hsys hC hl) (chS_near8 hP8 (shr_of hC hl)).1
theorem chainI_val {P Q : Nat} {A B : List Nat} (W : World) (v u : Value) (r : RdI W v (ups A)) (rb : RdI W u (ups B)) (h : serO (P : Int) (Q : Int) (ups A) (ups B) = none) :
    Calls Try.prog 19 #[.agg #[.int .i64 P, v], .agg #[.int .i64 Q, u]] W fun e w' => e = .returned (.tuple #[.agg #[.int .i64 0, .slice none 0 0], .bool false]) ∧ Ext W w' := by
  refine (implChainSystems_any (P : Int) (Q : Int) v u (ups A) (ups B) W r rb).mono fun e w' k => ?_
  rw [h] at k
  exact ⟨k.2, k.1⟩
theorem chainI_val' {P Q R : Nat} {A B L : List Nat} (W : World) (v u : Value) (r : RdI W v (ups A)) (rb : RdI W u (ups B)) (h : serO (P : Int) (Q : Int) (ups A) (ups B) = some ((R : Int), ups L)) :
    Calls Try.prog 19 #[.agg #[.int .i64 P, v], .agg #[.int .i64 Q, u]] W fun e w' => ∃ g cap, e = .returned (.tuple #[.agg #[.int .i64 R, .slice (some ⟨g, 0, none⟩) L.length cap], .bool true]) ∧ Ext W w' ∧ RdI w' (.slice (some ⟨g, 0, none⟩) L.length cap) (ups L) := by
  refine (implChainSystems_any (P : Int) (Q : Int) v u (ups A) (ups B) W r rb).mono fun e w' k => ?_
  rw [h] at k
  obtain ⟨X, g, cap, rfl, own⟩ := k
  have := own_rd own
  refine ⟨g, cap, by rw [ups_len], X, ?_⟩
  unfold RdI
  rw [ups_len] at this ⊢
  exact this
theorem chainS_val {P Q : Nat} {A B : List Nat} (W : World) (v u : Value) (r : RdI W v (ups A)) (rb : RdI W u (ups B)) (h : serO (P : Int) (Q : Int) (ups A) (ups B) = none) :
    Calls Try.prog 20 #[.agg #[.int .i64 P, v], .agg #[.int .i64 Q, u]] W fun e w' => e = .returned (.tuple #[.agg #[.int .i64 0, .slice none 0 0], .bool false]) ∧ Ext W w' := by
  refine (specChainSystems_any (P : Int) (Q : Int) v u (ups A) (ups B) W r rb).mono fun e w' k => ?_
  rw [h] at k
  exact ⟨k.2, k.1⟩
theorem chainS_val' {P Q R : Nat} {A B L : List Nat} (W : World) (v u : Value) (r : RdI W v (ups A)) (rb : RdI W u (ups B)) (h : serO (P : Int) (Q : Int) (ups A) (ups B) = some ((R : Int), ups L)) :
    Calls Try.prog 20 #[.agg #[.int .i64 P, v], .agg #[.int .i64 Q, u]] W fun e w' => ∃ g cap, e = .returned (.tuple #[.agg #[.int .i64 R, .slice (some ⟨g, 0, none⟩) L.length cap], .bool true]) ∧ Ext W w' ∧ RdI w' (.slice (some ⟨g, 0, none⟩) L.length cap) (ups L) := by
  refine (specChainSystems_any (P : Int) (Q : Int) v u (ups A) (ups B) W r rb).mono fun e w' k => ?_
  rw [h] at k
  obtain ⟨X, g, cap, rfl, own⟩ := k
  have := own_rd own
  refine ⟨g, cap, by rw [ups_len], X, ?_⟩
  unfold RdI
  rw [ups_len] at this ⊢
  exact this
theorem ys_val {o : Option (Int × List Int)} {p : Int} {zs : List Int} {w w' : World} {e : Ending} (h : YsPost o w e w') (ho : o = some (p, zs)) :
    ∃ g cap, e = .returned (.tuple #[.agg #[.int .i64 p, .slice (some ⟨g, 0, none⟩) zs.length cap], .bool true]) ∧ Ext w w' ∧ RdI w' (.slice (some ⟨g, 0, none⟩) zs.length cap) zs := by
  subst ho
  obtain ⟨X, g, cap, rfl, own⟩ := h
  exact ⟨g, cap, rfl, X, own_rd own⟩
theorem zl_val {o : Option (List Int)} {zs : List Int} {w w' : World} {e : Ending} (h : ZlPost o w e w') (ho : o = some zs) :
    ∃ g cap, e = .returned (.tuple #[.slice (some ⟨g, 0, none⟩) zs.length cap, .bool true]) ∧ Ext w w' ∧ RdI w' (.slice (some ⟨g, 0, none⟩) zs.length cap) zs := by
  subst ho
  obtain ⟨X, g, cap, rfl, own⟩ := h
  exact ⟨g, cap, rfl, X, own_rd own⟩
theorem JnG.gapChain {P Q : Nat} {A B C D : List Nat} {X Y : Rat} (h : JnG P Q A B C D X Y) : ∀ W, Calls Try.prog 13 #[.float .f64 (wide (chS (P + Q) (chL (2 ^ P) A B) (C ++ D))), .float .f64 (fop .mul .f64 (wide (chS P A C)) (wide (chS Q B D)))] W fun e w' => ∃ z, e = .returned (.float .f64 z) ∧ fcmp .gtr .f64 (cn .f64 z) (cn .f64 k001) = false ∧ Ext W w' := by
  intro W
  obtain ⟨n, g1, g2⟩ := h.chain
  refine (b10Gap_num _ _ (6 / 10000) W (wide_val h.ch.1).1 n g1 g2 (by decide +kernel)).mono ?_
  rintro e w' ⟨z, rfl, ⟨nz, hz⟩, X⟩
  exact ⟨z, rfl, (cmp_gap nz (Rat.le_trans hz (by decide +kernel))).1, X⟩
theorem JnG.gapBeside {P Q : Nat} {A B C D : List Nat} {X Y : Rat} (h : JnG P Q A B C D X Y) : ∀ W, Calls Try.prog 13 #[.float .f64 (wide (chS (P + Q) (beL P A B) (C ++ D))), .float .f64 (fop .sub .f64 k1f (fop .mul .f64 (fop .sub .f64 k1f (wide (chS P A C))) (fop .sub .f64 k1f (wide (chS Q B D)))))] W fun e w' => ∃ z, e = .returned (.float .f64 z) ∧ fcmp .gtr .f64 (cn .f64 z) (cn .f64 k001) = false ∧ Ext W w' := by
  intro W
  obtain ⟨-, -, -, n, g1, g2⟩ := h.beside
  refine (b10Gap_num _ _ (6 / 10000) W (wide_val h.be.1).1 n g1 g2 (by decide +kernel)).mono ?_
  rintro e w' ⟨z, rfl, ⟨nz, hz⟩, X⟩
  exact ⟨z, rfl, (cmp_gap nz (Rat.le_trans hz (by decide +kernel))).1, X⟩
/-- Two chances that are alike, in a list that can be read. -/
def ShW (z : Nat) (v : Value) (w : World) : Prop := ∃ g cap, v = .tuple #[.slice (some ⟨g, 0, none⟩) 2 cap, .bool true] ∧ RdF w (.slice (some ⟨g, 0, none⟩) 2 cap) [z, z]
theorem ShW.st (z : Nat) (v : Value) : St (ShW z v) := fun _ _ ⟨g, cap, e, r⟩ hx => ⟨g, cap, e, r.ext hx⟩
theorem ShW.rd {z g cap : Nat} {w : World} (h : ShW z (.tuple #[.slice (some ⟨g, 0, none⟩) 2 cap, .bool true]) w) : RdF w (.slice (some ⟨g, 0, none⟩) 2 cap) [z, z] := by
  obtain ⟨g', cap', e, r⟩ := h
  simp at e
  obtain ⟨rfl, rfl⟩ := e
  exact r
theorem two_sy {w0 w : World} {S : Int} {v : Value} {zs : List Int} {t : TypeId} {b : Nat} (h : NewS w0 [.int .i64 S, v, .int .i64 S, v] t 2 (.slice (some ⟨b, 0, none⟩) 2 2) w) (r : RdI w v zs) :
    RdSy w (.slice (some ⟨b, 0, none⟩) 2 2) [⟨S, v, zs⟩, ⟨S, v, zs⟩] := by
  have bx := h.bx
  refine ⟨⟨rfl, some ⟨b, 0, none⟩, 2, rfl, Nat.le_refl _, by decide, (fun e => by cases e), fun p hp j hj => ?_⟩, fun g hg => ?_⟩
  · cases hp
    refine ⟨rfl, bx.1, ?_⟩
    rw [Nat.zero_add]
    exact bx.2 j hj
  · simp only [List.mem_cons, List.not_mem_nil, or_false, or_self] at hg
    subst hg
    exact r
/-- Whether one behind the other makes a valid system. -/
def serB (P Q : Nat) (A B : List Nat) : Bool := (serO (P : Int) (Q : Int) (ups A) (ups B)).isSome
theorem chainI_two {P Q S : Nat} {A B : List Nat} (hS : S = P + Q) (hA : sysB (P : Int) (ups A) = true) (hB : sysB (Q : Int) (ups B) = true) (W : World) (v u : Value) (r : RdI W v (ups A)) (rb : RdI W u (ups B)) :
    Calls Try.prog 19 #[.agg #[.int .i64 P, v], .agg #[.int .i64 Q, u]] W fun e w' => ∃ (R : Int) (a : Option Addr) (n cap : Nat), e = .returned (.tuple #[.agg #[.int .i64 R, .slice a n cap], .bool (serB P Q A B)]) ∧ Ext W w' ∧
      (serB P Q A B = true → R = (S : Int) ∧ RdI w' (.slice a n cap) (ups (chL (2 ^ P) A B)) ∧ sysB (S : Int) (ups (chL (2 ^ P) A B)) = true) := by
  subst hS
  rcases ser_two hA hB with h | ⟨h, hs⟩
  · have e : serB P Q A B = false := by unfold serB; rw [h]; rfl
    rw [e]
    refine (chainI_val W v u r rb h).mono ?_
    rintro e w' ⟨rfl, X⟩
    exact ⟨0, none, 0, 0, rfl, X, fun h => by cases h⟩
  · have e : serB P Q A B = true := by unfold serB; rw [h]; rfl
    rw [e]
    refine (chainI_val' W v u r rb h).mono ?_
    rintro e w' ⟨g, cap, rfl, X, rd⟩
    exact ⟨_, _, _, _, rfl, X, fun _ => ⟨rfl, rd, hs⟩⟩
theorem chainS_two {P Q S : Nat} {A B : List Nat} (hS : S = P + Q) (hA : sysB (P : Int) (ups A) = true) (hB : sysB (Q : Int) (ups B) = true) (W : World) (v u : Value) (r : RdI W v (ups A)) (rb : RdI W u (ups B)) :
    Calls Try.prog 20 #[.agg #[.int .i64 P, v], .agg #[.int .i64 Q, u]] W fun e w' => ∃ (R : Int) (a : Option Addr) (n cap : Nat), e = .returned (.tuple #[.agg #[.int .i64 R, .slice a n cap], .bool (serB P Q A B)]) ∧ Ext W w' ∧
      (serB P Q A B = true → R = (S : Int) ∧ RdI w' (.slice a n cap) (ups (chL (2 ^ P) A B)) ∧ sysB (S : Int) (ups (chL (2 ^ P) A B)) = true) := by
  subst hS
  rcases ser_two hA hB with h | ⟨h, hs⟩
  · have e : serB P Q A B = false := by unfold serB; rw [h]; rfl
    rw [e]
    refine (chainS_val W v u r rb h).mono ?_
    rintro e w' ⟨rfl, X⟩
    exact ⟨0, none, 0, 0, rfl, X, fun h => by cases h⟩
  · have e : serB P Q A B = true := by unfold serB; rw [h]; rfl
    rw [e]
    refine (chainS_val' W v u r rb h).mono ?_
    rintro e w' ⟨g, cap, rfl, X, rd⟩
    exact ⟨_, _, _, _, rfl, X, fun _ => ⟨rfl, rd, hs⟩⟩
theorem beside_val {P Q S : Nat} {A B : List Nat} (hS : S = P + Q) (hA : sysB (P : Int) (ups A) = true) (hB : sysB (Q : Int) (ups B) = true) (hP : P ≤ 4) (hQ : Q ≤ 4) (W : World) (v u : Value) (r : RdI W v (ups A)) (rb : RdI W u (ups B)) :
    Calls Try.prog 21 #[.agg #[.int .i64 P, v], .agg #[.int .i64 Q, u]] W fun e w' => ∃ g cap, e = .returned (.tuple #[.agg #[.int .i64 S, .slice (some ⟨g, 0, none⟩) (beL P A B).length cap], .bool true]) ∧ Ext W w' ∧ RdI w' (.slice (some ⟨g, 0, none⟩) (beL P A B).length cap) (ups (beL P A B)) := by
  subst hS
  refine (implBesideSystems_any (P : Int) (Q : Int) v u (ups A) (ups B) W r rb).mono fun e w' k => ?_
  obtain ⟨g, cap, rfl, X, rd⟩ := ys_val k (be_some hA hB hP hQ)
  rw [ups_len] at rd ⊢
  exact ⟨g, cap, rfl, X, rd⟩
/-- All that the law compares. -/
theorem jn_all {P Q S : Nat} {A B C D : List Nat} (hS : S = P + Q) (hA : sysB (P : Int) (ups A) = true) (hB : sysB (Q : Int) (ups B) = true) (hP : P ≤ 4) (hQ : Q ≤ 4) (hC : Shs C) (hD : Shs D) (hcl : C.length = P) (hdl : D.length = Q) :
    (Num .f32 (chS P A C) ∧ Num .f32 (chS Q B D) ∧ Num .f32 (chS S (chL (2 ^ P) A B) (C ++ D)) ∧ Num .f32 (chS S (beL P A B) (C ++ D))) ∧
    Num .f64 (fop .mul .f64 (wide (chS P A C)) (wide (chS Q B D))) ∧
    (Num .f64 (fop .sub .f64 k1f (wide (chS P A C))) ∧ Num .f64 (fop .sub .f64 k1f (wide (chS Q B D))) ∧
    Num .f64 (fop .mul .f64 (fop .sub .f64 k1f (wide (chS P A C))) (fop .sub .f64 k1f (wide (chS Q B D)))) ∧
    Num .f64 (fop .sub .f64 k1f (fop .mul .f64 (fop .sub .f64 k1f (wide (chS P A C))) (fop .sub .f64 k1f (wide (chS Q B D)))))) ∧
    (∀ W, Calls Try.prog 13 #[.float .f64 (wide (chS S (chL (2 ^ P) A B) (C ++ D))), .float .f64 (fop .mul .f64 (wide (chS P A C)) (wide (chS Q B D)))] W fun e w' => ∃ z, e = .returned (.float .f64 z) ∧ fcmp .gtr .f64 (cn .f64 z) (cn .f64 k001) = false ∧ Ext W w') ∧
    (∀ W, Calls Try.prog 13 #[.float .f64 (wide (chS S (beL P A B) (C ++ D))), .float .f64 (fop .sub .f64 k1f (fop .mul .f64 (fop .sub .f64 k1f (wide (chS P A C))) (fop .sub .f64 k1f (wide (chS Q B D)))))] W fun e w' => ∃ z, e = .returned (.float .f64 z) ∧ fcmp .gtr .f64 (cn .f64 z) (cn .f64 k001) = false ∧ Ext W w') := by
  subst hS
  obtain ⟨X, Y, h⟩ := jn_good hA hB hP hQ hC hD hcl hdl
  obtain ⟨b1, b2, b3, b4, -, -⟩ := h.beside
  exact ⟨⟨h.x.1, h.y.1, h.ch.1, h.be.1⟩, h.chain.1, ⟨b1, b2, b3, b4⟩, h.gapChain, h.gapBeside⟩
end Go.Proofs.Ytgmdoboeenpjpaa
