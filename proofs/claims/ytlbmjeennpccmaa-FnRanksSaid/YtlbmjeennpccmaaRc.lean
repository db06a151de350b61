
/- The sum of ranks: what the program computes of two groups of lives, and what two such sums come to. Condition: valid lives. -/
import Derived.Test.YtlbmjeennpccmaaTe
import Derived.Test.YtlbmjeennpccmaaTf
import Derived.Test.YtlbmjeennpccmaaRh
namespace Go.Proofs.Ytlbmjeennpccmaa
open Go Go.RowKit Go.ChangeShapes Go.WideShapes Go.ChangeAt

attribute [local go_sem] run_store_float
attribute [local irreducible] LX
/-- How far y lies before x: 2 before it, 1 beside it. -/
def cL (x y : Lf) : Nat := if y.1 < x.1 then 2 else if y.1 = x.1 then 1 else 0
def rankL (ab : List Lf) (x : Lf) : Nat := 1 + (ab.map (cL x)).sum
def rsum (a b : List Lf) : Nat := (a.map (rankL (a ++ b))).sum
theorem cL_le (x y : Lf) : cL x y ≤ 2 := by unfold cL; split <;> (try split) <;> omega
theorem cL_two (x y : Lf) : cL x y + cL y x = 2 := by unfold cL; split <;> split <;> (try split) <;> (try split) <;> omega
theorem sum_map_le (f : Lf → Nat) (n : Nat) (h : ∀ y, f y ≤ n) : ∀ l : List Lf, (l.map f).sum ≤ n * l.length
  | [] => by simp
  | x :: l => by have := sum_map_le f n h l; have := h x; simp only [List.map_cons, List.sum_cons, List.length_cons, Nat.mul_add]; omega
theorem sum_map_add (f g : Lf → Nat) : ∀ l : List Lf, (l.map fun y => f y + g y).sum = (l.map f).sum + (l.map g).sum
  | [] => rfl
  | x :: l => by simp only [List.map_cons, List.sum_cons, sum_map_add f g l]; omega
theorem sum_map_const (n : Nat) : ∀ l : List Lf, (l.map fun _ => n).sum = n * l.length
  | [] => rfl
  | x :: l => by simp only [List.map_cons, List.sum_cons, List.length_cons, Nat.mul_add, sum_map_const n l]; omega
theorem sum_map_congr {f g : Lf → Nat} : ∀ {l : List Lf}, (∀ y ∈ l, f y = g y) → (l.map f).sum = (l.map g).sum
  | [], _ => rfl
  | x :: l, h => by simp only [List.map_cons, List.sum_cons, sum_map_congr (l := l) fun y hy => h y (List.mem_cons_of_mem _ hy), h x (by simp)]
/-- What lies before, told from both sides. -/
def two (a b : List Lf) : Nat := (a.map fun x => (b.map (cL x)).sum).sum
theorem two_cons (x : Lf) (a b : List Lf) : two (x :: a) b = (b.map (cL x)).sum + two a b := by simp [two]
theorem two_swap : ∀ (a b : List Lf), two a b + two b a = 2 * a.length * b.length
  | [], b => by
    have : two b [] = 0 := by unfold two; simp [List.map_const', List.sum_replicate_nat]
    rw [this]; simp [two]
  | x :: a, b => by
    have h1 := two_swap a b
    have h2 : two b (x :: a) = (b.map fun y => cL y x).sum + two b a := by
      unfold two
      rw [← sum_map_add]
      apply sum_map_congr
      intro y _
      simp
    have h3 : (b.map (cL x)).sum + (b.map fun y => cL y x).sum = 2 * b.length := by
      rw [← sum_map_add, ← sum_map_const 2 b]
      apply sum_map_congr
      intro y _
      exact cL_two x y
    rw [two_cons, h2, List.length_cons]
    have : 2 * (a.length + 1) * b.length = 2 * a.length * b.length + 2 * b.length := by rw [Nat.mul_add, Nat.add_mul]
    omega
theorem two_self (a : List Lf) : two a a = a.length * a.length := by have := two_swap a a; rw [Nat.mul_assoc] at this; omega
theorem rsum_two (a b : List Lf) : rsum a b = a.length + two a a + two a b := by
  unfold rsum rankL two
  rw [sum_map_add (fun _ => 1), sum_map_const, Nat.one_mul]
  have : (a.map fun x => ((a ++ b).map (cL x)).sum).sum = (a.map fun x => (a.map (cL x)).sum).sum + (a.map fun x => (b.map (cL x)).sum).sum := by
    rw [← sum_map_add]
    apply sum_map_congr
    intro x _
    rw [List.map_append, List.sum_append]
  rw [this]; omega
theorem rsum_all (a b : List Lf) : rsum a b + rsum b a = (a.length + b.length) * (a.length + b.length + 1) := by
  rw [rsum_two, rsum_two, two_self, two_self]
  have h := two_swap a b
  have e : (a.length + b.length) * (a.length + b.length + 1) = a.length * a.length + 2 * a.length * b.length + b.length * b.length + a.length + b.length := by
    rw [Nat.mul_add, Nat.add_mul, Nat.mul_add, Nat.mul_add, Nat.mul_one, Nat.mul_comm b.length a.length, Nat.mul_assoc 2]; omega
  omega
theorem rsum_least (a b : List Lf) : a.length * (a.length + 1) ≤ rsum a b := by
  rw [rsum_two, two_self, Nat.mul_add, Nat.mul_one]; omega
theorem rsum_le (a b : List Lf) : rsum a b ≤ a.length * (1 + 2 * (a.length + b.length)) := by
  unfold rsum
  have h : ∀ x, rankL (a ++ b) x ≤ 1 + 2 * (a.length + b.length) := fun x => by
    unfold rankL
    have := sum_map_le (cL x) 2 (cL_le x) (a ++ b)
    rw [List.length_append] at this
    omega
  have := sum_map_le (rankL (a ++ b)) _ h a
  rw [Nat.mul_comm] at this
  exact this
theorem sum_take_succ (f : Lf → Nat) {l : List Lf} {k : Nat} (h : k < l.length) : ((l.take (k + 1)).map f).sum = ((l.take k).map f).sum + f l[k] := by
  rw [List.take_add_one, List.getElem?_eq_getElem h, List.map_append, List.sum_append]; simp

/-- The ranks of the first k, the places before x among the first j. -/
def raK (ab la : List Lf) (k : Nat) : Nat := ((la.take k).map (rankL ab)).sum
def raJ (ab : List Lf) (x : Lf) (j : Nat) : Nat := 1 + ((ab.take j).map (cL x)).sum
set_option maxRecDepth 100000 in
set_option maxHeartbeats 8000000 in
theorem rankSumOf_any (va vb : Value) (la lb : List Lf) (w : World) (ra : RdL w va la) (rb : RdL w vb lb) (h : livesB la = true) (h2 : livesB lb = true) :
    Calls Try.prog 31 #[va, vb] w fun e w' => e = .returned (.tuple #[.int .i64 (rsum la lb : Nat), .bool true]) ∧ Ext w w' := by
  have HA := Lib.hid (areLives_any va la w ra)
  have HB := Lib.hid (fun W r => areLives_any vb lb W r)
  have hla := livesB_len h
  have hlb := livesB_len h2
  have hok := lives_append h h2 ra.2 rb.2
  have hll : (la ++ lb).length = la.length + lb.length := List.length_append
  have h32 : Hid (∀ x ∈ la ++ lb, x.1 < 4294967296) := fun x hx => (List.mem_append.1 hx).elim (ra.2 x) (rb.2 x)
  have HOK := Lib.hid hok
  have HMA : Hid (∀ x ∈ la, okL x) := fun x hx => hok x (List.mem_append_left _ hx)
  have HSUM : Hid (rsum la lb = raK (la ++ lb) la la.length) := by show _ = _; unfold raK; rw [List.take_length]; rfl
  have HST : Hid (∀ k (h : k < la.length), raK (la ++ lb) la (k + 1) = raK (la ++ lb) la k + raJ (la ++ lb) la[k] (la ++ lb).length) := fun k h => by unfold raK raJ; rw [List.take_length]; exact sum_take_succ _ h
  have HBD : Hid (∀ k, k ≤ 48 → raK (la ++ lb) la k ≤ 200 * k) := by
    intro k hk
    unfold raK
    have h : ∀ x, rankL (la ++ lb) x ≤ 200 := fun x => by
      unfold rankL
      have := sum_map_le (cL x) 2 (cL_le x) (la ++ lb)
      omega
    have h1 := sum_map_le (rankL (la ++ lb)) 200 h (la.take k)
    rw [List.length_take] at h1
    exact Nat.le_trans h1 (Nat.mul_le_mul_left _ (by omega))
  have ra' := ra
  have rb' := rb
  rw [h] at HA
  rw [h2] at HB
  clear h h2 hok
  generalize hab : la ++ lb = ab at *
  replace hab := Lib.hid hab
  have habl : ab.length ≤ 96 := by omega
  clear hll
  obtain ⟨⟨-, a1, c1, rfl, -, -, -, -⟩, -⟩ := ra
  obtain ⟨⟨-, a2, c2, rfl, -, -, -, -⟩, -⟩ := rb
  go_enter Try.func31, Try.ntmps31
  go_wp2_with fail
  refine HA.out.mono ?_
  rintro e w1 ⟨rfl, X0⟩
  go_wp2_with fail
  refine (HB.out _ (rb'.ext X0)).mono ?_
  rintro e w2 ⟨rfl, X1⟩
  replace X0 := X0.trans X1
  replace ra' := ra'.ext X0
  replace rb' := rb'.ext X0
  clear X1
  go_wp2_with fail
  go_loopw [22, 6] (fun i s wr => ∃ (k : Nat), k ≤ la.length ∧ i = .int .i64 k ∧ s = .int .i64 ((raK ab la k : Nat) : Int) ∧ Ext w2 wr) (fun i _ _ => la.length - (intOf i).toNat)
  case atStart => exact ⟨0, Nat.zero_le _, rfl, rfl, Ext.refl _⟩
  case round =>
    obtain ⟨k, hk, rfl, rfl, X2⟩ := hrel
    by_cases hlt : k < la.length
    · obtain ⟨b1, o1, rfl, hb1, hc1, hd1⟩ := (ra'.ext X2).at hlt
      have HS := Lib.hid (HST.out k hlt)
      have HBK := Lib.hid (HBD.out k (by omega))
      have HXK : Hid (okL la[k]) := HMA.out _ (List.getElem_mem hlt)
      generalize la[k] = x at *
      obtain ⟨xa, xb⟩ := x
      go_wp2_with fail
      have XW : Ext w2 (wr.alloc (.cells #[.float .f32 xa, .bool xb] 61)) := X2.trans (Ext.alloc _ _)
      have bx : Bx (wr.alloc (.cells #[.float .f32 xa, .bool xb] 61)) wr.heap.size [.float .f32 xa, .bool xb] := Bx.new _ _ _
      have hsz : (wr.alloc (.cells #[.float .f32 xa, .bool xb] 61)).heap.size = wr.heap.size + 1 := by simp
      have BX : Bx ((wr.alloc (.cells #[.float .f32 xa, .bool xb] 61)).alloc (.cells #[.slice (some ⟨b1, o1, none⟩) la.length c1, .slice a2 lb.length c2] 27)) (wr.heap.size + 1) [.slice (some ⟨b1, o1, none⟩) la.length c1, .slice a2 lb.length c2] := by
        rw [← hsz]; exact Bx.new _ _ _
      generalize wr.alloc (.cells #[.float .f32 xa, .bool xb] 61) = W1 at *
      have XA : Ext W1 (W1.alloc (.cells #[.slice (some ⟨b1, o1, none⟩) la.length c1, .slice a2 lb.length c2] 27)) := Ext.alloc _ _
      generalize W1.alloc (.cells #[.slice (some ⟨b1, o1, none⟩) la.length c1, .slice a2 lb.length c2] 27) = W at *
      generalize wr.heap.size = p1 at *
      clear hsz
      refine (concatL_eq _ _ la lb ab hab.out (p1 + 1) 2 W (ra'.ext (XW.trans XA)) (rb'.ext (XW.trans XA)) BX hla.1 hlb.1 (by omega) (by omega)).mono ?_
      rintro e w3 ⟨gb, cb, rfl, ownb, X3⟩
      have RB := ownb.rd h32.out
      have hx3 := XA.trans X3
      replace bx := bx.ext hx3
      replace XW := XW.trans hx3
      clear ownb X3 XA BX hx3 hc1 hd1 hb1 X2
      go_wp2_with fail
      go_loopw [31, 9] (fun i s wq => ∃ (j : Nat), j ≤ ab.length ∧ i = .int .i64 j ∧ s = .int .i64 ((raJ ab (xa, xb) j : Nat) : Int) ∧ Ext w3 wq) (fun i _ _ => ab.length - (intOf i).toNat)
      case atStart => exact ⟨0, Nat.zero_le _, rfl, rfl, Ext.refl _⟩
      case round =>
        obtain ⟨j, hj, rfl, rfl, X4⟩ := hrel
        by_cases hjt : j < ab.length
        · obtain ⟨b2, o2, hbo, hb2, hc2, hd2⟩ := (RB.ext X4).at hjt
          obtain ⟨rfl, rfl⟩ : gb = b2 ∧ 0 = o2 := by simpa using hbo
          rw [Nat.zero_add] at hc2 hd2
          have HJ : Hid (raJ ab (xa, xb) (j + 1) = raJ ab (xa, xb) j + cL (xa, xb) ab[j]) := by show _ = _; unfold raJ; rw [sum_take_succ _ hjt]; omega
          have HYJ : Hid (okL ab[j]) := HOK.out _ (List.getElem_mem hjt)
          have hjb : raJ ab (xa, xb) j ≤ 1 + 2 * j := by
            unfold raJ
            have := sum_map_le (cL (xa, xb)) 2 (cL_le _) (ab.take j)
            rw [List.length_take] at this
            omega
          generalize ab[j] = y at *
          obtain ⟨ya, yb⟩ := y
          have hcm := pos_cmp (show posW ya from HYJ.out) (show posW xa from HXK.out)
          have hce : fcmp .eql .f32 (cn .f32 ya) (cn .f32 xa) = decide (ya = xa) := by
            have h := hcm.1
            have e : fcmp .eql .f32 (cn .f32 ya) (cn .f32 xa) = !fcmp .neq .f32 (cn .f32 ya) (cn .f32 xa) := by unfold fcmp; simp [bne]
            rw [e, h]; simp
          have hcl := hcm.2.1
          clear hcm hbo HYJ
          obtain ⟨bx0, bx1⟩ := (bx.ext X4).two
          have hpl := (bx.ext X4).1
          generalize hJ1 : raJ ab (xa, xb) (j + 1) = J1 at *
          generalize hJ0 : raJ ab (xa, xb) j = J0 at *
          have HE := Lib.hid hJ1
          clear hJ1 hJ0
          have hwr := hb2
          rcases Nat.lt_trichotomy ya xa with hc | hc | hc
          · rw [decide_eq_true hc] at hcl
            have hJ : J1 = J0 + 2 := by rw [HJ.out]; unfold cL; rw [if_pos hc]
            have s1 : IntKind.i64.wrap ((J0 : Int) + 2) = (J1 : Int) := by rw [IntWalk.i64_in _ (by omega)]; omega
            clear hJ hc hce HJ
            go_wp2_with (refine wpList_fcmp rfl rfl rfl rfl rfl (by first | with_reducible assumption | exact rfl) ?_)
            go_roundw
            case rel => exact ⟨j + 1, by omega, by go_num, by rw [HE.out], X4.trans (Ext.alloc _ _)⟩
            case measure => simp [intOf]; omega
          · rw [decide_eq_false (by omega)] at hcl
            rw [decide_eq_true hc] at hce
            have hJ : J1 = J0 + 1 := by rw [HJ.out]; unfold cL; rw [if_neg (by simp only; omega), if_pos hc]
            have s1 : IntKind.i64.wrap ((J0 : Int) + 1) = (J1 : Int) := by rw [IntWalk.i64_in _ (by omega)]; omega
            clear hJ hc HJ
            go_wp2_with (refine wpList_fcmp rfl rfl rfl rfl rfl (by first | with_reducible assumption | exact rfl) ?_)
            go_roundw
            case rel => exact ⟨j + 1, by omega, by go_num, by rw [HE.out], X4.trans (Ext.alloc _ _)⟩
            case measure => simp [intOf]; omega
          · rw [decide_eq_false (by omega)] at hcl hce
            have hJ : J1 = J0 := by rw [HJ.out]; unfold cL; rw [if_neg (by simp only; omega), if_neg (by simp only; omega)]; omega
            subst hJ
            clear hc HJ
            go_wp2_with (refine wpList_fcmp rfl rfl rfl rfl rfl (by first | with_reducible assumption | exact rfl) ?_)
            go_roundw
            case rel => exact ⟨j + 1, by omega, by go_num, by rw [HE.out], X4.trans (Ext.alloc _ _)⟩
            case measure => simp [intOf]; omega
        · obtain rfl : j = ab.length := by omega
          have hjb : raJ ab (xa, xb) ab.length ≤ 1 + 2 * ab.length := by
            unfold raJ
            have := sum_map_le (cL (xa, xb)) 2 (cL_le _) (ab.take ab.length)
            rw [List.length_take] at this
            omega
          have hKb := HBK.out
          have s1 : IntKind.i64.wrap (((raK ab la k : Nat) : Int) + ((raJ ab (xa, xb) ab.length : Nat) : Int)) = ((raK ab la (k + 1) : Nat) : Int) := by
            rw [IntWalk.i64_in _ (by omega), HS.out]; omega
          clear hjb hKb
          go_wp2_with fail
          exact ⟨⟨k + 1, by omega, by go_num, rfl, XW.trans X4⟩, by simp [intOf]; omega⟩
    · obtain rfl : k = la.length := by omega
      go_wp2_with fail
      go_ret2
      rw [HSUM.out]
      exact ⟨rfl, X0.trans X2⟩
end Go.Proofs.Ytlbmjeennpccmaa
