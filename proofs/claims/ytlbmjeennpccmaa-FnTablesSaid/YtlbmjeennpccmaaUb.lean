
/- How many lives failed, the sum of their times: what the program computes of lives that are drawn. Condition: valid lives. -/
import Derived.Test.YtlbmjeennpccmaaNw
import Derived.Test.YtlbmjeennpccmaaLr
import Derived.Test.YtlbmjeennpccmaaRa
import Derived.Test.YtlbmjeennpccmaaNm
import Derived.Test.YtlbmjeennpccmaaLu
import Derived.Test.YtlbmjeennpccmaaCr
import Derived.Test.YtlbmjeennpccmaaB
import Derived.Test.YtlbmjeennpccmaaE
import Derived.Test.YtlbmjeennpccmaaA
namespace Go.Proofs.Ytlbmjeennpccmaa
open Go Go.RowKit Go.ChangeShapes Go.WideShapes Go.ChangeAt

attribute [local go_sem] run_store_float
attribute [local irreducible] LX tw
/-! ### Numbers that are compared -/
theorem uB (k : FloatKind) : 0 < uu k ∧ uu k ≤ 1 / 16000000 := by
  refine ⟨tw_pos _, ?_⟩
  cases k
  · rw [uu32]; decide +kernel
  · rw [uu64]; decide +kernel
theorem eB (k : FloatKind) : 0 < eta k ∧ eta k ≤ 1 / 1000000000000000000 := by
  cases k
  · exact ⟨eta32.1, Rat.le_trans eta32.2 (by decide +kernel)⟩
  · exact ⟨eta64.1, Rat.le_trans eta64.2 (by decide +kernel)⟩
theorem zero32_val : Num .f32 0 ∧ fv .f32 0 = 0 := by
  have h : (FloatKind.f32).format.read 0 = .number false 0 (-149) := by decide +kernel
  refine ⟨⟨_, _, _, h⟩, ?_⟩
  rw [fv_eq h]
  show ((0 : Nat) : Rat) * tw (-149) = 0
  exact Rat.zero_mul _
theorem zero64_val : Num .f64 0 ∧ fv .f64 0 = 0 := by
  have h : (FloatKind.f64).format.read 0 = .number false 0 (-1074) := by decide +kernel
  refine ⟨⟨_, _, _, h⟩, ?_⟩
  rw [fv_eq h]
  show ((0 : Nat) : Rat) * tw (-1074) = 0
  exact Rat.zero_mul _
theorem num_fin {x : Nat} (h : Num .f32 x) : finB x = true := by
  have hw := wr_sub h h
  have h0 : fv .f32 x - fv .f32 x = 0 := by grind
  rw [h0] at hw
  have h100 := tw100
  obtain ⟨⟨n1, _, _⟩, s1, s2⟩ := hw.nr (A := 1) (by grind) (by grind) (by grind)
  have hz : cn .f32 0 = 0 := by decide +kernel
  unfold finB
  rw [hz, eql_val n1 zero32_val.1, zero32_val.2, decide_eq_true_eq]
  have := s1 (by grind)
  have := s2 (by grind)
  grind
theorem posW.numV {x : Nat} (h : posW x) : Num .f32 x := by obtain ⟨m, i, hr, _⟩ := read_pos h; exact ⟨_, _, _, hr⟩

/-! ### Times that are drawn -/
theorem hT_val {k : Nat} (hk : k < 24) : Num .f32 (hT k) ∧ 0 < fv .f32 (hT k) ∧ fv .f32 (hT k) ≤ 13 := by
  have hn := (hT_pos hk).numV
  refine ⟨hn, ?_, ?_⟩
  · have h := pos_cmp (hT_pos hk) (hT_pos hk)
    obtain ⟨m, i, hr, h1, h2⟩ := read_pos (hT_pos hk)
    rw [fv_eq (show (FloatKind.f32).format.read (hT k) = .number false m i from hr)]
    simp only [Bool.false_eq_true, if_false]
    have hm : m ≠ 0 := by
      intro h0
      subst h0
      rw [Nat.zero_mul] at h2
      have h3 := pv_lt (show 0 < hT k from (hT_pos hk).1)
      omega
    have hm0 : 0 < m := by omega
    have : (0 : Rat) < (m : Rat) := by exact_mod_cast hm0
    exact Rat.mul_pos this (tw_pos i)
  · obtain ⟨n1, v1⟩ := ofInt_val .f32 (z := ((k + 1 : Nat) : Int)) (by omega)
    have n2 : Num .f32 1073741824 ∧ fv .f32 1073741824 = 2 := by
      have h : (FloatKind.f32).format.read 1073741824 = .number false 8388608 (-22) := by decide +kernel
      refine ⟨⟨_, _, _, h⟩, ?_⟩
      rw [fv_eq h]
      have h1 : tw (-((22 : Nat) : Int)) * ((2 ^ 22 : Nat) : Rat) = 1 := tw_neg 22
      have h2 : ((8388608 : Nat) : Rat) = 8388608 := rfl
      have h3 : ((2 ^ 22 : Nat) : Rat) = 4194304 := rfl
      have h4 : tw (-((22 : Nat) : Int)) = tw (-22) := rfl
      rw [h3, h4] at h1
      simp only [Bool.false_eq_true, if_false, h2]
      grind
    obtain ⟨hu0, hu⟩ := uB .f32
    obtain ⟨he0, he⟩ := eB .f32
    have h99 : (1000000 : Rat) ≤ tw 99 := by
      have h99 : tw 100 = 2 * tw 99 := by rw [← tw_one, ← tw_add]; rfl
      rw [tw100] at h99; grind
    have e : hT k = fop .quo .f32 (floatOfInt .f32 ((k + 1 : Nat) : Int)) 1073741824 := by unfold hT; rw [n1.cn, n2.1.cn]
    have hk24 : (((k + 1 : Nat) : Int) : Rat) ≤ 24 := by
      have : k + 1 ≤ 24 := by omega
      rw [Rat.intCast_natCast]; exact_mod_cast this
    have hk0 : (0 : Rat) ≤ (((k + 1 : Nat) : Int) : Rat) := by rw [Rat.intCast_natCast]; exact Rat.natCast_nonneg
    obtain ⟨V, hW, _, hV⟩ := wr_div n1 n2.1 (by rw [n2.2]; grind)
    have hZ : fv .f32 (floatOfInt .f32 ((k + 1 : Nat) : Int)) / fv .f32 1073741824 = (((k + 1 : Nat) : Int) : Rat) / 2 := by rw [v1, n2.2]
    rw [hZ] at hV
    obtain ⟨v2, v3⟩ := hV 12 (by grind) (by grind)
    have h100 := tw100
    obtain ⟨⟨_, p, _⟩, _⟩ := hW.nr (A := 13) (by grind) (by grind) (by grind)
    rw [e]
    generalize (((k + 1 : Nat) : Int) : Rat) = K at *
    generalize fv .f32 (fop .quo .f32 (floatOfInt .f32 ((k + 1 : Nat) : Int)) 1073741824) = Q at *
    generalize uu .f32 = u at *
    generalize eta .f32 = t at *
    clear h100 hW hV hZ e n2 n1 v1 h99 hn
    grind
/-- The sum of times. -/
def tSum (ls : List Lf) : Rat := (ls.map fun x => fv .f32 x.1).sum
theorem tSum_perm {a b : List Lf} (h : a.Perm b) : tSum a = tSum b := by
  unfold tSum
  induction h with
  | nil => rfl
  | cons x _ ih => simp only [List.map_cons, List.sum_cons, ih]
  | swap x y l => simp only [List.map_cons, List.sum_cons]; grind
  | trans _ _ i1 i2 => exact i1.trans i2
theorem tSum_take {ls : List Lf} {k : Nat} (h : k < ls.length) : tSum (ls.take (k + 1)) = tSum (ls.take k) + fv .f32 ls[k].1 := by
  unfold tSum
  have key : ∀ (a : List Rat) (x : Rat), (a ++ [x]).sum = a.sum + x := by
    intro a x
    induction a with
    | nil => simp only [List.nil_append, List.sum_cons, List.sum_nil]; grind
    | cons y a ih => simp only [List.cons_append, List.sum_cons, ih]; grind
  rw [List.take_add_one, List.getElem?_eq_getElem h, List.map_append]
  exact key _ _
theorem drawn_val {ls : List Lf} (h : Drawn ls) : ∀ x ∈ ls, Num .f32 x.1 ∧ 0 < fv .f32 x.1 ∧ fv .f32 x.1 ≤ 13 := fun x hx => by
  obtain ⟨k, hk, e⟩ := h x hx
  rw [e]; exact hT_val hk
theorem tSum_le {ls : List Lf} (h : Drawn ls) : ∀ k, k ≤ ls.length → 0 ≤ tSum (ls.take k) ∧ tSum (ls.take k) ≤ 13 * (k : Rat)
  | 0, _ => by
    have : tSum (ls.take 0) = 0 := rfl
    rw [this]; have k0 : ((0 : Nat) : Rat) = 0 := rfl
    rw [k0]; grind
  | k + 1, hk => by
    obtain ⟨h1, h2⟩ := tSum_le h k (by omega)
    obtain ⟨_, h3, h4⟩ := drawn_val h _ (List.getElem_mem (show k < ls.length by omega))
    have e : ((k + 1 : Nat) : Rat) = (k : Rat) + 1 := Rat.natCast_add k 1
    rw [tSum_take (by omega), e]
    grind
/-- One time more, in format k. -/
theorem sum_step {f : FloatKind} {s x : Nat} {S T K : Rat} (hs : Num f s) (hx : Num f x) (h1 : fv f s ≤ S + K * (1 / 50000)) (h2 : S ≤ fv f s + K * (1 / 50000)) (hS0 : 0 ≤ S) (hS : S ≤ 13 * K) (hK0 : 0 ≤ K) (hK : K ≤ 16) (hT : fv f x = T) (hT0 : 0 ≤ T) (hT1 : T ≤ 13) :
    Num f (fop .add f s x) ∧ fv f (fop .add f s x) ≤ S + T + (K + 1) * (1 / 50000) ∧ S + T ≤ fv f (fop .add f s x) + (K + 1) * (1 / 50000) := by
  obtain ⟨hu0, hu⟩ := uB f
  obtain ⟨he0, he⟩ := eB f
  have h100 := tw100
  obtain ⟨⟨n1, p, q⟩, _⟩ := (wr_add hs hx).nr (A := 250) (by rw [hT]; grind) (by rw [hT]; grind) (by grind)
  rw [hT] at p q
  exact ⟨n1, by grind, by grind⟩
/-- How many failed. -/
def cntF (ls : List Lf) : Nat := ls.countP fun x => x.2
theorem cntF_take {ls : List Lf} {k : Nat} (h : k < ls.length) : cntF (ls.take (k + 1)) = cntF (ls.take k) + if ls[k].2 then 1 else 0 := by
  unfold cntF
  rw [List.take_add_one, List.getElem?_eq_getElem h, List.countP_append]
  simp [List.countP_cons]
theorem cntF_le (ls : List Lf) : cntF ls ≤ ls.length := List.countP_le_length

set_option maxHeartbeats 2000000 in
theorem failed_any (v : Value) (ls : List Lf) (w : World) (r : RdL w v ls) (hz : ls.length ≤ 1048576) :
    Calls Try.prog 76 #[v] w fun e w' => e = .returned (.int .i64 ((cntF ls : Nat) : Int)) ∧ Ext w w' := by
  have r' := r
  obtain ⟨⟨-, a1, c1, rfl, -, -, -, -⟩, -⟩ := r
  have HST : Hid (∀ k (h : k < ls.length), cntF (ls.take (k + 1)) = cntF (ls.take k) + if ls[k].2 then 1 else 0) := fun k h => cntF_take h
  have HTL : Hid (cntF (ls.take ls.length) = cntF ls) := by show _ = _; rw [List.take_length]
  obtain ⟨C, hC⟩ : ∃ C : Nat → Nat, C = fun k => cntF (ls.take k) := ⟨_, rfl⟩
  have HCS : Hid (∀ k (h : k < ls.length), C (k + 1) = C k + if ls[k].2 then 1 else 0) := by intro k h; rw [hC]; exact HST.out k h
  have HCL : Hid (cntF ls = C ls.length) := by show _ = _; rw [hC]; exact HTL.out.symm
  have HCB : Hid (∀ k, C k ≤ ls.length) := by intro k; rw [hC]; exact Nat.le_trans (cntF_le _) (by rw [List.length_take]; omega)
  have HC0 : Hid (C 0 = 0) := by show _ = _; rw [hC]; rfl
  rw [HCL.out]
  clear hC HST HTL
  go_enter Try.func76, Try.ntmps76
  go_wp2_with fail
  go_loopw [8, 3] (fun i s wr => ∃ (k : Nat), k ≤ ls.length ∧ i = .int .i64 k ∧ s = .int .i64 ((C k : Nat) : Int) ∧ Ext w wr) (fun i _ _ => ls.length - (intOf i).toNat)
  case atStart => exact ⟨0, Nat.zero_le _, rfl, by rw [HC0.out]; rfl, Ext.refl _⟩
  case round =>
    obtain ⟨k, hk, rfl, rfl, X2⟩ := hrel
    by_cases hlt : k < ls.length
    · obtain ⟨b1, o1, rfl, hb1, hc1, hd1⟩ := (r'.ext X2).at hlt
      have HS := Lib.hid (HCS.out k hlt)
      have hcb := HCB.out k
      generalize ls[k] = x at *
      obtain ⟨xa, xb⟩ := x
      have hwr := hb1
      cases xb
      · have HN : Hid (C (k + 1) = C k) := HS
        clear HS
        go_wp2_with fail
        go_roundw
        case rel => exact ⟨k + 1, by omega, by go_num, by rw [HN.out], X2.trans (Ext.alloc _ _)⟩
        case measure => simp [intOf]; omega
      · have s1 : IntKind.i64.wrap (((C k : Nat) : Int) + 1) = ((C (k + 1) : Nat) : Int) := by
          have h : C (k + 1) = C k + 1 := HS.out
          rw [IntWalk.i64_in _ (by omega)]; omega
        clear HS
        go_wp2_with fail
        go_roundw
        case rel => exact ⟨k + 1, by omega, by go_num, rfl, X2.trans (Ext.alloc _ _)⟩
        case measure => simp [intOf]; omega
    · obtain rfl : k = ls.length := by omega
      go_wp2_with fail
      go_ret
      exact ⟨rfl, X2⟩
theorem countFailed_any (v : Value) (ls : List Lf) (w : World) (r : RdL w v ls) (h : livesB ls = true) :
    Calls Try.prog 34 #[v] w fun e w' => e = .returned (.tuple #[.int .i64 ((cntF ls : Nat) : Int), .bool true]) ∧ Ext w w' := by
  have HA := Lib.hid (areLives_any v ls w r)
  rw [h] at HA
  have hl := livesB_len h
  have HF := Lib.hid (fun W (r : RdL W v ls) => failed_any v ls W r (by omega))
  have r' := r
  clear h
  obtain ⟨⟨-, a1, c1, rfl, -, -, -, -⟩, -⟩ := r
  go_enter Try.func34, Try.ntmps34
  go_wp2_with fail
  refine HA.out.mono ?_
  rintro e w1 ⟨rfl, X0⟩
  go_wp2_with fail
  refine (HF.out _ (r'.ext X0)).mono ?_
  rintro e w2 ⟨rfl, X1⟩
  go_wp2_with fail
  go_ret2
  exact ⟨rfl, X0.trans X1⟩
/-- b is the sum of the first k times, nearly. -/
structure SumT (f : FloatKind) (ls : List Lf) (k b : Nat) : Prop where
  n : Num f b
  u : fv f b ≤ tSum (ls.take k) + (k : Rat) * (1 / 50000)
  l : tSum (ls.take k) ≤ fv f b + (k : Rat) * (1 / 50000)
theorem SumT.succ {f : FloatKind} {ls : List Lf} {k b x : Nat} (h : SumT f ls k b) (hd : Drawn ls) (hk : k < ls.length) (hl : ls.length ≤ 16) (hx : Num f x) (hv : fv f x = fv .f32 ls[k].1) : SumT f ls (k + 1) (fop .add f b x) := by
  obtain ⟨h1, h2⟩ := tSum_le hd k (by omega)
  obtain ⟨_, h3, h4⟩ := drawn_val hd _ (List.getElem_mem hk)
  have e : ((k + 1 : Nat) : Rat) = (k : Rat) + 1 := Rat.natCast_add k 1
  have hk16 : k ≤ 16 := by omega
  have hkr : (k : Rat) ≤ 16 := by exact_mod_cast hk16
  have hk0 : (0 : Rat) ≤ (k : Rat) := Rat.natCast_nonneg
  obtain ⟨g1, g2, g3⟩ := sum_step (T := fv .f32 ls[k].1) h.n hx h.u h.l h1 h2 hk0 hkr hv (by grind) h4
  exact ⟨g1, by rw [tSum_take hk, e]; exact g2, by rw [tSum_take hk, e]; exact g3⟩
theorem sumT_zero (f : FloatKind) (ls : List Lf) : SumT f ls 0 0 := by
  have z : Num f 0 ∧ fv f 0 = 0 := by cases f; exact zero32_val; exact zero64_val
  have k0 : ((0 : Nat) : Rat) = 0 := rfl
  have t0 : tSum (ls.take 0) = 0 := rfl
  refine ⟨z.1, ?_, ?_⟩ <;> rw [z.2, t0, k0] <;> grind
set_option maxHeartbeats 2000000 in
theorem timeOfTest_any (v : Value) (ls : List Lf) (w : World) (r : RdL w v ls) (h : livesB ls = true) (hd : Drawn ls) (hl16 : ls.length ≤ 16) :
    Calls Try.prog 35 #[v] w fun e w' => ∃ b, e = .returned (.tuple #[.float .f32 b, .bool true]) ∧ SumT .f32 ls ls.length b ∧ Ext w w' := by
  have HA := Lib.hid (areLives_any v ls w r)
  rw [h] at HA
  have r' := r
  have HST : Hid (∀ k (h : k < ls.length) b, SumT .f32 ls k b → SumT .f32 ls (k + 1) (fop .add .f32 b ls[k].1)) := fun k h b hs => hs.succ hd h hl16 (drawn_val hd _ (List.getElem_mem h)).1 rfl
  have HNX : Hid (∀ k (h : k < ls.length), cn .f32 ls[k].1 = ls[k].1) := fun k h => (drawn_val hd _ (List.getElem_mem h)).1.cn
  have HS0 := Lib.hid (sumT_zero .f32 ls)
  clear h hd
  obtain ⟨⟨-, a1, c1, rfl, -, -, -, -⟩, -⟩ := r
  go_enter Try.func35, Try.ntmps35
  go_wp2_with fail
  refine HA.out.mono ?_
  rintro e w1 ⟨rfl, X0⟩
  replace r' := r'.ext X0
  go_wp2_with fail
  go_loopw [12, 4] (fun i s wr => ∃ (k b : Nat), k ≤ ls.length ∧ i = .int .i64 k ∧ s = .float .f32 b ∧ Hid (SumT .f32 ls k b) ∧ Ext w1 wr) (fun i _ _ => ls.length - (intOf i).toNat)
  case atStart => exact ⟨0, 0, Nat.zero_le _, rfl, rfl, HS0, Ext.refl _⟩
  case round =>
    obtain ⟨k, b, hk, rfl, rfl, HB, X2⟩ := hrel
    by_cases hlt : k < ls.length
    · obtain ⟨b1, o1, rfl, hb1, hc1, hd1⟩ := (r'.ext X2).at hlt
      have HS := Lib.hid (HST.out k hlt b HB.out)
      have HC := Lib.hid (HNX.out k hlt)
      generalize ls[k] = x at *
      obtain ⟨xa, xb⟩ := x
      have hwr := hb1
      have HCB : Hid (cn .f32 b = b) := HB.out.n.cn
      go_wp2_with (first | (refine wpList_fop rfl rfl rfl rfl rfl ?_; intro fb nf hfb hfl; replace hfb := Lib.hid hfb; replace hfl := Lib.hid hfl))
      obtain rfl : fb = fop .add .f32 b xa := bits_of (by rw [hfb.out, HCB.out, HC.out]) HS.out.n.notN
      go_roundw
      case rel => exact ⟨k + 1, _, by omega, by go_num, rfl, HS, X2.trans ((Ext.alloc _ _).trans (Ext.drewN _ _))⟩
      case measure => simp [intOf]; omega
    · obtain rfl : k = ls.length := by omega
      have HFI : Hid (finB (cn .f32 b) = true) := by show _ = _; rw [HB.out.n.cn]; exact num_fin HB.out.n
      have HNO : Hid (numOr b = b) := by show _ = _; unfold numOr; rw [HFI.out]; rfl
      go_wp2_with fail
      refine (ifFinite_any b _).mono ?_
      rw [HFI.out, HNO.out]
      rintro e w3 ⟨rfl, X3⟩
      go_wp2_with fail
      go_ret2
      exact ⟨b, rfl, HB.out, X0.trans (X2.trans X3)⟩
end Go.Proofs.Ytlbmjeennpccmaa
/- How many lives there are in intervals: what the program computes. Condition: valid lives, sixteen intervals. -/
namespace Go.Proofs.Ytlbmjeennpccmaa
open Go Go.RowKit Go.ChangeShapes Go.WideShapes Go.ChangeAt

attribute [local go_sem] run_store_float
attribute [local irreducible] LX tw
/-- Where an interval begins. -/
def lowW (w i : Nat) : Nat := fop .mul .f32 (ofI (i : Int)) (cn .f32 w)
def inI (w i : Nat) (x : Lf) : Bool := fcmp .geq .f32 (cn .f32 x.1) (lowW w i)
def beI (w i : Nat) (x : Lf) : Bool := fcmp .lss .f32 (cn .f32 x.1) (lowW w (i + 1))
def ivR (w i : Nat) (ls : List Lf) : Nat := ls.countP (inI w i)
def ivF (w i : Nat) (ls : List Lf) : Nat := ls.countP fun x => inI w i x && (beI w i x && x.2)
def ivL (w i : Nat) (ls : List Lf) : Nat := ls.countP fun x => inI w i x && (beI w i x && !x.2)
def ivK (w : Nat) (ls : List Lf) : Nat → List Nat
  | 0 => []
  | k + 1 => ivK w ls k ++ [ivR w k ls, ivF w k ls, ivL w k ls]
theorem ivK_len (w : Nat) (ls : List Lf) : ∀ k, (ivK w ls k).length = 3 * k
  | 0 => rfl
  | k + 1 => by show (ivK w ls k ++ _).length = _; rw [List.length_append, ivK_len w ls k]; simp; omega
theorem countP_take {p : Lf → Bool} {ls : List Lf} {k : Nat} (h : k < ls.length) : (ls.take (k + 1)).countP p = (ls.take k).countP p + if p ls[k] then 1 else 0 := by
  rw [List.take_add_one, List.getElem?_eq_getElem h, List.countP_append]
  simp [List.countP_cons]
def nums3 (l : List Nat) : List Value := l.map fun (z : Nat) => Value.int .i64 (z : Int)
theorem ofI_cn (i : Nat) : cn .f32 (floatOfInt .f32 (i : Int)) = ofI (i : Int) := cn_ofI _
/-- Three integers more. -/
theorem wpList_push3I {ops : Array Oper} {rest : List Oper} {o : Oper} {a : Act} {w : World} {Q : Exit → Act → World → Prop} {s x : Operand} {B g0 cap0 m : Nat} {vs : List Value} {u1 u2 u3 : Value} {blk c : Nat}
    (hgd : o.guard = none) (ho : o.op = .call { callee := .builtin .append, args := #[s, x], argTypes := #[48, 48] })
    (hs : a.eval s = .slice (some ⟨g0, 0, none⟩) m cap0) (own : w.ownsRow B 2 1 (.slice (some ⟨g0, 0, none⟩) m cap0) m vs) (hx : a.eval x = .slice (some ⟨blk, 0, none⟩) 3 c) (c0 : w.cell? ⟨blk, 0, none⟩ = some u1) (c1 : w.cell? ⟨blk, 1, none⟩ = some u2) (c2 : w.cell? ⟨blk, 2, none⟩ = some u3)
    (ho1 : u1.oneCell' = true) (ho2 : u2.oneCell' = true) (ho3 : u3.oneCell' = true) (hB : B ≤ w.heap.size) (hl : m ≤ 4096)
    (h : ∀ g cap w', w'.ownsRow B 2 1 (.slice (some ⟨g, 0, none⟩) (m + 3) cap) (m + 3) (vs ++ [u1, u2, u3]) → Below B w w' → wpList Try.prog ops Q rest (a.put o.dst (.slice (some ⟨g, 0, none⟩) (m + 3) cap)) w') : wpList Try.prog ops Q (o :: rest) a w := by
  obtain ⟨i, hi, h1, h2, h3⟩ := info_parts infoI64
  refine wpList_append_own w hgd s x 48 ho B 2 i (.int .i64 0) 1 8 Try.underlying48 hi h1 h2 h3 rfl (by omega) _ m _ hs own ⟨blk, 0, none⟩ 3 c [u1, u2, u3] hx rfl ?_ ?_ (by simp only [maxLen]; omega) (by omega) hB ?_
  · intro j u hj
    match j, hj with
    | 0, hj => simp at hj; subst hj; simpa [Addr.add] using c0
    | 1, hj => simp at hj; subst hj; simpa [Addr.add] using c1
    | 2, hj => simp at hj; subst hj; simpa [Addr.add] using c2
    | j + 3, hj => simp at hj
  · intro u hu
    simp at hu
    rcases hu with rfl | rfl | rfl
    · exact ho1
    · exact ho2
    · exact ho3
  · intro v' w' own' hg _
    obtain ⟨g, cap, rfl, hbg, _⟩ := own_head own' (by omega)
    exact h g cap w' own' ((Below.refl _ _).grown hg hB fun k hk => (World.ownsRow.lt own k hk).1)
set_option maxRecDepth 100000 in
set_option maxHeartbeats 8000000 in
theorem intervalTable_any (v : Value) (ls : List Lf) (wd : Nat) (w : World) (r : RdL w v ls) (h : livesB ls = true) (hw : aboveB (cn .f32 wd) = true) (hwl : wd < 4294967296) :
    Calls Try.prog 42 #[v, .float .f32 wd, .int .i64 16] w fun e w' => ∃ g cap, e = .returned (.tuple #[.slice (some ⟨g, 0, none⟩) 48 cap, .bool true]) ∧ w'.ownsRow w.heap.size 2 1 (.slice (some ⟨g, 0, none⟩) 48 cap) 48 (nums3 (ivK wd ls 16)) ∧ Ext w w' := by
  have HA := Lib.hid (areLives_any v ls w r)
  rw [h] at HA
  have hl := livesB_len h
  have HWL := Lib.hid hwl
  have HAB := Lib.hid hw
  have HIN := Lib.hid (fun W => within_eq (n := 16) (lo := 1) (hi := 16) (c := true) (by decide) W)
  have r' := r
  have hl48 := hl.2
  have HLN := Lib.hid (fun i => ivK_len wd ls i)
  clear h hw hwl hl
  obtain ⟨⟨-, a1, c1, rfl, -, -, -, -⟩, -⟩ := r
  go_enter Try.func42, Try.ntmps42
  go_wp2_with fail
  refine HA.out.mono ?_
  rintro e w1 ⟨rfl, X0⟩
  replace r' := r'.ext X0
  go_wp2_with fail
  refine (areMore_one HAB.out _ _ (RdF_one _ wd HWL.out)).mono ?_
  rintro e w2 ⟨rfl, X1⟩
  replace X1 := (Ext.alloc _ _).trans X1
  go_wp2_with fail
  refine (HIN.out _).mono ?_
  rintro e w3 ⟨rfl, rfl⟩
  go_wp2_with fail
  have o0 : (w2.alloc (.cells #[] 2)).ownsRow w2.heap.size 2 1 (.slice (some ⟨w2.heap.size, 0, none⟩) 0 0) 0 [] := World.ownsRow_lit w2 #[] 0 (Nat.le_refl _) (by decide) rfl
  go_loopw [33, 8] (fun i o wr => ∃ (k g cap : Nat), k ≤ 16 ∧ i = .int .i64 k ∧ o = .slice (some ⟨g, 0, none⟩) (3 * k) cap ∧ wr.ownsRow w2.heap.size 2 1 (.slice (some ⟨g, 0, none⟩) (3 * k) cap) (3 * k) (nums3 (ivK wd ls k)) ∧ Ext w2 wr) (fun i _ _ => 16 - (intOf i).toNat)
  case atStart => exact ⟨0, w2.heap.size, 0, by omega, rfl, rfl, o0, Ext.alloc _ _⟩
  case round =>
    clear o0
    obtain ⟨k, g, cap, hk, rfl, rfl, own, X2⟩ := hrel
    by_cases hkt : k < 16
    · have hk1 : (k : Int) < 16 := by omega
      go_wp2_with (first | (refine wpList_fop rfl rfl rfl rfl rfl ?_; intro fb nf hfb hfl; replace hfb := Lib.hid hfb; replace hfl := Lib.hid hfl))
      rename_i b1 n1 e1 l1 K0 a0
      have HLO : Hid (cn .f32 b1 = lowW wd k) := by show _ = _; rw [e1.out, ofI_cn]; rfl
      have HHI : Hid (cn .f32 fb = lowW wd (k + 1)) := by show _ = _; rw [hfb.out]; show fop .mul .f32 (cn .f32 (floatOfInt .f32 ((k + 1 : Nat) : Int))) _ = _; rw [ofI_cn]; rfl
      replace own := own_ext own (Ext.drewN wr (n1 + nf))
      replace X2 := X2.trans (Ext.drewN wr (n1 + nf))
      generalize World.drewN wr (n1 + nf) = W1 at *
      clear e1 l1 hfb hfl
      obtain ⟨A, hA⟩ : ∃ A : Nat → Nat, A = fun j => (ls.take j).countP (inI wd k) := ⟨_, rfl⟩
      obtain ⟨F, hF⟩ : ∃ F : Nat → Nat, F = fun j => (ls.take j).countP fun x => inI wd k x && (beI wd k x && x.2) := ⟨_, rfl⟩
      obtain ⟨L, hL⟩ : ∃ L : Nat → Nat, L = fun j => (ls.take j).countP fun x => inI wd k x && (beI wd k x && !x.2) := ⟨_, rfl⟩
      have HA1 : Hid (∀ j (h : j < ls.length), A (j + 1) = A j + if inI wd k ls[j] then 1 else 0) := by intro j h; rw [hA]; exact countP_take h
      have HF1 : Hid (∀ j (h : j < ls.length), F (j + 1) = F j + if inI wd k ls[j] && (beI wd k ls[j] && ls[j].2) then 1 else 0) := by intro j h; rw [hF]; exact countP_take h
      have HL1 : Hid (∀ j (h : j < ls.length), L (j + 1) = L j + if inI wd k ls[j] && (beI wd k ls[j] && !ls[j].2) then 1 else 0) := by intro j h; rw [hL]; exact countP_take h
      have HB0 : Hid (∀ j, A j ≤ ls.length ∧ F j ≤ ls.length ∧ L j ≤ ls.length) := by
        intro j
        have ht : (ls.take j).length ≤ ls.length := by rw [List.length_take]; omega
        rw [hA, hF, hL]
        exact ⟨Nat.le_trans List.countP_le_length ht, Nat.le_trans List.countP_le_length ht, Nat.le_trans List.countP_le_length ht⟩
      have HE : Hid (ivR wd k ls = A ls.length ∧ ivF wd k ls = F ls.length ∧ ivL wd k ls = L ls.length) := by
        show _ ∧ _
        rw [hA, hF, hL]
        simp only [List.take_length]
        exact ⟨rfl, rfl, rfl⟩
      have H00 : Hid (A 0 = 0 ∧ F 0 = 0 ∧ L 0 = 0) := by show _ ∧ _; rw [hA, hF, hL]; exact ⟨rfl, rfl, rfl⟩
      clear hA hF hL
      go_loopw [47, 12, 13, 14] (fun i a b c wq => ∃ (j : Nat), j ≤ ls.length ∧ i = .int .i64 j ∧ a = .int .i64 ((A j : Nat) : Int) ∧ b = .int .i64 ((F j : Nat) : Int) ∧ c = .int .i64 ((L j : Nat) : Int) ∧ Ext W1 wq) (fun i _ _ _ _ => ls.length - (intOf i).toNat)
      case atStart => exact ⟨0, Nat.zero_le _, rfl, by rw [H00.out.1]; rfl, by rw [H00.out.2.1]; rfl, by rw [H00.out.2.2]; rfl, Ext.refl _⟩
      case round =>
        obtain ⟨j, hj, rfl, rfl, rfl, rfl, X3⟩ := hrel
        by_cases hjt : j < ls.length
        · obtain ⟨b2, o2, rfl, hb2, hc2, hd2⟩ := ((r'.ext X1).ext (X2.trans X3)).at hjt
          have G1 := Lib.hid (HA1.out j hjt)
          have G2 := Lib.hid (HF1.out j hjt)
          have G3 := Lib.hid (HL1.out j hjt)
          obtain ⟨bA, bF, bL⟩ := HB0.out j
          generalize ls[j] = x at *
          obtain ⟨xa, xb⟩ := x
          have hwr := hb2
          cases hq1 : inI wd k (xa, xb)
          · have q1 : fcmp .geq .f32 (cn .f32 xa) (cn .f32 b1) = false := by rw [HLO.out]; exact hq1
            have E1 : Hid (A (j + 1) = A j) := by show _ = _; rw [G1.out, hq1]; rfl
            have E2 : Hid (F (j + 1) = F j) := by show _ = _; rw [G2.out, hq1]; rfl
            have E3 : Hid (L (j + 1) = L j) := by show _ = _; rw [G3.out, hq1]; rfl
            clear hq1 G1 G2 G3
            go_wp2_with (first | (refine wpList_fcmp rfl rfl rfl rfl rfl (by first | with_reducible assumption | exact rfl) ?_))
            go_roundw
            case rel => exact ⟨j + 1, by omega, by go_num, by rw [E1.out], by rw [E2.out], by rw [E3.out], X3.trans (Ext.alloc _ _)⟩
            case measure => simp [intOf]; omega
          · have q1 : fcmp .geq .f32 (cn .f32 xa) (cn .f32 b1) = true := by rw [HLO.out]; exact hq1
            have s1 : IntKind.i64.wrap (((A j : Nat) : Int) + 1) = ((A (j + 1) : Nat) : Int) := by
              have h : A (j + 1) = A j + 1 := by rw [G1.out, hq1]; rfl
              rw [IntWalk.i64_in _ (by omega)]; omega
            cases hq2 : beI wd k (xa, xb)
            · have q2 : fcmp .lss .f32 (cn .f32 xa) (cn .f32 fb) = false := by rw [HHI.out]; exact hq2
              have E2 : Hid (F (j + 1) = F j) := by show _ = _; rw [G2.out, hq1, hq2]; rfl
              have E3 : Hid (L (j + 1) = L j) := by show _ = _; rw [G3.out, hq1, hq2]; rfl
              clear hq1 hq2 G1 G2 G3
              go_wp2_with (first | (refine wpList_fcmp rfl rfl rfl rfl rfl (by first | with_reducible assumption | exact rfl) ?_))
              go_roundw
              case rel => exact ⟨j + 1, by omega, by go_num, rfl, by rw [E2.out], by rw [E3.out], X3.trans (Ext.alloc _ _)⟩
              case measure => simp [intOf]; omega
            · have q2 : fcmp .lss .f32 (cn .f32 xa) (cn .f32 fb) = true := by rw [HHI.out]; exact hq2
              cases xb
              · have E2 : Hid (F (j + 1) = F j) := by show _ = _; rw [G2.out, hq1, hq2]; rfl
                have s2 : IntKind.i64.wrap (((L j : Nat) : Int) + 1) = ((L (j + 1) : Nat) : Int) := by
                  have h : L (j + 1) = L j + 1 := by rw [G3.out, hq1, hq2]; rfl
                  rw [IntWalk.i64_in _ (by omega)]; omega
                clear hq1 hq2 G1 G2 G3
                go_wp2_with (first | (refine wpList_fcmp rfl rfl rfl rfl rfl (by first | with_reducible assumption | exact rfl) ?_))
                go_roundw
                case rel => exact ⟨j + 1, by omega, by go_num, rfl, by rw [E2.out], rfl, X3.trans (Ext.alloc _ _)⟩
                case measure => simp [intOf]; omega
              · have E3 : Hid (L (j + 1) = L j) := by show _ = _; rw [G3.out, hq1, hq2]; rfl
                have s2 : IntKind.i64.wrap (((F j : Nat) : Int) + 1) = ((F (j + 1) : Nat) : Int) := by
                  have h : F (j + 1) = F j + 1 := by rw [G2.out, hq1, hq2]; rfl
                  rw [IntWalk.i64_in _ (by omega)]; omega
                clear hq1 hq2 G1 G2 G3
                go_wp2_with (first | (refine wpList_fcmp rfl rfl rfl rfl rfl (by first | with_reducible assumption | exact rfl) ?_))
                go_roundw
                case rel => exact ⟨j + 1, by omega, by go_num, rfl, rfl, by rw [E3.out], X3.trans (Ext.alloc _ _)⟩
                case measure => simp [intOf]; omega
        · obtain rfl : j = ls.length := by omega
          have own2 := own_ext own X3
          replace X3 := X2.trans X3
          generalize hAA : A ls.length = a at *
          generalize hFF : F ls.length = f at *
          generalize hLL : L ls.length = l at *
          have HX : Hid (nums3 (ivK wd ls (k + 1)) = nums3 (ivK wd ls k) ++ [.int .i64 (a : Int), .int .i64 (f : Int), .int .i64 (l : Int)]) := by
            have e : ivK wd ls (k + 1) = ivK wd ls k ++ [ivR wd k ls, ivF wd k ls, ivL wd k ls] := rfl
            show _ = _
            rw [e, HE.out.1, HE.out.2.1, HE.out.2.2]
            unfold nums3
            rw [List.map_append]; rfl
          have bx : Bx (wr.alloc (.cells #[.int .i64 (a : Int), .int .i64 (f : Int), .int .i64 (l : Int)] 2)) wr.heap.size [.int .i64 (a : Int), .int .i64 (f : Int), .int .i64 (l : Int)] := Bx.new _ _ _
          have x0 := bx.2 0 (by simp)
          have x1 := bx.2 1 (by simp)
          have x2 := bx.2 2 (by simp)
          have hk48 : 3 * k ≤ 48 := by omega
          clear hAA hFF hLL HA1 HF1 HL1 HB0 H00 bx own X2
          go_wp2_with (at_builtin; refine wpList_push3I rfl rfl rfl (own_ext own2 (Ext.alloc _ _)) rfl x0 x1 x2 rfl rfl rfl (X3.trans (Ext.alloc _ _)).size (by omega) ?_; intro g3 cap3 w6 own6 bel6)
          go_roundw
          case rel => exact ⟨k + 1, g3, cap3, by omega, by go_num, by rw [Nat.mul_add], by rw [HX.out, Nat.mul_add]; exact own6, Below.trans (X3.trans (Ext.alloc _ _)) bel6⟩
          case measure => simp [intOf]; omega
    · obtain rfl : k = 16 := by omega
      go_wp2_with fail
      go_ret2
      exact ⟨g, cap, rfl, World.ownsRow.mono own (X0.trans X1).size, X0.trans (X1.trans X2)⟩
end Go.Proofs.Ytlbmjeennpccmaa
