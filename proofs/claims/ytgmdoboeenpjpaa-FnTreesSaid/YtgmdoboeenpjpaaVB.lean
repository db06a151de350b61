
/- Chances that are drawn, and the gap of two numbers: what the program computes. Conditions: in the theorems. -/
import Derived.Test.YtgmdoboeenpjpaaVA
import Derived.Test.YtgmdoboeenpjpaaSa
import Derived.Test.YtgmdoboeenpjpaaEM
import Derived.Test.YtgmdoboeenpjpaaYV
import Derived.Test.YtgmdoboeenpjpaaZJ
import Derived.Test.YtgmdoboeenpjpaaPe
namespace Go.Proofs.Ytgmdoboeenpjpaa
open Go Go.RowKit Go.ChangeShapes Go.WideShapes Go.ChangeAt

attribute [local irreducible] LX tw
/-- A sixteenth, so many times. -/
def q16 (x : Nat) : Nat := fop .quo .f32 (cn .f32 (floatOfInt .f32 (x : Int))) (cn .f32 1098907648)
def shB (b : Nat) : Bool := match (FloatKind.f32).format.read b with
  | .number false m e => decide (e ≤ 0) && decide (m ≤ 2 ^ (-e).toNat) && decide (b < 4294967296)
  | _ => false
theorem shB_val {b : Nat} (h : shB b = true) : Num .f32 b ∧ 0 ≤ fv .f32 b ∧ fv .f32 b ≤ 1 ∧ b < 4294967296 := by
  unfold shB at h
  generalize hd : (FloatKind.f32).format.read b = d at h
  cases d with
  | infinity s => cases h
  | nan s f => cases h
  | number s m e =>
    cases s with
    | true => cases h
    | false =>
      simp only [Bool.and_eq_true, decide_eq_true_eq] at h
      obtain ⟨⟨h1, h2⟩, h3⟩ := h
      refine ⟨⟨_, _, _, hd⟩, ?_, ?_, h3⟩
      · rw [fv_eq hd]
        simp only [Bool.false_eq_true, if_false]
        exact Rat.mul_nonneg Rat.natCast_nonneg (Rat.le_of_lt (tw_pos e))
      · rw [fv_eq hd]
        simp only [Bool.false_eq_true, if_false]
        have k := tw_neg (-e).toNat
        rw [show (-(((-e).toNat : Nat) : Int)) = e by omega] at k
        have k2 : (m : Rat) ≤ ((2 ^ (-e).toNat : Nat) : Rat) := by exact_mod_cast h2
        have k3 := Rat.mul_le_mul_of_nonneg_right k2 (Rat.le_of_lt (tw_pos e))
        grind
theorem q16_all : ((List.range 17).all fun x => shB (q16 x)) = true := by decide +kernel
theorem q16_val {x : Nat} (h : x < 17) : Num .f32 (q16 x) ∧ 0 ≤ fv .f32 (q16 x) ∧ fv .f32 (q16 x) ≤ 1 ∧ q16 x < 4294967296 := by
  have h0 := q16_all
  rw [List.all_eq_true] at h0
  exact shB_val (h0 x (List.mem_range.2 h))
/-- Shares as they are drawn. -/
def Shs (C : List Nat) : Prop := ∀ b ∈ C, Num .f32 b ∧ 0 ≤ fv .f32 b ∧ fv .f32 b ≤ 1 ∧ b < 4294967296
theorem Shs.shr {C : List Nat} (h : Shs C) : ShR C.length C := by
  intro i hi
  have := h _ (List.getElem_mem hi)
  rw [List.getD_eq_getElem?_getD, List.getElem?_eq_getElem hi]
  exact ⟨this.1, this.2.1, this.2.2.1⟩
theorem Shs.lt {C : List Nat} (h : Shs C) : ∀ b ∈ C, b < 4294967296 := fun b hb => (h b hb).2.2.2
theorem Shs.set {C : List Nat} (h : Shs C) (i : Nat) {v : Nat} (hv : Num .f32 v ∧ 0 ≤ fv .f32 v ∧ fv .f32 v ≤ 1 ∧ v < 4294967296) : Shs (C.set i v) := by
  intro b hb
  rcases List.mem_or_eq_of_mem_set hb with h1 | h1
  · exact h b h1
  · rw [h1]; exact hv
theorem share_of {b : Nat} (n : Num .f32 b) (h0 : 0 ≤ fv .f32 b) (h1 : fv .f32 b ≤ 1) : shareB (cn .f32 b) = true := by
  obtain ⟨z1, z2⟩ := zero_num
  obtain ⟨o1, o2⟩ := one_num
  unfold shareB
  rw [n.cn, z1.cn, o1.cn, geq_val n z1, leq_val n o1, z2, o2, decide_eq_true h0, decide_eq_true h1]; rfl
theorem Shs.chances {C : List Nat} (h : Shs C) : chancesB C (C.length : Int) = true := by
  unfold chancesB
  rw [Bool.and_eq_true, List.all_eq_true, decide_eq_true_eq]
  refine ⟨fun x hx => ?_, rfl⟩
  obtain ⟨b, hb, rfl⟩ := List.mem_map.1 hx
  obtain ⟨n, h0, h1, _⟩ := h b hb
  exact share_of n h0 h1
theorem Shs.map {C : List Nat} (h : Shs C) : C.map (cn .f32) = C := num_map h.shr rfl

set_option maxRecDepth 100000 in
set_option maxHeartbeats 4000000 in
theorem b10Shares_any (n : Nat) (v : Value) (zs : List Int) (w : World) (r : RdY w v zs) (hl : zs.length ≤ 1048576) (hn : n ≤ 100) :
    Calls Try.prog 9 #[v, .int .i64 n] w fun e w' => ∃ (g cap : Nat) (C : List Nat), e = .returned (.slice (some ⟨g, 0, none⟩) C.length cap) ∧ C.length = n ∧ Ext w w' ∧ w'.ownsRow w.heap.size 31 1 (.slice (some ⟨g, 0, none⟩) C.length cap) C.length (C.map (Value.float .f32)) ∧ Shs C := by
  have r' := r
  obtain ⟨⟨-, a1, c1, rfl, -, -, -, -⟩, -⟩ := r
  obtain ⟨w0, hw0⟩ : ∃ w0 : World, w0 = w := ⟨_, rfl⟩
  have bz : Bz (w.alloc (.cells #[.slice a1 zs.length c1, .int .i64 0, .int .u64 0] 106)) w.heap.size 106 [.slice a1 zs.length c1, .int .i64 0, .int .u64 0] := Bz.new _ _ _
  have S0 : SrcW w w.heap.size 0 (.slice a1 zs.length c1) zs (w.alloc (.cells #[.slice a1 zs.length c1, .int .i64 0, .int .u64 0] 106)) :=
    ⟨r', hl, Nat.le_refl _, Ext.alloc _ _, by simp, bz.bx.2 0 (by simp), ⟨0, Nat.le_refl _, bz.bx.2 1 (by simp)⟩, ⟨0, bz.bx.2 2 (by simp)⟩, bz.frozen, bz.frozen⟩
  have HPK := Lib.hid (fun m W n (S : SrcW w w.heap.size m (.slice a1 zs.length c1) zs W) (hm : m ≤ 4194304) (h1 : 1 ≤ n) (h2 : n ≤ 200) => pick_any w w.heap.size m n _ zs W S hm h1 h2)
  clear bz
  go_enter Try.func9, Try.ntmps9
  go_wp2_with fail
  refine (l00From_any _ _ _ _).mono ?_
  rintro e w1 ⟨rfl, rfl⟩
  generalize hW : w.alloc (.cells #[.slice a1 zs.length c1, .int .i64 0, .int .u64 0] 106) = W at *
  have hlt : w.heap.size < W.heap.size := by rw [← hW]; simp
  have HS := Lib.hid (S0.ext (Ext.alloc W (.cells #[] 31)))
  have own0 : (W.alloc (.cells #[] 31)).ownsRow W.heap.size 31 1 (.slice (some ⟨W.heap.size, 0, none⟩) 0 0) 0 [] := World.ownsRow_lit W #[] 0 (Nat.le_refl _) (by decide) rfl
  have hsz : W.heap.size ≤ (W.alloc (.cells #[] 31)).heap.size := by simp
  have hWs : w.heap.size ≤ W.heap.size := by omega
  clear hW S0 hw0 w0
  go_wp2_with fail
  go_loopw [1, 6] (fun c o wr => ∃ (j g cap : Nat) (xs : List Nat), c = .int .i64 j ∧ o = .slice (some ⟨g, 0, none⟩) xs.length cap ∧ j + xs.length = n ∧ Hid (Shs xs) ∧
      wr.ownsRow W.heap.size 31 1 (.slice (some ⟨g, 0, none⟩) xs.length cap) xs.length (xs.map (Value.float .f32)) ∧ SrcW w w.heap.size xs.length (.slice a1 zs.length c1) zs wr ∧ W.heap.size ≤ wr.heap.size) (fun c _ _ => (intOf c).toNat)
  case atStart => exact ⟨n, W.heap.size, 0, [], rfl, rfl, by simp, (fun n hn => by cases hn), own0, HS.out, hsz⟩
  case round =>
    clear own0 hsz HS
    obtain ⟨j, g, cap, xs, rfl, rfl, hjx, HX, own, S, hsz⟩ := hrel
    by_cases hj : 0 < j
    · have hji : (0 : Int) < (j : Int) := by omega
      have hjw : IntKind.i64.wrap ((j : Int) - 1) = (j : Int) - 1 := IntWalk.i64_in _ (by omega)
      go_wp2_with fail
      refine (HPK.out _ _ 17 S (by omega) (by decide) (by decide)).mono ?_
      rintro e w2 ⟨⟨x, hx, rfl⟩, G, S2⟩
      have own2 : w2.ownsRow W.heap.size 31 1 (.slice (some ⟨g, 0, none⟩) xs.length cap) xs.length (xs.map (Value.float .f32)) := World.ownsRow.kept own G (.inr fun e => by
        have := (World.ownsRow.lt own g rfl).1
        simp [Value.ownBlock] at e; omega)
      have hsz2 := Nat.le_trans hsz G.size
      have HY : Hid (q16 x = fop .quo .f32 (cn .f32 (floatOfInt .f32 (x : Int))) (cn .f32 1098907648)) := rfl
      have HV := Lib.hid (q16_val hx)
      clear own S hsz hx G
      go_wp2_with (first | (refine wpList_fop rfl rfl rfl rfl rfl ?_; intro fb nf hfb hfl; replace hfb := Lib.hid hfb; replace hfl := Lib.hid hfl) | (at_builtin; refine wpList_push infoF32 rfl Try.underlying29 rfl rfl rfl (World.ownsRow.alloc (w := World.drewN _ _) (own_ext own2 (Ext.drewN _ _)) _) rfl (Bx.new _ [_] _).one rfl (by omega) (by decide) (Nat.le_trans hsz2 ((Ext.drewN _ _).trans (Ext.alloc _ _)).size) ?_; intro g2 cap2 w4 hg2 own4 bel4 sz4))
      obtain rfl : fb = q16 x := bits_of (by rw [HY.out]; exact hfb.out) HV.out.1.notN
      clear hfb hfl
      go_roundw
      case rel =>
        have BB := bel4 w2 (Below.mono ((Ext.drewN w2 nf).trans (Ext.alloc _ _)) hsz2)
        refine ⟨j - 1, g2, cap2, xs ++ [q16 x], by go_num, by simp, by simp; omega, ?_, by rw [List.map_append, List.length_append]; exact own4, ?_, Nat.le_trans hsz2 BB.size⟩
        · intro b hb
          rcases List.mem_append.1 hb with hb | hb
          · exact HX.out b hb
          · obtain rfl := List.mem_singleton.1 hb; exact HV.out
        · rw [List.length_append]
          exact (S2.below BB hlt)
      case measure => simp [intOf]; omega
    · obtain rfl : j = 0 := by omega
      go_wp2_with fail
      go_ret
      exact ⟨g, cap, xs, rfl, by omega, S.x, World.ownsRow.mono own hWs, HX.out⟩
/-- The gap of two numbers, not above D. -/
theorem b10Gap_num (a b : Nat) (D : Rat) (w : World) (ha : Num .f64 a) (hb : Num .f64 b) (h1 : fv .f64 a - fv .f64 b ≤ D) (h2 : fv .f64 b - fv .f64 a ≤ D) (hD : D ≤ 100) :
    Calls Try.prog 13 #[.float .f64 a, .float .f64 b] w fun e w' => ∃ z, e = .returned (.float .f64 z) ∧ (Num .f64 z ∧ fv .f64 z ≤ D + 1 / 1000000) ∧ Ext w w' := by
  obtain ⟨g1, g2⟩ := gap_le ha hb h1 h2 hD
  have G1 := Lib.hid g1
  have G2 := Lib.hid g2
  have CA : Hid (cn .f64 a = a) := ha.cn
  have CB : Hid (cn .f64 b = b) := hb.cn
  clear g1 g2 h1 h2 hD ha hb
  cases hc : fcmp .lss .f64 (cn .f64 a) (cn .f64 b)
  · go_enter Try.func13, Try.ntmps13
    go_wp2_with (first | (refine wpList_fcmp rfl rfl rfl rfl rfl (by first | with_reducible assumption | exact rfl) ?_) | (refine wpList_fop rfl rfl rfl rfl rfl ?_; intro fb nf hfb hfl; replace hfb := Lib.hid hfb; replace hfl := Lib.hid hfl))
    obtain rfl : fb = fop .sub .f64 a b := bits_of (by rw [hfb.out, CA.out, CB.out]) G1.out.1.notN
    go_ret
    exact ⟨_, rfl, G1.out, Ext.drewN _ _⟩
  · go_enter Try.func13, Try.ntmps13
    go_wp2_with (first | (refine wpList_fcmp rfl rfl rfl rfl rfl (by first | with_reducible assumption | exact rfl) ?_) | (refine wpList_fop rfl rfl rfl rfl rfl ?_; intro fb nf hfb hfl; replace hfb := Lib.hid hfb; replace hfl := Lib.hid hfl))
    obtain rfl : fb = fop .sub .f64 b a := bits_of (by rw [hfb.out, CA.out, CB.out]) G2.out.1.notN
    go_ret
    exact ⟨_, rfl, G2.out, Ext.drewN _ _⟩
end Go.Proofs.Ytgmdoboeenpjpaa
/- What the law on chances gets of the program: the values, by what they are made of. Plain. Condition: a system and chances that are drawn. -/
namespace Go.Proofs.Ytgmdoboeenpjpaa
open Go Go.RowKit

attribute [local irreducible] tw
theorem ch_good {P : Nat} {ns C : List Nat} (hsys : sysB (P : Int) (ups ns) = true) (hP5 : P ≤ 5) (hC : Shs C) (hl : C.length = P) : ChG P ns C := by
  obtain ⟨hs, -, -⟩ := SysN.of (sys_good' hsys)
  rw [Int.toNat_natCast, downs_ups] at hs
  obtain ⟨hasc, -⟩ := sysB_ups hsys
  rw [downs_ups] at hasc
  exact ⟨hP5, hs.lt, hasc, hs.whole, hl, by rw [← hl]; exact hC.shr⟩
theorem ch_ok {P : Nat} {ns C : List Nat} (hsys : sysB (P : Int) (ups ns) = true) (hC : Shs C) (hl : C.length = P) : chOk (P : Int) (ups ns) C = true := by
  unfold chOk
  have h := hC.chances
  rw [hl] at h
  rw [hsys, h]; rfl
theorem ch_x {P : Nat} {ns C : List Nat} (hsys : sysB (P : Int) (ups ns) = true) (hC : Shs C) (hl : C.length = P) : chanceO (P : Int) (ups ns) C = some (chS P ns C) := by
  unfold chanceO
  rw [ch_ok hsys hC hl, Int.toNat_natCast, downs_ups, hC.map]; rfl
theorem ch_b {P : Nat} {ns C : List Nat} (hsys : sysB (P : Int) (ups ns) = true) (hC : Shs C) (hl : C.length = P) : cbO (P : Int) (ups ns) C = some (bdK negF P C (cutsS P ns), fop .sub .f32 oneF (bdK id P C ns)) := by
  unfold cbO
  rw [ch_ok hsys hC hl, Int.toNat_natCast, downs_ups, hC.map]; rfl
theorem ch_p {P : Nat} {ns C : List Nat} (hsys : sysB (P : Int) (ups ns) = true) (hC : Shs C) (hl : C.length = P) : pcO (P : Int) (ups ns) C = some (pcL P ns C P) := by
  unfold pcO
  rw [ch_ok hsys hC hl, Int.toNat_natCast, downs_ups]; rfl
theorem one_sh : Num .f32 1065353216 ∧ 0 ≤ fv .f32 1065353216 ∧ fv .f32 1065353216 ≤ 1 ∧ 1065353216 < 4294967296 := by
  obtain ⟨a, b⟩ := one_num
  exact ⟨a, by rw [b]; grind, by rw [b]; grind, by decide⟩
theorem zero_sh : Num .f32 0 ∧ 0 ≤ fv .f32 0 ∧ fv .f32 0 ≤ 1 ∧ 0 < 4294967296 := by
  obtain ⟨a, b⟩ := zero_num
  exact ⟨a, by rw [b]; grind, by rw [b]; grind, by decide⟩
theorem half_sh : Num .f32 1056964608 ∧ 0 ≤ fv .f32 1056964608 ∧ fv .f32 1056964608 ≤ 1 ∧ 1056964608 < 4294967296 := by
  obtain ⟨a, b⟩ := half_num
  exact ⟨a, by rw [b]; grind, by rw [b]; grind, by decide⟩
theorem ch_pk {P : Nat} {ns C : List Nat} (hC : Shs C) {i : Nat} (hi : i < P) : (pcL P ns C P)[i]? = some (fop .sub .f32 (chS P ns (C.set i 1065353216)) (chS P ns (C.set i 0))) := by
  unfold pcL pcK
  rw [List.getElem?_map, List.getElem?_range hi]
  show some (fop .sub .f32 (chS P ns ((C.set i 1065353216).map (cn .f32))) (chS P ns ((C.set i 0).map (cn .f32)))) = _
  rw [(hC.set i one_sh).map, (hC.set i zero_sh).map]
theorem pcL_len (P : Nat) (ns C : List Nat) : (pcL P ns C P).length = P := by simp [pcL]
theorem halves_shs (P : Nat) : Shs (List.replicate P 1056964608) := fun b hb => by rw [List.eq_of_mem_replicate hb]; exact half_sh
theorem quarter_cn : cn .f32 1048576000 = 1048576000 := quarter_near.1.cn
theorem ch_s {P : Nat} {ns C : List Nat} (hsys : sysB (P : Int) (ups ns) = true) (hC : Shs C) (hl : C.length = P) {t : Nat} (ht : t < 2 ^ P) : ssO (P : Int) (ups ns) C (t : Int) (cn .f32 1048576000) = some (ssV P ns C t 1048576000) := by
  have hn := quarter_near.1
  have h1 : fv .f32 1048576000 ≤ 1 := by have := quarter_near.2.1; grind
  have h0 : 0 ≤ fv .f32 1048576000 := by have := quarter_near.2.2; grind
  have hs := share_of hn h0 h1
  have hb : inB (t : Int) 0 ((2 : Int) ^ ((P : Int).toNat) - 1) = true := by
    rw [Int.toNat_natCast]
    have e : (2 : Int) ^ P = ((2 ^ P : Nat) : Int) := by rw [Int.natCast_pow]; rfl
    rw [e]
    exact inB_true (by omega) (by omega)
  unfold ssO ssOk
  rw [ch_ok hsys hC hl, hb, hs, Int.toNat_natCast, Int.toNat_natCast, downs_ups, quarter_cn]; rfl
theorem ch_ph {P : Nat} {ns : List Nat} (hsys : sysB (P : Int) (ups ns) = true) (hP5 : P ≤ 5) (kv : Value) : phO [⟨(P : Int), kv, ups ns⟩] (List.replicate P 1056964608) = some (sumP [ns] (List.replicate P 1056964608) P 1 (2 ^ P)) := by
  have hC := halves_shs P
  have h := hC.chances
  rw [List.length_replicate] at h
  have e1 : phHead [(⟨(P : Int), kv, ups ns⟩ : Sy)] = (P : Int) := rfl
  have e2 : phRow (P : Int) ⟨(P : Int), kv, ups ns⟩ = true := by
    show (sysB (P : Int) (ups ns) && (decide ((P : Int) = (P : Int)) && decide ((P : Int) ≤ 6))) = true
    rw [hsys, decide_eq_true rfl, decide_eq_true (by omega)]; rfl
  have e3 : phOk [(⟨(P : Int), kv, ups ns⟩ : Sy)] (List.replicate P 1056964608) = true := by
    unfold phOk
    rw [e1]
    simp only [List.length_singleton, List.all_cons, List.all_nil, e2, Bool.and_true]
    have : (P : Int) * ((1 : Nat) : Int) = (P : Int) := by omega
    rw [this, h]; rfl
  unfold phO
  rw [e3, e1, Int.toNat_natCast, hC.map]
  show some (sumP (dn [(⟨(P : Int), kv, ups ns⟩ : Sy)]) (List.replicate P 1056964608) P 1 (2 ^ P)) = _
  unfold dn
  simp only [List.map_cons, List.map_nil, downs_ups]
/-- All counts together. -/
theorem count_sum (xs : List Nat) : ∀ N, ((List.range N).map fun j => ((xs.countP (fun s => pop s == j) : Nat) : Int)).sum = ((xs.countP (fun s => decide (pop s < N)) : Nat) : Int)
  | 0 => by simp
  | N + 1 => by
    have e : xs.countP (fun s => decide (pop s < N + 1)) = xs.countP (fun s => decide (pop s < N)) + xs.countP (fun s => pop s == N) := by
      induction xs with
      | nil => rfl
      | cons x xs ih =>
        simp only [List.countP_cons, ih]
        by_cases h1 : pop x < N
        · have h2 : ¬ pop x = N := by omega
          have h3 : pop x < N + 1 := by omega
          simp [h1, h2, h3]; omega
        · by_cases h2 : pop x = N
          · simp [h2]; omega
          · have h3 : ¬ pop x < N + 1 := by omega
            simp [h1, h2, h3]
    rw [List.range_succ, List.map_append, List.sum_append, count_sum xs N, e]
    simp
theorem cnt_all {P : Nat} {ns : List Nat} (hP : P ≤ 5) : (cntL P ((List.range (2 ^ P)).filter (worksB ns))).sum = ((nW P ns : Nat) : Int) := by
  have e : cntL P ((List.range (2 ^ P)).filter (worksB ns)) = (List.range (P + 1)).map fun j => ((((List.range (2 ^ P)).filter (worksB ns)).countP (fun s => pop s == j) : Nat) : Int) := rfl
  rw [e, count_sum]
  have h1 : ((List.range (2 ^ P)).filter (worksB ns)).countP (fun s => decide (pop s < P + 1)) = ((List.range (2 ^ P)).filter (worksB ns)).length := by
    rw [List.countP_eq_length]
    intro s hs
    rw [List.mem_filter, List.mem_range] at hs
    exact decide_eq_true (pop_lt (by omega) hs.1)
  rw [h1]
  unfold nW
  rw [List.countP_eq_length_filter]
end Go.Proofs.Ytgmdoboeenpjpaa
/- What the functions on chances return for systems and chances that are drawn. Conditions: a valid system of at most five parts, shares as drawn. -/
namespace Go.Proofs.Ytgmdoboeenpjpaa
open Go Go.RowKit Go.ChangeShapes Go.WideShapes Go.ChangeAt

attribute [local irreducible] LX tw pop cntL
theorem nm_num {o : Option Nat} {x : Nat} {w w' : World} {e : Ending} (h : NmPost o w e w') (ho : o = some x) (hn : Num .f32 x) : e = .returned (.tuple #[.float .f32 x, .bool true]) ∧ Ext w w' := by
  subst ho
  obtain ⟨X, b, rfl, h1, _⟩ := h
  rw [bits_of h1 hn.notN]
  exact ⟨rfl, X⟩
theorem nm_num2 {o : Option Nat} {x : Nat} {w w' : World} {e : Ending} (h : NmPost o w e w') (ho : o = some x) (hn : Num .f32 x) : e = .returned (.tuple #[.float .f32 x, .bool true]) ∧ Ext w w' ∧ x < 4294967296 := by
  subst ho
  obtain ⟨X, b, rfl, h1, h2⟩ := h
  rw [bits_of h1 hn.notN] at h2 ⊢
  exact ⟨rfl, X, h2⟩
theorem n2_num {o : Option (Nat × Nat)} {x y : Nat} {w w' : World} {e : Ending} (h : N2Post o w e w') (ho : o = some (x, y)) (hx : Num .f32 x) (hy : Num .f32 y) : e = .returned (.tuple #[.float .f32 x, .float .f32 y, .bool true]) ∧ Ext w w' := by
  subst ho
  obtain ⟨X, b, c, rfl, h1, h2⟩ := h
  rw [bits_of h1 hx.notN, bits_of h2 hy.notN]
  exact ⟨rfl, X⟩
theorem map_num : ∀ {os xs : List Nat}, os.map (cn .f32) = xs → (∀ x ∈ xs, Num .f32 x) → os = xs
  | [], [], _, _ => rfl
  | o :: os, x :: xs, h, hn => by
    simp only [List.map_cons, List.cons.injEq] at h
    rw [map_num h.2 fun y hy => hn y (List.mem_cons_of_mem _ hy)]
    congr 1
    exact bits_of h.1 (hn x (by simp)).notN
  | [], _ :: _, h, _ => by cases h
  | _ :: _, [], h, _ => by cases h
theorem fl_num {o : Option (List Nat)} {xs : List Nat} {w w' : World} {e : Ending} (h : FlPost o w e w') (ho : o = some xs) (hn : ∀ x ∈ xs, Num .f32 x) :
    ∃ g cap, e = .returned (.tuple #[.slice (some ⟨g, 0, none⟩) xs.length cap, .bool true]) ∧ Ext w w' ∧ RdF w' (.slice (some ⟨g, 0, none⟩) xs.length cap) xs := by
  subst ho
  obtain ⟨X, g, cap, os, rfl, h1, h2, own⟩ := h
  have := map_num h1 hn
  subst this
  exact ⟨g, cap, rfl, X, own_rd own, h2⟩
theorem pcL_num {P : Nat} {ns C : List Nat} (G : ChG P ns C) (hC : Shs C) : ∀ x ∈ pcL P ns C P, Num .f32 x := by
  intro x hx
  unfold pcL pcK at hx
  rw [List.mem_map] at hx
  obtain ⟨i, hi, rfl⟩ := hx
  have hi := List.mem_range.1 hi
  rw [(hC.set i one_sh).map, (hC.set i zero_sh).map]
  exact (G.part hi).1
theorem chanceOf_val {P : Nat} {ns C : List Nat} (hsys : sysB (P : Int) (ups ns) = true) (hP5 : P ≤ 5) (hC : Shs C) (hl : C.length = P) (W : World) (v u : Value) (r : RdI W v (ups ns)) (rb : RdF W u C) :
    Calls Try.prog 10 #[.agg #[.int .i64 P, v], u] W fun e w' => e = .returned (.tuple #[.float .f32 (chS P ns C), .bool true]) ∧ Ext W w' :=
  (implChanceOf_any (P : Int) v u (ups ns) C W r rb).mono fun _ _ h => nm_num h (ch_x hsys hC hl) (ch_good hsys hP5 hC hl).x.1.1
theorem chanceBounds_val {P : Nat} {ns C : List Nat} (hsys : sysB (P : Int) (ups ns) = true) (hP5 : P ≤ 5) (hC : Shs C) (hl : C.length = P) (W : World) (v u : Value) (r : RdI W v (ups ns)) (rb : RdF W u C) :
    Calls Try.prog 11 #[.agg #[.int .i64 P, v], u] W fun e w' => e = .returned (.tuple #[.float .f32 (bdK negF P C (cutsS P ns)), .float .f32 (fop .sub .f32 oneF (bdK id P C ns)), .bool true]) ∧ Ext W w' :=
  (implChanceBounds_any (P : Int) v u (ups ns) C W r rb).mono fun _ _ h => n2_num h (ch_b hsys hC hl) (ch_good hsys hP5 hC hl).low.1 (ch_good hsys hP5 hC hl).high.1
theorem partChances_val {P : Nat} {ns C : List Nat} (hsys : sysB (P : Int) (ups ns) = true) (hP5 : P ≤ 5) (hC : Shs C) (hl : C.length = P) (W : World) (v u : Value) (r : RdI W v (ups ns)) (rb : RdF W u C) :
    Calls Try.prog 12 #[.agg #[.int .i64 P, v], u] W fun e w' => ∃ g cap, e = .returned (.tuple #[.slice (some ⟨g, 0, none⟩) (pcL P ns C P).length cap, .bool true]) ∧ Ext W w' ∧ RdF w' (.slice (some ⟨g, 0, none⟩) (pcL P ns C P).length cap) (pcL P ns C P) :=
  (implPartChances_any (P : Int) v u (ups ns) C W r rb).mono fun _ _ h => fl_num h (ch_p hsys hC hl) (pcL_num (ch_good hsys hP5 hC hl) hC)
theorem sharedShockI_val {P : Nat} {ns C : List Nat} (hsys : sysB (P : Int) (ups ns) = true) (hP5 : P ≤ 5) (hC : Shs C) (hl : C.length = P) {t : Nat} (ht : t < 2 ^ P) (W : World) (v u : Value) (r : RdI W v (ups ns)) (rb : RdF W u C) :
    Calls Try.prog 15 #[.agg #[.int .i64 P, v], u, .int .i64 t, .float .f32 1048576000] W fun e w' => e = .returned (.tuple #[.float .f32 (ssV P ns C t 1048576000), .bool true]) ∧ Ext W w' ∧ ssV P ns C t 1048576000 < 4294967296 :=
  (implSharedShock_any (P : Int) (t : Int) 1048576000 v u (ups ns) C W r rb).mono fun _ _ h => nm_num2 h (ch_s hsys hC hl ht) ((ch_good hsys hP5 hC hl).shock (t := t)).1
theorem sharedShockS_val {P : Nat} {ns C : List Nat} (hsys : sysB (P : Int) (ups ns) = true) (hP5 : P ≤ 5) (hC : Shs C) (hl : C.length = P) {t : Nat} (ht : t < 2 ^ P) (W : World) (v u : Value) (r : RdI W v (ups ns)) (rb : RdF W u C) :
    Calls Try.prog 16 #[.agg #[.int .i64 P, v], u, .int .i64 t, .float .f32 1048576000] W fun e w' => e = .returned (.tuple #[.float .f32 (ssV P ns C t 1048576000), .bool true]) ∧ Ext W w' ∧ ssV P ns C t 1048576000 < 4294967296 :=
  (specSharedShock_any (P : Int) (t : Int) 1048576000 v u (ups ns) C W r rb).mono fun _ _ h => nm_num2 h (ch_s hsys hC hl ht) ((ch_good hsys hP5 hC hl).shock (t := t)).1
theorem phaseOne_val {P : Nat} {ns : List Nat} (hsys : sysB (P : Int) (ups ns) = true) (hP5 : P ≤ 5) (W : World) (v kv u : Value) (r : RdSy W v [⟨(P : Int), kv, ups ns⟩]) (rb : RdF W u (List.replicate P 1056964608)) :
    Calls Try.prog 17 #[v, u] W fun e w' => e = .returned (.tuple #[.float .f32 (sumP [ns] (List.replicate P 1056964608) P 1 (2 ^ P)), .bool true]) ∧ Ext W w' :=
  (implPhasesChance_any v u [⟨(P : Int), kv, ups ns⟩] _ W r rb).mono fun _ _ h => nm_num h (ch_ph hsys hP5 kv) (by obtain ⟨Q, -, n, -⟩ := (ch_good hsys hP5 (halves_shs P) (by simp)).halves; exact n.1)
theorem counts_val {P : Nat} {ns : List Nat} (hsys : sysB (P : Int) (ups ns) = true) (W : World) (v : Value) (r : RdI W v (ups ns)) :
    Calls Try.prog 14 #[.agg #[.int .i64 P, v]] W fun e w' => ∃ g cap, e = .returned (.tuple #[.slice (some ⟨g, 0, none⟩) (cntL P ((List.range (2 ^ P)).filter (worksB ns))).length cap, .bool true]) ∧ Ext W w' ∧ RdI w' (.slice (some ⟨g, 0, none⟩) (cntL P ((List.range (2 ^ P)).filter (worksB ns))).length cap) (cntL P ((List.range (2 ^ P)).filter (worksB ns))) := by
  have e2 : wcO (P : Int) (ups ns) = some (cntL P ((List.range (2 ^ P)).filter (worksB ns))) := by unfold wcO; rw [hsys, Int.toNat_natCast, downs_ups]; rfl
  refine (specWorkingCounts_any (P : Int) v (ups ns) W r).mono ?_
  rw [e2]
  rintro e w' ⟨hx, g, cap, rfl, own⟩
  exact ⟨g, cap, rfl, hx, own_rd own⟩
end Go.Proofs.Ytgmdoboeenpjpaa
/- What the law on chances compares: the facts its walk needs. Conditions: a valid system and shares that are drawn. -/
namespace Go.Proofs.Ytgmdoboeenpjpaa
open Go Go.RowKit Go.ChangeShapes Go.WideShapes Go.ChangeAt

attribute [local irreducible] LX tw pop cntL
theorem kM_val : Num .f32 3129152111 ∧ fv .f32 3129152111 ≤ -999 / 1000000 := by
  have h : (FloatKind.f32).format.read 3129152111 = .number true 8589935 (-33) := by decide +kernel
  refine ⟨⟨_, _, _, h⟩, ?_⟩
  rw [fv_eq h]
  have h1 := tw_neg 33
  have h2 : tw (-((33 : Nat) : Int)) = tw (-33) := rfl
  have h3 : ((2 ^ 33 : Nat) : Rat) = 8589934592 := rfl
  have h4 : ((8589935 : Nat) : Rat) = 8589935 := rfl
  rw [h2, h3] at h1
  simp only [if_true, h4]
  grind
theorem ChG.cmp {P : Nat} {ns C : List Nat} (G : ChG P ns C) :
    Num .f32 (chS P ns C) ∧ Num .f32 (bdK negF P C (cutsS P ns)) ∧ Num .f32 (fop .sub .f32 oneF (bdK id P C ns)) ∧
    Num .f64 (fop .sub .f64 (wide (bdK negF P C (cutsS P ns))) k001) ∧ fcmp .lss .f64 (cn .f64 (wide (chS P ns C))) (cn .f64 (fop .sub .f64 (wide (bdK negF P C (cutsS P ns))) k001)) = false ∧
    Num .f64 (fop .add .f64 (wide (fop .sub .f32 oneF (bdK id P C ns))) k001) ∧ fcmp .gtr .f64 (cn .f64 (wide (chS P ns C))) (cn .f64 (fop .add .f64 (wide (fop .sub .f32 oneF (bdK id P C ns))) k001)) = false := by
  have nx := G.x.1.1
  obtain ⟨l1, l2, l3, l4⟩ := G.low
  obtain ⟨h1, h2, h3, h4⟩ := G.high
  obtain ⟨a1, a2⟩ := cmp_low nx l1 (by grind) (by grind) (by grind)
  obtain ⟨b1, b2, _⟩ := cmp_high nx h1 (by grind) (by grind) (by grind)
  exact ⟨nx, l1, h1, a1, a2, b1, b2⟩
theorem ChG.cmpPart {P i : Nat} {ns C : List Nat} (G : ChG P ns C) (hi : i < P) :
    Num .f32 (chS P ns (C.set i 0)) ∧ Num .f32 (fop .sub .f32 (chS P ns (C.set i 1065353216)) (chS P ns (C.set i 0))) ∧ Num .f32 (C.getD i 0) ∧
    fcmp .lss .f32 (cn .f32 (fop .sub .f32 (chS P ns (C.set i 1065353216)) (chS P ns (C.set i 0)))) (cn .f32 3129152111) = false ∧
    Num .f64 (fop .mul .f64 (wide (C.getD i 0)) (wide (fop .sub .f32 (chS P ns (C.set i 1065353216)) (chS P ns (C.set i 0))))) ∧
    Num .f64 (fop .add .f64 (wide (chS P ns (C.set i 0))) (fop .mul .f64 (wide (C.getD i 0)) (wide (fop .sub .f32 (chS P ns (C.set i 1065353216)) (chS P ns (C.set i 0)))))) ∧
    ∀ W, Calls Try.prog 13 #[.float .f64 (wide (chS P ns C)), .float .f64 (fop .add .f64 (wide (chS P ns (C.set i 0))) (fop .mul .f64 (wide (C.getD i 0)) (wide (fop .sub .f32 (chS P ns (C.set i 1065353216)) (chS P ns (C.set i 0))))))] W fun e w' => ∃ z, e = .returned (.float .f64 z) ∧ fcmp .gtr .f64 (cn .f64 z) (cn .f64 k001) = false ∧ Ext W w' := by
  have nx := G.x.1.1
  obtain ⟨nd, ny, d0, d1, y0, y1, g1, g2⟩ := G.part hi
  obtain ⟨nc, c0, c1⟩ := G.sh i hi
  have hc : cR C i = fv .f32 (C.getD i 0) := rfl
  rw [hc] at g1 g2
  obtain ⟨m1, m2, m3, m4, m5, m6, m7⟩ := part64 ny nc nd y0 y1 c0 c1 (by grind) d1
  obtain ⟨k1, k2⟩ := kM_val
  refine ⟨ny, nd, nc, ?_, m4, m5, fun W => ?_⟩
  · rw [nd.cn, k1.cn, lss_val nd k1, decide_eq_false_iff_not]; grind
  · obtain ⟨w1, w2⟩ := wide_val nx
    refine (b10Gap_num _ _ (6 / 10000) W w1 m5 (by rw [w2]; grind) (by rw [w2]; grind) (by grind)).mono ?_
    rintro e w' ⟨z, rfl, ⟨nz, hz⟩, X⟩
    exact ⟨z, rfl, (cmp_gap nz (by grind)).1, X⟩
theorem ChG.gapNone {P : Nat} {ns C : List Nat} (G : ChG P ns C) : ∀ W, Calls Try.prog 13 #[.float .f64 (wide (ssV P ns C 0 1048576000)), .float .f64 (wide (chS P ns C))] W fun e w' => ∃ z, e = .returned (.float .f64 z) ∧ fcmp .lss .f64 (cn .f64 z) (cn .f64 k001) = true ∧ Ext W w' := by
  intro W
  have nx := G.x.1.1
  obtain ⟨n1, g1, g2, _, _⟩ := G.shock (t := 0)
  have g2 := g2 rfl
  obtain ⟨w1, v1⟩ := wide_val nx
  obtain ⟨w2, v2⟩ := wide_val n1
  refine (b10Gap_num _ _ (6 / 10000) W w2 w1 (by rw [v1, v2]; exact g1) (by rw [v1, v2]; exact g2) (by decide +kernel)).mono ?_
  rintro e w' ⟨z, rfl, ⟨nz, hz⟩, X⟩
  exact ⟨z, rfl, (cmp_gap nz (Rat.le_trans hz (by decide +kernel))).2, X⟩
theorem ChG.gapPhase {P : Nat} {ns C : List Nat} (G : ChG P ns C) : ∀ W, Calls Try.prog 13 #[.float .f64 (wide (sumP [ns] (List.replicate P 1056964608) P 1 (2 ^ P))), .float .f64 (wide (chS P ns (List.replicate P 1056964608)))] W fun e w' => ∃ z, e = .returned (.float .f64 z) ∧ fcmp .lss .f64 (cn .f64 z) (cn .f64 k001) = true ∧ Ext W w' := by
  intro W
  obtain ⟨Q, ⟨n1, l1, u1⟩, ⟨n2, l2, u2⟩, -, -, -⟩ := G.halves
  have he : ep ≤ 1 / 9000 := by decide +kernel
  obtain ⟨w1, v1⟩ := wide_val n1
  obtain ⟨w2, v2⟩ := wide_val n2
  refine (b10Gap_num _ _ (6 / 10000) W w2 w1 (by rw [v1, v2]; grind) (by rw [v1, v2]; grind) (by decide +kernel)).mono ?_
  rintro e w' ⟨z, rfl, ⟨nz, hz⟩, X⟩
  exact ⟨z, rfl, (cmp_gap nz (Rat.le_trans hz (by decide +kernel))).2, X⟩
theorem ChG.gapHalf {P : Nat} {ns C : List Nat} (G : ChG P ns C) :
    Num .f64 (fop .mul .f64 (wide (chS P ns (List.replicate P 1056964608))) (floatOfInt .f64 ((2 ^ P : Nat) : Int))) ∧ Num .f64 (floatOfInt .f64 ((2 ^ P : Nat) : Int)) ∧ Num .f64 (floatOfInt .f64 ((nW P ns : Nat) : Int)) ∧
    ∀ W, Calls Try.prog 13 #[.float .f64 (fop .mul .f64 (wide (chS P ns (List.replicate P 1056964608))) (floatOfInt .f64 ((2 ^ P : Nat) : Int))), .float .f64 (floatOfInt .f64 ((nW P ns : Nat) : Int))] W fun e w' => ∃ z, e = .returned (.float .f64 z) ∧ fcmp .lss .f64 (cn .f64 z) (cn .f64 k01) = true ∧ Ext W w' := by
  obtain ⟨Q, n, -, q0, q1, hQ⟩ := G.halves
  obtain ⟨m1, m2, m3, m4, g1, g2⟩ := half64 G.p5 n q0 q1 hQ
  refine ⟨m4, m2, m3, fun W => ?_⟩
  refine (b10Gap_num _ _ (4 / 1000) W m4 m3 g1 g2 (by decide +kernel)).mono ?_
  rintro e w' ⟨z, rfl, ⟨nz, hz⟩, X⟩
  exact ⟨z, rfl, cmp_gap2 nz (Rat.le_trans hz (by decide +kernel)), X⟩
theorem ChG.cmpShock {P t : Nat} {ns C : List Nat} (G : ChG P ns C) : Num .f32 (ssV P ns C t 1048576000) ∧ Num .f64 (fop .add .f64 (wide (chS P ns C)) k001) ∧ fcmp .lss .f64 (cn .f64 (wide (ssV P ns C t 1048576000))) (cn .f64 (fop .add .f64 (wide (chS P ns C)) k001)) = true := by
  obtain ⟨⟨nx, l, u⟩, x0, x1⟩ := G.x
  have he : ep ≤ 1 / 9000 := by decide +kernel
  obtain ⟨n1, g1, -, _, _⟩ := G.shock (t := t)
  obtain ⟨a, -, b⟩ := cmp_high n1 nx (by grind) (by grind) (by grind)
  exact ⟨n1, a, b⟩
/-- The counts, one after another. -/
theorem pre_sum {L : List Int} (h0 : ∀ x ∈ L, 0 ≤ x ∧ x ≤ 1000) : ∀ k, k ≤ L.length → 0 ≤ (L.take k).sum ∧ (L.take k).sum ≤ 1000 * k
  | 0, _ => by simp
  | k + 1, h => by
    obtain ⟨a, b⟩ := pre_sum h0 k (by omega)
    obtain ⟨c, d⟩ := h0 _ (List.getElem_mem (show k < L.length by omega))
    rw [List.take_add_one, List.getElem?_eq_getElem (by omega), List.sum_append]
    simp only [Option.toList_some, List.sum_cons, List.sum_nil]
    omega
theorem pre_succ {L : List Int} {k : Nat} (h : k < L.length) : (L.take (k + 1)).sum = (L.take k).sum + L[k] := by
  rw [List.take_add_one, List.getElem?_eq_getElem h, List.sum_append]
  simp
theorem cnt_in {P : Nat} {ns : List Nat} (hP : P ≤ 5) : ∀ x ∈ cntL P ((List.range (2 ^ P)).filter (worksB ns)), 0 ≤ x ∧ x ≤ 1000 := by
  intro x hx
  have e : cntL P ((List.range (2 ^ P)).filter (worksB ns)) = (List.range (P + 1)).map fun j => ((((List.range (2 ^ P)).filter (worksB ns)).countP (fun s => pop s == j) : Nat) : Int) := by unfold cntL; rfl
  rw [e, List.mem_map] at hx
  obtain ⟨j, _, rfl⟩ := hx
  have h1 : ((List.range (2 ^ P)).filter (worksB ns)).countP (fun s => pop s == j) ≤ ((List.range (2 ^ P)).filter (worksB ns)).length := List.countP_le_length
  have h2 := List.length_filter_le (worksB ns) (List.range (2 ^ P))
  rw [List.length_range] at h2
  have h3 : 2 ^ P ≤ 32 := Nat.pow_le_pow_right (n := 2) (by decide) hP
  omega
theorem sameNumber_self (x : Nat) (hx : x < 4294967296) (w : World) : Calls Try.prog 18 #[.float .f32 x, .float .f32 x] w fun e w' => e = .returned (.bool true) ∧ w = w' := by
  have H := Lib.hid (l01Same_any x x hx hx w)
  have e0 : sameN (cn .f32 x) (cn .f32 x) = true := by simp [sameN]
  rw [e0] at H
  go_enter Try.func18, Try.ntmps18
  go_wp2_with fail
  refine H.out.mono ?_
  rintro e w1 ⟨rfl, rfl⟩
  go_wp2_with fail
  go_ret
  exact ⟨rfl, rfl⟩
theorem ChG.half_num {P : Nat} {ns C : List Nat} (G : ChG P ns C) : Num .f32 (chS P ns (List.replicate P 1056964608)) ∧ Num .f32 (sumP [ns] (List.replicate P 1056964608) P 1 (2 ^ P)) := by
  obtain ⟨Q, n1, n2, -⟩ := G.halves
  exact ⟨n1.1, n2.1⟩
end Go.Proofs.Ytgmdoboeenpjpaa
