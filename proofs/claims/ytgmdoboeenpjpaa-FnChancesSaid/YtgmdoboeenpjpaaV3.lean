
/- What the law on chances compares: the facts its walk needs. Conditions: a valid system and shares that are drawn. -/
import Derived.Test.YtgmdoboeenpjpaaV2
namespace Go.Proofs.Ytgmdoboeenpjpaa
open Go Go.RowKit Go.ChangeShapes Go.WideShapes Go.ChangeAt

attribute [local irreducible] LX tw pop cntL
theorem kM_val : Num .f32 3129152111 ∧ fv .f32 3129152111 ≤ -999 / 1000000 := by
  have h : (FloatKind.f32).format.read 3129152111 = .number true 8589935 (-33) := by decide +kernel
  refine ⟨⟨_, _, _, h⟩, ?_⟩
  rw [fv_eq h]
  have h1 := tw_neg 33
  have h2 : tw (-((33 : Nat) : Int)) = tw (-33) := rfl
  have h3 : ((2 ^ 33 : Nat) : Rat) = 8589934592 := rfl
  have h4 : ((8589935 : Nat) : Rat) = 8589935 := rfl
  rw [h2, h3] at h1
  simp only [if_true, h4]
  grind
theorem ChG.cmp {P : Nat} {ns C : List Nat} (G : ChG P ns C) :
    Num .f32 (chS P ns C) ∧ Num .f32 (bdK negF P C (cutsS P ns)) ∧ Num .f32 (fop .sub .f32 oneF (bdK id P C ns)) ∧
    Num .f64 (fop .sub .f64 (wide (bdK negF P C (cutsS P ns))) k001) ∧ fcmp .lss .f64 (cn .f64 (wide (chS P ns C))) (cn .f64 (fop .sub .f64 (wide (bdK negF P C (cutsS P ns))) k001)) = false ∧
    Num .f64 (fop .add .f64 (wide (fop .sub .f32 oneF (bdK id P C ns))) k001) ∧ fcmp .gtr .f64 (cn .f64 (wide (chS P ns C))) (cn .f64 (fop .add .f64 (wide (fop .sub .f32 oneF (bdK id P C ns))) k001)) = false := by
  have nx := G.x.1.1
  obtain ⟨l1, l2, l3, l4⟩ := G.low
  obtain ⟨h1, h2, h3, h4⟩ := G.high
  obtain ⟨a1, a2⟩ := cmp_low nx l1 (by grind) (by grind) (by grind)
  obtain ⟨b1, b2, _⟩ := cmp_high nx h1 (by grind) (by grind) (by grind)
  exact ⟨nx, l1, h1, a1, a2, b1, b2⟩
theorem ChG.cmpPart {P i : Nat} {ns C : List Nat} (G : ChG P ns C) (hi : i < P) :
    Num .f32 (chS P ns (C.set i 0)) ∧ Num .f32 (fop .sub .f32 (chS P ns (C.set i 1065353216)) (chS P ns (C.set i 0))) ∧ Num .f32 (C.getD i 0) ∧
    fcmp .lss .f32 (cn .f32 (fop .sub .f32 (chS P ns (C.set i 1065353216)) (chS P ns (C.set i 0)))) (cn .f32 3129152111) = false ∧
    Num .f64 (fop .mul .f64 (wide (C.getD i 0)) (wide (fop .sub .f32 (chS P ns (C.set i 1065353216)) (chS P ns (C.set i 0))))) ∧
    Num .f64 (fop .add .f64 (wide (chS P ns (C.set i 0))) (fop .mul .f64 (wide (C.getD i 0)) (wide (fop .sub .f32 (chS P ns (C.set i 1065353216)) (chS P ns (C.set i 0)))))) ∧
    ∀ W, Calls Try.prog 13 #[.float .f64 (wide (chS P ns C)), .float .f64 (fop .add .f64 (wide (chS P ns (C.set i 0))) (fop .mul .f64 (wide (C.getD i 0)) (wide (fop .sub .f32 (chS P ns (C.set i 1065353216)) (chS P ns (C.set i 0))))))] W fun e w' => ∃ z, e = .returned (.float .f64 z) ∧ fcmp .gtr .f64 (cn .f64 z) (cn .f64 k001) = false ∧ Ext W w' := by
  have nx := G.x.1.1
  obtain ⟨nd, ny, d0, d1, y0, y1, g1, g2⟩ := G.part hi
  obtain ⟨nc, c0, c1⟩ := G.sh i hi
  have hc : cR C i = fv .f32 (C.getD i 0) := rfl
  rw [hc] at g1 g2
  obtain ⟨m1, m2, m3, m4, m5, m6, m7⟩ := part64 ny nc nd y0 y1 c0 c1 (by grind) d1
  obtain ⟨k1, k2⟩ := kM_val
  refine ⟨ny, nd, nc, ?_, m4, m5, fun W => ?_⟩
  · rw [nd.cn, k1.cn, lss_val nd k1, decide_eq_false_iff_not]; grind
  · obtain ⟨w1, w2⟩ := wide_val nx
    refine (b10Gap_num _ _ (6 / 10000) W w1 m5 (by rw [w2]; grind) (by rw [w2]; grind) (by grind)).mono ?_
    rintro e w' ⟨z, rfl, ⟨nz, hz⟩, X⟩
    exact ⟨z, rfl, (cmp_gap nz (by grind)).1, X⟩
theorem ChG.gapNone {P : Nat} {ns C : List Nat} (G : ChG P ns C) : ∀ W, Calls Try.prog 13 #[.float .f64 (wide (ssV P ns C 0 1048576000)), .float .f64 (wide (chS P ns C))] W fun e w' => ∃ z, e = .returned (.float .f64 z) ∧ fcmp .lss .f64 (cn .f64 z) (cn .f64 k001) = true ∧ Ext W w' := by
  intro W
  have nx := G.x.1.1
  obtain ⟨n1, g1, g2, _, _⟩ := G.shock (t := 0)
  have g2 := g2 rfl
  obtain ⟨w1, v1⟩ := wide_val nx
  obtain ⟨w2, v2⟩ := wide_val n1
  refine (b10Gap_num _ _ (6 / 10000) W w2 w1 (by rw [v1, v2]; exact g1) (by rw [v1, v2]; exact g2) (by decide +kernel)).mono ?_
  rintro e w' ⟨z, rfl, ⟨nz, hz⟩, X⟩
  exact ⟨z, rfl, (cmp_gap nz (Rat.le_trans hz (by decide +kernel))).2, X⟩
theorem ChG.gapPhase {P : Nat} {ns C : List Nat} (G : ChG P ns C) : ∀ W, Calls Try.prog 13 #[.float .f64 (wide (sumP [ns] (List.replicate P 1056964608) P 1 (2 ^ P))), .float .f64 (wide (chS P ns (List.replicate P 1056964608)))] W fun e w' => ∃ z, e = .returned (.float .f64 z) ∧ fcmp .lss .f64 (cn .f64 z) (cn .f64 k001) = true ∧ Ext W w' := by
  intro W
  obtain ⟨Q, ⟨n1, l1, u1⟩, ⟨n2, l2, u2⟩, -, -, -⟩ := G.halves
  have he : ep ≤ 1 / 9000 := by decide +kernel
  obtain ⟨w1, v1⟩ := wide_val n1
  obtain ⟨w2, v2⟩ := wide_val n2
  refine (b10Gap_num _ _ (6 / 10000) W w2 w1 (by rw [v1, v2]; grind) (by rw [v1, v2]; grind) (by decide +kernel)).mono ?_
  rintro e w' ⟨z, rfl, ⟨nz, hz⟩, X⟩
  exact ⟨z, rfl, (cmp_gap nz (Rat.le_trans hz (by decide +kernel))).2, X⟩
theorem ChG.gapHalf {P : Nat} {ns C : List Nat} (G : ChG P ns C) :
    Num .f64 (fop .mul .f64 (wide (chS P ns (List.replicate P 1056964608))) (floatOfInt .f64 ((2 ^ P : Nat) : Int))) ∧ Num .f64 (floatOfInt .f64 ((2 ^ P : Nat) : Int)) ∧ Num .f64 (floatOfInt .f64 ((nW P ns : Nat) : Int)) ∧
    ∀ W, Calls Try.prog 13 #[.float .f64 (fop .mul .f64 (wide (chS P ns (List.replicate P 1056964608))) (floatOfInt .f64 ((2 ^ P : Nat) : Int))), .float .f64 (floatOfInt .f64 ((nW P ns : Nat) : Int))] W fun e w' => ∃ z, e = .returned (.float .f64 z) ∧ fcmp .lss .f64 (cn .f64 z) (cn .f64 k01) = true ∧ Ext W w' := by
  obtain ⟨Q, n, -, q0, q1, hQ⟩ := G.halves
  obtain ⟨m1, m2, m3, m4, g1, g2⟩ := half64 G.p5 n q0 q1 hQ
  refine ⟨m4, m2, m3, fun W => ?_⟩
  refine (b10Gap_num _ _ (4 / 1000) W m4 m3 g1 g2 (by decide +kernel)).mono ?_
  rintro e w' ⟨z, rfl, ⟨nz, hz⟩, X⟩
  exact ⟨z, rfl, cmp_gap2 nz (Rat.le_trans hz (by decide +kernel)), X⟩
theorem ChG.cmpShock {P t : Nat} {ns C : List Nat} (G : ChG P ns C) : Num .f32 (ssV P ns C t 1048576000) ∧ Num .f64 (fop .add .f64 (wide (chS P ns C)) k001) ∧ fcmp .lss .f64 (cn .f64 (wide (ssV P ns C t 1048576000))) (cn .f64 (fop .add .f64 (wide (chS P ns C)) k001)) = true := by
  obtain ⟨⟨nx, l, u⟩, x0, x1⟩ := G.x
  have he : ep ≤ 1 / 9000 := by decide +kernel
  obtain ⟨n1, g1, -, _, _⟩ := G.shock (t := t)
  obtain ⟨a, -, b⟩ := cmp_high n1 nx (by grind) (by grind) (by grind)
  exact ⟨n1, a, b⟩
/-- The counts, one after another. -/
theorem pre_sum {L : List Int} (h0 : ∀ x ∈ L, 0 ≤ x ∧ x ≤ 1000) : ∀ k, k ≤ L.length → 0 ≤ (L.take k).sum ∧ (L.take k).sum ≤ 1000 * k
  | 0, _ => by simp
  | k + 1, h => by
    obtain ⟨a, b⟩ := pre_sum h0 k (by omega)
    obtain ⟨c, d⟩ := h0 _ (List.getElem_mem (show k < L.length by omega))
    rw [List.take_add_one, List.getElem?_eq_getElem (by omega), List.sum_append]
    simp only [Option.toList_some, List.sum_cons, List.sum_nil]
    omega
theorem pre_succ {L : List Int} {k : Nat} (h : k < L.length) : (L.take (k + 1)).sum = (L.take k).sum + L[k] := by
  rw [List.take_add_one, List.getElem?_eq_getElem h, List.sum_append]
  simp
theorem cnt_in {P : Nat} {ns : List Nat} (hP : P ≤ 5) : ∀ x ∈ cntL P ((List.range (2 ^ P)).filter (worksB ns)), 0 ≤ x ∧ x ≤ 1000 := by
  intro x hx
  have e : cntL P ((List.range (2 ^ P)).filter (worksB ns)) = (List.range (P + 1)).map fun j => ((((List.range (2 ^ P)).filter (worksB ns)).countP (fun s => pop s == j) : Nat) : Int) := by unfold cntL; rfl
  rw [e, List.mem_map] at hx
  obtain ⟨j, _, rfl⟩ := hx
  have h1 : ((List.range (2 ^ P)).filter (worksB ns)).countP (fun s => pop s == j) ≤ ((List.range (2 ^ P)).filter (worksB ns)).length := List.countP_le_length
  have h2 := List.length_filter_le (worksB ns) (List.range (2 ^ P))
  rw [List.length_range] at h2
  have h3 : 2 ^ P ≤ 32 := Nat.pow_le_pow_right (n := 2) (by decide) hP
  omega
theorem sameNumber_self (x : Nat) (hx : x < 4294967296) (w : World) : Calls Try.prog 18 #[.float .f32 x, .float .f32 x] w fun e w' => e = .returned (.bool true) ∧ w = w' := by
  have H := Lib.hid (l01Same_any x x hx hx w)
  have e0 : sameN (cn .f32 x) (cn .f32 x) = true := by simp [sameN]
  rw [e0] at H
  go_enter Try.func18, Try.ntmps18
  go_wp2_with fail
  refine H.out.mono ?_
  rintro e w1 ⟨rfl, rfl⟩
  go_wp2_with fail
  go_ret
  exact ⟨rfl, rfl⟩
theorem ChG.half_num {P : Nat} {ns C : List Nat} (G : ChG P ns C) : Num .f32 (chS P ns (List.replicate P 1056964608)) ∧ Num .f32 (sumP [ns] (List.replicate P 1056964608) P 1 (2 ^ P)) := by
  obtain ⟨Q, n1, n2, -⟩ := G.halves
  exact ⟨n1.1, n2.1⟩
end Go.Proofs.Ytgmdoboeenpjpaa
