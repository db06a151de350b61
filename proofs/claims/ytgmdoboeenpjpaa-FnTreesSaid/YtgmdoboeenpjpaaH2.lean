
/- A tree that is drawn: what the law compares. Plain. Conditions: a valid tree and valid systems of one to five parts, shares that are drawn. -/
import Derived.Test.YtgmdoboeenpjpaaVB
import Derived.Test.YtgmdoboeenpjpaaVK
import Derived.Test.YtgmdoboeenpjpaaZ5
import Derived.Test.YtgmdoboeenpjpaaVD
namespace Go.Proofs.Ytgmdoboeenpjpaa
open Go Go.RowKit Go.ChangeShapes Go.WideShapes Go.ChangeAt

attribute [local irreducible] tw LX pop
theorem two5 {P : Nat} (h : P ≤ 5) : 2 ^ P ≤ 32 := Nat.pow_le_pow_right (n := 2) (by decide) h
theorem tr_tc {P : Nat} {gs : List Gt} (ht : treeOk (P : Int) gs = true) : tcO (P : Int) gs = some (ups (lowL P (failN gs))) := by unfold tcO; rw [ht, Int.toNat_natCast]; rfl
theorem tr_any {P : Nat} {gs : List Gt} (hP : P ≤ 5) {s : Nat} (hs : s < 2 ^ P) : (lowL P (failN gs)).any (fun c => hasB s c) = failN gs s := by
  have h32 := two5 hP
  refine cutsT_any (by omega) (fun s t hs ht h hf => failN_mono (by omega) (by omega) h hf) (fun q => ?_) hs
  unfold lowL lowB
  rw [List.mem_filter, List.mem_range, Bool.and_eq_true, List.all_eq_true]
  constructor
  · rintro ⟨h1, h2, h3⟩
    refine ⟨h1, h2, fun b hb hq => ?_⟩
    have := h3 b (List.mem_range.2 hb)
    rw [hq] at this
    simpa using this
  · rintro ⟨h1, h2, h3⟩
    refine ⟨h1, h2, fun b hb => ?_⟩
    cases hq : q.testBit b
    · rfl
    · rw [h3 b (List.mem_range.1 hb) hq]; rfl
theorem tr_cut {P : Nat} {f : Nat → Bool} {c : Nat} (h : c ∈ lowL P f) : c < 2 ^ P := by unfold lowL at h; rw [List.mem_filter, List.mem_range] at h; exact h.1
theorem tr_fb {P : Nat} {gs : List Gt} (ht : treeOk (P : Int) gs = true) {s : Nat} (hs : s < 2 ^ P) : fbOk (P : Int) (s : Int) gs = true ∧ fbRes (P : Int) (s : Int) gs = failN gs s := by
  have e : (2 : Int) ^ P = ((2 ^ P : Nat) : Int) := by rw [Int.natCast_pow]; rfl
  have h1 : fbOk (P : Int) (s : Int) gs = true := by
    unfold fbOk
    rw [ht, Int.toNat_natCast, e, inB_true (by omega) (by omega)]; rfl
  refine ⟨h1, ?_⟩
  unfold fbRes
  rw [h1, Bool.true_and]; rfl
/-- What a tree's diagram tells. -/
theorem tr_td {P : Nat} {gs : List Gt} {C : List Nat} (ht : treeOk (P : Int) gs = true) (h1 : 1 ≤ P) (hP : P ≤ 5) (hC : Shs C) (hl : C.length = P) :
    tdO (P : Int) gs = none ∨ ∃ D v, tdO (P : Int) gs = some D ∧ dcRes D (C.map (cn .f32)) = some v ∧ Nr .f32 v (Ex (cR C) P (ind (failN gs))) (3 / 10000) := by
  unfold tdO
  rw [ht, Int.toNat_natCast, hC.map]
  by_cases h : (tellP (failN gs) P 0 0 []).1 < 0
  · exact .inl (by rw [if_pos rfl, if_pos h])
  · have hs : C.all shareB = true := by
      rw [List.all_eq_true]
      intro b hb
      obtain ⟨n, h0, h1, _⟩ := hC b hb
      have := share_of n h0 h1
      rwa [n.cn] at this
    obtain ⟨v, e, nr⟩ := diagram_near h1 hP hl (hl ▸ hC.shr) hs (failN gs) h
    exact .inr ⟨_, v, by rw [if_pos rfl, if_neg h], e, nr⟩
theorem kMD_val : Num .f64 13785626545772145148 ∧ fv .f64 13785626545772145148 ≤ -999 / 1000000 := by
  have h : (FloatKind.f64).format.read 13785626545772145148 = .number true 4611686018427388 (-62) := by decide +kernel
  refine ⟨⟨_, _, _, h⟩, ?_⟩
  rw [fv_eq h]
  have h1 := tw_neg 62
  have h2 : tw (-((62 : Nat) : Int)) = tw (-62) := rfl
  have h3 : ((2 ^ 62 : Nat) : Rat) = 4611686018427387904 := rfl
  have h4 : ((4611686018427388 : Nat) : Rat) = 4611686018427388 := rfl
  rw [h2, h3] at h1
  simp only [if_true, h4]
  grind
/-! ### Phases -/
theorem ph_row {P : Nat} {ns : List Nat} (hsys : sysB (P : Int) (ups ns) = true) (hP : P ≤ 5) (kv : Value) : phRow (P : Int) ⟨(P : Int), kv, ups ns⟩ = true := by
  show (sysB (P : Int) (ups ns) && (decide ((P : Int) = (P : Int)) && decide ((P : Int) ≤ 6))) = true
  rw [hsys, decide_eq_true rfl, decide_eq_true (by omega)]; rfl
theorem ph_1 {P : Nat} {ns C : List Nat} (hsys : sysB (P : Int) (ups ns) = true) (hP5 : P ≤ 5) (hC : Shs C) (hl : C.length = P) (kv : Value) : phO [⟨(P : Int), kv, ups ns⟩] C = some (sumP [ns] C P 1 (2 ^ P)) := by
  have h := hC.chances
  rw [hl] at h
  have e1 : phHead [(⟨(P : Int), kv, ups ns⟩ : Sy)] = (P : Int) := rfl
  have e3 : phOk [(⟨(P : Int), kv, ups ns⟩ : Sy)] C = true := by
    unfold phOk
    rw [e1]
    simp only [List.length_singleton, List.all_cons, List.all_nil, ph_row hsys hP5 kv, Bool.and_true]
    have : (P : Int) * ((1 : Nat) : Int) = (P : Int) := by omega
    rw [this, h]; rfl
  unfold phO
  rw [e3, e1, Int.toNat_natCast, hC.map]
  show some (sumP (dn [(⟨(P : Int), kv, ups ns⟩ : Sy)]) C P 1 (2 ^ P)) = _
  unfold dn
  simp only [List.map_cons, List.map_nil, downs_ups]
theorem ph_2 {P : Nat} {A B E : List Nat} (hA : sysB (P : Int) (ups A) = true) (hB : sysB (P : Int) (ups B) = true) (hP5 : P ≤ 5) (hE : Shs E) (hl : E.length = 2 * P) (ka kb : Value) : phO [⟨(P : Int), ka, ups A⟩, ⟨(P : Int), kb, ups B⟩] E = some (sumP [A, B] E P 2 (3 ^ P)) := by
  have h := hE.chances
  rw [hl] at h
  have e1 : phHead [(⟨(P : Int), ka, ups A⟩ : Sy), ⟨(P : Int), kb, ups B⟩] = (P : Int) := rfl
  have e3 : phOk [(⟨(P : Int), ka, ups A⟩ : Sy), ⟨(P : Int), kb, ups B⟩] E = true := by
    unfold phOk
    rw [e1]
    simp only [List.length_cons, List.length_nil, List.all_cons, List.all_nil, ph_row hA hP5 ka, ph_row hB hP5 kb, Bool.and_true]
    have : (P : Int) * ((0 + 1 + 1 : Nat) : Int) = ((2 * P : Nat) : Int) := by omega
    rw [this, h]; rfl
  unfold phO
  rw [e3, e1, Int.toNat_natCast, hE.map]
  show some (sumP (dn [(⟨(P : Int), ka, ups A⟩ : Sy), ⟨(P : Int), kb, ups B⟩]) E P 2 (3 ^ P)) = _
  unfold dn
  simp only [List.map_cons, List.map_nil, downs_ups]
/-- Two phases work no more likely than the first, nearly. -/
theorem tr_ph {P : Nat} {A B C D : List Nat} (hP : P ≤ 5) (hC : Shs C) (hD : Shs D) (hcl : C.length = P) (hdl : D.length = P) :
    Num .f32 (sumP [A, B] (C ++ D) P 2 (3 ^ P)) ∧ Num .f32 (sumP [A] C P 1 (2 ^ P)) ∧ Num .f64 (fop .add .f64 (wide (sumP [A] C P 1 (2 ^ P))) k001) ∧
    fcmp .lss .f64 (cn .f64 (wide (sumP [A, B] (C ++ D) P 2 (3 ^ P)))) (cn .f64 (fop .add .f64 (wide (sumP [A] C P 1 (2 ^ P))) k001)) = true ∧
    fcmp .gtr .f64 (cn .f64 (wide (sumP [A, B] (C ++ D) P 2 (3 ^ P)))) (cn .f64 13785626545772145148) = true := by
  have hE : Shs (C ++ D) := fun b hb => (List.mem_append.1 hb).elim (hC b) (hD b)
  have sE : ShR (2 * P) (C ++ D) := by
    have := hE.shr
    rwa [show (C ++ D).length = 2 * P by rw [List.length_append]; omega] at this
  have sC : ShR (1 * P) C := by
    have := hC.shr
    rwa [show C.length = 1 * P by omega] at this
  have hlow : ∀ i, i < P → cR C i = cR (C ++ D) i := fun i hi => by
    unfold cR; rw [List.getD_eq_getElem?_getD, List.getD_eq_getElem?_getD, List.getElem?_append_left (by omega)]
  obtain ⟨g1, g2, g3, g4, g5⟩ := phR_two (na := A) (nb := B) (C := cR (C ++ D)) (D := cR C) (P := P) sE.inU hlow
  obtain ⟨nx, x1, x2⟩ := phase_near (ss := [A, B]) sE hP (by decide) ⟨g2, g3⟩
  obtain ⟨ny, y1, y2⟩ := phase_near (ss := [A]) sC hP (by decide) ⟨g4, g5⟩
  replace nx : Num .f32 (sumP [A, B] (C ++ D) P 2 (3 ^ P)) := nx
  replace ny : Num .f32 (sumP [A] C P 1 (2 ^ P)) := ny
  replace x1 : fv .f32 (sumP [A, B] (C ++ D) P 2 (3 ^ P)) ≤ _ := x1
  replace x2 : _ ≤ fv .f32 (sumP [A, B] (C ++ D) P 2 (3 ^ P)) + _ := x2
  replace y1 : fv .f32 (sumP [A] C P 1 (2 ^ P)) ≤ _ := y1
  replace y2 : _ ≤ fv .f32 (sumP [A] C P 1 (2 ^ P)) + _ := y2
  generalize sumP [A, B] (C ++ D) P 2 (3 ^ P) = x at *
  generalize sumP [A] C P 1 (2 ^ P) = y at *
  generalize phR [A, B] (cR (C ++ D)) P 2 = X at *
  generalize phR [A] (cR C) P 1 = Y at *
  obtain ⟨a, -, b⟩ := cmp_high nx ny (by grind) (by grind) (by grind)
  obtain ⟨m1, m2⟩ := kMD_val
  obtain ⟨w1, w2⟩ := wide_val nx
  refine ⟨nx, ny, a, b, ?_⟩
  rw [w1.cn, m1.cn, gtrF_val w1 m1, decide_eq_true_eq, w2]
  grind
theorem tr_gap {P v : Nat} {f : Nat → Bool} {C : List Nat} (hP : P ≤ 5) (hC : ShR P C) (hv : Nr .f32 v (Ex (cR C) P (ind f)) (3 / 10000)) : ∀ W, Calls Try.prog 13 #[.float .f64 (wide v), .float .f64 (sD f C P (2 ^ P))] W fun e w' => ∃ z, e = .returned (.float .f64 z) ∧ fcmp .gtr .f64 (cn .f64 z) (cn .f64 k001) = false ∧ Ext W w' := by
  intro W
  obtain ⟨n, l, u⟩ := hv
  obtain ⟨n2, l2, u2⟩ := sD_all (f := f) hP hC
  obtain ⟨w1, w2⟩ := wide_val n
  have he : ep ≤ 1 / 9000 := by decide +kernel
  refine (b10Gap_num _ _ (6 / 10000) W w1 n2 (by rw [w2]; grind) (by rw [w2]; grind) (by decide +kernel)).mono ?_
  rintro e w' ⟨z, rfl, ⟨nz, hz⟩, X⟩
  exact ⟨z, rfl, (cmp_gap nz (Rat.le_trans hz (by decide +kernel))).1, X⟩
theorem tr_ys {o : Option (Int × List Int)} {p : Int} {zs : List Int} {w w' : World} {e : Ending} (h : YsPost o w e w') (ho : o = some (p, zs)) :
    ∃ g cap, e = .returned (.tuple #[.agg #[.int .i64 p, .slice (some ⟨g, 0, none⟩) zs.length cap], .bool true]) ∧ Ext w w' ∧ RdI w' (.slice (some ⟨g, 0, none⟩) zs.length cap) zs := by
  subst ho
  obtain ⟨X, g, cap, rfl, own⟩ := h
  exact ⟨g, cap, rfl, X, own_rd own⟩
theorem tr_zl {o : Option (List Int)} {zs : List Int} {w w' : World} {e : Ending} (h : ZlPost o w e w') (ho : o = some zs) :
    ∃ g cap, e = .returned (.tuple #[.slice (some ⟨g, 0, none⟩) zs.length cap, .bool true]) ∧ Ext w w' ∧ RdI w' (.slice (some ⟨g, 0, none⟩) zs.length cap) zs := by
  subst ho
  obtain ⟨X, g, cap, rfl, own⟩ := h
  exact ⟨g, cap, rfl, X, own_rd own⟩
end Go.Proofs.Ytgmdoboeenpjpaa
