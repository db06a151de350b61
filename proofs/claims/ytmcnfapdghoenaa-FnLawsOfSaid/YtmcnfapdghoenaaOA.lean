
/- Contracts: powers, survivors, hazards, densities of a law. Conditions: in the theorems. -/
import Derived.Test.YtmcnfapdghoenaaO1
import Derived.Test.YtmcnfapdghoenaaEM
namespace Go.Proofs.Ytmcnfapdghoenaa
open Go Go.RowKit Go.ChangeShapes Go.WideShapes Go.ChangeAt

attribute [local irreducible] tw EX expX logF
theorem logNumber_v {x l : Nat} (hb : x < 4294967296) (nx : Num .f32 x) (hl : logF x = l) (nl : Num .f32 l) (w : World) :
    Calls Try.prog 23 #[.float .f32 x] w fun e w' => e = .returned (.float .f32 l) ∧ Ext w w' := by
  refine (logNumber_any x w hb).mono ?_
  rintro e w' ⟨b, rfl, h, _, X⟩
  rw [nx.cn, hl] at h
  exact ⟨by rw [bits_of h nl.notN], X⟩
/-- p is x to the power of y. -/
def PowV (y x p : Nat) : Prop := (fcmp .eql .f32 (cn .f32 x) (cn .f32 0) = true ∧ p = 0) ∨
  (fcmp .eql .f32 (cn .f32 x) (cn .f32 0) = false ∧ ∃ l z, logF x = l ∧ Num .f32 l ∧ FopV .mul .f32 y l z ∧ Num .f32 z ∧ fv .f32 z ≤ 8 ∧ expX z = p)
theorem powered_v {y x p : Nat} (hb : x < 4294967296) (nx : Num .f32 x) (h : PowV y x p) (w : World) :
    Calls Try.prog 24 #[.float .f32 x, .float .f32 y] w fun e w' => e = .returned (.float .f32 p) ∧ Ext w w' := by
  rcases h with ⟨h0, rfl⟩ | ⟨h0, l, z, hl, nl, hz, nz, h8, hp⟩
  · clear hb nx
    go_enter Try.func24, Try.ntmps24
    go_wp2_with (refine wpList_fcmp rfl rfl rfl rfl rfl (by first | with_reducible assumption | exact rfl) ?_)
    go_ret
    exact ⟨rfl, Ext.refl _⟩
  · have HL := Lib.hid (logNumber_v hb nx hl nl)
    have HE := Lib.hid (fun w => expNumber_x (p := p) w nz h8 hp)
    clear hb nx hl nl nz h8 hp
    go_enter Try.func24, Try.ntmps24
    go_wp2_with (refine wpList_fcmp rfl rfl rfl rfl rfl (by first | with_reducible assumption | exact rfl) ?_)
    refine (HL.out _).mono ?_
    rintro e w1 ⟨rfl, X⟩
    go_wp2_with (first | (refine wpList_fopV rfl rfl rfl rfl (by with_reducible assumption) ?_))
    refine (HE.out _).mono ?_
    rintro e w2 ⟨rfl, hx⟩
    replace X := X.trans hx
    clear hx
    go_wp2_with fail
    go_ret
    exact ⟨rfl, X⟩
/-- s is how likely one survives t. -/
def SurvV (k : Int) (y c t s : Nat) : Prop := ∃ x, FopV .quo .f32 t c x ∧ Num .f32 x ∧
  ((k = 0 ∧ ∃ n, FopV .sub .f32 0 x n ∧ Num .f32 n ∧ fv .f32 n ≤ 8 ∧ expX n = s) ∨
   (k = 1 ∧ ∃ p n, PowV y x p ∧ FopV .sub .f32 0 p n ∧ Num .f32 n ∧ fv .f32 n ≤ 8 ∧ expX n = s) ∨
   (k = 2 ∧ ∃ p q, PowV y x p ∧ FopV .add .f32 1065353216 p q ∧ FopV .quo .f32 1065353216 q s) ∨
   (k = 3 ∧ ((fcmp .gtr .f32 (cn .f32 x) (cn .f32 1065353216) = true ∧ s = 0) ∨ (fcmp .gtr .f32 (cn .f32 x) (cn .f32 1065353216) = false ∧ FopV .sub .f32 1065353216 x s))))
set_option maxHeartbeats 1000000 in
theorem survives_v {k : Int} {y c t s : Nat} (h : SurvV k y c t s) (w : World) :
    Calls Try.prog 20 #[lawV k y c, .float .f32 t] w fun e w' => e = .returned (.float .f32 s) ∧ Ext w w' := by
  unfold lawV
  obtain ⟨x, hx, nx, h⟩ := h
  have hb : x < 4294967296 := hx.2
  rcases h with ⟨rfl, n, h1, nn, n8, he⟩ | ⟨rfl, p, n, hp, h1, nn, n8, he⟩ | ⟨rfl, p, q, hp, h1, h2⟩ | ⟨rfl, ⟨h1, rfl⟩ | ⟨h1, h2⟩⟩
  · have HE := Lib.hid (fun w => expNumber_x (p := s) w nn n8 he)
    clear nx nn n8 he hb
    go_enter Try.func20, Try.ntmps20
    go_wp2_with (first | (refine wpList_fopV rfl rfl rfl rfl (by with_reducible assumption) ?_))
    refine (HE.out _).mono ?_
    rintro e w2 ⟨rfl, X⟩
    replace X := (Ext.alloc _ _).trans X
    go_wp2_with fail
    go_ret
    exact ⟨rfl, X⟩
  · have HP := Lib.hid (powered_v hb nx hp)
    have HE := Lib.hid (fun w => expNumber_x (p := s) w nn n8 he)
    clear nx nn n8 he hb hp
    go_enter Try.func20, Try.ntmps20
    go_wp2_with (first | (refine wpList_fopV rfl rfl rfl rfl (by with_reducible assumption) ?_))
    refine (HP.out _).mono ?_
    rintro e w2 ⟨rfl, X⟩
    replace X := (Ext.alloc _ _).trans X
    go_wp2_with (first | (refine wpList_fopV rfl rfl rfl rfl (by with_reducible assumption) ?_))
    refine (HE.out _).mono ?_
    rintro e w3 ⟨rfl, hx⟩
    replace X := X.trans hx
    clear hx
    go_wp2_with fail
    go_ret
    exact ⟨rfl, X⟩
  · have HP := Lib.hid (powered_v hb nx hp)
    clear nx hb hp
    go_enter Try.func20, Try.ntmps20
    go_wp2_with (first | (refine wpList_fopV rfl rfl rfl rfl (by with_reducible assumption) ?_))
    refine (HP.out _).mono ?_
    rintro e w2 ⟨rfl, X⟩
    replace X := (Ext.alloc _ _).trans X
    go_wp2_with (first | (refine wpList_fopV rfl rfl rfl rfl (by with_reducible assumption) ?_))
    go_ret
    exact ⟨rfl, X⟩
  · clear nx hb
    go_enter Try.func20, Try.ntmps20
    go_wp2_with (first | (refine wpList_fopV rfl rfl rfl rfl (by with_reducible assumption) ?_) | (refine wpList_fcmp rfl rfl rfl rfl rfl (by first | with_reducible assumption | exact rfl) ?_))
    go_ret
    exact ⟨rfl, Ext.alloc _ _⟩
  · clear nx hb
    go_enter Try.func20, Try.ntmps20
    go_wp2_with (first | (refine wpList_fopV rfl rfl rfl rfl (by with_reducible assumption) ?_) | (refine wpList_fcmp rfl rfl rfl rfl rfl (by first | with_reducible assumption | exact rfl) ?_))
    go_ret
    exact ⟨rfl, Ext.alloc _ _⟩
end Go.Proofs.Ytmcnfapdghoenaa
/- Contracts: survivors, hazards, densities of a law with what says that there is one. Conditions: in the theorems. -/
namespace Go.Proofs.Ytmcnfapdghoenaa
open Go Go.RowKit Go.ChangeShapes Go.WideShapes Go.ChangeAt

attribute [local irreducible] tw EX expX logF
/-! ### Numbers are finite -/
theorem sub_self0 {x : Nat} (n : Num .f32 x) : Num .f32 (fop .sub .f32 x x) ∧ fv .f32 (fop .sub .f32 x x) = 0 := by
  have h100 := tw100
  obtain ⟨⟨m, -, -⟩, a, b⟩ := (wr_sub n n).nr (A := 0) (by grind) (by grind) (by grind)
  exact ⟨m, by have := a (by grind); have := b (by grind); grind⟩
theorem cn_zero : cn .f32 0 = 0 := by decide +kernel
theorem finB_of {x : Nat} (n : Num .f32 x) : finB (cn .f32 x) = true := by
  obtain ⟨m, v⟩ := sub_self0 n
  obtain ⟨z1, z2⟩ := zeroF_val
  rw [n.cn]
  unfold finB
  rw [cn_zero, eql_val m z1, v, z2]; rfl
theorem leastB_of {x : Nat} (n : Num .f32 x) (h : 0 ≤ fv .f32 x) : leastB (cn .f32 x) = true := by
  obtain ⟨z1, z2⟩ := zeroF_val
  have f := finB_of n
  unfold leastB
  rw [f, n.cn, cn_zero, geq_val n z1, z2, decide_eq_true h]; rfl
theorem aboveB_of {x : Nat} (n : Num .f32 x) (h : 0 < fv .f32 x) : aboveB (cn .f32 x) = true := by
  obtain ⟨z1, z2⟩ := zeroF_val
  have f := finB_of n
  unfold aboveB
  rw [f, n.cn, cn_zero, gtrF_val n z1, z2, decide_eq_true h]; rfl
theorem ifFinite_v {b : Nat} (n : Num .f32 b) (w : World) : Calls Try.prog 19 #[.float .f32 b] w fun e w' => e = .returned (.tuple #[.float .f32 b, .bool true]) ∧ Ext w w' := by
  have HF := Lib.hid (finB_of n)
  clear n
  go_enter Try.func19, Try.ntmps19
  go_wp2_with fail
  refine (isFinite_eq HF.out _).mono ?_
  rintro e w1 ⟨rfl, X⟩
  go_wp2_with fail
  go_ret2
  exact ⟨rfl, X⟩
theorem isTime_v {k : Int} {y c t : Nat} (h : LawB k y c) (n : Num .f32 t) (h0 : 0 ≤ fv .f32 t) (hb : t < 4294967296) (w : World) :
    Calls Try.prog 18 #[lawV k y c, .float .f32 t] w fun e w' => e = .returned (.bool true) ∧ Ext w w' := by
  have HV := Lib.hid (fun w => validLaw_any h w)
  have HL := Lib.hid (leastB_of n h0)
  have HB := Lib.hid hb
  clear h n h0 hb
  unfold lawV at *
  go_enter Try.func18, Try.ntmps18
  go_wp2_with fail
  refine (HV.out _).mono ?_
  rintro e w1 ⟨rfl, X⟩
  replace X := (Ext.alloc _ _).trans X
  go_wp2_with fail
  refine (areNotLess_one HL.out _ _ (RdF_one _ t HB.out)).mono ?_
  rintro e w2 ⟨rfl, hx⟩
  replace X := X.trans ((Ext.alloc _ _).trans hx)
  clear hx
  go_wp2_with fail
  go_ret
  exact ⟨rfl, X⟩
theorem lawSurvives_v {k : Int} {y c t s : Nat} (h : LawB k y c) (n : Num .f32 t) (h0 : 0 ≤ fv .f32 t) (hb : t < 4294967296) (hs : SurvV k y c t s) (ns : Num .f32 s) (w : World) :
    Calls Try.prog 7 #[lawV k y c, .float .f32 t] w fun e w' => e = .returned (.tuple #[.float .f32 s, .bool true]) ∧ Ext w w' := by
  have HV := Lib.hid (fun w => isTime_v h n h0 hb w)
  have HS := Lib.hid (fun w => survives_v hs w)
  have HF := Lib.hid (fun w => ifFinite_v ns w)
  clear h n h0 hb hs ns
  unfold lawV at *
  go_enter Try.func7, Try.ntmps7
  have b0 := Bx.new w [.int .i64 k, .float .f32 y, .float .f32 c] 26
  go_wp2_with fail
  refine (HV.out _).mono ?_
  rintro e w1 ⟨rfl, X⟩
  obtain ⟨k0, k1, k2⟩ := (b0.ext X).three
  replace X := (Ext.alloc _ _).trans X
  clear b0
  go_wp2_with fail
  refine (HS.out _).mono ?_
  rintro e w2 ⟨rfl, hx⟩
  replace X := X.trans hx
  clear hx
  go_wp2_with fail
  refine (HF.out _).mono ?_
  rintro e w3 ⟨rfl, hx⟩
  replace X := X.trans hx
  clear hx
  go_wp2_with fail
  go_ret2
  exact ⟨rfl, X⟩
end Go.Proofs.Ytmcnfapdghoenaa
/- Contracts: hazards and densities of a law. Conditions: in the theorems. -/
namespace Go.Proofs.Ytmcnfapdghoenaa
open Go Go.RowKit Go.ChangeShapes Go.WideShapes Go.ChangeAt

attribute [local irreducible] tw EX expX logF LX
section
variable {P : Program} {ops : Array Oper} {w0 : World} {SC : Nat → Value → Prop} {AC : Nat → Value → World → Prop} {QL : Act → World → Prop} {o : Oper} {rest : List Oper} {a : Act} {i : Nat} {Γ : Tmp → World → Prop}
theorem LX_fopV {op : BinOp} {t t' : TypeId} {x y : Operand} {k : FloatKind} {p q V : Nat} (hw : Region.wanted o (yielded ops a.tmps) = true) (hop : o.op = .binOp op t x y t')
    (hx : a.eval x = .float k p) (hy : a.eval y = .float k q) (h : FopV op k p q V)
    (hK : LX P ops w0 SC AC QL (i + 1) rest (upC Γ o.dst fun _ => True) (a.put o.dst (.float k V))) : LX P ops w0 SC AC QL i (o :: rest) Γ a := by
  refine LX_det (.float k V) hw (by unfold isCallB; rw [hop]) (fun w _ _ => ?_) hK
  have hrun := h.run P t w
  simp [execOp, hop, hx, hy, eqGuard_at_float, hrun, Result.andThen]
end
/-- The hazard at t. -/
def HazV (k : Int) (y c t h : Nat) : Prop := ∃ x, FopV .quo .f32 t c x ∧ Num .f32 x ∧
  ((k = 0 ∧ FopV .quo .f32 1065353216 c h) ∨
   (k = 1 ∧ fcmp .gtr .f32 (cn .f32 t) (cn .f32 0) = true ∧ ∃ a z p, FopV .quo .f32 y c a ∧ FopV .sub .f32 y 1065353216 z ∧ PowV z x p ∧ FopV .mul .f32 a p h) ∨
   (k = 2 ∧ fcmp .gtr .f32 (cn .f32 t) (cn .f32 0) = true ∧ ∃ a z p g r q, FopV .quo .f32 y c a ∧ FopV .sub .f32 y 1065353216 z ∧ PowV z x p ∧ FopV .mul .f32 a p g ∧ PowV y x r ∧ FopV .add .f32 1065353216 r q ∧ FopV .quo .f32 g q h) ∨
   (k = 3 ∧ ∃ d, FopV .sub .f32 c t d ∧ fcmp .gtr .f32 (cn .f32 d) (cn .f32 0) = true ∧ FopV .quo .f32 1065353216 d h))
theorem hazard_0 {y c t x h : Nat} (hx : FopV .quo .f32 t c x) (h1 : FopV .quo .f32 1065353216 c h) (n : Num .f32 h) (w : World) :
    Calls Try.prog 22 #[lawV 0 y c, .float .f32 t] w fun e w' => e = .returned (.tuple #[.float .f32 h, .bool true]) ∧ Ext w w' := by
  have HF := Lib.hid (fun w => ifFinite_v n w)
  clear n
  unfold lawV
  go_enter Try.func22, Try.ntmps22
  go_wp2_with (first | (refine wpList_fopV rfl rfl rfl rfl (by with_reducible assumption) ?_))
  refine (HF.out _).mono ?_
  rintro e w2 ⟨rfl, X⟩
  replace X := (Ext.alloc _ _).trans X
  go_wp2_with fail
  go_ret2
  exact ⟨rfl, X⟩
theorem hazard_3 {y c t x d h : Nat} (hx : FopV .quo .f32 t c x) (h1 : FopV .sub .f32 c t d) (h2 : fcmp .gtr .f32 (cn .f32 d) (cn .f32 0) = true) (h3 : FopV .quo .f32 1065353216 d h) (n : Num .f32 h) (w : World) :
    Calls Try.prog 22 #[lawV 3 y c, .float .f32 t] w fun e w' => e = .returned (.tuple #[.float .f32 h, .bool true]) ∧ Ext w w' := by
  have HF := Lib.hid (fun w => ifFinite_v n w)
  clear n
  unfold lawV
  go_enter Try.func22, Try.ntmps22
  go_wp2_with (first | (refine wpList_fopV rfl rfl rfl rfl (by with_reducible assumption) ?_) | (refine wpList_fcmp rfl rfl rfl rfl rfl (by first | with_reducible assumption | exact rfl) ?_))
  refine (HF.out _).mono ?_
  rintro e w2 ⟨rfl, X⟩
  replace X := (Ext.alloc _ _).trans X
  go_wp2_with fail
  go_ret2
  exact ⟨rfl, X⟩
theorem hazard_no {y c t x d : Nat} (hx : FopV .quo .f32 t c x) (h1 : FopV .sub .f32 c t d) (h2 : fcmp .gtr .f32 (cn .f32 d) (cn .f32 0) = false) (w : World) :
    Calls Try.prog 22 #[lawV 3 y c, .float .f32 t] w fun e w' => e = .returned (.tuple #[.float .f32 0, .bool false]) ∧ Ext w w' := by
  unfold lawV
  go_enter Try.func22, Try.ntmps22
  go_wp2_with (first | (refine wpList_fopV rfl rfl rfl rfl (by with_reducible assumption) ?_) | (refine wpList_fcmp rfl rfl rfl rfl rfl (by first | with_reducible assumption | exact rfl) ?_))
  go_ret2
  exact ⟨rfl, Ext.alloc _ _⟩
set_option maxHeartbeats 1000000 in
theorem hazard_1 {y c t x a z p h : Nat} (hx : FopV .quo .f32 t c x) (nx : Num .f32 x) (ht : fcmp .gtr .f32 (cn .f32 t) (cn .f32 0) = true) (h1 : FopV .quo .f32 y c a) (h2 : FopV .sub .f32 y 1065353216 z) (hp : PowV z x p) (h3 : FopV .mul .f32 a p h) (n : Num .f32 h) (w : World) :
    Calls Try.prog 22 #[lawV 1 y c, .float .f32 t] w fun e w' => e = .returned (.tuple #[.float .f32 h, .bool true]) ∧ Ext w w' := by
  have HF := Lib.hid (fun w => ifFinite_v n w)
  have HP := Lib.hid (fun w => powered_v hx.2 nx hp w)
  clear n hp nx
  unfold lawV
  go_enter Try.func22, Try.ntmps22
  have b0 := Bx.new w [.int .i64 1, .float .f32 y, .float .f32 c] 26
  go_wp2_with (first | (refine wpList_fopV rfl rfl rfl rfl (by with_reducible assumption) ?_) | (refine wpList_fcmp rfl rfl rfl rfl rfl (by first | with_reducible assumption | exact rfl) ?_))
  refine wp_region_rel 12 (fun _ v => v = .float .f32 p) (fun _ _ _ => True) (by kernel_rfl) (by kernel_rfl) (by kernel_rfl) ?_
  dsimp only [List.take, List.drop, List.length]
  refine LX_det (.pointer (some ⟨w.heap.size, 1, none⟩)) (by kernel_rfl) rfl (fun w' hx _ => ?_) ?_
  · go_simp
  refine LX_det (.float .f32 y) (by kernel_rfl) rfl (fun w' hx _ => ?_) ?_
  · have m0 := (b0.ext hx).three.2.1
    go_simp
  refine LX_det (.pointer (some ⟨w.heap.size, 2, none⟩)) (by kernel_rfl) rfl (fun w' hx _ => ?_) ?_
  · go_simp
  refine LX_det (.float .f32 c) (by kernel_rfl) rfl (fun w' hx _ => ?_) ?_
  · have m0 := (b0.ext hx).three.2.2
    go_simp
  simp only [Act.put, List.setIfInBounds_toArray, List.set_cons_succ, List.set_cons_zero]
  refine LX_fopV (by kernel_rfl) rfl rfl rfl h1 ?_
  simp only [Act.put, List.setIfInBounds_toArray, List.set_cons_succ, List.set_cons_zero]
  refine LX_det (.float .f32 x) (by kernel_rfl) rfl (fun w' hx _ => ?_) ?_
  · go_simp
  refine LX_det (.pointer (some ⟨w.heap.size, 1, none⟩)) (by kernel_rfl) rfl (fun w' hx _ => ?_) ?_
  · go_simp
  refine LX_det (.float .f32 y) (by kernel_rfl) rfl (fun w' hx _ => ?_) ?_
  · have m0 := (b0.ext hx).three.2.1
    go_simp
  simp only [Act.put, List.setIfInBounds_toArray, List.set_cons_succ, List.set_cons_zero]
  refine LX_fopV (by kernel_rfl) rfl rfl rfl h2 ?_
  simp only [Act.put, List.setIfInBounds_toArray, List.set_cons_succ, List.set_cons_zero]
  refine LX_call (by kernel_rfl) rfl (fun _ => St.top) (fun w' hx _ => ?_) ?_
  · go_simp
    refine UponC.enter ((HP.out _).mono ?_)
    rintro e w'' ⟨rfl, hx'⟩
    exact ⟨_, rfl, hx', rfl, trivial⟩
  rintro _ rfl
  simp only [Act.put, List.setIfInBounds_toArray, List.set_cons_succ, List.set_cons_zero]
  refine LX_fopV (by kernel_rfl) rfl rfl rfl h3 ?_
  simp only [Act.put, List.setIfInBounds_toArray, List.set_cons_succ, List.set_cons_zero]
  refine LX_det (.float .f32 h) (by kernel_rfl) rfl (fun w' hx _ => ?_) ?_
  · go_simp
  refine LX_nil fun w2 X _ => ?_
  obtain ⟨k0, k1, k2⟩ := (b0.ext X).three
  replace X := (Ext.alloc _ _).trans X
  clear b0
  go_wp2_with (first | (refine wpList_fopV rfl rfl rfl rfl (by with_reducible assumption) ?_) | (refine wpList_fcmp rfl rfl rfl rfl rfl (by first | with_reducible assumption | exact rfl) ?_))
  refine (HF.out _).mono ?_
  rintro e w2 ⟨rfl, hx⟩
  replace X := X.trans hx
  go_wp2_with fail
  go_ret2
  exact ⟨rfl, X⟩
set_option maxHeartbeats 1000000 in
theorem hazard_2 {y c t x a z p g r q h : Nat} (hx : FopV .quo .f32 t c x) (nx : Num .f32 x) (ht : fcmp .gtr .f32 (cn .f32 t) (cn .f32 0) = true) (h1 : FopV .quo .f32 y c a) (h2 : FopV .sub .f32 y 1065353216 z) (hp : PowV z x p) (h3 : FopV .mul .f32 a p g) (hr : PowV y x r) (h4 : FopV .add .f32 1065353216 r q) (h5 : FopV .quo .f32 g q h) (n : Num .f32 h) (w : World) :
    Calls Try.prog 22 #[lawV 2 y c, .float .f32 t] w fun e w' => e = .returned (.tuple #[.float .f32 h, .bool true]) ∧ Ext w w' := by
  have HF := Lib.hid (fun w => ifFinite_v n w)
  have HP := Lib.hid (fun w => powered_v hx.2 nx hp w)
  have HR := Lib.hid (fun w => powered_v hx.2 nx hr w)
  clear n hp nx hr
  unfold lawV
  go_enter Try.func22, Try.ntmps22
  have b0 := Bx.new w [.int .i64 2, .float .f32 y, .float .f32 c] 26
  go_wp2_with (first | (refine wpList_fopV rfl rfl rfl rfl (by with_reducible assumption) ?_) | (refine wpList_fcmp rfl rfl rfl rfl rfl (by first | with_reducible assumption | exact rfl) ?_))
  refine wp_region_rel 12 (fun _ v => v = .float .f32 p) (fun _ _ _ => True) (by kernel_rfl) (by kernel_rfl) (by kernel_rfl) ?_
  dsimp only [List.take, List.drop, List.length]
  refine LX_det (.pointer (some ⟨w.heap.size, 1, none⟩)) (by kernel_rfl) rfl (fun w' hx _ => ?_) ?_
  · go_simp
  refine LX_det (.float .f32 y) (by kernel_rfl) rfl (fun w' hx _ => ?_) ?_
  · have m0 := (b0.ext hx).three.2.1
    go_simp
  refine LX_det (.pointer (some ⟨w.heap.size, 2, none⟩)) (by kernel_rfl) rfl (fun w' hx _ => ?_) ?_
  · go_simp
  refine LX_det (.float .f32 c) (by kernel_rfl) rfl (fun w' hx _ => ?_) ?_
  · have m0 := (b0.ext hx).three.2.2
    go_simp
  simp only [Act.put, List.setIfInBounds_toArray, List.set_cons_succ, List.set_cons_zero]
  refine LX_fopV (by kernel_rfl) rfl rfl rfl h1 ?_
  simp only [Act.put, List.setIfInBounds_toArray, List.set_cons_succ, List.set_cons_zero]
  refine LX_det (.float .f32 x) (by kernel_rfl) rfl (fun w' hx _ => ?_) ?_
  · go_simp
  refine LX_det (.pointer (some ⟨w.heap.size, 1, none⟩)) (by kernel_rfl) rfl (fun w' hx _ => ?_) ?_
  · go_simp
  refine LX_det (.float .f32 y) (by kernel_rfl) rfl (fun w' hx _ => ?_) ?_
  · have m0 := (b0.ext hx).three.2.1
    go_simp
  simp only [Act.put, List.setIfInBounds_toArray, List.set_cons_succ, List.set_cons_zero]
  refine LX_fopV (by kernel_rfl) rfl rfl rfl h2 ?_
  simp only [Act.put, List.setIfInBounds_toArray, List.set_cons_succ, List.set_cons_zero]
  refine LX_call (by kernel_rfl) rfl (fun _ => St.top) (fun w' hx _ => ?_) ?_
  · go_simp
    refine UponC.enter ((HP.out _).mono ?_)
    rintro e w'' ⟨rfl, hx'⟩
    exact ⟨_, rfl, hx', rfl, trivial⟩
  rintro _ rfl
  simp only [Act.put, List.setIfInBounds_toArray, List.set_cons_succ, List.set_cons_zero]
  refine LX_fopV (by kernel_rfl) rfl rfl rfl h3 ?_
  simp only [Act.put, List.setIfInBounds_toArray, List.set_cons_succ, List.set_cons_zero]
  refine LX_det (.float .f32 g) (by kernel_rfl) rfl (fun w' hx _ => ?_) ?_
  · go_simp
  refine LX_nil fun w2 X _ => ?_
  obtain ⟨k0, k1, k2⟩ := (b0.ext X).three
  replace X := (Ext.alloc _ _).trans X
  clear b0
  go_wp2_with (first | (refine wpList_fopV rfl rfl rfl rfl (by with_reducible assumption) ?_) | (refine wpList_fcmp rfl rfl rfl rfl rfl (by first | with_reducible assumption | exact rfl) ?_))
  refine (HR.out _).mono ?_
  rintro e w3 ⟨rfl, hx⟩
  replace X := X.trans hx
  clear hx
  go_wp2_with (first | (refine wpList_fopV rfl rfl rfl rfl (by with_reducible assumption) ?_) | (refine wpList_fcmp rfl rfl rfl rfl rfl (by first | with_reducible assumption | exact rfl) ?_))
  refine (HF.out _).mono ?_
  rintro e w4 ⟨rfl, hx⟩
  replace X := X.trans hx
  go_wp2_with fail
  go_ret2
  exact ⟨rfl, X⟩
theorem hazard_v {k : Int} {y c t h : Nat} (hv : HazV k y c t h) (n : Num .f32 h) (w : World) :
    Calls Try.prog 22 #[lawV k y c, .float .f32 t] w fun e w' => e = .returned (.tuple #[.float .f32 h, .bool true]) ∧ Ext w w' := by
  obtain ⟨x, hx, nx, ⟨rfl, h1⟩ | ⟨rfl, ht, a, z, p, h1, h2, hp, h3⟩ | ⟨rfl, ht, a, z, p, g, r, q, h1, h2, hp, h3, hr, h4, h5⟩ | ⟨rfl, d, h1, h2, h3⟩⟩ := hv
  · exact hazard_0 hx h1 n w
  · exact hazard_1 hx nx ht h1 h2 hp h3 n w
  · exact hazard_2 hx nx ht h1 h2 hp h3 hr h4 h5 n w
  · exact hazard_3 hx h1 h2 h3 n w
/-- What a hazard hands back: a number; or none. -/
def HzO (k : Int) (y c t : Nat) (o : Option Nat) : Prop := match o with
  | some h => HazV k y c t h ∧ Num .f32 h
  | none => k = 3 ∧ ∃ x d, FopV .quo .f32 t c x ∧ FopV .sub .f32 c t d ∧ fcmp .gtr .f32 (cn .f32 d) (cn .f32 0) = false
theorem hazard_o {k : Int} {y c t : Nat} {o : Option Nat} (hv : HzO k y c t o) (w : World) :
    Calls Try.prog 22 #[lawV k y c, .float .f32 t] w fun e w' => e = .returned (.tuple #[.float .f32 (o.getD 0), .bool o.isSome]) ∧ Ext w w' := by
  cases o with
  | some h => exact hazard_v hv.1 hv.2 w
  | none =>
    obtain ⟨rfl, x, d, h1, h2, h3⟩ := hv
    exact hazard_no h1 h2 h3 w
theorem lawHazard_v {k : Int} {y c t : Nat} {o : Option Nat} (h : LawB k y c) (n : Num .f32 t) (h0 : 0 ≤ fv .f32 t) (hb : t < 4294967296) (hv : HzO k y c t o) (w : World) :
    Calls Try.prog 9 #[lawV k y c, .float .f32 t] w fun e w' => e = .returned (.tuple #[.float .f32 (o.getD 0), .bool o.isSome]) ∧ Ext w w' := by
  have HV := Lib.hid (fun w => isTime_v h n h0 hb w)
  have HS := Lib.hid (fun w => hazard_o hv w)
  clear h n h0 hb hv
  generalize o.getD 0 = r at *
  generalize o.isSome = s at *
  unfold lawV at *
  go_enter Try.func9, Try.ntmps9
  have b0 := Bx.new w [.int .i64 k, .float .f32 y, .float .f32 c] 26
  go_wp2_with fail
  refine (HV.out _).mono ?_
  rintro e w1 ⟨rfl, X⟩
  obtain ⟨k0, k1, k2⟩ := (b0.ext X).three
  replace X := (Ext.alloc _ _).trans X
  clear b0
  go_wp2_with fail
  refine (HS.out _).mono ?_
  rintro e w2 ⟨rfl, hx⟩
  replace X := X.trans hx
  clear hx
  go_wp2_with fail
  go_ret2
  exact ⟨rfl, X⟩
theorem lawDensity_some {k : Int} {y c t h s d : Nat} (hl : LawB k y c) (n : Num .f32 t) (h0 : 0 ≤ fv .f32 t) (hb : t < 4294967296) (hv : HzO k y c t (some h)) (hs : SurvV k y c t s) (ns : Num .f32 s) (hd : FopV .mul .f32 h s d) (nd : Num .f32 d) (w : World) :
    Calls Try.prog 10 #[lawV k y c, .float .f32 t] w fun e w' => e = .returned (.tuple #[.float .f32 d, .bool true]) ∧ Ext w w' := by
  have HV := Lib.hid (fun w => lawHazard_v hl n h0 hb hv w)
  have HS := Lib.hid (fun w => lawSurvives_v hl n h0 hb hs ns w)
  have HF := Lib.hid (fun w => ifFinite_v nd w)
  clear hl n h0 hb hv hs ns nd
  unfold lawV at *
  go_enter Try.func10, Try.ntmps10
  have b0 := Bx.new w [.int .i64 k, .float .f32 y, .float .f32 c] 26
  go_wp2_with fail
  refine (HV.out _).mono ?_
  rintro e w1 ⟨rfl, X⟩
  obtain ⟨k0, k1, k2⟩ := (b0.ext X).three
  replace X := (Ext.alloc _ _).trans X
  clear b0
  simp only [Option.getD_some, Option.isSome_some]
  go_wp2_with fail
  refine (HS.out _).mono ?_
  rintro e w2 ⟨rfl, hx⟩
  replace X := X.trans hx
  clear hx
  go_wp2_with (first | (refine wpList_fopV rfl rfl rfl rfl (by with_reducible assumption) ?_))
  refine (HF.out _).mono ?_
  rintro e w2 ⟨rfl, hx⟩
  replace X := X.trans hx
  clear hx
  go_wp2_with fail
  go_ret2
  exact ⟨rfl, X⟩
theorem lawDensity_none {k : Int} {y c t s : Nat} (hl : LawB k y c) (n : Num .f32 t) (h0 : 0 ≤ fv .f32 t) (hb : t < 4294967296) (hv : HzO k y c t none) (hs : SurvV k y c t s) (ns : Num .f32 s) (w : World) :
    Calls Try.prog 10 #[lawV k y c, .float .f32 t] w fun e w' => e = .returned (.tuple #[.float .f32 0, .bool false]) ∧ Ext w w' := by
  have HV := Lib.hid (fun w => lawHazard_v hl n h0 hb hv w)
  have HS := Lib.hid (fun w => lawSurvives_v hl n h0 hb hs ns w)
  clear hl n h0 hb hv hs ns
  unfold lawV at *
  go_enter Try.func10, Try.ntmps10
  have b0 := Bx.new w [.int .i64 k, .float .f32 y, .float .f32 c] 26
  go_wp2_with fail
  refine (HV.out _).mono ?_
  rintro e w1 ⟨rfl, X⟩
  obtain ⟨k0, k1, k2⟩ := (b0.ext X).three
  replace X := (Ext.alloc _ _).trans X
  clear b0
  simp only [Option.getD_none, Option.isSome_none]
  go_wp2_with fail
  refine (HS.out _).mono ?_
  rintro e w2 ⟨rfl, hx⟩
  replace X := X.trans hx
  clear hx
  go_wp2_with fail
  go_ret2
  exact ⟨rfl, X⟩
end Go.Proofs.Ytmcnfapdghoenaa
