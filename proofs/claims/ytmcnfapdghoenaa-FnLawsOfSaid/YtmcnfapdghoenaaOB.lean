
/- Contracts: the time that a share survives, means. Conditions: in the theorems. -/
import Derived.Test.YtmcnfapdghoenaaOA
namespace Go.Proofs.Ytmcnfapdghoenaa
open Go Go.RowKit Go.ChangeShapes Go.WideShapes Go.ChangeAt

attribute [local irreducible] tw EX expX logF LX
/-- t is the time that a share survives. -/
def TimeV (k : Int) (y c sh t : Nat) : Prop := ∃ l0 l x, logF sh = l0 ∧ Num .f32 l0 ∧ FopV .sub .f32 0 l0 l ∧ FopV .mul .f32 c x t ∧
  ((k = 0 ∧ x = l) ∨
   (k = 1 ∧ ∃ z, Num .f32 l ∧ FopV .quo .f32 1065353216 y z ∧ PowV z l x) ∨
   (k = 2 ∧ ∃ d q z, FopV .sub .f32 1065353216 sh d ∧ FopV .quo .f32 d sh q ∧ Num .f32 q ∧ FopV .quo .f32 1065353216 y z ∧ PowV z q x) ∨
   (k = 3 ∧ FopV .sub .f32 1065353216 sh x))
set_option maxHeartbeats 1000000 in
theorem lawTime_v {k : Int} {y c sh t : Nat} (h : LawB k y c) (n : Num .f32 sh) (hb : sh < 4294967296) (g1 : fcmp .gtr .f32 (cn .f32 sh) (cn .f32 0) = true) (g2 : fcmp .lss .f32 (cn .f32 sh) (cn .f32 1065353216) = true)
    (hv : TimeV k y c sh t) (nt : Num .f32 t) (w : World) :
    Calls Try.prog 12 #[lawV k y c, .float .f32 sh] w fun e w' => e = .returned (.tuple #[.float .f32 t, .bool true]) ∧ Ext w w' := by
  obtain ⟨l0, l, x, hl, nl, h1, h2, hk⟩ := hv
  have HV := Lib.hid (fun w => validLaw_any h w)
  have HL := Lib.hid (fun w => logNumber_v hb n hl nl w)
  have HF := Lib.hid (fun w => ifFinite_v nt w)
  clear n hb hl nl nt h
  rcases hk with ⟨rfl, rfl⟩ | ⟨rfl, z, nl, h3, hp⟩ | ⟨rfl, d, q, z, h3, h4, nq, h5, hp⟩ | ⟨rfl, h3⟩
  · unfold lawV at *
    go_enter Try.func12, Try.ntmps12
    have b0 := Bx.new w [.int .i64 0, .float .f32 y, .float .f32 c] 26
    go_wp2_with fail
    refine (HV.out _).mono ?_
    rintro e w1 ⟨rfl, X⟩
    replace b0 := b0.ext X
    replace X := (Ext.alloc _ _).trans X
    go_wp2_with (refine wpList_fcmp rfl rfl rfl rfl rfl (by first | with_reducible assumption | exact rfl) ?_)
    refine (HL.out _).mono ?_
    rintro e w2 ⟨rfl, hx⟩
    obtain ⟨k0, k1, k2⟩ := (b0.ext hx).three
    replace X := X.trans hx
    clear hx b0
    go_wp2_with (first | (refine wpList_fopV rfl rfl rfl rfl (by with_reducible assumption) ?_) | (refine wpList_fcmp rfl rfl rfl rfl rfl (by first | with_reducible assumption | exact rfl) ?_))
    refine (HF.out _).mono ?_
    rintro e w4 ⟨rfl, hx⟩
    replace X := X.trans hx
    go_wp2_with fail
    go_ret2
    exact ⟨rfl, X⟩
  · have HP := Lib.hid (powered_v h1.2 nl hp)
    clear nl hp
    unfold lawV at *
    go_enter Try.func12, Try.ntmps12
    have b0 := Bx.new w [.int .i64 1, .float .f32 y, .float .f32 c] 26
    go_wp2_with fail
    refine (HV.out _).mono ?_
    rintro e w1 ⟨rfl, X⟩
    replace b0 := b0.ext X
    replace X := (Ext.alloc _ _).trans X
    go_wp2_with (refine wpList_fcmp rfl rfl rfl rfl rfl (by first | with_reducible assumption | exact rfl) ?_)
    refine (HL.out _).mono ?_
    rintro e w2 ⟨rfl, hx⟩
    replace b0 := b0.ext hx
    obtain ⟨k0, k1, k2⟩ := b0.three
    replace X := X.trans hx
    clear hx
    go_wp2_with (first | (refine wpList_fopV rfl rfl rfl rfl (by with_reducible assumption) ?_) | (refine wpList_fcmp rfl rfl rfl rfl rfl (by first | with_reducible assumption | exact rfl) ?_))
    refine (HP.out _).mono ?_
    rintro e w3 ⟨rfl, hx⟩
    clear k0 k1 k2
    obtain ⟨k0, k1, k2⟩ := (b0.ext hx).three
    replace X := X.trans hx
    clear hx b0
    go_wp2_with (first | (refine wpList_fopV rfl rfl rfl rfl (by with_reducible assumption) ?_) | (refine wpList_fcmp rfl rfl rfl rfl rfl (by first | with_reducible assumption | exact rfl) ?_))
    refine (HF.out _).mono ?_
    rintro e w4 ⟨rfl, hx⟩
    replace X := X.trans hx
    go_wp2_with fail
    go_ret2
    exact ⟨rfl, X⟩
  · have HP := Lib.hid (powered_v h4.2 nq hp)
    clear nq hp
    unfold lawV at *
    go_enter Try.func12, Try.ntmps12
    have b0 := Bx.new w [.int .i64 2, .float .f32 y, .float .f32 c] 26
    go_wp2_with fail
    refine (HV.out _).mono ?_
    rintro e w1 ⟨rfl, X⟩
    replace b0 := b0.ext X
    replace X := (Ext.alloc _ _).trans X
    go_wp2_with (refine wpList_fcmp rfl rfl rfl rfl rfl (by first | with_reducible assumption | exact rfl) ?_)
    refine (HL.out _).mono ?_
    rintro e w2 ⟨rfl, hx⟩
    replace b0 := b0.ext hx
    obtain ⟨k0, k1, k2⟩ := b0.three
    replace X := X.trans hx
    clear hx
    go_wp2_with (first | (refine wpList_fopV rfl rfl rfl rfl (by with_reducible assumption) ?_) | (refine wpList_fcmp rfl rfl rfl rfl rfl (by first | with_reducible assumption | exact rfl) ?_))
    refine (HP.out _).mono ?_
    rintro e w3 ⟨rfl, hx⟩
    clear k0 k1 k2
    obtain ⟨k0, k1, k2⟩ := (b0.ext hx).three
    replace X := X.trans hx
    clear hx b0
    go_wp2_with (first | (refine wpList_fopV rfl rfl rfl rfl (by with_reducible assumption) ?_) | (refine wpList_fcmp rfl rfl rfl rfl rfl (by first | with_reducible assumption | exact rfl) ?_))
    refine (HF.out _).mono ?_
    rintro e w4 ⟨rfl, hx⟩
    replace X := X.trans hx
    go_wp2_with fail
    go_ret2
    exact ⟨rfl, X⟩
  · unfold lawV at *
    go_enter Try.func12, Try.ntmps12
    have b0 := Bx.new w [.int .i64 3, .float .f32 y, .float .f32 c] 26
    go_wp2_with fail
    refine (HV.out _).mono ?_
    rintro e w1 ⟨rfl, X⟩
    replace b0 := b0.ext X
    replace X := (Ext.alloc _ _).trans X
    go_wp2_with (refine wpList_fcmp rfl rfl rfl rfl rfl (by first | with_reducible assumption | exact rfl) ?_)
    refine (HL.out _).mono ?_
    rintro e w2 ⟨rfl, hx⟩
    obtain ⟨k0, k1, k2⟩ := (b0.ext hx).three
    replace X := X.trans hx
    clear hx b0
    go_wp2_with (first | (refine wpList_fopV rfl rfl rfl rfl (by with_reducible assumption) ?_) | (refine wpList_fcmp rfl rfl rfl rfl rfl (by first | with_reducible assumption | exact rfl) ?_))
    refine (HF.out _).mono ?_
    rintro e w4 ⟨rfl, hx⟩
    replace X := X.trans hx
    go_wp2_with fail
    go_ret2
    exact ⟨rfl, X⟩
theorem isGrid_v {k : Int} {y c t : Nat} {m : Int} (h : LawB k y c) (n : Num .f32 t) (h0 : 0 < fv .f32 t) (hb : t < 4294967296) (m1 : 1 ≤ m) (m2 : m ≤ 256) (w : World) :
    Calls Try.prog 25 #[lawV k y c, .float .f32 t, .int .i64 m] w fun e w' => e = .returned (.bool true) ∧ Ext w w' := by
  have HV := Lib.hid (fun w => validLaw_any h w)
  have HL := Lib.hid (aboveB_of n h0)
  have HB := Lib.hid hb
  have HW := Lib.hid (fun w => within_ok m1 m2 w)
  clear h n h0 hb m1 m2
  unfold lawV at *
  go_enter Try.func25, Try.ntmps25
  go_wp2_with fail
  refine (HV.out _).mono ?_
  rintro e w1 ⟨rfl, X⟩
  replace X := (Ext.alloc _ _).trans X
  go_wp2_with fail
  refine (areMore_one HL.out _ _ (RdF_one _ t HB.out)).mono ?_
  rintro e w2 ⟨rfl, hx⟩
  replace X := X.trans ((Ext.alloc _ _).trans hx)
  clear hx
  go_wp2_with fail
  refine (HW.out _).mono ?_
  rintro e w3 ⟨rfl, rfl⟩
  go_wp2_with fail
  go_ret
  exact ⟨rfl, X⟩
/-- The steps of a mean. -/
structure MeanV (k : Int) (y c to h n : Nat) (A T S Q M : Nat → Nat) : Prop where
  h0 : FopV .quo .f32 to (floatOfInt .f32 (n : Int)) h
  m0 : M 0 = 0
  a : ∀ i, i < n → FopV .add .f32 (floatOfInt .f32 (i : Int)) 1056964608 (A i)
  t : ∀ i, i < n → FopV .mul .f32 (A i) h (T i)
  tn : ∀ i, i < n → Num .f32 (T i) ∧ 0 ≤ fv .f32 (T i)
  s : ∀ i, i < n → SurvV k y c (T i) (S i)
  sn : ∀ i, i < n → Num .f32 (S i)
  q : ∀ i, i < n → FopV .mul .f32 (S i) h (Q i)
  m : ∀ i, i < n → FopV .add .f32 (M i) (Q i) (M (i + 1))
set_option maxHeartbeats 2000000 in
theorem lawMean_v {k : Int} {y c to h n : Nat} {A T S Q M : Nat → Nat} (hl : LawB k y c) (nt : Num .f32 to) (t0 : 0 < fv .f32 to) (hb : to < 4294967296) (n1 : 1 ≤ n) (n2 : n ≤ 256) (hv : MeanV k y c to h n A T S Q M) (nm : Num .f32 (M n)) (w : World) :
    Calls Try.prog 13 #[lawV k y c, .float .f32 to, .int .i64 n] w fun e w' => e = .returned (.tuple #[.float .f32 (M n), .bool true]) ∧ Ext w w' := by
  have HG := Lib.hid (fun w => isGrid_v (m := (n : Int)) hl nt t0 hb (by omega) (by omega) w)
  have HS := Lib.hid (fun i (hi : i < n) w => lawSurvives_v hl (hv.tn i hi).1 (hv.tn i hi).2 (hv.t i hi).2 (hv.s i hi) (hv.sn i hi) w)
  have HF := Lib.hid (fun w => ifFinite_v nm w)
  have H := Lib.hid hv
  have h0 := hv.h0
  clear hl nt t0 hb hv nm
  unfold lawV at *
  go_enter Try.func13, Try.ntmps13
  have b0 := Bx.new w [.int .i64 k, .float .f32 y, .float .f32 c] 26
  go_wp2_with fail
  refine (HG.out _).mono ?_
  rintro e w1 ⟨rfl, X⟩
  replace b0 := b0.ext X
  replace X := (Ext.alloc _ _).trans X
  go_wp2_with (first | (refine wpList_fopV rfl rfl rfl rfl (by with_reducible assumption) ?_))
  clear h0
  go_loopw [9, 23] (fun s i wr => ∃ j, j ≤ n ∧ s = .float .f32 (M j) ∧ i = .int .i64 j ∧ Ext w1 wr) (fun _ i _ => n - (intOf i).toNat)
  case atStart => exact ⟨0, Nat.zero_le _, by rw [H.out.m0], rfl, Ext.refl _⟩
  case round =>
    obtain ⟨j, hj, rfl, rfl, X2⟩ := hrel
    obtain ⟨k0, k1, k2⟩ := (b0.ext X2).three
    by_cases hlt : j < n
    · have q1 := H.out.a j hlt
      have q2 := H.out.t j hlt
      have q3 := H.out.q j hlt
      have q4 := H.out.m j hlt
      have HS2 := Lib.hid (HS.out j hlt)
      generalize A j = Aj at *
      generalize T j = Tj at *
      generalize S j = Sj at *
      generalize Q j = Qj at *
      generalize hM : M (j + 1) = Mj at *
      have HM := Lib.hid hM
      clear hM
      go_wp2_with (first | (refine wpList_fopV rfl rfl rfl rfl (by with_reducible assumption) ?_))
      refine (HS2.out _).mono ?_
      rintro e w2 ⟨rfl, hx⟩
      replace X2 := X2.trans hx
      clear hx
      go_wp2_with (first | (refine wpList_fopV rfl rfl rfl rfl (by with_reducible assumption) ?_))
      go_roundw
      case rel => exact ⟨j + 1, by omega, by rw [HM.out], by go_num, X2⟩
      case measure => simp [intOf]; omega
    · obtain rfl : j = n := by omega
      go_wp2_with fail
      refine (HF.out _).mono ?_
      rintro e w2 ⟨rfl, hx⟩
      replace X := X.trans (X2.trans hx)
      clear hx
      go_wp2_with fail
      go_ret2
      exact ⟨rfl, X⟩
end Go.Proofs.Ytmcnfapdghoenaa
/- Contracts: lists of laws, mixtures. Conditions: in the theorems. -/
namespace Go.Proofs.Ytmcnfapdghoenaa
open Go Go.RowKit Go.ChangeShapes Go.WideShapes Go.ChangeAt

attribute [local irreducible] tw EX expX logF LX
/-- A law as its three cells. -/
structure Lw where
  k : Int
  y : Nat
  c : Nat
/-- Laws in a slice. -/
def RdW (w : World) (v : Value) (ls : List Lw) : Prop := ∃ g cap, v = .slice (some ⟨g, 0, none⟩) ls.length cap ∧ ls.length ≤ 8 ∧ g < w.heap.size ∧
  ∀ j (h : j < ls.length), w.cell? ⟨g, j * 3, none⟩ = some (.int .i64 ls[j].k) ∧ w.cell? ⟨g, j * 3 + 1, none⟩ = some (.float .f32 ls[j].y) ∧ w.cell? ⟨g, j * 3 + 2, none⟩ = some (.float .f32 ls[j].c)
theorem RdW.ext {w w' : World} {v : Value} {ls : List Lw} (h : RdW w v ls) (X : Ext w w') : RdW w' v ls := by
  obtain ⟨g, cap, rfl, h8, hg, hc⟩ := h
  exact ⟨g, cap, rfl, h8, Nat.lt_of_lt_of_le hg X.size, fun j hj => by
    obtain ⟨a, b, c⟩ := hc j hj
    exact ⟨(Below.cell X (p := ⟨g, j * 3, none⟩) hg).trans a, (Below.cell X (p := ⟨g, j * 3 + 1, none⟩) hg).trans b, (Below.cell X (p := ⟨g, j * 3 + 2, none⟩) hg).trans c⟩⟩
def AllB (ls : List Lw) : Prop := ∀ x ∈ ls, LawB x.k x.y x.c
theorem areLaws_1 {k : Int} {y c : Nat} (h : LawB k y c) (w : World) : Calls Try.prog 38 #[lawV k y c] w fun e w' => e = .returned (.bool false) ∧ Ext w w' := by
  have HV := Lib.hid (fun w => validLaw_any h w)
  clear h
  unfold lawV at *
  go_enter Try.func38, Try.ntmps38
  go_wp2_with fail
  refine (HV.out _).mono ?_
  rintro e w1 ⟨rfl, X⟩
  replace X := (Ext.alloc _ _).trans X
  go_wp2_with fail
  go_ret
  exact ⟨rfl, X⟩
set_option maxHeartbeats 1000000 in
theorem indexFuncW_v {v : Value} {ls : List Lw} {w : World} (r : RdW w v ls) (h : AllB ls) :
    Calls Try.prog 45 #[v, .func (.func 38) #[] #[]] w fun e w' => e = .returned (.int .i64 (-1)) ∧ Ext w w' := by
  have r' := r
  obtain ⟨g, cap, rfl, h8, hg, -⟩ := r
  have hen : EnterOk Try.prog 38 := enterOk Try.func38 (by kernel_rfl) rfl
  have hent : ∀ args w, (callFunc 38 args).run Try.prog w = .ok (.enter 38 args) w := hen
  clear hen
  have H := Lib.hid h
  clear h hg
  go_enter Try.func45, Try.ntmps45
  go_wp2_with fail
  go_loopw [8] (fun i wr => ∃ k : Nat, k ≤ ls.length ∧ i = .int .i64 k ∧ Ext w wr) (fun i _ => ls.length - (intOf i).toNat)
  case atStart => exact ⟨0, Nat.zero_le _, rfl, Ext.refl _⟩
  case round =>
    obtain ⟨k, hk, rfl, X⟩ := hrel
    by_cases hlt : k < ls.length
    · obtain ⟨g', cap', he, -, hg, hc⟩ := r'.ext X
      injection he with e1 e2 e3
      injection e1 with e1
      injection e1 with e1
      subst e1
      obtain ⟨c0, c1, c2⟩ := hc k hlt
      have HL := Lib.hid (fun w => areLaws_1 (H.out ls[k] (List.getElem_mem hlt)) w)
      generalize ls[k] = q at *
      obtain ⟨qk, qy, qc⟩ := q
      unfold lawV at *
      clear e2 e3 hc
      go_wp2_with fail
      refine (HL.out _).mono ?_
      rintro e w1 ⟨rfl, hx⟩
      replace X := X.trans hx
      clear hx c0 c1 c2
      go_wp2_with fail
      go_roundw
      case rel => exact ⟨k + 1, by omega, by go_num, X⟩
      case measure => simp [intOf]; omega
    · go_wp2_with fail
      go_ret
      exact ⟨rfl, X⟩
theorem areLaws_v {v : Value} {ls : List Lw} {w : World} (r : RdW w v ls) (h : AllB ls) (h1 : 1 ≤ ls.length) :
    Calls Try.prog 26 #[v] w fun e w' => e = .returned (.bool true) ∧ Ext w w' := by
  have HI := Lib.hid (fun w v (r : RdW w v ls) => indexFuncW_v r h)
  have HC := Lib.hid (fun w v (r : RdW w v ls) => (show Calls Try.prog 37 #[v, .func (.func 38) #[] #[]] w fun e w' => e = .returned (.bool false) ∧ Ext w w' from by
    have HJ := Lib.hid (HI.out w v r)
    clear HI
    obtain ⟨g, cap, rfl, h8, hg, -⟩ := r
    clear hg h8
    go_enter Try.func37, Try.ntmps37
    go_wp2_with fail
    refine HJ.out.mono ?_
    rintro e w1 ⟨rfl, X⟩
    go_wp2_with fail
    go_ret
    exact ⟨rfl, X⟩))
  have HR := Lib.hid r
  obtain ⟨g, cap, rfl, h8, -, -⟩ := r
  clear HI h
  go_enter Try.func26, Try.ntmps26
  go_wp2_with fail
  refine (HC.out _ _ HR.out).mono ?_
  rintro e w1 ⟨rfl, X⟩
  go_wp2_with fail
  go_ret
  exact ⟨rfl, X⟩
theorem addUp_v {v : Value} {bs : List Nat} {s : Nat} {w : World} (r : RdF w v bs) (h : sumF (cn .f32 0) (bs.map (cn .f32)) = s) (n : Num .f32 s) :
    Calls Try.prog 28 #[v] w fun e w' => e = .returned (.float .f32 s) ∧ Ext w w' := by
  refine (addUp_any v bs w r).mono ?_
  rintro e w' ⟨b, rfl, hb, _, X⟩
  rw [h] at hb
  exact ⟨by rw [bits_of hb n.notN], X⟩
attribute [local go_sem] run_store_float
set_option maxHeartbeats 2000000 in
/-- A mixture: weights bs, survivors S. -/
theorem mix_v {v u : Value} {ls : List Lw} {bs : List Nat} {t s d : Nat} {S Q M : Nat → Nat} {w : World} (r : RdW w v ls) (rb : RdF w u bs) (h : AllB ls) (h1 : 1 ≤ ls.length) (hlen : bs.length = ls.length)
    (hbs : (bs.map (cn .f32)).all leastB = true) (nt : Num .f32 t) (t0 : 0 ≤ fv .f32 t) (hb : t < 4294967296) (hs : sumF (cn .f32 0) (bs.map (cn .f32)) = s) (ns : Num .f32 s)
    (hd : FopV .sub .f32 s 1065353216 d) (d1 : fcmp .leq .f32 (cn .f32 d) (cn .f32 981668463) = true) (d2 : fcmp .geq .f32 (cn .f32 d) (cn .f32 3129152111) = true)
    (m0 : M 0 = 0) (hS : ∀ i (hi : i < ls.length), SurvV ls[i].k ls[i].y ls[i].c t (S i) ∧ Num .f32 (S i)) (hQ : ∀ i (hi : i < bs.length), FopV .mul .f32 bs[i] (S i) (Q i)) (hM : ∀ i, i < ls.length → FopV .add .f32 (M i) (Q i) (M (i + 1))) (nm : Num .f32 (M ls.length)) :
    Calls Try.prog 14 #[v, u, .float .f32 t] w fun e w' => e = .returned (.tuple #[.float .f32 (M ls.length), .bool true]) ∧ Ext w w' := by
  have HA := Lib.hid (areLaws_v r h h1)
  have HB := Lib.hid (fun v w (r : RdF w v bs) => areNotLess_eq hbs w r)
  have HL := Lib.hid (leastB_of nt t0)
  have HTB := Lib.hid hb
  have HU := Lib.hid (fun v w (r : RdF w v bs) => addUp_v r hs ns)
  have HS := Lib.hid (fun i (hi : i < ls.length) w => lawSurvives_v (h ls[i] (List.getElem_mem hi)) nt t0 hb (hS i hi).1 (hS i hi).2 w)
  have HQ := Lib.hid hQ
  have HM := Lib.hid hM
  have HF := Lib.hid (fun w => ifFinite_v nm w)
  have RW := Lib.hid r
  have HLEN := Lib.hid hlen
  obtain ⟨g, cap, rfl, h8, hg, -⟩ := r
  obtain ⟨⟨_, a1, c1, rfl, p1, p2, pa, pb⟩, hlt32⟩ := id rb
  rw [hlen] at rb
  have RB := Lib.hid rb
  rw [hlen]
  clear hlt32 p1 p2 pa pb h hbs nt t0 hb hs ns hS hQ hM nm rb hlen
  go_enter Try.func14, Try.ntmps14
  go_wp2_with fail
  refine HA.out.mono ?_
  rintro e w1 ⟨rfl, X⟩
  go_wp2_with fail
  refine (HB.out _ _ (RB.out.ext X)).mono ?_
  rintro e w2 ⟨rfl, hx⟩
  replace X := X.trans hx
  clear hx
  go_wp2_with fail
  refine (areNotLess_one HL.out _ _ (RdF_one _ t HTB.out)).mono ?_
  rintro e w3 ⟨rfl, hx⟩
  replace X := X.trans ((Ext.alloc _ _).trans hx)
  clear hx
  go_wp2_with fail
  refine (HU.out _ _ (RB.out.ext X)).mono ?_
  rintro e w4 ⟨rfl, hx⟩
  replace X := X.trans hx
  clear hx
  go_wp2_with (first | (refine wpList_fopV rfl rfl rfl rfl (by with_reducible assumption) ?_) | (refine wpList_fcmp rfl rfl rfl rfl rfl (by first | with_reducible assumption | exact rfl) ?_))
  clear hd d1 d2
  go_loopw [9, 47] (fun m i wr => ∃ j, j ≤ ls.length ∧ m = .float .f32 (M j) ∧ i = .int .i64 j ∧ Ext w wr) (fun _ i _ => ls.length - (intOf i).toNat)
  case atStart => exact ⟨0, Nat.zero_le _, by rw [m0], rfl, X⟩
  case round =>
    obtain ⟨j, hj, rfl, rfl, X2⟩ := hrel
    by_cases hlt : j < ls.length
    · have RW2 := RW.out.ext X2
      obtain ⟨g', cap', he, -, hg2, hc⟩ := RW2
      injection he with e1 e2 e3
      injection e1 with e1
      injection e1 with e1
      subst e1
      obtain ⟨k0, k1, k2⟩ := hc j hlt
      have hltb : j < bs.length := by rw [HLEN.out]; exact hlt
      have q1 := HQ.out j hltb
      have q2 := HM.out j hlt
      have HS2 := Lib.hid (HS.out j hlt)
      have RB2 := Lib.hid (fun W (xx : Ext w W) => (RB.out.ext xx).at hltb)
      generalize bs[j] = bj at *
      generalize ls[j] = q at *
      obtain ⟨qk, qy, qc⟩ := q
      generalize S j = Sj at *
      generalize Q j = Qj at *
      generalize hMM : M (j + 1) = Mj at *
      have HMj := Lib.hid hMM
      unfold lawV at *
      clear hMM e2 e3 hc
      go_wp2_with fail
      refine (HS2.out _).mono ?_
      rintro e w5 ⟨rfl, hx⟩
      replace X2 := X2.trans ((Ext.alloc _ _).trans hx)
      clear hx k0 k1 k2
      obtain ⟨b1, o1, rfl, hb1, hc1⟩ := RB2.out _ X2
      clear RB2
      go_wp2_with (first | (refine wpList_fopV rfl rfl rfl rfl (by with_reducible assumption) ?_))
      go_roundw
      case rel => exact ⟨j + 1, by omega, by rw [HMj.out], by go_num, X2⟩
      case measure => simp [intOf]; omega
    · obtain rfl : j = ls.length := by omega
      go_wp2_with fail
      refine (HF.out _).mono ?_
      rintro e w5 ⟨rfl, hx⟩
      replace X2 := X2.trans hx
      clear hx
      go_wp2_with fail
      go_ret2
      exact ⟨rfl, X2⟩
end Go.Proofs.Ytmcnfapdghoenaa
/- Contract: which cause comes first. Conditions: in the theorem. -/
namespace Go.Proofs.Ytmcnfapdghoenaa
open Go Go.RowKit Go.ChangeShapes Go.WideShapes Go.ChangeAt

attribute [local irreducible] tw EX expX logF LX
/-- The sums when k of them are told for step i. -/
def fcL (O : Nat → Nat → Nat) (i k n : Nat) : List Nat := (List.range n).map fun m => if m < k then O (i + 1) m else O i m
theorem fcL_len {O : Nat → Nat → Nat} {i k n : Nat} : (fcL O i k n).length = n := by simp [fcL]
theorem fcL_get {O : Nat → Nat → Nat} {i k n : Nat} (h : k < n) : (fcL O i k n)[k]? = some (O i k) := by simp [fcL, h]
theorem fcL_set {O : Nat → Nat → Nat} {i k n : Nat} : (fcL O i k n).set k (O (i + 1) k) = fcL O i (k + 1) n := by
  apply List.ext_getElem?
  intro m
  by_cases hm : m < n
  · rw [List.getElem?_set]
    by_cases hk : k = m
    · subst hk
      rw [if_pos rfl, if_pos (by rw [fcL_len]; exact hm)]
      simp [fcL, hm]
    · rw [if_neg hk]
      simp only [fcL, List.getElem?_map, List.getElem?_range hm, Option.map_some]
      by_cases h1 : m < k
      · rw [if_pos h1, if_pos (by omega)]
      · rw [if_neg h1, if_neg (by omega)]
  · rw [List.getElem?_eq_none (by rw [List.length_set, fcL_len]; omega), List.getElem?_eq_none (by rw [fcL_len]; omega)]
theorem fcL_end {O : Nat → Nat → Nat} {i n : Nat} : fcL O i n n = fcL O (i + 1) 0 n := by
  unfold fcL
  apply List.map_congr_left
  intro m hm
  rw [if_pos (List.mem_range.1 hm), if_neg (Nat.not_lt_zero _)]
theorem fcL_zero {O : Nat → Nat → Nat} {i n : Nat} : fcL O i 0 n = (List.range n).map (O i) := by
  unfold fcL
  apply List.map_congr_left
  intro m _
  rw [if_neg (Nat.not_lt_zero _)]
/-- The steps. -/
structure CauseV (ls : List Lw) (to h n : Nat) (A T : Nat → Nat) (S AL H U V O : Nat → Nat → Nat) : Prop where
  h0 : FopV .quo .f32 to (floatOfInt .f32 (n : Int)) h
  a : ∀ i, i < n → FopV .add .f32 (floatOfInt .f32 (i : Int)) 1056964608 (A i)
  t : ∀ i, i < n → FopV .mul .f32 (A i) h (T i)
  tn : ∀ i, i < n → Num .f32 (T i) ∧ 0 ≤ fv .f32 (T i)
  s : ∀ i, i < n → ∀ m (hm : m < ls.length), SurvV ls[m].k ls[m].y ls[m].c (T i) (S i m) ∧ Num .f32 (S i m)
  al0 : ∀ i, AL i 0 = 1065353216
  al : ∀ i, i < n → ∀ m, m < ls.length → FopV .mul .f32 (AL i m) (S i m) (AL i (m + 1))
  hz : ∀ i, i < n → ∀ m (hm : m < ls.length), HazV ls[m].k ls[m].y ls[m].c (T i) (H i m) ∧ Num .f32 (H i m)
  u : ∀ i, i < n → ∀ m, m < ls.length → FopV .mul .f32 (AL i ls.length) (H i m) (U i m)
  v : ∀ i, i < n → ∀ m, m < ls.length → FopV .mul .f32 (U i m) h (V i m)
  o0 : ∀ m, O 0 m = 0
  o : ∀ i, i < n → ∀ m, m < ls.length → FopV .add .f32 (O i m) (V i m) (O (i + 1) m)
  on : ∀ m, m < ls.length → Num .f32 (O n m)
attribute [local go_sem] run_store_float
set_option maxHeartbeats 4000000 in
set_option maxRecDepth 100000 in
theorem firstCause_v {v : Value} {ls : List Lw} {to h n : Nat} {A T : Nat → Nat} {S AL H U V O : Nat → Nat → Nat} {w : World} (r : RdW w v ls) (hb : AllB ls) (h1 : 1 ≤ ls.length)
    (nt : Num .f32 to) (t0 : 0 < fv .f32 to) (tb : to < 4294967296) (n1 : 1 ≤ n) (n2 : n ≤ 256) (hv : CauseV ls to h n A T S AL H U V O) :
    Calls Try.prog 15 #[v, .float .f32 to, .int .i64 n] w fun e w' => ∃ u, e = .returned (.tuple #[u, .bool true]) ∧ RdF w' u ((List.range ls.length).map (O n)) ∧ Ext w w' := by
  have HA := Lib.hid (areLaws_v r hb h1)
  have HG := Lib.hid (fun m (hm : m < ls.length) w => isGrid_v (m := (n : Int)) (hb ls[m] (List.getElem_mem hm)) nt t0 tb (by omega) (by omega) w)
  have HS := Lib.hid (fun i (hi : i < n) m (hm : m < ls.length) w => lawSurvives_v (hb ls[m] (List.getElem_mem hm)) (hv.tn i hi).1 (hv.tn i hi).2 (hv.t i hi).2 (hv.s i hi m hm).1 (hv.s i hi m hm).2 w)
  have HH := Lib.hid (fun i (hi : i < n) m (hm : m < ls.length) w => lawHazard_v (o := some (H i m)) (hb ls[m] (List.getElem_mem hm)) (hv.tn i hi).1 (hv.tn i hi).2 (hv.t i hi).2 (hv.hz i hi m hm) w)
  have HV := Lib.hid hv
  have RW := Lib.hid r
  have h0 := hv.h0
  clear hb nt t0 tb hv
  obtain ⟨i0, hi0, hz0, hz1, hz2⟩ := info_parts infoF32
  obtain ⟨g0, cap0, rfl, h8, hg0, -⟩ := r
  have HC := Lib.hid (fun W (X : Ext w W) m (hm : m < ls.length) => (show W.cell? ⟨g0, m * 3, none⟩ = some (.int .i64 ls[m].k) ∧ W.cell? ⟨g0, m * 3 + 1, none⟩ = some (.float .f32 ls[m].y) ∧ W.cell? ⟨g0, m * 3 + 2, none⟩ = some (.float .f32 ls[m].c) from by
    obtain ⟨g', cap', he, -, -, hc⟩ := RW.out.ext X
    injection he with e1 e2 e3
    injection e1 with e1
    injection e1 with e1
    subst e1
    exact hc m hm))
  have HG0 := Lib.hid (HG.out 0 h1)
  have HC0 := Lib.hid (fun W (X : Ext w W) => HC.out W X 0 h1)
  obtain ⟨q, hq⟩ : ∃ q, q = ls[0] := ⟨_, rfl⟩
  rw [← hq] at HC0 HG0
  clear hq HG RW
  obtain ⟨qk, qy, qc⟩ := q
  unfold lawV at *
  go_enter Try.func15, Try.ntmps15
  go_wp2_with fail
  refine HA.out.mono ?_
  rintro e w1 ⟨rfl, X⟩
  obtain ⟨c0, c1, c2⟩ := HC0.out _ X
  simp only [Nat.zero_mul, Nat.zero_add] at c0 c1 c2
  go_wp2_with fail
  refine (HG0.out _).mono ?_
  rintro e w2 ⟨rfl, hx⟩
  replace X := X.trans hx
  clear hx c0 c1 c2 HC0 HG0
  go_wp2_with (first | (refine wpList_fopV rfl rfl rfl rfl (by with_reducible assumption) ?_) | (at_make; refine wpList_make_full _ rfl _ _ 37 rfl w2.heap.size 24 i0 (.float .f32 0) 1 Try.underlying37 hi0 hz0 hz1 _ _ _ _ ls.length rfl rfl rfl rfl ?c1 ?c2 ?c3 ?_))
  case c1 => rw [hz2]; omega
  case c2 => unfold maxLen; omega
  case c3 => exact Nat.le_refl _
  intro w3 own hg
  rw [toList_madeCells_one] at own
  have X3 : Ext w2 w3 := (Below.refl _ _).grown hg (Nat.le_refl _) (fun _ h => by cases h)
  have own0 : w3.ownsRow w2.heap.size 24 1 (.slice (some ⟨w2.heap.size, 0, none⟩) ls.length ls.length) ls.length ((fcL O 0 0 ls.length).map (Value.float .f32)) := by
    have : (fcL O 0 0 ls.length).map (Value.float .f32) = List.replicate ls.length (.float .f32 0) := by
      rw [fcL_zero, List.map_map]
      apply List.ext_getElem?
      intro m
      by_cases hm : m < ls.length
      · simp [hm, HV.out.o0]
      · rw [List.getElem?_eq_none (by simp; omega), List.getElem?_eq_none (by simp; omega)]
    rw [this]; exact own
  clear own hg h0
  go_wp2_with fail
  go_loopw [41] (fun i wr => ∃ j, j ≤ n ∧ i = .int .i64 j ∧ wr.ownsRow w2.heap.size 24 1 (.slice (some ⟨w2.heap.size, 0, none⟩) ls.length ls.length) ls.length ((fcL O j 0 ls.length).map (Value.float .f32)) ∧ Ext w2 wr) (fun i _ => n - (intOf i).toNat)
  case atStart => exact ⟨0, Nat.zero_le _, rfl, own0, X3⟩
  case round =>
    clear own0 X3
    obtain ⟨j, hj, rfl, own, X2⟩ := hrel
    by_cases hlt : j < n
    · have q1 := HV.out.a j hlt
      have q2 := HV.out.t j hlt
      have HSj := Lib.hid (HS.out j hlt)
      have HHj := Lib.hid (HH.out j hlt)
      have HAL0 := Lib.hid (HV.out.al0 j)
      have HAL := Lib.hid (HV.out.al j hlt)
      have HU := Lib.hid (HV.out.u j hlt)
      have HVV := Lib.hid (HV.out.v j hlt)
      have HO := Lib.hid (HV.out.o j hlt)
      generalize A j = Aj at *
      generalize T j = Tj at *
      go_wp2_with (first | (refine wpList_fopV rfl rfl rfl rfl (by with_reducible assumption) ?_))
      go_loopw [12, 51] (fun a i wq => ∃ m, m ≤ ls.length ∧ a = .float .f32 (AL j m) ∧ i = .int .i64 m ∧ Ext wr wq) (fun _ i _ => ls.length - (intOf i).toNat)
      case atStart => exact ⟨0, Nat.zero_le _, by rw [HAL0.out], rfl, Ext.refl _⟩
      case round =>
        obtain ⟨m, hm, rfl, rfl, Z⟩ := hrel
        by_cases hlm : m < ls.length
        · obtain ⟨k0, k1, k2⟩ := HC.out _ (X.trans (X2.trans Z)) m hlm
          have q3 := HAL.out m hlm
          have HSm := Lib.hid (HSj.out m hlm)
          generalize ls[m] = q at *
          obtain ⟨qk, qy, qc⟩ := q
          generalize S j m = s at *
          generalize AL j m = p at *
          generalize hP : AL j (m + 1) = p' at *
          have HP := Lib.hid hP
          clear hP
          go_wp2_with fail
          refine (HSm.out _).mono ?_
          rintro e w4 ⟨rfl, hx⟩
          replace Z := Z.trans ((Ext.alloc _ _).trans hx)
          clear hx k0 k1 k2
          go_wp2_with (first | (refine wpList_fopV rfl rfl rfl rfl (by with_reducible assumption) ?_))
          go_roundw
          case rel => exact ⟨m + 1, by omega, by rw [HP.out], by go_num, Z⟩
          case measure => simp [intOf]; omega
        · obtain rfl : m = ls.length := by omega
          replace own := own_ext own Z
          replace X2 := X2.trans Z
          clear Z
          go_wp2_with fail
          go_loopw [69] (fun i wq => ∃ m, m ≤ ls.length ∧ i = .int .i64 m ∧ wq.ownsRow w2.heap.size 24 1 (.slice (some ⟨w2.heap.size, 0, none⟩) ls.length ls.length) ls.length ((fcL O j m ls.length).map (Value.float .f32)) ∧ Ext w2 wq) (fun i _ => ls.length - (intOf i).toNat)
          case atStart => exact ⟨0, Nat.zero_le _, rfl, own, X2⟩
          case round =>
            clear own X2
            obtain ⟨m, hm, rfl, own, Z⟩ := hrel
            by_cases hlm : m < ls.length
            · obtain ⟨k0, k1, k2⟩ := HC.out _ (X.trans Z) m hlm
              have q3 := HU.out m hlm
              have q4 := HVV.out m hlm
              have q5 := HO.out m hlm
              have HHm := Lib.hid (HHj.out m hlm)
              generalize ls[m] = q at *
              obtain ⟨qk, qy, qc⟩ := q
              generalize H j m = hz at *
              generalize U j m = uz at *
              generalize V j m = vz at *
              generalize AL j ls.length = al at *
              generalize hP : O (j + 1) m = o' at *
              generalize hP0 : O j m = o0 at *
              have HP := Lib.hid hP
              have HP0 := Lib.hid hP0
              clear hP hP0
              go_wp2_with fail
              refine (HHm.out _).mono ?_
              rintro e w5 ⟨rfl, hx⟩
              simp only [Option.getD_some, Option.isSome_some]
              replace hx := (Ext.alloc _ _).trans hx
              replace own := own_ext own hx
              replace Z := Z.trans hx
              clear hx k0 k1 k2
              have hcc := own.cellAt m (by omega)
              have hff := own.frozenAt m
              rw [List.getElem?_map, fcL_get hlm, HP0.out] at hcc
              simp only [Option.map_some] at hcc
              have hsto := Lib.hid (World.ownsRow.stored own m (.float .f32 o')).1
              go_wp2_with (first | (refine wpList_fopV rfl rfl rfl rfl (by with_reducible assumption) ?_))
              go_roundw
              case rel =>
                refine ⟨m + 1, by omega, by go_num, ?_, Z.setCell (Nat.le_refl _) _⟩
                have h5 := hsto.out
                rw [← List.map_set, ← HP.out, fcL_set, HP.out] at h5
                exact h5
              case measure => simp [intOf]; omega
            · obtain rfl : m = ls.length := by omega
              rw [fcL_end] at own
              go_wp2_with fail
              go_roundw
              case rel => exact ⟨j + 1, by omega, by go_num, own, Z⟩
              case measure => simp [intOf]; omega
    · obtain rfl : j = n := by omega
      rw [fcL_zero] at own
      have R : RdF wr (.slice (some ⟨w2.heap.size, 0, none⟩) ls.length ls.length) ((List.range ls.length).map (O j)) := by
        have hl : ((List.range ls.length).map (O j)).length = ls.length := by simp
        refine ⟨by rw [hl]; exact own_rd own, fun x hx => ?_⟩
        obtain ⟨m, hm, rfl⟩ := List.mem_map.1 hx
        cases j with
        | zero => rw [HV.out.o0]; decide
        | succ j => exact (HV.out.o j (by omega) m (List.mem_range.1 hm)).2
      have hfin : finAll (((List.range ls.length).map (O j)).map (cn .f32)) = true := by
        unfold finAll
        rw [List.all_eq_true]
        intro x hx
        obtain ⟨y, hy, rfl⟩ := List.mem_map.1 hx
        obtain ⟨m, hm, rfl⟩ := List.mem_map.1 hy
        exact finB_of (HV.out.on m (List.mem_range.1 hm))
      have HI := Lib.hid (ifAll_any _ _ _ R)
      rw [hfin] at HI
      clear own hfin
      go_wp2_with fail
      refine HI.out.mono ?_
      rintro e w5 ⟨rfl, hx⟩
      have R2 := R.ext hx
      replace X2 := X.trans (X2.trans hx)
      clear hx R
      unfold orNil
      simp only [if_true]
      go_wp2_with fail
      go_ret2
      exact ⟨_, rfl, R2, X2⟩
end Go.Proofs.Ytmcnfapdghoenaa
