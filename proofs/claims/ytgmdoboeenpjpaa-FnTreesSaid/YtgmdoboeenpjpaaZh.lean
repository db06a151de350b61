
/- ChanceBounds, both sides. Condition: lists that can be read, of at most 2^20 numbers. -/
import Derived.Test.YtgmdoboeenpjpaaZA
import Derived.Test.YtgmdoboeenpjpaaYN
namespace Go.Proofs.Ytgmdoboeenpjpaa
open Go Go.RowKit Go.ChangeShapes Go.WideShapes Go.ChangeAt

attribute [local irreducible] LX

/-- The product over the parts of a set, of the first i parts. -/
def poK (f : Nat → Nat) (s : Nat) (C : List Nat) : Nat → Nat
  | 0 => oneF
  | i + 1 => if s.testBit i then fop .mul .f32 (poK f s C i) (f (C.getD i 0)) else poK f s C i
def negF (x : Nat) : Nat := fop .sub .f32 oneF x
def bdK (f : Nat → Nat) (p : Nat) (C : List Nat) (xs : List Nat) : Nat := xs.foldl (fun a s => fop .mul .f32 a (fop .sub .f32 oneF (poK f s C p))) oneF
theorem bdK_take {f : Nat → Nat} {p : Nat} {C xs : List Nat} {k : Nat} (h : k < xs.length) : bdK f p C (xs.take (k + 1)) = fop .mul .f32 (bdK f p C (xs.take k)) (fop .sub .f32 oneF (poK f xs[k] C p)) := by
  unfold bdK
  rw [List.take_succ_eq_append_getElem h, List.foldl_append]; rfl
/-- A function on numbers. -/
def FunF (fn : FuncId) (f : Nat → Nat) : Prop := ∀ w b, Calls Try.prog fn #[.float .f32 b] w fun e w' => ∃ c, e = .returned (.float .f32 c) ∧ cn .f32 c = f (cn .f32 b) ∧ c < 4294967296 ∧ Ext w w'

set_option maxHeartbeats 4000000 in
theorem productOver_any (s p : Nat) (fn : FuncId) (f : Nat → Nat) (u : Value) (bs : List Nat) (w : World) (rb : RdF w u bs) (hl : bs.length = p) (hp : p ≤ 10) (hs : s < 1024) (hen : EnterOk Try.prog fn) (hf : ∀ w b, b < 4294967296 → Calls Try.prog fn #[.float .f32 b] w fun e w' => ∃ c, e = .returned (.float .f32 c) ∧ cn .f32 c = f (cn .f32 b) ∧ c < 4294967296 ∧ Ext w w') :
    Calls Try.prog 45 #[.int .i64 s, u, .func (.func fn) #[] #[]] w fun e w' => ∃ b, e = .returned (.float .f32 b) ∧ cn .f32 b = poK f s (bs.map (cn .f32)) p ∧ b < 4294967296 ∧ Ext w w' := by
  have rb' := rb
  obtain ⟨⟨-, a2, c2, rfl, -, -, -, -⟩, -⟩ := rb
  have hent : ∀ args w, (callFunc fn args).run Try.prog w = .ok (.enter fn args) w := hen
  have HF := Lib.hid hf
  have HL := Lib.hid hl
  rw [hl] at rb'
  try rw [hl]
  clear hf hen hl
  go_enter Try.func45, Try.ntmps45
  go_wp2_with fail
  go_loopw [12, 7] (fun i q wq => ∃ (j y : Nat), j ≤ p ∧ i = .int .i64 j ∧ q = .float .f32 y ∧ Hid (cn .f32 y = poK f s (bs.map (cn .f32)) j) ∧ Hid (y < 4294967296) ∧ Ext w wq) (fun i _ _ => p - (intOf i).toNat)
  case atStart => exact ⟨0, 1065353216, Nat.zero_le _, rfl, rfl, rfl, (by show (1065353216 : Nat) < _; decide), Ext.refl _⟩
  case round =>
    obtain ⟨j, y, hj, rfl, rfl, HY, HYB, Y⟩ := hrel
    by_cases hjp : j < p
    · have hjl : j < bs.length := by rw [HL.out]; exact hjp
      obtain ⟨b2, o2, e2, hb2, hc2⟩ := RdF.at (rb'.ext Y) hjl
      subst e2
      have hji : (j : Int) < (p : Int) := by omega
      have hj63 : (j : Int) < 64 := by omega
      have hba := bitC_and s j hs
      have hsd0 : 0 ≤ (s : Int) / 2 ^ j := Int.ediv_nonneg (by omega) (Int.le_of_lt (Int.pow_pos (by decide)))
      have HPR : Hid (poK f s (bs.map (cn .f32)) (j + 1) = if s.testBit j then fop .mul .f32 (poK f s (bs.map (cn .f32)) j) (f (cn .f32 bs[j])) else poK f s (bs.map (cn .f32)) j) := by
        show _ = _
        rw [poK]
        simp [hjl]
      have hcb := rb'.2 _ (List.getElem_mem hjl)
      generalize bs[j] = c at *
      cases hb : s.testBit j
      · have HP2 : Hid (poK f s (bs.map (cn .f32)) (j + 1) = poK f s (bs.map (cn .f32)) j) := by show _ = _; rw [HPR.out, hb]; rfl
        rw [hb] at hba
        simp only [Bool.false_eq_true, if_false] at hba
        clear hb
        go_wp2_with fail
        go_roundw
        case rel => exact ⟨j + 1, y, by omega, by go_num, rfl, by show _ = _; rw [HP2.out]; exact HY.out, HYB, Y⟩
        case measure => simp [intOf]; omega
      · have HP2 : Hid (poK f s (bs.map (cn .f32)) (j + 1) = fop .mul .f32 (poK f s (bs.map (cn .f32)) j) (f (cn .f32 c))) := by show _ = _; rw [HPR.out, hb]; rfl
        rw [hb] at hba
        simp only [if_true] at hba
        clear hb
        go_wp2_with fail
        refine (HF.out _ c hcb).mono ?_
        rintro e w1 ⟨d, rfl, hd1, hd2, hx⟩
        have HD1 := Lib.hid hd1
        clear hd1 hd2 hc2 hb2
        go_wp2_with (refine wpList_fop rfl rfl rfl rfl rfl ?_; intro fb nf hfb hfl; replace hfb := Lib.hid hfb; replace hfl := Lib.hid hfl)
        go_roundw
        case rel =>
          refine ⟨j + 1, fb, by omega, by go_num, rfl, ?_, hfl, Y.trans (hx.trans (Ext.drewN _ _))⟩
          show _ = _; rw [HP2.out, hfb.out, HY.out, HD1.out]
        case measure => simp [intOf]; omega
    · obtain rfl : j = p := by omega
      go_wp2_with fail
      go_ret
      exact ⟨y, rfl, HY.out, HYB.out, Y⟩

theorem bound1_any (w : World) (b : Nat) : Calls Try.prog 46 #[.float .f32 b] w fun e w' => ∃ c, e = .returned (.float .f32 c) ∧ cn .f32 c = negF (cn .f32 b) ∧ c < 4294967296 ∧ Ext w w' := by
  go_enter Try.func46, Try.ntmps46
  go_wp2_with (refine wpList_fop rfl rfl rfl rfl rfl ?_; intro fb nf hfb hfl; replace hfb := Lib.hid hfb; replace hfl := Lib.hid hfl)
  go_ret
  exact ⟨fb, rfl, by rw [hfb.out]; rfl, hfl.out, Ext.drewN _ _⟩
theorem bound2_any (w : World) (b : Nat) (hb : b < 4294967296) : Calls Try.prog 47 #[.float .f32 b] w fun e w' => ∃ c, e = .returned (.float .f32 c) ∧ cn .f32 c = id (cn .f32 b) ∧ c < 4294967296 ∧ Ext w w' := by
  go_enter Try.func47, Try.ntmps47
  go_wp2_with fail
  go_ret
  exact ⟨b, rfl, rfl, hb, Ext.refl _⟩

/-- Two numbers and whether there are any. -/
def N2Post (o : Option (Nat × Nat)) (w : World) (e : Ending) (w' : World) : Prop :=
  Ext w w' ∧ match o with
  | some q => ∃ b c, e = .returned (.tuple #[.float .f32 b, .float .f32 c, .bool true]) ∧ cn .f32 b = q.1 ∧ cn .f32 c = q.2
  | none => e = .returned (.tuple #[.float .f32 0, .float .f32 0, .bool false])
def cbO (p : Int) (zs : List Int) (bs : List Nat) : Option (Nat × Nat) :=
  if chOk p zs bs then some (bdK negF p.toNat (bs.map (cn .f32)) (cutsS p.toNat (downs zs)), fop .sub .f32 oneF (bdK id p.toNat (bs.map (cn .f32)) (downs zs))) else none

set_option maxHeartbeats 4000000 in
theorem implChanceBounds_any (p : Int) (v u : Value) (zs : List Int) (bs : List Nat) (w : World) (r : RdI w v zs) (rb : RdF w u bs) :
    Calls Try.prog 11 #[.agg #[.int .i64 p, v], u] w (N2Post (cbO p zs bs) w) := by
  have r' := r
  have rb' := rb
  obtain ⟨-, a1, c1, rfl, -, -, -, -⟩ := r
  obtain ⟨⟨-, a2, c2, rfl, -, -, -, -⟩, -⟩ := rb
  have bx : Bx (w.alloc (.cells #[.int .i64 p, .slice a1 zs.length c1] 27)) w.heap.size [.int .i64 p, .slice a1 zs.length c1] := Bx.new _ _ _
  cases hok : chOk p zs bs
  · have HO : Hid (cbO p zs bs = none) := by show _ = _; unfold cbO; rw [hok]; rfl
    have HK := Lib.hid hok
    clear hok
    go_enter Try.func11, Try.ntmps11
    go_wp2_with fail
    refine (chanced_eq HK.out _ (r'.ext (Ext.alloc _ _)) (rb'.ext (Ext.alloc _ _))).mono ?_
    rintro e w1 ⟨rfl, hx⟩
    go_wp2_with fail
    go_ret3
    unfold N2Post
    rw [HO.out]
    exact ⟨(Ext.alloc _ _).trans hx, rfl⟩
  · have HK := Lib.hid hok
    obtain ⟨h1, h2, h3, h4⟩ := chOk_get hok
    obtain ⟨P, hP⟩ : ∃ P, P = p.toNat := ⟨_, rfl⟩
    rw [← hP] at h1 h2 h4
    have HO : Hid (cbO p zs bs = some (bdK negF P (bs.map (cn .f32)) (cutsS P (downs zs)), fop .sub .f32 oneF (bdK id P (bs.map (cn .f32)) (downs zs)))) := by show _ = _; unfold cbO; rw [hok, hP]; rfl
    subst h2
    have hp1 := h1.p1
    have hp10 := h1.p10
    have h10 := (pow10N hp10).2.2.2
    have HC := Lib.hid (fun W (x : Ext w W) => cuts_any P (.slice a1 zs.length c1) (downs zs) W (by rw [← h3]; exact r'.ext x) h1)
    have hcf := cutsS_facts h1
    have HCB : Hid (∀ s ∈ cutsS P (downs zs), s < 1024) := fun s hs => by have := hcf.2.2.2.1 s hs; omega
    have hcl : (cutsS P (downs zs)).length ≤ 1024 := hcf.2.2.2.2
    have HPB : Hid (∀ s ∈ downs zs, s < 1024) := h1.small
    have hpl : (downs zs).length ≤ 64 := h1.l64
    have HPO1 := Lib.hid (fun W (x : Ext w W) s (hs : s < 1024) => productOver_any s P 46 negF (.slice a2 bs.length c2) bs W (rb'.ext x) h4 hp10 hs (enterOk Try.func46 (by kernel_rfl) rfl) (fun w b _ => bound1_any w b))
    have HPO2 := Lib.hid (fun W (x : Ext w W) s (hs : s < 1024) => productOver_any s P 47 id (.slice a2 bs.length c2) bs W (rb'.ext x) h4 hp10 hs (enterOk Try.func47 (by kernel_rfl) rfl) (fun w b hb => bound2_any w b hb))
    have hzl : zs.length = (downs zs).length := (downs_len zs).symm
    have RZ := Lib.hid (fun W (x : Ext w W) => (by have h9 := r'.ext x; rw [h3] at h9; exact h9 : RdI W (.slice a1 (ups (downs zs)).length c1) (ups (downs zs))))
    rw [ups_len] at RZ
    generalize zs.length = L at *
    subst hzl
    generalize cutsS P (downs zs) = cs at *
    generalize downs zs = ns at *
    clear hok h1 h3 h4 hP hcf h10
    go_enter Try.func11, Try.ntmps11
    go_wp2_with fail
    refine (chanced_eq HK.out _ (r'.ext (Ext.alloc _ _)) (rb'.ext (Ext.alloc _ _))).mono ?_
    rintro e w1 ⟨rfl, hx⟩
    replace bx := bx.ext hx
    have X : Ext w w1 := (Ext.alloc _ _).trans hx
    obtain ⟨k0, k1⟩ := bx.two
    clear hx
    go_wp2_with fail
    refine (HC.out _ X).mono ?_
    rintro e w2 ⟨g, cap, rfl, hx, own⟩
    clear k0 k1
    replace bx := bx.ext hx
    replace X := X.trans hx
    clear hx
    go_wp2_with fail
    go_loopw [20, 7] (fun i q wr => ∃ (k y : Nat), k ≤ cs.length ∧ i = .int .i64 k ∧ q = .float .f32 y ∧ Hid (cn .f32 y = bdK negF P (bs.map (cn .f32)) (cs.take k)) ∧ Ext w2 wr) (fun i _ _ => cs.length - (intOf i).toNat)
    case atStart => exact ⟨0, 1065353216, Nat.zero_le _, rfl, rfl, rfl, Ext.refl _⟩
    case round =>
      obtain ⟨k, y, hk, rfl, rfl, HY, Z⟩ := hrel
      by_cases hlt : k < cs.length
      · obtain ⟨b1, o1, e1, hb1, hc1⟩ := RdN_at (own.ext Z).rd hlt
        cases e1
        rw [Nat.zero_add] at hc1
        have hs10 := HCB.out _ (List.getElem_mem hlt)
        have HNX := Lib.hid (bdK_take (f := negF) (p := P) (C := bs.map (cn .f32)) hlt)
        obtain ⟨s, hs⟩ : ∃ s, s = cs[k] := ⟨_, rfl⟩
        rw [← hs] at hc1 hs10 HNX
        clear hs
        have hki : (k : Int) < (cs.length : Int) := by omega
        go_wp2_with fail
        refine (HPO1.out _ (X.trans Z) s hs10).mono ?_
        rintro e w3 ⟨d, rfl, hd1, hd2, hx⟩
        have HD1 := Lib.hid hd1
        clear hd1 hd2 hc1 hb1
        go_wp2_with (refine wpList_fop rfl rfl rfl rfl rfl ?_; intro fb nf hfb hfl; replace hfb := Lib.hid hfb; replace hfl := Lib.hid hfl)
        rename_i m1 n1 e1 l1
        go_roundw
        case rel =>
          refine ⟨k + 1, fb, by omega, by go_num, rfl, ?_, Z.trans (hx.trans (Ext.drewN _ _))⟩
          show _ = _; rw [HNX.out, hfb.out, HY.out, e1.out, HD1.out]; rfl
        case measure => simp [intOf]; omega
      · obtain rfl : k = cs.length := by omega
        have HY2 := HY.out
        rw [List.take_length] at HY2
        have HLOW := Lib.hid HY2
        obtain ⟨k0, k1⟩ := (bx.ext Z).two
        replace X := X.trans Z
        clear HY2 own
        go_wp2_with fail
        clear k0 k1
        go_loopw [34, 8] (fun i q wq => ∃ (j z : Nat), j ≤ ns.length ∧ i = .int .i64 j ∧ q = .float .f32 z ∧ Hid (cn .f32 z = bdK id P (bs.map (cn .f32)) (ns.take j)) ∧ Ext wr wq) (fun i _ _ => ns.length - (intOf i).toNat)
        case atStart => exact ⟨0, 1065353216, Nat.zero_le _, rfl, rfl, rfl, Ext.refl _⟩
        case round =>
          obtain ⟨j, z, hj, rfl, rfl, HZ, Y⟩ := hrel
          by_cases hlt2 : j < ns.length
          · obtain ⟨b1, o1, rfl, hb1, hc1⟩ := RdN_at (RZ.out _ (X.trans Y)) hlt2
            have hs10 := HPB.out _ (List.getElem_mem hlt2)
            have HNX := Lib.hid (bdK_take (f := id) (p := P) (C := bs.map (cn .f32)) hlt2)
            obtain ⟨s, hs⟩ : ∃ s, s = ns[j] := ⟨_, rfl⟩
            rw [← hs] at hc1 hs10 HNX
            clear hs
            have hji : (j : Int) < (ns.length : Int) := by omega
            go_wp2_with fail
            refine (HPO2.out _ (X.trans Y) s hs10).mono ?_
            rintro e w3 ⟨d, rfl, hd1, hd2, hx⟩
            have HD1 := Lib.hid hd1
            clear hd1 hd2 hc1 hb1
            go_wp2_with (refine wpList_fop rfl rfl rfl rfl rfl ?_; intro fb nf hfb hfl; replace hfb := Lib.hid hfb; replace hfl := Lib.hid hfl)
            rename_i m1 n1 e1 l1
            go_roundw
            case rel =>
              refine ⟨j + 1, fb, by omega, by go_num, rfl, ?_, Y.trans (hx.trans (Ext.drewN _ _))⟩
              show _ = _; rw [HNX.out, hfb.out, HZ.out, e1.out, HD1.out]; rfl
            case measure => simp [intOf]; omega
          · obtain rfl : j = ns.length := by omega
            have HZ2 := HZ.out
            rw [List.take_length] at HZ2
            have HHIGH := Lib.hid HZ2
            clear HZ2
            go_wp2_with (refine wpList_fop rfl rfl rfl rfl rfl ?_; intro fb nf hfb hfl; replace hfb := Lib.hid hfb; replace hfl := Lib.hid hfl)
            go_ret3
            unfold N2Post
            rw [HO.out]
            exact ⟨X.trans (Y.trans (Ext.drewN _ _)), _, fb, rfl, HLOW.out, by rw [hfb.out, HHIGH.out]; rfl⟩
end Go.Proofs.Ytgmdoboeenpjpaa
