
/- How likely a system works, both sides. Condition: a valid system, a list of numbers that can be read. -/
import Derived.Test.YtgmdoboeenpjpaaYV
import Derived.Test.YtgmdoboeenpjpaaDC
namespace Go.Proofs.Ytgmdoboeenpjpaa
open Go Go.RowKit Go.ChangeShapes Go.WideShapes Go.ChangeAt

attribute [local irreducible] LX

theorem bitC_and (s i : Nat) (hs : s < 1024) : bits .and .i64 ((s : Int) / 2 ^ i) 1 = if s.testBit i then 1 else 0 := by
  have h1 : ((s : Int) / 2 ^ i) = ((s / 2 ^ i : Nat) : Int) := by exact_mod_cast rfl
  have h2 : s / 2 ^ i < 1024 := Nat.lt_of_le_of_lt (Nat.div_le_self _ _) hs
  have h3 := bits_and (s / 2 ^ i) 1 (by omega) (by decide)
  rw [h1]
  refine Eq.trans h3 ?_
  rw [Nat.and_one_is_mod, Nat.testBit_eq_decide_div_mod_eq]
  by_cases h : s / 2 ^ i % 2 = 1
  · simp [h]
  · have : s / 2 ^ i % 2 = 0 := by omega
    simp [this]

/-- A part's chance to work, or to fail, as a set says. -/
def pickC (s i c : Nat) : Nat := if s.testBit i then c else fop .sub .f32 oneF c
/-- How likely just the parts of a set work, of the first parts. -/
def prK (s : Nat) (C : List Nat) : Nat → Nat
  | 0 => oneF
  | i + 1 => fop .mul .f32 (prK s C i) (pickC s i (C.getD i 0))
def chS (p : Nat) (ns C : List Nat) : Nat := sumF (cn .f32 0) (((List.range (2 ^ p)).filter (worksB ns)).map fun s => prK s C p)

set_option maxHeartbeats 8000000 in
theorem chance_any (p : Nat) (v u : Value) (ns bs : List Nat) (w : World) (r : RdI w v (ups ns)) (rb : RdF w u bs) (h : SysN p ns) (hl : bs.length = p) :
    Calls Try.prog 43 #[.agg #[.int .i64 p, v], u] w fun e w' => ∃ b, e = .returned (.float .f32 b) ∧ cn .f32 b = chS p ns (bs.map (cn .f32)) ∧ b < 4294967296 ∧ Ext w w' := by
  have r' := r
  have rb' := rb
  obtain ⟨a1, c1, rfl, -, -⟩ := RdN_slice r
  obtain ⟨⟨-, a2, c2, rfl, -, -, -, -⟩, -⟩ := rb
  have bx : Bx (w.alloc (.cells #[.int .i64 p, .slice a1 ns.length c1] 27)) w.heap.size [.int .i64 p, .slice a1 ns.length c1] := Bx.new _ _ _
  have hb := (pow10N h.p10).2.2.2
  have hp10 := h.p10
  have HS := Lib.hid (fun W (x : Ext w W) => setsWhereB_any p 62 (.agg #[.int .i64 p, .slice a1 ns.length c1]) (worksB ns) W hp10 (enterOk Try.func62 (by kernel_rfl) rfl)
    (fun w' hx s hlt => works_any p s (.slice a1 ns.length c1) ns w' (r'.ext (x.trans hx)) (fun n hn => by have := h.small n hn; omega) (by omega)))
  have HDEF : Hid (chS p ns (bs.map (cn .f32)) = sumF (cn .f32 0) (((List.range (2 ^ p)).filter (worksB ns)).map fun s => prK s (bs.map (cn .f32)) p)) := rfl
  have HX : Hid (∀ s ∈ (List.range (2 ^ p)).filter (worksB ns), s < 1024) := fun s hs => by rw [List.mem_filter, List.mem_range] at hs; omega
  have hxl : ((List.range (2 ^ p)).filter (worksB ns)).length ≤ 1024 := Nat.le_trans (List.length_filter_le _ _) (by rw [List.length_range]; exact hb)
  generalize (List.range (2 ^ p)).filter (worksB ns) = xs at *
  have HL := Lib.hid hl
  rw [hl] at rb'
  try rw [hl]
  clear h hb hl
  go_enter Try.func43, Try.ntmps43
  go_wp2_with fail
  refine (HS.out _ (Ext.alloc _ _)).mono ?_
  rintro e w1 ⟨g, cap, rfl, hx, own⟩
  have X : Ext w w1 := (Ext.alloc _ _).trans hx
  clear hx bx
  go_wp2_with fail
  go_loopw [17, 5] (fun i q wr => ∃ (k x : Nat), k ≤ xs.length ∧ i = .int .i64 k ∧ q = .float .f32 x ∧ Hid (cn .f32 x = sumF (cn .f32 0) ((xs.take k).map fun s => prK s (bs.map (cn .f32)) p)) ∧ Hid (x < 4294967296) ∧ Ext w1 wr) (fun i _ _ => xs.length - (intOf i).toNat)
  case atStart => exact ⟨0, 0, Nat.zero_le _, rfl, rfl, rfl, (by show (0 : Nat) < _; decide), Ext.refl _⟩
  case round =>
    obtain ⟨k, x, hk, rfl, rfl, HSUM, HB, Z⟩ := hrel
    by_cases hlt : k < xs.length
    · obtain ⟨b1, o1, e1, hb1, hc1⟩ := RdN_at (own.ext Z).rd hlt
      cases e1
      rw [Nat.zero_add] at hc1
      have hs10 := HX.out _ (List.getElem_mem hlt)
      have HNX : Hid (sumF (cn .f32 0) ((xs.take (k + 1)).map fun s => prK s (bs.map (cn .f32)) p) = fop .add .f32 (sumF (cn .f32 0) ((xs.take k).map fun s => prK s (bs.map (cn .f32)) p)) (prK xs[k] (bs.map (cn .f32)) p)) := by
        show _ = _
        rw [List.take_succ_eq_append_getElem hlt, List.map_append]
        unfold sumF
        rw [List.foldl_append]; rfl
      obtain ⟨s, hs⟩ : ∃ s, s = xs[k] := ⟨_, rfl⟩
      rw [← hs] at hc1 hs10 HNX
      clear hs
      have hki : (k : Int) < (xs.length : Int) := by omega
      obtain ⟨wo, rfl⟩ : ∃ wo : World, wo = wr := ⟨_, rfl⟩
      go_wp2_with fail
      go_loopw [23, 8] (fun i q wq => ∃ (j y : Nat), j ≤ p ∧ i = .int .i64 j ∧ q = .float .f32 y ∧ Hid (cn .f32 y = prK s (bs.map (cn .f32)) j) ∧ Hid (y < 4294967296) ∧ Ext wo wq) (fun i _ _ => p - (intOf i).toNat)
      case atStart => exact ⟨0, 1065353216, Nat.zero_le _, rfl, rfl, rfl, (by show (1065353216 : Nat) < _; decide), Ext.refl _⟩
      case round =>
        obtain ⟨j, y, hj, rfl, rfl, HY, HYB, Y⟩ := hrel
        by_cases hjp : j < p
        · have hjl : j < bs.length := by rw [HL.out]; exact hjp
          obtain ⟨b2, o2, e2, hb2, hc2⟩ := RdF.at (rb'.ext (X.trans (Z.trans Y))) hjl
          subst e2
          have hji : (j : Int) < (p : Int) := by omega
          have hj63 : (j : Int) < 64 := by omega
          have hba := bitC_and s j hs10
          have hsd0 : 0 ≤ (s : Int) / 2 ^ j := Int.ediv_nonneg (by omega) (Int.le_of_lt (Int.pow_pos (by decide)))
          have HPR : Hid (prK s (bs.map (cn .f32)) (j + 1) = fop .mul .f32 (prK s (bs.map (cn .f32)) j) (pickC s j (cn .f32 bs[j]))) := by
            show _ = _
            show fop .mul .f32 _ (pickC s j ((bs.map (cn .f32)).getD j 0)) = _
            simp [hjl]
          generalize bs[j] = c at *
          cases hb : s.testBit j
          · have HPK : Hid (pickC s j (cn .f32 c) = fop .sub .f32 oneF (cn .f32 c)) := by show _ = _; unfold pickC; rw [hb]; rfl
            rw [hb] at hba
            simp only [Bool.false_eq_true, if_false] at hba
            clear hb
            go_wp2_with (refine wpList_fop rfl rfl rfl rfl rfl ?_; intro fb nf hfb hfl; replace hfb := Lib.hid hfb; replace hfl := Lib.hid hfl)
            rename_i m1 n1 e1 l1
            go_roundw
            case rel =>
              refine ⟨j + 1, fb, by omega, by go_num, rfl, ?_, hfl, Y.trans (Ext.drewN _ _)⟩
              show _ = _; rw [HPR.out, HPK.out, hfb.out, e1.out, HY.out]; rfl
            case measure => simp [intOf]; omega
          · have HPK : Hid (pickC s j (cn .f32 c) = cn .f32 c) := by show _ = _; unfold pickC; rw [hb]; rfl
            rw [hb] at hba
            simp only [if_true] at hba
            clear hb
            go_wp2_with (refine wpList_fop rfl rfl rfl rfl rfl ?_; intro fb nf hfb hfl; replace hfb := Lib.hid hfb; replace hfl := Lib.hid hfl)
            go_roundw
            case rel =>
              refine ⟨j + 1, fb, by omega, by go_num, rfl, ?_, hfl, Y.trans (Ext.drewN _ _)⟩
              show _ = _; rw [HPR.out, HPK.out, hfb.out, HY.out]
            case measure => simp [intOf]; omega
        · obtain rfl : j = p := by omega
          clear hc1 hb1
          go_wp2_with (refine wpList_fop rfl rfl rfl rfl rfl ?_; intro fb nf hfb hfl; replace hfb := Lib.hid hfb; replace hfl := Lib.hid hfl)
          go_roundw
          case rel =>
            refine ⟨k + 1, fb, by omega, by go_num, rfl, ?_, hfl, Z.trans (Y.trans (Ext.drewN _ _))⟩
            show _ = _; rw [HNX.out, hfb.out, HSUM.out, HY.out]
          case measure => simp [intOf]; omega
    · obtain rfl : k = xs.length := by omega
      have HF := HSUM.out
      rw [List.take_length] at HF
      have HF2 := Lib.hid HF
      clear HF
      go_wp2_with fail
      go_ret
      exact ⟨x, rfl, by rw [HF2.out, HDEF.out], HB.out, X.trans Z⟩

set_option maxHeartbeats 8000000 in
theorem l03Chance_any (p : Nat) (v u : Value) (ns bs : List Nat) (blk : Nat) (w : World) (hbx : Bx w blk [.int .i64 p, v]) (r : RdI w v (ups ns)) (rb : RdF w u bs) (h : SysN p ns) (hl : bs.length = p) :
    Calls Try.prog 58 #[.pointer (some ⟨blk, 0, none⟩), u] w fun e w' => ∃ b, e = .returned (.float .f32 b) ∧ cn .f32 b = chS p ns (bs.map (cn .f32)) ∧ b < 4294967296 ∧ Ext w w' := by
  have r' := r
  have rb' := rb
  obtain ⟨a1, c1, rfl, -, -⟩ := RdN_slice r
  obtain ⟨⟨-, a2, c2, rfl, -, -, -, -⟩, -⟩ := rb
  obtain ⟨q1, q2, q3, q4⟩ := pow10N h.p10
  have hp10 := h.p10
  have hP63 : (p : Int) < 64 := by omega
  have HW := Lib.hid (fun W (x : Ext w W) s (hs : s < 1024) => l03Works_any (p : Int) s (.slice a1 ns.length c1) ns blk W (hbx.ext x) (r'.ext x) (fun n hn => by have := h.small n hn; omega) (by omega))
  have HDEF : Hid (chS p ns (bs.map (cn .f32)) = sumF (cn .f32 0) (((List.range (2 ^ p)).filter (worksB ns)).map fun s => prK s (bs.map (cn .f32)) p)) := rfl
  have HST := Lib.hid (fun k => range_filter_succ (worksB ns) k)
  have HL := Lib.hid hl
  rw [hl] at rb'
  try rw [hl]
  generalize hN : 2 ^ p = N at *
  generalize worksB ns = wk at *
  clear h hl hN
  go_enter Try.func58, Try.ntmps58
  go_wp2_with fail
  go_loopw [6, 5] (fun i q wr => ∃ (k x : Nat), k ≤ N ∧ i = .int .i64 k ∧ q = .float .f32 x ∧ Hid (cn .f32 x = sumF (cn .f32 0) (((List.range k).filter wk).map fun s => prK s (bs.map (cn .f32)) p)) ∧ Hid (x < 4294967296) ∧ Ext w wr) (fun i _ _ => N - (intOf i).toNat)
  case atStart => exact ⟨0, 0, Nat.zero_le _, rfl, rfl, rfl, (by show (0 : Nat) < _; decide), Ext.refl _⟩
  case round =>
    obtain ⟨k, x, hk, rfl, rfl, HSUM, HB, Z⟩ := hrel
    obtain ⟨k0, k1⟩ := (hbx.ext Z).two
    by_cases hlt : k < N
    · have hki : (k : Int) < (N : Int) := by omega
      have hst := HST.out k
      go_wp2_with fail
      refine (HW.out _ Z k (by omega)).mono ?_
      rintro e w1 ⟨rfl, hx⟩
      replace Z := Z.trans hx
      clear hx k0 k1
      cases hw : wk k
      · have HE : Hid ((List.range (k + 1)).filter wk = (List.range k).filter wk) := by show _ = _; rw [hst, hw]; simp
        clear hst hw
        go_wp2_with fail
        go_roundw
        case rel => exact ⟨k + 1, x, by omega, by go_num, rfl, by show _ = _; rw [HE.out]; exact HSUM.out, HB, Z⟩
        case measure => simp [intOf]; omega
      · have HNX : Hid (sumF (cn .f32 0) (((List.range (k + 1)).filter wk).map fun s => prK s (bs.map (cn .f32)) p) = fop .add .f32 (sumF (cn .f32 0) (((List.range k).filter wk).map fun s => prK s (bs.map (cn .f32)) p)) (prK k (bs.map (cn .f32)) p)) := by
          show _ = _
          rw [hst, hw, if_pos rfl, List.map_append]
          unfold sumF
          rw [List.foldl_append]; rfl
        have hk10 : k < 1024 := by omega
        clear hst hw
        go_wp2_with fail
        go_loopw [24, 7] (fun i q wq => ∃ (j y : Nat), j ≤ p ∧ i = .int .i64 j ∧ q = .float .f32 y ∧ Hid (cn .f32 y = prK k (bs.map (cn .f32)) j) ∧ Hid (y < 4294967296) ∧ Ext w1 wq) (fun i _ _ => p - (intOf i).toNat)
        case atStart => exact ⟨0, 1065353216, Nat.zero_le _, rfl, rfl, rfl, (by show (1065353216 : Nat) < _; decide), Ext.refl _⟩
        case round =>
          obtain ⟨j, y, hj, rfl, rfl, HY, HYB, Y⟩ := hrel
          by_cases hjp : j < p
          · have hjl : j < bs.length := by rw [HL.out]; exact hjp
            obtain ⟨b2, o2, e2, hb2, hc2⟩ := RdF.at (rb'.ext (Z.trans Y)) hjl
            subst e2
            have hji : (j : Int) < (p : Int) := by omega
            have hj63 : (j : Int) < 64 := by omega
            have hba := bitC_and k j hk10
            have hju := wrapU_nat j (by omega)
            have hsd0 : 0 ≤ (k : Int) / 2 ^ j := Int.ediv_nonneg (by omega) (Int.le_of_lt (Int.pow_pos (by decide)))
            have HPR : Hid (prK k (bs.map (cn .f32)) (j + 1) = fop .mul .f32 (prK k (bs.map (cn .f32)) j) (pickC k j (cn .f32 bs[j]))) := by
              show _ = _
              show fop .mul .f32 _ (pickC k j ((bs.map (cn .f32)).getD j 0)) = _
              simp [hjl]
            generalize bs[j] = c at *
            cases hb : k.testBit j
            · have HPK : Hid (pickC k j (cn .f32 c) = fop .sub .f32 oneF (cn .f32 c)) := by show _ = _; unfold pickC; rw [hb]; rfl
              rw [hb] at hba
              simp only [Bool.false_eq_true, if_false] at hba
              clear hb
              go_wp2_with (refine wpList_fop rfl rfl rfl rfl rfl ?_; intro fb nf hfb hfl; replace hfb := Lib.hid hfb; replace hfl := Lib.hid hfl)
              rename_i m1 n1 e1 l1
              go_roundw
              case rel =>
                refine ⟨j + 1, fb, by omega, by go_num, rfl, ?_, hfl, Y.trans (Ext.drewN _ _)⟩
                show _ = _; rw [HPR.out, HPK.out, hfb.out, e1.out, HY.out]; rfl
              case measure => simp [intOf]; omega
            · have HPK : Hid (pickC k j (cn .f32 c) = cn .f32 c) := by show _ = _; unfold pickC; rw [hb]; rfl
              rw [hb] at hba
              simp only [if_true] at hba
              clear hb
              go_wp2_with (refine wpList_fop rfl rfl rfl rfl rfl ?_; intro fb nf hfb hfl; replace hfb := Lib.hid hfb; replace hfl := Lib.hid hfl)
              go_roundw
              case rel =>
                refine ⟨j + 1, fb, by omega, by go_num, rfl, ?_, hfl, Y.trans (Ext.drewN _ _)⟩
                show _ = _; rw [HPR.out, HPK.out, hfb.out, HY.out]
              case measure => simp [intOf]; omega
          · obtain rfl : j = p := by omega
            go_wp2_with (refine wpList_fop rfl rfl rfl rfl rfl ?_; intro fb nf hfb hfl; replace hfb := Lib.hid hfb; replace hfl := Lib.hid hfl)
            go_roundw
            case rel =>
              refine ⟨k + 1, fb, by omega, by go_num, rfl, ?_, hfl, Z.trans (Y.trans (Ext.drewN _ _))⟩
              show _ = _; rw [HNX.out, hfb.out, HSUM.out, HY.out]
            case measure => simp [intOf]; omega
    · obtain rfl : k = N := by omega
      go_wp2_with fail
      go_ret
      exact ⟨x, rfl, by rw [HDEF.out]; exact HSUM.out, HB.out, Z⟩

/-! ### ChanceOf -/
def chOk (p : Int) (zs : List Int) (bs : List Nat) : Bool := sysB p zs && chancesB bs p
def chanceO (p : Int) (zs : List Int) (bs : List Nat) : Option Nat := if chOk p zs bs then some (chS p.toNat (downs zs) (bs.map (cn .f32))) else none
theorem chOk_get {p : Int} {zs : List Int} {bs : List Nat} (h : chOk p zs bs = true) : SysN p.toNat (downs zs) ∧ p = (p.toNat : Int) ∧ zs = ups (downs zs) ∧ bs.length = p.toNat := by
  unfold chOk at h
  rw [Bool.and_eq_true] at h
  obtain ⟨h1, h2, h3⟩ := SysN.of (sys_good' h.1)
  have h4 := h.2
  unfold chancesB at h4
  rw [Bool.and_eq_true, decide_eq_true_eq] at h4
  exact ⟨h1, h2, h3, by omega⟩

set_option maxHeartbeats 2000000 in
theorem chanced_any (p : Int) (v u : Value) (zs : List Int) (bs : List Nat) (w : World) (r : RdI w v zs) (rb : RdF w u bs) :
    Calls Try.prog 42 #[.agg #[.int .i64 p, v], u] w fun e w' => e = .returned (.bool (chOk p zs bs)) ∧ Ext w w' := by
  have r' := r
  have rb' := rb
  obtain ⟨-, a1, c1, rfl, -, -, -, -⟩ := r
  obtain ⟨⟨-, a2, c2, rfl, -, -, -, -⟩, -⟩ := rb
  have bx : Bx (w.alloc (.cells #[.int .i64 p, .slice a1 zs.length c1] 27)) w.heap.size [.int .i64 p, .slice a1 zs.length c1] := Bx.new _ _ _
  have HV := Lib.hid (fun W (x : Ext w W) => implValidSystem_any p _ zs W (r'.ext x))
  cases hv : sysB p zs
  · have HO : Hid (chOk p zs bs = false) := by show _ = _; unfold chOk; rw [hv]; rfl
    rw [hv] at HV
    clear hv
    go_enter Try.func42, Try.ntmps42
    go_wp2_with fail
    refine (HV.out _ (Ext.alloc _ _)).mono ?_
    rintro e w1 ⟨rfl, hx⟩
    go_wp2_with fail
    go_ret
    exact ⟨ret_bool HO.out.symm, (Ext.alloc _ _).trans hx⟩
  · have HO : Hid (chOk p zs bs = chancesB bs p) := by show _ = _; unfold chOk; rw [hv]; rfl
    rw [hv] at HV
    clear hv
    go_enter Try.func42, Try.ntmps42
    go_wp2_with fail
    refine (HV.out _ (Ext.alloc _ _)).mono ?_
    rintro e w1 ⟨rfl, hx⟩
    replace bx := bx.ext hx
    have X : Ext w w1 := (Ext.alloc _ _).trans hx
    obtain ⟨k0, k1⟩ := bx.two
    clear hx
    go_wp2_with fail
    refine (areChances_any _ bs p _ (rb'.ext X)).mono ?_
    rintro e w2 ⟨rfl, hx⟩
    generalize chancesB bs p = c at *
    go_wp2_with fail
    go_ret
    exact ⟨ret_bool HO.out.symm, X.trans hx⟩
theorem chanced_eq {p : Int} {v u : Value} {zs : List Int} {bs : List Nat} {c : Bool} (h : chOk p zs bs = c) (w : World) (r : RdI w v zs) (rb : RdF w u bs) :
    Calls Try.prog 42 #[.agg #[.int .i64 p, v], u] w fun e w' => e = .returned (.bool c) ∧ Ext w w' := by subst h; exact chanced_any p v u zs bs w r rb
end Go.Proofs.Ytgmdoboeenpjpaa
/- ChanceOf, both sides. Condition: lists that can be read. -/
namespace Go.Proofs.Ytgmdoboeenpjpaa
open Go Go.RowKit Go.ChangeShapes Go.WideShapes Go.ChangeAt

attribute [local irreducible] LX

theorem l03Chances_eq {v : Value} {bs : List Nat} {n : Int} {c : Bool} (h : chancesB bs n = c) (w : World) (r : RdF w v bs) :
    Calls Try.prog 55 #[v, .int .i64 n] w fun e w' => e = .returned (.bool c) ∧ w = w' := by subst h; exact l03Chances_any v bs n w r

set_option maxHeartbeats 2000000 in
theorem implChanceOf_any (p : Int) (v u : Value) (zs : List Int) (bs : List Nat) (w : World) (r : RdI w v zs) (rb : RdF w u bs) :
    Calls Try.prog 10 #[.agg #[.int .i64 p, v], u] w (NmPost (chanceO p zs bs) w) := by
  have r' := r
  have rb' := rb
  obtain ⟨-, a1, c1, rfl, -, -, -, -⟩ := r
  obtain ⟨⟨-, a2, c2, rfl, -, -, -, -⟩, -⟩ := rb
  have bx : Bx (w.alloc (.cells #[.int .i64 p, .slice a1 zs.length c1] 27)) w.heap.size [.int .i64 p, .slice a1 zs.length c1] := Bx.new _ _ _
  cases hok : chOk p zs bs
  · have HO : Hid (chanceO p zs bs = none) := by show _ = _; unfold chanceO; rw [hok]; rfl
    have HK := Lib.hid hok
    clear hok
    go_enter Try.func10, Try.ntmps10
    go_wp2_with fail
    refine (chanced_eq HK.out _ (r'.ext (Ext.alloc _ _)) (rb'.ext (Ext.alloc _ _))).mono ?_
    rintro e w1 ⟨rfl, hx⟩
    go_wp2_with fail
    go_ret2
    unfold NmPost
    rw [HO.out]
    exact ⟨(Ext.alloc _ _).trans hx, rfl⟩
  · have HO : Hid (chanceO p zs bs = some (chS p.toNat (downs zs) (bs.map (cn .f32)))) := by show _ = _; unfold chanceO; rw [hok]; rfl
    have HK := Lib.hid hok
    obtain ⟨h1, h2, h3, h4⟩ := chOk_get hok
    have HC := Lib.hid (fun W (x : Ext w W) => chance_any p.toNat (.slice a1 zs.length c1) (.slice a2 bs.length c2) (downs zs) bs W (by rw [← h3]; exact r'.ext x) (rb'.ext x) h1 h4)
    rw [← h2] at HC
    clear hok h1 h2 h3 h4
    go_enter Try.func10, Try.ntmps10
    go_wp2_with fail
    refine (chanced_eq HK.out _ (r'.ext (Ext.alloc _ _)) (rb'.ext (Ext.alloc _ _))).mono ?_
    rintro e w1 ⟨rfl, hx⟩
    replace bx := bx.ext hx
    have X : Ext w w1 := (Ext.alloc _ _).trans hx
    obtain ⟨k0, k1⟩ := bx.two
    clear hx
    go_wp2_with fail
    refine (HC.out _ X).mono ?_
    rintro e w2 ⟨b, rfl, hb, hbl, hx⟩
    have HB := Lib.hid hb
    have HBL := Lib.hid hbl
    clear hb hbl
    go_wp2_with fail
    go_ret2
    unfold NmPost
    rw [HO.out]
    exact ⟨X.trans hx, b, rfl, HB.out, HBL.out⟩

set_option maxHeartbeats 2000000 in
theorem specChanceOf_any (p : Int) (v u : Value) (zs : List Int) (bs : List Nat) (w : World) (r : RdI w v zs) (rb : RdF w u bs) :
    Calls Try.prog 22 #[.agg #[.int .i64 p, v], u] w (NmPost (chanceO p zs bs) w) := by
  have r' := r
  have rb' := rb
  obtain ⟨-, a1, c1, rfl, -, -, -, -⟩ := r
  obtain ⟨⟨-, a2, c2, rfl, -, -, -, -⟩, -⟩ := rb
  have bx : Bx (w.alloc (.cells #[.int .i64 p, .slice a1 zs.length c1] 27)) w.heap.size [.int .i64 p, .slice a1 zs.length c1] := Bx.new _ _ _
  have HV := Lib.hid (l03Is_sys p _ zs w.heap.size _ bx (r'.ext (Ext.alloc _ _)))
  cases hv : sysB p zs
  · have HO : Hid (chanceO p zs bs = none) := by show _ = _; unfold chanceO chOk; rw [hv]; rfl
    rw [hv] at HV
    clear hv
    go_enter Try.func22, Try.ntmps22
    go_wp2_with fail
    refine HV.out.mono ?_
    rintro e w1 ⟨rfl, hx⟩
    go_wp2_with fail
    go_ret2
    unfold NmPost
    rw [HO.out]
    exact ⟨(Ext.alloc _ _).trans hx, rfl⟩
  rw [hv] at HV
  cases hc : chancesB bs p
  · have HO : Hid (chanceO p zs bs = none) := by show _ = _; unfold chanceO chOk; rw [hc, Bool.and_false]; rfl
    have HC := Lib.hid hc
    clear hv hc
    go_enter Try.func22, Try.ntmps22
    go_wp2_with fail
    refine HV.out.mono ?_
    rintro e w1 ⟨rfl, hx⟩
    replace bx := bx.ext hx
    have X : Ext w w1 := (Ext.alloc _ _).trans hx
    obtain ⟨k0, k1⟩ := bx.two
    clear hx
    go_wp2_with fail
    refine (l03Chances_eq HC.out _ (rb'.ext X)).mono ?_
    rintro e w2 ⟨rfl, rfl⟩
    go_wp2_with fail
    go_ret2
    unfold NmPost
    rw [HO.out]
    exact ⟨X, rfl⟩
  · have hok : chOk p zs bs = true := by unfold chOk; rw [hv, hc]; rfl
    have HO : Hid (chanceO p zs bs = some (chS p.toNat (downs zs) (bs.map (cn .f32)))) := by show _ = _; unfold chanceO; rw [hok]; rfl
    have HC := Lib.hid hc
    obtain ⟨h1, h2, h3, h4⟩ := chOk_get hok
    have HCH := Lib.hid (fun W (x : Ext w W) (b : Bx W w.heap.size [.int .i64 (p.toNat : Int), .slice a1 zs.length c1]) => l03Chance_any p.toNat (.slice a1 zs.length c1) (.slice a2 bs.length c2) (downs zs) bs w.heap.size W b (by rw [← h3]; exact r'.ext x) (rb'.ext x) h1 h4)
    rw [← h2] at HCH
    clear hok h1 h2 h3 h4 hv hc
    go_enter Try.func22, Try.ntmps22
    go_wp2_with fail
    refine HV.out.mono ?_
    rintro e w1 ⟨rfl, hx⟩
    replace bx := bx.ext hx
    have X : Ext w w1 := (Ext.alloc _ _).trans hx
    obtain ⟨k0, k1⟩ := bx.two
    clear hx
    go_wp2_with fail
    refine (l03Chances_eq HC.out _ (rb'.ext X)).mono ?_
    rintro e w2 ⟨rfl, rfl⟩
    clear k0 k1
    go_wp2_with fail
    refine (HCH.out _ X bx).mono ?_
    rintro e w3 ⟨b, rfl, hb, hbl, hx⟩
    have HB := Lib.hid hb
    have HBL := Lib.hid hbl
    clear hb hbl
    go_wp2_with fail
    go_ret2
    unfold NmPost
    rw [HO.out]
    exact ⟨X.trans hx, b, rfl, HB.out, HBL.out⟩
end Go.Proofs.Ytgmdoboeenpjpaa
