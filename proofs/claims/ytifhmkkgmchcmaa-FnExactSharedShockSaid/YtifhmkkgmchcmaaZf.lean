
/- SharedShock, both sides. Condition: lists that can be read, of at most 2^20 numbers. -/
import Derived.Test.YtifhmkkgmchcmaaZd
namespace Go.Proofs.Ytifhmkkgmchcmaa
open Go Go.RowKit Go.ChangeShapes Go.WideShapes Go.ChangeAt

attribute [local go_sem] run_store_float
attribute [local irreducible] LX

/-- The chances with those of the parts of a set struck, of the first i parts. -/
def hitR (t : Nat) (bs : List Nat) : Nat → List Nat
  | 0 => bs
  | i + 1 => if t.testBit i then (hitR t bs i).set i 0 else hitR t bs i
theorem hitR_len (t : Nat) (bs : List Nat) : ∀ i, (hitR t bs i).length = bs.length
  | 0 => rfl
  | i + 1 => by unfold hitR; split <;> simp [hitR_len t bs i]
theorem hitR_lt {t : Nat} {bs : List Nat} (h : ∀ b ∈ bs, b < 4294967296) : ∀ i, ∀ b ∈ hitR t bs i, b < 4294967296
  | 0 => h
  | i + 1 => by
    unfold hitR
    split
    · intro b hb
      rcases List.mem_or_eq_of_mem_set hb with h1 | h1
      · exact hitR_lt h i b h1
      · subst h1; decide
    · exact hitR_lt h i
def ssOk (p : Int) (zs : List Int) (bs : List Nat) (t : Int) (h : Nat) : Bool := chOk p zs bs && inB t 0 (2 ^ p.toNat - 1) && shareB h
def ssV (p : Nat) (ns bs : List Nat) (t h : Nat) : Nat :=
  fop .add .f32 (fop .mul .f32 h (chS p ns ((hitR t bs p).map (cn .f32)))) (fop .mul .f32 (fop .sub .f32 oneF h) (chS p ns (bs.map (cn .f32))))
def ssO (p : Int) (zs : List Int) (bs : List Nat) (t : Int) (h : Nat) : Option Nat := if ssOk p zs bs t h then some (ssV p.toNat (downs zs) bs t.toNat h) else none

theorem shareI_eq {b : Nat} {c : Bool} (h : shareB (cn .f32 b) = c) (w : World) : Calls Try.prog 90 #[.float .f32 b] w fun e w' => e = .returned (.bool c) ∧ w = w' := isShare_eq h w

set_option maxRecDepth 100000 in
set_option maxHeartbeats 4000000 in
theorem implSharedShock_any (p t : Int) (h : Nat) (v u : Value) (zs : List Int) (bs : List Nat) (w : World) (r : RdI w v zs) (rb : RdF w u bs) :
    Calls Try.prog 52 #[.agg #[.int .i64 p, v], u, .int .i64 t, .float .f32 h] w (NmPost (ssO p zs bs t (cn .f32 h)) w) := by
  have r' := r
  have rb' := rb
  obtain ⟨-, a1, c1, rfl, -, -, -, -⟩ := r
  obtain ⟨⟨-, a2, c2, rfl, -, -, -, -⟩, -⟩ := rb
  have bx : Bx (w.alloc (.cells #[.int .i64 p, .slice a1 zs.length c1] 27)) w.heap.size [.int .i64 p, .slice a1 zs.length c1] := Bx.new _ _ _
  cases hok : chOk p zs bs
  · have HO : Hid (ssO p zs bs t (cn .f32 h) = none) := by show _ = _; unfold ssO ssOk; rw [hok]; rfl
    have HK := Lib.hid hok
    clear hok
    go_enter Try.func52, Try.ntmps52
    go_wp2_with fail
    refine (chanced_eq HK.out _ (r'.ext (Ext.alloc _ _)) (rb'.ext (Ext.alloc _ _))).mono ?_
    rintro e w1 ⟨rfl, hx⟩
    go_wp2_with fail
    go_ret2
    unfold NmPost
    rw [HO.out]
    exact ⟨(Ext.alloc _ _).trans hx, rfl⟩
  have HK := Lib.hid hok
  obtain ⟨h1, h2, h3, h4⟩ := chOk_get hok
  obtain ⟨P, hP⟩ : ∃ P, P = p.toNat := ⟨_, rfl⟩
  rw [← hP] at h1 h2 h4
  subst h2
  have hp1 := h1.p1
  have hp10 := h1.p10
  have HALL := Lib.hid (fun W v => sysAll_any (P : Int) v W (by omega) (by omega))
  cases hs : inB t 0 (2 ^ (P : Int).toNat - 1)
  · have HO : Hid (ssO (P : Int) zs bs t (cn .f32 h) = none) := by show _ = _; unfold ssO ssOk; rw [hs, Bool.and_false, Bool.false_and]; rfl
    have HS := Lib.hid hs
    clear hok hs h1 h3 h4 hP
    go_enter Try.func52, Try.ntmps52
    go_wp2_with fail
    refine (chanced_eq HK.out _ (r'.ext (Ext.alloc _ _)) (rb'.ext (Ext.alloc _ _))).mono ?_
    rintro e w1 ⟨rfl, hx⟩
    replace bx := bx.ext hx
    have X : Ext w w1 := (Ext.alloc _ _).trans hx
    obtain ⟨k0, k1⟩ := bx.two
    clear hx
    go_wp2_with fail
    refine (HALL.out _ _).mono ?_
    rintro e w2 ⟨rfl, hx⟩
    go_wp2_with fail
    refine (within_eq HS.out _).mono ?_
    rintro e w3 ⟨rfl, rfl⟩
    go_wp2_with fail
    go_ret2
    unfold NmPost
    rw [HO.out]
    exact ⟨X.trans hx, rfl⟩
  cases hh : shareB (cn .f32 h)
  · have HO : Hid (ssO (P : Int) zs bs t (cn .f32 h) = none) := by show _ = _; unfold ssO ssOk; rw [hh, Bool.and_false]; rfl
    have HS := Lib.hid hs
    have HH := Lib.hid hh
    clear hok hs hh h1 h3 h4 hP
    go_enter Try.func52, Try.ntmps52
    go_wp2_with fail
    refine (chanced_eq HK.out _ (r'.ext (Ext.alloc _ _)) (rb'.ext (Ext.alloc _ _))).mono ?_
    rintro e w1 ⟨rfl, hx⟩
    replace bx := bx.ext hx
    have X : Ext w w1 := (Ext.alloc _ _).trans hx
    obtain ⟨k0, k1⟩ := bx.two
    clear hx
    go_wp2_with fail
    refine (HALL.out _ _).mono ?_
    rintro e w2 ⟨rfl, hx⟩
    go_wp2_with fail
    refine (within_eq HS.out _).mono ?_
    rintro e w3 ⟨rfl, rfl⟩
    go_wp2_with fail
    refine (isShare_eq HH.out _).mono ?_
    rintro e w4 ⟨rfl, rfl⟩
    go_wp2_with fail
    go_ret2
    unfold NmPost
    rw [HO.out]
    exact ⟨X.trans hx, rfl⟩
  · have hs2 := inB_iff.1 hs
    have hpw := pow10' (p := (P : Int)) (by omega) (by omega)
    obtain ⟨T, rfl⟩ := Int.eq_ofNat_of_zero_le (show 0 ≤ t by omega)
    have hT : T < 1024 := by omega
    have HO : Hid (ssO (P : Int) zs bs (T : Int) (cn .f32 h) = some (fop .add .f32 (fop .mul .f32 (cn .f32 h) (chS P (downs zs) ((hitR T bs P).map (cn .f32)))) (fop .mul .f32 (fop .sub .f32 oneF (cn .f32 h)) (chS P (downs zs) (bs.map (cn .f32)))))) := by
      show _ = _; unfold ssO ssOk; rw [hok, hs, hh]; rfl
    have HS := Lib.hid hs
    have HH := Lib.hid hh
    have HC := Lib.hid (fun W (x : Ext w W) u cs (rc : RdF W u cs) (hl : cs.length = P) => chance_any P (.slice a1 zs.length c1) u (downs zs) cs W (by rw [← h3]; exact r'.ext x) rc h1 hl)
    have HLN := Lib.hid (hitR_len T bs)
    have HLT := Lib.hid (fun i => hitR_lt (t := T) rb'.2 i)
    have HL := Lib.hid h4
    rw [h4] at rb'
    try rw [h4]
    clear hok hs hh h1 h3 h4 hP hpw hs2
    go_enter Try.func52, Try.ntmps52
    go_wp2_with fail
    refine (chanced_eq HK.out _ (r'.ext (Ext.alloc _ _)) (rb'.ext (Ext.alloc _ _))).mono ?_
    rintro e w1 ⟨rfl, hx⟩
    replace bx := bx.ext hx
    have X : Ext w w1 := (Ext.alloc _ _).trans hx
    obtain ⟨k0, k1⟩ := bx.two
    clear hx
    go_wp2_with fail
    refine (HALL.out _ _).mono ?_
    rintro e w2 ⟨rfl, hx⟩
    clear k0 k1
    replace bx := bx.ext hx
    replace X := X.trans hx
    clear hx w1
    go_wp2_with fail
    refine (within_eq HS.out _).mono ?_
    rintro e w3 ⟨rfl, rfl⟩
    go_wp2_with fail
    refine (isShare_eq HH.out _).mono ?_
    rintro e w4 ⟨rfl, rfl⟩
    have HLL := HL.out
    go_wp2_with fail
    refine (cloneFZ_any (.slice a2 P c2) bs _ (rb'.ext X) (by omega) (by omega)).mono ?_
    rintro e w3 ⟨g2, cap2, rfl, own2, hx⟩
    rw [HLL] at own2 ⊢
    have hgt := own2.lt g2 rfl
    have own0 : w3.ownsRow w2.heap.size 49 1 (.slice (some ⟨g2, 0, none⟩) P cap2) P ((hitR T bs 0).map (Value.float .f32)) := own2
    clear own2
    go_wp2_with fail
    go_loopw [32] (fun i wr => ∃ k : Nat, k ≤ P ∧ i = .int .i64 k ∧ Ext w2 wr ∧ wr.ownsRow w2.heap.size 49 1 (.slice (some ⟨g2, 0, none⟩) P cap2) P ((hitR T bs k).map (Value.float .f32))) (fun i _ => P - (intOf i).toNat)
    case atStart => exact ⟨0, Nat.zero_le _, rfl, hx, own0⟩
    case round =>
      clear own0 hx
      obtain ⟨k, hk, rfl, Z, own⟩ := hrel
      have hlk := HLN.out k
      by_cases hlt : k < P
      · have hki : (k : Int) < (P : Int) := by omega
        have hk63 : (k : Int) < 64 := by omega
        have hba := bitC_and T k hT
        have hsd0 : 0 ≤ (T : Int) / 2 ^ k := Int.ediv_nonneg (by omega) (Int.le_of_lt (Int.pow_pos (by decide)))
        have hcc := own.cellAt k (by omega)
        rw [List.getElem?_map, List.getElem?_eq_getElem (by omega)] at hcc
        simp only [Option.map_some] at hcc
        have hff := own.frozenAt k
        have hst := (own.stored k (.float .f32 0)).1
        rw [← List.map_set] at hst
        have HST := Lib.hid hst
        clear hst
        generalize (hitR T bs k)[k]'(by omega) = y at *
        cases hb : T.testBit k
        · have HE : Hid (hitR T bs (k + 1) = hitR T bs k) := by show _ = _; rw [hitR, hb]; rfl
          rw [hb] at hba
          simp only [Bool.false_eq_true, if_false] at hba
          clear hb
          go_wp2_with fail
          go_roundw
          case rel => exact ⟨k + 1, by omega, by go_num, Z, by rw [HE.out]; exact own⟩
          case measure => simp [intOf]; omega
        · have HE : Hid (hitR T bs (k + 1) = (hitR T bs k).set k 0) := by show _ = _; rw [hitR, hb]; rfl
          rw [hb] at hba
          simp only [if_true] at hba
          clear hb
          go_wp2_with fail
          go_roundw
          case rel => exact ⟨k + 1, by omega, by go_num, Z.setCell hgt.1 _, by rw [HE.out]; exact HST.out⟩
          case measure => simp [intOf]; omega
      · obtain rfl : k = P := by omega
        have RH : RdF wr (.slice (some ⟨g2, 0, none⟩) k cap2) (hitR T bs k) := ⟨by rw [hlk, HLL]; exact own_rd own, HLT.out k⟩
        have hlh : (hitR T bs k).length = k := by rw [hlk]; exact HLL
        have HC1 := Lib.hid (fun W (x : Ext wr W) => HC.out W (X.trans (Z.trans x)) _ _ (RH.ext x) hlh)
        have HC2 := Lib.hid (fun W (x : Ext wr W) => HC.out W (X.trans (Z.trans x)) _ _ (rb'.ext (X.trans (Z.trans x))) HLL)
        have bxr := bx.ext Z
        generalize hC1 : chS k (downs zs) ((hitR T bs k).map (cn .f32)) = cA at *
        generalize hC2 : chS k (downs zs) (bs.map (cn .f32)) = cB at *
        clear hC1 hC2 RH hlh hlk own
        go_wp2_with fail
        refine wp_region_rel 12 (fun i v => ∃ b, v = .float .f32 b ∧ cn .f32 b = (if i = 3 then cA else cB) ∧ b < 4294967296) (fun _ _ _ => True) (by kernel_rfl) (by kernel_rfl) (by kernel_rfl) ?_
        dsimp only [List.take, List.drop, List.length]
        refine LX_det (.float .f32 h) (by kernel_rfl) rfl (fun w' hx _ => ?_) ?_
        · go_simp
        refine LX_det (.agg #[.int .i64 k, .slice a1 zs.length c1]) (by kernel_rfl) rfl (fun w' hx _ => ?_) ?_
        · obtain ⟨m0, m1⟩ := (bxr.ext hx).two
          go_simp
        refine LX_det (.slice (some ⟨g2, 0, none⟩) k cap2) (by kernel_rfl) rfl (fun w' hx _ => ?_) ?_
        · go_simp
        refine LX_call (by kernel_rfl) rfl (fun _ => St.top) (fun w' hx _ => ?_) ?_
        · go_simp
          refine UponC.enter ((HC1.out _ hx).mono ?_)
          rintro e w'' ⟨b, rfl, hb1, hb2, hx'⟩
          exact ⟨_, rfl, hx', ⟨b, rfl, hb1, hb2⟩, trivial⟩
        rintro _ ⟨bA, rfl, hA1, hA2⟩
        simp only [Act.put, List.setIfInBounds_toArray, List.set_cons_succ, List.set_cons_zero]
        refine LX_fop (by kernel_rfl) rfl rfl rfl rfl ?_
        intro f1 hf1 hl1
        replace hf1 := Lib.hid hf1
        replace hl1 := Lib.hid hl1
        simp only [Act.put, List.setIfInBounds_toArray, List.set_cons_succ, List.set_cons_zero]
        refine LX_det (.float .f32 h) (by kernel_rfl) rfl (fun w' hx _ => ?_) ?_
        · go_simp
        refine LX_fop (by kernel_rfl) rfl rfl rfl rfl ?_
        intro f2 hf2 hl2
        replace hf2 := Lib.hid hf2
        replace hl2 := Lib.hid hl2
        simp only [Act.put, List.setIfInBounds_toArray, List.set_cons_succ, List.set_cons_zero]
        refine LX_det (.agg #[.int .i64 k, .slice a1 zs.length c1]) (by kernel_rfl) rfl (fun w' hx _ => ?_) ?_
        · obtain ⟨m0, m1⟩ := (bxr.ext hx).two
          go_simp
        refine LX_det (.slice a2 k c2) (by kernel_rfl) rfl (fun w' hx _ => ?_) ?_
        · go_simp
        refine LX_call (by kernel_rfl) rfl (fun _ => St.top) (fun w' hx _ => ?_) ?_
        · go_simp
          refine UponC.enter ((HC2.out _ hx).mono ?_)
          rintro e w'' ⟨b, rfl, hb1, hb2, hx'⟩
          exact ⟨_, rfl, hx', ⟨b, rfl, hb1, hb2⟩, trivial⟩
        rintro _ ⟨bB, rfl, hB1, hB2⟩
        simp only [Act.put, List.setIfInBounds_toArray, List.set_cons_succ, List.set_cons_zero]
        refine LX_fop (by kernel_rfl) rfl rfl rfl rfl ?_
        intro f3 hf3 hl3
        replace hf3 := Lib.hid hf3
        replace hl3 := Lib.hid hl3
        simp only [Act.put, List.setIfInBounds_toArray, List.set_cons_succ, List.set_cons_zero]
        refine LX_fop (by kernel_rfl) rfl rfl rfl rfl ?_
        intro f4 hf4 hl4
        replace hf4 := Lib.hid hf4
        replace hl4 := Lib.hid hl4
        refine LX_nil fun w6 hx _ => ?_
        simp only [Act.put, List.setIfInBounds_toArray, List.set_cons_succ, List.set_cons_zero]
        have HA1 := Lib.hid hA1
        have HB1 := Lib.hid hB1
        clear hA1 hB1
        go_wp2_with fail
        go_ret2
        unfold NmPost
        rw [HO.out]
        refine ⟨X.trans (Z.trans hx), f4, rfl, ?_, hl4.out⟩
        rw [hf4.out, hf1.out, hf3.out, hf2.out, HA1.out, HB1.out]; rfl
set_option maxRecDepth 100000 in
set_option maxHeartbeats 4000000 in
theorem specSharedShock_any (p t : Int) (h : Nat) (v u : Value) (zs : List Int) (bs : List Nat) (w : World) (r : RdI w v zs) (rb : RdF w u bs) :
    Calls Try.prog 51 #[.agg #[.int .i64 p, v], u, .int .i64 t, .float .f32 h] w (NmPost (ssO p zs bs t (cn .f32 h)) w) := by
  have r' := r
  have rb' := rb
  obtain ⟨-, a1, c1, rfl, -, -, -, -⟩ := r
  obtain ⟨⟨-, a2, c2, rfl, -, -, -, -⟩, -⟩ := rb
  have bx : Bx (w.alloc (.cells #[.int .i64 p, .slice a1 zs.length c1] 27)) w.heap.size [.int .i64 p, .slice a1 zs.length c1] := Bx.new _ _ _
  have HV := Lib.hid (l03Is_sys p _ zs w.heap.size _ bx (r'.ext (Ext.alloc _ _)))
  cases hv : sysB p zs
  · have HO : Hid (ssO p zs bs t (cn .f32 h) = none) := by show _ = _; unfold ssO ssOk chOk; rw [hv]; rfl
    rw [hv] at HV
    clear hv
    go_enter Try.func51, Try.ntmps51
    go_wp2_with fail
    refine HV.out.mono ?_
    rintro e w1 ⟨rfl, hx⟩
    replace bx := bx.ext hx
    have X : Ext w w1 := (Ext.alloc _ _).trans hx
    go_wp2_with fail
    go_ret2
    unfold NmPost
    rw [HO.out]
    exact ⟨X, rfl⟩
  rw [hv] at HV
  cases hc : chancesB bs p
  · have HO : Hid (ssO p zs bs t (cn .f32 h) = none) := by show _ = _; unfold ssO ssOk chOk; rw [hc, Bool.and_false]; rfl
    have HCB := Lib.hid hc
    clear hv hc
    go_enter Try.func51, Try.ntmps51
    go_wp2_with fail
    refine HV.out.mono ?_
    rintro e w1 ⟨rfl, hx⟩
    replace bx := bx.ext hx
    have X : Ext w w1 := (Ext.alloc _ _).trans hx
    obtain ⟨k0, k1⟩ := bx.two
    clear hx
    go_wp2_with fail
    refine (l03Chances_eq HCB.out _ (by have h9 := rb'.ext X; exact h9)).mono ?_
    rintro e w1 ⟨rfl, rfl⟩
    go_wp2_with fail
    go_ret2
    unfold NmPost
    rw [HO.out]
    exact ⟨X, rfl⟩
  have hok : chOk p zs bs = true := by unfold chOk; rw [hv, hc]; rfl
  have HCB := Lib.hid hc
  clear hv hc
  obtain ⟨h1, h2, h3, h4⟩ := chOk_get hok
  obtain ⟨P, hP⟩ : ∃ P, P = p.toNat := ⟨_, rfl⟩
  rw [← hP] at h1 h2 h4
  subst h2
  have hp1 := h1.p1
  have hp10 := h1.p10
  have HSET := Lib.hid (fun W (b : Bx W w.heap.size [.int .i64 (P : Int), .slice a1 zs.length c1]) => l03Set_any (P : Int) t _ w.heap.size W b (by omega) (by omega))
  cases hs : inB t 0 (2 ^ (P : Int).toNat - 1)
  · have HO : Hid (ssO (P : Int) zs bs t (cn .f32 h) = none) := by show _ = _; unfold ssO ssOk; rw [hs, Bool.and_false, Bool.false_and]; rfl
    rw [hs] at HSET
    clear hok hs h1 h3 h4 hP
    go_enter Try.func51, Try.ntmps51
    go_wp2_with fail
    refine HV.out.mono ?_
    rintro e w1 ⟨rfl, hx⟩
    replace bx := bx.ext hx
    have X : Ext w w1 := (Ext.alloc _ _).trans hx
    obtain ⟨k0, k1⟩ := bx.two
    clear hx
    go_wp2_with fail
    refine (l03Chances_eq HCB.out _ (by have h9 := rb'.ext X; exact h9)).mono ?_
    rintro e w1 ⟨rfl, rfl⟩
    clear k0 k1
    go_wp2_with fail
    refine (HSET.out _ bx).mono ?_
    rintro e w2 ⟨rfl, rfl⟩
    go_wp2_with fail
    go_ret2
    unfold NmPost
    rw [HO.out]
    exact ⟨X, rfl⟩
  rw [hs] at HSET
  cases hh : shareB (cn .f32 h)
  · have HO : Hid (ssO (P : Int) zs bs t (cn .f32 h) = none) := by show _ = _; unfold ssO ssOk; rw [hh, Bool.and_false]; rfl
    have HH := Lib.hid hh
    clear hok hs hh h1 h3 h4 hP
    go_enter Try.func51, Try.ntmps51
    go_wp2_with fail
    refine HV.out.mono ?_
    rintro e w1 ⟨rfl, hx⟩
    replace bx := bx.ext hx
    have X : Ext w w1 := (Ext.alloc _ _).trans hx
    obtain ⟨k0, k1⟩ := bx.two
    clear hx
    go_wp2_with fail
    refine (l03Chances_eq HCB.out _ (by have h9 := rb'.ext X; exact h9)).mono ?_
    rintro e w1 ⟨rfl, rfl⟩
    clear k0 k1
    go_wp2_with fail
    refine (HSET.out _ bx).mono ?_
    rintro e w2 ⟨rfl, rfl⟩
    go_wp2_with fail
    refine (l02Share_eq HH.out _).mono ?_
    rintro e w3 ⟨rfl, rfl⟩
    go_wp2_with fail
    go_ret2
    unfold NmPost
    rw [HO.out]
    exact ⟨X, rfl⟩
  · have hs2 := inB_iff.1 hs
    have hpw := pow10' (p := (P : Int)) (by omega) (by omega)
    obtain ⟨T, rfl⟩ := Int.eq_ofNat_of_zero_le (show 0 ≤ t by omega)
    have hT : T < 1024 := by omega
    have HO : Hid (ssO (P : Int) zs bs (T : Int) (cn .f32 h) = some (fop .add .f32 (fop .mul .f32 (cn .f32 h) (chS P (downs zs) ((hitR T bs P).map (cn .f32)))) (fop .mul .f32 (fop .sub .f32 oneF (cn .f32 h)) (chS P (downs zs) (bs.map (cn .f32)))))) := by
      show _ = _; unfold ssO ssOk; rw [hok, hs, hh]; rfl
    have HH := Lib.hid hh
    have HC := Lib.hid (fun W (x : Ext w W) (b : Bx W w.heap.size [.int .i64 (P : Int), .slice a1 zs.length c1]) u cs (rc : RdF W u cs) (hl : cs.length = P) => l03Chance_any P (.slice a1 zs.length c1) u (downs zs) cs w.heap.size W b (by rw [← h3]; exact r'.ext x) rc h1 hl)
    have HLN := Lib.hid (hitR_len T bs)
    have HLT := Lib.hid (fun i => hitR_lt (t := T) rb'.2 i)
    have HL := Lib.hid h4
    rw [h4] at rb'
    try rw [h4]
    clear hok hs hh h1 h3 h4 hP hpw hs2
    go_enter Try.func51, Try.ntmps51
    go_wp2_with fail
    refine HV.out.mono ?_
    rintro e w1 ⟨rfl, hx⟩
    replace bx := bx.ext hx
    have X : Ext w w1 := (Ext.alloc _ _).trans hx
    obtain ⟨k0, k1⟩ := bx.two
    clear hx
    go_wp2_with fail
    refine (l03Chances_eq HCB.out _ (by have h9 := rb'.ext X; exact h9)).mono ?_
    rintro e w1 ⟨rfl, rfl⟩
    clear k0 k1
    go_wp2_with fail
    refine (HSET.out _ bx).mono ?_
    rintro e w2 ⟨rfl, rfl⟩
    go_wp2_with fail
    refine (l02Share_eq HH.out _).mono ?_
    rintro e w3 ⟨rfl, rfl⟩
    have HLL := HL.out
    go_wp2_with (at_builtin; refine wpList_copyZ infoF32 rfl (by decide) Try.underlying48 rfl rfl rfl (World.ownsRow_lit (base := w1.heap.size) (e := 49) (size := 1) w1 #[] 0 (Nat.le_refl _) (by decide) rfl) rfl ((rb'.ext X).1.alloc _) (by omega) (floatsZ_one bs) (by omega) (by decide) (by simp) ?_; intro g2 cap2 w3 hg own2 hgr; rw [HLL] at own2; rw [HLL]; have hx : Ext w1 w3 := (below_alloc w1 _).grown hgr (by simp) (fun k hk => by cases hk; exact Nat.le_refl _))
    have hgt := own2.lt g2 rfl
    have own0 : w3.ownsRow w1.heap.size 49 1 (.slice (some ⟨g2, 0, none⟩) P cap2) P ((hitR T bs 0).map (Value.float .f32)) := own2
    clear own2
    go_loopw [36] (fun i wr => ∃ k : Nat, k ≤ P ∧ i = .int .i64 k ∧ Ext w1 wr ∧ wr.ownsRow w1.heap.size 49 1 (.slice (some ⟨g2, 0, none⟩) P cap2) P ((hitR T bs k).map (Value.float .f32))) (fun i _ => P - (intOf i).toNat)
    case atStart => exact ⟨0, Nat.zero_le _, rfl, hx, own0⟩
    case round =>
      clear own0 hx
      obtain ⟨k, hk, rfl, Z, own⟩ := hrel
      have hlk := HLN.out k
      by_cases hlt : k < P
      · have hki : (k : Int) < (P : Int) := by omega
        have hk63 : (k : Int) < 64 := by omega
        have hba := bitC_and T k hT
        have hku := wrapU_nat k (by omega)
        have hsd0 : 0 ≤ (T : Int) / 2 ^ k := Int.ediv_nonneg (by omega) (Int.le_of_lt (Int.pow_pos (by decide)))
        have hcc := own.cellAt k (by omega)
        rw [List.getElem?_map, List.getElem?_eq_getElem (by omega)] at hcc
        simp only [Option.map_some] at hcc
        have hff := own.frozenAt k
        have hst := (own.stored k (.float .f32 0)).1
        rw [← List.map_set] at hst
        have HST := Lib.hid hst
        clear hst
        generalize (hitR T bs k)[k]'(by omega) = y at *
        cases hb : T.testBit k
        · have HE : Hid (hitR T bs (k + 1) = hitR T bs k) := by show _ = _; rw [hitR, hb]; rfl
          rw [hb] at hba
          simp only [Bool.false_eq_true, if_false] at hba
          clear hb
          go_wp2_with fail
          go_roundw
          case rel => exact ⟨k + 1, by omega, by go_num, Z, by rw [HE.out]; exact own⟩
          case measure => simp [intOf]; omega
        · have HE : Hid (hitR T bs (k + 1) = (hitR T bs k).set k 0) := by show _ = _; rw [hitR, hb]; rfl
          rw [hb] at hba
          simp only [if_true] at hba
          clear hb
          go_wp2_with fail
          go_roundw
          case rel => exact ⟨k + 1, by omega, by go_num, Z.setCell hgt.1 _, by rw [HE.out]; exact HST.out⟩
          case measure => simp [intOf]; omega
      · obtain rfl : k = P := by omega
        have RH : RdF wr (.slice (some ⟨g2, 0, none⟩) k cap2) (hitR T bs k) := ⟨by rw [hlk, HLL]; exact own_rd own, HLT.out k⟩
        have hlh : (hitR T bs k).length = k := by rw [hlk]; exact HLL
        have HC1 := Lib.hid (fun W (x : Ext wr W) => HC.out W (X.trans (Z.trans x)) ((bx.ext Z).ext x) _ _ (RH.ext x) hlh)
        have HC2 := Lib.hid (fun W (x : Ext wr W) => HC.out W (X.trans (Z.trans x)) ((bx.ext Z).ext x) _ _ (rb'.ext (X.trans (Z.trans x))) HLL)
        generalize hC1 : chS k (downs zs) ((hitR T bs k).map (cn .f32)) = cA at *
        generalize hC2 : chS k (downs zs) (bs.map (cn .f32)) = cB at *
        clear hC1 hC2 RH hlh hlk own
        go_wp2_with fail
        refine (HC1.out _ (Ext.refl _)).mono ?_
        rintro e w5 ⟨bA, rfl, hA1, hA2, hx⟩
        have HA1 := Lib.hid hA1
        have Y := hx
        clear hA1 hA2 hx
        go_wp2_with (refine wpList_fop rfl rfl rfl rfl rfl ?_; intro fb nf hfb hfl; replace hfb := Lib.hid hfb; replace hfl := Lib.hid hfl)
        rename_i m1 n1 e1 l1 z1 z2
        have E1 := e1
        have E2 := hfb
        refine (HC2.out _ (Y.trans (Ext.drewN _ _))).mono ?_
        rintro e w6 ⟨bB, rfl, hB1, hB2, hx⟩
        have HB1 := Lib.hid hB1
        replace Y := (Y.trans (Ext.drewN _ _)).trans hx
        clear hB1 hB2 hx
        go_wp2_with (refine wpList_fop rfl rfl rfl rfl rfl ?_; intro fb nf hfb hfl; replace hfb := Lib.hid hfb; replace hfl := Lib.hid hfl)
        rename_i m3 n3 e3 l3
        go_ret2
        unfold NmPost
        rw [HO.out]
        refine ⟨X.trans (Z.trans (Y.trans (Ext.drewN _ _))), fb, rfl, ?_, hfl.out⟩
        rw [hfb.out, e3.out, E2.out, E1.out, HA1.out, HB1.out]; rfl
end Go.Proofs.Ytifhmkkgmchcmaa
