/- The reference's DiagramChance: what it computes. No condition. -/
import Derived.Test.YtnlnjhbckfcmfaaDC
import Derived.IntWalk
namespace Go.Proofs.Ytnlnjhbckfcmfaa
open Go Go.RowKit Go.ChangeShapes Go.WideShapes Go.ChangeAt

def oneF : Nat := cn .f32 1065353216
def zeroF : Nat := cn .f32 0
def ofN (T : List Nat) (x : Int) : Nat := if x = -2 then oneF else if x = -1 then zeroF else T.getD x.toNat 0
def nodeOk (D : List Int) (c k : Nat) : Bool := inB (D.getD (3 * k) 0) 0 ((c : Int) - 1) && (inB (D.getD (3 * k + 1) 0) (-2) ((k : Int) - 1) && inB (D.getD (3 * k + 2) 0) (-2) ((k : Int) - 1))
def nodeV (D : List Int) (C T : List Nat) (k : Nat) : Nat :=
  fop .add .f32 (fop .mul .f32 (fop .sub .f32 oneF (C.getD (D.getD (3 * k) 0).toNat 0)) (ofN T (D.getD (3 * k + 1) 0))) (fop .mul .f32 (C.getD (D.getD (3 * k) 0).toNat 0) (ofN T (D.getD (3 * k + 2) 0)))
def toldL (D : List Int) (C : List Nat) : Nat → List Nat
  | 0 => []
  | k + 1 => toldL D C k ++ [nodeV D C (toldL D C k) k]
theorem toldL_len (D : List Int) (C : List Nat) : ∀ k, (toldL D C k).length = k
  | 0 => rfl
  | k + 1 => by simp [toldL, toldL_len D C k]
def dcPre (D : List Int) (C : List Nat) : Bool := inB D.length 3 3072 && decide (D.length % 3 = 0) && inB C.length 1 10 && C.all shareB
def dcOk (D : List Int) (C : List Nat) : Bool := dcPre D C && (List.range (D.length / 3)).all (nodeOk D C.length)
def dcRes (D : List Int) (C : List Nat) : Option Nat := if dcOk D C then some ((toldL D C (D.length / 3)).getD (D.length / 3 - 1) 0) else none
theorem dcRes_pre {D : List Int} {C : List Nat} (h : dcPre D C = false) : dcRes D C = none := by unfold dcRes dcOk; rw [h]; rfl
theorem dcRes_bad {D : List Int} {C : List Nat} {k : Nat} (hk : k < D.length / 3) (h : nodeOk D C.length k = false) : dcRes D C = none := by
  have : (List.range (D.length / 3)).all (nodeOk D C.length) = false := by rw [List.all_eq_false]; exact ⟨k, List.mem_range.2 hk, by simp [h]⟩
  unfold dcRes dcOk; rw [this, Bool.and_false]; rfl
theorem dcRes_yes {D : List Int} {C : List Nat} (h : dcPre D C = true) (h2 : ∀ k, k < D.length / 3 → nodeOk D C.length k = true) : dcRes D C = some ((toldL D C (D.length / 3)).getD (D.length / 3 - 1) 0) := by
  have : (List.range (D.length / 3)).all (nodeOk D C.length) = true := by rw [List.all_eq_true]; exact fun k hk => h2 k (List.mem_range.1 hk)
  unfold dcRes dcOk; rw [this, h]; rfl
theorem dcPre_n {D : List Int} {C : List Nat} (h : ¬ (3 ≤ D.length ∧ D.length ≤ 3072)) : dcPre D C = false := by
  have : inB D.length 3 3072 = false := by rw [Bool.eq_false_iff]; intro h'; have := inB_iff.1 h'; omega
  simp [dcPre, this]
theorem dcPre_3 {D : List Int} {C : List Nat} (h : ¬ D.length % 3 = 0) : dcPre D C = false := by simp [dcPre, h]
theorem dcPre_c {D : List Int} {C : List Nat} (h : ¬ (1 ≤ C.length ∧ C.length ≤ 10)) : dcPre D C = false := by
  have : inB C.length 1 10 = false := by rw [Bool.eq_false_iff]; intro h'; have := inB_iff.1 h'; omega
  simp [dcPre, this]
theorem dcPre_s {D : List Int} {bs : List Nat} (h : ¬ chancesB bs bs.length = true) : dcPre D (bs.map (cn .f32)) = false := by
  have : (bs.map (cn .f32)).all shareB = false := by simpa [chancesB] using h
  unfold dcPre; rw [this, Bool.and_false]
theorem dcPre_all {D : List Int} {bs : List Nat} (h1 : 3 ≤ D.length ∧ D.length ≤ 3072) (h2 : D.length % 3 = 0) (h3 : 1 ≤ bs.length ∧ bs.length ≤ 10) (h4 : chancesB bs bs.length = true) : dcPre D (bs.map (cn .f32)) = true := by
  have h5 : (bs.map (cn .f32)).all shareB = true := by unfold chancesB at h4; simp only [Bool.and_eq_true] at h4; exact h4.1
  unfold dcPre
  rw [h5, inB_true (by omega) (by omega), inB_true (by rw [List.length_map]; omega) (by rw [List.length_map]; omega), decide_eq_true h2]; rfl
theorem nmPost_no {w w' : World} (X : Ext w w') : NmPost none w (.returned (.tuple #[.float .f32 0, .bool false])) w' := ⟨X, rfl⟩
theorem nmPost_eq {o : Option Nat} {w w' : World} {e : Ending} (h : NmPost none w e w') (ho : o = none) : NmPost o w e w' := by subst ho; exact h

theorem ofN_at {us T : List Nat} (h : us.map (cn .f32) = oneF :: zeroF :: T) {y : Nat} (hy : y < us.length) : cn .f32 us[y] = ofN T ((y : Int) - 2) := by
  have h1 := congrArg (fun l => l[y]?) h
  simp only [List.getElem?_map, List.getElem?_eq_getElem hy, Option.map_some] at h1
  unfold ofN
  rcases y with _ | _ | y
  · simpa using h1
  · simpa using h1
  · rw [if_neg (by omega), if_neg (by omega), show (((y + 1 + 1 : Nat) : Int) - 2).toNat = y by omega]
    simp only [List.getElem?_cons_succ] at h1
    rw [List.getD_eq_getElem?_getD, ← h1]; rfl

set_option maxRecDepth 100000 in
set_option maxHeartbeats 4000000 in
theorem specDC_any (v1 v2 : Value) (D : List Int) (bs : List Nat) (w : World) (r1 : RdI w v1 D) (r2 : RdF w v2 bs) :
    Calls Try.prog 27 #[v1, v2] w (NmPost (dcRes D (bs.map (cn .f32))) w) := by
  have r1' := r1
  have r2' := r2
  obtain ⟨-, a1, c1, rfl, p1, p2, -, -⟩ := r1
  obtain ⟨⟨-, a2, c2, rfl, q1, q2, -, -⟩, -⟩ := r2
  unfold maxLen at p2 q2
  go_enter Try.func27, Try.ntmps27
  go_wp2_with (first | (go_at_call 68; refine (l03Chances_any _ bs _ _ r2').mono ?_; rintro e w' ⟨rfl, rfl⟩))
  any_goals
    go_ret2
    refine nmPost_eq (nmPost_no (Ext.refl _)) (dcRes_pre ?_)
    first
      | exact dcPre_n (by omega)
      | exact dcPre_3 (by omega)
      | exact dcPre_c (by rw [List.length_map]; omega)
      | (refine dcPre_s (fun h => ?_)
         simp only [h, Bool.not_true, Bool.false_eq_true, or_false] at *
         omega)
  have hch : chancesB bs bs.length = true := by
    have h : (((3 ≤ (D.length : Int) ∧ (D.length : Int) ≤ 3072) ∧ 1 ≤ (bs.length : Int)) ∧ (bs.length : Int) ≤ 10) ∧ (!chancesB bs bs.length) = false := by assumption
    simpa using h.2
  have HP := Lib.hid (dcPre_all (D := D) (bs := bs) (by omega) (by omega) (by omega) hch)
  clear hch
  obtain ⟨n, hn⟩ : ∃ n, D.length = 3 * n := ⟨D.length / 3, by omega⟩
  have hn3 : D.length / 3 = n := by omega
  have Hn3 := Lib.hid hn3
  have n1 : 1 ≤ n := by omega
  have n2 : n ≤ 1024 := by omega
  have d1 : D.length ≤ 3 * n := by omega
  have d2 : 3 * n ≤ D.length := by omega
  have m1 : 1 ≤ bs.length := by omega
  have m2 : bs.length ≤ 10 := by omega
  clear hn hn3 ‹(D.length : Int) % 3 = 0› ‹(((3 ≤ (D.length : Int) ∧ (D.length : Int) ≤ 3072) ∧ 1 ≤ (bs.length : Int)) ∧ (bs.length : Int) ≤ 10) ∧ (!chancesB bs bs.length) = false›
  go_loopw [7, 8] (fun l i wr => ∃ (k q g cap : Nat) (us : List Nat), k ≤ n ∧ 3 * k ≤ q ∧ q ≤ 3 * k ∧ l = .slice (some ⟨g, 0, none⟩) (k + 2) cap ∧ i = .int .i64 q ∧ us.length = k + 2 ∧
      Hid (us.map (cn .f32) = oneF :: zeroF :: toldL D (bs.map (cn .f32)) k) ∧ Hid (∀ b ∈ us, b < 4294967296) ∧ Hid (∀ j, j < k → nodeOk D bs.length j = true) ∧
      wr.ownsRow w.heap.size 40 1 (.slice (some ⟨g, 0, none⟩) (k + 2) cap) (k + 2) (us.map (Value.float .f32)) ∧ Ext w wr) (fun _ i _ => 3 * n - (intOf i).toNat)
  case atStart =>
    refine ⟨0, 0, w.heap.size, 2, [1065353216, 0], by omega, by omega, by omega, rfl, rfl, rfl, rfl, ?_, fun j hj => absurd hj (Nat.not_lt_zero _), ?_, Ext.alloc _ _⟩
    · show ∀ _ ∈ _, _; intro b hb; simp at hb; rcases hb with rfl | rfl <;> decide
    · exact World.ownsRow_lit w #[.float .f32 1065353216, .float .f32 0] 2 (Nat.le_refl _) (by decide) rfl
  case round =>
    obtain ⟨k, q, g, cap, us, hk, hq1, hq2, rfl, rfl, hus, Hus, Hb, Hnk, own, X⟩ := hrel
    by_cases hlt : k < n
    · have hq3 : (q : Int) / 3 = k := by omega
      have l0 : q < D.length := by omega
      have l1 : q + 1 < D.length := by omega
      have l2 : q + 2 < D.length := by omega
      obtain ⟨b, o, hba, hb, e0⟩ := (r1'.ext X).at l0
      subst hba
      obtain ⟨_, _, hba, _, e1⟩ := (r1'.ext X).at l1
      cases hba
      obtain ⟨_, _, hba, _, e2⟩ := (r1'.ext X).at l2
      cases hba
      have g0 : D.getD (3 * k) 0 = D[q] := by rw [show 3 * k = q by omega]; simp [l0]
      have g1 : D.getD (3 * k + 1) 0 = D[q + 1] := by rw [show 3 * k + 1 = q + 1 by omega]; simp [l1]
      have g2 : D.getD (3 * k + 2) 0 = D[q + 2] := by rw [show 3 * k + 2 = q + 2 by omega]; simp [l2]
      have G0 := Lib.hid g0
      have G1 := Lib.hid g1
      have G2 := Lib.hid g2
      clear g0 g1 g2
      cases hok : nodeOk D bs.length k
      · have Hok := Lib.hid hok
        clear hok
        go_wp2_with (first | (go_at_call 69; refine (l00In_any _ _ _ _).mono ?_; rintro e w' ⟨rfl, rfl⟩))
        any_goals (go_ret2; exact nmPost_eq (nmPost_no X) (dcRes_bad (k := k) (by rw [Hn3.out]; exact hlt) (by rw [List.length_map]; exact Hok.out)))
        exfalso
        have h := Hok.out
        unfold nodeOk at h
        rw [G0.out, G1.out, G2.out] at h
        simp only [Bool.not_eq_false'] at *
        simp [*] at h
      · have h := hok
        unfold nodeOk at h
        rw [G0.out, G1.out, G2.out] at h
        simp only [Bool.and_eq_true] at h
        obtain ⟨h0, h1, h2⟩ := h
        have i0 := inB_iff.1 h0
        have i1 := inB_iff.1 h1
        have i2 := inB_iff.1 h2
        obtain ⟨x0, hx0⟩ := Int.eq_ofNat_of_zero_le i0.1
        obtain ⟨y1, hy1⟩ := Int.eq_ofNat_of_zero_le (show 0 ≤ D[q + 1] + 2 by omega)
        obtain ⟨y2, hy2⟩ := Int.eq_ofNat_of_zero_le (show 0 ≤ D[q + 2] + 2 by omega)
        have hz1 : D[q + 1] = (y1 : Int) - 2 := by omega
        have hz2 : D[q + 2] = (y2 : Int) - 2 := by omega
        rw [hx0] at e0 h0
        rw [hz1] at e1 h1
        rw [hz2] at e2 h2
        have H0 := Lib.hid h0
        have H1 := Lib.hid h1
        have H2 := Lib.hid h2
        have x0l : x0 < bs.length := by omega
        have y1l : y1 < k + 2 := by omega
        have y2l : y2 < k + 2 := by omega
        have y1u : y1 < us.length := by omega
        have y2u : y2 < us.length := by omega
        have Hx0 := Lib.hid hx0
        have Hz1 := Lib.hid hz1
        have Hz2 := Lib.hid hz2
        have Hok := Lib.hid hok
        clear h0 h1 h2 i0 i1 i2 hx0 hy1 hy2 hz1 hz2 hok
        obtain ⟨b2, o2, rfl, hb2, ex⟩ := (r2'.ext X).at x0l
        have u1 := own.cellAt y1 (by omega)
        have u2 := own.cellAt y2 (by omega)
        rw [List.getElem?_map, List.getElem?_eq_getElem (by omega)] at u1 u2
        simp only [Option.map_some] at u1 u2
        have hgl := (own.lt g rfl).2
        go_wp2_with fail
        refine (l00In_eq H0.out _).mono ?_
        rintro e w3 ⟨rfl, rfl⟩
        go_wp2_with fail
        refine (l00In_eq H1.out _).mono ?_
        rintro e w3 ⟨rfl, rfl⟩
        go_wp2_with fail
        refine (l00In_eq H2.out _).mono ?_
        rintro e w3 ⟨rfl, rfl⟩
        go_wp2_with fail
        have s1 : IntKind.i64.wrap ((q : Int) + 1) = (q : Int) + 1 := IntWalk.i64_in _ (by omega)
        have s2 : IntKind.i64.wrap ((q : Int) + 2) = (q : Int) + 2 := IntWalk.i64_in _ (by omega)
        have s3 : IntKind.i64.wrap (y1 : Int) = (y1 : Int) := IntWalk.i64_in _ (by omega)
        have s4 : IntKind.i64.wrap (y2 : Int) = (y2 : Int) := IntWalk.i64_in _ (by omega)
        have t1 : ((q : Int) + 1).toNat = q + 1 := by omega
        have t2 : ((q : Int) + 2).toNat = q + 2 := by omega
        have t3 : (0 : Int) ≤ (q : Int) + 1 := by omega
        have t4 : (0 : Int) ≤ (q : Int) + 2 := by omega
        have t5 : (q : Int) + 1 < D.length := by omega
        have t7 : (y1 : Int) < (k : Int) + 2 := by omega
        have t8 : (y2 : Int) < (k : Int) + 2 := by omega
        have t6 : (q : Int) + 2 < D.length := by omega
        refine wp_region_rel 26 (fun _ _ => True) (fun _ _ _ => True) (by kernel_rfl) (by kernel_rfl) (by kernel_rfl) ?_
        dsimp only [List.take, List.drop, List.length]
        refine LX_det (.slice (some ⟨g, 0, none⟩) (k + 2) cap) rfl rfl (fun w' hx _ => ?_) ?_
        · go_simp
        refine LX_det (.float .f32 bs[x0]) rfl rfl (fun w' hx _ => ?_) ?_
        · go_simp
        refine LX_fop rfl rfl rfl rfl rfl ?_
        intro f1 hf1 hl1
        replace hf1 := Lib.hid hf1
        replace hl1 := Lib.hid hl1
        refine LX_det (.slice (some ⟨g, 0, none⟩) (k + 2) cap) rfl rfl (fun w' hx _ => ?_) ?_
        · go_simp
        refine LX_det (.slice (some ⟨b, o, none⟩) D.length c1) rfl rfl (fun w' hx _ => ?_) ?_
        · go_simp
        refine LX_det (.int .i64 q) rfl rfl (fun w' hx _ => ?_) ?_
        · go_simp
        refine LX_det (.int .i64 ((q : Int) + 1)) rfl rfl (fun w' hx _ => ?_) ?_
        · go_simp
        refine LX_det (.pointer (some ⟨b, o + (q + 1), none⟩)) rfl rfl (fun w' hx _ => ?_) ?_
        · go_simp
        refine LX_det (.int .i64 ((y1 : Int) - 2)) rfl rfl (fun w' hx _ => ?_) ?_
        · have m := (Below.cell hx (p := ⟨b, o + (q + 1), none⟩) hb).trans e1
          go_simp
        refine LX_det (.int .i64 y1) rfl rfl (fun w' hx _ => ?_) ?_
        · go_simp
        refine LX_det (.pointer (some ⟨g, y1, none⟩)) rfl rfl (fun w' hx _ => ?_) ?_
        · go_simp
        refine LX_det (.float .f32 us[y1]) rfl rfl (fun w' hx _ => ?_) ?_
        · have m := (Below.cell hx (p := ⟨g, y1, none⟩) hgl).trans u1
          go_simp
        simp only [Act.put, List.setIfInBounds_toArray, List.set_cons_succ, List.set_cons_zero]
        refine LX_fop rfl rfl rfl rfl rfl ?_
        intro f2 hf2 hl2
        replace hf2 := Lib.hid hf2
        replace hl2 := Lib.hid hl2
        refine LX_det (.float .f32 bs[x0]) rfl rfl (fun w' hx _ => ?_) ?_
        · go_simp
        refine LX_det (.slice (some ⟨g, 0, none⟩) (k + 2) cap) rfl rfl (fun w' hx _ => ?_) ?_
        · go_simp
        refine LX_det (.slice (some ⟨b, o, none⟩) D.length c1) rfl rfl (fun w' hx _ => ?_) ?_
        · go_simp
        refine LX_det (.int .i64 q) rfl rfl (fun w' hx _ => ?_) ?_
        · go_simp
        refine LX_det (.int .i64 ((q : Int) + 2)) rfl rfl (fun w' hx _ => ?_) ?_
        · go_simp
        refine LX_det (.pointer (some ⟨b, o + (q + 2), none⟩)) rfl rfl (fun w' hx _ => ?_) ?_
        · go_simp
        refine LX_det (.int .i64 ((y2 : Int) - 2)) rfl rfl (fun w' hx _ => ?_) ?_
        · have m := (Below.cell hx (p := ⟨b, o + (q + 2), none⟩) hb).trans e2
          go_simp
        refine LX_det (.int .i64 y2) rfl rfl (fun w' hx _ => ?_) ?_
        · go_simp
        refine LX_det (.pointer (some ⟨g, y2, none⟩)) rfl rfl (fun w' hx _ => ?_) ?_
        · go_simp
        refine LX_det (.float .f32 us[y2]) rfl rfl (fun w' hx _ => ?_) ?_
        · have m := (Below.cell hx (p := ⟨g, y2, none⟩) hgl).trans u2
          go_simp
        simp only [Act.put, List.setIfInBounds_toArray, List.set_cons_succ, List.set_cons_zero]
        refine LX_fop rfl rfl rfl rfl rfl ?_
        intro f3 hf3 hl3
        replace hf3 := Lib.hid hf3
        replace hl3 := Lib.hid hl3
        simp only [Act.put, List.setIfInBounds_toArray, List.set_cons_succ, List.set_cons_zero]
        refine LX_fop rfl rfl rfl rfl rfl ?_
        intro f4 hf4 hl4
        replace hf4 := Lib.hid hf4
        replace hl4 := Lib.hid hl4
        refine LX_build [.float .f32 f4] 40 1 rfl rfl (fun w' hx => ?_) ?_
        · go_simp
        intro B hB
        refine LX_nil fun w2 hx hg => ?_
        have hN := ((hg 112).2 rfl : NewS _ _ _ _ _ _).bx
        clear hg s1 s2 s3 s4 t1 t2 t3 t4 t5 t6
        replace own := own_ext' own hx
        replace X := X.trans hx
        clear hx
        simp only [Act.put, List.setIfInBounds_toArray, List.set_cons_succ, List.set_cons_zero]
        refine wpList_push infoF32 rfl Try.underlying30 rfl rfl rfl own rfl hN.one rfl (by omega) (by decide) X.size ?_
        intro g2 cap2 w4 hg2 own4 bel4 sz4
        simp only [Act.put, List.setIfInBounds_toArray, List.set_cons_succ, List.set_cons_zero]
        go_wp2_with fail
        go_roundw
        case rel =>
          have V : Hid (cn .f32 f4 = nodeV D (bs.map (cn .f32)) (toldL D (bs.map (cn .f32)) k) k) := by
            show _ = _
            unfold nodeV
            rw [G0.out, G1.out, G2.out, Hz1.out, Hz2.out, ← ofN_at Hus.out (y := y1) (by omega), ← ofN_at Hus.out (y := y2) (by omega), Hx0.out, hf4.out, hf2.out, hf3.out, hf1.out]
            simp [x0l, oneF]
          refine ⟨k + 1, q + 3, g2, cap2, us ++ [f4], by omega, by omega, by omega, by go_num, by go_num, by simp [hus], ?_, ?_, fun j hj => ?_, by rw [List.map_append]; exact own4, bel4 _ X⟩
          · show _ = _
            rw [List.map_append, Hus.out, List.map_cons, V.out]
            rfl
          · show ∀ _ ∈ _, _
            intro x hx
            rcases List.mem_append.1 hx with h | h
            · exact Hb.out x h
            · obtain rfl := List.mem_singleton.1 h
              exact hl4.out
          · by_cases hjk : j = k
            · subst hjk; exact Hok.out
            · exact Hnk.out j (by omega)
        case measure => simp [intOf]; omega
    · obtain rfl : k = n := by omega
      have u1 := own.cellAt (k + 1) (by omega)
      rw [List.getElem?_map, List.getElem?_eq_getElem (by omega)] at u1
      simp only [Option.map_some] at u1
      have V : Hid (cn .f32 (us[k + 1]'(by omega)) = (toldL D (bs.map (cn .f32)) k).getD (k - 1) 0) := by
        show _ = _
        rw [ofN_at Hus.out]
        unfold ofN
        rw [if_neg (by omega), if_neg (by omega)]
        congr 1
        omega
      have HR : Hid (dcRes D (bs.map (cn .f32)) = some ((toldL D (bs.map (cn .f32)) k).getD (k - 1) 0)) := by
        show _ = _
        have := dcRes_yes HP.out (by rw [Hn3.out, List.length_map]; exact fun j hj => Hnk.out j hj)
        rw [Hn3.out] at this
        exact this
      go_wp2_with fail
      go_ret2
      rw [HR.out]
      exact ⟨X, _, rfl, V.out, Hb.out _ (List.getElem_mem _)⟩
end Go.Proofs.Ytnlnjhbckfcmfaa
