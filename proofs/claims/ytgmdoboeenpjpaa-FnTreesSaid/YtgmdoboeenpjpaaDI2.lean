
/- The reference's DiagramChance: what it computes. No condition. -/
import Derived.Test.YtgmdoboeenpjpaaDC
import Derived.IntWalk
import Derived.Deep.QuietTactic
import Derived.BigQuiet
namespace Go.Proofs.Ytgmdoboeenpjpaa
open Go Go.RowKit Go.ChangeShapes Go.WideShapes Go.ChangeAt

def zeroF : Nat := cn .f32 0
def ofN (T : List Nat) (x : Int) : Nat := if x = -2 then oneF else if x = -1 then zeroF else T.getD x.toNat 0
def nodeOk (D : List Int) (c k : Nat) : Bool := inB (D.getD (3 * k) 0) 0 ((c : Int) - 1) && (inB (D.getD (3 * k + 1) 0) (-2) ((k : Int) - 1) && inB (D.getD (3 * k + 2) 0) (-2) ((k : Int) - 1))
def nodeV (D : List Int) (C T : List Nat) (k : Nat) : Nat :=
  fop .add .f32 (fop .mul .f32 (fop .sub .f32 oneF (C.getD (D.getD (3 * k) 0).toNat 0)) (ofN T (D.getD (3 * k + 1) 0))) (fop .mul .f32 (C.getD (D.getD (3 * k) 0).toNat 0) (ofN T (D.getD (3 * k + 2) 0)))
def toldL (D : List Int) (C : List Nat) : Nat → List Nat
  | 0 => []
  | k + 1 => toldL D C k ++ [nodeV D C (toldL D C k) k]
theorem toldL_len (D : List Int) (C : List Nat) : ∀ k, (toldL D C k).length = k
  | 0 => rfl
  | k + 1 => by simp [toldL, toldL_len D C k]
def dcPre (D : List Int) (C : List Nat) : Bool := inB D.length 3 3072 && decide (D.length % 3 = 0) && inB C.length 1 10 && C.all shareB
def dcOk (D : List Int) (C : List Nat) : Bool := dcPre D C && (List.range (D.length / 3)).all (nodeOk D C.length)
def dcRes (D : List Int) (C : List Nat) : Option Nat := if dcOk D C then some ((toldL D C (D.length / 3)).getD (D.length / 3 - 1) 0) else none
theorem dcRes_pre {D : List Int} {C : List Nat} (h : dcPre D C = false) : dcRes D C = none := by unfold dcRes dcOk; rw [h]; rfl
theorem dcRes_bad {D : List Int} {C : List Nat} {k : Nat} (hk : k < D.length / 3) (h : nodeOk D C.length k = false) : dcRes D C = none := by
  have : (List.range (D.length / 3)).all (nodeOk D C.length) = false := by rw [List.all_eq_false]; exact ⟨k, List.mem_range.2 hk, by simp [h]⟩
  unfold dcRes dcOk; rw [this, Bool.and_false]; rfl
theorem dcRes_yes {D : List Int} {C : List Nat} (h : dcPre D C = true) (h2 : ∀ k, k < D.length / 3 → nodeOk D C.length k = true) : dcRes D C = some ((toldL D C (D.length / 3)).getD (D.length / 3 - 1) 0) := by
  have : (List.range (D.length / 3)).all (nodeOk D C.length) = true := by rw [List.all_eq_true]; exact fun k hk => h2 k (List.mem_range.1 hk)
  unfold dcRes dcOk; rw [this, h]; rfl
theorem dcPre_n {D : List Int} {C : List Nat} (h : ¬ (3 ≤ D.length ∧ D.length ≤ 3072)) : dcPre D C = false := by
  have : inB D.length 3 3072 = false := by rw [Bool.eq_false_iff]; intro h'; have := inB_iff.1 h'; omega
  simp [dcPre, this]
theorem dcPre_3 {D : List Int} {C : List Nat} (h : ¬ D.length % 3 = 0) : dcPre D C = false := by simp [dcPre, h]
theorem dcPre_c {D : List Int} {C : List Nat} (h : ¬ (1 ≤ C.length ∧ C.length ≤ 10)) : dcPre D C = false := by
  have : inB C.length 1 10 = false := by rw [Bool.eq_false_iff]; intro h'; have := inB_iff.1 h'; omega
  simp [dcPre, this]
theorem dcPre_s {D : List Int} {bs : List Nat} (h : ¬ chancesB bs bs.length = true) : dcPre D (bs.map (cn .f32)) = false := by
  have : (bs.map (cn .f32)).all shareB = false := by simpa [chancesB] using h
  unfold dcPre; rw [this, Bool.and_false]
theorem dcPre_all {D : List Int} {bs : List Nat} (h1 : 3 ≤ D.length ∧ D.length ≤ 3072) (h2 : D.length % 3 = 0) (h3 : 1 ≤ bs.length ∧ bs.length ≤ 10) (h4 : chancesB bs bs.length = true) : dcPre D (bs.map (cn .f32)) = true := by
  have h5 : (bs.map (cn .f32)).all shareB = true := by unfold chancesB at h4; simp only [Bool.and_eq_true] at h4; exact h4.1
  unfold dcPre
  rw [h5, inB_true (by omega) (by omega), inB_true (by rw [List.length_map]; omega) (by rw [List.length_map]; omega), decide_eq_true h2]; rfl
theorem nmPost_no {w w' : World} (X : Ext w w') : NmPost none w (.returned (.tuple #[.float .f32 0, .bool false])) w' := ⟨X, rfl⟩
theorem nmPost_eq {o : Option Nat} {w w' : World} {e : Ending} (h : NmPost none w e w') (ho : o = none) : NmPost o w e w' := by subst ho; exact h

theorem ofN_at {us T : List Nat} (h : us.map (cn .f32) = oneF :: zeroF :: T) {y : Nat} (hy : y < us.length) : cn .f32 us[y] = ofN T ((y : Int) - 2) := by
  have h1 := congrArg (fun l => l[y]?) h
  simp only [List.getElem?_map, List.getElem?_eq_getElem hy, Option.map_some] at h1
  unfold ofN
  rcases y with _ | _ | y
  · simpa using h1
  · simpa using h1
  · rw [if_neg (by omega), if_neg (by omega), show (((y + 1 + 1 : Nat) : Int) - 2).toNat = y by omega]
    simp only [List.getElem?_cons_succ] at h1
    rw [List.getD_eq_getElem?_getD, ← h1]; rfl

end Go.Proofs.Ytgmdoboeenpjpaa
/- The program's DiagramChance: what it computes. No condition. -/
namespace Go.Proofs.Ytgmdoboeenpjpaa
open Go Go.RowKit Go.ChangeShapes Go.WideShapes Go.ChangeAt

theorem dc1_any (x : Int) (B g cap k : Nat) (us : List Nat) (w : World) (hb : Bx w B [.slice (some ⟨g, 0, none⟩) k cap]) (r : RdF w (.slice (some ⟨g, 0, none⟩) k cap) us) (h0 : -2 ≤ x) (h1 : x < k) :
    Calls Try.prog 92 #[.int .i64 x, .pointer (some ⟨B, 0, none⟩)] w fun e w' => ∃ b, e = .returned (.float .f32 b) ∧ cn .f32 b = ofN (us.map (cn .f32)) x ∧ b < 4294967296 ∧ w = w' := by
  have k0 := hb.one
  have hku : k = us.length := by obtain ⟨⟨_, _, _, e, _⟩, _⟩ := r; simp at e; exact e.2.1
  by_cases h2 : x = -1
  · subst h2
    go_enter Try.func92, Try.ntmps92
    go_wp2_with fail
    go_ret
    exact ⟨0, rfl, rfl, by decide, rfl⟩
  · by_cases h3 : x = -2
    · subst h3
      go_enter Try.func92, Try.ntmps92
      go_wp2_with fail
      go_ret
      exact ⟨1065353216, rfl, rfl, by decide, rfl⟩
    · obtain ⟨y, rfl⟩ := Int.eq_ofNat_of_zero_le (show 0 ≤ x by omega)
      have hy : y < us.length := by omega
      obtain ⟨b, o, hbo, hb1, hc⟩ := r.at hy
      cases hbo
      rw [Nat.zero_add] at hc
      have q1 : ((y : Int) == -1) = false := by rw [beq_eq_false_iff_ne]; omega
      have q2 : ((y : Int) == -2) = false := by rw [beq_eq_false_iff_ne]; omega
      have hl := r.2 us[y] (List.getElem_mem hy)
      have HL := Lib.hid hl
      have HY := Lib.hid hy
      clear h2 h3 hl
      go_enter Try.func92, Try.ntmps92
      go_wp2_with fail
      go_ret
      refine ⟨_, rfl, ?_, HL.out, rfl⟩
      unfold ofN
      rw [if_neg (by omega), if_neg (by omega)]
      simp [HY.out]

theorem areWithin_eq {v : Value} {zs : List Int} {lo hi : Int} {c : Bool} (h : (zs.all fun z => inB z lo hi) = c) (w : World) (r : RdI w v zs) :
    Calls Try.prog 93 #[v, .int .i64 lo, .int .i64 hi] w fun e w' => e = .returned (.bool c) ∧ Ext w w' := by subst h; exact areWithin_any v zs lo hi w r
theorem RdI_two (w : World) (x y : Int) : RdI (w.alloc (.cells #[.int .i64 x, .int .i64 y] 2)) (.slice (some ⟨w.heap.size, 0, none⟩) 2 2) [x, y] :=
  own_rd (World.ownsRow_lit (base := w.heap.size) (e := 2) (size := 1) w #[.int .i64 x, .int .i64 y] 2 (Nat.le_refl _) (by decide) rfl)
theorem two_all (x y lo hi : Int) : ([x, y].all fun z => inB z lo hi) = (inB x lo hi && inB y lo hi) := by simp
set_option maxRecDepth 100000 in
set_option maxHeartbeats 4000000 in
theorem implDC_any (v1 v2 : Value) (D : List Int) (bs : List Nat) (w : World) (r1 : RdI w v1 D) (r2 : RdF w v2 bs) :
    Calls Try.prog 37 #[v1, v2] w (NmPost (dcRes D (bs.map (cn .f32))) w) := by
  have r1' := r1
  have r2' := r2
  obtain ⟨-, a1, c1, rfl, p1, p2, -, -⟩ := r1
  obtain ⟨⟨-, a2, c2, rfl, q1, q2, -, -⟩, -⟩ := r2
  unfold maxLen at p2 q2
  go_enter Try.func37, Try.ntmps37
  go_wp2_with (first | (go_at_call 69; refine (areParts_any _ _).mono ?_; rintro e w' ⟨rfl, rfl⟩) | (go_at_call 60; refine (areChances_any _ bs _ _ r2').mono ?_; rintro e w' ⟨rfl, X⟩))
  any_goals
    go_ret2
    refine nmPost_eq (nmPost_no (by first | exact Ext.refl _ | assumption)) (dcRes_pre ?_)
    first
      | exact dcPre_n (by omega)
      | exact dcPre_3 (by omega)
      | (refine dcPre_c (fun h => ?_)
         rw [List.length_map] at h
         exact absurd (inB_true (by omega) (by omega)) (show ¬ inB (bs.length : Int) 1 10 = true by assumption))
      | (refine dcPre_s (fun h => ?_)
         simp only [h, Bool.not_true, Bool.false_eq_true, or_false] at *
         omega)
  have hch : chancesB bs bs.length = true := by
    have h : (1 ≤ (D.length : Int) / 3 ∧ (D.length : Int) / 3 ≤ 1024) ∧ (!chancesB bs bs.length) = false := by assumption
    simpa using h.2
  have hbl := inB_iff.1 (show inB (bs.length : Int) 1 10 = true by assumption)
  have HP := Lib.hid (dcPre_all (D := D) (bs := bs) (by omega) (by omega) (by omega) hch)
  clear hch
  obtain ⟨n, hn⟩ : ∃ n, D.length = 3 * n := ⟨D.length / 3, by omega⟩
  have hn3 : D.length / 3 = n := by omega
  have hn4 : (D.length : Int) / 3 = n := by omega
  have Hn3 := Lib.hid hn3
  have n1 : 1 ≤ n := by omega
  have n2 : n ≤ 1024 := by omega
  have d1 : D.length ≤ 3 * n := by omega
  have d2 : 3 * n ≤ D.length := by omega
  have m1 : 1 ≤ bs.length := by omega
  have m2 : bs.length ≤ 10 := by omega
  rw [hn4]
  clear hn hn3 hn4 hbl ‹(D.length : Int) % 3 = 0› ‹(1 ≤ (D.length : Int) / 3 ∧ (D.length : Int) / 3 ≤ 1024) ∧ (!chancesB bs bs.length) = false› ‹1 ≤ (D.length : Int) / 3› ‹(D.length : Int) / 3 ≤ 1024› ‹inB (bs.length : Int) 1 10 = true›
  generalize hW : World.alloc (World.alloc w' _) _ = W
  have hB0 : (w'.alloc (.cells #[] 31)).heap.size = w'.heap.size + 1 := by simp
  have hBW : W.heap[w'.heap.size + 1]? = some (.cells #[.slice (some ⟨w'.heap.size, 0, none⟩) 0 0] 29 (0, 0)) := by
    rw [← hW, ← hB0]; exact heap_alloc_new _ _
  have ownW : W.ownsRow w.heap.size 31 1 (.slice (some ⟨w'.heap.size, 0, none⟩) 0 0) 0 [] := by
    rw [← hW]; exact ((World.ownsRow_lit w' #[] 0 (Nat.le_refl _) (by decide) rfl).alloc _).mono X.size
  have XW : Ext w W := by rw [← hW]; exact (X.trans (Ext.alloc _ _)).trans (Ext.alloc _ _)
  have hBw : w.heap.size ≤ w'.heap.size := X.size
  clear hW hB0 X
  generalize hB : w'.heap.size + 1 = B at *
  have hBg : w'.heap.size < B := by omega
  have hwB : w.heap.size < B := by omega
  clear hB
  go_loopw [45] (fun i wr => ∃ (k g cap : Nat) (us : List Nat), k ≤ n ∧ i = .int .i64 k ∧ g ≠ B ∧ us.length = k ∧ Hid (wr.heap[B]? = some (.cells #[.slice (some ⟨g, 0, none⟩) k cap] 29 (0, 0))) ∧
      Hid (us.map (cn .f32) = toldL D (bs.map (cn .f32)) k) ∧ Hid (∀ b ∈ us, b < 4294967296) ∧ Hid (∀ j, j < k → nodeOk D bs.length j = true) ∧
      wr.ownsRow w.heap.size 31 1 (.slice (some ⟨g, 0, none⟩) k cap) k (us.map (Value.float .f32)) ∧ Ext w wr) (fun i _ => n - (intOf i).toNat)
  case atStart => exact ⟨0, w'.heap.size, 0, [], by omega, rfl, by omega, rfl, hBW, rfl, (fun b hb => by simp at hb), (fun j hj => absurd hj (Nat.not_lt_zero _)), ownW, XW⟩
  case round =>
    clear hBW ownW XW hBw hBg
    obtain ⟨k, g, cap, us, hk, rfl, hgB, hus, HB, Hus, Hb, Hnk, own, X⟩ := hrel
    by_cases hlt : k < n
    · have l0 : 3 * k < D.length := by omega
      have l1 : 3 * k + 1 < D.length := by omega
      have l2 : 3 * k + 2 < D.length := by omega
      obtain ⟨b, o, hba, hb, e0⟩ := (r1'.ext X).at l0
      subst hba
      obtain ⟨_, _, hba, _, e1⟩ := (r1'.ext X).at l1
      cases hba
      obtain ⟨_, _, hba, _, e2⟩ := (r1'.ext X).at l2
      cases hba
      have g0 : D.getD (3 * k) 0 = D[3 * k] := by simp [l0]
      have g1 : D.getD (3 * k + 1) 0 = D[3 * k + 1] := by simp [l1]
      have g2 : D.getD (3 * k + 2) 0 = D[3 * k + 2] := by simp [l2]
      have G0 := Lib.hid g0
      have G1 := Lib.hid g1
      have G2 := Lib.hid g2
      clear g0 g1 g2
      have s1 : IntKind.i64.wrap (3 * (k : Int)) = 3 * (k : Int) := IntWalk.i64_in _ (by omega)
      have s2 : IntKind.i64.wrap (3 * (k : Int) + 1) = 3 * (k : Int) + 1 := IntWalk.i64_in _ (by omega)
      have s3 : IntKind.i64.wrap (3 * (k : Int) + 2) = 3 * (k : Int) + 2 := IntWalk.i64_in _ (by omega)
      have t1 : (3 * (k : Int)).toNat = 3 * k := by omega
      have t2 : (3 * (k : Int) + 1).toNat = 3 * k + 1 := by omega
      have t3 : (3 * (k : Int) + 2).toNat = 3 * k + 2 := by omega
      have t4 : 0 ≤ 3 * (k : Int) := by omega
      have t5 : 0 ≤ 3 * (k : Int) + 1 := by omega
      have t6 : 0 ≤ 3 * (k : Int) + 2 := by omega
      have t7 : 3 * (k : Int) < D.length := by omega
      have t8 : 3 * (k : Int) + 1 < D.length := by omega
      have t9 : 3 * (k : Int) + 2 < D.length := by omega
      go_wp2_with fail
      go_quiet (fail)
      clear s1 s2 s3 t1 t2 t3 t4 t5 t6 t7 t8 t9
      go_wp2_with fail
      cases h0 : inB D[3 * k] 0 ((bs.length : Int) - 1)
      · have H0 := Lib.hid h0
        have Hok : Hid (nodeOk D bs.length k = false) := by show _ = _; unfold nodeOk; rw [G0.out, h0]; rfl
        clear h0
        refine (within_eq H0.out _).mono ?_
        rintro e w3 ⟨rfl, rfl⟩
        go_wp2_with fail
        go_ret2
        exact nmPost_eq (nmPost_no (X.trans (Ext.drewN _ _))) (dcRes_bad (k := k) (by rw [Hn3.out]; exact hlt) (by rw [List.length_map]; exact Hok.out))
      · cases h1 : (inB D[3 * k + 1] (-2) ((k : Int) - 1) && inB D[3 * k + 2] (-2) ((k : Int) - 1))
        · have H0 := Lib.hid h0
          have H1 := Lib.hid ((two_all _ _ _ _).trans h1)
          have Hok : Hid (nodeOk D bs.length k = false) := by show _ = _; unfold nodeOk; rw [G0.out, G1.out, G2.out, h0, h1]; rfl
          clear h0 h1
          refine (within_eq H0.out _).mono ?_
          rintro e w3 ⟨rfl, rfl⟩
          go_wp2_with fail
          refine (areWithin_eq H1.out _ (RdI_two _ _ _)).mono ?_
          rintro e w3 ⟨rfl, hx⟩
          go_wp2_with fail
          go_ret2
          exact nmPost_eq (nmPost_no (X.trans ((Ext.drewN _ _).trans ((Ext.alloc _ _).trans hx)))) (dcRes_bad (k := k) (by rw [Hn3.out]; exact hlt) (by rw [List.length_map]; exact Hok.out))
        · have H0 := Lib.hid h0
          have H1 := Lib.hid ((two_all _ _ _ _).trans h1)
          have Hok : Hid (nodeOk D bs.length k = true) := by show _ = _; unfold nodeOk; rw [G0.out, G1.out, G2.out, h0, h1]; rfl
          have i0 := inB_iff.1 h0
          rw [Bool.and_eq_true] at h1
          have i1 := inB_iff.1 h1.1
          have i2 := inB_iff.1 h1.2
          clear h0 h1
          refine (within_eq H0.out _).mono ?_
          rintro e w3 ⟨rfl, rfl⟩
          go_wp2_with fail
          refine (areWithin_eq H1.out _ (RdI_two _ _ _)).mono ?_
          rintro e w3 ⟨rfl, hx⟩
          replace hx : Ext wr w3 := (Ext.drewN _ _).trans ((Ext.alloc _ _).trans hx)
          replace own := own_ext' own hx
          replace X := X.trans hx
          have hBl := (Array.getElem?_eq_some_iff.1 HB.out).1
          have HB3 : Hid (w3.heap[B]? = some (.cells #[.slice (some ⟨g, 0, none⟩) k cap] 29 (0, 0))) := by show _ = _; rw [hx.block B hBl]; exact HB.out
          clear HB hBl hx e0 e1 e2 hb
          generalize hx0 : D[3 * k] = x0 at *
          generalize hy1 : D[3 * k + 1] = y1 at *
          generalize hy2 : D[3 * k + 2] = y2 at *
          obtain ⟨x, rfl⟩ := Int.eq_ofNat_of_zero_le i0.1
          have xl : x < bs.length := by omega
          obtain ⟨b2, o2, rfl, hb2, ex⟩ := (r2'.ext X).at xl
          clear hx0 hy1 hy2
          have bB : Bx w3 B [.slice (some ⟨g, 0, none⟩) k cap] := ⟨(Array.getElem?_eq_some_iff.1 HB3.out).1, fun j _ => by rw [cell_of_row w3 B j _ _ (0, 0) HB3.out]; simp⟩
          have R3 : RdF w3 (.slice (some ⟨g, 0, none⟩) k cap) us := ⟨by rw [hus]; exact own_rd own, Hb.out⟩
          go_wp2_with fail
          refine wp_region_rel 14 (fun i v => match i with | 5 => ∃ b, v = .float .f32 b ∧ cn .f32 b = ofN (us.map (cn .f32)) y1 ∧ b < 4294967296 | 10 => ∃ b, v = .float .f32 b ∧ cn .f32 b = ofN (us.map (cn .f32)) y2 ∧ b < 4294967296 | _ => True)
            (fun _ _ _ => True) (by kernel_rfl) (by kernel_rfl) (by kernel_rfl) ?_
          dsimp only [List.take, List.drop, List.length]
          refine LX_det (.slice (some ⟨g, 0, none⟩) k cap) (by kernel_rfl) rfl (fun w' hx _ => ?_) ?_
          · have m := (bB.ext hx).one
            go_simp
          refine LX_det (.float .f32 bs[x]) (by kernel_rfl) rfl (fun w' hx _ => ?_) ?_
          · go_simp
          refine LX_fop (by kernel_rfl) rfl rfl rfl rfl ?_
          intro f1 hf1 hl1
          replace hf1 := Lib.hid hf1
          replace hl1 := Lib.hid hl1
          refine LX_det (.func (.func 92) #[] #[.pointer (some ⟨B, 0, none⟩)]) (by kernel_rfl) rfl (fun w' hx _ => ?_) ?_
          · go_simp
          refine LX_det (.int .i64 y1) (by kernel_rfl) rfl (fun w' hx _ => ?_) ?_
          · go_simp
          refine LX_call rfl rfl (fun _ => St.top) (fun w' hx _ => ?_) ?_
          · go_simp
            refine UponC.enter ((dc1_any y1 B g cap k us _ (bB.ext hx) (R3.ext hx) (by omega) (by omega)).mono ?_)
            rintro e w'' ⟨b, rfl, h1, h2, rfl⟩
            exact ⟨_, rfl, Ext.refl _, ⟨b, rfl, h1, h2⟩, trivial⟩
          rintro _ ⟨f2, rfl, hf2, hl2⟩
          replace hf2 := Lib.hid hf2
          replace hl2 := Lib.hid hl2
          simp only [Act.put, List.setIfInBounds_toArray, List.set_cons_succ, List.set_cons_zero]
          refine LX_fop (by kernel_rfl) rfl rfl rfl rfl ?_
          intro f3 hf3 hl3
          replace hf3 := Lib.hid hf3
          replace hl3 := Lib.hid hl3
          refine LX_det (.float .f32 bs[x]) (by kernel_rfl) rfl (fun w' hx _ => ?_) ?_
          · go_simp
          refine LX_det (.func (.func 92) #[] #[.pointer (some ⟨B, 0, none⟩)]) (by kernel_rfl) rfl (fun w' hx _ => ?_) ?_
          · go_simp
          refine LX_det (.int .i64 y2) (by kernel_rfl) rfl (fun w' hx _ => ?_) ?_
          · go_simp
          refine LX_call rfl rfl (fun _ => St.top) (fun w' hx _ => ?_) ?_
          · go_simp
            refine UponC.enter ((dc1_any y2 B g cap k us _ (bB.ext hx) (R3.ext hx) (by omega) (by omega)).mono ?_)
            rintro e w'' ⟨b, rfl, h1, h2, rfl⟩
            exact ⟨_, rfl, Ext.refl _, ⟨b, rfl, h1, h2⟩, trivial⟩
          rintro _ ⟨f4, rfl, hf4, hl4⟩
          replace hf4 := Lib.hid hf4
          replace hl4 := Lib.hid hl4
          simp only [Act.put, List.setIfInBounds_toArray, List.set_cons_succ, List.set_cons_zero]
          refine LX_fop (by kernel_rfl) rfl rfl rfl rfl ?_
          intro f5 hf5 hl5
          replace hf5 := Lib.hid hf5
          replace hl5 := Lib.hid hl5
          simp only [Act.put, List.setIfInBounds_toArray, List.set_cons_succ, List.set_cons_zero]
          refine LX_fop (by kernel_rfl) rfl rfl rfl rfl ?_
          intro f6 hf6 hl6
          replace hf6 := Lib.hid hf6
          replace hl6 := Lib.hid hl6
          refine LX_build [.float .f32 f6] 31 1 rfl rfl (fun w' hx => ?_) ?_
          · go_simp
          intro B2 hB2
          refine LX_nil fun w2 hx hg => ?_
          have hN := ((hg 97).2 rfl : NewS _ _ _ _ _ _).bx
          clear hg
          replace own := own_ext' own hx
          have hBl := (Array.getElem?_eq_some_iff.1 HB3.out).1
          have HB2 : Hid (w2.heap[B]? = some (.cells #[.slice (some ⟨g, 0, none⟩) k cap] 29 (0, 0))) := by show _ = _; rw [hx.block B hBl]; exact HB3.out
          have hBl2 := (Array.getElem?_eq_some_iff.1 HB2.out).1
          replace X := X.trans hx
          clear hx HB3 bB R3 ex hb2 hBl
          simp only [Act.put, List.setIfInBounds_toArray, List.set_cons_succ, List.set_cons_zero]
          refine wpList_pushB (v := .slice (some ⟨g, 0, none⟩) k cap) infoF32 rfl Try.underlying29 rfl rfl rfl own rfl hN.one rfl (by omega) (by decide) X.size ?_
          intro g2 cap2 w4 hg2 own4 bel4 sz4 blk4
          have HB4 : Hid (w4.heap[B]? = some (.cells #[.slice (some ⟨g, 0, none⟩) k cap] 29 (0, 0))) := by
            show _ = _; rw [blk4 B hBl2 (by intro h; simp [Value.ownBlock] at h; exact hgB h.symm)]; exact HB2.out
          have hgB2 : g2 ≠ B := own_ne own4 HB4.out (by decide)
          have bc : w4.cell? ⟨B, 0, none⟩ = some (.slice (some ⟨g, 0, none⟩) k cap) := by rw [cell_of_row w4 B 0 _ _ (0, 0) HB4.out]; rfl
          have bf : w4.frozen? ⟨B, 0, none⟩ = false := frozen_of_row w4 B 0 _ _ HB4.out
          clear blk4 hgB
          simp only [Act.put, List.setIfInBounds_toArray, List.set_cons_succ, List.set_cons_zero]
          go_wp2_with fail
          go_roundw
          case rel =>
            have V : Hid (cn .f32 f6 = nodeV D (bs.map (cn .f32)) (toldL D (bs.map (cn .f32)) k) k) := by
              show _ = _
              unfold nodeV
              rw [G0.out, G1.out, G2.out, ← Hus.out, ← hf2.out, ← hf4.out, hf6.out, hf5.out, hf3.out, hf1.out]
              simp [xl, oneF]
            refine ⟨k + 1, g2, cap2, us ++ [f6], by omega, by go_num, hgB2, by simp [hus], ?_, ?_, ?_, (fun j hj => ?_), ?_, ?_⟩
            · exact heap_setCell_same w4 B 0 _ _ _ HB4.out
            · show _ = _
              rw [List.map_append, Hus.out, List.map_cons, V.out]
              rfl
            · show ∀ _ ∈ _, _
              intro x hx
              rcases List.mem_append.1 hx with h | h
              · exact Hb.out x h
              · obtain rfl := List.mem_singleton.1 h
                exact hl6.out
            · by_cases hjk : j = k
              · subst hjk; exact Hok.out
              · exact Hnk.out j (by omega)
            · rw [List.map_append]
              exact ownsRow_setCell_other own4 (by simpa [Value.ownBlock] using hgB2) _
            · exact Below.setCell (bel4 _ X) (Nat.le_of_lt hwB) _
          case measure => simp [intOf]; omega
    · obtain rfl : k = n := by omega
      have u1 := own.cellAt (k - 1) (by omega)
      rw [List.getElem?_map, List.getElem?_eq_getElem (by omega)] at u1
      simp only [Option.map_some] at u1
      have V : Hid (cn .f32 (us[k - 1]'(by omega)) = (toldL D (bs.map (cn .f32)) k).getD (k - 1) 0) := by
        show _ = _
        rw [← Hus.out]
        simp [show k - 1 < us.length by omega]
      have HR : Hid (dcRes D (bs.map (cn .f32)) = some ((toldL D (bs.map (cn .f32)) k).getD (k - 1) 0)) := by
        show _ = _
        have := dcRes_yes HP.out (by rw [Hn3.out, List.length_map]; exact fun j hj => Hnk.out j hj)
        rw [Hn3.out] at this
        exact this
      have bc : wr.cell? ⟨B, 0, none⟩ = some (.slice (some ⟨g, 0, none⟩) k cap) := by rw [cell_of_row wr B 0 _ _ (0, 0) HB.out]; rfl
      have e1 : (k : Int) - 1 = ((k - 1 : Nat) : Int) := by omega
      go_wp2_with fail
      go_ret2
      rw [HR.out]
      exact ⟨X, _, rfl, V.out, Hb.out _ (List.getElem_mem _)⟩
end Go.Proofs.Ytgmdoboeenpjpaa
