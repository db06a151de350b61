
/- SystemOf, both sides. Condition: lists of ints that can be read, of at most 2^20. -/
import Derived.Test.YtgmdoboeenpjpaaYk
namespace Go.Proofs.Ytgmdoboeenpjpaa
open Go Go.RowKit Go.ChangeShapes Go.WideShapes Go.ChangeAt

attribute [local irreducible] LX

def sysOfO (p : Int) (zs : List Int) : Option (Int × List Int) := if goodI p zs then sysO p (ups (leastN (downs zs))) else none
theorem least_leastS {p : Int} {zs : List Int} (h : goodI p zs = true) : leastN (downs zs) = leastS (downs zs) := by
  obtain ⟨h1, h2, h3, h4, h5⟩ := good_get h
  exact least_same (fun z hz => by have := h5 z hz; omega) fun z hz => by have := h5 z hz; omega


set_option maxRecDepth 100000 in
set_option maxHeartbeats 4000000 in
theorem specSystemOf_any (p : Int) (v : Value) (zs : List Int) (w : World) (r : RdI w v zs) :
    Calls Try.prog 26 #[.int .i64 p, v] w (YsPost (sysOfO p zs) w) := by
  have r' := r
  obtain ⟨-, a1, c1, rfl, p1, p2, -, -⟩ := r
  unfold maxLen at p2
  have hlen : zs.length ≤ 9223372036854775807 := by omega
  clear p1 p2
  have b2 : Bz (w.alloc (.cells #[.int .i64 0, .slice none 0 0] 27)) w.heap.size 27 [.int .i64 0, .slice none 0 0] := Bz.new _ _ _
  have X0 : Ext w (w.alloc (.cells #[.int .i64 0, .slice none 0 0] 27)) := Ext.alloc _ _
  obtain ⟨k0, k1⟩ := b2.bx.two
  have z2 := b2.lt
  have f0 := b2.frozen (j := 0)
  have f1 := b2.frozen (j := 1)
  cases hp : inB p 1 10
  · have HO : Hid (sysOfO p zs = none) := by show _ = _; unfold sysOfO goodI; rw [hp]; rfl
    have HP := Lib.hid hp
    clear hp
    go_enter Try.func26, Try.ntmps26
    go_wp2_with fail
    refine (l03PartsZ_any p _).mono ?_
    rintro e w1 ⟨rfl, rfl⟩
    rw [HP.out]
    go_wp2_with fail
    refine bodyPost_ret (v := .tuple #[.agg #[.int .i64 0, .slice none 0 0], .bool false]) (by simp [results, Try.results26, go_sem]) rfl ?_
    unfold YsPost
    rw [HO.out]
    first | exact ⟨Ext.alloc _ _, rfl⟩ | exact ⟨(X0.setCell (Nat.le_refl _) _).setCell (Nat.le_refl _) _, rfl⟩
  have hp2 := inB_iff.1 hp
  have hpw := pow10' hp2.1 hp2.2
  have hp0 : 0 ≤ p := by omega
  have hp63 : p < 64 := by omega
  have s1 : IntKind.i64.wrap (2 ^ p.toNat) = 2 ^ p.toNat := IntWalk.i64_in _ (by omega)
  have s2 : IntKind.i64.wrap (2 ^ p.toNat - 1) = 2 ^ p.toNat - 1 := IntWalk.i64_in _ (by omega)
  cases hl : inB zs.length 1 64
  · have HO : Hid (sysOfO p zs = none) := by show _ = _; unfold sysOfO goodI manyB; rw [hl, Bool.false_and, Bool.and_false]; rfl
    have HP := Lib.hid hp
    have hl2 : ¬ (1 ≤ (zs.length : Int) ∧ (zs.length : Int) ≤ 64) := fun h => by rw [inB_iff.2 h] at hl; cases hl
    clear hp hl
    by_cases h1 : (zs.length : Int) < 1
    · go_enter Try.func26, Try.ntmps26
      go_wp2_with fail
      refine (l03PartsZ_any p _).mono ?_
      rintro e w1 ⟨rfl, rfl⟩
      rw [HP.out]
      go_wp2_with fail
      refine bodyPost_ret (v := .tuple #[.agg #[.int .i64 0, .slice none 0 0], .bool false]) (by simp [results, Try.results26, go_sem]) rfl ?_
      unfold YsPost
      rw [HO.out]
      first | exact ⟨Ext.alloc _ _, rfl⟩ | exact ⟨(X0.setCell (Nat.le_refl _) _).setCell (Nat.le_refl _) _, rfl⟩
    · have h2 : 64 < (zs.length : Int) := by omega
      go_enter Try.func26, Try.ntmps26
      go_wp2_with fail
      refine (l03PartsZ_any p _).mono ?_
      rintro e w1 ⟨rfl, rfl⟩
      rw [HP.out]
      go_wp2_with fail
      refine bodyPost_ret (v := .tuple #[.agg #[.int .i64 0, .slice none 0 0], .bool false]) (by simp [results, Try.results26, go_sem]) rfl ?_
      unfold YsPost
      rw [HO.out]
      first | exact ⟨Ext.alloc _ _, rfl⟩ | exact ⟨(X0.setCell (Nat.le_refl _) _).setCell (Nat.le_refl _) _, rfl⟩
  have hl2 := inB_iff.1 hl
  have HP := Lib.hid hp
  have HL := Lib.hid hl
  clear hp hl
  clear k0 k1 z2 f0 f1
  go_enter Try.func26, Try.ntmps26
  go_wp2_with fail
  refine (l03PartsZ_any p _).mono ?_
  rintro e w1 ⟨rfl, rfl⟩
  rw [HP.out]
  go_wp2_with fail
  generalize hW : World.alloc w _ = W at *
  clear hW
  go_loopw [23] (fun i wr => ∃ k : Nat, k ≤ zs.length ∧ i = .int .i64 k ∧ Hid (∀ j, (h : j < k) → (h' : j < zs.length) → inB zs[j] 1 (2 ^ p.toNat - 1) = true) ∧ Ext W wr) (fun i _ => zs.length - (intOf i).toNat)
  case atStart => exact ⟨0, Nat.zero_le _, rfl, fun j h => absurd h (Nat.not_lt_zero _), Ext.refl _⟩
  case round =>
    obtain ⟨k, hk, rfl, HN, Z⟩ := hrel
    by_cases hlt : k < zs.length
    · have X := X0.trans Z
      obtain ⟨b1, o1, rfl, hb1, hc1⟩ := (r'.ext X).at hlt
      have hkl : (k : Int) < (zs.length : Int) := by omega
      obtain ⟨x, hx0⟩ : ∃ x, x = zs[k] := ⟨_, rfl⟩
      rw [← hx0] at hc1
      have HX := Lib.hid hx0
      clear hx0
      cases hin : inB x 1 (2 ^ p.toNat - 1)
      all_goals
        have HIN := Lib.hid hin
        clear hin
        go_wp2_with fail
      · refine wp_region_rel 9 (fun _ v => v = .bool false) (fun _ _ _ => True) (by kernel_rfl) (by kernel_rfl) (by kernel_rfl) ?_
        dsimp only [List.take, List.drop, List.length]
        refine LX_det (.slice (some ⟨b1, o1, none⟩) zs.length c1) (by kernel_rfl) rfl (fun w' hx _ => ?_) ?_
        · go_simp
        refine LX_det (.int .i64 k) (by kernel_rfl) rfl (fun w' hx _ => ?_) ?_
        · go_simp
        refine LX_det (.pointer (some ⟨b1, o1 + k, none⟩)) (by kernel_rfl) rfl (fun w' hx _ => ?_) ?_
        · go_simp
        refine LX_det (.int .i64 x) (by kernel_rfl) rfl (fun w' hx _ => ?_) ?_
        · have m0 := (Below.cell hx (p := ⟨b1, o1 + k, none⟩) hb1).trans hc1
          go_simp
        refine LX_det (.int .i64 p) (by kernel_rfl) rfl (fun w' hx _ => ?_) ?_
        · go_simp
        refine LX_det (.int .i64 (2 ^ p.toNat)) (by kernel_rfl) rfl (fun w' hx _ => ?_) ?_
        · go_simp
        refine LX_det (.int .i64 (2 ^ p.toNat - 1)) (by kernel_rfl) rfl (fun w' hx _ => ?_) ?_
        · go_simp
        refine LX_call (by kernel_rfl) rfl (fun _ => St.top) (fun w' hx _ => ?_) ?_
        · go_simp
          refine UponC.enter ((l00In_eq HIN.out _).mono ?_)
          rintro e w'' ⟨rfl, rfl⟩
          exact ⟨_, rfl, Ext.refl _, rfl, trivial⟩
        rintro _ rfl
        refine LX_det (.bool true) (by kernel_rfl) rfl (fun w' hx _ => ?_) ?_
        · go_simp
        refine LX_nil fun w2 hx _ => ?_
        refine wpList_nil ?_
        simp only [Act.put, List.setIfInBounds_toArray, List.set_cons_succ, List.set_cons_zero]
        have HO : Hid (sysOfO p zs = none) := by
          show _ = _
          unfold sysOfO goodI manyB
          have : (zs.all fun z => inB z 1 (2 ^ p.toNat - 1)) = false := by rw [List.all_eq_false]; exact ⟨x, by rw [HX.out]; exact List.getElem_mem hlt, by rw [HIN.out]; simp⟩
          rw [this, Bool.and_false, Bool.and_false]; rfl
        replace b2 := b2.ext (Z.trans hx)
        replace X := X.trans hx
        obtain ⟨k0, k1⟩ := b2.bx.two
        have z2 := b2.lt
        have f0 := b2.frozen (j := 0)
        have f1 := b2.frozen (j := 1)
        clear b2 hc1 hb1
        go_wp2_with fail
        refine bodyPost_ret (v := .tuple #[.agg #[.int .i64 0, .slice none 0 0], .bool false]) (by simp [results, Try.results26, go_sem, k0, k1, f0, f1]) rfl ?_
        unfold YsPost
        rw [HO.out]
        exact ⟨(X.setCell (Nat.le_refl _) _).setCell (Nat.le_refl _) _, rfl⟩
      · refine wp_region_rel 9 (fun _ v => v = .bool true) (fun _ _ _ => True) (by kernel_rfl) (by kernel_rfl) (by kernel_rfl) ?_
        dsimp only [List.take, List.drop, List.length]
        refine LX_det (.slice (some ⟨b1, o1, none⟩) zs.length c1) (by kernel_rfl) rfl (fun w' hx _ => ?_) ?_
        · go_simp
        refine LX_det (.int .i64 k) (by kernel_rfl) rfl (fun w' hx _ => ?_) ?_
        · go_simp
        refine LX_det (.pointer (some ⟨b1, o1 + k, none⟩)) (by kernel_rfl) rfl (fun w' hx _ => ?_) ?_
        · go_simp
        refine LX_det (.int .i64 x) (by kernel_rfl) rfl (fun w' hx _ => ?_) ?_
        · have m0 := (Below.cell hx (p := ⟨b1, o1 + k, none⟩) hb1).trans hc1
          go_simp
        refine LX_det (.int .i64 p) (by kernel_rfl) rfl (fun w' hx _ => ?_) ?_
        · go_simp
        refine LX_det (.int .i64 (2 ^ p.toNat)) (by kernel_rfl) rfl (fun w' hx _ => ?_) ?_
        · go_simp
        refine LX_det (.int .i64 (2 ^ p.toNat - 1)) (by kernel_rfl) rfl (fun w' hx _ => ?_) ?_
        · go_simp
        refine LX_call (by kernel_rfl) rfl (fun _ => St.top) (fun w' hx _ => ?_) ?_
        · go_simp
          refine UponC.enter ((l00In_eq HIN.out _).mono ?_)
          rintro e w'' ⟨rfl, rfl⟩
          exact ⟨_, rfl, Ext.refl _, rfl, trivial⟩
        rintro _ rfl
        refine LX_det (.bool false) (by kernel_rfl) rfl (fun w' hx _ => ?_) ?_
        · go_simp
        refine LX_nil fun w2 hx _ => ?_
        refine wpList_nil ?_
        simp only [Act.put, List.setIfInBounds_toArray, List.set_cons_succ, List.set_cons_zero]
        go_wp2_with fail
        go_roundw
        case rel =>
          refine ⟨k + 1, by omega, by go_num, fun j hj hj' => ?_, Z.trans hx⟩
          by_cases e : j = k
          · subst e; rw [← HX.out]; exact HIN.out
          · exact HN.out j (by omega) hj'
        case measure => simp [intOf]; omega
    · have hm : manyB zs 1 64 1 (2 ^ p.toNat - 1) = true := by
        unfold manyB
        rw [HL.out, Bool.true_and, List.all_eq_true]
        intro z hz
        obtain ⟨j, hj, rfl⟩ := List.getElem_of_mem hz
        exact HN.out j (by omega) hj
      have hgood : goodI p zs = true := by unfold goodI; rw [HP.out, hm]; rfl
      have HO : Hid (sysOfO p zs = sysO p (ups (leastS (downs zs)))) := by show _ = _; unfold sysOfO; rw [if_pos hgood, least_leastS hgood]
      obtain ⟨-, hl3, -, hud, hdn⟩ := good_get hgood
      have X := X0.trans Z
      have HLE := Lib.hid (l03Least_any (.slice a1 zs.length c1) (downs zs) wr (by rw [← hud]; exact r'.ext X) (by rw [downs_len]; omega) fun z hz => by have := hdn z hz; omega)
      clear hm hgood hud hdn hl3
      generalize leastS (downs zs) = ls at *
      go_wp2_with fail
      refine HLE.out.mono ?_
      rintro e w2 ⟨g, cap, rfl, hx, own⟩
      have own1 : w2.ownsRow wr.heap.size 2 1 (.slice (some ⟨g, 0, none⟩) (ups ls).length cap) (ups ls).length ((ups ls).map (Value.int .i64)) := by rw [ups_len]; exact own
      have HG := Lib.hid (l03Give_any p wr.heap.size g cap (ups ls) w2 own1)
      rw [ups_len] at HG
      have hgt : w.heap.size < wr.heap.size := (b2.ext Z).lt
      replace b2 := b2.ext Z
      clear own
      go_wp2_with fail
      refine HG.out.mono ?_
      intro e w3 h3
      have h2 := h3.ys hx own1
      generalize sysO p (ups ls) = oo at *
      clear h3 HG own1 hx
      obtain ⟨hxY, h2⟩ := h2
      replace b2 := b2.ext hxY
      have hszY := X.size
      replace X := X.trans hxY
      obtain ⟨k0, k1⟩ := b2.bx.two
      have z2 := b2.lt
      have f0 := b2.frozen (j := 0)
      have f1 := b2.frozen (j := 1)
      clear b2
      cases oo with
      | none =>
        simp only at h2
        subst h2
        go_wp2_with fail
        refine bodyPost_ret (v := .tuple #[.agg #[.int .i64 0, .slice none 0 0], .bool false]) (by simp [results, Try.results26, go_sem, k0, k1, f0, f1]) rfl ?_
        unfold YsPost
        rw [HO.out]
        exact ⟨(X.setCell (Nat.le_refl _) _).setCell (Nat.le_refl _) _, rfl⟩
      | some q =>
        obtain ⟨g, cap, rfl, own⟩ := h2
        obtain ⟨p0, qs⟩ := q
        have hgl := own.lt g rfl
        simp only at own hgl
        simp only
        go_wp2_with fail
        refine bodyPost_ret (v := .tuple #[.agg #[.int .i64 p0, .slice (some ⟨g, 0, none⟩) qs.length cap], .bool true]) (by simp [results, Try.results26, go_sem, k0, k1, f0, f1]) rfl ?_
        unfold YsPost
        rw [HO.out]
        refine ⟨(X.setCell (Nat.le_refl _) _).setCell (Nat.le_refl _) _, g, cap, rfl, ?_⟩
        exact World.ownsRow.mono (ownsRow_setCell_other (ownsRow_setCell_other own (by simp [Value.ownBlock]; omega) _) (by simp [Value.ownBlock]; omega) _) hszY
end Go.Proofs.Ytgmdoboeenpjpaa
