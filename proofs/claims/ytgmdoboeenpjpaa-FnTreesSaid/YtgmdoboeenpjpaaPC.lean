
/- A system in a list, as the reference looks at it: valid, works with a set. Printed by mkPc.py. -/
import Derived.Test.YtgmdoboeenpjpaaYf
import Derived.Test.YtgmdoboeenpjpaaPe
namespace Go.Proofs.Ytgmdoboeenpjpaa
open Go Go.RowKit Go.ChangeShapes Go.WideShapes Go.ChangeAt

attribute [local irreducible] LX

/-- Two cells that lie within a block. -/
def By (w : World) (b off : Nat) (x y : Value) : Prop := b < w.heap.size ∧ w.cell? ⟨b, off, none⟩ = some x ∧ w.cell? ⟨b, off + 1, none⟩ = some y
theorem By.two {w : World} {b off : Nat} {x y : Value} (h : By w b off x y) : w.cell? ⟨b, off, none⟩ = some x ∧ w.cell? ⟨b, off + 1, none⟩ = some y := h.2
theorem By.ext {w w' : World} {b off : Nat} {x y : Value} (h : By w b off x y) (hx : Ext w w') : By w' b off x y :=
  ⟨Nat.lt_of_lt_of_le h.1 hx.size, (Below.cell hx (p := ⟨b, off, none⟩) h.1).trans h.2.1, (Below.cell hx (p := ⟨b, off + 1, none⟩) h.1).trans h.2.2⟩

set_option maxRecDepth 100000 in
set_option maxHeartbeats 8000000 in
theorem l03IsI_at (p : Int) (v : Value) (zs : List Int) (blk off : Nat) (w : World) (hbx : By w blk off (.int .i64 p) v) (r : RdI w v zs) :
    Calls Try.prog 49 #[.pointer (some ⟨blk, off, none⟩)] w fun e w' => e = .returned (.bool (sysI p zs)) ∧ Ext w w' := by
  have r' := r
  obtain ⟨-, a1, c1, rfl, p1, p2, -, -⟩ := r
  unfold maxLen at p2
  have hlen : zs.length ≤ 9223372036854775807 := by omega
  clear p1 p2
  obtain ⟨k0, k1⟩ := hbx.two
  cases hp : inB p 1 10
  · have HF : Hid (sysI p zs = false) := by show _ = _; simp [sysI, hp]
    have HP := Lib.hid hp
    clear hp
    go_enter Try.func49, Try.ntmps49
    go_wp2_with fail
    refine (l03PartsZ_any p _).mono ?_
    rintro e w1 ⟨rfl, rfl⟩
    rw [HP.out]
    go_wp2_with fail
    go_ret
    exact ⟨ret_bool HF.out.symm, Ext.refl _⟩
  have hp2 := inB_iff.1 hp
  have hpw := pow10' hp2.1 hp2.2
  have hp0 : 0 ≤ p := by omega
  have hp63 : p < 64 := by omega
  cases hl : inB zs.length 1 64
  · have HF : Hid (sysI p zs = false) := by show _ = _; simp [sysI, hl]
    have HP := Lib.hid hp
    have hl2 : ¬ (1 ≤ (zs.length : Int) ∧ (zs.length : Int) ≤ 64) := fun h => by rw [inB_iff.2 h] at hl; cases hl
    clear hp hl
    by_cases h1 : (zs.length : Int) < 1
    · go_enter Try.func49, Try.ntmps49
      go_wp2_with fail
      refine (l03PartsZ_any p _).mono ?_
      rintro e w1 ⟨rfl, rfl⟩
      rw [HP.out]
      go_wp2_with fail
      go_ret
      exact ⟨ret_bool HF.out.symm, Ext.refl _⟩
    · have h2 : 64 < (zs.length : Int) := by omega
      go_enter Try.func49, Try.ntmps49
      go_wp2_with fail
      refine (l03PartsZ_any p _).mono ?_
      rintro e w1 ⟨rfl, rfl⟩
      rw [HP.out]
      go_wp2_with fail
      go_ret
      exact ⟨ret_bool HF.out.symm, Ext.refl _⟩
  have hl2 := inB_iff.1 hl
  have HP := Lib.hid hp
  have HL := Lib.hid hl
  have hl3 : zs.length ≤ 64 := by omega
  clear hp hl hlen
  go_enter Try.func49, Try.ntmps49
  go_wp2_with fail
  refine (l03PartsZ_any p _).mono ?_
  rintro e w1 ⟨rfl, rfl⟩
  rw [HP.out]
  go_wp2_with fail
  clear k0 k1
  go_loopw [33] (fun i wr => ∃ k : Nat, k ≤ zs.length ∧ i = .int .i64 k ∧ Hid (∀ j, j < k → rowI p zs j = true) ∧ Ext w wr) (fun i _ => zs.length - (intOf i).toNat)
  case atStart => exact ⟨0, Nat.zero_le _, rfl, fun j h => absurd h (Nat.not_lt_zero _), Ext.refl _⟩
  case round =>
    obtain ⟨k, hk, rfl, HR, X⟩ := hrel
    by_cases hlt : k < zs.length
    · have hbx2 := hbx.ext X
      obtain ⟨k0, k1⟩ := hbx2.two
      have hbl := hbx2.1
      obtain ⟨b1, o1, rfl, hb1, hc1⟩ := (r'.ext X).at hlt
      have hgk : Hid (zs.getD k 0 = zs[k]) := by show _ = _; simp [hlt]
      have hki : (k : Int) < (zs.length : Int) := by omega
      generalize hx : zs[k] = x at *
      have HX : Hid (zs[k] = x) := hx
      clear hx
      have hM1 : (2 : Int) ^ p.toNat - 1 ≤ 1023 := by omega
      have s1 : IntKind.i64.wrap (2 ^ p.toNat) = 2 ^ p.toNat := IntWalk.i64_in _ (by omega)
      have s2 : IntKind.i64.wrap (2 ^ p.toNat - 1) = 2 ^ p.toNat - 1 := IntWalk.i64_in _ (by omega)
      have hkl : (k : Int) < (zs.length : Int) := by omega
      obtain ⟨wo, rfl⟩ : ∃ wo : World, wo = wr := ⟨_, rfl⟩
      go_wp2_with fail
      cases hin : inB x 1 (2 ^ p.toNat - 1)
      · have HF : Hid (sysI p zs = false) := sysI_no hlt (by unfold rowI; rw [hgk.out, hin, Bool.false_and, Bool.false_and])
        have HIN := Lib.hid hin
        clear hin
        refine wp_region_rel 37 (fun _ v => v = .bool false) (fun _ _ _ => True) (by kernel_rfl) (by kernel_rfl) (by kernel_rfl) ?_
        dsimp only [List.take, List.drop, List.length]
        refine LX_det (.pointer (some ⟨blk, off, none⟩)) (by kernel_rfl) rfl (fun w' hx _ => ?_) ?_
        · go_simp
        refine LX_det (.pointer (some ⟨blk, off, none⟩)) (by kernel_rfl) rfl (fun w' hx _ => ?_) ?_
        · go_simp
        refine LX_det (.pointer (some ⟨blk, off + 1, none⟩)) (by kernel_rfl) rfl (fun w' hx _ => ?_) ?_
        · go_simp
        refine LX_det (.slice (some ⟨b1, o1, none⟩) zs.length c1) (by kernel_rfl) rfl (fun w' hx _ => ?_) ?_
        · have m0 := (Below.cell hx (p := ⟨blk, off + 1, none⟩) hbl).trans k1
          go_simp
        refine LX_det (.int .i64 k) (by kernel_rfl) rfl (fun w' hx _ => ?_) ?_
        · go_simp
        refine LX_det (.pointer (some ⟨b1, o1 + k, none⟩)) (by kernel_rfl) rfl (fun w' hx _ => ?_) ?_
        · go_simp
        refine LX_det (.int .i64 x) (by kernel_rfl) rfl (fun w' hx _ => ?_) ?_
        · have m0 := (Below.cell hx (p := ⟨b1, o1 + k, none⟩) hb1).trans hc1
          go_simp
        refine LX_det (.pointer (some ⟨blk, off, none⟩)) (by kernel_rfl) rfl (fun w' hx _ => ?_) ?_
        · go_simp
        refine LX_det (.pointer (some ⟨blk, off, none⟩)) (by kernel_rfl) rfl (fun w' hx _ => ?_) ?_
        · go_simp
        refine LX_det (.pointer (some ⟨blk, off, none⟩)) (by kernel_rfl) rfl (fun w' hx _ => ?_) ?_
        · go_simp
        refine LX_det (.int .i64 p) (by kernel_rfl) rfl (fun w' hx _ => ?_) ?_
        · have m0 := (Below.cell hx (p := ⟨blk, off, none⟩) hbl).trans k0
          go_simp
        refine LX_det (.int .i64 (2 ^ p.toNat)) (by kernel_rfl) rfl (fun w' hx _ => ?_) ?_
        · go_simp
        refine LX_det (.int .i64 (2 ^ p.toNat - 1)) (by kernel_rfl) rfl (fun w' hx _ => ?_) ?_
        · go_simp
        refine LX_call (by kernel_rfl) rfl (fun _ => St.top) (fun w' hx _ => ?_) ?_
        · go_simp
          refine UponC.enter ((l00In_eq HIN.out _).mono ?_)
          rintro e w'' ⟨rfl, rfl⟩
          exact ⟨_, rfl, Ext.refl _, rfl, trivial⟩
        rintro _ rfl
        refine LX_det (.bool true) (by kernel_rfl) rfl (fun w' hx _ => ?_) ?_
        · go_simp
        refine LX_det (.bool true) (by kernel_rfl) rfl (fun w' hx _ => ?_) ?_
        · go_simp
        iterate 20 refine LX_skip (by kernel_rfl) ?_
        refine LX_det (.bool true) (by kernel_rfl) rfl (fun w' hx _ => ?_) ?_
        · go_simp
        refine LX_nil fun w2 hx _ => ?_
        refine wpList_nil ?_
        simp only [Act.put, List.setIfInBounds_toArray, List.set_cons_succ, List.set_cons_zero]
        go_wp2_with fail
        go_ret
        exact ⟨ret_bool HF.out.symm, X.trans hx⟩
      · have HIN := Lib.hid hin
        clear hin
        by_cases hk0 : k = 0
        · have HPR : Hid ((decide (k = 0) || decide (zs.getD (k - 1) 0 < zs.getD k 0)) = true) := by show _ = _; rw [decide_eq_true hk0, Bool.true_or]
          have hk2 : ¬ (0 : Int) < (k : Int) := by omega
          have hk3 : ¬ 0 < k := by omega
          clear hk0
          refine wp_region_rel 37 (fun _ v => v = .bool true) (fun _ _ _ => True) (by kernel_rfl) (by kernel_rfl) (by kernel_rfl) ?_
          dsimp only [List.take, List.drop, List.length]
          refine LX_det (.pointer (some ⟨blk, off, none⟩)) (by kernel_rfl) rfl (fun w' hx _ => ?_) ?_
          · go_simp
          refine LX_det (.pointer (some ⟨blk, off, none⟩)) (by kernel_rfl) rfl (fun w' hx _ => ?_) ?_
          · go_simp
          refine LX_det (.pointer (some ⟨blk, off + 1, none⟩)) (by kernel_rfl) rfl (fun w' hx _ => ?_) ?_
          · go_simp
          refine LX_det (.slice (some ⟨b1, o1, none⟩) zs.length c1) (by kernel_rfl) rfl (fun w' hx _ => ?_) ?_
          · have m0 := (Below.cell hx (p := ⟨blk, off + 1, none⟩) hbl).trans k1
            go_simp
          refine LX_det (.int .i64 k) (by kernel_rfl) rfl (fun w' hx _ => ?_) ?_
          · go_simp
          refine LX_det (.pointer (some ⟨b1, o1 + k, none⟩)) (by kernel_rfl) rfl (fun w' hx _ => ?_) ?_
          · go_simp
          refine LX_det (.int .i64 x) (by kernel_rfl) rfl (fun w' hx _ => ?_) ?_
          · have m0 := (Below.cell hx (p := ⟨b1, o1 + k, none⟩) hb1).trans hc1
            go_simp
          refine LX_det (.pointer (some ⟨blk, off, none⟩)) (by kernel_rfl) rfl (fun w' hx _ => ?_) ?_
          · go_simp
          refine LX_det (.pointer (some ⟨blk, off, none⟩)) (by kernel_rfl) rfl (fun w' hx _ => ?_) ?_
          · go_simp
          refine LX_det (.pointer (some ⟨blk, off, none⟩)) (by kernel_rfl) rfl (fun w' hx _ => ?_) ?_
          · go_simp
          refine LX_det (.int .i64 p) (by kernel_rfl) rfl (fun w' hx _ => ?_) ?_
          · have m0 := (Below.cell hx (p := ⟨blk, off, none⟩) hbl).trans k0
            go_simp
          refine LX_det (.int .i64 (2 ^ p.toNat)) (by kernel_rfl) rfl (fun w' hx _ => ?_) ?_
          · go_simp
          refine LX_det (.int .i64 (2 ^ p.toNat - 1)) (by kernel_rfl) rfl (fun w' hx _ => ?_) ?_
          · go_simp
          refine LX_call (by kernel_rfl) rfl (fun _ => St.top) (fun w' hx _ => ?_) ?_
          · go_simp
            refine UponC.enter ((l00In_eq HIN.out _).mono ?_)
            rintro e w'' ⟨rfl, rfl⟩
            exact ⟨_, rfl, Ext.refl _, rfl, trivial⟩
          rintro _ rfl
          refine LX_det (.bool false) (by kernel_rfl) rfl (fun w' hx _ => ?_) ?_
          · go_simp
          refine LX_det (.bool false) (by kernel_rfl) rfl (fun w' hx _ => ?_) ?_
          · go_simp
          refine LX_det (.int .i64 k) (by kernel_rfl) rfl (fun w' hx _ => ?_) ?_
          · go_simp
          refine LX_det (.bool false) (by kernel_rfl) rfl (fun w' hx _ => ?_) ?_
          · go_simp
          refine LX_det (.bool false) (by kernel_rfl) rfl (fun w' hx _ => ?_) ?_
          · go_simp
          iterate 16 refine LX_skip (by kernel_rfl) ?_
          refine LX_det (.bool false) (by kernel_rfl) rfl (fun w' hx _ => ?_) ?_
          · go_simp
          refine LX_det (.bool false) (by kernel_rfl) rfl (fun w' hx _ => ?_) ?_
          · go_simp
          refine LX_nil fun w2 hx _ => ?_
          refine wpList_nil ?_
          simp only [Act.put, List.setIfInBounds_toArray, List.set_cons_succ, List.set_cons_zero]
          clear hk2 hk3
          go_wp2_with fail
          go_loopw [4] (fun i wq => ∃ j : Nat, j ≤ k ∧ i = .int .i64 j ∧ Hid (∀ l, l < j → apartI x (zs.getD l 0) = true) ∧ Ext wo wq) (fun i _ => k - (intOf i).toNat)
          case atStart => exact ⟨0, Nat.zero_le _, rfl, fun j h => absurd h (Nat.not_lt_zero _), hx⟩
          case round =>
            clear hx k0 k1 hc1 hb1
            obtain ⟨j, hj, rfl, HA, Z⟩ := hrel
            by_cases hlt2 : j < k
            · have hji : (j : Int) < (k : Int) := by omega
              obtain ⟨k0, k1⟩ := (hbx2.ext Z).two
              have hbl := (hbx2.ext Z).1
              obtain ⟨b2, o2, e2, hb1, hc1⟩ := (r'.ext (X.trans Z)).at hlt
              cases e2
              rw [HX.out] at hc1
              obtain ⟨b2, o2, e2, -, hc2⟩ := (r'.ext (X.trans Z)).at (show j < zs.length by omega)
              cases e2
              have hgj : Hid (zs.getD j 0 = zs[j]) := by show _ = _; simp [show j < zs.length by omega]
              generalize zs[j] = y at *
              obtain ⟨z, hz⟩ : ∃ z, bits .and .i64 x y = z := ⟨_, rfl⟩
              have HZ : Hid (apartI x y = (!(z == y) && !(z == x))) := by show _ = _; unfold apartI; rw [hz]
              have hjl : (j : Int) < (zs.length : Int) := by omega
              go_wp2_with fail
              refine wp_region_rel 15 (fun _ _ => True) (fun _ _ _ => True) (by kernel_rfl) (by kernel_rfl) (by kernel_rfl) ?_
              dsimp only [List.take, List.drop, List.length]
              refine LX_det (.pointer (some ⟨blk, off, none⟩)) (by kernel_rfl) rfl (fun w' hx _ => ?_) ?_
              · go_simp
              refine LX_det (.pointer (some ⟨blk, off, none⟩)) (by kernel_rfl) rfl (fun w' hx _ => ?_) ?_
              · go_simp
              refine LX_det (.pointer (some ⟨blk, off + 1, none⟩)) (by kernel_rfl) rfl (fun w' hx _ => ?_) ?_
              · go_simp
              refine LX_det (.slice (some ⟨b1, o1, none⟩) zs.length c1) (by kernel_rfl) rfl (fun w' hx _ => ?_) ?_
              · have m0 := (Below.cell hx (p := ⟨blk, off + 1, none⟩) hbl).trans k1
                go_simp
              refine LX_det (.int .i64 k) (by kernel_rfl) rfl (fun w' hx _ => ?_) ?_
              · go_simp
              refine LX_det (.pointer (some ⟨b1, o1 + k, none⟩)) (by kernel_rfl) rfl (fun w' hx _ => ?_) ?_
              · go_simp
              refine LX_det (.int .i64 x) (by kernel_rfl) rfl (fun w' hx _ => ?_) ?_
              · have m0 := (Below.cell hx (p := ⟨b1, o1 + k, none⟩) hb1).trans hc1
                go_simp
              refine LX_det (.pointer (some ⟨blk, off, none⟩)) (by kernel_rfl) rfl (fun w' hx _ => ?_) ?_
              · go_simp
              refine LX_det (.pointer (some ⟨blk, off, none⟩)) (by kernel_rfl) rfl (fun w' hx _ => ?_) ?_
              · go_simp
              refine LX_det (.pointer (some ⟨blk, off + 1, none⟩)) (by kernel_rfl) rfl (fun w' hx _ => ?_) ?_
              · go_simp
              refine LX_det (.slice (some ⟨b1, o1, none⟩) zs.length c1) (by kernel_rfl) rfl (fun w' hx _ => ?_) ?_
              · have m0 := (Below.cell hx (p := ⟨blk, off + 1, none⟩) hbl).trans k1
                go_simp
              refine LX_det (.int .i64 j) (by kernel_rfl) rfl (fun w' hx _ => ?_) ?_
              · go_simp
              refine LX_det (.pointer (some ⟨b1, o1 + j, none⟩)) (by kernel_rfl) rfl (fun w' hx _ => ?_) ?_
              · go_simp
              refine LX_det (.int .i64 y) (by kernel_rfl) rfl (fun w' hx _ => ?_) ?_
              · have m0 := (Below.cell hx (p := ⟨b1, o1 + j, none⟩) hb1).trans hc2
                go_simp
              refine LX_det (.int .i64 z) (by kernel_rfl) rfl (fun w' hx _ => ?_) ?_
              · go_simp
              refine LX_nil fun w3 hx3 _ => ?_
              simp only [Act.put, List.setIfInBounds_toArray, List.set_cons_succ, List.set_cons_zero]
              replace Z := Z.trans hx3
              replace k0 := (Below.cell hx3 (p := ⟨blk, off, none⟩) hbl).trans k0
              replace k1 := (Below.cell hx3 (p := ⟨blk, off + 1, none⟩) hbl).trans k1
              replace hc1 := (Below.cell hx3 (p := ⟨b1, o1 + k, none⟩) hb1).trans hc1
              replace hc2 := (Below.cell hx3 (p := ⟨b1, o1 + j, none⟩) hb1).trans hc2
              clear hx3
              by_cases h1 : z = y
              · have h1b : (z == y) = true := by simpa using h1
                have HF : Hid (sysI p zs = false) := sysI_no hlt (by
                  unfold rowI
                  have : (List.range k).all (fun l => apartI (zs.getD k 0) (zs.getD l 0)) = false := by
                    rw [List.all_eq_false]; exact ⟨j, List.mem_range.2 hlt2, by rw [hgk.out, hgj.out, HZ.out, h1b]; simp⟩
                  rw [this, Bool.and_false])
                clear h1b hz
                go_wp2_with fail
                go_ret
                exact ⟨ret_bool HF.out.symm, X.trans Z⟩
              · have h1b : (z == y) = false := by simpa using h1
                by_cases h2 : z = x
                · have h2b : (z == x) = true := by simpa using h2
                  have HF : Hid (sysI p zs = false) := sysI_no hlt (by
                    unfold rowI
                    have : (List.range k).all (fun l => apartI (zs.getD k 0) (zs.getD l 0)) = false := by
                      rw [List.all_eq_false]; exact ⟨j, List.mem_range.2 hlt2, by rw [hgk.out, hgj.out, HZ.out, h2b]; simp⟩
                    rw [this, Bool.and_false])
                  clear h2b hz
                  go_wp2_with fail
                  go_ret
                  exact ⟨ret_bool HF.out.symm, X.trans Z⟩
                · have h2b : (z == x) = false := by simpa using h2
                  have HY : Hid (apartI x (zs.getD j 0) = true) := by show _ = _; rw [hgj.out, HZ.out, h1b, h2b]; rfl
                  clear hz
                  go_wp2_with fail
                  go_roundw
                  case rel =>
                    refine ⟨j + 1, by omega, by go_num, fun l hl => ?_, Z⟩
                    by_cases e : l = j
                    · subst e; exact HY.out
                    · exact HA.out l (by omega)
                  case measure => simp [intOf]; omega
            · obtain rfl : j = k := by omega
              have HROW : Hid (rowI p zs j = true) := by
                show _ = _
                unfold rowI
                rw [Bool.and_eq_true, Bool.and_eq_true]
                refine ⟨⟨by rw [hgk.out]; exact HIN.out, HPR.out⟩, List.all_eq_true.2 fun l hl => ?_⟩
                rw [hgk.out]; exact HA.out l (List.mem_range.1 hl)
              go_wp2_with fail
              go_roundw
              case rel =>
                refine ⟨j + 1, by omega, by go_num, fun l hl => ?_, X.trans Z⟩
                by_cases e : l = j
                · subst e; exact HROW.out
                · exact HR.out l (by omega)
              case measure => simp [intOf]; omega
        · have hk1 : k - 1 < zs.length := by omega
          obtain ⟨b2, o2, e2, -, hc2⟩ := (r'.ext X).at hk1
          cases e2
          have hgy : Hid (zs.getD (k - 1) 0 = zs[k - 1]) := by show _ = _; simp [hk1]
          generalize zs[k - 1] = y at *
          have hk2 : (0 : Int) < (k : Int) := by omega
          have hk5 : 0 < k := by omega
          obtain ⟨q, hq⟩ : ∃ q, q = k - 1 := ⟨_, rfl⟩
          have s3 : IntKind.i64.wrap ((k : Int) - 1) = (q : Int) := by rw [IntWalk.i64_in _ (by omega)]; omega
          have hk4 : (q : Int) < (zs.length : Int) := by omega
          have hk6 : q < zs.length := by omega
          rw [← hq] at hc2
          have HQ := Lib.hid hq
          clear hq
          by_cases hxy : x ≤ y
          · have HF : Hid (sysI p zs = false) := sysI_no hlt (by
              unfold rowI
              have h1 : decide (k = 0) = false := by simpa using hk0
              have h2 : decide (zs.getD (k - 1) 0 < zs.getD k 0) = false := by rw [hgk.out, hgy.out]; simpa using hxy
              rw [h1, h2, Bool.or_self, Bool.and_false, Bool.false_and])
            refine wp_region_rel 37 (fun _ v => v = .bool true) (fun _ _ _ => True) (by kernel_rfl) (by kernel_rfl) (by kernel_rfl) ?_
            dsimp only [List.take, List.drop, List.length]
            refine LX_det (.pointer (some ⟨blk, off, none⟩)) (by kernel_rfl) rfl (fun w' hx _ => ?_) ?_
            · go_simp
            refine LX_det (.pointer (some ⟨blk, off, none⟩)) (by kernel_rfl) rfl (fun w' hx _ => ?_) ?_
            · go_simp
            refine LX_det (.pointer (some ⟨blk, off + 1, none⟩)) (by kernel_rfl) rfl (fun w' hx _ => ?_) ?_
            · go_simp
            refine LX_det (.slice (some ⟨b1, o1, none⟩) zs.length c1) (by kernel_rfl) rfl (fun w' hx _ => ?_) ?_
            · have m0 := (Below.cell hx (p := ⟨blk, off + 1, none⟩) hbl).trans k1
              go_simp
            refine LX_det (.int .i64 k) (by kernel_rfl) rfl (fun w' hx _ => ?_) ?_
            · go_simp
            refine LX_det (.pointer (some ⟨b1, o1 + k, none⟩)) (by kernel_rfl) rfl (fun w' hx _ => ?_) ?_
            · go_simp
            refine LX_det (.int .i64 x) (by kernel_rfl) rfl (fun w' hx _ => ?_) ?_
            · have m0 := (Below.cell hx (p := ⟨b1, o1 + k, none⟩) hb1).trans hc1
              go_simp
            refine LX_det (.pointer (some ⟨blk, off, none⟩)) (by kernel_rfl) rfl (fun w' hx _ => ?_) ?_
            · go_simp
            refine LX_det (.pointer (some ⟨blk, off, none⟩)) (by kernel_rfl) rfl (fun w' hx _ => ?_) ?_
            · go_simp
            refine LX_det (.pointer (some ⟨blk, off, none⟩)) (by kernel_rfl) rfl (fun w' hx _ => ?_) ?_
            · go_simp
            refine LX_det (.int .i64 p) (by kernel_rfl) rfl (fun w' hx _ => ?_) ?_
            · have m0 := (Below.cell hx (p := ⟨blk, off, none⟩) hbl).trans k0
              go_simp
            refine LX_det (.int .i64 (2 ^ p.toNat)) (by kernel_rfl) rfl (fun w' hx _ => ?_) ?_
            · go_simp
            refine LX_det (.int .i64 (2 ^ p.toNat - 1)) (by kernel_rfl) rfl (fun w' hx _ => ?_) ?_
            · go_simp
            refine LX_call (by kernel_rfl) rfl (fun _ => St.top) (fun w' hx _ => ?_) ?_
            · go_simp
              refine UponC.enter ((l00In_eq HIN.out _).mono ?_)
              rintro e w'' ⟨rfl, rfl⟩
              exact ⟨_, rfl, Ext.refl _, rfl, trivial⟩
            rintro _ rfl
            refine LX_det (.bool false) (by kernel_rfl) rfl (fun w' hx _ => ?_) ?_
            · go_simp
            refine LX_det (.bool false) (by kernel_rfl) rfl (fun w' hx _ => ?_) ?_
            · go_simp
            refine LX_det (.int .i64 k) (by kernel_rfl) rfl (fun w' hx _ => ?_) ?_
            · go_simp
            refine LX_det (.bool true) (by kernel_rfl) rfl (fun w' hx _ => ?_) ?_
            · go_simp
            refine LX_det (.bool true) (by kernel_rfl) rfl (fun w' hx _ => ?_) ?_
            · go_simp
            refine LX_det (.pointer (some ⟨blk, off, none⟩)) (by kernel_rfl) rfl (fun w' hx _ => ?_) ?_
            · go_simp
            refine LX_det (.pointer (some ⟨blk, off, none⟩)) (by kernel_rfl) rfl (fun w' hx _ => ?_) ?_
            · go_simp
            refine LX_det (.pointer (some ⟨blk, off + 1, none⟩)) (by kernel_rfl) rfl (fun w' hx _ => ?_) ?_
            · go_simp
            refine LX_det (.slice (some ⟨b1, o1, none⟩) zs.length c1) (by kernel_rfl) rfl (fun w' hx _ => ?_) ?_
            · have m0 := (Below.cell hx (p := ⟨blk, off + 1, none⟩) hbl).trans k1
              go_simp
            refine LX_det (.int .i64 k) (by kernel_rfl) rfl (fun w' hx _ => ?_) ?_
            · go_simp
            refine LX_det (.pointer (some ⟨b1, o1 + k, none⟩)) (by kernel_rfl) rfl (fun w' hx _ => ?_) ?_
            · go_simp
            refine LX_det (.int .i64 x) (by kernel_rfl) rfl (fun w' hx _ => ?_) ?_
            · have m0 := (Below.cell hx (p := ⟨b1, o1 + k, none⟩) hb1).trans hc1
              go_simp
            refine LX_det (.pointer (some ⟨blk, off, none⟩)) (by kernel_rfl) rfl (fun w' hx _ => ?_) ?_
            · go_simp
            refine LX_det (.pointer (some ⟨blk, off, none⟩)) (by kernel_rfl) rfl (fun w' hx _ => ?_) ?_
            · go_simp
            refine LX_det (.pointer (some ⟨blk, off + 1, none⟩)) (by kernel_rfl) rfl (fun w' hx _ => ?_) ?_
            · go_simp
            refine LX_det (.slice (some ⟨b1, o1, none⟩) zs.length c1) (by kernel_rfl) rfl (fun w' hx _ => ?_) ?_
            · have m0 := (Below.cell hx (p := ⟨blk, off + 1, none⟩) hbl).trans k1
              go_simp
            refine LX_det (.int .i64 k) (by kernel_rfl) rfl (fun w' hx _ => ?_) ?_
            · go_simp
            refine LX_det (.int .i64 q) (by kernel_rfl) rfl (fun w' hx _ => ?_) ?_
            · go_simp
            refine LX_det (.pointer (some ⟨b1, o1 + q, none⟩)) (by kernel_rfl) rfl (fun w' hx _ => ?_) ?_
            · go_simp
            refine LX_det (.int .i64 y) (by kernel_rfl) rfl (fun w' hx _ => ?_) ?_
            · have m0 := (Below.cell hx (p := ⟨b1, o1 + q, none⟩) hb1).trans hc2
              go_simp
            refine LX_det (.bool true) (by kernel_rfl) rfl (fun w' hx _ => ?_) ?_
            · go_simp
            refine LX_det (.bool true) (by kernel_rfl) rfl (fun w' hx _ => ?_) ?_
            · go_simp
            refine LX_det (.bool true) (by kernel_rfl) rfl (fun w' hx _ => ?_) ?_
            · go_simp
            refine LX_nil fun w2 hx _ => ?_
            refine wpList_nil ?_
            simp only [Act.put, List.setIfInBounds_toArray, List.set_cons_succ, List.set_cons_zero]
            go_wp2_with fail
            go_ret
            exact ⟨ret_bool HF.out.symm, X.trans hx⟩
          · have HPR : Hid ((decide (k = 0) || decide (zs.getD (k - 1) 0 < zs.getD k 0)) = true) := by
              show _ = _
              have h2 : decide (zs.getD (k - 1) 0 < zs.getD k 0) = true := by rw [hgk.out, hgy.out]; simpa using hxy
              rw [h2, Bool.or_true]
            refine wp_region_rel 37 (fun _ v => v = .bool true) (fun _ _ _ => True) (by kernel_rfl) (by kernel_rfl) (by kernel_rfl) ?_
            dsimp only [List.take, List.drop, List.length]
            refine LX_det (.pointer (some ⟨blk, off, none⟩)) (by kernel_rfl) rfl (fun w' hx _ => ?_) ?_
            · go_simp
            refine LX_det (.pointer (some ⟨blk, off, none⟩)) (by kernel_rfl) rfl (fun w' hx _ => ?_) ?_
            · go_simp
            refine LX_det (.pointer (some ⟨blk, off + 1, none⟩)) (by kernel_rfl) rfl (fun w' hx _ => ?_) ?_
            · go_simp
            refine LX_det (.slice (some ⟨b1, o1, none⟩) zs.length c1) (by kernel_rfl) rfl (fun w' hx _ => ?_) ?_
            · have m0 := (Below.cell hx (p := ⟨blk, off + 1, none⟩) hbl).trans k1
              go_simp
            refine LX_det (.int .i64 k) (by kernel_rfl) rfl (fun w' hx _ => ?_) ?_
            · go_simp
            refine LX_det (.pointer (some ⟨b1, o1 + k, none⟩)) (by kernel_rfl) rfl (fun w' hx _ => ?_) ?_
            · go_simp
            refine LX_det (.int .i64 x) (by kernel_rfl) rfl (fun w' hx _ => ?_) ?_
            · have m0 := (Below.cell hx (p := ⟨b1, o1 + k, none⟩) hb1).trans hc1
              go_simp
            refine LX_det (.pointer (some ⟨blk, off, none⟩)) (by kernel_rfl) rfl (fun w' hx _ => ?_) ?_
            · go_simp
            refine LX_det (.pointer (some ⟨blk, off, none⟩)) (by kernel_rfl) rfl (fun w' hx _ => ?_) ?_
            · go_simp
            refine LX_det (.pointer (some ⟨blk, off, none⟩)) (by kernel_rfl) rfl (fun w' hx _ => ?_) ?_
            · go_simp
            refine LX_det (.int .i64 p) (by kernel_rfl) rfl (fun w' hx _ => ?_) ?_
            · have m0 := (Below.cell hx (p := ⟨blk, off, none⟩) hbl).trans k0
              go_simp
            refine LX_det (.int .i64 (2 ^ p.toNat)) (by kernel_rfl) rfl (fun w' hx _ => ?_) ?_
            · go_simp
            refine LX_det (.int .i64 (2 ^ p.toNat - 1)) (by kernel_rfl) rfl (fun w' hx _ => ?_) ?_
            · go_simp
            refine LX_call (by kernel_rfl) rfl (fun _ => St.top) (fun w' hx _ => ?_) ?_
            · go_simp
              refine UponC.enter ((l00In_eq HIN.out _).mono ?_)
              rintro e w'' ⟨rfl, rfl⟩
              exact ⟨_, rfl, Ext.refl _, rfl, trivial⟩
            rintro _ rfl
            refine LX_det (.bool false) (by kernel_rfl) rfl (fun w' hx _ => ?_) ?_
            · go_simp
            refine LX_det (.bool false) (by kernel_rfl) rfl (fun w' hx _ => ?_) ?_
            · go_simp
            refine LX_det (.int .i64 k) (by kernel_rfl) rfl (fun w' hx _ => ?_) ?_
            · go_simp
            refine LX_det (.bool true) (by kernel_rfl) rfl (fun w' hx _ => ?_) ?_
            · go_simp
            refine LX_det (.bool true) (by kernel_rfl) rfl (fun w' hx _ => ?_) ?_
            · go_simp
            refine LX_det (.pointer (some ⟨blk, off, none⟩)) (by kernel_rfl) rfl (fun w' hx _ => ?_) ?_
            · go_simp
            refine LX_det (.pointer (some ⟨blk, off, none⟩)) (by kernel_rfl) rfl (fun w' hx _ => ?_) ?_
            · go_simp
            refine LX_det (.pointer (some ⟨blk, off + 1, none⟩)) (by kernel_rfl) rfl (fun w' hx _ => ?_) ?_
            · go_simp
            refine LX_det (.slice (some ⟨b1, o1, none⟩) zs.length c1) (by kernel_rfl) rfl (fun w' hx _ => ?_) ?_
            · have m0 := (Below.cell hx (p := ⟨blk, off + 1, none⟩) hbl).trans k1
              go_simp
            refine LX_det (.int .i64 k) (by kernel_rfl) rfl (fun w' hx _ => ?_) ?_
            · go_simp
            refine LX_det (.pointer (some ⟨b1, o1 + k, none⟩)) (by kernel_rfl) rfl (fun w' hx _ => ?_) ?_
            · go_simp
            refine LX_det (.int .i64 x) (by kernel_rfl) rfl (fun w' hx _ => ?_) ?_
            · have m0 := (Below.cell hx (p := ⟨b1, o1 + k, none⟩) hb1).trans hc1
              go_simp
            refine LX_det (.pointer (some ⟨blk, off, none⟩)) (by kernel_rfl) rfl (fun w' hx _ => ?_) ?_
            · go_simp
            refine LX_det (.pointer (some ⟨blk, off, none⟩)) (by kernel_rfl) rfl (fun w' hx _ => ?_) ?_
            · go_simp
            refine LX_det (.pointer (some ⟨blk, off + 1, none⟩)) (by kernel_rfl) rfl (fun w' hx _ => ?_) ?_
            · go_simp
            refine LX_det (.slice (some ⟨b1, o1, none⟩) zs.length c1) (by kernel_rfl) rfl (fun w' hx _ => ?_) ?_
            · have m0 := (Below.cell hx (p := ⟨blk, off + 1, none⟩) hbl).trans k1
              go_simp
            refine LX_det (.int .i64 k) (by kernel_rfl) rfl (fun w' hx _ => ?_) ?_
            · go_simp
            refine LX_det (.int .i64 q) (by kernel_rfl) rfl (fun w' hx _ => ?_) ?_
            · go_simp
            refine LX_det (.pointer (some ⟨b1, o1 + q, none⟩)) (by kernel_rfl) rfl (fun w' hx _ => ?_) ?_
            · go_simp
            refine LX_det (.int .i64 y) (by kernel_rfl) rfl (fun w' hx _ => ?_) ?_
            · have m0 := (Below.cell hx (p := ⟨b1, o1 + q, none⟩) hb1).trans hc2
              go_simp
            refine LX_det (.bool false) (by kernel_rfl) rfl (fun w' hx _ => ?_) ?_
            · go_simp
            refine LX_det (.bool false) (by kernel_rfl) rfl (fun w' hx _ => ?_) ?_
            · go_simp
            refine LX_det (.bool false) (by kernel_rfl) rfl (fun w' hx _ => ?_) ?_
            · go_simp
            refine LX_nil fun w2 hx _ => ?_
            refine wpList_nil ?_
            simp only [Act.put, List.setIfInBounds_toArray, List.set_cons_succ, List.set_cons_zero]
            clear hc2 hgy hxy
            go_wp2_with fail
            go_loopw [4] (fun i wq => ∃ j : Nat, j ≤ k ∧ i = .int .i64 j ∧ Hid (∀ l, l < j → apartI x (zs.getD l 0) = true) ∧ Ext wo wq) (fun i _ => k - (intOf i).toNat)
            case atStart => exact ⟨0, Nat.zero_le _, rfl, fun j h => absurd h (Nat.not_lt_zero _), hx⟩
            case round =>
              clear hx k0 k1 hc1 hb1
              obtain ⟨j, hj, rfl, HA, Z⟩ := hrel
              by_cases hlt2 : j < k
              · have hji : (j : Int) < (k : Int) := by omega
                obtain ⟨k0, k1⟩ := (hbx2.ext Z).two
                have hbl := (hbx2.ext Z).1
                obtain ⟨b2, o2, e2, hb1, hc1⟩ := (r'.ext (X.trans Z)).at hlt
                cases e2
                rw [HX.out] at hc1
                obtain ⟨b2, o2, e2, -, hc2⟩ := (r'.ext (X.trans Z)).at (show j < zs.length by omega)
                cases e2
                have hgj : Hid (zs.getD j 0 = zs[j]) := by show _ = _; simp [show j < zs.length by omega]
                generalize zs[j] = y at *
                obtain ⟨z, hz⟩ : ∃ z, bits .and .i64 x y = z := ⟨_, rfl⟩
                have HZ : Hid (apartI x y = (!(z == y) && !(z == x))) := by show _ = _; unfold apartI; rw [hz]
                have hjl : (j : Int) < (zs.length : Int) := by omega
                go_wp2_with fail
                refine wp_region_rel 15 (fun _ _ => True) (fun _ _ _ => True) (by kernel_rfl) (by kernel_rfl) (by kernel_rfl) ?_
                dsimp only [List.take, List.drop, List.length]
                refine LX_det (.pointer (some ⟨blk, off, none⟩)) (by kernel_rfl) rfl (fun w' hx _ => ?_) ?_
                · go_simp
                refine LX_det (.pointer (some ⟨blk, off, none⟩)) (by kernel_rfl) rfl (fun w' hx _ => ?_) ?_
                · go_simp
                refine LX_det (.pointer (some ⟨blk, off + 1, none⟩)) (by kernel_rfl) rfl (fun w' hx _ => ?_) ?_
                · go_simp
                refine LX_det (.slice (some ⟨b1, o1, none⟩) zs.length c1) (by kernel_rfl) rfl (fun w' hx _ => ?_) ?_
                · have m0 := (Below.cell hx (p := ⟨blk, off + 1, none⟩) hbl).trans k1
                  go_simp
                refine LX_det (.int .i64 k) (by kernel_rfl) rfl (fun w' hx _ => ?_) ?_
                · go_simp
                refine LX_det (.pointer (some ⟨b1, o1 + k, none⟩)) (by kernel_rfl) rfl (fun w' hx _ => ?_) ?_
                · go_simp
                refine LX_det (.int .i64 x) (by kernel_rfl) rfl (fun w' hx _ => ?_) ?_
                · have m0 := (Below.cell hx (p := ⟨b1, o1 + k, none⟩) hb1).trans hc1
                  go_simp
                refine LX_det (.pointer (some ⟨blk, off, none⟩)) (by kernel_rfl) rfl (fun w' hx _ => ?_) ?_
                · go_simp
                refine LX_det (.pointer (some ⟨blk, off, none⟩)) (by kernel_rfl) rfl (fun w' hx _ => ?_) ?_
                · go_simp
                refine LX_det (.pointer (some ⟨blk, off + 1, none⟩)) (by kernel_rfl) rfl (fun w' hx _ => ?_) ?_
                · go_simp
                refine LX_det (.slice (some ⟨b1, o1, none⟩) zs.length c1) (by kernel_rfl) rfl (fun w' hx _ => ?_) ?_
                · have m0 := (Below.cell hx (p := ⟨blk, off + 1, none⟩) hbl).trans k1
                  go_simp
                refine LX_det (.int .i64 j) (by kernel_rfl) rfl (fun w' hx _ => ?_) ?_
                · go_simp
                refine LX_det (.pointer (some ⟨b1, o1 + j, none⟩)) (by kernel_rfl) rfl (fun w' hx _ => ?_) ?_
                · go_simp
                refine LX_det (.int .i64 y) (by kernel_rfl) rfl (fun w' hx _ => ?_) ?_
                · have m0 := (Below.cell hx (p := ⟨b1, o1 + j, none⟩) hb1).trans hc2
                  go_simp
                refine LX_det (.int .i64 z) (by kernel_rfl) rfl (fun w' hx _ => ?_) ?_
                · go_simp
                refine LX_nil fun w3 hx3 _ => ?_
                simp only [Act.put, List.setIfInBounds_toArray, List.set_cons_succ, List.set_cons_zero]
                replace Z := Z.trans hx3
                replace k0 := (Below.cell hx3 (p := ⟨blk, off, none⟩) hbl).trans k0
                replace k1 := (Below.cell hx3 (p := ⟨blk, off + 1, none⟩) hbl).trans k1
                replace hc1 := (Below.cell hx3 (p := ⟨b1, o1 + k, none⟩) hb1).trans hc1
                replace hc2 := (Below.cell hx3 (p := ⟨b1, o1 + j, none⟩) hb1).trans hc2
                clear hx3
                by_cases h1 : z = y
                · have h1b : (z == y) = true := by simpa using h1
                  have HF : Hid (sysI p zs = false) := sysI_no hlt (by
                    unfold rowI
                    have : (List.range k).all (fun l => apartI (zs.getD k 0) (zs.getD l 0)) = false := by
                      rw [List.all_eq_false]; exact ⟨j, List.mem_range.2 hlt2, by rw [hgk.out, hgj.out, HZ.out, h1b]; simp⟩
                    rw [this, Bool.and_false])
                  clear h1b hz
                  go_wp2_with fail
                  go_ret
                  exact ⟨ret_bool HF.out.symm, X.trans Z⟩
                · have h1b : (z == y) = false := by simpa using h1
                  by_cases h2 : z = x
                  · have h2b : (z == x) = true := by simpa using h2
                    have HF : Hid (sysI p zs = false) := sysI_no hlt (by
                      unfold rowI
                      have : (List.range k).all (fun l => apartI (zs.getD k 0) (zs.getD l 0)) = false := by
                        rw [List.all_eq_false]; exact ⟨j, List.mem_range.2 hlt2, by rw [hgk.out, hgj.out, HZ.out, h2b]; simp⟩
                      rw [this, Bool.and_false])
                    clear h2b hz
                    go_wp2_with fail
                    go_ret
                    exact ⟨ret_bool HF.out.symm, X.trans Z⟩
                  · have h2b : (z == x) = false := by simpa using h2
                    have HY : Hid (apartI x (zs.getD j 0) = true) := by show _ = _; rw [hgj.out, HZ.out, h1b, h2b]; rfl
                    clear hz
                    go_wp2_with fail
                    go_roundw
                    case rel =>
                      refine ⟨j + 1, by omega, by go_num, fun l hl => ?_, Z⟩
                      by_cases e : l = j
                      · subst e; exact HY.out
                      · exact HA.out l (by omega)
                    case measure => simp [intOf]; omega
              · obtain rfl : j = k := by omega
                have HROW : Hid (rowI p zs j = true) := by
                  show _ = _
                  unfold rowI
                  rw [Bool.and_eq_true, Bool.and_eq_true]
                  refine ⟨⟨by rw [hgk.out]; exact HIN.out, HPR.out⟩, List.all_eq_true.2 fun l hl => ?_⟩
                  rw [hgk.out]; exact HA.out l (List.mem_range.1 hl)
                go_wp2_with fail
                go_roundw
                case rel =>
                  refine ⟨j + 1, by omega, by go_num, fun l hl => ?_, X.trans Z⟩
                  by_cases e : l = j
                  · subst e; exact HROW.out
                  · exact HR.out l (by omega)
                case measure => simp [intOf]; omega
    · have HT : Hid (sysI p zs = true) := by
        show _ = _
        unfold sysI
        rw [HP.out, HL.out, Bool.true_and, Bool.true_and, List.all_eq_true]
        intro i hi
        exact HR.out i (by have := List.mem_range.1 hi; omega)
      obtain ⟨k0, k1⟩ := (hbx.ext X).two
      go_wp2_with fail
      go_ret
      exact ⟨ret_bool HT.out.symm, X⟩
theorem l03Is_at (p : Int) (v : Value) (zs : List Int) (blk off : Nat) (w : World) (hbx : By w blk off (.int .i64 p) v) (r : RdI w v zs) :
    Calls Try.prog 49 #[.pointer (some ⟨blk, off, none⟩)] w fun e w' => e = .returned (.bool (sysB p zs)) ∧ Ext w w' := by
  rw [← sysI_eq]; exact l03IsI_at p v zs blk off w hbx r

set_option maxRecDepth 100000 in
set_option maxHeartbeats 4000000 in
theorem l03WorksI_at (p s : Int) (v : Value) (zs : List Int) (blk off : Nat) (w : World) (hbx : By w blk off (.int .i64 p) v) (r : RdI w v zs) :
    Calls Try.prog 50 #[.pointer (some ⟨blk, off, none⟩), .int .i64 s] w fun e w' => e = .returned (.bool (zs.any fun q => bits .and .i64 q s == q)) ∧ Ext w w' := by
  have r' := r
  obtain ⟨-, a1, c1, rfl, p1, p2, -, -⟩ := r
  unfold maxLen at p2
  have hlen : zs.length ≤ 9223372036854775807 := by omega
  clear p1 p2
  obtain ⟨k0, k1⟩ := hbx.two
  go_enter Try.func50, Try.ntmps50
  go_wp2_with fail
  clear k0 k1
  go_loopw [11] (fun i wr => ∃ k : Nat, k ≤ zs.length ∧ i = .int .i64 k ∧ Hid (∀ j, (h : j < k) → (h' : j < zs.length) → (bits .and .i64 zs[j] s == zs[j]) = false) ∧ Ext w wr) (fun i _ => zs.length - (intOf i).toNat)
  case atStart => exact ⟨0, Nat.zero_le _, rfl, fun j h => absurd h (Nat.not_lt_zero _), Ext.refl _⟩
  case round =>
    obtain ⟨k, hk, rfl, HN, X⟩ := hrel
    by_cases hlt : k < zs.length
    · have hbx2 := hbx.ext X
      obtain ⟨k0, k1⟩ := hbx2.two
      have hbl := hbx2.1
      obtain ⟨b1, o1, rfl, hb1, hc1⟩ := (r'.ext X).at hlt
      have hkl : (k : Int) < (zs.length : Int) := by omega
      generalize hx : zs[k] = x at *
      obtain ⟨z, hz⟩ : ∃ z, bits .and .i64 x s = z := ⟨_, rfl⟩
      have HXE : Hid (zs[k] = x) := hx
      have HZE : Hid (bits .and .i64 x s = z) := hz
      clear hx
      go_wp2_with fail
      refine wp_region_rel 17 (fun _ _ => True) (fun _ _ _ => True) (by kernel_rfl) (by kernel_rfl) (by kernel_rfl) ?_
      dsimp only [List.take, List.drop, List.length]
      refine LX_det (.pointer (some ⟨blk, off, none⟩)) (by kernel_rfl) rfl (fun w' hx _ => ?_) ?_
      · go_simp
      refine LX_det (.pointer (some ⟨blk, off, none⟩)) (by kernel_rfl) rfl (fun w' hx _ => ?_) ?_
      · go_simp
      refine LX_det (.pointer (some ⟨blk, off + 1, none⟩)) (by kernel_rfl) rfl (fun w' hx _ => ?_) ?_
      · go_simp
      refine LX_det (.slice (some ⟨b1, o1, none⟩) zs.length c1) (by kernel_rfl) rfl (fun w' hx _ => ?_) ?_
      · have m0 := (Below.cell hx (p := ⟨blk, off + 1, none⟩) hbl).trans k1
        go_simp
      refine LX_det (.int .i64 k) (by kernel_rfl) rfl (fun w' hx _ => ?_) ?_
      · go_simp
      refine LX_det (.pointer (some ⟨b1, o1 + k, none⟩)) (by kernel_rfl) rfl (fun w' hx _ => ?_) ?_
      · go_simp
      refine LX_det (.int .i64 x) (by kernel_rfl) rfl (fun w' hx _ => ?_) ?_
      · have m0 := (Below.cell hx (p := ⟨b1, o1 + k, none⟩) hb1).trans hc1
        go_simp
      refine LX_det (.int .i64 s) (by kernel_rfl) rfl (fun w' hx _ => ?_) ?_
      · go_simp
      refine LX_det (.int .i64 z) (by kernel_rfl) rfl (fun w' hx _ => ?_) ?_
      · go_simp
      refine LX_det (.pointer (some ⟨blk, off, none⟩)) (by kernel_rfl) rfl (fun w' hx _ => ?_) ?_
      · go_simp
      refine LX_det (.pointer (some ⟨blk, off, none⟩)) (by kernel_rfl) rfl (fun w' hx _ => ?_) ?_
      · go_simp
      refine LX_det (.pointer (some ⟨blk, off + 1, none⟩)) (by kernel_rfl) rfl (fun w' hx _ => ?_) ?_
      · go_simp
      refine LX_det (.slice (some ⟨b1, o1, none⟩) zs.length c1) (by kernel_rfl) rfl (fun w' hx _ => ?_) ?_
      · have m0 := (Below.cell hx (p := ⟨blk, off + 1, none⟩) hbl).trans k1
        go_simp
      refine LX_det (.int .i64 k) (by kernel_rfl) rfl (fun w' hx _ => ?_) ?_
      · go_simp
      refine LX_det (.pointer (some ⟨b1, o1 + k, none⟩)) (by kernel_rfl) rfl (fun w' hx _ => ?_) ?_
      · go_simp
      refine LX_det (.int .i64 x) (by kernel_rfl) rfl (fun w' hx _ => ?_) ?_
      · have m0 := (Below.cell hx (p := ⟨b1, o1 + k, none⟩) hb1).trans hc1
        go_simp
      refine LX_det (.bool (z == x)) (by kernel_rfl) rfl (fun w' hx _ => ?_) ?_
      · go_simp
      refine LX_nil fun w2 hx _ => ?_
      refine wpList_nil ?_
      simp only [Act.put, List.setIfInBounds_toArray, List.set_cons_succ, List.set_cons_zero]
      replace X := X.trans hx
      clear hx hc1 hb1 k0 k1 hbl hbx2 hz
      by_cases hzx : z = x
      · have HT : Hid ((zs.any fun q => bits .and .i64 q s == q) = true) := by
          show _ = _
          rw [List.any_eq_true]
          exact ⟨zs[k], List.getElem_mem hlt, by rw [HXE.out, HZE.out]; simpa using hzx⟩
        go_wp2_with fail
        go_ret
        exact ⟨ret_bool HT.out.symm, X⟩
      · have HF : Hid ((bits .and .i64 zs[k] s == zs[k]) = false) := by show _ = _; rw [HXE.out, HZE.out]; simpa using hzx
        go_wp2_with fail
        go_roundw
        case rel =>
          refine ⟨k + 1, by omega, by go_num, fun j hj hj' => ?_, X⟩
          by_cases e : j = k
          · subst e; exact HF.out
          · exact HN.out j (by omega) hj'
        case measure => simp [intOf]; omega
    · have HF : Hid ((zs.any fun q => bits .and .i64 q s == q) = false) := by
        show _ = _
        rw [List.any_eq_false]
        intro q hq
        obtain ⟨j, hj, rfl⟩ := List.getElem_of_mem hq
        have := HN.out j (by omega) hj
        simpa using this
      go_wp2_with fail
      go_ret
      exact ⟨ret_bool HF.out.symm, X⟩

theorem l03Works_at (p : Int) (s : Nat) (v : Value) (ns : List Nat) (blk off : Nat) (w : World) (hbx : By w blk off (.int .i64 p) v) (r : RdI w v (ups ns)) (hn : ∀ n ∈ ns, n < 9223372036854775808) (hs : s < 9223372036854775808) :
    Calls Try.prog 50 #[.pointer (some ⟨blk, off, none⟩), .int .i64 s] w fun e w' => e = .returned (.bool (worksB ns s)) ∧ Ext w w' := by
  rw [← worksS_ups hn hs]; exact l03WorksI_at p s v (ups ns) blk off w hbx r
end Go.Proofs.Ytgmdoboeenpjpaa
/- PhasesChance as the reference finds it. Condition: lists that can be read. -/
namespace Go.Proofs.Ytgmdoboeenpjpaa
open Go Go.RowKit Go.ChangeShapes Go.WideShapes Go.ChangeAt

attribute [local irreducible] LX

theorem infoI64P : (Try.prog.info? 2).map (fun i => (i.zero, i.size, i.bytes)) = some (some (.int .i64 0), 1, 8) := by kernel_rfl
/-- A way's number, out of its phases. -/
def valF (b : Nat) (F : List Nat) : Nat := F.foldl (fun s d => s * b + d) 0
theorem valF_go (b : Nat) : ∀ (F : List Nat) (s : Nat), F.foldl (fun s d => s * b + d) s = s * b ^ F.length + valF b F
  | [], s => by simp [valF]
  | d :: F, s => by
    have h1 := valF_go b F (s * b + d)
    have h2 := valF_go b F d
    unfold valF at h1 h2 ⊢
    simp only [List.foldl_cons, Nat.zero_mul, Nat.zero_add, List.length_cons]
    rw [h1, h2, Nat.pow_succ, Nat.add_mul, Nat.mul_assoc, Nat.mul_comm b, Nat.add_assoc]
theorem valF_digs {b : Nat} (hb : 0 < b) : ∀ k m, m < b ^ k → valF b (digs b k m) = m
  | 0, m, h => by
    have : m = 0 := by simpa using h
    subst this; rfl
  | k + 1, m, _ => by
    have hbk : 0 < b ^ k := Nat.pow_pos hb
    have ih := valF_digs hb k (m % b ^ k) (Nat.mod_lt _ hbk)
    show List.foldl _ _ _ = _
    simp only [digs, List.foldl_cons, Nat.zero_mul, Nat.zero_add]
    rw [valF_go, digs_len, ih, Nat.mul_comm]
    exact Nat.div_add_mod m (b ^ k)
theorem nxt_fin {b q : Nat} {F : List Nat} (h : (nxt b (F.drop q)).1 = true ∨ q = 0) : nxt b F = ((nxt b (F.drop q)).1, F.take q ++ (nxt b (F.drop q)).2) := by
  rcases h with h | rfl
  · rw [h]; exact nxt_split q F h
  · simp
theorem set_takeN {q y : Nat} {F R : List Nat} (hq : q < F.length) : (F.take (q + 1) ++ R).set q y = F.take q ++ y :: R := by
  rw [List.take_succ_eq_append_getElem hq, List.append_assoc, List.set_append_right _ _ (by rw [List.length_take]; omega), List.length_take, Nat.min_eq_left (by omega), Nat.sub_self]
  rfl
theorem set_takeM {q x y : Nat} {F R : List Nat} (hq : q ≤ F.length) : (F.take q ++ x :: R).set q y = F.take q ++ y :: R := by
  rw [List.set_append_right _ _ (by rw [List.length_take]; omega), List.length_take, Nat.min_eq_left hq, Nat.sub_self]
  rfl
/-- The phases that lie in a block. -/
def phasesAt (w : World) (g n : Nat) : List Nat := (List.range n).map fun i => match w.cell? ⟨g, i, none⟩ with
  | some (.int _ z) => z.toNat
  | _ => 0
theorem phasesAt_own {w : World} {B g n : Nat} {e : TypeId} {F : List Nat} (own : w.ownsRow B e 1 (.slice (some ⟨g, 0, none⟩) n n) n (nums F)) (hF : F.length = n) : phasesAt w g n = F := by
  subst hF
  apply List.ext_getElem
  · simp [phasesAt]
  · intro i h1 h2
    have := own.cellAt i (by omega)
    rw [nums_at h2] at this
    simp [phasesAt, this]

def phMeas (T b g P : Nat) (mv : Value) (w : World) : Nat := match mv with
  | .bool true => T + 1 - valF b (phasesAt w g P)
  | _ => 0
theorem phMeas_yes (T b g P : Nat) (w : World) : phMeas T b g P (.bool true) w = T + 1 - valF b (phasesAt w g P) := rfl
theorem phMeas_no (T b g P : Nat) (w : World) : phMeas T b g P (.bool false) w = 0 := rfl
section
variable {m T b P B g n x : Nat} {b0 : Bool} {L : List Nat} {wr : World} {t : TypeId} {D : List (List Nat)} {C : List Nat}
theorem ph_next (e : (decide (m + 1 < T), if m + 1 < T then digs b P (m + 1) else digs b P 0) = (b0, L)) (HS : Hid (cn .f32 x = sumP D C P n (m + 1))) (own : wr.ownsRow B t 1 (.slice (some ⟨g, 0, none⟩) P P) P (nums L)) (hm : m < T) :
    (∃ m', m' < T ∧ Value.bool b0 = .bool true ∧ Hid (cn .f32 x = sumP D C P n m') ∧ wr.ownsRow B t 1 (.slice (some ⟨g, 0, none⟩) P P) P (nums (digs b P m'))) ∨ (Value.bool b0 = .bool false ∧ Hid (cn .f32 x = sumP D C P n T)) := by
  simp only [Prod.mk.injEq] at e
  obtain ⟨e1, e2⟩ := e
  by_cases h : m + 1 < T
  · rw [if_pos h] at e2
    exact .inl ⟨m + 1, h, by rw [← e1, decide_eq_true h], HS, by rw [e2]; exact own⟩
  · exact .inr ⟨by rw [← e1, decide_eq_false h], by rw [show T = m + 1 by omega]; exact HS⟩
theorem ph_less (e : (decide (m + 1 < T), if m + 1 < T then digs b P (m + 1) else digs b P 0) = (b0, L)) (own : wr.ownsRow B t 1 (.slice (some ⟨g, 0, none⟩) P P) P (nums L)) (hb : 0 < b) (hT : T = b ^ P) (hm : m < T) : phMeas T b g P (.bool b0) wr < T + 1 - m := by
  simp only [Prod.mk.injEq] at e
  obtain ⟨e1, e2⟩ := e
  by_cases h : m + 1 < T
  · rw [if_pos h] at e2
    rw [← e1, decide_eq_true h, phMeas_yes]
    subst e2
    rw [phasesAt_own own (digs_len _ _ _), valF_digs hb P (m + 1) (by rw [← hT]; exact h)]
    omega
  · rw [← e1, decide_eq_false h, phMeas_no]; omega
end
set_option maxRecDepth 100000 in
set_option maxHeartbeats 8000000 in
theorem specPhasesChance_any (v u : Value) (ss : List Sy) (bs : List Nat) (w : World) (r : RdSy w v ss) (rb : RdF w u bs) :
    Calls Try.prog 38 #[v, u] w (NmPost (phO ss bs) w) := by
  have r' := r
  have rb' := rb
  obtain ⟨⟨-, a1, c1, rfl, p1, p2, -, -⟩, -⟩ := r
  obtain ⟨⟨-, a2, c2, rfl, -, -, -, -⟩, -⟩ := rb
  unfold maxLen at p2
  by_cases h1 : ss.length < 1
  · have HO : Hid (phO ss bs = none) := phO_no (by unfold phOk; simp; omega)
    have h1i : (ss.length : Int) < 1 := by omega
    go_enter Try.func38, Try.ntmps38
    go_wp2_with fail
    go_ret2
    unfold NmPost
    rw [HO.out]
    exact ⟨Ext.refl _, rfl⟩
  by_cases h3 : 3 < ss.length
  · have HO : Hid (phO ss bs = none) := phO_no (by unfold phOk; simp; omega)
    have h1i : ¬ (ss.length : Int) < 1 := by omega
    have h3i : (3 : Int) < (ss.length : Int) := by omega
    go_enter Try.func38, Try.ntmps38
    go_wp2_with fail
    go_ret2
    unfold NmPost
    rw [HO.out]
    exact ⟨Ext.refl _, rfl⟩
  have h1i : ¬ (ss.length : Int) < 1 := by omega
  have h3i : ¬ (3 : Int) < (ss.length : Int) := by omega
  have h0i : (0 : Int) < (ss.length : Int) := by omega
  have H0 : 0 < ss.length := by omega
  have HH := Lib.hid (phHead_at H0)
  obtain ⟨bb, oo, rfl, hbb, z0, -⟩ := r'.at H0
  rw [← HH.out, Nat.zero_mul, Nat.add_zero] at z0
  go_enter Try.func38, Try.ntmps38
  go_wp2_with fail
  clear z0 h1i h3i h0i
  go_loopw [35] (fun i wr => ∃ k : Nat, k ≤ ss.length ∧ i = .int .i64 k ∧ Hid (∀ j, (h : j < ss.length) → j < k → phRow (phHead ss) ss[j] = true) ∧ Ext w wr) (fun i _ => ss.length - (intOf i).toNat)
  case atStart => exact ⟨0, Nat.zero_le _, rfl, fun j _ h => absurd h (Nat.not_lt_zero _), Ext.refl _⟩
  case round =>
    obtain ⟨k, hk, rfl, HR, X⟩ := hrel
    by_cases hlt : k < ss.length
    · have hki : (k : Int) < (ss.length : Int) := by omega
      have HNO : Hid (phRow (phHead ss) ss[k] = false → phO ss bs = none) := fun h => phO_no (phOk_row hlt h)
      have HYES : Hid (phRow (phHead ss) ss[k] = true → ∀ j, (h : j < ss.length) → j < k + 1 → phRow (phHead ss) ss[j] = true) := fun h j hj hjk => by
        by_cases e : j = k
        · subst e; exact h
        · exact HR.out j hj (by omega)
      have HROW : Hid (phRow (phHead ss) ss[k] = (sysB ss[k].parts ss[k].zs && (decide (ss[k].parts = phHead ss) && decide (ss[k].parts ≤ 6)))) := rfl
      obtain ⟨_, _, e0, -, m0, m1⟩ := (r'.ext X).at hlt
      cases e0
      have hok : RdI _ ss[k].kv ss[k].zs := (r'.ext X).2 _ (List.getElem_mem hlt)
      have hbw : bb < wr.heap.size := Nat.lt_of_lt_of_le hbb X.size
      generalize ss[k] = sy at *
      obtain ⟨pt, kv, zs⟩ := sy
      simp only at *
      have HIS := Lib.hid (l03Is_at pt kv zs bb (oo + k * 2) wr ⟨hbw, m0, m1⟩ hok)
      have HM : Hid (∀ W, Ext wr W → W.cell? ⟨bb, oo + k * 2, none⟩ = some (.int .i64 pt)) := fun W x => (Below.cell x (p := ⟨bb, oo + k * 2, none⟩) hbw).trans m0
      generalize phHead ss = p at *
      clear m0 m1 hok
      go_wp2_with fail
      refine HIS.out.mono ?_
      rintro e w1 ⟨rfl, hx⟩
      have m0 := HM.out w1 hx
      cases hv : sysB pt zs
      · have HNO2 := Lib.hid (HNO.out (by rw [HROW.out, hv]; rfl))
        clear hv
        go_wp2_with fail
        go_ret2
        unfold NmPost
        rw [HNO2.out]
        exact ⟨X.trans hx, rfl⟩
      · rw [hv, Bool.true_and] at HROW
        clear hv
        by_cases hpt : pt = p
        · subst hpt
          simp only [decide_true, Bool.true_and] at HROW
          by_cases h6 : (6 : Int) < pt
          · have HNO2 := Lib.hid (HNO.out (by rw [HROW.out]; simp; omega))
            go_wp2_with fail
            go_ret2
            unfold NmPost
            rw [HNO2.out]
            exact ⟨X.trans hx, rfl⟩
          · have HYES2 := Lib.hid (HYES.out (by rw [HROW.out]; simp; omega))
            go_wp2_with fail
            go_roundw
            case rel => exact ⟨k + 1, by omega, by go_num, HYES2, X.trans hx⟩
            case measure => simp [intOf]; omega
        · have HNO2 := Lib.hid (HNO.out (by rw [HROW.out]; simp [hpt]))
          go_wp2_with fail
          go_ret2
          unfold NmPost
          rw [HNO2.out]
          exact ⟨X.trans hx, rfl⟩
    · obtain hkn : k = ss.length := by omega
      have G : PhG ss bs (phHead ss).toNat ss.length := phG_of (by omega) (by omega) fun i hi => HR.out i hi (by omega)
      have HALL : Hid (phOk ss bs = chancesB bs (phHead ss * ss.length)) := by
        show _ = _
        have h1 : ss.all (phRow (phHead ss)) = true := by
          rw [List.all_eq_true]
          intro s hs
          obtain ⟨i, hi, rfl⟩ := List.getElem_of_mem hs
          exact HR.out i hi (by omega)
        unfold phOk
        rw [h1, show decide (1 ≤ ss.length) = true by simp; omega, show decide (ss.length ≤ 3) = true by simp; omega]
        rfl
      have HDO : Hid (phO ss bs = if phOk ss bs then some (sumP (dn ss) (bs.map (cn .f32)) (phHead ss).toNat ss.length ((ss.length + 1) ^ (phHead ss).toNat)) else none) := rfl
      rw [HALL.out] at HDO
      clear HR HALL HH
      obtain ⟨gn, hsn, gP, hp, hss⟩ := G
      generalize phHead ss = p at *
      generalize hPP : p.toNat = P at *
      subst hp
      clear hPP
      subst hkn
      have GSS := Lib.hid hss
      clear hss hsn
      have hPn : (ss.length : Int) * (P : Int) = ((ss.length * P : Nat) : Int) := by exact_mod_cast rfl
      have hle : ss.length * P ≤ 3 * 6 := Nat.mul_le_mul gn.2 gP.2
      have hw1 : IntKind.i64.wrap ((ss.length : Int) * (P : Int)) = ((ss.length * P : Nat) : Int) := by rw [hPn]; exact wrap_nat _ (by omega)
      rw [Int.mul_comm, hPn] at HDO
      generalize hkP : ss.length * P = kP at *
      clear hPn
      have HCH := Lib.hid (l03Chances_any _ bs kP wr (rb'.ext X))
      generalize hch : chancesB bs kP = ch at *
      go_wp2_with fail
      refine HCH.out.mono ?_
      rintro e w4 ⟨rfl, rfl⟩
      cases ch
      · have HNO : Hid (phO ss bs = none) := HDO.out
        clear hch
        go_wp2_with fail
        go_ret2
        unfold NmPost
        rw [HNO.out]
        exact ⟨X, rfl⟩
      · have HYES : Hid (phO ss bs = some (sumP (dn ss) (bs.map (cn .f32)) P ss.length ((ss.length + 1) ^ P))) := HDO.out
        have hbl : bs.length = ss.length * P := by
          simp only [chancesB, Bool.and_eq_true, decide_eq_true_eq] at hch
          have := hch.2
          rw [hkP]; omega
        have HBL := Lib.hid hbl
        clear hch hbl HDO HCH hw1
        obtain ⟨i0, hi0, hz0, hz1, hz2⟩ := info_parts infoI64P
        have hP6 : (P : Int) ≤ 6 := by omega
        have hP0 : ¬ (P : Int) < 0 := by omega
        go_wp2_with (at_make; refine wpList_make_full _ rfl _ _ 25 rfl wr.heap.size 2 i0 (.int .i64 0) 1 Try.underlying25 hi0 hz0 hz1 _ _ _ _ P rfl rfl rfl rfl ?c1 ?c2 ?c3 ?_)
        case c1 => first | omega | (rw [hz2]; omega)
        case c2 => unfold maxLen; omega
        case c3 => exact Nat.le_refl _
        intro w6 hown hg
        rw [toList_madeCells_one] at hown
        have X6 : Ext wr w6 := (Ext.refl _).grown hg (Nat.le_refl _) (fun _ h => by cases h)
        have own0 : w6.ownsRow wr.heap.size 2 1 (.slice (some ⟨wr.heap.size, 0, none⟩) P P) P (nums (digs (ss.length + 1) P 0)) := by
          have : nums (digs (ss.length + 1) P 0) = List.replicate P (Value.int .i64 0) := by rw [digs_zero]; unfold nums; rw [List.map_replicate]; rfl
          rw [this]; simpa using hown
        have Y6 := X.trans X6
        clear hown hg hi0 hz0 hz1 hz2
        obtain ⟨g, hgg⟩ : ∃ g, g = wr.heap.size := ⟨_, rfl⟩
        rw [← hgg] at own0 ⊢
        have hgw : w.heap.size ≤ g := by rw [hgg]; exact X.size
        clear hgg X6
        obtain ⟨n, hn⟩ : ∃ n, n = ss.length := ⟨_, rfl⟩
        obtain ⟨T, hT⟩ : ∃ T, T = (n + 1) ^ P := ⟨_, rfl⟩
        have hT0 : 0 < T := hT ▸ Nat.pow_pos (Nat.succ_pos _)
        rw [← hn] at own0 HYES
        rw [← hT] at HYES
        replace own0 := World.ownsRow.mono own0 hgw
        clear X
        obtain ⟨we, rfl⟩ : ∃ we : World, we = wr := ⟨_, rfl⟩
        have hsn := hn.symm
        have HBL2 : Hid (bs.length = n * P) := by show _ = _; rw [HBL.out, hn]
        rw [← hn] at gn r'
        have hn3 : n ≤ 3 := gn.2
        go_wp2_with fail
        rw [← hn]
        replace hsn := Lib.hid hsn
        replace hT := Lib.hid hT
        clear hn
        go_loopw [11, 10] (fun mv sv wr => ∃ x : Nat, sv = .float .f32 x ∧ Hid (x < 4294967296) ∧ Ext w wr ∧ ((∃ m : Nat, m < T ∧ mv = .bool true ∧ Hid (cn .f32 x = sumP (dn ss) (bs.map (cn .f32)) P n m) ∧ wr.ownsRow w.heap.size 2 1 (.slice (some ⟨g, 0, none⟩) P P) P (nums (digs (n + 1) P m))) ∨ (mv = .bool false ∧ Hid (cn .f32 x = sumP (dn ss) (bs.map (cn .f32)) P n T))))
          (fun mv _ wr => phMeas T (n + 1) g P mv wr)
        case atStart => exact ⟨0, rfl, (by show (0 : Nat) < _; decide), Y6, .inl ⟨0, hT0, rfl, rfl, own0⟩⟩
        case round =>
          clear own0
          obtain ⟨x0, rfl, HX0, Y, hcase⟩ := hrel
          rcases hcase with ⟨m, hm, rfl, HS, own⟩ | ⟨rfl, HS⟩
          · have hFl := digs_len (n + 1) P m
            have hlt := digs_lt (show 0 < n + 1 by omega) P m (by rw [← hT.out]; exact hm)
            have HVAL : Hid (valF (n + 1) (phasesAt wr g P) = m) := by
              show _ = _
              rw [phasesAt_own own hFl, valF_digs (by omega) P m (by rw [← hT.out]; exact hm)]
            have HNX := Lib.hid (nxt_digs (show 0 < n + 1 by omega) P m (by rw [← hT.out]; exact hm))
            rw [← hT.out] at HNX
            have HDEF : Hid (sumP (dn ss) (bs.map (cn .f32)) P n (m + 1) = if okK (dn ss) P (digs (n + 1) P m) n then fop .add .f32 (sumP (dn ss) (bs.map (cn .f32)) P n m) (prA (bs.map (cn .f32)) P n (digs (n + 1) P m) P) else sumP (dn ss) (bs.map (cn .f32)) P n m) := rfl
            generalize hF : digs (n + 1) P m = F at *
            have HLT : Hid (∀ i, (h : i < F.length) → F[i] ≤ n) := fun i h => by have := hlt _ (List.getElem_mem h); omega
            have HFL := Lib.hid hFl
            have hg2 := (own.lt g rfl).2
            clear hlt hF
            obtain ⟨w7, rfl⟩ : ∃ w7 : World, w7 = wr := ⟨_, rfl⟩
            go_wp2_with fail
            go_loopw [13, 12] (fun tv ov wr => ∃ t : Nat, t ≤ n ∧ tv = .int .i64 t ∧ ov = .bool (okK (dn ss) P F t) ∧ Ext w7 wr) (fun tv _ _ => n - (intOf tv).toNat)
            case atStart => exact ⟨0, Nat.zero_le _, rfl, rfl, Ext.refl _⟩
            case round =>
              obtain ⟨t, ht, rfl, rfl, Z⟩ := hrel
              by_cases htn : t < n
              · have hts : t < ss.length := by rw [hsn.out]; exact htn
                obtain ⟨_, _, e0, -, m0, m1⟩ := (r'.ext (Y.trans Z)).at hts
                cases e0
                have hok : RdI _ ss[t].kv ss[t].zs := (r'.ext (Y.trans Z)).2 _ (List.getElem_mem hts)
                obtain ⟨hsn1, hsn2⟩ := GSS.out _ (List.getElem_mem hts)
                have HDN : Hid ((dn ss).getD t [] = downs ss[t].zs) := dn_at hts
                have hbw : bb < wr.heap.size := Nat.lt_of_lt_of_le hbb (Y.trans Z).size
                have HOK1 : Hid (okK (dn ss) P F (t + 1) = (okK (dn ss) P F t && worksB ((dn ss).getD t []) (setK F t P))) := okK_succ _ _ _ _
                rw [HDN.out] at HOK1
                generalize ss[t] = sy at *
                obtain ⟨pt, kv, zs⟩ := sy
                simp only at *
                have HWK := Lib.hid (fun (s : Nat) (hs : s < 9223372036854775808) W (x : Ext wr W) => l03Works_at pt s kv (downs zs) bb (oo + t * 2) W (By.ext ⟨hbw, m0, m1⟩ x) ((show RdI wr kv (ups (downs zs)) by rw [← hsn2]; exact hok).ext x) (fun z hz => by have := hsn1.small z hz; omega) hs)
                have hti : (t : Int) < (n : Int) := by omega
                clear m0 m1 hok hsn1 hsn2 HDN
                obtain ⟨w8, rfl⟩ : ∃ w8 : World, w8 = wr := ⟨_, rfl⟩
                generalize hokb : okK (dn ss) P F t = okb at *
                clear hokb
                go_wp2_with fail
                go_loopw [73, 14] (fun i q wr => ∃ j : Nat, j ≤ P ∧ i = .int .i64 j ∧ q = .int .i64 (setK F t j : Nat) ∧ Ext w8 wr) (fun i _ _ => P - (intOf i).toNat)
                case atStart => exact ⟨0, Nat.zero_le _, rfl, rfl, Ext.refl _⟩
                case round =>
                  obtain ⟨j, hj, rfl, rfl, V⟩ := hrel
                  have hj6 : 2 ^ j ≤ 64 := by
                    have : j = 0 ∨ j = 1 ∨ j = 2 ∨ j = 3 ∨ j = 4 ∨ j = 5 ∨ j = 6 := by omega
                    rcases this with h | h | h | h | h | h | h <;> subst h <;> decide
                  have hs := setK_lt F t j
                  by_cases hjP : j < P
                  · have hjF : j < F.length := by omega
                    have own2 := own_ext' own (Z.trans V)
                    have hc0 := own2.cellAt j (by omega)
                    rw [nums_at hjF] at hc0
                    have hg3 := (own2.lt g rfl).2
                    have hji : (j : Int) < (P : Int) := by omega
                    have hj64 : (j : Int) < 64 := by omega
                    have hjw : (BitVec.ofInt 64 (j : Int)).toNat = j := ofInt_nat j (by omega)
                    have hSD : Hid (setK F t (j + 1) = setK F t j + (if t < F.getD j 0 then 2 ^ j else 0)) := rfl
                    have hgd : F.getD j 0 = F[j] := by simp [hjF]
                    rw [hgd] at hSD
                    obtain ⟨s2, hs2⟩ : ∃ s2, s2 = setK F t j + 2 ^ j := ⟨_, rfl⟩
                    have hpw : (2 : Int) ^ j = ((2 ^ j : Nat) : Int) := by exact_mod_cast rfl
                    have hor : IntKind.i64.wrap (((setK F t j : Nat) : Int) + 2 ^ j) = (s2 : Int) := by
                      rw [hpw, show ((setK F t j : Nat) : Int) + ((2 ^ j : Nat) : Int) = ((setK F t j + 2 ^ j : Nat) : Int) by omega, ← hs2]; exact wrap_nat _ (by omega)
                    have hw2 : IntKind.i64.wrap ((2 : Int) ^ j) = (2 : Int) ^ j := by
                      rw [hpw]; exact wrap_nat _ (by omega)
                    clear own2 hgd hs hj6 hpw
                    generalize setK F t j = s1 at *
                    generalize F[j] = d at *
                    by_cases htd : t < d
                    · have htd2 : (t : Int) < (d : Int) := by omega
                      have hSE : Hid (setK F t (j + 1) = s2) := by show _ = _; rw [hSD.out, if_pos htd, hs2]
                      clear htd hs2
                      go_wp2_with fail
                      go_roundw
                      case rel => exact ⟨j + 1, by omega, by go_num, by rw [hSE.out], V⟩
                      case measure => simp [intOf]; omega
                    · have htd2 : ¬ (t : Int) < (d : Int) := by omega
                      have hSE : Hid (setK F t (j + 1) = s1) := by show _ = _; rw [hSD.out, if_neg htd, Nat.add_zero]
                      clear htd hs2
                      go_wp2_with fail
                      go_roundw
                      case rel => exact ⟨j + 1, by omega, by go_num, by rw [hSE.out], V⟩
                      case measure => simp [intOf]; omega
                  · obtain rfl : j = P := by omega
                    have HW := Lib.hid (HWK.out (setK F t j) (by omega))
                    generalize hwb : worksB (downs zs) (setK F t j) = wb at *
                    generalize setK F t j = sj at *
                    clear hwb hs hj6
                    cases okb
                    · have HOK2 : Hid (okK (dn ss) j F (t + 1) = false) := HOK1.out
                      go_wp2_with fail
                      go_roundw
                      case rel => exact ⟨t + 1, by omega, by go_num, by rw [HOK2.out], Z.trans V⟩
                      case measure => simp [intOf]; omega
                    · have HOK2 : Hid (okK (dn ss) j F (t + 1) = wb) := HOK1.out
                      go_wp2_with fail
                      refine (HW.out _ V).mono ?_
                      rintro e w9 ⟨rfl, hx⟩
                      go_wp2_with fail
                      go_roundw
                      case rel => exact ⟨t + 1, by omega, by go_num, by rw [HOK2.out], (Z.trans V).trans hx⟩
                      case measure => simp [intOf]; omega
              · obtain rfl : t = n := by omega
                have HOKN : Hid (okK (dn ss) P F t = okK (dn ss) P F t) := rfl
                generalize hokb : okK (dn ss) P F t = okb at *
                cases okb
                · have HS1 : Hid (cn .f32 x0 = sumP (dn ss) (bs.map (cn .f32)) P t (m + 1)) := by
                    show _ = _; rw [HDEF.out, HS.out]; rfl
                  clear hokb HOKN HDEF
                  obtain ⟨wt, rfl⟩ : ∃ wt : World, wt = wr := ⟨_, rfl⟩
                  have ownT := own_ext' own Z
                  have YT := Y.trans Z
                  have hPs : IntKind.i64.wrap ((P : Int) - 1) = (P : Int) - 1 := IntWalk.i64_in _ (by omega)
                  go_wp2_with fail
                  go_loopw [20, 11] (fun pv mv wr => ∃ q : Nat, q ≤ P ∧ pv = .int .i64 ((q : Int) - 1) ∧ mv = .bool (nxt (t + 1) (F.drop q)).1 ∧ wr.ownsRow w.heap.size 2 1 (.slice (some ⟨g, 0, none⟩) P P) P (nums (F.take q ++ (nxt (t + 1) (F.drop q)).2)) ∧ Ext w wr) (fun pv _ _ => (intOf pv + 1).toNat)
                  case atStart =>
                    refine ⟨P, Nat.le_refl _, rfl, ?_, ?_, YT⟩
                    · rw [List.drop_of_length_le (by rw [HFL.out]; exact Nat.le_refl _)]; rfl
                    · rw [List.drop_of_length_le (by rw [HFL.out]; exact Nat.le_refl _), List.take_of_length_le (by rw [HFL.out]; exact Nat.le_refl _)]
                      show World.ownsRow _ _ _ _ _ _ (nums (F ++ []))
                      rw [List.append_nil]; exact ownT
                  case round =>
                    clear ownT YT
                    obtain ⟨q, hq, rfl, rfl, ownQ, YQ⟩ := hrel
                    by_cases hq0 : q = 0
                    · subst hq0
                      have e := nxt_fin (b := t + 1) (F := F) (q := 0) (.inr rfl)
                      rw [HNX.out] at e
                      generalize hb0 : (nxt (t + 1) (F.drop 0)).1 = b0 at *
                      have HE := Lib.hid e
                      clear e hb0
                      go_wp2_with fail
                      go_roundw
                      case rel => exact ⟨x0, rfl, HX0, YQ, ph_next HE.out HS1 ownQ (by omega)⟩
                      case measure =>
                        conv => rhs; rw [phMeas_yes, HVAL.out]
                        exact ph_less HE.out ownQ (Nat.succ_pos _) hT.out hm
                    · have hq0i : (0 : Int) ≤ (q : Int) - 1 := by omega
                      cases hnx : (nxt (t + 1) (F.drop q)).1
                      · obtain ⟨q', rfl⟩ : ∃ q', q = q' + 1 := ⟨q - 1, by omega⟩
                        have hqF : q' < F.length := by rw [HFL.out]; omega
                        have hstep := Lib.hid (nxt_step hqF hnx)
                        have hLl : (F.take (q' + 1) ++ (nxt (t + 1) (F.drop (q' + 1))).2).length = P := by
                          rw [List.length_append, List.length_take, nxt_len, List.length_drop, HFL.out]; omega
                        have hLq : (F.take (q' + 1) ++ (nxt (t + 1) (F.drop (q' + 1))).2)[q']'(by rw [hLl]; omega) = F[q'] := by
                          rw [List.getElem_append_left (by rw [List.length_take]; omega), List.getElem_take]
                        have hc := ownQ.cellAt q' (by omega)
                        rw [nums_at (by rw [hLl]; omega), hLq] at hc
                        have hf := ownQ.frozenAt q'
                        have hgQ := (ownQ.lt g rfl).2
                        have hS1 : ∀ (y : Nat), (wr.setCell ⟨g, q', none⟩ (.int .i64 (y : Int))).ownsRow w.heap.size 2 1 (.slice (some ⟨g, 0, none⟩) P P) P (nums (F.take q' ++ y :: (nxt (t + 1) (F.drop (q' + 1))).2)) := fun y => by have := (ownQ.stored q' (.int .i64 (y : Int))).1; rw [nums_set, set_takeN hqF] at this; exact this
                        have HS1 := Lib.hid hS1
                        have hqi : ((q' + 1 : Nat) : Int) - 1 = (q' : Int) := by omega
                        have hqw : IntKind.i64.wrap ((q' : Int) - 1) = (q' : Int) - 1 := IntWalk.i64_in _ (by omega)
                        have hqP : (q' : Int) < (P : Int) := by omega
                        have hdn := HLT.out q' hqF
                        generalize F[q'] = d at *
                        have hdw : IntKind.i64.wrap ((d : Int) + 1) = (d : Int) + 1 := IntWalk.i64_in _ (by omega)
                        have HS0 := HS1.out (d + 1)
                        rw [show ((d + 1 : Nat) : Int) = (d : Int) + 1 from rfl] at HS0
                        replace HS0 := Lib.hid HS0
                        rw [hqi]
                        clear hLq hLl hS1 hqi
                        by_cases hdt : d + 1 ≤ t
                        · have hdt2 : (d : Int) + 1 ≤ (t : Int) := by omega
                          go_wp2_with fail
                          go_roundw
                          case rel => exact ⟨q', by omega, by go_num, by rw [hstep.out]; simp; omega, by rw [hstep.out, if_pos (by omega)]; exact HS0.out, YQ.setCell hgw _⟩
                          case measure => simp [intOf]
                        · have hdt2 : ¬ (d : Int) + 1 ≤ (t : Int) := by omega
                          have HS2 := Lib.hid (World.ownsRow.stored HS0.out q' (.int .i64 ((0 : Nat) : Int))).1
                          go_wp2_with fail
                          go_roundw
                          case rel => exact ⟨q', by omega, by go_num, by rw [hstep.out]; simp; omega, by rw [hstep.out, if_neg (by omega)]; have := HS2.out; rw [nums_set, set_takeM (by rw [HFL.out]; omega)] at this; exact this, (YQ.setCell hgw _).setCell hgw _⟩
                          case measure => simp [intOf]
                      · have e := nxt_fin (b := t + 1) (F := F) (q := q) (.inl hnx)
                        rw [HNX.out, hnx] at e
                        have HE := Lib.hid e
                        clear e hnx
                        go_wp2_with fail
                        go_roundw
                        case rel => exact ⟨x0, rfl, HX0, YQ, ph_next HE.out HS1 ownQ (by omega)⟩
                        case measure =>
                          conv => rhs; rw [phMeas_yes, HVAL.out]
                          exact ph_less HE.out ownQ (Nat.succ_pos _) hT.out hm
                · have HDEF2 : Hid (sumP (dn ss) (bs.map (cn .f32)) P t (m + 1) = fop .add .f32 (sumP (dn ss) (bs.map (cn .f32)) P t m) (prA (bs.map (cn .f32)) P t F P)) := by
                    show _ = _; rw [HDEF.out]; rfl
                  clear hokb HOKN HDEF
                  obtain ⟨w9, rfl⟩ : ∃ w9 : World, w9 = wr := ⟨_, rfl⟩
                  go_wp2_with fail
                  go_loopw [99, 16] (fun i p wr => ∃ (j x : Nat), j ≤ P ∧ i = .int .i64 j ∧ p = .float .f32 x ∧ Hid (cn .f32 x = prA (bs.map (cn .f32)) P t F j) ∧ Hid (x < 4294967296) ∧ Ext w9 wr) (fun i _ _ => P - (intOf i).toNat)
                  case atStart => exact ⟨0, 1065353216, Nat.zero_le _, rfl, rfl, rfl, (by show (1065353216 : Nat) < _; decide), Ext.refl _⟩
                  case round =>
                    obtain ⟨j, x, hj, rfl, rfl, HX, HXB, V⟩ := hrel
                    by_cases hjP : j < P
                    · have hjF : j < F.length := by rw [HFL.out]; exact hjP
                      have hji : (j : Int) < (P : Int) := by omega
                      have HDA : Hid (prA (bs.map (cn .f32)) P t F (j + 1) = prT (prA (bs.map (cn .f32)) P t F j) (bs.map (cn .f32)) P j (F.getD j 0) (min t (F.getD j 0 + 1))) := rfl
                      have hgd : F.getD j 0 = F[j] := by simp [hjF]
                      rw [hgd] at HDA
                      have hdn := HLT.out j hjF
                      have HC : Hid (∀ W, Ext w9 W → g < W.heap.size ∧ W.cell? ⟨g, j, none⟩ = some (.int .i64 (F[j] : Int))) := fun W x => by
                        have own2 := own_ext' own (Z.trans x)
                        have hc0 := own2.cellAt j (by omega)
                        rw [nums_at hjF] at hc0
                        exact ⟨(own2.lt g rfl).2, by simpa using hc0⟩
                      generalize F[j] = d at *
                      clear hgd
                      obtain ⟨wo, rfl⟩ : ∃ wo : World, wo = wr := ⟨_, rfl⟩
                      go_wp2_with fail
                      go_loopw [18, 16] (fun i p wr => ∃ (s y : Nat), s ≤ t ∧ s ≤ d + 1 ∧ i = .int .i64 s ∧ p = .float .f32 y ∧ Hid (cn .f32 y = prT (prA (bs.map (cn .f32)) P t F j) (bs.map (cn .f32)) P j d s) ∧ Hid (y < 4294967296) ∧ Ext wo wr) (fun i _ _ => t - (intOf i).toNat)
                      case atStart => exact ⟨0, x, Nat.zero_le _, Nat.zero_le _, rfl, rfl, HX, HXB, Ext.refl _⟩
                      case round =>
                        obtain ⟨s, y, hst, hsd, rfl, rfl, HY, HYB, U⟩ := hrel
                        obtain ⟨hgw2, hc0⟩ := HC.out wr (V.trans U)
                        by_cases hlt : s < t
                        · by_cases hle : s ≤ d
                          · have hix : s * P + j < bs.length := by
                              rw [HBL2.out]
                              have : (s + 1) * P ≤ t * P := Nat.mul_le_mul_right P hlt
                              rw [Nat.succ_mul] at this; omega
                            have hix2 : s * P + j < 18 := by
                              have h1 : t * P ≤ 3 * 6 := Nat.mul_le_mul hn3 gP.2
                              have h2 := HBL2.out
                              omega
                            have hm2 : (s : Int) * (P : Int) = ((s * P : Nat) : Int) := by exact_mod_cast rfl
                            have hw1 : IntKind.i64.wrap ((s : Int) * (P : Int)) = ((s * P : Nat) : Int) := by rw [hm2]; exact wrap_nat _ (by omega)
                            obtain ⟨ix, hixd⟩ : ∃ ix, ix = s * P + j := ⟨_, rfl⟩
                            have hw3 : IntKind.i64.wrap (((s * P : Nat) : Int) + (j : Int)) = (ix : Int) := by rw [hixd, show ((s * P : Nat) : Int) + (j : Int) = ((s * P + j : Nat) : Int) by omega]; exact wrap_nat _ (by omega)
                            rw [← hixd] at hix hix2
                            obtain ⟨b2, o2, e2, hb2, hc2⟩ := RdF.at (rb'.ext (((Y.trans Z).trans V).trans U)) hix
                            subst e2
                            have hixi : (ix : Int) < (bs.length : Int) := by omega
                            have HCX : Hid ((bs.map (cn .f32)).getD (s * P + j) 0 = cn .f32 bs[ix]) := by show _ = _; rw [← hixd]; simp [hix]
                            have HPT : Hid (prT (prA (bs.map (cn .f32)) P t F j) (bs.map (cn .f32)) P j d (s + 1) = fop .mul .f32 (prT (prA (bs.map (cn .f32)) P t F j) (bs.map (cn .f32)) P j d s) (if s < d then fop .sub .f32 oneF ((bs.map (cn .f32)).getD (s * P + j) 0) else (bs.map (cn .f32)).getD (s * P + j) 0)) := rfl
                            rw [HCX.out] at HPT
                            generalize bs[ix] = c at *
                            generalize hsp : s * P = sp at *
                            clear hsp hm2 hixd
                            have hsti : (s : Int) < (t : Int) := by omega
                            by_cases hsd2 : s = d
                            · have HPE : Hid (prT (prA (bs.map (cn .f32)) P t F j) (bs.map (cn .f32)) P j d (s + 1) = fop .mul .f32 (prT (prA (bs.map (cn .f32)) P t F j) (bs.map (cn .f32)) P j d s) (cn .f32 c)) := by
                                show _ = _
                                rw [HPT.out, if_neg (by omega)]
                              clear HPT
                              subst hsd2
                              go_wp2_with (refine wpList_fop rfl rfl rfl rfl rfl ?_; intro fb nf hfb hfl; replace hfb := Lib.hid hfb; replace hfl := Lib.hid hfl)
                              go_roundw
                              case rel =>
                                refine ⟨s + 1, fb, by omega, by omega, by go_num, rfl, ?_, hfl, U.trans (Ext.drewN _ _)⟩
                                show _ = _; rw [HPE.out, hfb.out, HY.out]
                              case measure => simp [intOf]; omega
                            · have HPE : Hid (prT (prA (bs.map (cn .f32)) P t F j) (bs.map (cn .f32)) P j d (s + 1) = fop .mul .f32 (prT (prA (bs.map (cn .f32)) P t F j) (bs.map (cn .f32)) P j d s) (fop .sub .f32 oneF (cn .f32 c))) := by
                                show _ = _
                                rw [HPT.out, if_pos (by omega)]
                              have hsd3 : (s : Int) < (d : Int) := by omega
                              have hsd5 : (s : Int) ≤ (d : Int) := by omega
                              have hsd4 : s < d := by omega
                              clear HPT hsd2
                              go_wp2_with (refine wpList_fop rfl rfl rfl rfl rfl ?_; intro fb nf hfb hfl; replace hfb := Lib.hid hfb; replace hfl := Lib.hid hfl)
                              rename_i m1 n1 e1 l1
                              go_roundw
                              case rel =>
                                refine ⟨s + 1, fb, by omega, by omega, by go_num, rfl, ?_, hfl, U.trans (Ext.drewN _ _)⟩
                                show _ = _; rw [HPE.out, hfb.out, e1.out, HY.out]; rfl
                              case measure => simp [intOf]; omega
                          · have hsti : (s : Int) < (t : Int) := by omega
                            have hsdi : ¬ (s : Int) ≤ (d : Int) := by omega
                            have HPE : Hid (prA (bs.map (cn .f32)) P t F (j + 1) = prT (prA (bs.map (cn .f32)) P t F j) (bs.map (cn .f32)) P j d s) := by
                              show _ = _
                              rw [HDA.out, show min t (d + 1) = s by omega]
                            go_wp2_with fail
                            go_roundw
                            case rel =>
                              refine ⟨j + 1, y, by omega, by go_num, rfl, ?_, HYB, V.trans U⟩
                              show _ = _; rw [HPE.out, HY.out]
                            case measure => simp [intOf]; omega
                        · obtain rfl : s = t := by omega
                          have HPE : Hid (prA (bs.map (cn .f32)) P s F (j + 1) = prT (prA (bs.map (cn .f32)) P s F j) (bs.map (cn .f32)) P j d s) := by
                            show _ = _
                            rw [HDA.out, show min s (d + 1) = s by omega]
                          clear hc0 hgw2
                          go_wp2_with fail
                          go_roundw
                          case rel =>
                            refine ⟨j + 1, y, by omega, by go_num, rfl, ?_, HYB, V.trans U⟩
                            show _ = _; rw [HPE.out, HY.out]
                          case measure => simp [intOf]; omega
                    · obtain rfl : j = P := by omega
                      have hPs : IntKind.i64.wrap ((j : Int) - 1) = (j : Int) - 1 := IntWalk.i64_in _ (by omega)
                      go_wp2_with (refine wpList_fop rfl rfl rfl rfl rfl ?_; intro fb nf hfb hfl; replace hfb := Lib.hid hfb; replace hfl := Lib.hid hfl)
                      have HS1 : Hid (cn .f32 fb = sumP (dn ss) (bs.map (cn .f32)) j t (m + 1)) := by
                        show _ = _; rw [HDEF2.out, hfb.out, HS.out, HX.out]
                      have ZT : Ext w7 _ := (Z.trans V).trans (Ext.drewN wr nf)
                      have ownT := own_ext' own ZT
                      have YT := Y.trans ZT
                      clear hfb HDEF2
                      go_loopw [20, 11] (fun pv mv wr => ∃ q : Nat, q ≤ j ∧ pv = .int .i64 ((q : Int) - 1) ∧ mv = .bool (nxt (t + 1) (F.drop q)).1 ∧ wr.ownsRow w.heap.size 2 1 (.slice (some ⟨g, 0, none⟩) j j) j (nums (F.take q ++ (nxt (t + 1) (F.drop q)).2)) ∧ Ext w wr) (fun pv _ _ => (intOf pv + 1).toNat)
                      case atStart =>
                        refine ⟨j, Nat.le_refl _, rfl, ?_, ?_, YT⟩
                        · rw [List.drop_of_length_le (by rw [HFL.out]; exact Nat.le_refl _)]; rfl
                        · rw [List.drop_of_length_le (by rw [HFL.out]; exact Nat.le_refl _), List.take_of_length_le (by rw [HFL.out]; exact Nat.le_refl _)]
                          show World.ownsRow _ _ _ _ _ _ (nums (F ++ []))
                          rw [List.append_nil]; exact ownT
                      case round =>
                        clear ownT YT
                        obtain ⟨q, hq, rfl, rfl, ownQ, YQ⟩ := hrel
                        by_cases hq0 : q = 0
                        · subst hq0
                          have e := nxt_fin (b := t + 1) (F := F) (q := 0) (.inr rfl)
                          rw [HNX.out] at e
                          generalize hb0 : (nxt (t + 1) (F.drop 0)).1 = b0 at *
                          have HE := Lib.hid e
                          clear e hb0
                          go_wp2_with fail
                          go_roundw
                          case rel => exact ⟨fb, rfl, hfl, YQ, ph_next HE.out HS1 ownQ (by omega)⟩
                          case measure =>
                            conv => rhs; rw [phMeas_yes, HVAL.out]
                            exact ph_less HE.out ownQ (Nat.succ_pos _) hT.out hm
                        · have hq0i : (0 : Int) ≤ (q : Int) - 1 := by omega
                          cases hnx : (nxt (t + 1) (F.drop q)).1
                          · obtain ⟨q', rfl⟩ : ∃ q', q = q' + 1 := ⟨q - 1, by omega⟩
                            have hqF : q' < F.length := by rw [HFL.out]; omega
                            have hstep := Lib.hid (nxt_step hqF hnx)
                            have hLl : (F.take (q' + 1) ++ (nxt (t + 1) (F.drop (q' + 1))).2).length = j := by
                              rw [List.length_append, List.length_take, nxt_len, List.length_drop, HFL.out]; omega
                            have hLq : (F.take (q' + 1) ++ (nxt (t + 1) (F.drop (q' + 1))).2)[q']'(by rw [hLl]; omega) = F[q'] := by
                              rw [List.getElem_append_left (by rw [List.length_take]; omega), List.getElem_take]
                            have hc := ownQ.cellAt q' (by omega)
                            rw [nums_at (by rw [hLl]; omega), hLq] at hc
                            have hf := ownQ.frozenAt q'
                            have hgQ := (ownQ.lt g rfl).2
                            have hS1 : ∀ (y : Nat), (wr.setCell ⟨g, q', none⟩ (.int .i64 (y : Int))).ownsRow w.heap.size 2 1 (.slice (some ⟨g, 0, none⟩) j j) j (nums (F.take q' ++ y :: (nxt (t + 1) (F.drop (q' + 1))).2)) := fun y => by have := (ownQ.stored q' (.int .i64 (y : Int))).1; rw [nums_set, set_takeN hqF] at this; exact this
                            have HS1 := Lib.hid hS1
                            have hqi : ((q' + 1 : Nat) : Int) - 1 = (q' : Int) := by omega
                            have hqw : IntKind.i64.wrap ((q' : Int) - 1) = (q' : Int) - 1 := IntWalk.i64_in _ (by omega)
                            have hqP : (q' : Int) < (j : Int) := by omega
                            have hdn := HLT.out q' hqF
                            generalize F[q'] = d at *
                            have hdw : IntKind.i64.wrap ((d : Int) + 1) = (d : Int) + 1 := IntWalk.i64_in _ (by omega)
                            have HS0 := HS1.out (d + 1)
                            rw [show ((d + 1 : Nat) : Int) = (d : Int) + 1 from rfl] at HS0
                            replace HS0 := Lib.hid HS0
                            rw [hqi]
                            clear hLq hLl hS1 hqi
                            by_cases hdt : d + 1 ≤ t
                            · have hdt2 : (d : Int) + 1 ≤ (t : Int) := by omega
                              go_wp2_with fail
                              go_roundw
                              case rel => exact ⟨q', by omega, by go_num, by rw [hstep.out]; simp; omega, by rw [hstep.out, if_pos (by omega)]; exact HS0.out, YQ.setCell hgw _⟩
                              case measure => simp [intOf]
                            · have hdt2 : ¬ (d : Int) + 1 ≤ (t : Int) := by omega
                              have HS2 := Lib.hid (World.ownsRow.stored HS0.out q' (.int .i64 ((0 : Nat) : Int))).1
                              go_wp2_with fail
                              go_roundw
                              case rel => exact ⟨q', by omega, by go_num, by rw [hstep.out]; simp; omega, by rw [hstep.out, if_neg (by omega)]; have := HS2.out; rw [nums_set, set_takeM (by rw [HFL.out]; omega)] at this; exact this, (YQ.setCell hgw _).setCell hgw _⟩
                              case measure => simp [intOf]
                          · have e := nxt_fin (b := t + 1) (F := F) (q := q) (.inl hnx)
                            rw [HNX.out, hnx] at e
                            have HE := Lib.hid e
                            clear e hnx
                            go_wp2_with fail
                            go_roundw
                            case rel => exact ⟨fb, rfl, hfl, YQ, ph_next HE.out HS1 ownQ (by omega)⟩
                            case measure =>
                              conv => rhs; rw [phMeas_yes, HVAL.out]
                              exact ph_less HE.out ownQ (Nat.succ_pos _) hT.out hm
          · go_wp2_with fail
            go_ret2
            unfold NmPost
            rw [HYES.out]
            exact ⟨Y, x0, rfl, HS.out, HX0.out⟩
end Go.Proofs.Ytgmdoboeenpjpaa
