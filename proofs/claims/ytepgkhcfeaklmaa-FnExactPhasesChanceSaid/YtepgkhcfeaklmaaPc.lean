
/- A system in a list, as the reference looks at it: valid, works with a set. Printed by mkPc.py. -/
import Derived.Test.YtepgkhcfeaklmaaYf
namespace Go.Proofs.Ytepgkhcfeaklmaa
open Go Go.RowKit Go.ChangeShapes Go.WideShapes Go.ChangeAt

attribute [local irreducible] LX

/-- Two cells that lie within a block. -/
def By (w : World) (b off : Nat) (x y : Value) : Prop := b < w.heap.size ∧ w.cell? ⟨b, off, none⟩ = some x ∧ w.cell? ⟨b, off + 1, none⟩ = some y
theorem By.two {w : World} {b off : Nat} {x y : Value} (h : By w b off x y) : w.cell? ⟨b, off, none⟩ = some x ∧ w.cell? ⟨b, off + 1, none⟩ = some y := h.2
theorem By.ext {w w' : World} {b off : Nat} {x y : Value} (h : By w b off x y) (hx : Ext w w') : By w' b off x y :=
  ⟨Nat.lt_of_lt_of_le h.1 hx.size, (Below.cell hx (p := ⟨b, off, none⟩) h.1).trans h.2.1, (Below.cell hx (p := ⟨b, off + 1, none⟩) h.1).trans h.2.2⟩

set_option maxRecDepth 100000 in
set_option maxHeartbeats 8000000 in
theorem l03IsI_at (p : Int) (v : Value) (zs : List Int) (blk off : Nat) (w : World) (hbx : By w blk off (.int .i64 p) v) (r : RdI w v zs) :
    Calls Try.prog 75 #[.pointer (some ⟨blk, off, none⟩)] w fun e w' => e = .returned (.bool (sysI p zs)) ∧ Ext w w' := by
  have r' := r
  obtain ⟨-, a1, c1, rfl, p1, p2, -, -⟩ := r
  unfold maxLen at p2
  have hlen : zs.length ≤ 9223372036854775807 := by omega
  clear p1 p2
  obtain ⟨k0, k1⟩ := hbx.two
  cases hp : inB p 1 10
  · have HF : Hid (sysI p zs = false) := by show _ = _; simp [sysI, hp]
    have HP := Lib.hid hp
    clear hp
    go_enter Try.func75, Try.ntmps75
    go_wp2_with fail
    refine (l03PartsZ_any p _).mono ?_
    rintro e w1 ⟨rfl, rfl⟩
    rw [HP.out]
    go_wp2_with fail
    go_ret
    exact ⟨ret_bool HF.out.symm, Ext.refl _⟩
  have hp2 := inB_iff.1 hp
  have hpw := pow10' hp2.1 hp2.2
  have hp0 : 0 ≤ p := by omega
  have hp63 : p < 64 := by omega
  cases hl : inB zs.length 1 64
  · have HF : Hid (sysI p zs = false) := by show _ = _; simp [sysI, hl]
    have HP := Lib.hid hp
    have hl2 : ¬ (1 ≤ (zs.length : Int) ∧ (zs.length : Int) ≤ 64) := fun h => by rw [inB_iff.2 h] at hl; cases hl
    clear hp hl
    by_cases h1 : (zs.length : Int) < 1
    · go_enter Try.func75, Try.ntmps75
      go_wp2_with fail
      refine (l03PartsZ_any p _).mono ?_
      rintro e w1 ⟨rfl, rfl⟩
      rw [HP.out]
      go_wp2_with fail
      go_ret
      exact ⟨ret_bool HF.out.symm, Ext.refl _⟩
    · have h2 : 64 < (zs.length : Int) := by omega
      go_enter Try.func75, Try.ntmps75
      go_wp2_with fail
      refine (l03PartsZ_any p _).mono ?_
      rintro e w1 ⟨rfl, rfl⟩
      rw [HP.out]
      go_wp2_with fail
      go_ret
      exact ⟨ret_bool HF.out.symm, Ext.refl _⟩
  have hl2 := inB_iff.1 hl
  have HP := Lib.hid hp
  have HL := Lib.hid hl
  have hl3 : zs.length ≤ 64 := by omega
  clear hp hl hlen
  go_enter Try.func75, Try.ntmps75
  go_wp2_with fail
  refine (l03PartsZ_any p _).mono ?_
  rintro e w1 ⟨rfl, rfl⟩
  rw [HP.out]
  go_wp2_with fail
  clear k0 k1
  go_loopw [33] (fun i wr => ∃ k : Nat, k ≤ zs.length ∧ i = .int .i64 k ∧ Hid (∀ j, j < k → rowI p zs j = true) ∧ Ext w wr) (fun i _ => zs.length - (intOf i).toNat)
  case atStart => exact ⟨0, Nat.zero_le _, rfl, fun j h => absurd h (Nat.not_lt_zero _), Ext.refl _⟩
  case round =>
    obtain ⟨k, hk, rfl, HR, X⟩ := hrel
    by_cases hlt : k < zs.length
    · have hbx2 := hbx.ext X
      obtain ⟨k0, k1⟩ := hbx2.two
      have hbl := hbx2.1
      obtain ⟨b1, o1, rfl, hb1, hc1⟩ := (r'.ext X).at hlt
      have hgk : Hid (zs.getD k 0 = zs[k]) := by show _ = _; simp [hlt]
      have hki : (k : Int) < (zs.length : Int) := by omega
      generalize hx : zs[k] = x at *
      have HX : Hid (zs[k] = x) := hx
      clear hx
      have hM1 : (2 : Int) ^ p.toNat - 1 ≤ 1023 := by omega
      have s1 : IntKind.i64.wrap (2 ^ p.toNat) = 2 ^ p.toNat := IntWalk.i64_in _ (by omega)
      have s2 : IntKind.i64.wrap (2 ^ p.toNat - 1) = 2 ^ p.toNat - 1 := IntWalk.i64_in _ (by omega)
      have hkl : (k : Int) < (zs.length : Int) := by omega
      obtain ⟨wo, rfl⟩ : ∃ wo : World, wo = wr := ⟨_, rfl⟩
      go_wp2_with fail
      cases hin : inB x 1 (2 ^ p.toNat - 1)
      · have HF : Hid (sysI p zs = false) := sysI_no hlt (by unfold rowI; rw [hgk.out, hin, Bool.false_and, Bool.false_and])
        have HIN := Lib.hid hin
        clear hin
        refine wp_region_rel 37 (fun _ v => v = .bool false) (fun _ _ _ => True) (by kernel_rfl) (by kernel_rfl) (by kernel_rfl) ?_
        dsimp only [List.take, List.drop, List.length]
        refine LX_det (.pointer (some ⟨blk, off, none⟩)) (by kernel_rfl) rfl (fun w' hx _ => ?_) ?_
        · go_simp
        refine LX_det (.pointer (some ⟨blk, off, none⟩)) (by kernel_rfl) rfl (fun w' hx _ => ?_) ?_
        · go_simp
        refine LX_det (.pointer (some ⟨blk, off + 1, none⟩)) (by kernel_rfl) rfl (fun w' hx _ => ?_) ?_
        · go_simp
        refine LX_det (.slice (some ⟨b1, o1, none⟩) zs.length c1) (by kernel_rfl) rfl (fun w' hx _ => ?_) ?_
        · have m0 := (Below.cell hx (p := ⟨blk, off + 1, none⟩) hbl).trans k1
          go_simp
        refine LX_det (.int .i64 k) (by kernel_rfl) rfl (fun w' hx _ => ?_) ?_
        · go_simp
        refine LX_det (.pointer (some ⟨b1, o1 + k, none⟩)) (by kernel_rfl) rfl (fun w' hx _ => ?_) ?_
        · go_simp
        refine LX_det (.int .i64 x) (by kernel_rfl) rfl (fun w' hx _ => ?_) ?_
        · have m0 := (Below.cell hx (p := ⟨b1, o1 + k, none⟩) hb1).trans hc1
          go_simp
        refine LX_det (.pointer (some ⟨blk, off, none⟩)) (by kernel_rfl) rfl (fun w' hx _ => ?_) ?_
        · go_simp
        refine LX_det (.pointer (some ⟨blk, off, none⟩)) (by kernel_rfl) rfl (fun w' hx _ => ?_) ?_
        · go_simp
        refine LX_det (.pointer (some ⟨blk, off, none⟩)) (by kernel_rfl) rfl (fun w' hx _ => ?_) ?_
        · go_simp
        refine LX_det (.int .i64 p) (by kernel_rfl) rfl (fun w' hx _ => ?_) ?_
        · have m0 := (Below.cell hx (p := ⟨blk, off, none⟩) hbl).trans k0
          go_simp
        refine LX_det (.int .i64 (2 ^ p.toNat)) (by kernel_rfl) rfl (fun w' hx _ => ?_) ?_
        · go_simp
        refine LX_det (.int .i64 (2 ^ p.toNat - 1)) (by kernel_rfl) rfl (fun w' hx _ => ?_) ?_
        · go_simp
        refine LX_call (by kernel_rfl) rfl (fun _ => St.top) (fun w' hx _ => ?_) ?_
        · go_simp
          refine UponC.enter ((l00In_eq HIN.out _).mono ?_)
          rintro e w'' ⟨rfl, rfl⟩
          exact ⟨_, rfl, Ext.refl _, rfl, trivial⟩
        rintro _ rfl
        refine LX_det (.bool true) (by kernel_rfl) rfl (fun w' hx _ => ?_) ?_
        · go_simp
        refine LX_det (.bool true) (by kernel_rfl) rfl (fun w' hx _ => ?_) ?_
        · go_simp
        iterate 20 refine LX_skip (by kernel_rfl) ?_
        refine LX_det (.bool true) (by kernel_rfl) rfl (fun w' hx _ => ?_) ?_
        · go_simp
        refine LX_nil fun w2 hx _ => ?_
        refine wpList_nil ?_
        simp only [Act.put, List.setIfInBounds_toArray, List.set_cons_succ, List.set_cons_zero]
        go_wp2_with fail
        go_ret
        exact ⟨ret_bool HF.out.symm, X.trans hx⟩
      · have HIN := Lib.hid hin
        clear hin
        by_cases hk0 : k = 0
        · have HPR : Hid ((decide (k = 0) || decide (zs.getD (k - 1) 0 < zs.getD k 0)) = true) := by show _ = _; rw [decide_eq_true hk0, Bool.true_or]
          have hk2 : ¬ (0 : Int) < (k : Int) := by omega
          have hk3 : ¬ 0 < k := by omega
          clear hk0
          refine wp_region_rel 37 (fun _ v => v = .bool true) (fun _ _ _ => True) (by kernel_rfl) (by kernel_rfl) (by kernel_rfl) ?_
          dsimp only [List.take, List.drop, List.length]
          refine LX_det (.pointer (some ⟨blk, off, none⟩)) (by kernel_rfl) rfl (fun w' hx _ => ?_) ?_
          · go_simp
          refine LX_det (.pointer (some ⟨blk, off, none⟩)) (by kernel_rfl) rfl (fun w' hx _ => ?_) ?_
          · go_simp
          refine LX_det (.pointer (some ⟨blk, off + 1, none⟩)) (by kernel_rfl) rfl (fun w' hx _ => ?_) ?_
          · go_simp
          refine LX_det (.slice (some ⟨b1, o1, none⟩) zs.length c1) (by kernel_rfl) rfl (fun w' hx _ => ?_) ?_
          · have m0 := (Below.cell hx (p := ⟨blk, off + 1, none⟩) hbl).trans k1
            go_simp
          refine LX_det (.int .i64 k) (by kernel_rfl) rfl (fun w' hx _ => ?_) ?_
          · go_simp
          refine LX_det (.pointer (some ⟨b1, o1 + k, none⟩)) (by kernel_rfl) rfl (fun w' hx _ => ?_) ?_
          · go_simp
          refine LX_det (.int .i64 x) (by kernel_rfl) rfl (fun w' hx _ => ?_) ?_
          · have m0 := (Below.cell hx (p := ⟨b1, o1 + k, none⟩) hb1).trans hc1
            go_simp
          refine LX_det (.pointer (some ⟨blk, off, none⟩)) (by kernel_rfl) rfl (fun w' hx _ => ?_) ?_
          · go_simp
          refine LX_det (.pointer (some ⟨blk, off, none⟩)) (by kernel_rfl) rfl (fun w' hx _ => ?_) ?_
          · go_simp
          refine LX_det (.pointer (some ⟨blk, off, none⟩)) (by kernel_rfl) rfl (fun w' hx _ => ?_) ?_
          · go_simp
          refine LX_det (.int .i64 p) (by kernel_rfl) rfl (fun w' hx _ => ?_) ?_
          · have m0 := (Below.cell hx (p := ⟨blk, off, none⟩) hbl).trans k0
            go_simp
          refine LX_det (.int .i64 (2 ^ p.toNat)) (by kernel_rfl) rfl (fun w' hx _ => ?_) ?_
          · go_simp
          refine LX_det (.int .i64 (2 ^ p.toNat - 1)) (by kernel_rfl) rfl (fun w' hx _ => ?_) ?_
          · go_simp
          refine LX_call (by kernel_rfl) rfl (fun _ => St.top) (fun w' hx _ => ?_) ?_
          · go_simp
            refine UponC.enter ((l00In_eq HIN.out _).mono ?_)
            rintro e w'' ⟨rfl, rfl⟩
            exact ⟨_, rfl, Ext.refl _, rfl, trivial⟩
          rintro _ rfl
          refine LX_det (.bool false) (by kernel_rfl) rfl (fun w' hx _ => ?_) ?_
          · go_simp
          refine LX_det (.bool false) (by kernel_rfl) rfl (fun w' hx _ => ?_) ?_
          · go_simp
          refine LX_det (.int .i64 k) (by kernel_rfl) rfl (fun w' hx _ => ?_) ?_
          · go_simp
          refine LX_det (.bool false) (by kernel_rfl) rfl (fun w' hx _ => ?_) ?_
          · go_simp
          refine LX_det (.bool false) (by kernel_rfl) rfl (fun w' hx _ => ?_) ?_
          · go_simp
          iterate 16 refine LX_skip (by kernel_rfl) ?_
          refine LX_det (.bool false) (by kernel_rfl) rfl (fun w' hx _ => ?_) ?_
          · go_simp
          refine LX_det (.bool false) (by kernel_rfl) rfl (fun w' hx _ => ?_) ?_
          · go_simp
          refine LX_nil fun w2 hx _ => ?_
          refine wpList_nil ?_
          simp only [Act.put, List.setIfInBounds_toArray, List.set_cons_succ, List.set_cons_zero]
          clear hk2 hk3
          go_wp2_with fail
          go_loopw [4] (fun i wq => ∃ j : Nat, j ≤ k ∧ i = .int .i64 j ∧ Hid (∀ l, l < j → apartI x (zs.getD l 0) = true) ∧ Ext wo wq) (fun i _ => k - (intOf i).toNat)
          case atStart => exact ⟨0, Nat.zero_le _, rfl, fun j h => absurd h (Nat.not_lt_zero _), hx⟩
          case round =>
            clear hx k0 k1 hc1 hb1
            obtain ⟨j, hj, rfl, HA, Z⟩ := hrel
            by_cases hlt2 : j < k
            · have hji : (j : Int) < (k : Int) := by omega
              obtain ⟨k0, k1⟩ := (hbx2.ext Z).two
              have hbl := (hbx2.ext Z).1
              obtain ⟨b2, o2, e2, hb1, hc1⟩ := (r'.ext (X.trans Z)).at hlt
              cases e2
              rw [HX.out] at hc1
              obtain ⟨b2, o2, e2, -, hc2⟩ := (r'.ext (X.trans Z)).at (show j < zs.length by omega)
              cases e2
              have hgj : Hid (zs.getD j 0 = zs[j]) := by show _ = _; simp [show j < zs.length by omega]
              generalize zs[j] = y at *
              obtain ⟨z, hz⟩ : ∃ z, bits .and .i64 x y = z := ⟨_, rfl⟩
              have HZ : Hid (apartI x y = (!(z == y) && !(z == x))) := by show _ = _; unfold apartI; rw [hz]
              have hjl : (j : Int) < (zs.length : Int) := by omega
              go_wp2_with fail
              refine wp_region_rel 15 (fun _ _ => True) (fun _ _ _ => True) (by kernel_rfl) (by kernel_rfl) (by kernel_rfl) ?_
              dsimp only [List.take, List.drop, List.length]
              refine LX_det (.pointer (some ⟨blk, off, none⟩)) (by kernel_rfl) rfl (fun w' hx _ => ?_) ?_
              · go_simp
              refine LX_det (.pointer (some ⟨blk, off, none⟩)) (by kernel_rfl) rfl (fun w' hx _ => ?_) ?_
              · go_simp
              refine LX_det (.pointer (some ⟨blk, off + 1, none⟩)) (by kernel_rfl) rfl (fun w' hx _ => ?_) ?_
              · go_simp
              refine LX_det (.slice (some ⟨b1, o1, none⟩) zs.length c1) (by kernel_rfl) rfl (fun w' hx _ => ?_) ?_
              · have m0 := (Below.cell hx (p := ⟨blk, off + 1, none⟩) hbl).trans k1
                go_simp
              refine LX_det (.int .i64 k) (by kernel_rfl) rfl (fun w' hx _ => ?_) ?_
              · go_simp
              refine LX_det (.pointer (some ⟨b1, o1 + k, none⟩)) (by kernel_rfl) rfl (fun w' hx _ => ?_) ?_
              · go_simp
              refine LX_det (.int .i64 x) (by kernel_rfl) rfl (fun w' hx _ => ?_) ?_
              · have m0 := (Below.cell hx (p := ⟨b1, o1 + k, none⟩) hb1).trans hc1
                go_simp
              refine LX_det (.pointer (some ⟨blk, off, none⟩)) (by kernel_rfl) rfl (fun w' hx _ => ?_) ?_
              · go_simp
              refine LX_det (.pointer (some ⟨blk, off, none⟩)) (by kernel_rfl) rfl (fun w' hx _ => ?_) ?_
              · go_simp
              refine LX_det (.pointer (some ⟨blk, off + 1, none⟩)) (by kernel_rfl) rfl (fun w' hx _ => ?_) ?_
              · go_simp
              refine LX_det (.slice (some ⟨b1, o1, none⟩) zs.length c1) (by kernel_rfl) rfl (fun w' hx _ => ?_) ?_
              · have m0 := (Below.cell hx (p := ⟨blk, off + 1, none⟩) hbl).trans k1
                go_simp
              refine LX_det (.int .i64 j) (by kernel_rfl) rfl (fun w' hx _ => ?_) ?_
              · go_simp
              refine LX_det (.pointer (some ⟨b1, o1 + j, none⟩)) (by kernel_rfl) rfl (fun w' hx _ => ?_) ?_
              · go_simp
              refine LX_det (.int .i64 y) (by kernel_rfl) rfl (fun w' hx _ => ?_) ?_
              · have m0 := (Below.cell hx (p := ⟨b1, o1 + j, none⟩) hb1).trans hc2
                go_simp
              refine LX_det (.int .i64 z) (by kernel_rfl) rfl (fun w' hx _ => ?_) ?_
              · go_simp
              refine LX_nil fun w3 hx3 _ => ?_
              simp only [Act.put, List.setIfInBounds_toArray, List.set_cons_succ, List.set_cons_zero]
              replace Z := Z.trans hx3
              replace k0 := (Below.cell hx3 (p := ⟨blk, off, none⟩) hbl).trans k0
              replace k1 := (Below.cell hx3 (p := ⟨blk, off + 1, none⟩) hbl).trans k1
              replace hc1 := (Below.cell hx3 (p := ⟨b1, o1 + k, none⟩) hb1).trans hc1
              replace hc2 := (Below.cell hx3 (p := ⟨b1, o1 + j, none⟩) hb1).trans hc2
              clear hx3
              by_cases h1 : z = y
              · have h1b : (z == y) = true := by simpa using h1
                have HF : Hid (sysI p zs = false) := sysI_no hlt (by
                  unfold rowI
                  have : (List.range k).all (fun l => apartI (zs.getD k 0) (zs.getD l 0)) = false := by
                    rw [List.all_eq_false]; exact ⟨j, List.mem_range.2 hlt2, by rw [hgk.out, hgj.out, HZ.out, h1b]; simp⟩
                  rw [this, Bool.and_false])
                clear h1b hz
                go_wp2_with fail
                go_ret
                exact ⟨ret_bool HF.out.symm, X.trans Z⟩
              · have h1b : (z == y) = false := by simpa using h1
                by_cases h2 : z = x
                · have h2b : (z == x) = true := by simpa using h2
                  have HF : Hid (sysI p zs = false) := sysI_no hlt (by
                    unfold rowI
                    have : (List.range k).all (fun l => apartI (zs.getD k 0) (zs.getD l 0)) = false := by
                      rw [List.all_eq_false]; exact ⟨j, List.mem_range.2 hlt2, by rw [hgk.out, hgj.out, HZ.out, h2b]; simp⟩
                    rw [this, Bool.and_false])
                  clear h2b hz
                  go_wp2_with fail
                  go_ret
                  exact ⟨ret_bool HF.out.symm, X.trans Z⟩
                · have h2b : (z == x) = false := by simpa using h2
                  have HY : Hid (apartI x (zs.getD j 0) = true) := by show _ = _; rw [hgj.out, HZ.out, h1b, h2b]; rfl
                  clear hz
                  go_wp2_with fail
                  go_roundw
                  case rel =>
                    refine ⟨j + 1, by omega, by go_num, fun l hl => ?_, Z⟩
                    by_cases e : l = j
                    · subst e; exact HY.out
                    · exact HA.out l (by omega)
                  case measure => simp [intOf]; omega
            · obtain rfl : j = k := by omega
              have HROW : Hid (rowI p zs j = true) := by
                show _ = _
                unfold rowI
                rw [Bool.and_eq_true, Bool.and_eq_true]
                refine ⟨⟨by rw [hgk.out]; exact HIN.out, HPR.out⟩, List.all_eq_true.2 fun l hl => ?_⟩
                rw [hgk.out]; exact HA.out l (List.mem_range.1 hl)
              go_wp2_with fail
              go_roundw
              case rel =>
                refine ⟨j + 1, by omega, by go_num, fun l hl => ?_, X.trans Z⟩
                by_cases e : l = j
                · subst e; exact HROW.out
                · exact HR.out l (by omega)
              case measure => simp [intOf]; omega
        · have hk1 : k - 1 < zs.length := by omega
          obtain ⟨b2, o2, e2, -, hc2⟩ := (r'.ext X).at hk1
          cases e2
          have hgy : Hid (zs.getD (k - 1) 0 = zs[k - 1]) := by show _ = _; simp [hk1]
          generalize zs[k - 1] = y at *
          have hk2 : (0 : Int) < (k : Int) := by omega
          have hk5 : 0 < k := by omega
          obtain ⟨q, hq⟩ : ∃ q, q = k - 1 := ⟨_, rfl⟩
          have s3 : IntKind.i64.wrap ((k : Int) - 1) = (q : Int) := by rw [IntWalk.i64_in _ (by omega)]; omega
          have hk4 : (q : Int) < (zs.length : Int) := by omega
          have hk6 : q < zs.length := by omega
          rw [← hq] at hc2
          have HQ := Lib.hid hq
          clear hq
          by_cases hxy : x ≤ y
          · have HF : Hid (sysI p zs = false) := sysI_no hlt (by
              unfold rowI
              have h1 : decide (k = 0) = false := by simpa using hk0
              have h2 : decide (zs.getD (k - 1) 0 < zs.getD k 0) = false := by rw [hgk.out, hgy.out]; simpa using hxy
              rw [h1, h2, Bool.or_self, Bool.and_false, Bool.false_and])
            refine wp_region_rel 37 (fun _ v => v = .bool true) (fun _ _ _ => True) (by kernel_rfl) (by kernel_rfl) (by kernel_rfl) ?_
            dsimp only [List.take, List.drop, List.length]
            refine LX_det (.pointer (some ⟨blk, off, none⟩)) (by kernel_rfl) rfl (fun w' hx _ => ?_) ?_
            · go_simp
            refine LX_det (.pointer (some ⟨blk, off, none⟩)) (by kernel_rfl) rfl (fun w' hx _ => ?_) ?_
            · go_simp
            refine LX_det (.pointer (some ⟨blk, off + 1, none⟩)) (by kernel_rfl) rfl (fun w' hx _ => ?_) ?_
            · go_simp
            refine LX_det (.slice (some ⟨b1, o1, none⟩) zs.length c1) (by kernel_rfl) rfl (fun w' hx _ => ?_) ?_
            · have m0 := (Below.cell hx (p := ⟨blk, off + 1, none⟩) hbl).trans k1
              go_simp
            refine LX_det (.int .i64 k) (by kernel_rfl) rfl (fun w' hx _ => ?_) ?_
            · go_simp
            refine LX_det (.pointer (some ⟨b1, o1 + k, none⟩)) (by kernel_rfl) rfl (fun w' hx _ => ?_) ?_
            · go_simp
            refine LX_det (.int .i64 x) (by kernel_rfl) rfl (fun w' hx _ => ?_) ?_
            · have m0 := (Below.cell hx (p := ⟨b1, o1 + k, none⟩) hb1).trans hc1
              go_simp
            refine LX_det (.pointer (some ⟨blk, off, none⟩)) (by kernel_rfl) rfl (fun w' hx _ => ?_) ?_
            · go_simp
            refine LX_det (.pointer (some ⟨blk, off, none⟩)) (by kernel_rfl) rfl (fun w' hx _ => ?_) ?_
            · go_simp
            refine LX_det (.pointer (some ⟨blk, off, none⟩)) (by kernel_rfl) rfl (fun w' hx _ => ?_) ?_
            · go_simp
            refine LX_det (.int .i64 p) (by kernel_rfl) rfl (fun w' hx _ => ?_) ?_
            · have m0 := (Below.cell hx (p := ⟨blk, off, none⟩) hbl).trans k0
              go_simp
            refine LX_det (.int .i64 (2 ^ p.toNat)) (by kernel_rfl) rfl (fun w' hx _ => ?_) ?_
            · go_simp
            refine LX_det (.int .i64 (2 ^ p.toNat - 1)) (by kernel_rfl) rfl (fun w' hx _ => ?_) ?_
            · go_simp
            refine LX_call (by kernel_rfl) rfl (fun _ => St.top) (fun w' hx _ => ?_) ?_
            · go_simp
              refine UponC.enter ((l00In_eq HIN.out _).mono ?_)
              rintro e w'' ⟨rfl, rfl⟩
              exact ⟨_, rfl, Ext.refl _, rfl, trivial⟩
            rintro _ rfl
            refine LX_det (.bool false) (by kernel_rfl) rfl (fun w' hx _ => ?_) ?_
            · go_simp
            refine LX_det (.bool false) (by kernel_rfl) rfl (fun w' hx _ => ?_) ?_
            · go_simp
            refine LX_det (.int .i64 k) (by kernel_rfl) rfl (fun w' hx _ => ?_) ?_
            · go_simp
            refine LX_det (.bool true) (by kernel_rfl) rfl (fun w' hx _ => ?_) ?_
            · go_simp
            refine LX_det (.bool true) (by kernel_rfl) rfl (fun w' hx _ => ?_) ?_
            · go_simp
            refine LX_det (.pointer (some ⟨blk, off, none⟩)) (by kernel_rfl) rfl (fun w' hx _ => ?_) ?_
            · go_simp
            refine LX_det (.pointer (some ⟨blk, off, none⟩)) (by kernel_rfl) rfl (fun w' hx _ => ?_) ?_
            · go_simp
            refine LX_det (.pointer (some ⟨blk, off + 1, none⟩)) (by kernel_rfl) rfl (fun w' hx _ => ?_) ?_
            · go_simp
            refine LX_det (.slice (some ⟨b1, o1, none⟩) zs.length c1) (by kernel_rfl) rfl (fun w' hx _ => ?_) ?_
            · have m0 := (Below.cell hx (p := ⟨blk, off + 1, none⟩) hbl).trans k1
              go_simp
            refine LX_det (.int .i64 k) (by kernel_rfl) rfl (fun w' hx _ => ?_) ?_
            · go_simp
            refine LX_det (.pointer (some ⟨b1, o1 + k, none⟩)) (by kernel_rfl) rfl (fun w' hx _ => ?_) ?_
            · go_simp
            refine LX_det (.int .i64 x) (by kernel_rfl) rfl (fun w' hx _ => ?_) ?_
            · have m0 := (Below.cell hx (p := ⟨b1, o1 + k, none⟩) hb1).trans hc1
              go_simp
            refine LX_det (.pointer (some ⟨blk, off, none⟩)) (by kernel_rfl) rfl (fun w' hx _ => ?_) ?_
            · go_simp
            refine LX_det (.pointer (some ⟨blk, off, none⟩)) (by kernel_rfl) rfl (fun w' hx _ => ?_) ?_
            · go_simp
            refine LX_det (.pointer (some ⟨blk, off + 1, none⟩)) (by kernel_rfl) rfl (fun w' hx _ => ?_) ?_
            · go_simp
            refine LX_det (.slice (some ⟨b1, o1, none⟩) zs.length c1) (by kernel_rfl) rfl (fun w' hx _ => ?_) ?_
            · have m0 := (Below.cell hx (p := ⟨blk, off + 1, none⟩) hbl).trans k1
              go_simp
            refine LX_det (.int .i64 k) (by kernel_rfl) rfl (fun w' hx _ => ?_) ?_
            · go_simp
            refine LX_det (.int .i64 q) (by kernel_rfl) rfl (fun w' hx _ => ?_) ?_
            · go_simp
            refine LX_det (.pointer (some ⟨b1, o1 + q, none⟩)) (by kernel_rfl) rfl (fun w' hx _ => ?_) ?_
            · go_simp
            refine LX_det (.int .i64 y) (by kernel_rfl) rfl (fun w' hx _ => ?_) ?_
            · have m0 := (Below.cell hx (p := ⟨b1, o1 + q, none⟩) hb1).trans hc2
              go_simp
            refine LX_det (.bool true) (by kernel_rfl) rfl (fun w' hx _ => ?_) ?_
            · go_simp
            refine LX_det (.bool true) (by kernel_rfl) rfl (fun w' hx _ => ?_) ?_
            · go_simp
            refine LX_det (.bool true) (by kernel_rfl) rfl (fun w' hx _ => ?_) ?_
            · go_simp
            refine LX_nil fun w2 hx _ => ?_
            refine wpList_nil ?_
            simp only [Act.put, List.setIfInBounds_toArray, List.set_cons_succ, List.set_cons_zero]
            go_wp2_with fail
            go_ret
            exact ⟨ret_bool HF.out.symm, X.trans hx⟩
          · have HPR : Hid ((decide (k = 0) || decide (zs.getD (k - 1) 0 < zs.getD k 0)) = true) := by
              show _ = _
              have h2 : decide (zs.getD (k - 1) 0 < zs.getD k 0) = true := by rw [hgk.out, hgy.out]; simpa using hxy
              rw [h2, Bool.or_true]
            refine wp_region_rel 37 (fun _ v => v = .bool true) (fun _ _ _ => True) (by kernel_rfl) (by kernel_rfl) (by kernel_rfl) ?_
            dsimp only [List.take, List.drop, List.length]
            refine LX_det (.pointer (some ⟨blk, off, none⟩)) (by kernel_rfl) rfl (fun w' hx _ => ?_) ?_
            · go_simp
            refine LX_det (.pointer (some ⟨blk, off, none⟩)) (by kernel_rfl) rfl (fun w' hx _ => ?_) ?_
            · go_simp
            refine LX_det (.pointer (some ⟨blk, off + 1, none⟩)) (by kernel_rfl) rfl (fun w' hx _ => ?_) ?_
            · go_simp
            refine LX_det (.slice (some ⟨b1, o1, none⟩) zs.length c1) (by kernel_rfl) rfl (fun w' hx _ => ?_) ?_
            · have m0 := (Below.cell hx (p := ⟨blk, off + 1, none⟩) hbl).trans k1
              go_simp
            refine LX_det (.int .i64 k) (by kernel_rfl) rfl (fun w' hx _ => ?_) ?_
            · go_simp
            refine LX_det (.pointer (some ⟨b1, o1 + k, none⟩)) (by kernel_rfl) rfl (fun w' hx _ => ?_) ?_
            · go_simp
            refine LX_det (.int .i64 x) (by kernel_rfl) rfl (fun w' hx _ => ?_) ?_
            · have m0 := (Below.cell hx (p := ⟨b1, o1 + k, none⟩) hb1).trans hc1
              go_simp
            refine LX_det (.pointer (some ⟨blk, off, none⟩)) (by kernel_rfl) rfl (fun w' hx _ => ?_) ?_
            · go_simp
            refine LX_det (.pointer (some ⟨blk, off, none⟩)) (by kernel_rfl) rfl (fun w' hx _ => ?_) ?_
            · go_simp
            refine LX_det (.pointer (some ⟨blk, off, none⟩)) (by kernel_rfl) rfl (fun w' hx _ => ?_) ?_
            · go_simp
            refine LX_det (.int .i64 p) (by kernel_rfl) rfl (fun w' hx _ => ?_) ?_
            · have m0 := (Below.cell hx (p := ⟨blk, off, none⟩) hbl).trans k0
              go_simp
            refine LX_det (.int .i64 (2 ^ p.toNat)) (by kernel_rfl) rfl (fun w' hx _ => ?_) ?_
            · go_simp
            refine LX_det (.int .i64 (2 ^ p.toNat - 1)) (by kernel_rfl) rfl (fun w' hx _ => ?_) ?_
            · go_simp
            refine LX_call (by kernel_rfl) rfl (fun _ => St.top) (fun w' hx _ => ?_) ?_
            · go_simp
              refine UponC.enter ((l00In_eq HIN.out _).mono ?_)
              rintro e w'' ⟨rfl, rfl⟩
              exact ⟨_, rfl, Ext.refl _, rfl, trivial⟩
            rintro _ rfl
            refine LX_det (.bool false) (by kernel_rfl) rfl (fun w' hx _ => ?_) ?_
            · go_simp
            refine LX_det (.bool false) (by kernel_rfl) rfl (fun w' hx _ => ?_) ?_
            · go_simp
            refine LX_det (.int .i64 k) (by kernel_rfl) rfl (fun w' hx _ => ?_) ?_
            · go_simp
            refine LX_det (.bool true) (by kernel_rfl) rfl (fun w' hx _ => ?_) ?_
            · go_simp
            refine LX_det (.bool true) (by kernel_rfl) rfl (fun w' hx _ => ?_) ?_
            · go_simp
            refine LX_det (.pointer (some ⟨blk, off, none⟩)) (by kernel_rfl) rfl (fun w' hx _ => ?_) ?_
            · go_simp
            refine LX_det (.pointer (some ⟨blk, off, none⟩)) (by kernel_rfl) rfl (fun w' hx _ => ?_) ?_
            · go_simp
            refine LX_det (.pointer (some ⟨blk, off + 1, none⟩)) (by kernel_rfl) rfl (fun w' hx _ => ?_) ?_
            · go_simp
            refine LX_det (.slice (some ⟨b1, o1, none⟩) zs.length c1) (by kernel_rfl) rfl (fun w' hx _ => ?_) ?_
            · have m0 := (Below.cell hx (p := ⟨blk, off + 1, none⟩) hbl).trans k1
              go_simp
            refine LX_det (.int .i64 k) (by kernel_rfl) rfl (fun w' hx _ => ?_) ?_
            · go_simp
            refine LX_det (.pointer (some ⟨b1, o1 + k, none⟩)) (by kernel_rfl) rfl (fun w' hx _ => ?_) ?_
            · go_simp
            refine LX_det (.int .i64 x) (by kernel_rfl) rfl (fun w' hx _ => ?_) ?_
            · have m0 := (Below.cell hx (p := ⟨b1, o1 + k, none⟩) hb1).trans hc1
              go_simp
            refine LX_det (.pointer (some ⟨blk, off, none⟩)) (by kernel_rfl) rfl (fun w' hx _ => ?_) ?_
            · go_simp
            refine LX_det (.pointer (some ⟨blk, off, none⟩)) (by kernel_rfl) rfl (fun w' hx _ => ?_) ?_
            · go_simp
            refine LX_det (.pointer (some ⟨blk, off + 1, none⟩)) (by kernel_rfl) rfl (fun w' hx _ => ?_) ?_
            · go_simp
            refine LX_det (.slice (some ⟨b1, o1, none⟩) zs.length c1) (by kernel_rfl) rfl (fun w' hx _ => ?_) ?_
            · have m0 := (Below.cell hx (p := ⟨blk, off + 1, none⟩) hbl).trans k1
              go_simp
            refine LX_det (.int .i64 k) (by kernel_rfl) rfl (fun w' hx _ => ?_) ?_
            · go_simp
            refine LX_det (.int .i64 q) (by kernel_rfl) rfl (fun w' hx _ => ?_) ?_
            · go_simp
            refine LX_det (.pointer (some ⟨b1, o1 + q, none⟩)) (by kernel_rfl) rfl (fun w' hx _ => ?_) ?_
            · go_simp
            refine LX_det (.int .i64 y) (by kernel_rfl) rfl (fun w' hx _ => ?_) ?_
            · have m0 := (Below.cell hx (p := ⟨b1, o1 + q, none⟩) hb1).trans hc2
              go_simp
            refine LX_det (.bool false) (by kernel_rfl) rfl (fun w' hx _ => ?_) ?_
            · go_simp
            refine LX_det (.bool false) (by kernel_rfl) rfl (fun w' hx _ => ?_) ?_
            · go_simp
            refine LX_det (.bool false) (by kernel_rfl) rfl (fun w' hx _ => ?_) ?_
            · go_simp
            refine LX_nil fun w2 hx _ => ?_
            refine wpList_nil ?_
            simp only [Act.put, List.setIfInBounds_toArray, List.set_cons_succ, List.set_cons_zero]
            clear hc2 hgy hxy
            go_wp2_with fail
            go_loopw [4] (fun i wq => ∃ j : Nat, j ≤ k ∧ i = .int .i64 j ∧ Hid (∀ l, l < j → apartI x (zs.getD l 0) = true) ∧ Ext wo wq) (fun i _ => k - (intOf i).toNat)
            case atStart => exact ⟨0, Nat.zero_le _, rfl, fun j h => absurd h (Nat.not_lt_zero _), hx⟩
            case round =>
              clear hx k0 k1 hc1 hb1
              obtain ⟨j, hj, rfl, HA, Z⟩ := hrel
              by_cases hlt2 : j < k
              · have hji : (j : Int) < (k : Int) := by omega
                obtain ⟨k0, k1⟩ := (hbx2.ext Z).two
                have hbl := (hbx2.ext Z).1
                obtain ⟨b2, o2, e2, hb1, hc1⟩ := (r'.ext (X.trans Z)).at hlt
                cases e2
                rw [HX.out] at hc1
                obtain ⟨b2, o2, e2, -, hc2⟩ := (r'.ext (X.trans Z)).at (show j < zs.length by omega)
                cases e2
                have hgj : Hid (zs.getD j 0 = zs[j]) := by show _ = _; simp [show j < zs.length by omega]
                generalize zs[j] = y at *
                obtain ⟨z, hz⟩ : ∃ z, bits .and .i64 x y = z := ⟨_, rfl⟩
                have HZ : Hid (apartI x y = (!(z == y) && !(z == x))) := by show _ = _; unfold apartI; rw [hz]
                have hjl : (j : Int) < (zs.length : Int) := by omega
                go_wp2_with fail
                refine wp_region_rel 15 (fun _ _ => True) (fun _ _ _ => True) (by kernel_rfl) (by kernel_rfl) (by kernel_rfl) ?_
                dsimp only [List.take, List.drop, List.length]
                refine LX_det (.pointer (some ⟨blk, off, none⟩)) (by kernel_rfl) rfl (fun w' hx _ => ?_) ?_
                · go_simp
                refine LX_det (.pointer (some ⟨blk, off, none⟩)) (by kernel_rfl) rfl (fun w' hx _ => ?_) ?_
                · go_simp
                refine LX_det (.pointer (some ⟨blk, off + 1, none⟩)) (by kernel_rfl) rfl (fun w' hx _ => ?_) ?_
                · go_simp
                refine LX_det (.slice (some ⟨b1, o1, none⟩) zs.length c1) (by kernel_rfl) rfl (fun w' hx _ => ?_) ?_
                · have m0 := (Below.cell hx (p := ⟨blk, off + 1, none⟩) hbl).trans k1
                  go_simp
                refine LX_det (.int .i64 k) (by kernel_rfl) rfl (fun w' hx _ => ?_) ?_
                · go_simp
                refine LX_det (.pointer (some ⟨b1, o1 + k, none⟩)) (by kernel_rfl) rfl (fun w' hx _ => ?_) ?_
                · go_simp
                refine LX_det (.int .i64 x) (by kernel_rfl) rfl (fun w' hx _ => ?_) ?_
                · have m0 := (Below.cell hx (p := ⟨b1, o1 + k, none⟩) hb1).trans hc1
                  go_simp
                refine LX_det (.pointer (some ⟨blk, off, none⟩)) (by kernel_rfl) rfl (fun w' hx _ => ?_) ?_
                · go_simp
                refine LX_det (.pointer (some ⟨blk, off, none⟩)) (by kernel_rfl) rfl (fun w' hx _ => ?_) ?_
                · go_simp
                refine LX_det (.pointer (some ⟨blk, off + 1, none⟩)) (by kernel_rfl) rfl (fun w' hx _ => ?_) ?_
                · go_simp
                refine LX_det (.slice (some ⟨b1, o1, none⟩) zs.length c1) (by kernel_rfl) rfl (fun w' hx _ => ?_) ?_
                · have m0 := (Below.cell hx (p := ⟨blk, off + 1, none⟩) hbl).trans k1
                  go_simp
                refine LX_det (.int .i64 j) (by kernel_rfl) rfl (fun w' hx _ => ?_) ?_
                · go_simp
                refine LX_det (.pointer (some ⟨b1, o1 + j, none⟩)) (by kernel_rfl) rfl (fun w' hx _ => ?_) ?_
                · go_simp
                refine LX_det (.int .i64 y) (by kernel_rfl) rfl (fun w' hx _ => ?_) ?_
                · have m0 := (Below.cell hx (p := ⟨b1, o1 + j, none⟩) hb1).trans hc2
                  go_simp
                refine LX_det (.int .i64 z) (by kernel_rfl) rfl (fun w' hx _ => ?_) ?_
                · go_simp
                refine LX_nil fun w3 hx3 _ => ?_
                simp only [Act.put, List.setIfInBounds_toArray, List.set_cons_succ, List.set_cons_zero]
                replace Z := Z.trans hx3
                replace k0 := (Below.cell hx3 (p := ⟨blk, off, none⟩) hbl).trans k0
                replace k1 := (Below.cell hx3 (p := ⟨blk, off + 1, none⟩) hbl).trans k1
                replace hc1 := (Below.cell hx3 (p := ⟨b1, o1 + k, none⟩) hb1).trans hc1
                replace hc2 := (Below.cell hx3 (p := ⟨b1, o1 + j, none⟩) hb1).trans hc2
                clear hx3
                by_cases h1 : z = y
                · have h1b : (z == y) = true := by simpa using h1
                  have HF : Hid (sysI p zs = false) := sysI_no hlt (by
                    unfold rowI
                    have : (List.range k).all (fun l => apartI (zs.getD k 0) (zs.getD l 0)) = false := by
                      rw [List.all_eq_false]; exact ⟨j, List.mem_range.2 hlt2, by rw [hgk.out, hgj.out, HZ.out, h1b]; simp⟩
                    rw [this, Bool.and_false])
                  clear h1b hz
                  go_wp2_with fail
                  go_ret
                  exact ⟨ret_bool HF.out.symm, X.trans Z⟩
                · have h1b : (z == y) = false := by simpa using h1
                  by_cases h2 : z = x
                  · have h2b : (z == x) = true := by simpa using h2
                    have HF : Hid (sysI p zs = false) := sysI_no hlt (by
                      unfold rowI
                      have : (List.range k).all (fun l => apartI (zs.getD k 0) (zs.getD l 0)) = false := by
                        rw [List.all_eq_false]; exact ⟨j, List.mem_range.2 hlt2, by rw [hgk.out, hgj.out, HZ.out, h2b]; simp⟩
                      rw [this, Bool.and_false])
                    clear h2b hz
                    go_wp2_with fail
                    go_ret
                    exact ⟨ret_bool HF.out.symm, X.trans Z⟩
                  · have h2b : (z == x) = false := by simpa using h2
                    have HY : Hid (apartI x (zs.getD j 0) = true) := by show _ = _; rw [hgj.out, HZ.out, h1b, h2b]; rfl
                    clear hz
                    go_wp2_with fail
                    go_roundw
                    case rel =>
                      refine ⟨j + 1, by omega, by go_num, fun l hl => ?_, Z⟩
                      by_cases e : l = j
                      · subst e; exact HY.out
                      · exact HA.out l (by omega)
                    case measure => simp [intOf]; omega
              · obtain rfl : j = k := by omega
                have HROW : Hid (rowI p zs j = true) := by
                  show _ = _
                  unfold rowI
                  rw [Bool.and_eq_true, Bool.and_eq_true]
                  refine ⟨⟨by rw [hgk.out]; exact HIN.out, HPR.out⟩, List.all_eq_true.2 fun l hl => ?_⟩
                  rw [hgk.out]; exact HA.out l (List.mem_range.1 hl)
                go_wp2_with fail
                go_roundw
                case rel =>
                  refine ⟨j + 1, by omega, by go_num, fun l hl => ?_, X.trans Z⟩
                  by_cases e : l = j
                  · subst e; exact HROW.out
                  · exact HR.out l (by omega)
                case measure => simp [intOf]; omega
    · have HT : Hid (sysI p zs = true) := by
        show _ = _
        unfold sysI
        rw [HP.out, HL.out, Bool.true_and, Bool.true_and, List.all_eq_true]
        intro i hi
        exact HR.out i (by have := List.mem_range.1 hi; omega)
      obtain ⟨k0, k1⟩ := (hbx.ext X).two
      go_wp2_with fail
      go_ret
      exact ⟨ret_bool HT.out.symm, X⟩
theorem l03Is_at (p : Int) (v : Value) (zs : List Int) (blk off : Nat) (w : World) (hbx : By w blk off (.int .i64 p) v) (r : RdI w v zs) :
    Calls Try.prog 75 #[.pointer (some ⟨blk, off, none⟩)] w fun e w' => e = .returned (.bool (sysB p zs)) ∧ Ext w w' := by
  rw [← sysI_eq]; exact l03IsI_at p v zs blk off w hbx r

set_option maxRecDepth 100000 in
set_option maxHeartbeats 4000000 in
theorem l03WorksI_at (p s : Int) (v : Value) (zs : List Int) (blk off : Nat) (w : World) (hbx : By w blk off (.int .i64 p) v) (r : RdI w v zs) :
    Calls Try.prog 77 #[.pointer (some ⟨blk, off, none⟩), .int .i64 s] w fun e w' => e = .returned (.bool (zs.any fun q => bits .and .i64 q s == q)) ∧ Ext w w' := by
  have r' := r
  obtain ⟨-, a1, c1, rfl, p1, p2, -, -⟩ := r
  unfold maxLen at p2
  have hlen : zs.length ≤ 9223372036854775807 := by omega
  clear p1 p2
  obtain ⟨k0, k1⟩ := hbx.two
  go_enter Try.func77, Try.ntmps77
  go_wp2_with fail
  clear k0 k1
  go_loopw [11] (fun i wr => ∃ k : Nat, k ≤ zs.length ∧ i = .int .i64 k ∧ Hid (∀ j, (h : j < k) → (h' : j < zs.length) → (bits .and .i64 zs[j] s == zs[j]) = false) ∧ Ext w wr) (fun i _ => zs.length - (intOf i).toNat)
  case atStart => exact ⟨0, Nat.zero_le _, rfl, fun j h => absurd h (Nat.not_lt_zero _), Ext.refl _⟩
  case round =>
    obtain ⟨k, hk, rfl, HN, X⟩ := hrel
    by_cases hlt : k < zs.length
    · have hbx2 := hbx.ext X
      obtain ⟨k0, k1⟩ := hbx2.two
      have hbl := hbx2.1
      obtain ⟨b1, o1, rfl, hb1, hc1⟩ := (r'.ext X).at hlt
      have hkl : (k : Int) < (zs.length : Int) := by omega
      generalize hx : zs[k] = x at *
      obtain ⟨z, hz⟩ : ∃ z, bits .and .i64 x s = z := ⟨_, rfl⟩
      have HXE : Hid (zs[k] = x) := hx
      have HZE : Hid (bits .and .i64 x s = z) := hz
      clear hx
      go_wp2_with fail
      refine wp_region_rel 17 (fun _ _ => True) (fun _ _ _ => True) (by kernel_rfl) (by kernel_rfl) (by kernel_rfl) ?_
      dsimp only [List.take, List.drop, List.length]
      refine LX_det (.pointer (some ⟨blk, off, none⟩)) (by kernel_rfl) rfl (fun w' hx _ => ?_) ?_
      · go_simp
      refine LX_det (.pointer (some ⟨blk, off, none⟩)) (by kernel_rfl) rfl (fun w' hx _ => ?_) ?_
      · go_simp
      refine LX_det (.pointer (some ⟨blk, off + 1, none⟩)) (by kernel_rfl) rfl (fun w' hx _ => ?_) ?_
      · go_simp
      refine LX_det (.slice (some ⟨b1, o1, none⟩) zs.length c1) (by kernel_rfl) rfl (fun w' hx _ => ?_) ?_
      · have m0 := (Below.cell hx (p := ⟨blk, off + 1, none⟩) hbl).trans k1
        go_simp
      refine LX_det (.int .i64 k) (by kernel_rfl) rfl (fun w' hx _ => ?_) ?_
      · go_simp
      refine LX_det (.pointer (some ⟨b1, o1 + k, none⟩)) (by kernel_rfl) rfl (fun w' hx _ => ?_) ?_
      · go_simp
      refine LX_det (.int .i64 x) (by kernel_rfl) rfl (fun w' hx _ => ?_) ?_
      · have m0 := (Below.cell hx (p := ⟨b1, o1 + k, none⟩) hb1).trans hc1
        go_simp
      refine LX_det (.int .i64 s) (by kernel_rfl) rfl (fun w' hx _ => ?_) ?_
      · go_simp
      refine LX_det (.int .i64 z) (by kernel_rfl) rfl (fun w' hx _ => ?_) ?_
      · go_simp
      refine LX_det (.pointer (some ⟨blk, off, none⟩)) (by kernel_rfl) rfl (fun w' hx _ => ?_) ?_
      · go_simp
      refine LX_det (.pointer (some ⟨blk, off, none⟩)) (by kernel_rfl) rfl (fun w' hx _ => ?_) ?_
      · go_simp
      refine LX_det (.pointer (some ⟨blk, off + 1, none⟩)) (by kernel_rfl) rfl (fun w' hx _ => ?_) ?_
      · go_simp
      refine LX_det (.slice (some ⟨b1, o1, none⟩) zs.length c1) (by kernel_rfl) rfl (fun w' hx _ => ?_) ?_
      · have m0 := (Below.cell hx (p := ⟨blk, off + 1, none⟩) hbl).trans k1
        go_simp
      refine LX_det (.int .i64 k) (by kernel_rfl) rfl (fun w' hx _ => ?_) ?_
      · go_simp
      refine LX_det (.pointer (some ⟨b1, o1 + k, none⟩)) (by kernel_rfl) rfl (fun w' hx _ => ?_) ?_
      · go_simp
      refine LX_det (.int .i64 x) (by kernel_rfl) rfl (fun w' hx _ => ?_) ?_
      · have m0 := (Below.cell hx (p := ⟨b1, o1 + k, none⟩) hb1).trans hc1
        go_simp
      refine LX_det (.bool (z == x)) (by kernel_rfl) rfl (fun w' hx _ => ?_) ?_
      · go_simp
      refine LX_nil fun w2 hx _ => ?_
      refine wpList_nil ?_
      simp only [Act.put, List.setIfInBounds_toArray, List.set_cons_succ, List.set_cons_zero]
      replace X := X.trans hx
      clear hx hc1 hb1 k0 k1 hbl hbx2 hz
      by_cases hzx : z = x
      · have HT : Hid ((zs.any fun q => bits .and .i64 q s == q) = true) := by
          show _ = _
          rw [List.any_eq_true]
          exact ⟨zs[k], List.getElem_mem hlt, by rw [HXE.out, HZE.out]; simpa using hzx⟩
        go_wp2_with fail
        go_ret
        exact ⟨ret_bool HT.out.symm, X⟩
      · have HF : Hid ((bits .and .i64 zs[k] s == zs[k]) = false) := by show _ = _; rw [HXE.out, HZE.out]; simpa using hzx
        go_wp2_with fail
        go_roundw
        case rel =>
          refine ⟨k + 1, by omega, by go_num, fun j hj hj' => ?_, X⟩
          by_cases e : j = k
          · subst e; exact HF.out
          · exact HN.out j (by omega) hj'
        case measure => simp [intOf]; omega
    · have HF : Hid ((zs.any fun q => bits .and .i64 q s == q) = false) := by
        show _ = _
        rw [List.any_eq_false]
        intro q hq
        obtain ⟨j, hj, rfl⟩ := List.getElem_of_mem hq
        have := HN.out j (by omega) hj
        simpa using this
      go_wp2_with fail
      go_ret
      exact ⟨ret_bool HF.out.symm, X⟩

theorem l03Works_at (p : Int) (s : Nat) (v : Value) (ns : List Nat) (blk off : Nat) (w : World) (hbx : By w blk off (.int .i64 p) v) (r : RdI w v (ups ns)) (hn : ∀ n ∈ ns, n < 9223372036854775808) (hs : s < 9223372036854775808) :
    Calls Try.prog 77 #[.pointer (some ⟨blk, off, none⟩), .int .i64 s] w fun e w' => e = .returned (.bool (worksB ns s)) ∧ Ext w w' := by
  rw [← worksS_ups hn hs]; exact l03WorksI_at p s v (ups ns) blk off w hbx r
end Go.Proofs.Ytepgkhcfeaklmaa
