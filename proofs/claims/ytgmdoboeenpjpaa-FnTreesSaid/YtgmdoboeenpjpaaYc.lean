
/- Valid systems, as the reference looks at them. Condition: a list of ints that can be read. -/
import Derived.Test.YtgmdoboeenpjpaaYA
import Derived.Test.YtgmdoboeenpjpaaTW
namespace Go.Proofs.Ytgmdoboeenpjpaa
open Go Go.RowKit Go.ChangeShapes Go.WideShapes Go.ChangeAt

attribute [local irreducible] LX

theorem pow10' {p : Int} (h0 : 1 ≤ p) (h1 : p ≤ 10) : (2 : Int) ^ p.toNat ≤ 1024 ∧ (2 : Int) ≤ 2 ^ p.toNat := by
  obtain ⟨k, rfl⟩ := Int.eq_ofNat_of_zero_le (show 0 ≤ p by omega)
  simp only [Int.toNat_natCast]
  have : k = 1 ∨ k = 2 ∨ k = 3 ∨ k = 4 ∨ k = 5 ∨ k = 6 ∨ k = 7 ∨ k = 8 ∨ k = 9 ∨ k = 10 := by omega
  rcases this with h | h | h | h | h | h | h | h | h | h <;> subst h <;> decide

/-- Neither of two sets has all parts of the other one, by the ints' bits. -/
def apartI (x y : Int) : Bool := !(bits .and .i64 x y == y) && !(bits .and .i64 x y == x)
/-- A path of a system stands where it may. -/
def rowI (p : Int) (zs : List Int) (i : Nat) : Bool :=
  inB (zs.getD i 0) 1 (2 ^ p.toNat - 1) && (decide (i = 0) || decide (zs.getD (i - 1) 0 < zs.getD i 0)) && (List.range i).all fun k => apartI (zs.getD i 0) (zs.getD k 0)
def sysI (p : Int) (zs : List Int) : Bool := inB p 1 10 && inB zs.length 1 64 && (List.range zs.length).all (rowI p zs)
theorem sysI_no {p : Int} {zs : List Int} {k : Nat} (hk : k < zs.length) (h : rowI p zs k = false) : sysI p zs = false := by
  unfold sysI
  have : (List.range zs.length).all (rowI p zs) = false := by rw [List.all_eq_false]; exact ⟨k, List.mem_range.2 hk, by rw [h]; simp⟩
  rw [this, Bool.and_false]

theorem l03PartsZ_any (p : Int) (w : World) : Calls Try.prog 74 #[.int .i64 p] w fun e w' => e = .returned (.bool (inB p 1 10)) ∧ w = w' := by
  go_enter Try.func74, Try.ntmps74
  go_wp2_with fail
  refine (l00In_any _ _ _ _).mono ?_
  rintro e w1 ⟨rfl, rfl⟩
  generalize hz : inB p 1 10 = z
  go_wp2_with fail
  go_ret
  exact ⟨ret_bool hz.symm, rfl⟩

set_option maxRecDepth 100000 in
set_option maxHeartbeats 8000000 in
theorem l03Is_any (p : Int) (v : Value) (zs : List Int) (blk : Nat) (w : World) (hbx : Bx w blk [.int .i64 p, v]) (r : RdI w v zs) :
    Calls Try.prog 49 #[.pointer (some ⟨blk, 0, none⟩)] w fun e w' => e = .returned (.bool (sysI p zs)) ∧ Ext w w' := by
  have r' := r
  obtain ⟨-, a1, c1, rfl, p1, p2, -, -⟩ := r
  unfold maxLen at p2
  have hlen : zs.length ≤ 9223372036854775807 := by omega
  clear p1 p2
  obtain ⟨k0, k1⟩ := hbx.two
  cases hp : inB p 1 10
  · have HF : Hid (sysI p zs = false) := by show _ = _; simp [sysI, hp]
    have HP := Lib.hid hp
    clear hp
    go_enter Try.func49, Try.ntmps49
    go_wp2_with fail
    refine (l03PartsZ_any p _).mono ?_
    rintro e w1 ⟨rfl, rfl⟩
    rw [HP.out]
    go_wp2_with fail
    go_ret
    exact ⟨ret_bool HF.out.symm, Ext.refl _⟩
  have hp2 := inB_iff.1 hp
  have hpw := pow10' hp2.1 hp2.2
  have hp0 : 0 ≤ p := by omega
  have hp63 : p < 64 := by omega
  cases hl : inB zs.length 1 64
  · have HF : Hid (sysI p zs = false) := by show _ = _; simp [sysI, hl]
    have HP := Lib.hid hp
    have hl2 : ¬ (1 ≤ (zs.length : Int) ∧ (zs.length : Int) ≤ 64) := fun h => by rw [inB_iff.2 h] at hl; cases hl
    clear hp hl
    by_cases h1 : (zs.length : Int) < 1
    · go_enter Try.func49, Try.ntmps49
      go_wp2_with fail
      refine (l03PartsZ_any p _).mono ?_
      rintro e w1 ⟨rfl, rfl⟩
      rw [HP.out]
      go_wp2_with fail
      go_ret
      exact ⟨ret_bool HF.out.symm, Ext.refl _⟩
    · have h2 : 64 < (zs.length : Int) := by omega
      go_enter Try.func49, Try.ntmps49
      go_wp2_with fail
      refine (l03PartsZ_any p _).mono ?_
      rintro e w1 ⟨rfl, rfl⟩
      rw [HP.out]
      go_wp2_with fail
      go_ret
      exact ⟨ret_bool HF.out.symm, Ext.refl _⟩
  have hl2 := inB_iff.1 hl
  have HP := Lib.hid hp
  have HL := Lib.hid hl
  have hl3 : zs.length ≤ 64 := by omega
  clear hp hl hlen
  go_enter Try.func49, Try.ntmps49
  go_wp2_with fail
  refine (l03PartsZ_any p _).mono ?_
  rintro e w1 ⟨rfl, rfl⟩
  rw [HP.out]
  go_wp2_with fail
  clear k0 k1
  go_loopw [33] (fun i wr => ∃ k : Nat, k ≤ zs.length ∧ i = .int .i64 k ∧ Hid (∀ j, j < k → rowI p zs j = true) ∧ Ext w wr) (fun i _ => zs.length - (intOf i).toNat)
  case atStart => exact ⟨0, Nat.zero_le _, rfl, fun j h => absurd h (Nat.not_lt_zero _), Ext.refl _⟩
  case round =>
    obtain ⟨k, hk, rfl, HR, X⟩ := hrel
    by_cases hlt : k < zs.length
    · have hbx2 := hbx.ext X
      obtain ⟨k0, k1⟩ := hbx2.two
      have hbl := hbx2.1
      obtain ⟨b1, o1, rfl, hb1, hc1⟩ := (r'.ext X).at hlt
      have hgk : Hid (zs.getD k 0 = zs[k]) := by show _ = _; simp [hlt]
      have hki : (k : Int) < (zs.length : Int) := by omega
      generalize hx : zs[k] = x at *
      have HX : Hid (zs[k] = x) := hx
      clear hx
      have hM1 : (2 : Int) ^ p.toNat - 1 ≤ 1023 := by omega
      have s1 : IntKind.i64.wrap (2 ^ p.toNat) = 2 ^ p.toNat := IntWalk.i64_in _ (by omega)
      have s2 : IntKind.i64.wrap (2 ^ p.toNat - 1) = 2 ^ p.toNat - 1 := IntWalk.i64_in _ (by omega)
      have hkl : (k : Int) < (zs.length : Int) := by omega
      obtain ⟨wo, rfl⟩ : ∃ wo : World, wo = wr := ⟨_, rfl⟩
      go_wp2_with fail
      cases hin : inB x 1 (2 ^ p.toNat - 1)
      · have HF : Hid (sysI p zs = false) := sysI_no hlt (by unfold rowI; rw [hgk.out, hin, Bool.false_and, Bool.false_and])
        have HIN := Lib.hid hin
        clear hin
        refine wp_region_rel 37 (fun _ v => v = .bool false) (fun _ _ _ => True) (by kernel_rfl) (by kernel_rfl) (by kernel_rfl) ?_
        dsimp only [List.take, List.drop, List.length]
        refine LX_det (.pointer (some ⟨blk, 0, none⟩)) (by kernel_rfl) rfl (fun w' hx _ => ?_) ?_
        · go_simp
        refine LX_det (.pointer (some ⟨blk, 0, none⟩)) (by kernel_rfl) rfl (fun w' hx _ => ?_) ?_
        · go_simp
        refine LX_det (.pointer (some ⟨blk, 1, none⟩)) (by kernel_rfl) rfl (fun w' hx _ => ?_) ?_
        · go_simp
        refine LX_det (.slice (some ⟨b1, o1, none⟩) zs.length c1) (by kernel_rfl) rfl (fun w' hx _ => ?_) ?_
        · have m0 := (Below.cell hx (p := ⟨blk, 1, none⟩) hbl).trans k1
          go_simp
        refine LX_det (.int .i64 k) (by kernel_rfl) rfl (fun w' hx _ => ?_) ?_
        · go_simp
        refine LX_det (.pointer (some ⟨b1, o1 + k, none⟩)) (by kernel_rfl) rfl (fun w' hx _ => ?_) ?_
        · go_simp
        refine LX_det (.int .i64 x) (by kernel_rfl) rfl (fun w' hx _ => ?_) ?_
        · have m0 := (Below.cell hx (p := ⟨b1, o1 + k, none⟩) hb1).trans hc1
          go_simp
        refine LX_det (.pointer (some ⟨blk, 0, none⟩)) (by kernel_rfl) rfl (fun w' hx _ => ?_) ?_
        · go_simp
        refine LX_det (.pointer (some ⟨blk, 0, none⟩)) (by kernel_rfl) rfl (fun w' hx _ => ?_) ?_
        · go_simp
        refine LX_det (.pointer (some ⟨blk, 0, none⟩)) (by kernel_rfl) rfl (fun w' hx _ => ?_) ?_
        · go_simp
        refine LX_det (.int .i64 p) (by kernel_rfl) rfl (fun w' hx _ => ?_) ?_
        · have m0 := (Below.cell hx (p := ⟨blk, 0, none⟩) hbl).trans k0
          go_simp
        refine LX_det (.int .i64 (2 ^ p.toNat)) (by kernel_rfl) rfl (fun w' hx _ => ?_) ?_
        · go_simp
        refine LX_det (.int .i64 (2 ^ p.toNat - 1)) (by kernel_rfl) rfl (fun w' hx _ => ?_) ?_
        · go_simp
        refine LX_call (by kernel_rfl) rfl (fun _ => St.top) (fun w' hx _ => ?_) ?_
        · go_simp
          refine UponC.enter ((l00In_eq HIN.out _).mono ?_)
          rintro e w'' ⟨rfl, rfl⟩
          exact ⟨_, rfl, Ext.refl _, rfl, trivial⟩
        rintro _ rfl
        refine LX_det (.bool true) (by kernel_rfl) rfl (fun w' hx _ => ?_) ?_
        · go_simp
        refine LX_det (.bool true) (by kernel_rfl) rfl (fun w' hx _ => ?_) ?_
        · go_simp
        iterate 20 refine LX_skip (by kernel_rfl) ?_
        refine LX_det (.bool true) (by kernel_rfl) rfl (fun w' hx _ => ?_) ?_
        · go_simp
        refine LX_nil fun w2 hx _ => ?_
        refine wpList_nil ?_
        simp only [Act.put, List.setIfInBounds_toArray, List.set_cons_succ, List.set_cons_zero]
        go_wp2_with fail
        go_ret
        exact ⟨ret_bool HF.out.symm, X.trans hx⟩
      · have HIN := Lib.hid hin
        clear hin
        by_cases hk0 : k = 0
        · have HPR : Hid ((decide (k = 0) || decide (zs.getD (k - 1) 0 < zs.getD k 0)) = true) := by show _ = _; rw [decide_eq_true hk0, Bool.true_or]
          have hk2 : ¬ (0 : Int) < (k : Int) := by omega
          have hk3 : ¬ 0 < k := by omega
          clear hk0
          refine wp_region_rel 37 (fun _ v => v = .bool true) (fun _ _ _ => True) (by kernel_rfl) (by kernel_rfl) (by kernel_rfl) ?_
          dsimp only [List.take, List.drop, List.length]
          refine LX_det (.pointer (some ⟨blk, 0, none⟩)) (by kernel_rfl) rfl (fun w' hx _ => ?_) ?_
          · go_simp
          refine LX_det (.pointer (some ⟨blk, 0, none⟩)) (by kernel_rfl) rfl (fun w' hx _ => ?_) ?_
          · go_simp
          refine LX_det (.pointer (some ⟨blk, 1, none⟩)) (by kernel_rfl) rfl (fun w' hx _ => ?_) ?_
          · go_simp
          refine LX_det (.slice (some ⟨b1, o1, none⟩) zs.length c1) (by kernel_rfl) rfl (fun w' hx _ => ?_) ?_
          · have m0 := (Below.cell hx (p := ⟨blk, 1, none⟩) hbl).trans k1
            go_simp
          refine LX_det (.int .i64 k) (by kernel_rfl) rfl (fun w' hx _ => ?_) ?_
          · go_simp
          refine LX_det (.pointer (some ⟨b1, o1 + k, none⟩)) (by kernel_rfl) rfl (fun w' hx _ => ?_) ?_
          · go_simp
          refine LX_det (.int .i64 x) (by kernel_rfl) rfl (fun w' hx _ => ?_) ?_
          · have m0 := (Below.cell hx (p := ⟨b1, o1 + k, none⟩) hb1).trans hc1
            go_simp
          refine LX_det (.pointer (some ⟨blk, 0, none⟩)) (by kernel_rfl) rfl (fun w' hx _ => ?_) ?_
          · go_simp
          refine LX_det (.pointer (some ⟨blk, 0, none⟩)) (by kernel_rfl) rfl (fun w' hx _ => ?_) ?_
          · go_simp
          refine LX_det (.pointer (some ⟨blk, 0, none⟩)) (by kernel_rfl) rfl (fun w' hx _ => ?_) ?_
          · go_simp
          refine LX_det (.int .i64 p) (by kernel_rfl) rfl (fun w' hx _ => ?_) ?_
          · have m0 := (Below.cell hx (p := ⟨blk, 0, none⟩) hbl).trans k0
            go_simp
          refine LX_det (.int .i64 (2 ^ p.toNat)) (by kernel_rfl) rfl (fun w' hx _ => ?_) ?_
          · go_simp
          refine LX_det (.int .i64 (2 ^ p.toNat - 1)) (by kernel_rfl) rfl (fun w' hx _ => ?_) ?_
          · go_simp
          refine LX_call (by kernel_rfl) rfl (fun _ => St.top) (fun w' hx _ => ?_) ?_
          · go_simp
            refine UponC.enter ((l00In_eq HIN.out _).mono ?_)
            rintro e w'' ⟨rfl, rfl⟩
            exact ⟨_, rfl, Ext.refl _, rfl, trivial⟩
          rintro _ rfl
          refine LX_det (.bool false) (by kernel_rfl) rfl (fun w' hx _ => ?_) ?_
          · go_simp
          refine LX_det (.bool false) (by kernel_rfl) rfl (fun w' hx _ => ?_) ?_
          · go_simp
          refine LX_det (.int .i64 k) (by kernel_rfl) rfl (fun w' hx _ => ?_) ?_
          · go_simp
          refine LX_det (.bool false) (by kernel_rfl) rfl (fun w' hx _ => ?_) ?_
          · go_simp
          refine LX_det (.bool false) (by kernel_rfl) rfl (fun w' hx _ => ?_) ?_
          · go_simp
          iterate 16 refine LX_skip (by kernel_rfl) ?_
          refine LX_det (.bool false) (by kernel_rfl) rfl (fun w' hx _ => ?_) ?_
          · go_simp
          refine LX_det (.bool false) (by kernel_rfl) rfl (fun w' hx _ => ?_) ?_
          · go_simp
          refine LX_nil fun w2 hx _ => ?_
          refine wpList_nil ?_
          simp only [Act.put, List.setIfInBounds_toArray, List.set_cons_succ, List.set_cons_zero]
          clear hk2 hk3
          go_wp2_with fail
          go_loopw [4] (fun i wq => ∃ j : Nat, j ≤ k ∧ i = .int .i64 j ∧ Hid (∀ l, l < j → apartI x (zs.getD l 0) = true) ∧ Ext wo wq) (fun i _ => k - (intOf i).toNat)
          case atStart => exact ⟨0, Nat.zero_le _, rfl, fun j h => absurd h (Nat.not_lt_zero _), hx⟩
          case round =>
            clear hx k0 k1 hc1 hb1
            obtain ⟨j, hj, rfl, HA, Z⟩ := hrel
            by_cases hlt2 : j < k
            · have hji : (j : Int) < (k : Int) := by omega
              obtain ⟨k0, k1⟩ := (hbx2.ext Z).two
              have hbl := (hbx2.ext Z).1
              obtain ⟨b2, o2, e2, hb1, hc1⟩ := (r'.ext (X.trans Z)).at hlt
              cases e2
              rw [HX.out] at hc1
              obtain ⟨b2, o2, e2, -, hc2⟩ := (r'.ext (X.trans Z)).at (show j < zs.length by omega)
              cases e2
              have hgj : Hid (zs.getD j 0 = zs[j]) := by show _ = _; simp [show j < zs.length by omega]
              generalize zs[j] = y at *
              obtain ⟨z, hz⟩ : ∃ z, bits .and .i64 x y = z := ⟨_, rfl⟩
              have HZ : Hid (apartI x y = (!(z == y) && !(z == x))) := by show _ = _; unfold apartI; rw [hz]
              have hjl : (j : Int) < (zs.length : Int) := by omega
              go_wp2_with fail
              refine wp_region_rel 15 (fun _ _ => True) (fun _ _ _ => True) (by kernel_rfl) (by kernel_rfl) (by kernel_rfl) ?_
              dsimp only [List.take, List.drop, List.length]
              refine LX_det (.pointer (some ⟨blk, 0, none⟩)) (by kernel_rfl) rfl (fun w' hx _ => ?_) ?_
              · go_simp
              refine LX_det (.pointer (some ⟨blk, 0, none⟩)) (by kernel_rfl) rfl (fun w' hx _ => ?_) ?_
              · go_simp
              refine LX_det (.pointer (some ⟨blk, 1, none⟩)) (by kernel_rfl) rfl (fun w' hx _ => ?_) ?_
              · go_simp
              refine LX_det (.slice (some ⟨b1, o1, none⟩) zs.length c1) (by kernel_rfl) rfl (fun w' hx _ => ?_) ?_
              · have m0 := (Below.cell hx (p := ⟨blk, 1, none⟩) hbl).trans k1
                go_simp
              refine LX_det (.int .i64 k) (by kernel_rfl) rfl (fun w' hx _ => ?_) ?_
              · go_simp
              refine LX_det (.pointer (some ⟨b1, o1 + k, none⟩)) (by kernel_rfl) rfl (fun w' hx _ => ?_) ?_
              · go_simp
              refine LX_det (.int .i64 x) (by kernel_rfl) rfl (fun w' hx _ => ?_) ?_
              · have m0 := (Below.cell hx (p := ⟨b1, o1 + k, none⟩) hb1).trans hc1
                go_simp
              refine LX_det (.pointer (some ⟨blk, 0, none⟩)) (by kernel_rfl) rfl (fun w' hx _ => ?_) ?_
              · go_simp
              refine LX_det (.pointer (some ⟨blk, 0, none⟩)) (by kernel_rfl) rfl (fun w' hx _ => ?_) ?_
              · go_simp
              refine LX_det (.pointer (some ⟨blk, 1, none⟩)) (by kernel_rfl) rfl (fun w' hx _ => ?_) ?_
              · go_simp
              refine LX_det (.slice (some ⟨b1, o1, none⟩) zs.length c1) (by kernel_rfl) rfl (fun w' hx _ => ?_) ?_
              · have m0 := (Below.cell hx (p := ⟨blk, 1, none⟩) hbl).trans k1
                go_simp
              refine LX_det (.int .i64 j) (by kernel_rfl) rfl (fun w' hx _ => ?_) ?_
              · go_simp
              refine LX_det (.pointer (some ⟨b1, o1 + j, none⟩)) (by kernel_rfl) rfl (fun w' hx _ => ?_) ?_
              · go_simp
              refine LX_det (.int .i64 y) (by kernel_rfl) rfl (fun w' hx _ => ?_) ?_
              · have m0 := (Below.cell hx (p := ⟨b1, o1 + j, none⟩) hb1).trans hc2
                go_simp
              refine LX_det (.int .i64 z) (by kernel_rfl) rfl (fun w' hx _ => ?_) ?_
              · go_simp
              refine LX_nil fun w3 hx3 _ => ?_
              simp only [Act.put, List.setIfInBounds_toArray, List.set_cons_succ, List.set_cons_zero]
              replace Z := Z.trans hx3
              replace k0 := (Below.cell hx3 (p := ⟨blk, 0, none⟩) hbl).trans k0
              replace k1 := (Below.cell hx3 (p := ⟨blk, 1, none⟩) hbl).trans k1
              replace hc1 := (Below.cell hx3 (p := ⟨b1, o1 + k, none⟩) hb1).trans hc1
              replace hc2 := (Below.cell hx3 (p := ⟨b1, o1 + j, none⟩) hb1).trans hc2
              clear hx3
              by_cases h1 : z = y
              · have h1b : (z == y) = true := by simpa using h1
                have HF : Hid (sysI p zs = false) := sysI_no hlt (by
                  unfold rowI
                  have : (List.range k).all (fun l => apartI (zs.getD k 0) (zs.getD l 0)) = false := by
                    rw [List.all_eq_false]; exact ⟨j, List.mem_range.2 hlt2, by rw [hgk.out, hgj.out, HZ.out, h1b]; simp⟩
                  rw [this, Bool.and_false])
                clear h1b hz
                go_wp2_with fail
                go_ret
                exact ⟨ret_bool HF.out.symm, X.trans Z⟩
              · have h1b : (z == y) = false := by simpa using h1
                by_cases h2 : z = x
                · have h2b : (z == x) = true := by simpa using h2
                  have HF : Hid (sysI p zs = false) := sysI_no hlt (by
                    unfold rowI
                    have : (List.range k).all (fun l => apartI (zs.getD k 0) (zs.getD l 0)) = false := by
                      rw [List.all_eq_false]; exact ⟨j, List.mem_range.2 hlt2, by rw [hgk.out, hgj.out, HZ.out, h2b]; simp⟩
                    rw [this, Bool.and_false])
                  clear h2b hz
                  go_wp2_with fail
                  go_ret
                  exact ⟨ret_bool HF.out.symm, X.trans Z⟩
                · have h2b : (z == x) = false := by simpa using h2
                  have HY : Hid (apartI x (zs.getD j 0) = true) := by show _ = _; rw [hgj.out, HZ.out, h1b, h2b]; rfl
                  clear hz
                  go_wp2_with fail
                  go_roundw
                  case rel =>
                    refine ⟨j + 1, by omega, by go_num, fun l hl => ?_, Z⟩
                    by_cases e : l = j
                    · subst e; exact HY.out
                    · exact HA.out l (by omega)
                  case measure => simp [intOf]; omega
            · obtain rfl : j = k := by omega
              have HROW : Hid (rowI p zs j = true) := by
                show _ = _
                unfold rowI
                rw [Bool.and_eq_true, Bool.and_eq_true]
                refine ⟨⟨by rw [hgk.out]; exact HIN.out, HPR.out⟩, List.all_eq_true.2 fun l hl => ?_⟩
                rw [hgk.out]; exact HA.out l (List.mem_range.1 hl)
              go_wp2_with fail
              go_roundw
              case rel =>
                refine ⟨j + 1, by omega, by go_num, fun l hl => ?_, X.trans Z⟩
                by_cases e : l = j
                · subst e; exact HROW.out
                · exact HR.out l (by omega)
              case measure => simp [intOf]; omega
        · have hk1 : k - 1 < zs.length := by omega
          obtain ⟨b2, o2, e2, -, hc2⟩ := (r'.ext X).at hk1
          cases e2
          have hgy : Hid (zs.getD (k - 1) 0 = zs[k - 1]) := by show _ = _; simp [hk1]
          generalize zs[k - 1] = y at *
          have hk2 : (0 : Int) < (k : Int) := by omega
          have hk5 : 0 < k := by omega
          obtain ⟨q, hq⟩ : ∃ q, q = k - 1 := ⟨_, rfl⟩
          have s3 : IntKind.i64.wrap ((k : Int) - 1) = (q : Int) := by rw [IntWalk.i64_in _ (by omega)]; omega
          have hk4 : (q : Int) < (zs.length : Int) := by omega
          have hk6 : q < zs.length := by omega
          rw [← hq] at hc2
          have HQ := Lib.hid hq
          clear hq
          by_cases hxy : x ≤ y
          · have HF : Hid (sysI p zs = false) := sysI_no hlt (by
              unfold rowI
              have h1 : decide (k = 0) = false := by simpa using hk0
              have h2 : decide (zs.getD (k - 1) 0 < zs.getD k 0) = false := by rw [hgk.out, hgy.out]; simpa using hxy
              rw [h1, h2, Bool.or_self, Bool.and_false, Bool.false_and])
            refine wp_region_rel 37 (fun _ v => v = .bool true) (fun _ _ _ => True) (by kernel_rfl) (by kernel_rfl) (by kernel_rfl) ?_
            dsimp only [List.take, List.drop, List.length]
            refine LX_det (.pointer (some ⟨blk, 0, none⟩)) (by kernel_rfl) rfl (fun w' hx _ => ?_) ?_
            · go_simp
            refine LX_det (.pointer (some ⟨blk, 0, none⟩)) (by kernel_rfl) rfl (fun w' hx _ => ?_) ?_
            · go_simp
            refine LX_det (.pointer (some ⟨blk, 1, none⟩)) (by kernel_rfl) rfl (fun w' hx _ => ?_) ?_
            · go_simp
            refine LX_det (.slice (some ⟨b1, o1, none⟩) zs.length c1) (by kernel_rfl) rfl (fun w' hx _ => ?_) ?_
            · have m0 := (Below.cell hx (p := ⟨blk, 1, none⟩) hbl).trans k1
              go_simp
            refine LX_det (.int .i64 k) (by kernel_rfl) rfl (fun w' hx _ => ?_) ?_
            · go_simp
            refine LX_det (.pointer (some ⟨b1, o1 + k, none⟩)) (by kernel_rfl) rfl (fun w' hx _ => ?_) ?_
            · go_simp
            refine LX_det (.int .i64 x) (by kernel_rfl) rfl (fun w' hx _ => ?_) ?_
            · have m0 := (Below.cell hx (p := ⟨b1, o1 + k, none⟩) hb1).trans hc1
              go_simp
            refine LX_det (.pointer (some ⟨blk, 0, none⟩)) (by kernel_rfl) rfl (fun w' hx _ => ?_) ?_
            · go_simp
            refine LX_det (.pointer (some ⟨blk, 0, none⟩)) (by kernel_rfl) rfl (fun w' hx _ => ?_) ?_
            · go_simp
            refine LX_det (.pointer (some ⟨blk, 0, none⟩)) (by kernel_rfl) rfl (fun w' hx _ => ?_) ?_
            · go_simp
            refine LX_det (.int .i64 p) (by kernel_rfl) rfl (fun w' hx _ => ?_) ?_
            · have m0 := (Below.cell hx (p := ⟨blk, 0, none⟩) hbl).trans k0
              go_simp
            refine LX_det (.int .i64 (2 ^ p.toNat)) (by kernel_rfl) rfl (fun w' hx _ => ?_) ?_
            · go_simp
            refine LX_det (.int .i64 (2 ^ p.toNat - 1)) (by kernel_rfl) rfl (fun w' hx _ => ?_) ?_
            · go_simp
            refine LX_call (by kernel_rfl) rfl (fun _ => St.top) (fun w' hx _ => ?_) ?_
            · go_simp
              refine UponC.enter ((l00In_eq HIN.out _).mono ?_)
              rintro e w'' ⟨rfl, rfl⟩
              exact ⟨_, rfl, Ext.refl _, rfl, trivial⟩
            rintro _ rfl
            refine LX_det (.bool false) (by kernel_rfl) rfl (fun w' hx _ => ?_) ?_
            · go_simp
            refine LX_det (.bool false) (by kernel_rfl) rfl (fun w' hx _ => ?_) ?_
            · go_simp
            refine LX_det (.int .i64 k) (by kernel_rfl) rfl (fun w' hx _ => ?_) ?_
            · go_simp
            refine LX_det (.bool true) (by kernel_rfl) rfl (fun w' hx _ => ?_) ?_
            · go_simp
            refine LX_det (.bool true) (by kernel_rfl) rfl (fun w' hx _ => ?_) ?_
            · go_simp
            refine LX_det (.pointer (some ⟨blk, 0, none⟩)) (by kernel_rfl) rfl (fun w' hx _ => ?_) ?_
            · go_simp
            refine LX_det (.pointer (some ⟨blk, 0, none⟩)) (by kernel_rfl) rfl (fun w' hx _ => ?_) ?_
            · go_simp
            refine LX_det (.pointer (some ⟨blk, 1, none⟩)) (by kernel_rfl) rfl (fun w' hx _ => ?_) ?_
            · go_simp
            refine LX_det (.slice (some ⟨b1, o1, none⟩) zs.length c1) (by kernel_rfl) rfl (fun w' hx _ => ?_) ?_
            · have m0 := (Below.cell hx (p := ⟨blk, 1, none⟩) hbl).trans k1
              go_simp
            refine LX_det (.int .i64 k) (by kernel_rfl) rfl (fun w' hx _ => ?_) ?_
            · go_simp
            refine LX_det (.pointer (some ⟨b1, o1 + k, none⟩)) (by kernel_rfl) rfl (fun w' hx _ => ?_) ?_
            · go_simp
            refine LX_det (.int .i64 x) (by kernel_rfl) rfl (fun w' hx _ => ?_) ?_
            · have m0 := (Below.cell hx (p := ⟨b1, o1 + k, none⟩) hb1).trans hc1
              go_simp
            refine LX_det (.pointer (some ⟨blk, 0, none⟩)) (by kernel_rfl) rfl (fun w' hx _ => ?_) ?_
            · go_simp
            refine LX_det (.pointer (some ⟨blk, 0, none⟩)) (by kernel_rfl) rfl (fun w' hx _ => ?_) ?_
            · go_simp
            refine LX_det (.pointer (some ⟨blk, 1, none⟩)) (by kernel_rfl) rfl (fun w' hx _ => ?_) ?_
            · go_simp
            refine LX_det (.slice (some ⟨b1, o1, none⟩) zs.length c1) (by kernel_rfl) rfl (fun w' hx _ => ?_) ?_
            · have m0 := (Below.cell hx (p := ⟨blk, 1, none⟩) hbl).trans k1
              go_simp
            refine LX_det (.int .i64 k) (by kernel_rfl) rfl (fun w' hx _ => ?_) ?_
            · go_simp
            refine LX_det (.int .i64 q) (by kernel_rfl) rfl (fun w' hx _ => ?_) ?_
            · go_simp
            refine LX_det (.pointer (some ⟨b1, o1 + q, none⟩)) (by kernel_rfl) rfl (fun w' hx _ => ?_) ?_
            · go_simp
            refine LX_det (.int .i64 y) (by kernel_rfl) rfl (fun w' hx _ => ?_) ?_
            · have m0 := (Below.cell hx (p := ⟨b1, o1 + q, none⟩) hb1).trans hc2
              go_simp
            refine LX_det (.bool true) (by kernel_rfl) rfl (fun w' hx _ => ?_) ?_
            · go_simp
            refine LX_det (.bool true) (by kernel_rfl) rfl (fun w' hx _ => ?_) ?_
            · go_simp
            refine LX_det (.bool true) (by kernel_rfl) rfl (fun w' hx _ => ?_) ?_
            · go_simp
            refine LX_nil fun w2 hx _ => ?_
            refine wpList_nil ?_
            simp only [Act.put, List.setIfInBounds_toArray, List.set_cons_succ, List.set_cons_zero]
            go_wp2_with fail
            go_ret
            exact ⟨ret_bool HF.out.symm, X.trans hx⟩
          · have HPR : Hid ((decide (k = 0) || decide (zs.getD (k - 1) 0 < zs.getD k 0)) = true) := by
              show _ = _
              have h2 : decide (zs.getD (k - 1) 0 < zs.getD k 0) = true := by rw [hgk.out, hgy.out]; simpa using hxy
              rw [h2, Bool.or_true]
            refine wp_region_rel 37 (fun _ v => v = .bool true) (fun _ _ _ => True) (by kernel_rfl) (by kernel_rfl) (by kernel_rfl) ?_
            dsimp only [List.take, List.drop, List.length]
            refine LX_det (.pointer (some ⟨blk, 0, none⟩)) (by kernel_rfl) rfl (fun w' hx _ => ?_) ?_
            · go_simp
            refine LX_det (.pointer (some ⟨blk, 0, none⟩)) (by kernel_rfl) rfl (fun w' hx _ => ?_) ?_
            · go_simp
            refine LX_det (.pointer (some ⟨blk, 1, none⟩)) (by kernel_rfl) rfl (fun w' hx _ => ?_) ?_
            · go_simp
            refine LX_det (.slice (some ⟨b1, o1, none⟩) zs.length c1) (by kernel_rfl) rfl (fun w' hx _ => ?_) ?_
            · have m0 := (Below.cell hx (p := ⟨blk, 1, none⟩) hbl).trans k1
              go_simp
            refine LX_det (.int .i64 k) (by kernel_rfl) rfl (fun w' hx _ => ?_) ?_
            · go_simp
            refine LX_det (.pointer (some ⟨b1, o1 + k, none⟩)) (by kernel_rfl) rfl (fun w' hx _ => ?_) ?_
            · go_simp
            refine LX_det (.int .i64 x) (by kernel_rfl) rfl (fun w' hx _ => ?_) ?_
            · have m0 := (Below.cell hx (p := ⟨b1, o1 + k, none⟩) hb1).trans hc1
              go_simp
            refine LX_det (.pointer (some ⟨blk, 0, none⟩)) (by kernel_rfl) rfl (fun w' hx _ => ?_) ?_
            · go_simp
            refine LX_det (.pointer (some ⟨blk, 0, none⟩)) (by kernel_rfl) rfl (fun w' hx _ => ?_) ?_
            · go_simp
            refine LX_det (.pointer (some ⟨blk, 0, none⟩)) (by kernel_rfl) rfl (fun w' hx _ => ?_) ?_
            · go_simp
            refine LX_det (.int .i64 p) (by kernel_rfl) rfl (fun w' hx _ => ?_) ?_
            · have m0 := (Below.cell hx (p := ⟨blk, 0, none⟩) hbl).trans k0
              go_simp
            refine LX_det (.int .i64 (2 ^ p.toNat)) (by kernel_rfl) rfl (fun w' hx _ => ?_) ?_
            · go_simp
            refine LX_det (.int .i64 (2 ^ p.toNat - 1)) (by kernel_rfl) rfl (fun w' hx _ => ?_) ?_
            · go_simp
            refine LX_call (by kernel_rfl) rfl (fun _ => St.top) (fun w' hx _ => ?_) ?_
            · go_simp
              refine UponC.enter ((l00In_eq HIN.out _).mono ?_)
              rintro e w'' ⟨rfl, rfl⟩
              exact ⟨_, rfl, Ext.refl _, rfl, trivial⟩
            rintro _ rfl
            refine LX_det (.bool false) (by kernel_rfl) rfl (fun w' hx _ => ?_) ?_
            · go_simp
            refine LX_det (.bool false) (by kernel_rfl) rfl (fun w' hx _ => ?_) ?_
            · go_simp
            refine LX_det (.int .i64 k) (by kernel_rfl) rfl (fun w' hx _ => ?_) ?_
            · go_simp
            refine LX_det (.bool true) (by kernel_rfl) rfl (fun w' hx _ => ?_) ?_
            · go_simp
            refine LX_det (.bool true) (by kernel_rfl) rfl (fun w' hx _ => ?_) ?_
            · go_simp
            refine LX_det (.pointer (some ⟨blk, 0, none⟩)) (by kernel_rfl) rfl (fun w' hx _ => ?_) ?_
            · go_simp
            refine LX_det (.pointer (some ⟨blk, 0, none⟩)) (by kernel_rfl) rfl (fun w' hx _ => ?_) ?_
            · go_simp
            refine LX_det (.pointer (some ⟨blk, 1, none⟩)) (by kernel_rfl) rfl (fun w' hx _ => ?_) ?_
            · go_simp
            refine LX_det (.slice (some ⟨b1, o1, none⟩) zs.length c1) (by kernel_rfl) rfl (fun w' hx _ => ?_) ?_
            · have m0 := (Below.cell hx (p := ⟨blk, 1, none⟩) hbl).trans k1
              go_simp
            refine LX_det (.int .i64 k) (by kernel_rfl) rfl (fun w' hx _ => ?_) ?_
            · go_simp
            refine LX_det (.pointer (some ⟨b1, o1 + k, none⟩)) (by kernel_rfl) rfl (fun w' hx _ => ?_) ?_
            · go_simp
            refine LX_det (.int .i64 x) (by kernel_rfl) rfl (fun w' hx _ => ?_) ?_
            · have m0 := (Below.cell hx (p := ⟨b1, o1 + k, none⟩) hb1).trans hc1
              go_simp
            refine LX_det (.pointer (some ⟨blk, 0, none⟩)) (by kernel_rfl) rfl (fun w' hx _ => ?_) ?_
            · go_simp
            refine LX_det (.pointer (some ⟨blk, 0, none⟩)) (by kernel_rfl) rfl (fun w' hx _ => ?_) ?_
            · go_simp
            refine LX_det (.pointer (some ⟨blk, 1, none⟩)) (by kernel_rfl) rfl (fun w' hx _ => ?_) ?_
            · go_simp
            refine LX_det (.slice (some ⟨b1, o1, none⟩) zs.length c1) (by kernel_rfl) rfl (fun w' hx _ => ?_) ?_
            · have m0 := (Below.cell hx (p := ⟨blk, 1, none⟩) hbl).trans k1
              go_simp
            refine LX_det (.int .i64 k) (by kernel_rfl) rfl (fun w' hx _ => ?_) ?_
            · go_simp
            refine LX_det (.int .i64 q) (by kernel_rfl) rfl (fun w' hx _ => ?_) ?_
            · go_simp
            refine LX_det (.pointer (some ⟨b1, o1 + q, none⟩)) (by kernel_rfl) rfl (fun w' hx _ => ?_) ?_
            · go_simp
            refine LX_det (.int .i64 y) (by kernel_rfl) rfl (fun w' hx _ => ?_) ?_
            · have m0 := (Below.cell hx (p := ⟨b1, o1 + q, none⟩) hb1).trans hc2
              go_simp
            refine LX_det (.bool false) (by kernel_rfl) rfl (fun w' hx _ => ?_) ?_
            · go_simp
            refine LX_det (.bool false) (by kernel_rfl) rfl (fun w' hx _ => ?_) ?_
            · go_simp
            refine LX_det (.bool false) (by kernel_rfl) rfl (fun w' hx _ => ?_) ?_
            · go_simp
            refine LX_nil fun w2 hx _ => ?_
            refine wpList_nil ?_
            simp only [Act.put, List.setIfInBounds_toArray, List.set_cons_succ, List.set_cons_zero]
            clear hc2 hgy hxy
            go_wp2_with fail
            go_loopw [4] (fun i wq => ∃ j : Nat, j ≤ k ∧ i = .int .i64 j ∧ Hid (∀ l, l < j → apartI x (zs.getD l 0) = true) ∧ Ext wo wq) (fun i _ => k - (intOf i).toNat)
            case atStart => exact ⟨0, Nat.zero_le _, rfl, fun j h => absurd h (Nat.not_lt_zero _), hx⟩
            case round =>
              clear hx k0 k1 hc1 hb1
              obtain ⟨j, hj, rfl, HA, Z⟩ := hrel
              by_cases hlt2 : j < k
              · have hji : (j : Int) < (k : Int) := by omega
                obtain ⟨k0, k1⟩ := (hbx2.ext Z).two
                have hbl := (hbx2.ext Z).1
                obtain ⟨b2, o2, e2, hb1, hc1⟩ := (r'.ext (X.trans Z)).at hlt
                cases e2
                rw [HX.out] at hc1
                obtain ⟨b2, o2, e2, -, hc2⟩ := (r'.ext (X.trans Z)).at (show j < zs.length by omega)
                cases e2
                have hgj : Hid (zs.getD j 0 = zs[j]) := by show _ = _; simp [show j < zs.length by omega]
                generalize zs[j] = y at *
                obtain ⟨z, hz⟩ : ∃ z, bits .and .i64 x y = z := ⟨_, rfl⟩
                have HZ : Hid (apartI x y = (!(z == y) && !(z == x))) := by show _ = _; unfold apartI; rw [hz]
                have hjl : (j : Int) < (zs.length : Int) := by omega
                go_wp2_with fail
                refine wp_region_rel 15 (fun _ _ => True) (fun _ _ _ => True) (by kernel_rfl) (by kernel_rfl) (by kernel_rfl) ?_
                dsimp only [List.take, List.drop, List.length]
                refine LX_det (.pointer (some ⟨blk, 0, none⟩)) (by kernel_rfl) rfl (fun w' hx _ => ?_) ?_
                · go_simp
                refine LX_det (.pointer (some ⟨blk, 0, none⟩)) (by kernel_rfl) rfl (fun w' hx _ => ?_) ?_
                · go_simp
                refine LX_det (.pointer (some ⟨blk, 1, none⟩)) (by kernel_rfl) rfl (fun w' hx _ => ?_) ?_
                · go_simp
                refine LX_det (.slice (some ⟨b1, o1, none⟩) zs.length c1) (by kernel_rfl) rfl (fun w' hx _ => ?_) ?_
                · have m0 := (Below.cell hx (p := ⟨blk, 1, none⟩) hbl).trans k1
                  go_simp
                refine LX_det (.int .i64 k) (by kernel_rfl) rfl (fun w' hx _ => ?_) ?_
                · go_simp
                refine LX_det (.pointer (some ⟨b1, o1 + k, none⟩)) (by kernel_rfl) rfl (fun w' hx _ => ?_) ?_
                · go_simp
                refine LX_det (.int .i64 x) (by kernel_rfl) rfl (fun w' hx _ => ?_) ?_
                · have m0 := (Below.cell hx (p := ⟨b1, o1 + k, none⟩) hb1).trans hc1
                  go_simp
                refine LX_det (.pointer (some ⟨blk, 0, none⟩)) (by kernel_rfl) rfl (fun w' hx _ => ?_) ?_
                · go_simp
                refine LX_det (.pointer (some ⟨blk, 0, none⟩)) (by kernel_rfl) rfl (fun w' hx _ => ?_) ?_
                · go_simp
                refine LX_det (.pointer (some ⟨blk, 1, none⟩)) (by kernel_rfl) rfl (fun w' hx _ => ?_) ?_
                · go_simp
                refine LX_det (.slice (some ⟨b1, o1, none⟩) zs.length c1) (by kernel_rfl) rfl (fun w' hx _ => ?_) ?_
                · have m0 := (Below.cell hx (p := ⟨blk, 1, none⟩) hbl).trans k1
                  go_simp
                refine LX_det (.int .i64 j) (by kernel_rfl) rfl (fun w' hx _ => ?_) ?_
                · go_simp
                refine LX_det (.pointer (some ⟨b1, o1 + j, none⟩)) (by kernel_rfl) rfl (fun w' hx _ => ?_) ?_
                · go_simp
                refine LX_det (.int .i64 y) (by kernel_rfl) rfl (fun w' hx _ => ?_) ?_
                · have m0 := (Below.cell hx (p := ⟨b1, o1 + j, none⟩) hb1).trans hc2
                  go_simp
                refine LX_det (.int .i64 z) (by kernel_rfl) rfl (fun w' hx _ => ?_) ?_
                · go_simp
                refine LX_nil fun w3 hx3 _ => ?_
                simp only [Act.put, List.setIfInBounds_toArray, List.set_cons_succ, List.set_cons_zero]
                replace Z := Z.trans hx3
                replace k0 := (Below.cell hx3 (p := ⟨blk, 0, none⟩) hbl).trans k0
                replace k1 := (Below.cell hx3 (p := ⟨blk, 1, none⟩) hbl).trans k1
                replace hc1 := (Below.cell hx3 (p := ⟨b1, o1 + k, none⟩) hb1).trans hc1
                replace hc2 := (Below.cell hx3 (p := ⟨b1, o1 + j, none⟩) hb1).trans hc2
                clear hx3
                by_cases h1 : z = y
                · have h1b : (z == y) = true := by simpa using h1
                  have HF : Hid (sysI p zs = false) := sysI_no hlt (by
                    unfold rowI
                    have : (List.range k).all (fun l => apartI (zs.getD k 0) (zs.getD l 0)) = false := by
                      rw [List.all_eq_false]; exact ⟨j, List.mem_range.2 hlt2, by rw [hgk.out, hgj.out, HZ.out, h1b]; simp⟩
                    rw [this, Bool.and_false])
                  clear h1b hz
                  go_wp2_with fail
                  go_ret
                  exact ⟨ret_bool HF.out.symm, X.trans Z⟩
                · have h1b : (z == y) = false := by simpa using h1
                  by_cases h2 : z = x
                  · have h2b : (z == x) = true := by simpa using h2
                    have HF : Hid (sysI p zs = false) := sysI_no hlt (by
                      unfold rowI
                      have : (List.range k).all (fun l => apartI (zs.getD k 0) (zs.getD l 0)) = false := by
                        rw [List.all_eq_false]; exact ⟨j, List.mem_range.2 hlt2, by rw [hgk.out, hgj.out, HZ.out, h2b]; simp⟩
                      rw [this, Bool.and_false])
                    clear h2b hz
                    go_wp2_with fail
                    go_ret
                    exact ⟨ret_bool HF.out.symm, X.trans Z⟩
                  · have h2b : (z == x) = false := by simpa using h2
                    have HY : Hid (apartI x (zs.getD j 0) = true) := by show _ = _; rw [hgj.out, HZ.out, h1b, h2b]; rfl
                    clear hz
                    go_wp2_with fail
                    go_roundw
                    case rel =>
                      refine ⟨j + 1, by omega, by go_num, fun l hl => ?_, Z⟩
                      by_cases e : l = j
                      · subst e; exact HY.out
                      · exact HA.out l (by omega)
                    case measure => simp [intOf]; omega
              · obtain rfl : j = k := by omega
                have HROW : Hid (rowI p zs j = true) := by
                  show _ = _
                  unfold rowI
                  rw [Bool.and_eq_true, Bool.and_eq_true]
                  refine ⟨⟨by rw [hgk.out]; exact HIN.out, HPR.out⟩, List.all_eq_true.2 fun l hl => ?_⟩
                  rw [hgk.out]; exact HA.out l (List.mem_range.1 hl)
                go_wp2_with fail
                go_roundw
                case rel =>
                  refine ⟨j + 1, by omega, by go_num, fun l hl => ?_, X.trans Z⟩
                  by_cases e : l = j
                  · subst e; exact HROW.out
                  · exact HR.out l (by omega)
                case measure => simp [intOf]; omega
    · have HT : Hid (sysI p zs = true) := by
        show _ = _
        unfold sysI
        rw [HP.out, HL.out, Bool.true_and, Bool.true_and, List.all_eq_true]
        intro i hi
        exact HR.out i (by have := List.mem_range.1 hi; omega)
      obtain ⟨k0, k1⟩ := (hbx.ext X).two
      go_wp2_with fail
      go_ret
      exact ⟨ret_bool HT.out.symm, X⟩
end Go.Proofs.Ytgmdoboeenpjpaa
