
/- FnTables: behind the second loop. No condition. -/
import Derived.Test.YtlbmjeennpccmaaUi
namespace Go.Proofs.Ytlbmjeennpccmaa
open Go Go.RowKit Go.ChangeShapes Go.WideShapes Go.ChangeAt

attribute [local irreducible] LX tw
set_option maxRecDepth 100000 in
set_option maxHeartbeats 16000000 in
theorem tabExit : fnTablesB.c := by
  intro K
  dsimp only
  intro xs ys w a1 c1 a2 c2 r2' n1 wd hwd K2 w1 gl pl ls HV HD hl16 w2 go po w3 w4 tb w5 gT pT w6 gS pS w7 gQ pQ w8 gH pH w9 gP pP bz sp C w10 CO O ia1 i b b1 hls ia2 u173 u174 u175 u176 u177 u178 u179 u180 u181 u182 u183 u184 u185 u186 u187 u188 u189 u190 u191 u192 u193 u194 u195 u196 u197 u198 u199 u200 u201 u202 u203 u204 u205 u206 u207 u208 u209 u210 u211 u212 u213 u214 u215 u216 u217 u218 u219 u220 u221 u222 u223 u224 u225 u226 u227 u228 u229 u230 u231 u232 u233 u234 u235 u236 u237 u238 ia3 w11 z w12 mb X R fo HFO ia5 ia6 wr u4 u31 u32 u254 u255 u256 u257 u258 u259 u260 u261 u262 u263 u264 u265 u266 u267 u268 u269 u270 u271 u272 u273 u274 u275 u276 u277 u278 u279 u280 u281 u282 u283 u284 u285 u286 u287 u288 u289 u290 u291 u292 u293 u294 u295 u296 u297 u298 u299 u300 u301 u302 u303 u304 u305 u306 u307 u308 u309 u310 u311 u312 u313 u314 u315 u316 u317 u318 u319 u320 u321 u322 u323 u324 u325 u326 u327 u328 u329 u330 u331 u332 u333 u334 u335 u336 u337 u338 u339 u340 u341 u342 u343 u344 u345 u346 u347 u348 u349 u350 u351 u352 u353 u354 u355 u356 u357 j X4 htl16 ia8 HEND
  have wa : (Try.prog.underlying 24).isSome = true := by kernel_rfl
  have wb : (Try.prog.underlying 30).isSome = true := by kernel_rfl
  have hend : fcmp .leq .f32 (cn .f32 (sK ls j)) (cn .f32 1056964608) = fo := HEND.out
  go_wp2_with (first | (refine wpList_fcmp rfl rfl rfl rfl rfl (by first | with_reducible assumption | exact rfl) ?_))
  have h1 := implSurvivorAt_any (.slice (some ⟨gl, 0, none⟩) i pl) ls 0 wr (R.ext X4) (by decide)
  rw [sur_zero HD.out HV.out] at h1
  refine h1.mono ?_
  clear h1
  intro e w13 h5
  obtain ⟨rfl, X5⟩ := nmPost_num h5 rfl one1_val.1
  replace X4 := X4.trans X5
  clear h5 X5 HEND HFO
  have o1 : fcmp .neq .f32 (cn .f32 one1) (cn .f32 1065353216) = false := by decide +kernel
  go_wp2_with fail
  refine (K2.out _ (r2'.ext (X.trans X4))).mono ?_
  rintro e w14 ⟨rfl, rfl⟩
  have q1 : IntKind.i64.wrap (1 + (wd : Int)) = ((wd + 1 : Nat) : Int) := by rw [IntWalk.i64_in _ (by omega)]; omega
  go_wp2_with (first | (refine wpList_fop rfl rfl rfl rfl rfl ?_; intro fb nf hfb hfl; replace hfb := Lib.hid hfb; replace hfl := Lib.hid hfl))
  have hfq : fb = hT wd := bits_of hfb.out (hT_pos (by omega)).num
  subst hfq
  replace X4 := X4.trans (Ext.drewN _ nf)
  clear hfb hfl o1 q1 K2 r2'
  refine (intervalTable_any _ ls (hT wd) _ (R.ext X4) HV.out (low_ok hwd).1 (hT_lt (by omega))).mono ?_
  rintro e w15 ⟨g, cap, rfl, own, X6⟩
  have HCI := Lib.hid (tab_cells own)
  have hr0 := ivR_zero hwd HD.out
  obtain ⟨T0, hT0⟩ : ∃ T : Nat → Nat, T = fun k => ivR (hT wd) k ls := ⟨_, rfl⟩
  obtain ⟨T1, hT1⟩ : ∃ T : Nat → Nat, T = fun k => ivF (hT wd) k ls := ⟨_, rfl⟩
  obtain ⟨T2, hT2⟩ : ∃ T : Nat → Nat, T = fun k => ivL (hT wd) k ls := ⟨_, rfl⟩
  have HIV : Hid (∀ k, k < 15 → T0 k = T1 k + T2 k + T0 (k + 1)) := by rw [hT0, hT1, hT2]; intro k hk; exact iv_next hwd hk HD.out
  have HIB : Hid (∀ k, T0 k ≤ 16 ∧ T1 k ≤ 16 ∧ T2 k ≤ 16) := by
    rw [hT0, hT1, hT2]; intro k
    obtain ⟨h1, h2, h3⟩ := iv_le (hT wd) k ls
    exact ⟨Nat.le_trans h1 hl16, Nat.le_trans h2 hl16, Nat.le_trans h3 hl16⟩
  have HT0 : T0 0 = i := by rw [hT0, ← hls]; exact hr0
  rw [← hT0, ← hT1, ← hT2] at HCI
  obtain ⟨pg, c0, -, -⟩ := HCI.out _ (Ext.refl _) 0 (by decide)
  rw [HT0] at c0
  replace c0 : w15.cell? ⟨g, 0, none⟩ = some (.int .i64 (i : Nat)) := c0
  replace X := X.trans (X4.trans X6)
  have o1 : fcmp .neq .f32 (cn .f32 one1) (cn .f32 1065353216) = false := by decide +kernel
  clear hT0 hT1 hT2 hr0 HT0 own X6 X4 R HV HD hend hl16 hls hwd htl16
  go_wp2_with (first | (refine wpList_fcmp rfl rfl rfl rfl rfl (by first | with_reducible assumption | exact rfl) ?_))
  clear c0 pg o1
  go_loopw [38] (fun s wq => ∃ (k p : Nat), p = 3 * k ∧ k ≤ 16 ∧ s = .int .i64 p ∧ Ext w15 wq) (fun s _ => 48 - (intOf s).toNat)
  case atStart => exact ⟨0, 0, rfl, by omega, rfl, Ext.refl _⟩
  case round =>
    obtain ⟨k, p, hp, hk, rfl, X7⟩ := hrel
    by_cases hlt : k < 16
    · obtain ⟨pg, c0, c1, c2⟩ := HCI.out _ X7 k hlt
      obtain ⟨hb0, hb1, hb2⟩ := HIB.out k
      rw [← hp] at c0 c1 c2
      obtain ⟨p1, hp1⟩ : ∃ p1, p1 = p + 1 := ⟨_, rfl⟩
      obtain ⟨p2, hp2⟩ : ∃ p2, p2 = p + 2 := ⟨_, rfl⟩
      obtain ⟨p3, hp3⟩ : ∃ p3, p3 = p + 3 := ⟨_, rfl⟩
      rw [← hp1] at c1
      rw [← hp2] at c2
      have s1 : IntKind.i64.wrap ((p : Int) + 1) = (p1 : Int) := by rw [IntWalk.i64_in _ (by omega)]; omega
      have s2 : IntKind.i64.wrap ((p : Int) + 2) = (p2 : Int) := by rw [IntWalk.i64_in _ (by omega)]; omega
      have s3 : IntKind.i64.wrap ((p : Int) + 3) = (p3 : Int) := by rw [IntWalk.i64_in _ (by omega)]; omega
      have t0 : (p : Int) < 48 := by omega
      have t1 : (p1 : Int) < 48 := by omega
      have t2 : (p2 : Int) < 48 := by omega
      have v0 : p < 48 := by omega
      have v1 : p1 < 48 := by omega
      have v2 : p2 < 48 := by omega
      have y0 : IntKind.i64.wrap (p : Int) = (p : Int) := IntWalk.i64_in _ (by omega)
      have y1 : IntKind.i64.wrap (p1 : Int) = (p1 : Int) := IntWalk.i64_in _ (by omega)
      have y2 : IntKind.i64.wrap (p2 : Int) = (p2 : Int) := IntWalk.i64_in _ (by omega)
      have HIK := HIV.out k
      by_cases hlast : k < 15
      · obtain ⟨-, c3, -, -⟩ := HCI.out _ X7 (k + 1) (by omega)
        rw [show 3 * (k + 1) = p3 by omega] at c3
        have hs := HIK hlast
        have hb3 := (HIB.out (k + 1)).1
        have t3 : (p3 : Int) < 48 := by omega
        have v3 : p3 < 48 := by omega
        have y3 : IntKind.i64.wrap (p3 : Int) = (p3 : Int) := IntWalk.i64_in _ (by omega)
        generalize T0 k = V at *
        generalize T1 k = F at *
        generalize T2 k = L at *
        generalize T0 (k + 1) = V2 at *
        obtain ⟨d1, hd1⟩ : ∃ d1, d1 = L + V2 := ⟨_, rfl⟩
        have z1 : IntKind.i64.wrap ((V : Int) - (F : Int)) = (d1 : Int) := by rw [IntWalk.i64_in _ (by omega)]; omega
        have z2 : IntKind.i64.wrap ((d1 : Int) - (L : Int)) = (V2 : Int) := by rw [IntWalk.i64_in _ (by omega)]; omega
        have z3 : ¬ (F : Int) < 0 := by omega
        have z4 : ¬ (L : Int) < 0 := by omega
        replace hs := Lib.hid hs
        replace hp := Lib.hid hp
        replace hp1 := Lib.hid hp1
        replace hp2 := Lib.hid hp2
        replace hp3 := Lib.hid hp3
        replace hd1 := Lib.hid hd1
        clear HIK
        go_wp2_with fail
        refine wp_region_rel 43 (fun _ _ => True) (fun _ _ _ => True) (by kernel_rfl) (by kernel_rfl) (by kernel_rfl) ?_
        dsimp only [List.take, List.drop, List.length]
        refine LX_det (.slice (some ⟨g, 0, none⟩) 48 cap) (by kernel_rfl) rfl (fun w' hx _ => ?_) ?_
        · go_simp
        refine LX_det (.int .i64 p) (by kernel_rfl) rfl (fun w' hx _ => ?_) ?_
        · go_simp
        refine LX_det (.int .i64 p1) (by kernel_rfl) rfl (fun w' hx _ => ?_) ?_
        · go_simp
        refine LX_det (.pointer (some ⟨g, p1, none⟩)) (by kernel_rfl) rfl (fun w' hx _ => ?_) ?_
        · go_simp
        refine LX_det (.int .i64 (F : Nat)) (by kernel_rfl) rfl (fun w' hx _ => ?_) ?_
        · have m0 := (Below.cell hx (p := ⟨g, p1, none⟩) pg).trans c1
          go_simp
        refine LX_det (.bool false) (by kernel_rfl) rfl (fun w' hx _ => ?_) ?_
        · go_simp
        refine LX_det (.bool false) (by kernel_rfl) rfl (fun w' hx _ => ?_) ?_
        · go_simp
        refine LX_det (.slice (some ⟨g, 0, none⟩) 48 cap) (by kernel_rfl) rfl (fun w' hx _ => ?_) ?_
        · go_simp
        refine LX_det (.int .i64 p) (by kernel_rfl) rfl (fun w' hx _ => ?_) ?_
        · go_simp
        refine LX_det (.int .i64 p2) (by kernel_rfl) rfl (fun w' hx _ => ?_) ?_
        · go_simp
        refine LX_det (.pointer (some ⟨g, p2, none⟩)) (by kernel_rfl) rfl (fun w' hx _ => ?_) ?_
        · go_simp
        refine LX_det (.int .i64 (L : Nat)) (by kernel_rfl) rfl (fun w' hx _ => ?_) ?_
        · have m0 := (Below.cell hx (p := ⟨g, p2, none⟩) pg).trans c2
          go_simp
        refine LX_det (.bool false) (by kernel_rfl) rfl (fun w' hx _ => ?_) ?_
        · go_simp
        refine LX_det (.bool false) (by kernel_rfl) rfl (fun w' hx _ => ?_) ?_
        · go_simp
        refine LX_det (.bool false) (by kernel_rfl) rfl (fun w' hx _ => ?_) ?_
        · go_simp
        refine LX_det (.int .i64 p) (by kernel_rfl) rfl (fun w' hx _ => ?_) ?_
        · go_simp
        refine LX_det (.int .i64 p3) (by kernel_rfl) rfl (fun w' hx _ => ?_) ?_
        · go_simp
        refine LX_det (.bool true) (by kernel_rfl) rfl (fun w' hx _ => ?_) ?_
        · go_simp
        refine LX_det (.bool true) (by kernel_rfl) rfl (fun w' hx _ => ?_) ?_
        · go_simp
        refine LX_det (.slice (some ⟨g, 0, none⟩) 48 cap) (by kernel_rfl) rfl (fun w' hx _ => ?_) ?_
        · go_simp
        refine LX_det (.int .i64 p) (by kernel_rfl) rfl (fun w' hx _ => ?_) ?_
        · go_simp
        refine LX_det (.pointer (some ⟨g, p, none⟩)) (by kernel_rfl) rfl (fun w' hx _ => ?_) ?_
        · go_simp
        refine LX_det (.int .i64 (V : Nat)) (by kernel_rfl) rfl (fun w' hx _ => ?_) ?_
        · have m0 := (Below.cell hx (p := ⟨g, p, none⟩) pg).trans c0
          go_simp
        refine LX_det (.slice (some ⟨g, 0, none⟩) 48 cap) (by kernel_rfl) rfl (fun w' hx _ => ?_) ?_
        · go_simp
        refine LX_det (.int .i64 p) (by kernel_rfl) rfl (fun w' hx _ => ?_) ?_
        · go_simp
        refine LX_det (.int .i64 p1) (by kernel_rfl) rfl (fun w' hx _ => ?_) ?_
        · go_simp
        refine LX_det (.pointer (some ⟨g, p1, none⟩)) (by kernel_rfl) rfl (fun w' hx _ => ?_) ?_
        · go_simp
        refine LX_det (.int .i64 (F : Nat)) (by kernel_rfl) rfl (fun w' hx _ => ?_) ?_
        · have m0 := (Below.cell hx (p := ⟨g, p1, none⟩) pg).trans c1
          go_simp
        refine LX_det (.int .i64 (d1 : Nat)) (by kernel_rfl) rfl (fun w' hx _ => ?_) ?_
        · go_simp
        refine LX_det (.slice (some ⟨g, 0, none⟩) 48 cap) (by kernel_rfl) rfl (fun w' hx _ => ?_) ?_
        · go_simp
        refine LX_det (.int .i64 p) (by kernel_rfl) rfl (fun w' hx _ => ?_) ?_
        · go_simp
        refine LX_det (.int .i64 p2) (by kernel_rfl) rfl (fun w' hx _ => ?_) ?_
        · go_simp
        refine LX_det (.pointer (some ⟨g, p2, none⟩)) (by kernel_rfl) rfl (fun w' hx _ => ?_) ?_
        · go_simp
        refine LX_det (.int .i64 (L : Nat)) (by kernel_rfl) rfl (fun w' hx _ => ?_) ?_
        · have m0 := (Below.cell hx (p := ⟨g, p2, none⟩) pg).trans c2
          go_simp
        refine LX_det (.int .i64 (V2 : Nat)) (by kernel_rfl) rfl (fun w' hx _ => ?_) ?_
        · go_simp
        refine LX_det (.slice (some ⟨g, 0, none⟩) 48 cap) (by kernel_rfl) rfl (fun w' hx _ => ?_) ?_
        · go_simp
        refine LX_det (.int .i64 p) (by kernel_rfl) rfl (fun w' hx _ => ?_) ?_
        · go_simp
        refine LX_det (.int .i64 p3) (by kernel_rfl) rfl (fun w' hx _ => ?_) ?_
        · go_simp
        refine LX_det (.pointer (some ⟨g, p3, none⟩)) (by kernel_rfl) rfl (fun w' hx _ => ?_) ?_
        · go_simp
        refine LX_det (.int .i64 (V2 : Nat)) (by kernel_rfl) rfl (fun w' hx _ => ?_) ?_
        · have m0 := (Below.cell hx (p := ⟨g, p3, none⟩) pg).trans c3
          go_simp
        refine LX_det (.bool false) (by kernel_rfl) rfl (fun w' hx _ => ?_) ?_
        · go_simp
        refine LX_det (.bool false) (by kernel_rfl) rfl (fun w' hx _ => ?_) ?_
        · go_simp
        refine LX_det (.bool false) (by kernel_rfl) rfl (fun w' hx _ => ?_) ?_
        · go_simp
        refine LX_nil fun w17 hx _ => ?_
        refine wpList_nil ?_
        simp only [Act.put, List.setIfInBounds_toArray, List.set_cons_succ, List.set_cons_zero]
        replace X7 := X7.trans hx
        clear hx c1 c2 c0 c3 pg
        go_wp2_with fail
        go_roundw
        case rel => exact ⟨k + 1, p3, by have := hp.out; have := hp3.out; omega, by omega, by go_num, X7⟩
        case measure => have := hp.out; have := hp3.out; simp [intOf] <;> omega
      · have t3 : ¬ (p3 : Int) < 48 := by omega
        generalize T1 k = F at *
        generalize T2 k = L at *
        have z3 : ¬ (F : Int) < 0 := by omega
        have z4 : ¬ (L : Int) < 0 := by omega
        replace hp := Lib.hid hp
        replace hp1 := Lib.hid hp1
        replace hp2 := Lib.hid hp2
        replace hp3 := Lib.hid hp3
        clear HIK
        go_wp2_with fail
        refine wp_region_rel 43 (fun _ _ => True) (fun _ _ _ => True) (by kernel_rfl) (by kernel_rfl) (by kernel_rfl) ?_
        dsimp only [List.take, List.drop, List.length]
        refine LX_det (.slice (some ⟨g, 0, none⟩) 48 cap) (by kernel_rfl) rfl (fun w' hx _ => ?_) ?_
        · go_simp
        refine LX_det (.int .i64 p) (by kernel_rfl) rfl (fun w' hx _ => ?_) ?_
        · go_simp
        refine LX_det (.int .i64 p1) (by kernel_rfl) rfl (fun w' hx _ => ?_) ?_
        · go_simp
        refine LX_det (.pointer (some ⟨g, p1, none⟩)) (by kernel_rfl) rfl (fun w' hx _ => ?_) ?_
        · go_simp
        refine LX_det (.int .i64 (F : Nat)) (by kernel_rfl) rfl (fun w' hx _ => ?_) ?_
        · have m0 := (Below.cell hx (p := ⟨g, p1, none⟩) pg).trans c1
          go_simp
        refine LX_det (.bool false) (by kernel_rfl) rfl (fun w' hx _ => ?_) ?_
        · go_simp
        refine LX_det (.bool false) (by kernel_rfl) rfl (fun w' hx _ => ?_) ?_
        · go_simp
        refine LX_det (.slice (some ⟨g, 0, none⟩) 48 cap) (by kernel_rfl) rfl (fun w' hx _ => ?_) ?_
        · go_simp
        refine LX_det (.int .i64 p) (by kernel_rfl) rfl (fun w' hx _ => ?_) ?_
        · go_simp
        refine LX_det (.int .i64 p2) (by kernel_rfl) rfl (fun w' hx _ => ?_) ?_
        · go_simp
        refine LX_det (.pointer (some ⟨g, p2, none⟩)) (by kernel_rfl) rfl (fun w' hx _ => ?_) ?_
        · go_simp
        refine LX_det (.int .i64 (L : Nat)) (by kernel_rfl) rfl (fun w' hx _ => ?_) ?_
        · have m0 := (Below.cell hx (p := ⟨g, p2, none⟩) pg).trans c2
          go_simp
        refine LX_det (.bool false) (by kernel_rfl) rfl (fun w' hx _ => ?_) ?_
        · go_simp
        refine LX_det (.bool false) (by kernel_rfl) rfl (fun w' hx _ => ?_) ?_
        · go_simp
        refine LX_det (.bool false) (by kernel_rfl) rfl (fun w' hx _ => ?_) ?_
        · go_simp
        refine LX_det (.int .i64 p) (by kernel_rfl) rfl (fun w' hx _ => ?_) ?_
        · go_simp
        refine LX_det (.int .i64 p3) (by kernel_rfl) rfl (fun w' hx _ => ?_) ?_
        · go_simp
        refine LX_det (.bool false) (by kernel_rfl) rfl (fun w' hx _ => ?_) ?_
        · go_simp
        refine LX_det (.bool false) (by kernel_rfl) rfl (fun w' hx _ => ?_) ?_
        · go_simp
        iterate 22 refine LX_skip (by kernel_rfl) ?_
        refine LX_det (.bool false) (by kernel_rfl) rfl (fun w' hx _ => ?_) ?_
        · go_simp
        refine LX_det (.bool false) (by kernel_rfl) rfl (fun w' hx _ => ?_) ?_
        · go_simp
        refine LX_nil fun w17 hx _ => ?_
        refine wpList_nil ?_
        simp only [Act.put, List.setIfInBounds_toArray, List.set_cons_succ, List.set_cons_zero]
        replace X7 := X7.trans hx
        clear hx c1 c2 pg
        go_wp2_with fail
        go_roundw
        case rel => exact ⟨k + 1, p3, by have := hp.out; have := hp3.out; omega, by omega, by go_num, X7⟩
        case measure => have := hp.out; have := hp3.out; simp [intOf] <;> omega
    · have hk16 : p = 48 := by omega
      subst hk16
      clear hp hk hlt
      go_wp2_with fail
      go_ret
      exact ⟨rfl, X.trans X7⟩
end Go.Proofs.Ytlbmjeennpccmaa
