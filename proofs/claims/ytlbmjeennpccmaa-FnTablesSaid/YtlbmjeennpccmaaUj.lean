
/- FnTables: the first round of the second loop. No condition. -/
import Derived.Test.YtlbmjeennpccmaaUi
namespace Go.Proofs.Ytlbmjeennpccmaa
open Go Go.RowKit Go.ChangeShapes Go.WideShapes Go.ChangeAt

attribute [local irreducible] LX tw
set_option maxRecDepth 100000 in
set_option maxHeartbeats 16000000 in
theorem tabZero : fnTablesB.a := by
  intro K
  dsimp only
  intro xs ys w a1 c1 a2 c2 n1 wd w1 gl pl ls w2 go po w3 w4 tb w5 gT pT w6 gS pS w7 gQ pQ w8 gH pH w9 gP pP bz sp n HCS HCQ HCH htl16 C w10 CO O ia1 i b ia2 u173 u174 u175 u176 u177 u178 u179 u180 u181 u182 u183 u184 u185 u186 u187 u188 u189 u190 u191 u192 u193 u194 u195 u196 u197 u198 u199 u200 u201 u202 u203 u204 u205 u206 u207 u208 u209 u210 u211 u212 u213 u214 u215 u216 u217 u218 u219 u220 u221 u222 u223 u224 u225 u226 u227 u228 u229 u230 u231 u232 u233 u234 u235 u236 u237 u238 HTK HMID ia4 ia5 w11 z w12 mb HX9 HMB fo HFO ia7 ia8 wr u4 u31 u32 u254 u255 u256 u257 u258 u259 u260 u261 u262 u263 u264 u265 u266 u267 u268 u269 u270 u271 u272 u273 u274 u275 u276 u277 u278 u279 u280 u281 u282 u283 u284 u285 u286 u287 u288 u289 u290 u291 u292 u293 u294 u295 u296 u297 u298 u299 u300 u301 u302 u303 u304 u305 u306 u307 u308 u309 u310 u311 u312 u313 u314 u315 u316 u317 u318 u319 u320 u321 u322 u323 u324 u325 u326 u327 u328 u329 u330 u331 u332 u333 u334 u335 u336 u337 u338 u339 u340 u341 u342 u343 u344 u345 u346 u347 u348 u349 u350 u351 u352 u353 u354 u355 u356 u357 j hlt r1 r2 r3 r4 r8 HR5 ia10 ia11 w13 X4 pcT cT pcS cS pcQ cQ pcH cH s2 s7 ia12 ia13 ia14 ia15 hj0
  have wa : (Try.prog.underlying 24).isSome = true := by kernel_rfl
  have wb : (Try.prog.underlying 30).isSome = true := by kernel_rfl
  replace hj0 := Lib.hid hj0
  have s0 : ¬ (0 : Int) < (j : Int) := by have := hj0.out; omega
  refine wp_region_rel 60 (fun _ _ => True) (fun _ _ _ => True) (by kernel_rfl) (by kernel_rfl) (by kernel_rfl) ?_
  dsimp only [List.take, List.drop, List.length]
  refine LX_det (.slice (some ⟨gS, 0, none⟩) n pS) (by kernel_rfl) rfl (fun w' hx _ => ?_) ?_
  · go_simp
  refine LX_det (.int .i64 j) (by kernel_rfl) rfl (fun w' hx _ => ?_) ?_
  · go_simp
  refine LX_det (.pointer (some ⟨gS, j, none⟩)) (by kernel_rfl) rfl (fun w' hx _ => ?_) ?_
  · go_simp
  refine LX_det (.float .f32 (sK ls (j + 1))) (by kernel_rfl) rfl (fun w' hx _ => ?_) ?_
  · have m0 := (Below.cell hx (p := ⟨gS, j, none⟩) pcS).trans cS
    go_simp
  refine LX_det (.slice (some ⟨gQ, 0, none⟩) n pQ) (by kernel_rfl) rfl (fun w' hx _ => ?_) ?_
  · go_simp
  refine LX_det (.int .i64 j) (by kernel_rfl) rfl (fun w' hx _ => ?_) ?_
  · go_simp
  refine LX_det (.pointer (some ⟨gQ, j, none⟩)) (by kernel_rfl) rfl (fun w' hx _ => ?_) ?_
  · go_simp
  refine LX_det (.float .f32 (sK ls (j + 1))) (by kernel_rfl) rfl (fun w' hx _ => ?_) ?_
  · have m0 := (Below.cell hx (p := ⟨gQ, j, none⟩) pcQ).trans cQ
    go_simp
  simp only [Act.put, List.setIfInBounds_toArray, List.set_cons_succ, List.set_cons_zero]
  refine LX_fcmp (by kernel_rfl) rfl rfl rfl rfl r1 ?_
  refine LX_det (.bool false) (by kernel_rfl) rfl (fun w' hx _ => ?_) ?_
  · go_simp
  refine LX_det (.slice (some ⟨gS, 0, none⟩) n pS) (by kernel_rfl) rfl (fun w' hx _ => ?_) ?_
  · go_simp
  refine LX_det (.int .i64 j) (by kernel_rfl) rfl (fun w' hx _ => ?_) ?_
  · go_simp
  refine LX_det (.pointer (some ⟨gS, j, none⟩)) (by kernel_rfl) rfl (fun w' hx _ => ?_) ?_
  · go_simp
  refine LX_det (.float .f32 (sK ls (j + 1))) (by kernel_rfl) rfl (fun w' hx _ => ?_) ?_
  · have m0 := (Below.cell hx (p := ⟨gS, j, none⟩) pcS).trans cS
    go_simp
  simp only [Act.put, List.setIfInBounds_toArray, List.set_cons_succ, List.set_cons_zero]
  refine LX_fcmp (by kernel_rfl) rfl rfl rfl rfl r2 ?_
  refine LX_det (.bool false) (by kernel_rfl) rfl (fun w' hx _ => ?_) ?_
  · go_simp
  refine LX_det (.bool false) (by kernel_rfl) rfl (fun w' hx _ => ?_) ?_
  · go_simp
  refine LX_det (.slice (some ⟨gS, 0, none⟩) n pS) (by kernel_rfl) rfl (fun w' hx _ => ?_) ?_
  · go_simp
  refine LX_det (.int .i64 j) (by kernel_rfl) rfl (fun w' hx _ => ?_) ?_
  · go_simp
  refine LX_det (.pointer (some ⟨gS, j, none⟩)) (by kernel_rfl) rfl (fun w' hx _ => ?_) ?_
  · go_simp
  refine LX_det (.float .f32 (sK ls (j + 1))) (by kernel_rfl) rfl (fun w' hx _ => ?_) ?_
  · have m0 := (Below.cell hx (p := ⟨gS, j, none⟩) pcS).trans cS
    go_simp
  refine LX_det (.float .f32 (sK ls j)) (by kernel_rfl) rfl (fun w' hx _ => ?_) ?_
  · go_simp
  simp only [Act.put, List.setIfInBounds_toArray, List.set_cons_succ, List.set_cons_zero]
  refine LX_fcmp (by kernel_rfl) rfl rfl rfl rfl r3 ?_
  refine LX_det (.bool false) (by kernel_rfl) rfl (fun w' hx _ => ?_) ?_
  · go_simp
  refine LX_det (.bool false) (by kernel_rfl) rfl (fun w' hx _ => ?_) ?_
  · go_simp
  refine LX_det (.slice (some ⟨gH, 0, none⟩) n pH) (by kernel_rfl) rfl (fun w' hx _ => ?_) ?_
  · go_simp
  refine LX_det (.int .i64 j) (by kernel_rfl) rfl (fun w' hx _ => ?_) ?_
  · go_simp
  refine LX_det (.pointer (some ⟨gH, j, none⟩)) (by kernel_rfl) rfl (fun w' hx _ => ?_) ?_
  · go_simp
  refine LX_det (.float .f32 (hK ls (j + 1))) (by kernel_rfl) rfl (fun w' hx _ => ?_) ?_
  · have m0 := (Below.cell hx (p := ⟨gH, j, none⟩) pcH).trans cH
    go_simp
  refine LX_det (.float .f32 (hK ls j)) (by kernel_rfl) rfl (fun w' hx _ => ?_) ?_
  · go_simp
  simp only [Act.put, List.setIfInBounds_toArray, List.set_cons_succ, List.set_cons_zero]
  refine LX_fcmp (by kernel_rfl) rfl rfl rfl rfl r4 ?_
  refine LX_det (.bool false) (by kernel_rfl) rfl (fun w' hx _ => ?_) ?_
  · go_simp
  refine LX_det (.bool false) (by kernel_rfl) rfl (fun w' hx _ => ?_) ?_
  · go_simp
  refine LX_det (.int .i64 j) (by kernel_rfl) rfl (fun w' hx _ => ?_) ?_
  · go_simp
  refine LX_det (.bool false) (by kernel_rfl) rfl (fun w' hx _ => ?_) ?_
  · go_simp
    exact hj0.out
  refine LX_det (.bool false) (by kernel_rfl) rfl (fun w' hx _ => ?_) ?_
  · go_simp
  iterate 10 refine LX_skip (by kernel_rfl) ?_
  refine LX_det (.bool false) (by kernel_rfl) rfl (fun w' hx _ => ?_) ?_
  · go_simp
  refine LX_det (.bool false) (by kernel_rfl) rfl (fun w' hx _ => ?_) ?_
  · go_simp
  refine LX_det (.bool false) (by kernel_rfl) rfl (fun w' hx _ => ?_) ?_
  · go_simp
  refine LX_det (.bool true) (by kernel_rfl) rfl (fun w' hx _ => ?_) ?_
  · go_simp
  refine LX_det (.bool false) (by kernel_rfl) rfl (fun w' hx _ => ?_) ?_
  · go_simp
  refine LX_det (.bool false) (by kernel_rfl) rfl (fun w' hx _ => ?_) ?_
  · go_simp
  refine LX_det (.bool false) (by kernel_rfl) rfl (fun w' hx _ => ?_) ?_
  · go_simp
  refine LX_det (.float .f32 (sK ls (j + 1))) (by kernel_rfl) rfl (fun w' hx _ => ?_) ?_
  · go_simp
  refine LX_det (.slice (some ⟨gS, 0, none⟩) n pS) (by kernel_rfl) rfl (fun w' hx _ => ?_) ?_
  · go_simp
  refine LX_det (.int .i64 j) (by kernel_rfl) rfl (fun w' hx _ => ?_) ?_
  · go_simp
  refine LX_det (.pointer (some ⟨gS, j, none⟩)) (by kernel_rfl) rfl (fun w' hx _ => ?_) ?_
  · go_simp
  refine LX_det (.float .f32 (sK ls (j + 1))) (by kernel_rfl) rfl (fun w' hx _ => ?_) ?_
  · have m0 := (Below.cell hx (p := ⟨gS, j, none⟩) pcS).trans cS
    go_simp
  simp only [Act.put, List.setIfInBounds_toArray, List.set_cons_succ, List.set_cons_zero]
  refine LX_fcmp (by kernel_rfl) rfl rfl rfl rfl r1 ?_
  refine LX_det (.bool false) (by kernel_rfl) rfl (fun w' hx _ => ?_) ?_
  · go_simp
  refine LX_nil fun w12 hx _ => ?_
  refine wpList_nil ?_
  simp only [Act.put, List.setIfInBounds_toArray, List.set_cons_succ, List.set_cons_zero]
  replace X4 := X4.trans hx
  clear hx
  clear pcT cT pcS cS pcQ cQ pcH cH
  clear r1 r2 r3 r4
  obtain ⟨pcT, cT⟩ := HTK.out _ (HX9.out.trans X4) j hlt
  obtain ⟨pcS, cS⟩ := HCS.out _ (HX9.out.trans X4) j hlt
  obtain ⟨pcH, cH⟩ := HCH.out _ (HX9.out.trans X4) j hlt
  cases hc1 : fcmp .leq .f32 (cn .f32 (sK ls (j + 1))) (cn .f32 1056964608)
  · clear r8
    go_wp2_with (first | (refine wpList_fcmp rfl rfl rfl rfl rfl (by first | with_reducible assumption | exact rfl) ?_))
    go_roundw
    case rel => exact ⟨j + 1, by omega, by go_num, rfl, rfl, X4⟩
    case measure => simp [intOf] <;> omega
  · cases hc2 : fcmp .gtr .f32 (cn .f32 (sK ls j)) (cn .f32 1056964608)
    · go_wp2_with (first | (refine wpList_fcmp rfl rfl rfl rfl rfl (by first | with_reducible assumption | exact rfl) ?_))
      go_roundw
      case rel => exact ⟨j + 1, by omega, by go_num, rfl, rfl, X4⟩
      case measure => simp [intOf] <;> omega
    · have hm := HMID.out j hlt hc1 hc2
      have hf : fo = true := by rw [HFO.out, hm]; rfl
      subst hf
      have hb := HMB.out _ hm
      have r9 : fcmp .neq .f32 (cn .f32 mb) (cn .f32 (tK ls j)) = false := by rw [hb]; exact r8
      clear hm hb
      go_wp2_with (first | (refine wpList_fcmp rfl rfl rfl rfl rfl (by first | with_reducible assumption | exact rfl) ?_))
      go_roundw
      case rel => exact ⟨j + 1, by omega, by go_num, rfl, rfl, X4⟩
      case measure => simp [intOf] <;> omega
end Go.Proofs.Ytlbmjeennpccmaa
