
/- FnTables: what is left behind the first loop. No condition. -/
import Derived.Test.YtlbmjeennpccmaaUf
import Derived.Test.YtlbmjeennpccmaaUg
namespace Go.Proofs.Ytlbmjeennpccmaa
open Go Go.RowKit Go.ChangeShapes Go.WideShapes Go.ChangeAt

attribute [local irreducible] LX tw
/-- What is left, in three parts. -/
structure Kept3 (G : Prop) where
  a : Prop
  b : Prop
  c : Prop
  out : Kept a → Kept b → Kept c → G
set_option maxRecDepth 100000 in
set_option maxHeartbeats 16000000 in
def fnTablesB : Kept3 fnTablesA.1 := by
  apply Kept3.mk
  case out =>
    intro hrest1 hrest2 hrest3
    intro K
    dsimp only
    intro xs ys w a1 c1 r1' a2 c2 r2' HL hxl n1 wd hwd K2 w1 gl pl ls HV HD hl16 w2 go po w3 w4 tb HST w5 gT pT w6 gS pS w7 gQ pQ w8 gH pH w9 gP pP bz sp hsp16 n HCT HCS HCQ HCH htl16 HTN C hcf16 HCN w10 X X9 hs1 hs2 ha CO O wr i b HB X3 b1 hls R HCOE HGAP u4 u173 u174 u175 u176 u177 u178 u179 u180 u181 u182 u183 u184 u185 u186 u187 u188 u189 u190 u191 u192 u193 u194 u195 u196 u197 u198 u199 u200 u201 u202 u203 u204 u205 u206 u207 u208 u209 u210 u211 u212 u213 u214 u215 u216 u217 u218 u219 u220 u221 u222 u223 u224 u225 u226 u227 u228 u229 u230 u231 u232 u233 u234 u235 u236 u237 u238
    have wa : (Try.prog.underlying 24).isSome = true := by kernel_rfl
    have wb : (Try.prog.underlying 30).isSome = true := by kernel_rfl
    obtain ⟨hn64, hgap⟩ := HGAP.out b HB.out
    have HN64 := Lib.hid hn64
    have HG := Lib.hid hgap
    clear hn64 hgap HGAP HB HST HCN HCOE HL hxl hsp16 hs1 hs2
    have HXB : Hid (Ext w9 wr) := X9.trans X3
    have HTK : Hid (CF w9 gT n (tK ls)) := HCT
    have HSA := Lib.hid (tab_start ls)
    have HROW := Lib.hid (fun j (h : j < n) => tab_row HD.out hl16 HV.out (i := j) (by rw [HTN.out]; exact h))
    have HMID := Lib.hid (fun j (h : j < n) => tab_mid HD.out hl16 HV.out (i := j) (by rw [HTN.out]; exact h))
    have HNM := Lib.hid (fun j (h : j ≤ n) => (tab_num HD.out hl16 (i := j) (by rw [HTN.out]; exact h)).1)
    have HEND := tab_found HD.out hl16 HV.out
    rw [HTN.out] at HEND
    replace HEND := Lib.hid HEND
    clear HCT HTN
    replace X := X.trans X3
    replace R := R.ext X3
    clear X3 X9
    go_wp2_with (first | (refine wpList_narrow wb Try.underlying24 rfl rfl rfl HN64.out ?_))
    refine (HG.out _).mono ?_
    rintro e w11 ⟨z, rfl, hq, X2⟩
    replace X := X.trans X2
    replace R := R.ext X2
    have HXC : Hid (Ext w9 w11) := HXB.out.trans X2
    clear X2 HG HXB HN64
    go_wp2_with (first | (refine wpList_fcmp rfl rfl rfl rfl rfl (by first | with_reducible assumption | exact rfl) ?_))
    clear hq
    refine (implMiddleLife_any _ ls _ R).mono ?_
    intro e w12 h5
    obtain ⟨mb, rfl, hmid, X2⟩ := nmPost_u h5
    replace X := X.trans X2
    replace R := R.ext X2
    have HX9 : Hid (Ext w9 w12) := HXC.out.trans X2
    have HMB := Lib.hid hmid
    clear X2 HXC h5 hmid
    obtain ⟨fo, hfo⟩ : ∃ fo, fo = (midO ls).isSome := ⟨_, rfl⟩
    rw [← hfo] at HEND ⊢
    have HFO := Lib.hid hfo
    clear hfo
    go_wp2_with fail
    go_loopw [30, 26, 27] (fun i s h wq => ∃ (j : Nat), j ≤ n ∧ i = .int .i64 j ∧ s = .float .f32 (sK ls j) ∧ h = .float .f32 (hK ls j) ∧ Ext w12 wq) (fun i _ _ _ => n - (intOf i).toNat)
    case atStart => exact ⟨0, Nat.zero_le _, rfl, HSA.out.1, HSA.out.2, Ext.refl _⟩
    case round =>
      obtain ⟨j, hj, rfl, rfl, rfl, X4⟩ := hrel
      by_cases hlt : j < n
      · obtain ⟨r1, r2, r3, r4, hr5, HR6, r7, r8⟩ := HROW.out j hlt
        have HR5 := Lib.hid hr5
        replace HR6 := Lib.hid HR6
        clear hr5
        have HNJ := Lib.hid (HNM.out (j + 1) (by omega))
        obtain ⟨pcT, cT⟩ := HTK.out _ (HX9.out.trans X4) j hlt
        go_wp2_with fail
        refine (implSurvivorAt_any _ ls _ _ (R.ext X4) r7).mono ?_
        intro e w13 h5
        obtain ⟨rfl, X5⟩ := nmPost_num h5 HR6.out HNJ.out
        replace X4 := X4.trans X5
        clear X5 h5 pcT cT r7 HR6
        obtain ⟨pcT, cT⟩ := HTK.out _ (HX9.out.trans X4) j hlt
        obtain ⟨pcS, cS⟩ := HCS.out _ (HX9.out.trans X4) j hlt
        obtain ⟨pcQ, cQ⟩ := HCQ.out _ (HX9.out.trans X4) j hlt
        obtain ⟨pcH, cH⟩ := HCH.out _ (HX9.out.trans X4) j hlt
        have s2 : (j : Int) < (n : Int) := by omega
        have s7 : IntKind.i64.wrap (j : Int) = (j : Int) := IntWalk.i64_in _ (by omega)
        go_wp2_with fail
        rename_i ia1 ia2 ia3 ia4 ia5 ia6 ia7 ia8 ia9 ia10 ia11 ia12 ia13 ia14 ia15
        clear r1' r2' K2 hwd HV HD hl16 HEND HSA HROW HNM HNJ b1 hls hcf16 X R wa wb
        by_cases hj0 : j = 0
        · clear hj
          revert K xs ys w a1 c1 a2 c2 n1 wd w1 gl pl ls w2 go po w3 w4 tb w5 gT pT w6 gS pS w7 gQ pQ w8 gH pH w9 gP pP bz sp n HCS HCQ HCH htl16 C w10 CO O ia1 i b ia2 u173 u174 u175 u176 u177 u178 u179 u180 u181 u182 u183 u184 u185 u186 u187 u188 u189 u190 u191 u192 u193 u194 u195 u196 u197 u198 u199 u200 u201 u202 u203 u204 u205 u206 u207 u208 u209 u210 u211 u212 u213 u214 u215 u216 u217 u218 u219 u220 u221 u222 u223 u224 u225 u226 u227 u228 u229 u230 u231 u232 u233 u234 u235 u236 u237 u238 HTK HMID ia3 ia4 ia5 ia6 w11 z w12 mb HX9 HMB fo HFO ia7 ia8 wr u4 u31 u32 u254 u255 u256 u257 u258 u259 u260 u261 u262 u263 u264 u265 u266 u267 u268 u269 u270 u271 u272 u273 u274 u275 u276 u277 u278 u279 u280 u281 u282 u283 u284 u285 u286 u287 u288 u289 u290 u291 u292 u293 u294 u295 u296 u297 u298 u299 u300 u301 u302 u303 u304 u305 u306 u307 u308 u309 u310 u311 u312 u313 u314 u315 u316 u317 u318 u319 u320 u321 u322 u323 u324 u325 u326 u327 u328 u329 u330 u331 u332 u333 u334 u335 u336 u337 u338 u339 u340 u341 u342 u343 u344 u345 u346 u347 u348 u349 u350 u351 u352 u353 u354 u355 u356 u357 j hlt r1 r2 r3 r4 r8 HR5 ia9 ia10 ia11 w13 X4 pcT cT pcS cS pcQ cQ pcH cH s2 s7 ia12 ia13 ia14 ia15 hj0
          exact hrest1.out
        · obtain ⟨q, hq⟩ : ∃ q, q + 1 = j := ⟨j - 1, by omega⟩
          clear hj0
          revert K xs ys w a1 c1 a2 c2 n1 wd w1 gl pl ls w2 go po w3 w4 tb w5 gT pT w6 gS pS w7 gQ pQ w8 gH pH w9 gP pP bz sp n HCS HCQ HCH htl16 C w10 CO O ia1 i b ia2 u173 u174 u175 u176 u177 u178 u179 u180 u181 u182 u183 u184 u185 u186 u187 u188 u189 u190 u191 u192 u193 u194 u195 u196 u197 u198 u199 u200 u201 u202 u203 u204 u205 u206 u207 u208 u209 u210 u211 u212 u213 u214 u215 u216 u217 u218 u219 u220 u221 u222 u223 u224 u225 u226 u227 u228 u229 u230 u231 u232 u233 u234 u235 u236 u237 u238 HTK HMID ia3 ia4 ia5 ia6 w11 z w12 mb HX9 HMB fo HFO ia7 ia8 wr u4 u31 u32 u254 u255 u256 u257 u258 u259 u260 u261 u262 u263 u264 u265 u266 u267 u268 u269 u270 u271 u272 u273 u274 u275 u276 u277 u278 u279 u280 u281 u282 u283 u284 u285 u286 u287 u288 u289 u290 u291 u292 u293 u294 u295 u296 u297 u298 u299 u300 u301 u302 u303 u304 u305 u306 u307 u308 u309 u310 u311 u312 u313 u314 u315 u316 u317 u318 u319 u320 u321 u322 u323 u324 u325 u326 u327 u328 u329 u330 u331 u332 u333 u334 u335 u336 u337 u338 u339 u340 u341 u342 u343 u344 u345 u346 u347 u348 u349 u350 u351 u352 u353 u354 u355 u356 u357 j hj hlt r1 r2 r3 r4 r8 HR5 ia9 ia10 ia11 w13 X4 pcT cT pcS cS pcQ cQ pcH cH s2 s7 ia12 ia13 ia14 ia15 q hq
          exact hrest2.out
      · have hjn : j = n := by omega
        subst hjn
        rename_i ia1 ia2 ia3 ia4 ia5 ia6 ia7 ia8
        clear r1' HSA HCS HCQ HCH HTK HROW HMID HNM HMB hj hlt HX9 wa wb hcf16
        revert K xs ys w a1 c1 a2 c2 r2' n1 wd hwd K2 w1 gl pl ls HV HD hl16 w2 go po w3 w4 tb w5 gT pT w6 gS pS w7 gQ pQ w8 gH pH w9 gP pP bz sp C w10 CO O ia1 i b b1 hls ia2 u173 u174 u175 u176 u177 u178 u179 u180 u181 u182 u183 u184 u185 u186 u187 u188 u189 u190 u191 u192 u193 u194 u195 u196 u197 u198 u199 u200 u201 u202 u203 u204 u205 u206 u207 u208 u209 u210 u211 u212 u213 u214 u215 u216 u217 u218 u219 u220 u221 u222 u223 u224 u225 u226 u227 u228 u229 u230 u231 u232 u233 u234 u235 u236 u237 u238 ia3 ia4 w11 z w12 mb X R fo HFO ia5 ia6 wr u4 u31 u32 u254 u255 u256 u257 u258 u259 u260 u261 u262 u263 u264 u265 u266 u267 u268 u269 u270 u271 u272 u273 u274 u275 u276 u277 u278 u279 u280 u281 u282 u283 u284 u285 u286 u287 u288 u289 u290 u291 u292 u293 u294 u295 u296 u297 u298 u299 u300 u301 u302 u303 u304 u305 u306 u307 u308 u309 u310 u311 u312 u313 u314 u315 u316 u317 u318 u319 u320 u321 u322 u323 u324 u325 u326 u327 u328 u329 u330 u331 u332 u333 u334 u335 u336 u337 u338 u339 u340 u341 u342 u343 u344 u345 u346 u347 u348 u349 u350 u351 u352 u353 u354 u355 u356 u357 j X4 htl16 ia7 ia8 HEND
        exact hrest3.out
end Go.Proofs.Ytlbmjeennpccmaa
