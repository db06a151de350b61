/- FnExactSparesFor returns true for every input and changes nothing that was there. No condition. -/
import Derived.Test.YtnlnjhbckfcmfaaSt
import Derived.Test.YtnlnjhbckfcmfaaDC
namespace Go.Proofs.Ytnlnjhbckfcmfaa
open Go Go.RowKit Go.ChangeShapes Go.WideShapes Go.ChangeAt

/-- Whether the first k + 1 shares serve. -/
def servB (m s : Nat) (k : Nat) : Bool := fcmp .geq .f32 (sumF (cn .f32 0) (needL m k)) s
/-- The first number below n that serves. -/
def sfIdx (m s : Nat) (n : Nat) : Option Nat := (List.range n).find? (servB m s)
def sfRes (m s : Nat) : Option Nat := if meanB m && shareB s then sfIdx m s 33 else none
/-- What is handed back: a number and true; or 0 and false. -/
def SfPost (o : Option Nat) (w : World) (e : Ending) (w' : World) : Prop := Ext w w' ∧ e = .returned (.tuple #[.int .i64 ((o.getD 0 : Nat) : Int), .bool o.isSome])
theorem sf_hit {m s k : Nat} (hk : k < 33) (hp : servB m s k = true) (hn : ∀ j, j < k → servB m s j = false) : sfIdx m s 33 = some k := by
  unfold sfIdx
  rw [List.find?_range_eq_some]
  exact ⟨hp, List.mem_range.2 hk, fun j hj => by simp [hn j hj]⟩
theorem sf_none {m s : Nat} (hn : ∀ j, j < 33 → servB m s j = false) : sfIdx m s 33 = none := by
  unfold sfIdx
  rw [List.find?_eq_none]
  intro j hj
  simp [hn j (List.mem_range.1 hj)]
theorem needL_take (m : Nat) : ∀ n k, k ≤ n → (needL m n).take (k + 1) = needL m k
  | 0, k, h => by obtain rfl : k = 0 := by omega
                  rfl
  | n + 1, k, h => by
    by_cases hk : k = n + 1
    · subst hk; rw [List.take_of_length_le (by rw [needL_len]; omega)]
    · rw [needL, List.take_append_of_le_length (by rw [needL_len]; omega)]
      exact needL_take m n k (by omega)

theorem needL_pre {m n k : Nat} {xs : List Nat} (h : xs = needL m n) (hk : k ≤ n) : xs.take (k + 1) = needL m k := by rw [h]; exact needL_take m n k hk
theorem need_sum {m n k : Nat} {xs : List Nat} (h : xs = needL m n) (hk : k < xs.length) : fop .add .f32 (sumF (cn .f32 0) (xs.take k)) xs[k] = sumF (cn .f32 0) (needL m k) := by
  have hl : xs.length = n + 1 := by rw [h, needL_len]
  rw [← needL_pre h (show k ≤ n by omega), sumF_take hk]
set_option maxHeartbeats 2000000 in
theorem specSpares_any (m s : Nat) (w : World) :
    Calls Try.prog 34 #[.float .f32 m, .float .f32 s] w (SfPost (sfRes (cn .f32 m) (cn .f32 s)) w) := by
  cases h1 : meanB (cn .f32 m)
  · have H : Hid (sfRes (cn .f32 m) (cn .f32 s) = none) := by show _ = _; simp [sfRes, h1]
    have H1 := Lib.hid h1
    clear h1
    go_enter Try.func34, Try.ntmps34
    go_wp2_with fail
    refine (l04Mean_eq H1.out _).mono ?_
    rintro e w1 ⟨rfl, rfl⟩
    go_wp2_with fail
    go_ret2
    rw [H.out]
    exact ⟨Ext.refl _, rfl⟩
  · cases h2 : shareB (cn .f32 s)
    · have H : Hid (sfRes (cn .f32 m) (cn .f32 s) = none) := by show _ = _; simp [sfRes, h2]
      have H1 := Lib.hid h1
      have H2 := Lib.hid h2
      clear h1 h2
      go_enter Try.func34, Try.ntmps34
      go_wp2_with fail
      refine (l04Mean_eq H1.out _).mono ?_
      rintro e w1 ⟨rfl, rfl⟩
      go_wp2_with fail
      refine (l02Share_eq H2.out _).mono ?_
      rintro e w1 ⟨rfl, rfl⟩
      go_wp2_with fail
      go_ret2
      rw [H.out]
      exact ⟨Ext.refl _, rfl⟩
    · have H : Hid (sfRes (cn .f32 m) (cn .f32 s) = sfIdx (cn .f32 m) (cn .f32 s) 33) := by show _ = _; simp [sfRes, h1, h2]
      have H1 := Lib.hid h1
      have H2 := Lib.hid h2
      clear h1 h2
      go_enter Try.func34, Try.ntmps34
      go_wp2_with fail
      refine (l04Mean_eq H1.out _).mono ?_
      rintro e w1 ⟨rfl, rfl⟩
      go_wp2_with fail
      refine (l02Share_eq H2.out _).mono ?_
      rintro e w1 ⟨rfl, rfl⟩
      go_wp2_with fail
      go_loopw [6] (fun i wr => ∃ k : Nat, k ≤ 33 ∧ i = .int .i64 k ∧ Hid (∀ j, j < k → servB (cn .f32 m) (cn .f32 s) j = false) ∧ Ext w wr) (fun i _ => 33 - (intOf i).toNat)
      case atStart => exact ⟨0, by omega, rfl, fun j h => absurd h (Nat.not_lt_zero _), Ext.refl _⟩
      case round =>
        obtain ⟨k, hk, rfl, Hn, X⟩ := hrel
        by_cases hlt : k < 33
        · have hk32 : k ≤ 32 := by omega
          go_wp2_with fail
          refine (l04Service_any m k _ H1.out hk32).mono ?_
          rintro e w2 ⟨x, rfl, hx1, hx2, hx⟩
          have HX1 := Lib.hid hx1
          clear hx1 hx2
          replace X := X.trans hx
          clear hx
          cases hv : servB (cn .f32 m) (cn .f32 s) k
          · have q : fcmp .geq .f32 (cn .f32 x) (cn .f32 s) = false := by rw [HX1.out]; exact hv
            have Hv := Lib.hid hv
            clear hv
            go_wp2_with (refine wpList_fcmp rfl rfl rfl rfl rfl (by first | with_reducible assumption | exact rfl) ?_)
            go_roundw
            case rel =>
              refine ⟨k + 1, by omega, by go_num, (fun j hj => ?_), X⟩
              by_cases hjk : j = k
              · subst hjk; exact Hv.out
              · exact Hn.out j (by omega)
            case measure => simp [intOf]; omega
          · have q : fcmp .geq .f32 (cn .f32 x) (cn .f32 s) = true := by rw [HX1.out]; exact hv
            have Hv := Lib.hid hv
            clear hv
            go_wp2_with (refine wpList_fcmp rfl rfl rfl rfl rfl (by first | with_reducible assumption | exact rfl) ?_)
            go_ret2
            rw [H.out, sf_hit hlt Hv.out Hn.out]
            exact ⟨X, rfl⟩
        · go_wp2_with fail
          go_ret2
          rw [H.out, sf_none (fun j hj => Hn.out j (by omega))]
          exact ⟨X, rfl⟩

theorem isShare_eq' {b : Nat} {c : Bool} (h : shareB (cn .f32 b) = c) (w : World) : Calls Try.prog 77 #[.float .f32 b] w fun e w' => e = .returned (.bool c) ∧ w = w' := by subst h; exact isShare_any b w
set_option maxRecDepth 100000 in
set_option maxHeartbeats 2000000 in
theorem implSpares_any (m s : Nat) (w : World) :
    Calls Try.prog 35 #[.float .f32 m, .float .f32 s] w (SfPost (sfRes (cn .f32 m) (cn .f32 s)) w) := by
  have HN : ∀ w, Calls Try.prog 38 #[.float .f32 m, .int .i64 32] w (FlPost (if meanB (cn .f32 m) then some (needL (cn .f32 m) 32) else none) w) := by
    intro w
    have h := implNeedShares_any m 32 w
    have e : needO (cn .f32 m) 32 = if meanB (cn .f32 m) then some (needL (cn .f32 m) 32) else none := by
      unfold needO
      rw [show inB 32 0 32 = true from by decide, Bool.and_true]
      rfl
    rw [e] at h
    exact h
  have HNN := Lib.hid HN
  clear HN
  cases h1 : meanB (cn .f32 m)
  · have H : Hid (sfRes (cn .f32 m) (cn .f32 s) = none) := by show _ = _; simp [sfRes, h1]
    have H1 := Lib.hid h1
    clear h1
    go_enter Try.func35, Try.ntmps35
    go_wp2_with fail
    refine (HNN.out _).mono ?_
    rw [H1.out]
    rintro e w1 ⟨X, rfl⟩
    go_wp2_with fail
    go_ret2
    rw [H.out]
    exact ⟨X, rfl⟩
  · cases h2 : shareB (cn .f32 s)
    · have H : Hid (sfRes (cn .f32 m) (cn .f32 s) = none) := by show _ = _; simp [sfRes, h2]
      have H1 := Lib.hid h1
      have H2 := Lib.hid h2
      clear h1 h2
      go_enter Try.func35, Try.ntmps35
      go_wp2_with fail
      refine (HNN.out _).mono ?_
      rw [H1.out]
      rintro e w1 ⟨X, g, cap, os, rfl, hu, hb, own⟩
      clear hu hb own
      go_wp2_with fail
      refine (isShare_eq' H2.out _).mono ?_
      rintro e w1 ⟨rfl, rfl⟩
      go_wp2_with fail
      go_ret2
      rw [H.out]
      exact ⟨X, rfl⟩
    · have H : Hid (sfRes (cn .f32 m) (cn .f32 s) = sfIdx (cn .f32 m) (cn .f32 s) 33) := by show _ = _; simp [sfRes, h1, h2]
      have H1 := Lib.hid h1
      have H2 := Lib.hid h2
      clear h1 h2
      go_enter Try.func35, Try.ntmps35
      go_wp2_with fail
      refine (HNN.out _).mono ?_
      rw [H1.out]
      rintro e w1 ⟨X, g, cap, os, rfl, hu, hb, own⟩
      have R : RdF w1 (.slice (some ⟨g, 0, none⟩) os.length cap) os := ⟨own_rd own, hb⟩
      have hol : os.length = 33 := by rw [← List.length_map (f := cn .f32), hu, needL_len]
      have HOL := Lib.hid hol
      have hol1 : os.length ≤ 33 := by omega
      have HU := Lib.hid hu
      clear hu hb own hol
      go_wp2_with fail
      refine (isShare_eq' H2.out _).mono ?_
      rintro e w2 ⟨rfl, rfl⟩
      go_wp2_with fail
      go_loopw [8, 25] (fun x i wr => ∃ k b : Nat, k ≤ os.length ∧ i = .int .i64 k ∧ x = .float .f32 b ∧ Hid (cn .f32 b = sumF (cn .f32 0) ((os.map (cn .f32)).take k)) ∧ Hid (∀ j, j < k → servB (cn .f32 m) (cn .f32 s) j = false) ∧ Ext w1 wr) (fun _ i _ => os.length - (intOf i).toNat)
      case atStart => exact ⟨0, 0, by omega, rfl, rfl, rfl, (fun j h => absurd h (Nat.not_lt_zero _)), Ext.refl _⟩
      case round =>
        obtain ⟨k, b, hk, rfl, rfl, Hb, Hn, X2⟩ := hrel
        by_cases hlt : k < os.length
        · obtain ⟨b1, o1, hbo, hb1, hc1⟩ := (R.ext X2).at hlt
          cases hbo
          rw [Nat.zero_add] at hc1
          have hstep : Hid (∀ fb, cn .f32 fb = fop .add .f32 (cn .f32 b) (cn .f32 os[k]) → cn .f32 fb = sumF (cn .f32 0) (needL (cn .f32 m) k)) := by
            intro fb hf
            have h3 := need_sum HU.out (k := k) (by simpa using hlt)
            rw [hf, Hb.out, ← h3, List.getElem_map]
          cases hv : servB (cn .f32 m) (cn .f32 s) k
          · have Hv := Lib.hid hv
            clear hv
            have HQ : Hid (fcmp .geq .f32 (sumF (cn .f32 0) (needL (cn .f32 m) k)) (cn .f32 s) = false) := by
              show _ = _; have h := Hv.out; unfold servB at h; exact h
            go_wp2_with (first | (refine wpList_fop rfl rfl rfl rfl rfl ?_; intro fb nf hfb hfl; replace hfb := Lib.hid hfb; replace hfl := Lib.hid hfl) | (refine wpList_fcmp (c := false) rfl rfl rfl rfl rfl (by rw [hstep.out _ hfb.out]; exact HQ.out) ?_))
            have hb2 : Hid (cn .f32 fb = sumF (cn .f32 0) ((os.map (cn .f32)).take (k + 1))) := by
              show _ = _
              rw [hstep.out _ hfb.out, needL_pre HU.out (by have := HOL.out; omega)]
            go_roundw
            case rel =>
              refine ⟨k + 1, fb, by omega, by go_num, rfl, hb2, (fun j hj => ?_), X2.trans (Ext.drewN _ _)⟩
              by_cases hjk : j = k
              · subst hjk; exact Hv.out
              · exact Hn.out j (by omega)
            case measure => simp [intOf]; omega
          · have Hv := Lib.hid hv
            clear hv
            have HQ : Hid (fcmp .geq .f32 (sumF (cn .f32 0) (needL (cn .f32 m) k)) (cn .f32 s) = true) := by
              show _ = _; have h := Hv.out; unfold servB at h; exact h
            go_wp2_with (first | (refine wpList_fop rfl rfl rfl rfl rfl ?_; intro fb nf hfb hfl; replace hfb := Lib.hid hfb; replace hfl := Lib.hid hfl) | (refine wpList_fcmp (c := true) rfl rfl rfl rfl rfl (by rw [hstep.out _ hfb.out]; exact HQ.out) ?_))
            go_ret2
            rw [H.out, sf_hit (by omega) Hv.out Hn.out]
            exact ⟨X.trans (X2.trans (Ext.drewN _ _)), rfl⟩
        · go_wp2_with fail
          go_ret2
          rw [H.out, sf_none (fun j hj => Hn.out j (by have := HOL.out; omega))]
          exact ⟨X.trans X2, rfl⟩

set_option maxHeartbeats 2000000 in
theorem sparesFor_law (m s : Nat) (w : World) :
    Calls Try.prog 7 #[.float .f32 m, .float .f32 s] w fun e w' => e = .returned (.bool true) ∧ Ext w w' := by
  obtain ⟨a, c, hs, hi⟩ : ∃ (a : Int) (c : Bool), (∀ w, Calls Try.prog 34 #[.float .f32 m, .float .f32 s] w fun e w' => Ext w w' ∧ e = .returned (.tuple #[.int .i64 a, .bool c])) ∧
      (∀ w, Calls Try.prog 35 #[.float .f32 m, .float .f32 s] w fun e w' => Ext w w' ∧ e = .returned (.tuple #[.int .i64 a, .bool c])) :=
    ⟨_, _, fun w => specSpares_any m s w, fun w => implSpares_any m s w⟩
  have HS := Lib.hid hs
  have HI := Lib.hid hi
  clear hs hi
  go_enter Try.func7, Try.ntmps7
  go_wp2_with fail
  refine (HS.out _).mono ?_
  rintro e w1 ⟨X1, rfl⟩
  go_wp2_with fail
  refine (HI.out _).mono ?_
  rintro e w2 ⟨X2, rfl⟩
  go_wp2_with fail
  go_ret
  exact ⟨rfl, X1.trans X2⟩

theorem sparesFor_walk (v1 v2 : Value) (w : World) (h1 : ArgF32 w v1) (h2 : ArgF32 w v2) :
    Calls Try.prog 7 #[v1, v2] w fun e w' => e = .returned (.bool true) ∧ Ext w w' := by
  obtain ⟨m, rfl, _⟩ := h1
  obtain ⟨s, rfl, _⟩ := h2
  exact sparesFor_law m s w

theorem fnExactSparesFor_own : ownKnob Try.prog.godebug = none := by kernel_rfl
theorem fnExactSparesFor_laid : laidOutB Try.prog = true := by kernel_rfl

set_option maxRecDepth 100000 in
theorem fnExactSparesFor_lifted (os : Os) (started : os.Started) (H : Type) (enc : TypeId × Value → H) :
    ReturnsInHanded {} Try.checked os 7 .any (Rows.fnExactSparesForSpec.pre6 enc Try.prog Try.f7 Rows.fnExactSparesForRow.domain false) (Rows.fnExactSparesForSpec.post enc Try.prog Try.f7 false true false false) := by
  refine returnsInHanded_of_change (C := Try.checked) fnExactSparesFor_own started (by kernel_rfl) Try.func7
    (ChangeSpec.witness6 (enc := enc) (C := Try.checked) false ⟨#[], #[.float .f32 0, .float .f32 0], []⟩ 8 (by kernel_rfl) (by kernel_rfl) (by kernel_rfl) (by kernel_rfl)) ?_
  intro W base args ds gs before hval0 hW hcnd _
  have hval : ∀ (j : Nat) t v, Try.f7.params[j]? = some t → args[j]? = some v → Value.okWide Try.prog W .any base t v := hval0
  have hW' := hW
  obtain ⟨p, q, hA0, hV, rfl, hfz, hnd⟩ := hW
  have hA : DataW.TrodAll enc Try.prog W 0 (fun _ => true) true Try.f7.params.toList args.toList ds p := hA0
  rw [Try.params7] at hA hval
  obtain ⟨v0, vs0, d0, ds0, p0, q0, hargs, rfl, rfl, h0, r0⟩ := trodAll_cons hA
  obtain ⟨v1, vs1, d1, ds1, p1, q1, rfl, rfl, rfl, h1, r1⟩ := trodAll_cons r0
  obtain ⟨rfl, rfl, rfl⟩ := trodAll_nil r1
  obtain rfl : args = #[v0, v1] := by cases args; simp_all
  obtain ⟨rfl, rfl⟩ := trodVars_none hV
  have lt0 : ∀ x ∈ p0, x.block < W.heap.size := by obtain ⟨m, hm⟩ := h0; exact DataW.trod_lt m _ _ _ hm
  have w0 := argF32 Try.underlying40 (hval 0 40 v0 rfl rfl) h0
  have lt1 : ∀ x ∈ p1, x.block < W.heap.size := by obtain ⟨m, hm⟩ := h1; exact DataW.trod_lt m _ _ _ hm
  have w1 := argF32 Try.underlying40 (hval 1 40 v1 rfl rfl) h1
  clear hA0 hval0
  refine (sparesFor_walk v0 v1 W w0 w1).mono fun e W' ⟨he, bel⟩ => ?_
  subst he
  exact ⟨_, rfl, _, _, _, [], _, [], hW', trodAll_mk1 (shut_bool Try.underlying4 _), (trodAll_cons_mk (Below.trod fnExactSparesFor_laid (by kernel_rfl) (of_decide_eq_true (by kernel_rfl)) h0 bel lt0) (trodAll_cons_mk (Below.trod fnExactSparesFor_laid (by kernel_rfl) (of_decide_eq_true (by kernel_rfl)) h1 bel lt1) trodAll_mk0)), rfl, bel.below.frame _, fun h => by cases h⟩

theorem fnExactSparesFor_toL {s : String} {L : List Char} (h : s = String.ofList L) : s.toList = L := by rw [h]; exact String.toList_ofList
def fnExactSparesFor_enterF (P : Program) : { F : List Char → Bool // P.mayEnter = F P.initOrder.toList } :=
  ⟨_, by unfold Program.mayEnter; generalize P.initOrder.toList = l; exact rfl⟩
def fnExactSparesFor_liftsF (P : Program) : { F : List Char → Bool // P.liftsFinal = F P.initOrder.toList } :=
  ⟨_, by unfold Program.liftsFinal Program.headLifts; generalize P.initOrder.toList = l; exact rfl⟩
def fnExactSparesFor_makeF (P : Program) : { F : List Char → Option Make // P.make = F P.initOrder.toList } :=
  ⟨_, by unfold Program.make; generalize P.initOrder.toList = l; exact rfl⟩
set_option maxRecDepth 100000 in
theorem fnExactSparesFor_enter : Try.checked.prog.mayEnter = true :=
  ((fnExactSparesFor_enterF Try.checked.prog).2.trans (congrArg (fnExactSparesFor_enterF Try.checked.prog).1 (fnExactSparesFor_toL (rfl : Try.checked.prog.initOrder = String.ofList _)))).trans (by kernel_rfl)
set_option maxRecDepth 100000 in
theorem fnExactSparesFor_lifts : Try.checked.prog.liftsFinal = false :=
  ((fnExactSparesFor_liftsF Try.checked.prog).2.trans (congrArg (fnExactSparesFor_liftsF Try.checked.prog).1 (fnExactSparesFor_toL (rfl : Try.checked.prog.initOrder = String.ofList _)))).trans (by kernel_rfl)
set_option maxRecDepth 100000 in
theorem fnExactSparesFor_make : Try.checked.prog.make = some .cut :=
  ((fnExactSparesFor_makeF Try.checked.prog).2.trans (congrArg (fnExactSparesFor_makeF Try.checked.prog).1 (fnExactSparesFor_toL (rfl : Try.checked.prog.initOrder = String.ofList _)))).trans (by kernel_rfl)
set_option maxRecDepth 100000 in
theorem fnExactSparesFor_closed : joinedFacts Try.checked.prog 7 Try.f7 Rows.fnExactSparesForSpec Rows.fnExactSparesForRow = true := by
  unfold joinedFacts
  rw [fnExactSparesFor_enter, fnExactSparesFor_lifts, fnExactSparesFor_make]
  decide +kernel

theorem fnExactSparesFor_over : Rows.fnExactSparesForRow.holds Try.pinned (OpenSpec.ofChange Rows.fnExactSparesForSpec) :=
  OpenClaim.holds_of_wide 7 Try.f7 rfl rfl rfl rfl rfl rfl rfl ⟨rfl, rfl, rfl, rfl, rfl⟩ rfl rfl rfl rfl rfl (by kernel_rfl) Try.func7 fnExactSparesFor_closed
    (of_decide_eq_true (by kernel_rfl)) (by unfold Func.isWrapper; first | (rw [if_pos (by decide +kernel)]; kernel_rfl) | (rw [if_neg (by decide +kernel)]; exact ⟨rfl, rfl⟩))
    (fun os started H enc _ => fnExactSparesFor_lifted os started H enc)

/-- The statement. -/
theorem fnExactSparesFor_holds : Rows.FnExactSparesForSaid := fnExactSparesFor_over


end Go.Proofs.Ytnlnjhbckfcmfaa
