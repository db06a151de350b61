
/- FnExactSparesFor returns true for every input and changes nothing that was there. No condition. -/
import Derived.Test.YtlbmjeennpccmaaSt
import Derived.Test.YtlbmjeennpccmaaDC
namespace Go.Proofs.Ytlbmjeennpccmaa
open Go Go.RowKit Go.ChangeShapes Go.WideShapes Go.ChangeAt

/-- Whether the first k + 1 shares serve. -/
def servB (m s : Nat) (k : Nat) : Bool := fcmp .geq .f32 (sumF (cn .f32 0) (needL m k)) s
/-- The first number below n that serves. -/
def sfIdx (m s : Nat) (n : Nat) : Option Nat := (List.range n).find? (servB m s)
def sfRes (m s : Nat) : Option Nat := if meanB m && shareB s then sfIdx m s 33 else none
/-- What is handed back: a number and true; or 0 and false. -/
def SfPost (o : Option Nat) (w : World) (e : Ending) (w' : World) : Prop := Ext w w' ∧ e = .returned (.tuple #[.int .i64 ((o.getD 0 : Nat) : Int), .bool o.isSome])
theorem sf_hit {m s k : Nat} (hk : k < 33) (hp : servB m s k = true) (hn : ∀ j, j < k → servB m s j = false) : sfIdx m s 33 = some k := by
  unfold sfIdx
  rw [List.find?_range_eq_some]
  exact ⟨hp, List.mem_range.2 hk, fun j hj => by simp [hn j hj]⟩
theorem sf_none {m s : Nat} (hn : ∀ j, j < 33 → servB m s j = false) : sfIdx m s 33 = none := by
  unfold sfIdx
  rw [List.find?_eq_none]
  intro j hj
  simp [hn j (List.mem_range.1 hj)]
theorem needL_take (m : Nat) : ∀ n k, k ≤ n → (needL m n).take (k + 1) = needL m k
  | 0, k, h => by obtain rfl : k = 0 := by omega
                  rfl
  | n + 1, k, h => by
    by_cases hk : k = n + 1
    · subst hk; rw [List.take_of_length_le (by rw [needL_len]; omega)]
    · rw [needL, List.take_append_of_le_length (by rw [needL_len]; omega)]
      exact needL_take m n k (by omega)

theorem needL_pre {m n k : Nat} {xs : List Nat} (h : xs = needL m n) (hk : k ≤ n) : xs.take (k + 1) = needL m k := by rw [h]; exact needL_take m n k hk
theorem need_sum {m n k : Nat} {xs : List Nat} (h : xs = needL m n) (hk : k < xs.length) : fop .add .f32 (sumF (cn .f32 0) (xs.take k)) xs[k] = sumF (cn .f32 0) (needL m k) := by
  have hl : xs.length = n + 1 := by rw [h, needL_len]
  rw [← needL_pre h (show k ≤ n by omega), sumF_take hk]

theorem isShare_eq' {b : Nat} {c : Bool} (h : shareB (cn .f32 b) = c) (w : World) : Calls Try.prog 64 #[.float .f32 b] w fun e w' => e = .returned (.bool c) ∧ w = w' := by subst h; exact isShare_any b w
set_option maxRecDepth 100000 in
set_option maxHeartbeats 2000000 in
theorem implSpares_any (m s : Nat) (w : World) :
    Calls Try.prog 25 #[.float .f32 m, .float .f32 s] w (SfPost (sfRes (cn .f32 m) (cn .f32 s)) w) := by
  have HN : ∀ w, Calls Try.prog 23 #[.float .f32 m, .int .i64 32] w (FlPost (if meanB (cn .f32 m) then some (needL (cn .f32 m) 32) else none) w) := by
    intro w
    have h := implNeedShares_any m 32 w
    have e : needO (cn .f32 m) 32 = if meanB (cn .f32 m) then some (needL (cn .f32 m) 32) else none := by
      unfold needO
      rw [show inB 32 0 32 = true from by decide, Bool.and_true]
      rfl
    rw [e] at h
    exact h
  have HNN := Lib.hid HN
  clear HN
  cases h1 : meanB (cn .f32 m)
  · have H : Hid (sfRes (cn .f32 m) (cn .f32 s) = none) := by show _ = _; simp [sfRes, h1]
    have H1 := Lib.hid h1
    clear h1
    go_enter Try.func25, Try.ntmps25
    go_wp2_with fail
    refine (HNN.out _).mono ?_
    rw [H1.out]
    rintro e w1 ⟨X, rfl⟩
    go_wp2_with fail
    go_ret2
    rw [H.out]
    exact ⟨X, rfl⟩
  · cases h2 : shareB (cn .f32 s)
    · have H : Hid (sfRes (cn .f32 m) (cn .f32 s) = none) := by show _ = _; simp [sfRes, h2]
      have H1 := Lib.hid h1
      have H2 := Lib.hid h2
      clear h1 h2
      go_enter Try.func25, Try.ntmps25
      go_wp2_with fail
      refine (HNN.out _).mono ?_
      rw [H1.out]
      rintro e w1 ⟨X, g, cap, os, rfl, hu, hb, own⟩
      clear hu hb own
      go_wp2_with fail
      refine (isShare_eq' H2.out _).mono ?_
      rintro e w1 ⟨rfl, rfl⟩
      go_wp2_with fail
      go_ret2
      rw [H.out]
      exact ⟨X, rfl⟩
    · have H : Hid (sfRes (cn .f32 m) (cn .f32 s) = sfIdx (cn .f32 m) (cn .f32 s) 33) := by show _ = _; simp [sfRes, h1, h2]
      have H1 := Lib.hid h1
      have H2 := Lib.hid h2
      clear h1 h2
      go_enter Try.func25, Try.ntmps25
      go_wp2_with fail
      refine (HNN.out _).mono ?_
      rw [H1.out]
      rintro e w1 ⟨X, g, cap, os, rfl, hu, hb, own⟩
      have R : RdF w1 (.slice (some ⟨g, 0, none⟩) os.length cap) os := ⟨own_rd own, hb⟩
      have hol : os.length = 33 := by rw [← List.length_map (f := cn .f32), hu, needL_len]
      have HOL := Lib.hid hol
      have hol1 : os.length ≤ 33 := by omega
      have HU := Lib.hid hu
      clear hu hb own hol
      go_wp2_with fail
      refine (isShare_eq' H2.out _).mono ?_
      rintro e w2 ⟨rfl, rfl⟩
      go_wp2_with fail
      go_loopw [8, 25] (fun x i wr => ∃ k b : Nat, k ≤ os.length ∧ i = .int .i64 k ∧ x = .float .f32 b ∧ Hid (cn .f32 b = sumF (cn .f32 0) ((os.map (cn .f32)).take k)) ∧ Hid (∀ j, j < k → servB (cn .f32 m) (cn .f32 s) j = false) ∧ Ext w1 wr) (fun _ i _ => os.length - (intOf i).toNat)
      case atStart => exact ⟨0, 0, by omega, rfl, rfl, rfl, (fun j h => absurd h (Nat.not_lt_zero _)), Ext.refl _⟩
      case round =>
        obtain ⟨k, b, hk, rfl, rfl, Hb, Hn, X2⟩ := hrel
        by_cases hlt : k < os.length
        · obtain ⟨b1, o1, hbo, hb1, hc1⟩ := (R.ext X2).at hlt
          cases hbo
          rw [Nat.zero_add] at hc1
          have hstep : Hid (∀ fb, cn .f32 fb = fop .add .f32 (cn .f32 b) (cn .f32 os[k]) → cn .f32 fb = sumF (cn .f32 0) (needL (cn .f32 m) k)) := by
            intro fb hf
            have h3 := need_sum HU.out (k := k) (by simpa using hlt)
            rw [hf, Hb.out, ← h3, List.getElem_map]
          cases hv : servB (cn .f32 m) (cn .f32 s) k
          · have Hv := Lib.hid hv
            clear hv
            have HQ : Hid (fcmp .geq .f32 (sumF (cn .f32 0) (needL (cn .f32 m) k)) (cn .f32 s) = false) := by
              show _ = _; have h := Hv.out; unfold servB at h; exact h
            go_wp2_with (first | (refine wpList_fop rfl rfl rfl rfl rfl ?_; intro fb nf hfb hfl; replace hfb := Lib.hid hfb; replace hfl := Lib.hid hfl) | (refine wpList_fcmp (c := false) rfl rfl rfl rfl rfl (by rw [hstep.out _ hfb.out]; exact HQ.out) ?_))
            have hb2 : Hid (cn .f32 fb = sumF (cn .f32 0) ((os.map (cn .f32)).take (k + 1))) := by
              show _ = _
              rw [hstep.out _ hfb.out, needL_pre HU.out (by have := HOL.out; omega)]
            go_roundw
            case rel =>
              refine ⟨k + 1, fb, by omega, by go_num, rfl, hb2, (fun j hj => ?_), X2.trans (Ext.drewN _ _)⟩
              by_cases hjk : j = k
              · subst hjk; exact Hv.out
              · exact Hn.out j (by omega)
            case measure => simp [intOf]; omega
          · have Hv := Lib.hid hv
            clear hv
            have HQ : Hid (fcmp .geq .f32 (sumF (cn .f32 0) (needL (cn .f32 m) k)) (cn .f32 s) = true) := by
              show _ = _; have h := Hv.out; unfold servB at h; exact h
            go_wp2_with (first | (refine wpList_fop rfl rfl rfl rfl rfl ?_; intro fb nf hfb hfl; replace hfb := Lib.hid hfb; replace hfl := Lib.hid hfl) | (refine wpList_fcmp (c := true) rfl rfl rfl rfl rfl (by rw [hstep.out _ hfb.out]; exact HQ.out) ?_))
            go_ret2
            rw [H.out, sf_hit (by omega) Hv.out Hn.out]
            exact ⟨X.trans (X2.trans (Ext.drewN _ _)), rfl⟩
        · go_wp2_with fail
          go_ret2
          rw [H.out, sf_none (fun j hj => Hn.out j (by have := HOL.out; omega))]
          exact ⟨X.trans X2, rfl⟩


end Go.Proofs.Ytlbmjeennpccmaa
