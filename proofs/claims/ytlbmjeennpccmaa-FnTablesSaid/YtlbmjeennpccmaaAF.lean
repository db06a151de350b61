
/- Contracts of the laws' helpers for lists of 32-bit numbers. Conditions: lists that can be read, of at most 2^20 numbers where they are copied. -/
import Derived.Test.YtlbmjeennpccmaaProg
import Derived.Test.YtlbmjeennpccmaaA
import Derived.Test.YtlbmjeennpccmaaRead
import Derived.Test.YtlbmjeennpccmaaFl
namespace Go.Proofs.Ytlbmjeennpccmaa
open Go Go.RowKit

theorem run_store_float (P : Program) (w : World) (a : Addr) (m : Mode) (k : FloatKind) (b : Nat) : (store a (.float k b) m).run P w = stored P w a (.float k b) m := run_store P w a _ m rfl
attribute [local go_sem] run_store_float


theorem infoF32 : (Try.prog.info? 24).map (fun i => (i.zero, i.size, i.bytes)) = some (some (.float .f32 0), 1, 4) := by kernel_rfl

set_option maxHeartbeats 1000000 in
theorem sameFloat_any (x y : Nat) (w : World) (h : cn .f64 x = cn .f64 y) :
    Calls Try.prog 13 #[.float .f64 x, .float .f64 y] w fun e w' => e = .returned (.bool true) ∧ Ext w w' := by
  have H := Lib.hid h
  clear h
  cases hN : isN .f64 x with
  | true =>
    have h1 : fcmp .neq .f64 (cn .f64 x) (cn .f64 x) = true := by rw [fcmp_cn, fcmp_self_neq, hN]
    have h2 : fcmp .neq .f64 (cn .f64 y) (cn .f64 y) = true := by rw [← H.out]; exact h1
    clear hN
    go_enter Try.func13, Try.ntmps13
    go_wp2_with (refine wpList_fcmp rfl rfl rfl rfl rfl (by first | with_reducible assumption | exact rfl) ?_)
    go_ret
    exact ⟨rfl, Ext.refl _⟩
  | false =>
    have hy : isN .f64 y = false := by rw [← isN_cn, ← H.out, isN_cn, hN]
    have e : x = y := by
      have h := H.out
      unfold cn at h
      rwa [if_neg (by simp [hN]), if_neg (by simp [hy])] at h
    subst e
    have h1 : fcmp .neq .f64 (cn .f64 x) (cn .f64 x) = false := by rw [fcmp_cn, fcmp_self_neq, hN]
    have h2 : fcmp .eql .f64 (cn .f64 x) (cn .f64 x) = true := by rw [fcmp_cn]; unfold fcmp; rw [order_self _ _ hN]; rfl
    clear hN hy H
    cases hz : fcmp .eql .f64 (cn .f64 x) (cn .f64 0)
    all_goals
      go_enter Try.func13, Try.ntmps13
      go_wp2_with (first | (refine wpList_fcmp rfl rfl rfl rfl rfl (by first | with_reducible assumption | exact rfl) ?_) | (refine wpList_fop rfl rfl rfl rfl rfl ?_; intro fb nf hfb hfl))
      go_ret
      first | exact ⟨rfl, Ext.refl _⟩ | exact ⟨rfl, Ext.drewN _ _⟩

/-- Two lists that have the same numbers. -/
def SameC (bs cs : List Nat) : Prop := bs.map (cn .f32) = cs.map (cn .f32)

theorem SameC.at {bs cs : List Nat} (h : SameC bs cs) {k : Nat} (h1 : k < bs.length) (h2 : k < cs.length) : cn .f32 bs[k] = cn .f32 cs[k] := by
  unfold SameC at h
  have e1 : (bs.map (cn .f32))[k]? = some (cn .f32 bs[k]) := by simp [h1]
  have e2 : (cs.map (cn .f32))[k]? = some (cn .f32 cs[k]) := by simp [h2]
  rw [h, e2] at e1
  exact (Option.some.inj e1).symm

theorem RdF.at {w : World} {a : Option Addr} {cap n : Nat} {bs : List Nat} (h : RdF w (.slice a n cap) bs) {k : Nat} (hk : k < bs.length) :
    ∃ b off, a = some ⟨b, off, none⟩ ∧ b < w.heap.size ∧ w.cell? ⟨b, off + k, none⟩ = some (.float .f32 bs[k]) := by
  have hn : n = bs.length := by obtain ⟨⟨_, _, _, h2, _⟩, _⟩ := h; cases h2; rfl
  subst hn
  obtain ⟨b, off, h1, h2, h3⟩ := Rd.pos h.1 (by omega : 0 < bs.length * 1)
  refine ⟨b, off, h1, h2, ?_⟩
  rw [h3 k (by omega)]
  simp [hk]

set_option maxHeartbeats 1000000 in
theorem eqFloat32S_any (v1 v2 : Value) (bs cs : List Nat) (w : World) (r1 : RdF w v1 bs) (r2 : RdF w v2 cs) (h : SameC bs cs) :
    Calls Try.prog 17 #[v1, v2] w fun e w' => e = .returned (.bool true) ∧ Ext w w' := by
  have r1' := r1
  have r2' := r2
  obtain ⟨⟨_, a1, c1, rfl, p1, p2, _, _⟩, _⟩ := r1
  obtain ⟨⟨_, a2, c2, rfl, q1, q2, _, _⟩, _⟩ := r2
  unfold maxLen at p2 q2
  have hl : bs.length = cs.length := by have := congrArg List.length h; simpa using this
  have hne : ((bs.length : Int) != (cs.length : Int)) = false := by simp [hl]
  have Hl := Lib.hid hl
  have H := Lib.hid h
  clear hl h
  go_enter Try.func17, Try.ntmps17
  go_wp2_with fail
  go_loopw [5] (fun i wr => ∃ k : Nat, k ≤ bs.length ∧ i = .int .i64 k ∧ Ext w wr) (fun i _ => bs.length - (intOf i).toNat)
  case atStart => exact ⟨0, Nat.zero_le _, rfl, Ext.refl _⟩
  case round =>
    obtain ⟨k, hk, rfl, X⟩ := hrel
    by_cases hlt : k < bs.length
    · have hlt2 : k < cs.length := by rw [← Hl.out]; exact hlt
      obtain ⟨b1, o1, rfl, hb1, hc1⟩ := (r1'.ext X).at hlt
      obtain ⟨b2, o2, rfl, hb2, hc2⟩ := (r2'.ext X).at hlt2
      have he := Lib.hid (H.out.at hlt hlt2)
      go_wp2_with fail
      refine wp_region_rel 12 (fun _ v => v = .bool true) (fun _ _ _ => True) (by kernel_rfl) (by kernel_rfl) (by kernel_rfl) ?_
      dsimp only [List.take, List.drop, List.length]
      refine LX_move rfl (.inl rfl) rfl ?_
      refine LX_move rfl (.inl rfl) rfl ?_
      refine LX_det (.pointer (some ⟨b1, o1 + k, none⟩)) rfl rfl (fun w' hx _ => ?_) ?_
      · go_simp
      refine LX_det (.float .f32 bs[k]) rfl rfl (fun w' hx _ => ?_) ?_
      · have := (Below.cell hx (p := ⟨b1, o1 + k, none⟩) hb1).trans hc1
        go_simp
      refine LX_wide (by kernel_rfl) Try.underlying30 rfl rfl rfl fun z1 hz1 hl1 => ?_
      refine LX_move rfl (.inl rfl) rfl ?_
      refine LX_move rfl (.inl rfl) rfl ?_
      refine LX_det (.pointer (some ⟨b2, o2 + k, none⟩)) rfl rfl (fun w' hx _ => ?_) ?_
      · go_simp
      refine LX_det (.float .f32 cs[k]) rfl rfl (fun w' hx _ => ?_) ?_
      · have := (Below.cell hx (p := ⟨b2, o2 + k, none⟩) hb2).trans hc2
        go_simp
      simp only [Act.put, List.setIfInBounds_toArray, List.set_cons_succ, List.set_cons_zero]
      refine LX_wide (by kernel_rfl) Try.underlying30 rfl rfl rfl fun z2 hz2 hl2 => ?_
      have hz : Hid (cn .f64 z1 = cn .f64 z2) := by show _ = _; rw [hz1, hz2, he.out]
      clear hz1 hz2
      refine LX_call rfl rfl (fun _ => St.top) (fun w' hx _ => ?_) ?_
      · go_simp
        refine UponC.enter ((sameFloat_any z1 z2 _ hz.out).mono ?_)
        rintro e w'' ⟨rfl, hx'⟩
        exact ⟨_, rfl, hx', rfl, trivial⟩
      rintro _ rfl
      refine LX_det (.bool false) rfl rfl (fun w' hx _ => ?_) ?_
      · go_simp
      refine LX_nil fun w2 hx _ => ?_
      refine wpList_nil ?_
      simp only [Act.put, List.setIfInBounds_toArray, List.set_cons_succ, List.set_cons_zero]
      go_wp2_with fail
      go_roundw
      case rel => exact ⟨k + 1, by omega, by go_num, X.trans hx⟩
      case measure => simp [intOf]; omega
    · go_wp2_with fail
      go_ret
      exact ⟨rfl, X⟩


end Go.Proofs.Ytlbmjeennpccmaa
