
/- Contracts of the laws' helpers for lists of 32-bit numbers. Conditions: lists that can be read, of at most 2^20 numbers where they are copied. -/
import Derived.Test.YtepgkhcfeaklmaaProg
import Derived.Test.YtepgkhcfeaklmaaA
import Derived.Test.YtepgkhcfeaklmaaRead
import Derived.Test.YtepgkhcfeaklmaaFl
namespace Go.Proofs.Ytepgkhcfeaklmaa
open Go Go.RowKit

theorem run_store_float (P : Program) (w : World) (a : Addr) (m : Mode) (k : FloatKind) (b : Nat) : (store a (.float k b) m).run P w = stored P w a (.float k b) m := run_store P w a _ m rfl
attribute [local go_sem] run_store_float


theorem infoF32 : (Try.prog.info? 61).map (fun i => (i.zero, i.size, i.bytes)) = some (some (.float .f32 0), 1, 4) := by kernel_rfl

set_option maxHeartbeats 1000000 in
theorem toFloat32S_any (v : Value) (n : Nat) (xs : List Value) (w : World) (hr : Rd 1 w v n xs) (hi : ∀ x ∈ xs, ∃ z, x = .float .f32 z) (hn : n ≤ 1048576) :
    Calls Try.prog 50 #[v] w fun e w' => ∃ g, e = .returned (.slice (some ⟨g, 0, none⟩) n n) ∧ Below w.heap.size w w' ∧ w'.ownsRow w.heap.size 61 1 (.slice (some ⟨g, 0, none⟩) n n) n xs := by
  have hr' := hr
  obtain ⟨hlen, a, cap, rfl, h3, h4, h5, h6⟩ := hr
  obtain ⟨i0, hi0, hz0, hz1, hz2⟩ := info_parts infoF32
  unfold maxLen at h4
  go_enter Try.func50, Try.ntmps50
  go_wp2_with (at_make; refine wpList_make_full _ rfl _ _ 59 rfl w.heap.size 61 i0 (.float .f32 0) 1 Try.underlying59 hi0 hz0 hz1 _ _ _ _ n rfl rfl rfl rfl ?c1 ?c2 ?c3 ?_)
  case c1 => rw [hz2]; omega
  case c2 => unfold maxLen; omega
  case c3 => exact Nat.le_refl _
  intro w1 hown hg
  go_wp2
  go_loopw [4] (fun i wr => ∃ k : Nat, k ≤ n ∧ i = .int .i64 k ∧ wr.ownsRow w.heap.size 61 1 (.slice (some ⟨w.heap.size, 0, none⟩) n n) n (xs.take k ++ List.replicate (n - k) (.float .f32 0)) ∧ Below w.heap.size w wr) (fun i _ => n - (intOf i).toNat)
  case atStart =>
    refine ⟨0, Nat.zero_le _, rfl, ?_, ?_⟩
    · have := hown
      rw [toList_madeCells_one] at this
      exact this
    · exact (Below.refl _ _).grown hg (Nat.le_refl _) (fun _ h => by cases h)
  case round =>
    obtain ⟨k, hk, rfl, hown1, hb1⟩ := hrel
    by_cases hlt : k < n
    · obtain ⟨b, off, rfl, hb, hc⟩ := hr'.pos (by omega)
      obtain ⟨z, hz⟩ : ∃ z, xs[k]? = some (.float .f32 z) := by
        obtain ⟨z, hz⟩ := hi xs[k] (List.getElem_mem (by omega))
        exact ⟨z, by rw [List.getElem?_eq_getElem (by omega), hz]⟩
      have hc1 : wr.cell? ⟨b, off + k, none⟩ = some (.float .f32 z) := by
        rw [hb1.cell (p := ⟨b, off + k, none⟩) hb, hc k (by omega), hz]
      have hc2 := hown1.cellAt k (by omega)
      have hf2 := hown1.frozenAt k
      have hst := hown1.stored k (.float .f32 z)
      have Hst := Lib.hid hst
      clear hst
      have hz2' : (xs.take k ++ List.replicate (n - k) (.float .f32 0))[k]? = some (Value.float .f32 0) := by
        rw [List.getElem?_append_right (by simp; omega), List.getElem?_replicate, if_pos (by simp; omega)]
      rw [hz2'] at hc2
      have Hz := Lib.hid hz
      clear hz hz2' hc h6 hi hr'
      go_wp2
      go_roundw
      case rel =>
        refine ⟨k + 1, by omega, by go_num, ?_, hb1.setCell (Nat.le_refl _) _⟩
        have e : (xs.take k ++ List.replicate (n - k) (Value.float .f32 0)).set k (.float .f32 z) = xs.take (k + 1) ++ List.replicate (n - (k + 1)) (.float .f32 0) := by
          rw [List.take_add_one, Hz.out, List.set_append_right _ _ (by simp; omega), List.length_take, Nat.min_eq_left (by omega), Nat.sub_self, show n - k = (n - (k + 1)) + 1 from by omega, List.replicate_succ]
          simp
        rw [← e]
        exact Hst.out.1
      case measure => simp [intOf]; omega
    · go_wp2
      go_ret
      obtain rfl : k = n := by omega
      refine ⟨_, rfl, hb1, ?_⟩
      rw [List.take_of_length_le (by omega)] at hown1
      simpa using hown1


set_option maxHeartbeats 1000000 in
theorem sameFloat_any (x y : Nat) (w : World) (h : cn .f64 x = cn .f64 y) :
    Calls Try.prog 52 #[.float .f64 x, .float .f64 y] w fun e w' => e = .returned (.bool true) ∧ Ext w w' := by
  have H := Lib.hid h
  clear h
  cases hN : isN .f64 x with
  | true =>
    have h1 : fcmp .neq .f64 (cn .f64 x) (cn .f64 x) = true := by rw [fcmp_cn, fcmp_self_neq, hN]
    have h2 : fcmp .neq .f64 (cn .f64 y) (cn .f64 y) = true := by rw [← H.out]; exact h1
    clear hN
    go_enter Try.func52, Try.ntmps52
    go_wp2_with (refine wpList_fcmp rfl rfl rfl rfl rfl (by first | with_reducible assumption | exact rfl) ?_)
    go_ret
    exact ⟨rfl, Ext.refl _⟩
  | false =>
    have hy : isN .f64 y = false := by rw [← isN_cn, ← H.out, isN_cn, hN]
    have e : x = y := by
      have h := H.out
      unfold cn at h
      rwa [if_neg (by simp [hN]), if_neg (by simp [hy])] at h
    subst e
    have h1 : fcmp .neq .f64 (cn .f64 x) (cn .f64 x) = false := by rw [fcmp_cn, fcmp_self_neq, hN]
    have h2 : fcmp .eql .f64 (cn .f64 x) (cn .f64 x) = true := by rw [fcmp_cn]; unfold fcmp; rw [order_self _ _ hN]; rfl
    clear hN hy H
    cases hz : fcmp .eql .f64 (cn .f64 x) (cn .f64 0)
    all_goals
      go_enter Try.func52, Try.ntmps52
      go_wp2_with (first | (refine wpList_fcmp rfl rfl rfl rfl rfl (by first | with_reducible assumption | exact rfl) ?_) | (refine wpList_fop rfl rfl rfl rfl rfl ?_; intro fb nf hfb hfl))
      go_ret
      first | exact ⟨rfl, Ext.refl _⟩ | exact ⟨rfl, Ext.drewN _ _⟩

/-- Two lists that have the same numbers. -/
def SameC (bs cs : List Nat) : Prop := bs.map (cn .f32) = cs.map (cn .f32)

theorem SameC.at {bs cs : List Nat} (h : SameC bs cs) {k : Nat} (h1 : k < bs.length) (h2 : k < cs.length) : cn .f32 bs[k] = cn .f32 cs[k] := by
  unfold SameC at h
  have e1 : (bs.map (cn .f32))[k]? = some (cn .f32 bs[k]) := by simp [h1]
  have e2 : (cs.map (cn .f32))[k]? = some (cn .f32 cs[k]) := by simp [h2]
  rw [h, e2] at e1
  exact (Option.some.inj e1).symm

theorem RdF.at {w : World} {a : Option Addr} {cap n : Nat} {bs : List Nat} (h : RdF w (.slice a n cap) bs) {k : Nat} (hk : k < bs.length) :
    ∃ b off, a = some ⟨b, off, none⟩ ∧ b < w.heap.size ∧ w.cell? ⟨b, off + k, none⟩ = some (.float .f32 bs[k]) := by
  have hn : n = bs.length := by obtain ⟨⟨_, _, _, h2, _⟩, _⟩ := h; cases h2; rfl
  subst hn
  obtain ⟨b, off, h1, h2, h3⟩ := Rd.pos h.1 (by omega : 0 < bs.length * 1)
  refine ⟨b, off, h1, h2, ?_⟩
  rw [h3 k (by omega)]
  simp [hk]

set_option maxHeartbeats 1000000 in
theorem eqFloat32S_any (v1 v2 : Value) (bs cs : List Nat) (w : World) (r1 : RdF w v1 bs) (r2 : RdF w v2 cs) (h : SameC bs cs) :
    Calls Try.prog 54 #[v1, v2] w fun e w' => e = .returned (.bool true) ∧ Ext w w' := by
  have r1' := r1
  have r2' := r2
  obtain ⟨⟨_, a1, c1, rfl, p1, p2, _, _⟩, _⟩ := r1
  obtain ⟨⟨_, a2, c2, rfl, q1, q2, _, _⟩, _⟩ := r2
  unfold maxLen at p2 q2
  have hl : bs.length = cs.length := by have := congrArg List.length h; simpa using this
  have hne : ((bs.length : Int) != (cs.length : Int)) = false := by simp [hl]
  have Hl := Lib.hid hl
  have H := Lib.hid h
  clear hl h
  go_enter Try.func54, Try.ntmps54
  go_wp2_with fail
  go_loopw [5] (fun i wr => ∃ k : Nat, k ≤ bs.length ∧ i = .int .i64 k ∧ Ext w wr) (fun i _ => bs.length - (intOf i).toNat)
  case atStart => exact ⟨0, Nat.zero_le _, rfl, Ext.refl _⟩
  case round =>
    obtain ⟨k, hk, rfl, X⟩ := hrel
    by_cases hlt : k < bs.length
    · have hlt2 : k < cs.length := by rw [← Hl.out]; exact hlt
      obtain ⟨b1, o1, rfl, hb1, hc1⟩ := (r1'.ext X).at hlt
      obtain ⟨b2, o2, rfl, hb2, hc2⟩ := (r2'.ext X).at hlt2
      have he := Lib.hid (H.out.at hlt hlt2)
      go_wp2_with fail
      refine wp_region_rel 12 (fun _ v => v = .bool true) (fun _ _ _ => True) (by kernel_rfl) (by kernel_rfl) (by kernel_rfl) ?_
      dsimp only [List.take, List.drop, List.length]
      refine LX_move rfl (.inl rfl) rfl ?_
      refine LX_move rfl (.inl rfl) rfl ?_
      refine LX_det (.pointer (some ⟨b1, o1 + k, none⟩)) rfl rfl (fun w' hx _ => ?_) ?_
      · go_simp
      refine LX_det (.float .f32 bs[k]) rfl rfl (fun w' hx _ => ?_) ?_
      · have := (Below.cell hx (p := ⟨b1, o1 + k, none⟩) hb1).trans hc1
        go_simp
      refine LX_wide (by kernel_rfl) Try.underlying68 rfl rfl rfl fun z1 hz1 hl1 => ?_
      refine LX_move rfl (.inl rfl) rfl ?_
      refine LX_move rfl (.inl rfl) rfl ?_
      refine LX_det (.pointer (some ⟨b2, o2 + k, none⟩)) rfl rfl (fun w' hx _ => ?_) ?_
      · go_simp
      refine LX_det (.float .f32 cs[k]) rfl rfl (fun w' hx _ => ?_) ?_
      · have := (Below.cell hx (p := ⟨b2, o2 + k, none⟩) hb2).trans hc2
        go_simp
      simp only [Act.put, List.setIfInBounds_toArray, List.set_cons_succ, List.set_cons_zero]
      refine LX_wide (by kernel_rfl) Try.underlying68 rfl rfl rfl fun z2 hz2 hl2 => ?_
      have hz : Hid (cn .f64 z1 = cn .f64 z2) := by show _ = _; rw [hz1, hz2, he.out]
      clear hz1 hz2
      refine LX_call rfl rfl (fun _ => St.top) (fun w' hx _ => ?_) ?_
      · go_simp
        refine UponC.enter ((sameFloat_any z1 z2 _ hz.out).mono ?_)
        rintro e w'' ⟨rfl, hx'⟩
        exact ⟨_, rfl, hx', rfl, trivial⟩
      rintro _ rfl
      refine LX_det (.bool false) rfl rfl (fun w' hx _ => ?_) ?_
      · go_simp
      refine LX_nil fun w2 hx _ => ?_
      refine wpList_nil ?_
      simp only [Act.put, List.setIfInBounds_toArray, List.set_cons_succ, List.set_cons_zero]
      go_wp2_with fail
      go_roundw
      case rel => exact ⟨k + 1, by omega, by go_num, X.trans hx⟩
      case measure => simp [intOf]; omega
    · go_wp2_with fail
      go_ret
      exact ⟨rfl, X⟩


theorem toFloat32S_rd (v : Value) (bs : List Nat) (w : World) (hr : RdF w v bs) (hn : bs.length ≤ 1048576) :
    Calls Try.prog 50 #[v] w fun e w' => ∃ g, e = .returned (.slice (some ⟨g, 0, none⟩) bs.length bs.length) ∧ Ext w w' ∧ RdF w' (.slice (some ⟨g, 0, none⟩) bs.length bs.length) bs := by
  refine (toFloat32S_any v bs.length _ w hr.1 (by intro x hx; obtain ⟨z, _, rfl⟩ := List.mem_map.1 hx; exact ⟨z, rfl⟩) hn).mono ?_
  rintro e w' ⟨g, rfl, hb, hown⟩
  exact ⟨g, rfl, hb, own_rd hown, hr.2⟩
theorem toInt64S_rd (v : Value) (zs : List Int) (w : World) (hr : RdI w v zs) (hn : zs.length ≤ 1048576) :
    Calls Try.prog 11 #[v] w fun e w' => ∃ g, e = .returned (.slice (some ⟨g, 0, none⟩) zs.length zs.length) ∧ Ext w w' ∧ RdI w' (.slice (some ⟨g, 0, none⟩) zs.length zs.length) zs := by
  refine (toInt64S_any v zs.length _ w hr (by intro x hx; obtain ⟨z, _, rfl⟩ := List.mem_map.1 hx; exact ⟨z, rfl⟩) hn).mono ?_
  rintro e w' ⟨g, rfl, hb, hown⟩
  exact ⟨g, rfl, hb, own_rd hown⟩


end Go.Proofs.Ytepgkhcfeaklmaa
