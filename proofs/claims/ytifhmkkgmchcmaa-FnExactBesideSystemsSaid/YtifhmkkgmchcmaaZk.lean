
/- BesideSystems, both sides. Condition: lists of ints that can be read. -/
import Derived.Test.YtifhmkkgmchcmaaZj
import Derived.Test.YtifhmkkgmchcmaaYt
import Derived.Test.YtifhmkkgmchcmaaZd
import Derived.Test.YtifhmkkgmchcmaaYp
namespace Go.Proofs.Ytifhmkkgmchcmaa
open Go Go.RowKit Go.ChangeShapes Go.WideShapes Go.ChangeAt

attribute [local irreducible] LX

theorem shL_take (a : Nat) (B : List Nat) {k : Nat} (h : k < B.length) : shL a (B.take (k + 1)) = shL a (B.take k) ++ [B[k] * 2 ^ a] := by
  unfold shL
  rw [List.take_succ_eq_append_getElem h, List.map_append]; rfl

set_option maxHeartbeats 8000000 in
theorem implBesideSystems_any (p q : Int) (v u : Value) (zs ys : List Int) (w : World) (r : RdI w v zs) (rb : RdI w u ys) :
    Calls Try.prog 32 #[.agg #[.int .i64 p, v], .agg #[.int .i64 q, u]] w (YsPost (besideO p q zs ys) w) := by
  have r' := r
  have rb' := rb
  obtain ⟨-, a1, c1, rfl, -, -, -, -⟩ := r
  obtain ⟨-, a2, c2, rfl, -, -, -, -⟩ := rb
  generalize hW0 : ((w.alloc (.cells #[.int .i64 p, .slice a1 zs.length c1] 27)).alloc (.cells #[.int .i64 q, .slice a2 ys.length c2] 27)).alloc (.cells #[.int .i64 0, .slice none 0 0] 27) = W0
  have X : Ext w W0 := hW0 ▸ ((Ext.alloc _ _).trans (Ext.alloc _ _)).trans (Ext.alloc _ _)
  have b1 : Bx W0 w.heap.size [.int .i64 p, .slice a1 zs.length c1] := hW0 ▸ ((Bx.new _ _ _).ext (Ext.alloc _ _)).ext (Ext.alloc _ _)
  have b2 : Bx W0 (w.heap.size + 1) [.int .i64 q, .slice a2 ys.length c2] := hW0 ▸ (Bx.new' (w.alloc (.cells #[.int .i64 p, .slice a1 zs.length c1] 27)) [.int .i64 q, .slice a2 ys.length c2] 27 (by simp)).ext (Ext.alloc _ _)
  have hbs : ((w.alloc (.cells #[.int .i64 p, .slice a1 zs.length c1] 27)).alloc (.cells #[.int .i64 q, .slice a2 ys.length c2] 27)).heap.size = w.heap.size + 2 := by simp
  have bz : Bz W0 (w.heap.size + 2) 27 [.int .i64 0, .slice none 0 0] := by rw [← hW0, ← hbs]; exact Bz.new _ _ _
  have hle1 : w.heap.size ≤ w.heap.size + 2 := by omega
  clear hbs
  have HV1 := Lib.hid (implValidSystem_any p _ zs W0 (r'.ext X))
  cases hv1 : sysB p zs
  · have HO : Hid (besideO p q zs ys = none) := by show _ = _; unfold besideO; rw [hv1]; rfl
    rw [hv1] at HV1
    clear hv1
    obtain ⟨k0, k1⟩ := b1.two
    go_enter Try.func32, Try.ntmps32
    go_wp2_with fail
    try rw [hW0]
    refine HV1.out.mono ?_
    rintro e w1 ⟨rfl, hx⟩
    clear k0 k1 hW0
    replace X := X.trans hx
    replace bz := bz.ext hx
    obtain ⟨k0, k1⟩ := bz.bx.two
    have z2 := bz.lt
    have f0 := bz.frozen (j := 0)
    have f1 := bz.frozen (j := 1)
    clear bz b1 b2
    go_wp2_with fail
    refine bodyPost_ret (v := .tuple #[.agg #[.int .i64 0, .slice none 0 0], .bool false]) (by simp [results, Try.results32, go_sem, k0, k1, f0, f1]) rfl ?_
    unfold YsPost
    rw [HO.out]
    exact ⟨(X.setCell hle1 _).setCell hle1 _, rfl⟩
  rw [hv1] at HV1
  have HV2 := Lib.hid (fun W (x : Ext w W) => implValidSystem_any q _ ys W (rb'.ext x))
  cases hv2 : sysB q ys
  · have HO : Hid (besideO p q zs ys = none) := by show _ = _; unfold besideO; rw [hv2, Bool.and_false]; rfl
    rw [hv2] at HV2
    clear hv1 hv2
    obtain ⟨k0, k1⟩ := b1.two
    go_enter Try.func32, Try.ntmps32
    go_wp2_with fail
    try rw [hW0]
    refine HV1.out.mono ?_
    rintro e w1 ⟨rfl, hx⟩
    clear k0 k1 hW0
    replace X := X.trans hx
    replace bz := bz.ext hx
    replace b2 := b2.ext hx
    clear hx
    obtain ⟨k0, k1⟩ := b2.two
    go_wp2_with fail
    refine (HV2.out _ X).mono ?_
    rintro e w2 ⟨rfl, hx⟩
    clear k0 k1
    replace X := X.trans hx
    replace bz := bz.ext hx
    obtain ⟨k0, k1⟩ := bz.bx.two
    have z2 := bz.lt
    have f0 := bz.frozen (j := 0)
    have f1 := bz.frozen (j := 1)
    clear bz b1 b2
    go_wp2_with fail
    refine bodyPost_ret (v := .tuple #[.agg #[.int .i64 0, .slice none 0 0], .bool false]) (by simp [results, Try.results32, go_sem, k0, k1, f0, f1]) rfl ?_
    unfold YsPost
    rw [HO.out]
    exact ⟨(X.setCell hle1 _).setCell hle1 _, rfl⟩
  · rw [hv2] at HV2
    obtain ⟨s1, hp, hz⟩ := SysN.of (sys_good' hv1)
    obtain ⟨s2, hq, hy⟩ := SysN.of (sys_good' hv2)
    obtain ⟨o1, o2⟩ := sysB_ups hv1
    obtain ⟨o3, o4⟩ := sysB_ups hv2
    have HO0 : Hid (besideO p q zs ys = sysO (p + q) (ups (beL p.toNat (downs zs) (downs ys)))) := by show _ = _; unfold besideO; rw [hv1, hv2]; rfl
    obtain ⟨P, hP⟩ : ∃ P, P = p.toNat := ⟨_, rfl⟩
    obtain ⟨Q, hQ⟩ : ∃ Q, Q = q.toNat := ⟨_, rfl⟩
    rw [← hP] at s1 hp HO0
    rw [← hQ] at s2 hq
    subst hp
    subst hq
    have hp1 := s1.p1
    have hp10 := s1.p10
    have hq10 := s2.p10
    obtain ⟨m1, m2, m3, m4⟩ := be_least s1 s2 o1 o3 o2 o4
    have HIF := Lib.hid (fun W u (r : RdI W u (ups (beL P (downs zs) (downs ys)))) => ifSystem_any ((P + Q : Nat) : Int) u (beL P (downs zs) (downs ys)) W r m4 (by omega) m2)
    rw [m1] at HIF
    have HSM : Hid (∀ n ∈ downs ys, n < 1024) := s2.small
    have hla : (downs zs).length ≤ 64 := s1.l64
    have hlb : (downs ys).length ≤ 64 := s2.l64
    have hla0 : 0 < (downs zs).length := s1.l1
    have HDEF : Hid (beL P (downs zs) (downs ys) = downs zs ++ shL P (downs ys)) := rfl
    have HTK := Lib.hid (fun k (h : k < (downs ys).length) => shL_take P (downs ys) h)
    have HSL : Hid (∀ k, (shL P ((downs ys).take k)).length ≤ 64) := fun k => by rw [shL_len, List.length_take]; omega
    have RA := Lib.hid (fun W (x : Ext w W) => (by have h9 := r'.ext x; rw [hz] at h9; exact h9 : RdI W (.slice a1 (ups (downs zs)).length c1) (ups (downs zs))))
    have RB := Lib.hid (fun W (x : Ext w W) => (by have h9 := rb'.ext x; rw [hy] at h9; exact h9 : RdI W (.slice a2 (ups (downs ys)).length c2) (ups (downs ys))))
    have hzl : zs.length = (downs zs).length := (downs_len zs).symm
    have hyl : ys.length = (downs ys).length := (downs_len ys).symm
    obtain ⟨z1, z2, z3, z4⟩ := pow10N hp10
    generalize beL P (downs zs) (downs ys) = L at *
    generalize zs.length = l1 at *
    generalize ys.length = l2 at *
    subst hzl
    subst hyl
    generalize downs zs = A at *
    generalize downs ys = B at *
    rw [ups_len] at RA RB
    generalize hN : 2 ^ P = N at *
    clear hN
    have hN1 : 1 ≤ N := by omega
    clear hv1 hv2 hz hy o1 o2 o3 o4 hP hQ s1 s2 m1 m2 m3 m4 r' rb'
    obtain ⟨k0, k1⟩ := b1.two
    go_enter Try.func32, Try.ntmps32
    go_wp2_with fail
    try rw [hW0]
    refine HV1.out.mono ?_
    rintro e w1 ⟨rfl, hx⟩
    clear k0 k1 hW0
    replace X := X.trans hx
    replace bz := bz.ext hx
    replace b2 := b2.ext hx
    replace b1 := b1.ext hx
    clear hx
    obtain ⟨k0, k1⟩ := b2.two
    go_wp2_with fail
    refine (HV2.out _ X).mono ?_
    rintro e w2 ⟨rfl, hx⟩
    clear k0 k1
    replace X := X.trans hx
    replace bz := bz.ext hx
    replace b2 := b2.ext hx
    replace b1 := b1.ext hx
    clear hx
    obtain ⟨k0, k1⟩ := b1.two
    go_wp2_with fail
    refine (cloneI_any (.slice a1 A.length c1) (ups A) w2 (RA.out _ X) (by rw [ups_len]; exact hla0) (by rw [ups_len]; omega)).mono ?_
    rintro e w3 ⟨g, cap, rfl, own, hx⟩
    rw [ups_len] at own ⊢
    clear k0 k1
    have own0 : OwnS w2.heap.size w3 g cap A := own
    have X2 := X
    have bzx := bz
    have b1x := b1
    have b2x := b2
    have hx2 := hx
    clear X bz b1 b2 own
    obtain ⟨k0, k1⟩ := (b2x.ext hx).two
    go_wp2_with fail
    clear k0 k1
    go_loopw [24, 6] (fun i v wr => ∃ (k g cap : Nat) (xs : List Nat), k ≤ B.length ∧ i = .int .i64 k ∧ v = .slice (some ⟨g, 0, none⟩) xs.length cap ∧ xs.length ≤ 128 + k ∧ Hid (xs = A ++ shL P (B.take k)) ∧ OwnS w2.heap.size wr g cap xs ∧ Ext w2 wr) (fun i _ _ => B.length - (intOf i).toNat)
    case atStart => exact ⟨0, g, cap, A, Nat.zero_le _, rfl, rfl, by omega, by show _ = _; simp [shL], own0, hx2⟩
    case round =>
      clear own0
      obtain ⟨k, g, cap, xs, hk, rfl, rfl, hxl, HXS, own, Z⟩ := hrel
      by_cases hlt : k < B.length
      · obtain ⟨b9, o9, e9, hb1, hc1⟩ := RdN_at (RB.out _ (X2.trans Z)) hlt
        subst e9
        have hsm := HSM.out _ (List.getElem_mem hlt)
        have htk := HTK.out k hlt
        obtain ⟨x, hxx⟩ : ∃ x, x = B[k] := ⟨_, rfl⟩
        rw [← hxx] at hc1 hsm htk
        obtain ⟨t, ht⟩ : ∃ t, t = x * N := ⟨_, rfl⟩
        rw [← ht] at htk
        have htI : (x : Int) * (N : Int) = (t : Int) := by rw [ht]; exact_mod_cast rfl
        have htb : t ≤ 1048576 := by rw [ht]; exact Nat.mul_le_mul (Nat.le_of_lt hsm) z4
        have HNX : Hid (xs ++ [t] = A ++ shL P (B.take (k + 1))) := by show _ = _; rw [HXS.out, htk, List.append_assoc]
        have hki : (k : Int) < (B.length : Int) := by omega
        obtain ⟨k0, k1⟩ := (b1x.ext Z).two
        clear hxx ht htk
        go_wp2_with (at_builtin; refine wpList_push infoI64 rfl Try.underlying22 rfl rfl rfl (World.ownsRow.alloc (w := _) own _) rfl (Bx.new _ [_] _).one rfl (by omega) (by decide) (Z.trans (Ext.alloc _ _)).size ?_; intro g2 cap2 w4 hg2 own2 bel2 sz2)
        go_roundw
        case rel => exact ⟨k + 1, g2, cap2, xs ++ [t], by omega, by go_num, by simp, by simp; omega, HNX, by unfold OwnS; rw [ups_append, List.map_append, List.length_append]; exact own2, bel2 _ (Z.trans (Ext.alloc _ _))⟩
        case measure => simp [intOf]; omega
      · obtain rfl : k = B.length := by omega
        have HXE : Hid (xs = L) := by show _ = _; rw [HXS.out, HDEF.out, List.take_length]
        have bzr := bzx.ext Z
        obtain ⟨k0, k1⟩ := (b1x.ext Z).two
        obtain ⟨k2, k3⟩ := (b2x.ext Z).two
        have hgt : w.heap.size + 2 < wr.heap.size := bzr.lt
        have Xr := X2.trans Z
        have hrd := own.rd
        rw [HXE.out] at hrd
        have hxlen : xs.length = L.length := by rw [HXE.out]
        have hHI := HIF.out wr _ hrd
        have hPQ : (P : Int) + (Q : Int) = ((P + Q : Nat) : Int) := by omega
        have HO : Hid (besideO (P : Int) (Q : Int) zs ys = sysO ((P + Q : Nat) : Int) (ups L)) := by show _ = _; rw [HO0.out, hPQ]
        generalize sysO ((P + Q : Nat) : Int) (ups L) = oo at *
        obtain ⟨S, hS⟩ : ∃ S, S = P + Q := ⟨_, rfl⟩
        rw [← hS] at hPQ hHI
        have HHI := Lib.hid hHI
        clear hHI hrd hS HO0
        go_wp2_with fail
        refine HHI.out.mono ?_
        intro e w5 h2
        obtain ⟨hxY, h2⟩ := h2
        replace bzr := bzr.ext hxY
        have hszY := Xr.size
        have X := Xr.trans hxY
        clear k0 k1
        obtain ⟨k0, k1⟩ := bzr.bx.two
        have z2' := bzr.lt
        have f0 := bzr.frozen (j := 0)
        have f1 := bzr.frozen (j := 1)
        clear bzr k2 k3
        cases oo with
        | none =>
          simp only at h2
          subst h2
          go_wp2_with fail
          refine bodyPost_ret (v := .tuple #[.agg #[.int .i64 0, .slice none 0 0], .bool false]) (by simp [results, Try.results32, go_sem, k0, k1, f0, f1]) rfl ?_
          unfold YsPost
          rw [HO.out]
          exact ⟨(X.setCell hle1 _).setCell hle1 _, rfl⟩
        | some q =>
          obtain ⟨g3, cap3, rfl, own3⟩ := h2
          obtain ⟨p0, qs⟩ := q
          have hgl := own3.lt g3 rfl
          simp only at own3 hgl
          simp only
          go_wp2_with fail
          refine bodyPost_ret (v := .tuple #[.agg #[.int .i64 p0, .slice (some ⟨g3, 0, none⟩) qs.length cap3], .bool true]) (by simp [results, Try.results32, go_sem, k0, k1, f0, f1]) rfl ?_
          unfold YsPost
          rw [HO.out]
          refine ⟨(X.setCell hle1 _).setCell hle1 _, g3, cap3, rfl, ?_⟩
          exact World.ownsRow.mono (ownsRow_setCell_other (ownsRow_setCell_other own3 (by simp [Value.ownBlock]; omega) _) (by simp [Value.ownBlock]; omega) _) hszY

def twoB (p q : Int) (zs ys : List Int) : Bool := sysB p zs && sysB q ys && decide (p + q ≤ 10)

set_option maxRecDepth 100000 in
set_option maxHeartbeats 4000000 in
theorem l03Two_any (p q : Int) (v u : Value) (zs ys : List Int) (b1 b2 : Nat) (w : World) (x1 : Bx w b1 [.int .i64 p, v]) (x2 : Bx w b2 [.int .i64 q, u]) (r : RdI w v zs) (rb : RdI w u ys) :
    Calls Try.prog 75 #[.pointer (some ⟨b1, 0, none⟩), .pointer (some ⟨b2, 0, none⟩)] w fun e w' => e = .returned (.bool (twoB p q zs ys)) ∧ Ext w w' := by
  have H1 := Lib.hid (fun W (x : Ext w W) => l03Is_sys p v zs b1 W (x1.ext x) (r.ext x))
  have H2 := Lib.hid (fun W (x : Ext w W) => l03Is_sys q u ys b2 W (x2.ext x) (rb.ext x))
  cases hv1 : sysB p zs
  · have HF : Hid (twoB p q zs ys = false) := by show _ = _; unfold twoB; rw [hv1]; rfl
    rw [hv1] at H1
    clear hv1 H2
    go_enter Try.func75, Try.ntmps75
    go_wp2_with fail
    refine wp_region_rel 18 (fun _ v => v = .bool false) (fun _ _ _ => True) (by kernel_rfl) (by kernel_rfl) (by kernel_rfl) ?_
    dsimp only [List.take, List.drop, List.length]
    refine LX_det (.pointer (some ⟨b1, 0, none⟩)) (by kernel_rfl) rfl (fun w' hx _ => ?_) ?_
    · go_simp
    refine LX_call (by kernel_rfl) rfl (fun _ => St.top) (fun w' hx _ => ?_) ?_
    · go_simp
      refine UponC.enter ((H1.out _ hx).mono ?_)
      rintro e w'' ⟨rfl, hx'⟩
      exact ⟨_, rfl, hx', rfl, trivial⟩
    rintro _ rfl
    refine LX_det (.bool false) (by kernel_rfl) rfl (fun w' hx _ => ?_) ?_
    · go_simp
    iterate 2 refine LX_skip (by kernel_rfl) ?_
    refine LX_det (.bool false) (by kernel_rfl) rfl (fun w' hx _ => ?_) ?_
    · go_simp
    refine LX_det (.bool false) (by kernel_rfl) rfl (fun w' hx _ => ?_) ?_
    · go_simp
    iterate 10 refine LX_skip (by kernel_rfl) ?_
    refine LX_det (.bool false) (by kernel_rfl) rfl (fun w' hx _ => ?_) ?_
    · go_simp
    refine LX_nil fun w2 hx _ => ?_
    simp only [Act.put, List.setIfInBounds_toArray, List.set_cons_succ, List.set_cons_zero]
    go_wp2_with fail
    go_ret
    exact ⟨ret_bool HF.out.symm, hx⟩
  rw [hv1] at H1
  cases hv2 : sysB q ys
  · have HF : Hid (twoB p q zs ys = false) := by show _ = _; unfold twoB; rw [hv1, hv2]; rfl
    rw [hv2] at H2
    clear hv1 hv2
    go_enter Try.func75, Try.ntmps75
    go_wp2_with fail
    refine wp_region_rel 18 (fun i v => v = .bool (i == 1)) (fun _ _ _ => True) (by kernel_rfl) (by kernel_rfl) (by kernel_rfl) ?_
    dsimp only [List.take, List.drop, List.length]
    refine LX_det (.pointer (some ⟨b1, 0, none⟩)) (by kernel_rfl) rfl (fun w' hx _ => ?_) ?_
    · go_simp
    refine LX_call (by kernel_rfl) rfl (fun _ => St.top) (fun w' hx _ => ?_) ?_
    · go_simp
      refine UponC.enter ((H1.out _ hx).mono ?_)
      rintro e w'' ⟨rfl, hx'⟩
      exact ⟨_, rfl, hx', rfl, trivial⟩
    rintro _ rfl
    refine LX_det (.bool true) (by kernel_rfl) rfl (fun w' hx _ => ?_) ?_
    · go_simp
    refine LX_det (.pointer (some ⟨b2, 0, none⟩)) (by kernel_rfl) rfl (fun w' hx _ => ?_) ?_
    · go_simp
    refine LX_call (by kernel_rfl) rfl (fun _ => St.top) (fun w' hx _ => ?_) ?_
    · go_simp
      refine UponC.enter ((H2.out _ hx).mono ?_)
      rintro e w'' ⟨rfl, hx'⟩
      exact ⟨_, rfl, hx', rfl, trivial⟩
    rintro _ rfl
    refine LX_det (.bool false) (by kernel_rfl) rfl (fun w' hx _ => ?_) ?_
    · go_simp
    refine LX_det (.bool false) (by kernel_rfl) rfl (fun w' hx _ => ?_) ?_
    · go_simp
    iterate 10 refine LX_skip (by kernel_rfl) ?_
    refine LX_det (.bool false) (by kernel_rfl) rfl (fun w' hx _ => ?_) ?_
    · go_simp
    refine LX_nil fun w2 hx _ => ?_
    simp only [Act.put, List.setIfInBounds_toArray, List.set_cons_succ, List.set_cons_zero]
    go_wp2_with fail
    go_ret
    exact ⟨ret_bool HF.out.symm, hx⟩
  · have HF : Hid (twoB p q zs ys = decide (p + q ≤ 10)) := by show _ = _; unfold twoB; rw [hv1, hv2]; rfl
    rw [hv2] at H2
    obtain ⟨s1, hp, -⟩ := SysN.of (sys_good' hv1)
    obtain ⟨s2, hq, -⟩ := SysN.of (sys_good' hv2)
    have hp10 := s1.p10
    have hq10 := s2.p10
    have hw : IntKind.i64.wrap (p + q) = p + q := IntWalk.i64_in _ (by omega)
    clear hv1 hv2 s1 s2 hp hq hp10 hq10
    obtain ⟨k0, -⟩ := x1.two
    obtain ⟨k2, -⟩ := x2.two
    have hb1 := x1.1
    have hb2 := x2.1
    go_enter Try.func75, Try.ntmps75
    go_wp2_with fail
    refine wp_region_rel 18 (fun _ v => v = .bool true) (fun _ _ _ => True) (by kernel_rfl) (by kernel_rfl) (by kernel_rfl) ?_
    dsimp only [List.take, List.drop, List.length]
    refine LX_det (.pointer (some ⟨b1, 0, none⟩)) (by kernel_rfl) rfl (fun w' hx _ => ?_) ?_
    · go_simp
    refine LX_call (by kernel_rfl) rfl (fun _ => St.top) (fun w' hx _ => ?_) ?_
    · go_simp
      refine UponC.enter ((H1.out _ hx).mono ?_)
      rintro e w'' ⟨rfl, hx'⟩
      exact ⟨_, rfl, hx', rfl, trivial⟩
    rintro _ rfl
    refine LX_det (.bool true) (by kernel_rfl) rfl (fun w' hx _ => ?_) ?_
    · go_simp
    refine LX_det (.pointer (some ⟨b2, 0, none⟩)) (by kernel_rfl) rfl (fun w' hx _ => ?_) ?_
    · go_simp
    refine LX_call (by kernel_rfl) rfl (fun _ => St.top) (fun w' hx _ => ?_) ?_
    · go_simp
      refine UponC.enter ((H2.out _ hx).mono ?_)
      rintro e w'' ⟨rfl, hx'⟩
      exact ⟨_, rfl, hx', rfl, trivial⟩
    rintro _ rfl
    refine LX_det (.bool true) (by kernel_rfl) rfl (fun w' hx _ => ?_) ?_
    · go_simp
    refine LX_det (.bool true) (by kernel_rfl) rfl (fun w' hx _ => ?_) ?_
    · go_simp
    refine LX_det (.pointer (some ⟨b1, 0, none⟩)) (by kernel_rfl) rfl (fun w' hx _ => ?_) ?_
    · go_simp
    refine LX_det (.pointer (some ⟨b1, 0, none⟩)) (by kernel_rfl) rfl (fun w' hx _ => ?_) ?_
    · go_simp
    refine LX_det (.pointer (some ⟨b1, 0, none⟩)) (by kernel_rfl) rfl (fun w' hx _ => ?_) ?_
    · go_simp
    refine LX_det (.int .i64 p) (by kernel_rfl) rfl (fun w' hx _ => ?_) ?_
    · have m0 := (Below.cell hx (p := ⟨b1, 0, none⟩) hb1).trans k0
      go_simp
    refine LX_det (.pointer (some ⟨b2, 0, none⟩)) (by kernel_rfl) rfl (fun w' hx _ => ?_) ?_
    · go_simp
    refine LX_det (.pointer (some ⟨b2, 0, none⟩)) (by kernel_rfl) rfl (fun w' hx _ => ?_) ?_
    · go_simp
    refine LX_det (.pointer (some ⟨b2, 0, none⟩)) (by kernel_rfl) rfl (fun w' hx _ => ?_) ?_
    · go_simp
    refine LX_det (.int .i64 q) (by kernel_rfl) rfl (fun w' hx _ => ?_) ?_
    · have m0 := (Below.cell hx (p := ⟨b2, 0, none⟩) hb2).trans k2
      go_simp
    refine LX_det (.int .i64 (p + q)) (by kernel_rfl) rfl (fun w' hx _ => ?_) ?_
    · go_simp
    refine LX_det (.bool (decide (p + q ≤ 10))) (by kernel_rfl) rfl (fun w' hx _ => ?_) ?_
    · go_simp
    refine LX_det (.bool (decide (p + q ≤ 10))) (by kernel_rfl) rfl (fun w' hx _ => ?_) ?_
    · go_simp
    refine LX_nil fun w2 hx _ => ?_
    simp only [Act.put, List.setIfInBounds_toArray, List.set_cons_succ, List.set_cons_zero]
    go_wp2_with fail
    go_ret
    exact ⟨ret_bool HF.out.symm, hx⟩

/-- append of a list that can be read to an empty slice, in a region that draws its order. -/
theorem LX_app0 {P : Program} {ops : Array Oper} {w0 : World} {SC : Nat → Value → Prop} {AC : Nat → Value → World → Prop} {Q : Act → World → Prop} {i : Nat} {o : Oper} {rest : List Oper} {Γ : Tmp → World → Prop} {a : Act} {s x : Operand} {t e : TypeId} {z sv : Value} {bytes b m : Nat} {xs : List Value}
    (hinfo : (P.info? e).map (fun i => (i.zero, i.size, i.bytes)) = some (some z, 1, bytes)) (hz : z.cells.size = 1) (ht : P.underlying t = some (.slice e))
    (hw : Region.wanted o (yielded ops a.tmps) = true) (ho : o.op = .call { callee := .builtin .append, args := #[s, x], argTypes := #[t, t] })
    (hs : a.eval s = .slice (some ⟨b, 0, none⟩) 0 0) (hx : a.eval x = sv) (r : ∀ w, Ext w0 w → Rd 1 w sv m xs) (hm : 0 < m) (hn : m ≤ 8796093022208) (hb16 : bytes ≤ 16)
    (h : ∀ g cap, w0.heap.size ≤ g → LX P ops w0 SC AC Q (i + 1) rest (upC Γ o.dst (fun w => w.ownsRow w0.heap.size e 1 (.slice (some ⟨g, 0, none⟩) m cap) m xs)) (a.put o.dst (.slice (some ⟨g, 0, none⟩) m cap))) : LX P ops w0 SC AC Q i (o :: rest) Γ a := by
  obtain ⟨ii, hi, i1, i2, i3⟩ := info_parts hinfo
  have hc : isCallB o = false := by unfold isCallB; rw [ho]
  unfold LX opR
  rw [if_pos hw, if_neg (by simp [hc])]
  refine ⟨fun v => ∃ g cap, v = .slice (some ⟨g, 0, none⟩) m cap ∧ w0.heap.size ≤ g, fun v w => w.ownsRow w0.heap.size e 1 v m xs, fun v w w' h1 h2 => own_ext h1 h2, fun w hx0 _ => ?_, ?_⟩
  · obtain ⟨hl, a1, c1, rfl, hc1, hc2, hc3, hc4⟩ := r w hx0
    obtain ⟨p, rfl⟩ : ∃ p, a1 = some p := by
      cases a1 with
      | none => have := hc3 rfl; omega
      | some p => exact ⟨p, rfl⟩
    have hr := run_append_grow (P := P) w t o.type e ii z ht hi i1 ⟨b, 0, none⟩ 0 0 [] (by simp) (by simp) p m c1 xs (by rw [i2]; exact hl) (by
        intro j u hj
        have hjl : j < m * 1 := by rw [← hl]; exact (List.getElem?_eq_some_iff.1 hj).1
        obtain ⟨g1, g2, g3⟩ := hc4 p rfl j hjl
        have hadd : p.add j = ⟨p.block, p.off + j, none⟩ := by
          obtain ⟨b, off, sp⟩ := p
          simp only at g1; subst g1
          unfold Addr.add; split <;> simp_all
        rw [hadd, g3, hj]) (by omega) (by omega) (by
        rw [Nat.zero_add, nextslicecap_zero hm, i3]
        have : m * bytes ≤ 8796093022208 * 16 := Nat.mul_le_mul hn hb16
        omega)
    have hge := grownCap_ge w (0 + m) 0 e
    have hcm : grownCap w (0 + m) 0 e ≤ maxLen := grownCap_le_maxLen w (0 + m) 0 e (by simp only [maxLen]; omega)
    have hrun : (execOp a.eval o).run P w = .ok (.value (.slice (some ⟨w.heap.size, 0, none⟩) (0 + m) (grownCap w (0 + m) 0 e)))
        (w.drew.alloc (.cells ((([] : List Value).toArray ++ xs.toArray ++ Builtin.zeroCells z.cells (grownCap w (0 + m) 0 e - (0 + m)))) e)) := by
      unfold execOp
      simp only [ho, resolve, invoke, builtin, Sem.run_bind, Sem.run_pure, Result.andThen_ok, List.map_toArray, List.map_cons, List.map_nil, hs, hx, hr]
    rw [hrun]
    generalize grownCap w (0 + m) 0 e = cap at *
    rw [Nat.zero_add] at *
    refine ⟨(Ext.drewN w 1).trans (Ext.alloc _ _), ⟨_, _, rfl, hx0.size⟩, hl, .inr ⟨w.heap.size, cap, _, rfl, hx0.size, heap_alloc_new w.drew _, hge, hcm, ?_, ?_⟩⟩
    · simp only [Array.size_append, List.size_toArray, size_zeroCells, hz, hl, List.length_nil]
      omega
    · simp only [Array.toList_append, List.nil_append]
      rw [← hl]
      exact List.take_left
  · rintro _ ⟨g, cap, rfl, hg⟩
    exact h g cap hg
theorem NewS.own {w0 w : World} {t : TypeId} {b : Nat} (h : NewS w0 [] t 0 (.slice (some ⟨b, 0, none⟩) 0 0) w) : w.ownsRow w0.heap.size t 1 (.slice (some ⟨b, 0, none⟩) 0 0) 0 [] := by
  obtain ⟨b', e, hb, h3⟩ := h
  simp at e; subst e
  exact ⟨rfl, .inr ⟨b, 0, #[], rfl, hb, h3, Nat.le_refl _, Nat.zero_le _, rfl, rfl⟩⟩
theorem ints_one (zs : List Int) : ∀ u ∈ zs.map (Value.int .i64), u.oneCell' = true := by
  intro u hu; obtain ⟨b, _, rfl⟩ := List.mem_map.1 hu; rfl
theorem beside_none {p q : Int} {zs ys : List Int} (h : twoB p q zs ys = false) : besideO p q zs ys = none := by
  unfold besideO
  cases hv : sysB p zs && sysB q ys
  · rfl
  · unfold twoB at h
    rw [hv] at h
    simp only [Bool.true_and, decide_eq_false_iff_not] at h
    rw [if_pos rfl]
    unfold sysO sysB goodI inB
    rw [if_neg]
    simp
    intro; omega

set_option maxRecDepth 100000 in
set_option maxHeartbeats 8000000 in
theorem specBesideSystems_any (p q : Int) (v u : Value) (zs ys : List Int) (w : World) (r : RdI w v zs) (rb : RdI w u ys) :
    Calls Try.prog 31 #[.agg #[.int .i64 p, v], .agg #[.int .i64 q, u]] w (YsPost (besideO p q zs ys) w) := by
  have r' := r
  have rb' := rb
  obtain ⟨-, a1, c1, rfl, -, -, -, -⟩ := r
  obtain ⟨-, a2, c2, rfl, -, -, -, -⟩ := rb
  generalize hW0 : ((w.alloc (.cells #[.int .i64 p, .slice a1 zs.length c1] 27)).alloc (.cells #[.int .i64 q, .slice a2 ys.length c2] 27)).alloc (.cells #[.int .i64 0, .slice none 0 0] 27) = W0
  have X : Ext w W0 := hW0 ▸ ((Ext.alloc _ _).trans (Ext.alloc _ _)).trans (Ext.alloc _ _)
  have b1 : Bx W0 w.heap.size [.int .i64 p, .slice a1 zs.length c1] := hW0 ▸ ((Bx.new _ _ _).ext (Ext.alloc _ _)).ext (Ext.alloc _ _)
  have b2 : Bx W0 (w.heap.size + 1) [.int .i64 q, .slice a2 ys.length c2] := hW0 ▸ (Bx.new' (w.alloc (.cells #[.int .i64 p, .slice a1 zs.length c1] 27)) [.int .i64 q, .slice a2 ys.length c2] 27 (by simp)).ext (Ext.alloc _ _)
  have hbs : ((w.alloc (.cells #[.int .i64 p, .slice a1 zs.length c1] 27)).alloc (.cells #[.int .i64 q, .slice a2 ys.length c2] 27)).heap.size = w.heap.size + 2 := by simp
  have bz : Bz W0 (w.heap.size + 2) 27 [.int .i64 0, .slice none 0 0] := by rw [← hW0, ← hbs]; exact Bz.new _ _ _
  have hle1 : w.heap.size ≤ w.heap.size + 2 := by omega
  clear hbs
  have HV := Lib.hid (l03Two_any p q _ _ zs ys w.heap.size (w.heap.size + 1) W0 b1 b2 (r'.ext X) (rb'.ext X))
  cases hv : twoB p q zs ys
  · have HO : Hid (besideO p q zs ys = none) := by show _ = _; exact beside_none hv
    rw [hv] at HV
    clear hv
    go_enter Try.func31, Try.ntmps31
    go_wp2_with fail
    try rw [hW0]
    refine HV.out.mono ?_
    rintro e w1 ⟨rfl, hx⟩
    clear hW0
    replace X := X.trans hx
    replace bz := bz.ext hx
    obtain ⟨k0, k1⟩ := bz.bx.two
    have z2 := bz.lt
    have f0 := bz.frozen (j := 0)
    have f1 := bz.frozen (j := 1)
    clear bz b1 b2
    go_wp2_with fail
    refine bodyPost_ret (v := .tuple #[.agg #[.int .i64 0, .slice none 0 0], .bool false]) (by simp [results, Try.results31, go_sem, k0, k1, f0, f1]) rfl ?_
    unfold YsPost
    rw [HO.out]
    exact ⟨(X.setCell hle1 _).setCell hle1 _, rfl⟩
  · have hv' := hv
    unfold twoB at hv'
    rw [Bool.and_eq_true, Bool.and_eq_true, decide_eq_true_eq] at hv'
    obtain ⟨⟨hv1, hv2⟩, hpq⟩ := hv'
    rw [hv] at HV
    obtain ⟨s1, hp, hz⟩ := SysN.of (sys_good' hv1)
    obtain ⟨s2, hq, hy⟩ := SysN.of (sys_good' hv2)
    have HO0 : Hid (besideO p q zs ys = sysO (p + q) (ups (beL p.toNat (downs zs) (downs ys)))) := by show _ = _; unfold besideO; rw [hv1, hv2]; rfl
    obtain ⟨P, hP⟩ : ∃ P, P = p.toNat := ⟨_, rfl⟩
    obtain ⟨Q, hQ⟩ : ∃ Q, Q = q.toNat := ⟨_, rfl⟩
    rw [← hP] at s1 hp HO0
    rw [← hQ] at s2 hq
    subst hp
    subst hq
    have hp1 := s1.p1
    have hp10 := s1.p10
    have hq10 := s2.p10
    have HSM : Hid (∀ n ∈ downs ys, n < 1024) := s2.small
    have hla : (downs zs).length ≤ 64 := s1.l64
    have hlb : (downs ys).length ≤ 64 := s2.l64
    have hla0 : 0 < (downs zs).length := s1.l1
    have HDEF : Hid (beL P (downs zs) (downs ys) = downs zs ++ shL P (downs ys)) := rfl
    have HTK := Lib.hid (fun k (h : k < (downs ys).length) => shL_take P (downs ys) h)
    have RA := Lib.hid (fun W (x : Ext w W) => (by have h9 := r'.ext x; rw [hz] at h9; exact h9 : RdI W (.slice a1 (ups (downs zs)).length c1) (ups (downs zs))))
    have RB := Lib.hid (fun W (x : Ext w W) => (by have h9 := rb'.ext x; rw [hy] at h9; exact h9 : RdI W (.slice a2 (ups (downs ys)).length c2) (ups (downs ys))))
    have hzl : zs.length = (downs zs).length := (downs_len zs).symm
    have hyl : ys.length = (downs ys).length := (downs_len ys).symm
    obtain ⟨z1, z2, z3, z4⟩ := pow10N hp10
    generalize beL P (downs zs) (downs ys) = L at *
    generalize zs.length = l1 at *
    generalize ys.length = l2 at *
    subst hzl
    subst hyl
    generalize downs zs = A at *
    generalize downs ys = B at *
    rw [ups_len] at RA RB
    generalize hN : 2 ^ P = N at *
    clear hN
    have hN1 : 1 ≤ N := by omega
    have hPQ : (P : Int) + (Q : Int) = ((P + Q : Nat) : Int) := by omega
    rw [hPQ] at HO0
    obtain ⟨S, hS⟩ : ∃ S, S = P + Q := ⟨_, rfl⟩
    rw [← hS] at HO0 hPQ
    clear hv hv1 hv2 hz hy hP hQ s1 s2 r' rb'
    go_enter Try.func31, Try.ntmps31
    go_wp2_with fail
    try rw [hW0]
    refine HV.out.mono ?_
    rintro e w1 ⟨rfl, hx⟩
    clear hW0
    replace X := X.trans hx
    replace bz := bz.ext hx
    replace b2 := b2.ext hx
    replace b1 := b1.ext hx
    clear hx
    have hgt : w.heap.size + 2 < w1.heap.size := bz.lt
    obtain ⟨k0, k1⟩ := b1.two
    obtain ⟨k2, k3⟩ := b2.two
    have hl1 := b1.1
    have hl2 := b2.1
    have hwS : IntKind.i64.wrap ((P : Int) + (Q : Int)) = (S : Int) := by rw [hPQ]; exact IntWalk.i64_in _ (by omega)
    have hS10 : S ≤ 10 := by omega
    clear hS hPQ hpq
    go_wp2_with fail
    refine wp_region_rel 11 (fun _ _ => True) (fun _ _ _ => True) (by kernel_rfl) (by kernel_rfl) (by kernel_rfl) ?_
    dsimp only [List.take, List.drop, List.length]
    refine LX_det (.pointer (some ⟨w.heap.size, 0, none⟩)) (by kernel_rfl) rfl (fun w' hx _ => ?_) ?_
    · go_simp
    refine LX_det (.int .i64 P) (by kernel_rfl) rfl (fun w' hx _ => ?_) ?_
    · have m0 := (Below.cell hx (p := ⟨w.heap.size, 0, none⟩) hl1).trans k0
      go_simp
    refine LX_det (.pointer (some ⟨w.heap.size + 1, 0, none⟩)) (by kernel_rfl) rfl (fun w' hx _ => ?_) ?_
    · go_simp
    refine LX_det (.int .i64 Q) (by kernel_rfl) rfl (fun w' hx _ => ?_) ?_
    · have m0 := (Below.cell hx (p := ⟨w.heap.size + 1, 0, none⟩) hl2).trans k2
      go_simp
    refine LX_det (.int .i64 S) (by kernel_rfl) rfl (fun w' hx _ => ?_) ?_
    · go_simp
    refine LX_build [] 2 0 (by kernel_rfl) rfl (fun w' hx => ?_) ?_
    · go_simp
    intro B0 hB0
    refine LX_det (.pointer (some ⟨w.heap.size, 1, none⟩)) (by kernel_rfl) rfl (fun w' hx _ => ?_) ?_
    · go_simp
    refine LX_det (.slice a1 A.length c1) (by kernel_rfl) rfl (fun w' hx _ => ?_) ?_
    · have m0 := (Below.cell hx (p := ⟨w.heap.size, 1, none⟩) hl1).trans k1
      go_simp
    have R9 : ∀ W, Ext w1 W → Rd 1 W (.slice a1 A.length c1) A.length ((ups A).map (Value.int .i64)) := fun W x => by have h9 := RA.out _ (X.trans x); unfold RdI at h9; rw [ups_len] at h9; exact h9
    refine LX_app0 (b := B0) (sv := .slice a1 A.length c1) infoI64 rfl Try.underlying22 (by kernel_rfl) rfl (by kernel_rfl) (by kernel_rfl) R9 hla0 (by omega) (by decide) ?_
    intro g cap hgw
    refine LX_det (.agg #[.int .i64 S, .slice (some ⟨g, 0, none⟩) A.length cap]) (by kernel_rfl) rfl (fun w' hx _ => ?_) ?_
    · go_simp
    refine LX_alloc [.int .i64 0, .slice none 0 0] 27 (by kernel_rfl) rfl (fun w' hx => ?_) ?_
    · go_simp
    intro bk hbk
    refine LX_nil fun w7 Z7 hg => ?_
    have own0 : OwnS w1.heap.size w7 g cap A := ((hg 19).1.1.2 rfl : World.ownsRow _ _ _ _ _ _ _)
    have bb0 : Bz w7 bk 27 [.int .i64 0, .slice none 0 0] := by
      obtain ⟨b', e, -, h3⟩ := ((hg 6).2 rfl : NewB _ _ _ _ _)
      cases e; exact h3
    clear hg R9
    simp only [Act.put, List.setIfInBounds_toArray, List.set_cons_succ, List.set_cons_zero]
    have hgb : g ≠ bk := own_ne own0 bb0 (by decide)
    obtain ⟨k4, k5⟩ := bb0.bx.two
    have f0 := bb0.frozen (j := 0)
    have f1 := bb0.frozen (j := 1)
    have zb := bb0.lt
    clear k0 k1 k2 k3 hwS
    obtain ⟨k0, k1⟩ := (b2.ext Z7).two
    have own8 : OwnS w1.heap.size ((w7.setCell ⟨bk, 0, none⟩ (.int .i64 S)).setCell ⟨bk, 1, none⟩ (.slice (some ⟨g, 0, none⟩) A.length cap)) g cap A :=
      ownsRow_setCell_other (ownsRow_setCell_other own0 (by simpa [Value.ownBlock] using hgb) _) (by simpa [Value.ownBlock] using hgb) _
    have Z8 : Ext w1 ((w7.setCell ⟨bk, 0, none⟩ (.int .i64 S)).setCell ⟨bk, 1, none⟩ (.slice (some ⟨g, 0, none⟩) A.length cap)) := (Below.setCell (Below.setCell Z7 hbk _) hbk _)
    have bb8 : Bz ((w7.setCell ⟨bk, 0, none⟩ (.int .i64 S)).setCell ⟨bk, 1, none⟩ (.slice (some ⟨g, 0, none⟩) A.length cap)) bk 27 [.int .i64 S, .slice (some ⟨g, 0, none⟩) A.length cap] :=
      heap_setCell_same _ bk 1 _ _ _ (heap_setCell_same _ bk 0 _ _ _ bb0)
    have hn2 : w.heap.size + 1 ≠ bk := by have := b2.1; omega
    go_wp2_with fail
    generalize hW8 : (w7.setCell ⟨bk, 0, none⟩ (.int .i64 S)).setCell ⟨bk, 1, none⟩ (.slice (some ⟨g, 0, none⟩) A.length cap) = W8 at *
    clear hW8 k0 k1 k4 k5 f0 f1 zb own0 bb0
    have bb0 := bb8
    clear bb8
    replace bb0 := Lib.hid bb0
    go_loopw [24] (fun i wr => ∃ (k g c : Nat) (xs : List Nat), k ≤ B.length ∧ i = .int .i64 k ∧ xs.length ≤ 64 + k ∧ g ≠ bk ∧ Hid (xs = A ++ shL P (B.take k)) ∧ Hid (Bz wr bk 27 [.int .i64 S, .slice (some ⟨g, 0, none⟩) xs.length c]) ∧
        OwnS w1.heap.size wr g c xs ∧ Ext w1 wr) (fun i _ => B.length - (intOf i).toNat)
    case atStart => exact ⟨0, g, cap, A, Nat.zero_le _, rfl, by omega, hgb, by show _ = _; simp [shL], bb0, own8, Z8⟩
    case round =>
      clear own8 Z8 bb0 hgb
      obtain ⟨k, g, c, xs, hk, rfl, hxl, hgb, HXS, HBB, own, Z⟩ := hrel
      by_cases hlt : k < B.length
      · obtain ⟨b9, o9, e9, hb9, hc9⟩ := RdN_at (RB.out _ (X.trans Z)) hlt
        subst e9
        have hsm := HSM.out _ (List.getElem_mem hlt)
        have htk := HTK.out k hlt
        obtain ⟨x, hxx⟩ : ∃ x, x = B[k] := ⟨_, rfl⟩
        rw [← hxx] at hc9 hsm htk
        obtain ⟨t, ht⟩ : ∃ t, t = x * N := ⟨_, rfl⟩
        rw [← ht] at htk
        have htI : (x : Int) * (N : Int) = (t : Int) := by rw [ht]; exact_mod_cast rfl
        have htb : t ≤ 1048576 := by rw [ht]; exact Nat.mul_le_mul (Nat.le_of_lt hsm) z4
        have HNX : Hid (xs ++ [t] = A ++ shL P (B.take (k + 1))) := by show _ = _; rw [HXS.out, htk, List.append_assoc]
        have hki : (k : Int) < (B.length : Int) := by omega
        obtain ⟨k0, k1⟩ := (b1.ext Z).two
        obtain ⟨k2, k3⟩ := (b2.ext Z).two
        have hbx := HBB.out.bx
        obtain ⟨k4, k5⟩ := hbx.two
        have hb1 := (b1.ext Z).1
        have hb2 := (b2.ext Z).1
        have hb3 := hbx.1
        have hsh : IntKind.i64.wrap (t : Int) = (t : Int) := IntWalk.i64_in _ (by omega)
        clear hxx ht htk hbx
        go_wp2_with fail
        refine wp_region_rel 11 (fun _ _ => True) (fun _ _ _ => True) (by kernel_rfl) (by kernel_rfl) (by kernel_rfl) ?_
        dsimp only [List.take, List.drop, List.length]
        refine LX_det (.pointer (some ⟨bk, 1, none⟩)) (by kernel_rfl) rfl (fun w' hx _ => ?_) ?_
        · go_simp
        refine LX_det (.slice (some ⟨g, 0, none⟩) xs.length c) (by kernel_rfl) rfl (fun w' hx _ => ?_) ?_
        · have m0 := (Below.cell hx (p := ⟨bk, 1, none⟩) hb3).trans k5
          go_simp
        refine LX_det (.pointer (some ⟨w.heap.size + 1, 1, none⟩)) (by kernel_rfl) rfl (fun w' hx _ => ?_) ?_
        · go_simp
        refine LX_det (.slice (some ⟨b9, o9, none⟩) B.length c2) (by kernel_rfl) rfl (fun w' hx _ => ?_) ?_
        · have m0 := (Below.cell hx (p := ⟨w.heap.size + 1, 1, none⟩) hb2).trans k3
          go_simp
        refine LX_det (.int .i64 k) (by kernel_rfl) rfl (fun w' hx _ => ?_) ?_
        · go_simp
        refine LX_det (.pointer (some ⟨b9, o9 + k, none⟩)) (by kernel_rfl) rfl (fun w' hx _ => ?_) ?_
        · go_simp
        refine LX_det (.int .i64 x) (by kernel_rfl) rfl (fun w' hx _ => ?_) ?_
        · have m0 := (Below.cell hx (p := ⟨b9, o9 + k, none⟩) hb9).trans hc9
          go_simp
        refine LX_det (.pointer (some ⟨w.heap.size, 0, none⟩)) (by kernel_rfl) rfl (fun w' hx _ => ?_) ?_
        · go_simp
        refine LX_det (.int .i64 P) (by kernel_rfl) rfl (fun w' hx _ => ?_) ?_
        · have m0 := (Below.cell hx (p := ⟨w.heap.size, 0, none⟩) hb1).trans k0
          go_simp
        refine LX_det (.int .i64 t) (by kernel_rfl) rfl (fun w' hx _ => ?_) ?_
        · go_simp
        refine LX_build [.int .i64 t] 2 1 (by kernel_rfl) rfl (fun w' hx => ?_) ?_
        · go_simp
        intro B8 hB8
        refine LX_nil fun w6 hx hg => ?_
        have hNw := ((hg 37).2 rfl : NewS _ _ _ _ _ _).bx
        clear hg
        simp only [Act.put, List.setIfInBounds_toArray, List.set_cons_succ, List.set_cons_zero]
        have X6 : Ext w1 w6 := Z.trans hx
        have own6 : OwnS w1.heap.size w6 g c xs := own_ext own hx
        have bb6 : Bz w6 bk 27 [.int .i64 S, .slice (some ⟨g, 0, none⟩) xs.length c] := HBB.out.ext hx
        have hbl6 := bb6.lt
        clear hx HBB own k0 k1 k2 k3 k4 k5
        refine wpList_pushB (v := .slice (some ⟨g, 0, none⟩) xs.length c) infoI64 rfl Try.underlying22 rfl rfl rfl own6 rfl hNw.one rfl (by omega) (by decide) X6.size ?_
        intro g2 cap2 w8 hg2 own2 bel2 sz2 blk2
        have bb8 : Bz w8 bk 27 [.int .i64 S, .slice (some ⟨g, 0, none⟩) xs.length c] := by
          show _ = _; rw [blk2 bk hbl6 (by intro h; simp [Value.ownBlock] at h; exact hgb h.symm)]; exact bb6
        have hgB2 : g2 ≠ bk := own_ne own2 bb8 (by decide)
        have k6 := bb8.bx.two.2
        have f6 := bb8.frozen (j := 1)
        clear blk2 hgb hNw bb6 own6
        simp only [Act.put, List.setIfInBounds_toArray, List.set_cons_succ, List.set_cons_zero]
        go_wp2_with fail
        go_roundw
        case rel =>
          refine ⟨k + 1, g2, cap2, xs ++ [t], by omega, by go_num, by simp; omega, hgB2, HNX, ?_, ?_, ?_⟩
          · show Bz _ _ _ _
            rw [List.length_append]
            exact heap_setCell_same w8 bk 1 _ _ _ bb8
          · unfold OwnS
            rw [ups_append, List.map_append, List.length_append]
            exact ownsRow_setCell_other own2 (by simpa [Value.ownBlock] using hgB2) _
          · exact Below.setCell (bel2 _ X6) hbk _
        case measure => simp [intOf]; omega
      · obtain rfl : k = B.length := by omega
        have HXE : Hid (xs = L) := by show _ = _; rw [HXS.out, HDEF.out, List.take_length]
        have HO : Hid (besideO (P : Int) (Q : Int) zs ys = sysO (S : Int) (ups xs)) := by show _ = _; rw [HO0.out, HXE.out]
        have own1 : wr.ownsRow w1.heap.size 2 1 (.slice (some ⟨g, 0, none⟩) (ups xs).length c) (ups xs).length ((ups xs).map (Value.int .i64)) := by rw [ups_len]; exact own
        have HG := Lib.hid (l03Give_any (S : Int) w1.heap.size g c (ups xs) wr own1)
        rw [ups_len] at HG
        have hbb := HBB.out
        obtain ⟨k0, k1⟩ := hbb.bx.two
        obtain ⟨k2, k3⟩ := (b2.ext Z).two
        clear hbb HBB own
        go_wp2_with fail
        refine HG.out.mono ?_
        intro e w5 h3
        have h2 := h3.ys Z own1
        generalize sysO (S : Int) (ups xs) = oo at *
        clear h3 HG own1 k0 k1 k2 k3 HO0
        obtain ⟨hxY, h2⟩ := h2
        replace bz := bz.ext hxY
        replace X := X.trans hxY
        obtain ⟨k0, k1⟩ := bz.bx.two
        have z2' := bz.lt
        have f0 := bz.frozen (j := 0)
        have f1 := bz.frozen (j := 1)
        clear bz
        cases oo with
        | none =>
          simp only at h2
          subst h2
          go_wp2_with fail
          refine bodyPost_ret (v := .tuple #[.agg #[.int .i64 0, .slice none 0 0], .bool false]) (by simp [results, Try.results31, go_sem, k0, k1, f0, f1]) rfl ?_
          unfold YsPost
          rw [HO.out]
          exact ⟨(X.setCell hle1 _).setCell hle1 _, rfl⟩
        | some q =>
          obtain ⟨g3, cap3, rfl, own3⟩ := h2
          obtain ⟨p0, qs⟩ := q
          have hgl := own3.lt g3 rfl
          simp only at own3 hgl
          simp only
          go_wp2_with fail
          refine bodyPost_ret (v := .tuple #[.agg #[.int .i64 p0, .slice (some ⟨g3, 0, none⟩) qs.length cap3], .bool true]) (by simp [results, Try.results31, go_sem, k0, k1, f0, f1]) rfl ?_
          unfold YsPost
          rw [HO.out]
          refine ⟨(X.setCell hle1 _).setCell hle1 _, g3, cap3, rfl, ?_⟩
          exact World.ownsRow.mono (ownsRow_setCell_other (ownsRow_setCell_other own3 (by simp [Value.ownBlock]; omega) _) (by simp [Value.ownBlock]; omega) _) (by omega)
/-- A system handed back, drawn in a region. -/
def YqV (P0 : Int) (c : Bool) (v : Value) : Prop := ∃ a n k, v = .tuple #[.agg #[.int .i64 P0, .slice a n k], .bool c]
def YqW (B : Nat) (P0 : Int) (c : Bool) (zs : List Int) (v : Value) (w : World) : Prop := ∀ s, v = .tuple #[.agg #[.int .i64 P0, s], .bool c] → ∃ T, B ≤ B ∧ OwZ B T w s zs
theorem YqW.st (B : Nat) (P0 : Int) (c : Bool) (zs : List Int) (v : Value) : St (YqW B P0 c zs v) := fun _ _ h hx s e => by
  obtain ⟨T, h1, h2⟩ := h s e
  exact ⟨T, h1, h2.ext hx⟩
theorem OwZ.base {B B' T : Nat} {w : World} {v : Value} {zs : List Int} (h : OwZ B T w v zs) (hb : B' ≤ B) : OwZ B' T w v zs := by
  rcases h with h | ⟨g, cap, rfl, h1, own⟩
  · exact .inl h
  · exact .inr ⟨g, cap, rfl, h1, World.ownsRow.mono own hb⟩
theorem yqPost {o : Option (Int × List Int)} {P0 : Int} {zz : List Int} {B : Nat} {w w' : World} {e : Ending} (hP : (o.getD (0, [])).1 = P0) (hZ : (o.getD (0, [])).2 = zz) (h : YsPost o w e w') (hB : B ≤ w.heap.size) :
    ∃ v, e = .returned v ∧ Ext w w' ∧ YqV P0 o.isSome v ∧ YqW B P0 o.isSome zz v w' := by
  obtain ⟨vs, rfl, os, hx⟩ := ysPost_own h
  rw [hP, hZ] at *
  obtain ⟨a, n, c, rfl⟩ := os.shape
  refine ⟨_, rfl, hx, ⟨a, n, c, rfl⟩, fun s e => ?_⟩
  injection e with e1
  simp at e1
  subst e1
  exact ⟨_, Nat.le_refl _, os.base hB⟩
theorem Bz.set {w : World} {b : Nat} {t : TypeId} {cs : List Value} (h : Bz w b t cs) (j : Nat) (u : Value) : Bz (w.setCell ⟨b, j, none⟩ u) b t (cs.set j u) := by
  have := heap_setCell_same w b j _ _ u h
  unfold Bz
  rw [this]
  simp
theorem OwZ.setBox {B T b : Nat} {w : World} {v : Value} {zs : List Int} {cs : List Value} (h : OwZ B T w v zs) (hb : Bz w b 27 cs) (j : Nat) (u : Value) : OwZ B T (w.setCell ⟨b, j, none⟩ u) v zs := by
  rcases h with h | ⟨g, cap, rfl, h1, own⟩
  · exact .inl h
  · have hne : g ≠ b := own_ne own hb (by decide)
    exact .inr ⟨g, cap, rfl, h1, ownsRow_setCell_other own (by simpa [Value.ownBlock] using hne) _⟩

end Go.Proofs.Ytifhmkkgmchcmaa
