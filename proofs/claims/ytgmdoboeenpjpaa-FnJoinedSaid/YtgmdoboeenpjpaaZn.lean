
/- ChainSystems, both sides. Condition: lists of ints that can be read. -/
import Derived.Test.YtgmdoboeenpjpaaZJ
namespace Go.Proofs.Ytgmdoboeenpjpaa
open Go Go.RowKit Go.ChangeShapes Go.WideShapes Go.ChangeAt

attribute [local irreducible] LX

set_option maxHeartbeats 8000000 in
theorem implChainSystems_any (p q : Int) (v u : Value) (zs ys : List Int) (w : World) (r : RdI w v zs) (rb : RdI w u ys) :
    Calls Try.prog 19 #[.agg #[.int .i64 p, v], .agg #[.int .i64 q, u]] w (YsPost (serO p q zs ys) w) := by
  have r' := r
  have rb' := rb
  obtain ⟨-, a1, c1, rfl, -, -, -, -⟩ := r
  obtain ⟨-, a2, c2, rfl, -, -, -, -⟩ := rb
  generalize hW0 : ((w.alloc (.cells #[.int .i64 p, .slice a1 zs.length c1] 27)).alloc (.cells #[.int .i64 q, .slice a2 ys.length c2] 27)).alloc (.cells #[.int .i64 0, .slice none 0 0] 27) = W0
  have X : Ext w W0 := hW0 ▸ ((Ext.alloc _ _).trans (Ext.alloc _ _)).trans (Ext.alloc _ _)
  have b1 : Bx W0 w.heap.size [.int .i64 p, .slice a1 zs.length c1] := hW0 ▸ ((Bx.new _ _ _).ext (Ext.alloc _ _)).ext (Ext.alloc _ _)
  have b2 : Bx W0 (w.heap.size + 1) [.int .i64 q, .slice a2 ys.length c2] := hW0 ▸ (Bx.new' (w.alloc (.cells #[.int .i64 p, .slice a1 zs.length c1] 27)) [.int .i64 q, .slice a2 ys.length c2] 27 (by simp)).ext (Ext.alloc _ _)
  have hbs : ((w.alloc (.cells #[.int .i64 p, .slice a1 zs.length c1] 27)).alloc (.cells #[.int .i64 q, .slice a2 ys.length c2] 27)).heap.size = w.heap.size + 2 := by simp
  have bz : Bz W0 (w.heap.size + 2) 27 [.int .i64 0, .slice none 0 0] := by rw [← hW0, ← hbs]; exact Bz.new _ _ _
  have hle1 : w.heap.size ≤ w.heap.size + 2 := by omega
  clear hbs
  have HV1 := Lib.hid (implValidSystem_any p _ zs W0 (r'.ext X))
  cases hv1 : sysB p zs
  · have HO : Hid (serO p q zs ys = none) := by show _ = _; unfold serO; rw [hv1]; rfl
    rw [hv1] at HV1
    clear hv1
    obtain ⟨k0, k1⟩ := b1.two
    go_enter Try.func19, Try.ntmps19
    go_wp2_with fail
    try rw [hW0]
    refine HV1.out.mono ?_
    rintro e w1 ⟨rfl, hx⟩
    clear k0 k1 hW0
    replace X := X.trans hx
    replace bz := bz.ext hx
    obtain ⟨k0, k1⟩ := bz.bx.two
    have z2 := bz.lt
    have f0 := bz.frozen (j := 0)
    have f1 := bz.frozen (j := 1)
    clear bz b1 b2
    go_wp2_with fail
    refine bodyPost_ret (v := .tuple #[.agg #[.int .i64 0, .slice none 0 0], .bool false]) (by simp [results, Try.results19, go_sem, k0, k1, f0, f1]) rfl ?_
    unfold YsPost
    rw [HO.out]
    exact ⟨(X.setCell hle1 _).setCell hle1 _, rfl⟩
  rw [hv1] at HV1
  have HV2 := Lib.hid (fun W (x : Ext w W) => implValidSystem_any q _ ys W (rb'.ext x))
  cases hv2 : sysB q ys
  · have HO : Hid (serO p q zs ys = none) := by show _ = _; unfold serO; rw [hv2, Bool.and_false]; rfl
    rw [hv2] at HV2
    clear hv1 hv2
    obtain ⟨k0, k1⟩ := b1.two
    go_enter Try.func19, Try.ntmps19
    go_wp2_with fail
    try rw [hW0]
    refine HV1.out.mono ?_
    rintro e w1 ⟨rfl, hx⟩
    clear k0 k1 hW0
    replace X := X.trans hx
    replace bz := bz.ext hx
    replace b2 := b2.ext hx
    clear hx
    obtain ⟨k0, k1⟩ := b2.two
    go_wp2_with fail
    refine (HV2.out _ X).mono ?_
    rintro e w2 ⟨rfl, hx⟩
    clear k0 k1
    replace X := X.trans hx
    replace bz := bz.ext hx
    obtain ⟨k0, k1⟩ := bz.bx.two
    have z2 := bz.lt
    have f0 := bz.frozen (j := 0)
    have f1 := bz.frozen (j := 1)
    clear bz b1 b2
    go_wp2_with fail
    refine bodyPost_ret (v := .tuple #[.agg #[.int .i64 0, .slice none 0 0], .bool false]) (by simp [results, Try.results19, go_sem, k0, k1, f0, f1]) rfl ?_
    unfold YsPost
    rw [HO.out]
    exact ⟨(X.setCell hle1 _).setCell hle1 _, rfl⟩
  · rw [hv2] at HV2
    obtain ⟨s1, hp, hz⟩ := SysN.of (sys_good' hv1)
    obtain ⟨s2, hq, hy⟩ := SysN.of (sys_good' hv2)
    obtain ⟨o1, o2⟩ := sysB_ups hv1
    obtain ⟨o3, o4⟩ := sysB_ups hv2
    have HO0 : Hid (serO p q zs ys = sysO (p + q) (ups (chL (2 ^ p.toNat) (downs zs) (downs ys)))) := by show _ = _; unfold serO; rw [hv1, hv2]; rfl
    obtain ⟨P, hP⟩ : ∃ P, P = p.toNat := ⟨_, rfl⟩
    obtain ⟨Q, hQ⟩ : ∃ Q, Q = q.toNat := ⟨_, rfl⟩
    rw [← hP] at s1 hp HO0
    rw [← hQ] at s2 hq
    subst hp
    subst hq
    have hp1 := s1.p1
    have hp10 := s1.p10
    have hq10 := s2.p10
    obtain ⟨m1, m2, m3, m4⟩ := ch_least s1 s2 o1 o3 o2 o4
    have HIF := Lib.hid (fun W u (r : RdI W u (ups (chI (2 ^ P) (downs zs) (downs ys)))) => ifSystem_any ((P + Q : Nat) : Int) u (chI (2 ^ P) (downs zs) (downs ys)) W r m4 (by omega) m2)
    rw [m1] at HIF
    have HSM : Hid (∀ n ∈ downs ys, n < 1024) := s2.small
    have HSA : Hid (∀ n ∈ downs zs, n < 2 ^ P ∧ n < 1024) := fun n hn => ⟨s1.lt n hn, s1.small n hn⟩
    have hla : (downs zs).length ≤ 64 := s1.l64
    have hlb : (downs ys).length ≤ 64 := s2.l64
    have hla0 : 0 < (downs zs).length := s1.l1
    have HDEF : Hid (chI (2 ^ P) (downs zs) (downs ys) = (downs zs).flatMap (rowC (2 ^ P) (downs ys))) := rfl
    have HTA := Lib.hid (fun k (h : k < (downs zs).length) => flat_take (rowC (2 ^ P) (downs ys)) (downs zs) h)
    have HTB := Lib.hid (fun p k (h : k < (downs ys).length) => rowC_take (2 ^ P) (downs ys) p h)
    have HOR := Lib.hid (fun x q (h : x < 2 ^ P) => ch_or (q := q) h)
    have RA := Lib.hid (fun W (x : Ext w W) => (by have h9 := r'.ext x; rw [hz] at h9; exact h9 : RdI W (.slice a1 (ups (downs zs)).length c1) (ups (downs zs))))
    have RB := Lib.hid (fun W (x : Ext w W) => (by have h9 := rb'.ext x; rw [hy] at h9; exact h9 : RdI W (.slice a2 (ups (downs ys)).length c2) (ups (downs ys))))
    have hzl : zs.length = (downs zs).length := (downs_len zs).symm
    have hyl : ys.length = (downs ys).length := (downs_len ys).symm
    obtain ⟨z1, z2, z3, z4⟩ := pow10N hp10
    generalize chI (2 ^ P) (downs zs) (downs ys) = L at *
    generalize chL (2 ^ P) (downs zs) (downs ys) = LL at *
    generalize zs.length = l1 at *
    generalize ys.length = l2 at *
    subst hzl
    subst hyl
    generalize downs zs = A at *
    generalize downs ys = B at *
    rw [ups_len] at RA RB
    generalize hN : 2 ^ P = N at *
    clear hN
    have hN1 : 1 ≤ N := by omega
    clear hv1 hv2 hz hy o1 o2 o3 o4 hP hQ s1 s2 m1 m2 m3 m4 r' rb'
    obtain ⟨k0, k1⟩ := b1.two
    go_enter Try.func19, Try.ntmps19
    go_wp2_with fail
    try rw [hW0]
    refine HV1.out.mono ?_
    rintro e w1 ⟨rfl, hx⟩
    clear k0 k1 hW0
    replace X := X.trans hx
    replace bz := bz.ext hx
    replace b2 := b2.ext hx
    replace b1 := b1.ext hx
    clear hx
    obtain ⟨k0, k1⟩ := b2.two
    go_wp2_with fail
    refine (HV2.out _ X).mono ?_
    rintro e w2 ⟨rfl, hx⟩
    clear k0 k1
    replace X := X.trans hx
    replace bz := bz.ext hx
    replace b2 := b2.ext hx
    replace b1 := b1.ext hx
    clear hx
    have X2 := X
    have bzx := bz
    have b1x := b1
    have b2x := b2
    clear X bz b1 b2
    obtain ⟨k0, k1⟩ := (b1x.ext (Ext.alloc w2 (.cells #[] 2))).two
    go_wp2_with fail
    clear k0 k1
    go_loopw [24, 6] (fun i v wr => ∃ (k g cap : Nat) (xs : List Nat), k ≤ A.length ∧ i = .int .i64 k ∧ v = .slice (some ⟨g, 0, none⟩) xs.length cap ∧ xs.length ≤ 4096 ∧ Hid (xs.length = k * B.length) ∧ Hid (xs = (A.take k).flatMap (rowC N B)) ∧ OwnS w2.heap.size wr g cap xs ∧ Ext w2 wr) (fun i _ _ => A.length - (intOf i).toNat)
    case atStart => exact ⟨0, _, _, [], Nat.zero_le _, rfl, rfl, by simp, by show _ = _; simp, by show _ = _; simp, World.ownsRow_lit w2 #[] 0 (Nat.le_refl _) (by decide) rfl, Ext.alloc _ _⟩
    case round =>
      obtain ⟨k, g, cap, xs, hk, rfl, rfl, hx4, HXL, HXS, own, Z⟩ := hrel
      by_cases hlt : k < A.length
      · obtain ⟨b9, o9, e9, hb1, hc1⟩ := RdN_at (RA.out _ (X2.trans Z)) hlt
        subst e9
        have HPX := Lib.hid (HSA.out _ (List.getElem_mem hlt))
        have HTK := Lib.hid (HTA.out k hlt)
        obtain ⟨x, hxx⟩ : ∃ x, x = A[k] := ⟨_, rfl⟩
        rw [← hxx] at hc1 HPX HTK
        have hki : (k : Int) < (A.length : Int) := by omega
        have hx1 : x < 1024 := HPX.out.2
        have hkm : (k + 1) * B.length ≤ 64 * 64 := Nat.mul_le_mul (by omega) hlb
        have hkm2 : (k + 1) * B.length = k * B.length + B.length := Nat.succ_mul _ _
        have hxl4 : xs.length + B.length ≤ 4096 := by have := HXL.out; omega
        clear hkm hkm2
        obtain ⟨k2, k3⟩ := (b2x.ext Z).two
        have own0 := own
        have Z0 := Z
        clear hxx own
        go_wp2_with fail
        clear k2 k3
        go_loopw [31, 6] (fun i v wq => ∃ (j g cap : Nat) (ys : List Nat), j ≤ B.length ∧ i = .int .i64 j ∧ v = .slice (some ⟨g, 0, none⟩) ys.length cap ∧ ys.length ≤ xs.length + j ∧ Hid (ys.length = xs.length + j) ∧ Hid (ys = xs ++ rowC N (B.take j) x) ∧ OwnS w2.heap.size wq g cap ys ∧ Ext w2 wq) (fun i _ _ => B.length - (intOf i).toNat)
        case atStart => exact ⟨0, g, cap, xs, Nat.zero_le _, rfl, rfl, Nat.le_refl _, rfl, by show _ = _; simp [rowC], own0, Z0⟩
        case round =>
          clear own0 Z0 Z hb1 hc1
          obtain ⟨j, g, cap, ys, hj, rfl, rfl, hyl, HYL, HYS, own, Z⟩ := hrel
          by_cases hlt2 : j < B.length
          · obtain ⟨b9, o9, e9, hb1, hc1⟩ := RdN_at (RB.out _ (X2.trans Z)) hlt2
            subst e9
            have hsm := HSM.out _ (List.getElem_mem hlt2)
            have htk := HTB.out x j hlt2
            obtain ⟨y, hyy⟩ : ∃ y, y = B[j] := ⟨_, rfl⟩
            rw [← hyy] at hc1 hsm htk
            have hor := HOR.out x y HPX.out.1
            obtain ⟨t, ht⟩ : ∃ t, t = y * N := ⟨_, rfl⟩
            rw [← ht] at htk hor
            have htI : (y : Int) * (N : Int) = (t : Int) := by rw [ht]; exact_mod_cast rfl
            have htb : t ≤ 1048576 := by rw [ht]; exact Nat.mul_le_mul (Nat.le_of_lt hsm) z4
            obtain ⟨u, hu⟩ : ∃ u, u = x + t := ⟨_, rfl⟩
            rw [← hu] at htk hor
            have HNX : Hid (ys ++ [u] = xs ++ rowC N (B.take (j + 1)) x) := by show _ = _; rw [HYS.out, htk, List.append_assoc]
            have hub : u ≤ 1049600 := by omega
            have hji : (j : Int) < (B.length : Int) := by omega
            have hobs : bits .or .i64 (x : Int) (t : Int) = (u : Int) := by rw [bits_or x t (by omega) (by omega), hor]
            obtain ⟨k0, k1⟩ := (b1x.ext Z).two
            clear hyy ht htk hu hor
            go_wp2_with (at_builtin; refine wpList_push infoI64 rfl Try.underlying25 rfl rfl rfl (World.ownsRow.alloc (w := _) own _) rfl (Bx.new _ [_] _).one rfl (by omega) (by decide) (Z.trans (Ext.alloc _ _)).size ?_; intro g2 cap2 w4 hg2 own2 bel2 sz2)
            go_roundw
            case rel => exact ⟨j + 1, g2, cap2, ys ++ [u], by omega, by go_num, by simp, by simp; omega, by show _ = _; simp; have := HYL.out; omega, HNX, by unfold OwnS; rw [ups_append, List.map_append, List.length_append]; exact own2, bel2 _ (Z.trans (Ext.alloc _ _))⟩
            case measure => simp [intOf]; omega
          · obtain rfl : j = B.length := by omega
            have HNX : Hid (ys = (A.take (k + 1)).flatMap (rowC N B)) := by show _ = _; rw [HYS.out, HTK.out, HXS.out, List.take_length]
            go_wp2_with fail
            go_roundw
            case rel => exact ⟨k + 1, g, cap, ys, by omega, by go_num, rfl, by omega, by show _ = _; have h1 := HYL.out; have h2 := HXL.out; rw [Nat.succ_mul]; omega, HNX, own, Z⟩
            case measure => simp [intOf]; omega
      · obtain rfl : k = A.length := by omega
        have HXE : Hid (xs = L) := by show _ = _; rw [HXS.out, HDEF.out, List.take_length]
        have bzr := bzx.ext Z
        obtain ⟨k0, k1⟩ := (b1x.ext Z).two
        obtain ⟨k2, k3⟩ := (b2x.ext Z).two
        have hgt : w.heap.size + 2 < wr.heap.size := bzr.lt
        have Xr := X2.trans Z
        have hrd := own.rd
        rw [HXE.out] at hrd
        have hxlen : xs.length = L.length := by rw [HXE.out]
        have hHI := HIF.out wr _ hrd
        have hPQ : (P : Int) + (Q : Int) = ((P + Q : Nat) : Int) := by omega
        have HO : Hid (serO (P : Int) (Q : Int) zs ys = sysO ((P + Q : Nat) : Int) (ups LL)) := by show _ = _; rw [HO0.out, hPQ]
        generalize sysO ((P + Q : Nat) : Int) (ups LL) = oo at *
        obtain ⟨S, hS⟩ : ∃ S, S = P + Q := ⟨_, rfl⟩
        rw [← hS] at hPQ hHI
        have HHI := Lib.hid hHI
        clear hHI hrd hS HO0
        go_wp2_with fail
        refine HHI.out.mono ?_
        intro e w5 h2
        obtain ⟨hxY, h2⟩ := h2
        replace bzr := bzr.ext hxY
        have hszY := Xr.size
        have X := Xr.trans hxY
        clear k0 k1
        obtain ⟨k0, k1⟩ := bzr.bx.two
        have z2' := bzr.lt
        have f0 := bzr.frozen (j := 0)
        have f1 := bzr.frozen (j := 1)
        clear bzr k2 k3
        cases oo with
        | none =>
          simp only at h2
          subst h2
          go_wp2_with fail
          refine bodyPost_ret (v := .tuple #[.agg #[.int .i64 0, .slice none 0 0], .bool false]) (by simp [results, Try.results19, go_sem, k0, k1, f0, f1]) rfl ?_
          unfold YsPost
          rw [HO.out]
          exact ⟨(X.setCell hle1 _).setCell hle1 _, rfl⟩
        | some q =>
          obtain ⟨g3, cap3, rfl, own3⟩ := h2
          obtain ⟨p0, qs⟩ := q
          have hgl := own3.lt g3 rfl
          simp only at own3 hgl
          simp only
          go_wp2_with fail
          refine bodyPost_ret (v := .tuple #[.agg #[.int .i64 p0, .slice (some ⟨g3, 0, none⟩) qs.length cap3], .bool true]) (by simp [results, Try.results19, go_sem, k0, k1, f0, f1]) rfl ?_
          unfold YsPost
          rw [HO.out]
          refine ⟨(X.setCell hle1 _).setCell hle1 _, g3, cap3, rfl, ?_⟩
          exact World.ownsRow.mono (ownsRow_setCell_other (ownsRow_setCell_other own3 (by simp [Value.ownBlock]; omega) _) (by simp [Value.ownBlock]; omega) _) hszY
set_option maxRecDepth 100000 in
set_option maxHeartbeats 8000000 in
theorem specChainSystems_any (p q : Int) (v u : Value) (zs ys : List Int) (w : World) (r : RdI w v zs) (rb : RdI w u ys) :
    Calls Try.prog 20 #[.agg #[.int .i64 p, v], .agg #[.int .i64 q, u]] w (YsPost (serO p q zs ys) w) := by
  have r' := r
  have rb' := rb
  obtain ⟨-, a1, c1, rfl, -, -, -, -⟩ := r
  obtain ⟨-, a2, c2, rfl, -, -, -, -⟩ := rb
  generalize hW0 : ((w.alloc (.cells #[.int .i64 p, .slice a1 zs.length c1] 27)).alloc (.cells #[.int .i64 q, .slice a2 ys.length c2] 27)).alloc (.cells #[.int .i64 0, .slice none 0 0] 27) = W0
  have X : Ext w W0 := hW0 ▸ ((Ext.alloc _ _).trans (Ext.alloc _ _)).trans (Ext.alloc _ _)
  have b1 : Bx W0 w.heap.size [.int .i64 p, .slice a1 zs.length c1] := hW0 ▸ ((Bx.new _ _ _).ext (Ext.alloc _ _)).ext (Ext.alloc _ _)
  have b2 : Bx W0 (w.heap.size + 1) [.int .i64 q, .slice a2 ys.length c2] := hW0 ▸ (Bx.new' (w.alloc (.cells #[.int .i64 p, .slice a1 zs.length c1] 27)) [.int .i64 q, .slice a2 ys.length c2] 27 (by simp)).ext (Ext.alloc _ _)
  have hbs : ((w.alloc (.cells #[.int .i64 p, .slice a1 zs.length c1] 27)).alloc (.cells #[.int .i64 q, .slice a2 ys.length c2] 27)).heap.size = w.heap.size + 2 := by simp
  have bz : Bz W0 (w.heap.size + 2) 27 [.int .i64 0, .slice none 0 0] := by rw [← hW0, ← hbs]; exact Bz.new _ _ _
  have hle1 : w.heap.size ≤ w.heap.size + 2 := by omega
  clear hbs
  have HV := Lib.hid (l03Two_any p q _ _ zs ys w.heap.size (w.heap.size + 1) W0 b1 b2 (r'.ext X) (rb'.ext X))
  cases hv : twoB p q zs ys
  · have HO : Hid (serO p q zs ys = none) := by show _ = _; exact ser_none (.inl hv)
    rw [hv] at HV
    clear hv
    go_enter Try.func20, Try.ntmps20
    go_wp2_with fail
    try rw [hW0]
    refine HV.out.mono ?_
    rintro e w1 ⟨rfl, hx⟩
    clear hW0
    replace X := X.trans hx
    replace bz := bz.ext hx
    obtain ⟨k0, k1⟩ := bz.bx.two
    have z2 := bz.lt
    have f0 := bz.frozen (j := 0)
    have f1 := bz.frozen (j := 1)
    clear bz b1 b2
    go_wp2_with fail
    refine bodyPost_ret (v := .tuple #[.agg #[.int .i64 0, .slice none 0 0], .bool false]) (by simp [results, Try.results20, go_sem, k0, k1, f0, f1]) rfl ?_
    unfold YsPost
    rw [HO.out]
    exact ⟨(X.setCell hle1 _).setCell hle1 _, rfl⟩
  have hv' := hv
  unfold twoB at hv'
  rw [Bool.and_eq_true, Bool.and_eq_true, decide_eq_true_eq] at hv'
  obtain ⟨⟨hv1, hv2⟩, hpq⟩ := hv'
  have hla64 := (good_get (sys_good' hv1)).2.1
  have hlb64 := (good_get (sys_good' hv2)).2.1
  have hprod : zs.length * ys.length ≤ 64 * 64 := Nat.mul_le_mul (by omega) (by omega)
  obtain ⟨pr, hpr⟩ : ∃ pr, pr = zs.length * ys.length := ⟨_, rfl⟩
  have hprI : (zs.length : Int) * (ys.length : Int) = (pr : Int) := by rw [hpr]; exact_mod_cast rfl
  rw [← hpr] at hprod
  have hprw : IntKind.i64.wrap (pr : Int) = (pr : Int) := IntWalk.i64_in _ (by omega)
  by_cases hlong : 64 < pr
  · have HO : Hid (serO p q zs ys = none) := by show _ = _; exact ser_none (.inr (hpr ▸ hlong))
    rw [hv] at HV
    have hlongI : (64 : Int) < (pr : Int) := by omega
    clear hv hv1 hv2 hpr hpq hla64 hlb64 hlong
    go_enter Try.func20, Try.ntmps20
    go_wp2_with fail
    try rw [hW0]
    refine HV.out.mono ?_
    rintro e w1 ⟨rfl, hx⟩
    clear hW0
    replace X := X.trans hx
    replace bz := bz.ext hx
    replace b1 := b1.ext hx
    replace b2 := b2.ext hx
    obtain ⟨k2, k3⟩ := b1.two
    obtain ⟨k4, k5⟩ := b2.two
    obtain ⟨k0, k1⟩ := bz.bx.two
    have z2 := bz.lt
    have f0 := bz.frozen (j := 0)
    have f1 := bz.frozen (j := 1)
    clear bz b1 b2
    go_wp2_with fail
    refine bodyPost_ret (v := .tuple #[.agg #[.int .i64 0, .slice none 0 0], .bool false]) (by simp [results, Try.results20, go_sem, k0, k1, f0, f1]) rfl ?_
    unfold YsPost
    rw [HO.out]
    exact ⟨(X.setCell hle1 _).setCell hle1 _, rfl⟩
  · have hlong2 : pr ≤ 64 := by omega
    have hlongI : ¬ (64 : Int) < (pr : Int) := by omega
    clear hla64 hlb64 hprod hlong
    rw [hv] at HV
    obtain ⟨s1, hp, hz⟩ := SysN.of (sys_good' hv1)
    obtain ⟨s2, hq, hy⟩ := SysN.of (sys_good' hv2)
    have HO0 : Hid (serO p q zs ys = sysO (p + q) (ups (chL (2 ^ p.toNat) (downs zs) (downs ys)))) := by show _ = _; unfold serO; rw [hv1, hv2]; rfl
    obtain ⟨P, hP⟩ : ∃ P, P = p.toNat := ⟨_, rfl⟩
    obtain ⟨Q, hQ⟩ : ∃ Q, Q = q.toNat := ⟨_, rfl⟩
    rw [← hP] at s1 hp HO0
    rw [← hQ] at s2 hq
    subst hp
    subst hq
    have hp1 := s1.p1
    have hp10 := s1.p10
    have hq10 := s2.p10
    have HSM : Hid (∀ n ∈ downs ys, n < 1024) := s2.small
    have HSA : Hid (∀ n ∈ downs zs, n < 1024) := s1.small
    have hla : (downs zs).length ≤ 64 := s1.l64
    have hlb : (downs ys).length ≤ 64 := s2.l64
    have hla0 : 0 < (downs zs).length := s1.l1
    have hlb0 : 0 < (downs ys).length := s2.l1
    have HDEF : Hid (chL (2 ^ P) (downs zs) (downs ys) = (downs ys).flatMap (rowR (2 ^ P) (downs zs))) := rfl
    have HLL : Hid ((chL (2 ^ P) (downs zs) (downs ys)).length = (downs ys).length * (downs zs).length) := chL_len _ _ _
    have HTB := Lib.hid (fun k (h : k < (downs ys).length) => flat_take (rowR (2 ^ P) (downs zs)) (downs ys) h)
    have HTA := Lib.hid (fun q k (h : k < (downs zs).length) => rowR_take (2 ^ P) (downs zs) q h)
    have RA := Lib.hid (fun W (x : Ext w W) => (by have h9 := r'.ext x; rw [hz] at h9; exact h9 : RdI W (.slice a1 (ups (downs zs)).length c1) (ups (downs zs))))
    have RB := Lib.hid (fun W (x : Ext w W) => (by have h9 := rb'.ext x; rw [hy] at h9; exact h9 : RdI W (.slice a2 (ups (downs ys)).length c2) (ups (downs ys))))
    have hzl : zs.length = (downs zs).length := (downs_len zs).symm
    have hyl : ys.length = (downs ys).length := (downs_len ys).symm
    obtain ⟨z1, z2, z3, z4⟩ := pow10N hp10
    generalize chL (2 ^ P) (downs zs) (downs ys) = L at *
    clear hpr
    generalize zs.length = l1 at *
    generalize ys.length = l2 at *
    subst hzl
    subst hyl
    generalize downs zs = A at *
    generalize downs ys = B at *
    rw [ups_len] at RA RB
    generalize hN : 2 ^ P = N at *
    clear hN
    have hN1 : 1 ≤ N := by omega
    have hPQ : (P : Int) + (Q : Int) = ((P + Q : Nat) : Int) := by omega
    rw [hPQ] at HO0
    obtain ⟨S, hS⟩ : ∃ S, S = P + Q := ⟨_, rfl⟩
    rw [← hS] at HO0 hPQ
    clear hv hv1 hv2 hz hy hP hQ s1 s2 r' rb'
    have hwS : IntKind.i64.wrap (S : Int) = (S : Int) := IntWalk.i64_in _ (by omega)
    go_enter Try.func20, Try.ntmps20
    go_wp2_with fail
    try rw [hW0]
    refine HV.out.mono ?_
    rintro e w1 ⟨rfl, hx⟩
    clear hW0
    replace X := X.trans hx
    replace bz := bz.ext hx
    replace b2 := b2.ext hx
    replace b1 := b1.ext hx
    clear hx
    have hgt : w.heap.size + 2 < w1.heap.size := bz.lt
    obtain ⟨k0, k1⟩ := b1.two
    obtain ⟨k2, k3⟩ := b2.two
    have hl1 := b1.1
    have hl2 := b2.1
    have hS10 : S ≤ 10 := by omega
    clear hS hpq
    obtain ⟨k0, k1⟩ := b1.two
    obtain ⟨k2, k3⟩ := b2.two
    have ob : OwB (w1.alloc (.cells #[.int .i64 S, .slice none 0 0] 27)) w1.heap.size S (.slice none 0 0) := OwB.new _ _ _
    have X1 : Ext w1 (w1.alloc (.cells #[.int .i64 S, .slice none 0 0] 27)) := Ext.alloc _ _
    have hW1s : w1.heap.size + 1 ≤ (w1.alloc (.cells #[.int .i64 S, .slice none 0 0] 27)).heap.size := by simp
    obtain ⟨k6, k7⟩ := (b2.ext X1).two
    go_wp2_with fail
    generalize hW1 : w1.alloc (.cells #[.int .i64 S, .slice none 0 0] 27) = W1 at *
    clear k0 k1 k2 k3 k6 k7 hW1 hprI hprw hlongI hlong2 hPQ hwS
    generalize hbk : w1.heap.size = bk at *
    have hbk1 : w1.heap.size ≤ bk := by omega
    have hbk2 : w1.heap.size ≤ bk + 1 := by omega
    go_loopw [31] (fun i wr => ∃ (k c : Nat) (a : Option Addr) (xs : List Nat), k ≤ B.length ∧ i = .int .i64 k ∧ xs.length ≤ 4096 ∧ Hid (xs.length = k * A.length) ∧ OwB wr bk S (.slice a xs.length c) ∧ Hid (xs = (B.take k).flatMap (rowR N A)) ∧
        wr.ownsRow (bk + 1) 2 1 (.slice a xs.length c) xs.length ((ups xs).map (Value.int .i64)) ∧ Ext w1 wr ∧ bk + 1 ≤ wr.heap.size) (fun i _ => B.length - (intOf i).toNat)
    case atStart => exact ⟨0, 0, none, [], Nat.zero_le _, rfl, by simp, by show _ = _; simp, ob, by show _ = _; simp, World.ownsRow_nil _ _ _ _, X1, hW1s⟩
    case round =>
      clear ob X1 hW1s
      obtain ⟨k, c, a, xs, hk, rfl, hx4, HXL, ob1, HXS, own, Z, hsz⟩ := hrel
      by_cases hlt : k < B.length
      · obtain ⟨b9, o9, e9, hb9, hc9⟩ := RdN_at (RB.out _ (X.trans Z)) hlt
        subst e9
        have hsm := HSM.out _ (List.getElem_mem hlt)
        have HTK := Lib.hid (HTB.out k hlt)
        have HC2 := Lib.hid (fun W (x : Ext w1 W) => (RdN_at (RB.out _ (X.trans x)) hlt))
        obtain ⟨y, hyy⟩ : ∃ y, y = B[k] := ⟨_, rfl⟩
        rw [← hyy] at hsm HTK
        have HYY := Lib.hid hyy
        clear hc9 hb9 hyy
        have hkm : (k + 1) * A.length ≤ 64 * 64 := Nat.mul_le_mul (by omega) hla
        have hkm2 : (k + 1) * A.length = k * A.length + A.length := Nat.succ_mul _ _
        have hxl4 : xs.length + A.length ≤ 4096 := by have := HXL.out; omega
        clear hkm hkm2
        obtain ⟨t, ht⟩ : ∃ t, t = y * N := ⟨_, rfl⟩
        have htI : (y : Int) * (N : Int) = (t : Int) := by rw [ht]; exact_mod_cast rfl
        have htb : t ≤ 1048576 := by rw [ht]; exact Nat.mul_le_mul (Nat.le_of_lt hsm) z4
        have htw : IntKind.i64.wrap (t : Int) = (t : Int) := IntWalk.i64_in _ (by omega)
        have HTT := Lib.hid ht
        clear ht
        have hki : (k : Int) < (B.length : Int) := by omega
        obtain ⟨k0, k1⟩ := (b1.ext Z).two
        have ob10 := ob1
        have own0 := own
        have Z0 := Z
        have hsz0 := hsz
        clear ob1 own
        go_wp2_with fail
        clear k0 k1
        go_loopw [37] (fun i wq => ∃ (j c : Nat) (a : Option Addr) (us : List Nat), j ≤ A.length ∧ i = .int .i64 j ∧ us.length ≤ xs.length + j ∧ Hid (us.length = xs.length + j) ∧ OwB wq bk S (.slice a us.length c) ∧ Hid (us = xs ++ rowR N (A.take j) y) ∧
            wq.ownsRow (bk + 1) 2 1 (.slice a us.length c) us.length ((ups us).map (Value.int .i64)) ∧ Ext w1 wq ∧ bk + 1 ≤ wq.heap.size) (fun i _ => A.length - (intOf i).toNat)
        case atStart => exact ⟨0, c, a, xs, Nat.zero_le _, rfl, Nat.le_refl _, rfl, ob10, by show _ = _; simp [rowR], own0, Z0, hsz0⟩
        case round =>
          clear ob10 own0 Z0 hsz0 Z hsz
          obtain ⟨j, c, a, us, hj, rfl, hul, HUL, ob1, HUS, own, Z, hsz⟩ := hrel
          by_cases hlt2 : j < A.length
          · obtain ⟨b8, o8, e8, hb8, hc8⟩ := RdN_at (RA.out _ (X.trans Z)) hlt2
            subst e8
            obtain ⟨b9', o9', e9, hb9, hc9⟩ := HC2.out _ Z
            cases e9
            rw [← HYY.out] at hc9
            have hsmx := HSA.out _ (List.getElem_mem hlt2)
            have htk := HTA.out y j hlt2
            obtain ⟨x, hxx⟩ : ∃ x, x = A[j] := ⟨_, rfl⟩
            rw [← hxx] at hc8 hsmx htk
            rw [← HTT.out] at htk
            obtain ⟨u, hu⟩ : ∃ u, u = x + t := ⟨_, rfl⟩
            rw [← hu] at htk
            have huI : (x : Int) + (t : Int) = (u : Int) := by omega
            have hub : u ≤ 1049600 := by omega
            have huw : IntKind.i64.wrap (u : Int) = (u : Int) := IntWalk.i64_in _ (by omega)
            have HNX : Hid (us ++ [u] = xs ++ rowR N (A.take (j + 1)) y) := by show _ = _; rw [HUS.out, htk, List.append_assoc]
            have hji : (j : Int) < (A.length : Int) := by omega
            obtain ⟨k0, k1⟩ := (b1.ext Z).two
            obtain ⟨k2, k3⟩ := (b2.ext Z).two
            obtain ⟨k4, k5, -, -, hb3⟩ := ob1.two
            have hb1 := (b1.ext Z).1
            have hb2 := (b2.ext Z).1
            clear hxx hu htk
            go_wp2_with fail
            refine wp_region_rel 17 (fun _ _ => True) (fun _ _ _ => True) (by kernel_rfl) (by kernel_rfl) (by kernel_rfl) ?_
            dsimp only [List.take, List.drop, List.length]
            refine LX_det (.pointer (some ⟨bk, 1, none⟩)) (by kernel_rfl) rfl (fun w' hx _ => ?_) ?_
            · go_simp
            refine LX_det (.slice a us.length c) (by kernel_rfl) rfl (fun w' hx _ => ?_) ?_
            · have m0 := (Below.cell hx (p := ⟨bk, 1, none⟩) hb3).trans k5
              go_simp
            refine LX_det (.pointer (some ⟨w.heap.size, 1, none⟩)) (by kernel_rfl) rfl (fun w' hx _ => ?_) ?_
            · go_simp
            refine LX_det (.slice (some ⟨b8, o8, none⟩) A.length c1) (by kernel_rfl) rfl (fun w' hx _ => ?_) ?_
            · have m0 := (Below.cell hx (p := ⟨w.heap.size, 1, none⟩) hb1).trans k1
              go_simp
            refine LX_det (.int .i64 j) (by kernel_rfl) rfl (fun w' hx _ => ?_) ?_
            · go_simp
            refine LX_det (.pointer (some ⟨b8, o8 + j, none⟩)) (by kernel_rfl) rfl (fun w' hx _ => ?_) ?_
            · go_simp
            refine LX_det (.int .i64 x) (by kernel_rfl) rfl (fun w' hx _ => ?_) ?_
            · have m0 := (Below.cell hx (p := ⟨b8, o8 + j, none⟩) hb8).trans hc8
              go_simp
            refine LX_det (.pointer (some ⟨w.heap.size + 1, 1, none⟩)) (by kernel_rfl) rfl (fun w' hx _ => ?_) ?_
            · go_simp
            refine LX_det (.slice (some ⟨b9, o9, none⟩) B.length c2) (by kernel_rfl) rfl (fun w' hx _ => ?_) ?_
            · have m0 := (Below.cell hx (p := ⟨w.heap.size + 1, 1, none⟩) hb2).trans k3
              go_simp
            refine LX_det (.int .i64 k) (by kernel_rfl) rfl (fun w' hx _ => ?_) ?_
            · go_simp
            refine LX_det (.pointer (some ⟨b9, o9 + k, none⟩)) (by kernel_rfl) rfl (fun w' hx _ => ?_) ?_
            · go_simp
            refine LX_det (.int .i64 y) (by kernel_rfl) rfl (fun w' hx _ => ?_) ?_
            · have m0 := (Below.cell hx (p := ⟨b9, o9 + k, none⟩) hb9).trans hc9
              go_simp
            refine LX_det (.pointer (some ⟨w.heap.size, 0, none⟩)) (by kernel_rfl) rfl (fun w' hx _ => ?_) ?_
            · go_simp
            refine LX_det (.int .i64 P) (by kernel_rfl) rfl (fun w' hx _ => ?_) ?_
            · have m0 := (Below.cell hx (p := ⟨w.heap.size, 0, none⟩) hb1).trans k0
              go_simp
            refine LX_det (.int .i64 t) (by kernel_rfl) rfl (fun w' hx _ => ?_) ?_
            · go_simp
            refine LX_det (.int .i64 u) (by kernel_rfl) rfl (fun w' hx _ => ?_) ?_
            · go_simp
            refine LX_build [.int .i64 u] 2 1 (by kernel_rfl) rfl (fun w' hx => ?_) ?_
            · go_simp
            intro B8 hB8
            refine LX_nil fun w6 hx hg => ?_
            have hNw := ((hg 56).2 rfl : NewS _ _ _ _ _ _).bx
            clear hg
            simp only [Act.put, List.setIfInBounds_toArray, List.set_cons_succ, List.set_cons_zero]
            have X6 : Ext w1 w6 := Z.trans hx
            have own6 := own_ext own hx
            have BX : Below (bk + 1) wr w6 := Below.mono hx hsz
            have hsz6 : bk + 1 ≤ w6.heap.size := Nat.le_trans hsz hx.size
            clear own k0 k1 k2 k3 k4 k5
            refine wpList_push infoI64 rfl Try.underlying25 rfl rfl rfl own6 rfl hNw.one rfl (by omega) (by decide) hsz6 ?_
            intro g2 cap2 w8 hg2 own2 bel2 sz2
            have BB := bel2 wr BX
            have ob8 := ob1.below BB (Nat.lt_succ_self _)
            have Z8 : Ext w1 w8 := Below.trans Z (Below.mono BB (by omega))
            obtain ⟨k2, k3, f2, f3, z4'⟩ := ob8.two
            clear BB bel2 hNw own6 BX
            simp only [Act.put, List.setIfInBounds_toArray, List.set_cons_succ, List.set_cons_zero]
            go_wp2_with fail
            go_roundw
            case rel =>
              refine ⟨j + 1, cap2, some ⟨g2, 0, none⟩, us ++ [u], by omega, by go_num, by simp; omega, by show _ = _; simp; have := HUL.out; omega, ?_, HNX, ?_, Below.setCell Z8 hbk1 _, by have h9 := sz2; simp; omega⟩
              · rw [List.length_append]; exact ob8.set
              · rw [ups_append, List.map_append, List.length_append]
                exact ownsRow_setCell_other own2 (by simp [Value.ownBlock]; omega) _
            case measure => simp [intOf]; omega
          · obtain rfl : j = A.length := by omega
            have HNX : Hid (us = (B.take (k + 1)).flatMap (rowR N A)) := by show _ = _; rw [HUS.out, HTK.out, HXS.out, List.take_length]
            go_wp2_with fail
            go_roundw
            case rel => exact ⟨k + 1, c, a, us, by omega, by go_num, by omega, by show _ = _; have h1 := HUL.out; have h2 := HXL.out; rw [Nat.succ_mul]; omega, ob1, HNX, own, Z, hsz⟩
            case measure => simp [intOf]; omega
      · obtain rfl : k = B.length := by omega
        have HXE : Hid (xs = L) := by show _ = _; rw [HXS.out, HDEF.out, List.take_length]
        have HO : Hid (serO (P : Int) (Q : Int) zs ys = sysO (S : Int) (ups xs)) := by show _ = _; rw [HO0.out, HXE.out]
        have hx0 : 0 < xs.length := by rw [HXE.out, HLL.out]; exact Nat.mul_pos hlb0 hla0
        obtain ⟨g, cap, e1, -⟩ := Lib.holds_of_ownsRow own (by intro e; injection e with _ h9 _; omega)
        cases e1
        have own1 : wr.ownsRow (bk + 1) 2 1 (.slice (some ⟨g, 0, none⟩) (ups xs).length c) (ups xs).length ((ups xs).map (Value.int .i64)) := by rw [ups_len]; exact own
        have HG := Lib.hid (l03Give_any (S : Int) (bk + 1) g c (ups xs) wr own1)
        rw [ups_len] at HG
        obtain ⟨k0, k1, f0, f1, z2⟩ := ob1.two
        obtain ⟨k2, k3⟩ := (b2.ext Z).two
        clear own ob1 HXL hx0
        go_wp2_with fail
        refine HG.out.mono ?_
        intro e w5 h3
        have h2 := h3.ys Z (World.ownsRow.mono own1 hbk2)
        generalize sysO (S : Int) (ups xs) = oo at *
        clear h3 HG own1 k0 k1 k2 k3 HO0 f0 f1 z2
        obtain ⟨hxY, h2⟩ := h2
        replace bz := bz.ext hxY
        replace X := X.trans hxY
        obtain ⟨k0, k1⟩ := bz.bx.two
        have z2' := bz.lt
        have f0 := bz.frozen (j := 0)
        have f1 := bz.frozen (j := 1)
        clear bz
        cases oo with
        | none =>
          simp only at h2
          subst h2
          go_wp2_with fail
          refine bodyPost_ret (v := .tuple #[.agg #[.int .i64 0, .slice none 0 0], .bool false]) (by simp [results, Try.results20, go_sem, k0, k1, f0, f1]) rfl ?_
          unfold YsPost
          rw [HO.out]
          exact ⟨(X.setCell hle1 _).setCell hle1 _, rfl⟩
        | some q =>
          obtain ⟨g3, cap3, rfl, own3⟩ := h2
          obtain ⟨p0, qs⟩ := q
          have hgl := own3.lt g3 rfl
          simp only at own3 hgl
          simp only
          go_wp2_with fail
          refine bodyPost_ret (v := .tuple #[.agg #[.int .i64 p0, .slice (some ⟨g3, 0, none⟩) qs.length cap3], .bool true]) (by simp [results, Try.results20, go_sem, k0, k1, f0, f1]) rfl ?_
          unfold YsPost
          rw [HO.out]
          refine ⟨(X.setCell hle1 _).setCell hle1 _, g3, cap3, rfl, ?_⟩
          exact World.ownsRow.mono (ownsRow_setCell_other (ownsRow_setCell_other own3 (by simp [Value.ownBlock]; omega) _) (by simp [Value.ownBlock]; omega) _) (by omega)
end Go.Proofs.Ytgmdoboeenpjpaa
