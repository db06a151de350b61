
/- Two systems beside each other: the sets. Plain laws. -/
import Derived.Test.YtgmdoboeenpjpaaYN
import Derived.Test.YtgmdoboeenpjpaaZf
namespace Go.Proofs.Ytgmdoboeenpjpaa
open Go Go.RowKit Go.ChangeShapes Go.WideShapes Go.ChangeAt

/-- The sets of parts of one system, behind those of another one of a parts. -/
def shL (a : Nat) (B : List Nat) : List Nat := B.map fun q => q * 2 ^ a
def beL (a : Nat) (A B : List Nat) : List Nat := A ++ shL a B
theorem shL_len (a : Nat) (B : List Nat) : (shL a B).length = B.length := by simp [shL]
theorem testBit_sh (q a i : Nat) : (q * 2 ^ a).testBit i = (decide (a ≤ i) && q.testBit (i - a)) := by
  rw [← Nat.shiftLeft_eq, Nat.testBit_shiftLeft]
theorem hasB_sh {a b c : Nat} (h : hasB (b * 2 ^ a) (c * 2 ^ a) = true) : hasB b c = true := hasB_bits.2 fun i hi => by
  have := hasB_bits.1 h (i + a) (by rw [testBit_sh]; simp [hi])
  rw [testBit_sh] at this
  simpa using this
theorem low_bit {q a : Nat} (h1 : 1 ≤ q) (h2 : q < 2 ^ a) : ∃ i, i < a ∧ q.testBit i = true := by
  obtain ⟨i, hi⟩ := Nat.exists_testBit_of_ne_zero (show q ≠ 0 by omega)
  refine ⟨i, ?_, hi⟩
  rcases Nat.lt_or_ge i a with h | h
  · exact h
  · have := Nat.ge_two_pow_of_testBit hi
    have := Nat.pow_le_pow_right (show 0 < 2 by decide) h
    omega
theorem anti_iff {zs : List Nat} : anti zs = true ↔ ∀ s ∈ zs, ∀ q ∈ zs, hasB s q = true → q = s := by
  unfold anti
  rw [List.all_eq_true]
  constructor
  · intro h s hs q hq hh
    have := h s hs
    simp only [Bool.not_eq_true', List.any_eq_false, Bool.and_eq_true, bne_iff_ne, ne_eq, not_and] at this
    apply Classical.byContradiction
    intro hne
    exact this q hq hne hh
  · intro h s hs
    simp only [Bool.not_eq_true', List.any_eq_false, Bool.and_eq_true, bne_iff_ne, ne_eq, not_and]
    intro q hq hne hh
    exact hne (h s hs q hq hh)
theorem be_asc {a : Nat} {A B : List Nat} (hA : A.Pairwise (· < ·)) (hB : B.Pairwise (· < ·)) (hlt : ∀ x ∈ A, x < 2 ^ a) (hpos : ∀ x ∈ B, 1 ≤ x) : (beL a A B).Pairwise (· < ·) := by
  unfold beL shL
  have hp : 0 < 2 ^ a := Nat.pow_pos (by decide)
  refine List.pairwise_append.2 ⟨hA, ?_, ?_⟩
  · rw [List.pairwise_map]
    exact hB.imp fun h => Nat.mul_lt_mul_of_pos_right h hp
  · intro x hx y hy
    obtain ⟨q, hq, rfl⟩ := List.mem_map.1 hy
    have h1 := hlt x hx
    have h2 : 1 * 2 ^ a ≤ q * 2 ^ a := Nat.mul_le_mul_right _ (hpos q hq)
    omega
theorem be_anti {a : Nat} {A B : List Nat} (hA : anti A = true) (hB : anti B = true) (hlt : ∀ x ∈ A, 1 ≤ x ∧ x < 2 ^ a) (hpos : ∀ x ∈ B, 1 ≤ x) : anti (beL a A B) = true := by
  rw [anti_iff] at *
  unfold beL shL
  intro s hs q hq hh
  rcases List.mem_append.1 hs with hs | hs <;> rcases List.mem_append.1 hq with hq | hq
  · exact hA s hs q hq hh
  · obtain ⟨b, hb, rfl⟩ := List.mem_map.1 hq
    have h1 := hasB_le hh
    have h2 := (hlt s hs).2
    have h3 : 1 * 2 ^ a ≤ b * 2 ^ a := Nat.mul_le_mul_right _ (hpos b hb)
    omega
  · obtain ⟨b, hb, rfl⟩ := List.mem_map.1 hs
    obtain ⟨i, hi, hbit⟩ := low_bit (hlt q hq).1 (hlt q hq).2
    have := hasB_bits.1 hh i hbit
    rw [testBit_sh] at this
    simp only [Bool.and_eq_true, decide_eq_true_eq] at this
    omega
  · obtain ⟨b, hb, rfl⟩ := List.mem_map.1 hs
    obtain ⟨c, hc, rfl⟩ := List.mem_map.1 hq
    rw [hB b hb c hc (hasB_sh hh)]
theorem sysB_ups {p : Int} {zs : List Int} (h : sysB p zs = true) : (downs zs).Pairwise (· < ·) ∧ anti (downs zs) = true := by
  unfold sysB at h
  rw [Bool.and_eq_true, Bool.and_eq_true] at h
  exact ⟨asc_iff.1 h.2.1, h.2.2⟩
theorem be_least {a b : Nat} {A B : List Nat} (hA : SysN a A) (hB : SysN b B) (h1 : A.Pairwise (· < ·)) (h2 : B.Pairwise (· < ·)) (h3 : anti A = true) (h4 : anti B = true) :
    leastN (beL a A B) = beL a A B ∧ (∀ z ∈ beL a A B, z < 1048577) ∧ (beL a A B).length ≤ 128 ∧ 0 < (beL a A B).length := by
  have hlt : ∀ z ∈ beL a A B, z < 1048577 := fun z hz => by
    rcases List.mem_append.1 hz with hz | hz
    · have := hA.small z hz; omega
    · obtain ⟨q, hq, rfl⟩ := List.mem_map.1 hz
      have e1 := hB.small q hq
      have e2 := (pow10N hA.p10).2.2.2
      have : q * 2 ^ a ≤ 1024 * 1024 := Nat.mul_le_mul (by omega) e2
      omega
  refine ⟨?_, hlt, ?_, ?_⟩
  · unfold leastN
    rw [setsOf_self hlt (be_asc h1 h2 (fun x hx => hA.lt x hx) hB.pos), minL_of_anti (be_anti h3 h4 (fun x hx => ⟨hA.pos x hx, hA.lt x hx⟩) hB.pos)]
  · unfold beL; rw [List.length_append, shL_len]; have := hA.l64; have := hB.l64; omega
  · unfold beL; rw [List.length_append]; have := hA.l1; omega
def besideO (p q : Int) (zs ys : List Int) : Option (Int × List Int) := if sysB p zs && sysB q ys then sysO (p + q) (ups (beL p.toNat (downs zs) (downs ys))) else none
theorem besideO_len (p q : Int) (zs ys : List Int) : ((besideO p q zs ys).getD (0, [])).2.length ≤ 1048576 := by
  unfold besideO
  split
  · exact sysO_len _ _
  · simp
end Go.Proofs.Ytgmdoboeenpjpaa
/- BesideSystems, both sides. Condition: lists of ints that can be read. -/
namespace Go.Proofs.Ytgmdoboeenpjpaa
open Go Go.RowKit Go.ChangeShapes Go.WideShapes Go.ChangeAt

attribute [local irreducible] LX

theorem shL_take (a : Nat) (B : List Nat) {k : Nat} (h : k < B.length) : shL a (B.take (k + 1)) = shL a (B.take k) ++ [B[k] * 2 ^ a] := by
  unfold shL
  rw [List.take_succ_eq_append_getElem h, List.map_append]; rfl

set_option maxHeartbeats 8000000 in
theorem implBesideSystems_any (p q : Int) (v u : Value) (zs ys : List Int) (w : World) (r : RdI w v zs) (rb : RdI w u ys) :
    Calls Try.prog 21 #[.agg #[.int .i64 p, v], .agg #[.int .i64 q, u]] w (YsPost (besideO p q zs ys) w) := by
  have r' := r
  have rb' := rb
  obtain ⟨-, a1, c1, rfl, -, -, -, -⟩ := r
  obtain ⟨-, a2, c2, rfl, -, -, -, -⟩ := rb
  generalize hW0 : ((w.alloc (.cells #[.int .i64 p, .slice a1 zs.length c1] 27)).alloc (.cells #[.int .i64 q, .slice a2 ys.length c2] 27)).alloc (.cells #[.int .i64 0, .slice none 0 0] 27) = W0
  have X : Ext w W0 := hW0 ▸ ((Ext.alloc _ _).trans (Ext.alloc _ _)).trans (Ext.alloc _ _)
  have b1 : Bx W0 w.heap.size [.int .i64 p, .slice a1 zs.length c1] := hW0 ▸ ((Bx.new _ _ _).ext (Ext.alloc _ _)).ext (Ext.alloc _ _)
  have b2 : Bx W0 (w.heap.size + 1) [.int .i64 q, .slice a2 ys.length c2] := hW0 ▸ (Bx.new' (w.alloc (.cells #[.int .i64 p, .slice a1 zs.length c1] 27)) [.int .i64 q, .slice a2 ys.length c2] 27 (by simp)).ext (Ext.alloc _ _)
  have hbs : ((w.alloc (.cells #[.int .i64 p, .slice a1 zs.length c1] 27)).alloc (.cells #[.int .i64 q, .slice a2 ys.length c2] 27)).heap.size = w.heap.size + 2 := by simp
  have bz : Bz W0 (w.heap.size + 2) 27 [.int .i64 0, .slice none 0 0] := by rw [← hW0, ← hbs]; exact Bz.new _ _ _
  have hle1 : w.heap.size ≤ w.heap.size + 2 := by omega
  clear hbs
  have HV1 := Lib.hid (implValidSystem_any p _ zs W0 (r'.ext X))
  cases hv1 : sysB p zs
  · have HO : Hid (besideO p q zs ys = none) := by show _ = _; unfold besideO; rw [hv1]; rfl
    rw [hv1] at HV1
    clear hv1
    obtain ⟨k0, k1⟩ := b1.two
    go_enter Try.func21, Try.ntmps21
    go_wp2_with fail
    try rw [hW0]
    refine HV1.out.mono ?_
    rintro e w1 ⟨rfl, hx⟩
    clear k0 k1 hW0
    replace X := X.trans hx
    replace bz := bz.ext hx
    obtain ⟨k0, k1⟩ := bz.bx.two
    have z2 := bz.lt
    have f0 := bz.frozen (j := 0)
    have f1 := bz.frozen (j := 1)
    clear bz b1 b2
    go_wp2_with fail
    refine bodyPost_ret (v := .tuple #[.agg #[.int .i64 0, .slice none 0 0], .bool false]) (by simp [results, Try.results21, go_sem, k0, k1, f0, f1]) rfl ?_
    unfold YsPost
    rw [HO.out]
    exact ⟨(X.setCell hle1 _).setCell hle1 _, rfl⟩
  rw [hv1] at HV1
  have HV2 := Lib.hid (fun W (x : Ext w W) => implValidSystem_any q _ ys W (rb'.ext x))
  cases hv2 : sysB q ys
  · have HO : Hid (besideO p q zs ys = none) := by show _ = _; unfold besideO; rw [hv2, Bool.and_false]; rfl
    rw [hv2] at HV2
    clear hv1 hv2
    obtain ⟨k0, k1⟩ := b1.two
    go_enter Try.func21, Try.ntmps21
    go_wp2_with fail
    try rw [hW0]
    refine HV1.out.mono ?_
    rintro e w1 ⟨rfl, hx⟩
    clear k0 k1 hW0
    replace X := X.trans hx
    replace bz := bz.ext hx
    replace b2 := b2.ext hx
    clear hx
    obtain ⟨k0, k1⟩ := b2.two
    go_wp2_with fail
    refine (HV2.out _ X).mono ?_
    rintro e w2 ⟨rfl, hx⟩
    clear k0 k1
    replace X := X.trans hx
    replace bz := bz.ext hx
    obtain ⟨k0, k1⟩ := bz.bx.two
    have z2 := bz.lt
    have f0 := bz.frozen (j := 0)
    have f1 := bz.frozen (j := 1)
    clear bz b1 b2
    go_wp2_with fail
    refine bodyPost_ret (v := .tuple #[.agg #[.int .i64 0, .slice none 0 0], .bool false]) (by simp [results, Try.results21, go_sem, k0, k1, f0, f1]) rfl ?_
    unfold YsPost
    rw [HO.out]
    exact ⟨(X.setCell hle1 _).setCell hle1 _, rfl⟩
  · rw [hv2] at HV2
    obtain ⟨s1, hp, hz⟩ := SysN.of (sys_good' hv1)
    obtain ⟨s2, hq, hy⟩ := SysN.of (sys_good' hv2)
    obtain ⟨o1, o2⟩ := sysB_ups hv1
    obtain ⟨o3, o4⟩ := sysB_ups hv2
    have HO0 : Hid (besideO p q zs ys = sysO (p + q) (ups (beL p.toNat (downs zs) (downs ys)))) := by show _ = _; unfold besideO; rw [hv1, hv2]; rfl
    obtain ⟨P, hP⟩ : ∃ P, P = p.toNat := ⟨_, rfl⟩
    obtain ⟨Q, hQ⟩ : ∃ Q, Q = q.toNat := ⟨_, rfl⟩
    rw [← hP] at s1 hp HO0
    rw [← hQ] at s2 hq
    subst hp
    subst hq
    have hp1 := s1.p1
    have hp10 := s1.p10
    have hq10 := s2.p10
    obtain ⟨m1, m2, m3, m4⟩ := be_least s1 s2 o1 o3 o2 o4
    have HIF := Lib.hid (fun W u (r : RdI W u (ups (beL P (downs zs) (downs ys)))) => ifSystem_any ((P + Q : Nat) : Int) u (beL P (downs zs) (downs ys)) W r m4 (by omega) m2)
    rw [m1] at HIF
    have HSM : Hid (∀ n ∈ downs ys, n < 1024) := s2.small
    have hla : (downs zs).length ≤ 64 := s1.l64
    have hlb : (downs ys).length ≤ 64 := s2.l64
    have hla0 : 0 < (downs zs).length := s1.l1
    have HDEF : Hid (beL P (downs zs) (downs ys) = downs zs ++ shL P (downs ys)) := rfl
    have HTK := Lib.hid (fun k (h : k < (downs ys).length) => shL_take P (downs ys) h)
    have HSL : Hid (∀ k, (shL P ((downs ys).take k)).length ≤ 64) := fun k => by rw [shL_len, List.length_take]; omega
    have RA := Lib.hid (fun W (x : Ext w W) => (by have h9 := r'.ext x; rw [hz] at h9; exact h9 : RdI W (.slice a1 (ups (downs zs)).length c1) (ups (downs zs))))
    have RB := Lib.hid (fun W (x : Ext w W) => (by have h9 := rb'.ext x; rw [hy] at h9; exact h9 : RdI W (.slice a2 (ups (downs ys)).length c2) (ups (downs ys))))
    have hzl : zs.length = (downs zs).length := (downs_len zs).symm
    have hyl : ys.length = (downs ys).length := (downs_len ys).symm
    obtain ⟨z1, z2, z3, z4⟩ := pow10N hp10
    generalize beL P (downs zs) (downs ys) = L at *
    generalize zs.length = l1 at *
    generalize ys.length = l2 at *
    subst hzl
    subst hyl
    generalize downs zs = A at *
    generalize downs ys = B at *
    rw [ups_len] at RA RB
    generalize hN : 2 ^ P = N at *
    clear hN
    have hN1 : 1 ≤ N := by omega
    clear hv1 hv2 hz hy o1 o2 o3 o4 hP hQ s1 s2 m1 m2 m3 m4 r' rb'
    obtain ⟨k0, k1⟩ := b1.two
    go_enter Try.func21, Try.ntmps21
    go_wp2_with fail
    try rw [hW0]
    refine HV1.out.mono ?_
    rintro e w1 ⟨rfl, hx⟩
    clear k0 k1 hW0
    replace X := X.trans hx
    replace bz := bz.ext hx
    replace b2 := b2.ext hx
    replace b1 := b1.ext hx
    clear hx
    obtain ⟨k0, k1⟩ := b2.two
    go_wp2_with fail
    refine (HV2.out _ X).mono ?_
    rintro e w2 ⟨rfl, hx⟩
    clear k0 k1
    replace X := X.trans hx
    replace bz := bz.ext hx
    replace b2 := b2.ext hx
    replace b1 := b1.ext hx
    clear hx
    obtain ⟨k0, k1⟩ := b1.two
    go_wp2_with fail
    refine (cloneI_any (.slice a1 A.length c1) (ups A) w2 (RA.out _ X) (by rw [ups_len]; exact hla0) (by rw [ups_len]; omega)).mono ?_
    rintro e w3 ⟨g, cap, rfl, own, hx⟩
    rw [ups_len] at own ⊢
    clear k0 k1
    have own0 : OwnS w2.heap.size w3 g cap A := own
    have X2 := X
    have bzx := bz
    have b1x := b1
    have b2x := b2
    have hx2 := hx
    clear X bz b1 b2 own
    obtain ⟨k0, k1⟩ := (b2x.ext hx).two
    go_wp2_with fail
    clear k0 k1
    go_loopw [24, 6] (fun i v wr => ∃ (k g cap : Nat) (xs : List Nat), k ≤ B.length ∧ i = .int .i64 k ∧ v = .slice (some ⟨g, 0, none⟩) xs.length cap ∧ xs.length ≤ 128 + k ∧ Hid (xs = A ++ shL P (B.take k)) ∧ OwnS w2.heap.size wr g cap xs ∧ Ext w2 wr) (fun i _ _ => B.length - (intOf i).toNat)
    case atStart => exact ⟨0, g, cap, A, Nat.zero_le _, rfl, rfl, by omega, by show _ = _; simp [shL], own0, hx2⟩
    case round =>
      clear own0
      obtain ⟨k, g, cap, xs, hk, rfl, rfl, hxl, HXS, own, Z⟩ := hrel
      by_cases hlt : k < B.length
      · obtain ⟨b9, o9, e9, hb1, hc1⟩ := RdN_at (RB.out _ (X2.trans Z)) hlt
        subst e9
        have hsm := HSM.out _ (List.getElem_mem hlt)
        have htk := HTK.out k hlt
        obtain ⟨x, hxx⟩ : ∃ x, x = B[k] := ⟨_, rfl⟩
        rw [← hxx] at hc1 hsm htk
        obtain ⟨t, ht⟩ : ∃ t, t = x * N := ⟨_, rfl⟩
        rw [← ht] at htk
        have htI : (x : Int) * (N : Int) = (t : Int) := by rw [ht]; exact_mod_cast rfl
        have htb : t ≤ 1048576 := by rw [ht]; exact Nat.mul_le_mul (Nat.le_of_lt hsm) z4
        have HNX : Hid (xs ++ [t] = A ++ shL P (B.take (k + 1))) := by show _ = _; rw [HXS.out, htk, List.append_assoc]
        have hki : (k : Int) < (B.length : Int) := by omega
        obtain ⟨k0, k1⟩ := (b1x.ext Z).two
        clear hxx ht htk
        go_wp2_with (at_builtin; refine wpList_push infoI64 rfl Try.underlying25 rfl rfl rfl (World.ownsRow.alloc (w := _) own _) rfl (Bx.new _ [_] _).one rfl (by omega) (by decide) (Z.trans (Ext.alloc _ _)).size ?_; intro g2 cap2 w4 hg2 own2 bel2 sz2)
        go_roundw
        case rel => exact ⟨k + 1, g2, cap2, xs ++ [t], by omega, by go_num, by simp, by simp; omega, HNX, by unfold OwnS; rw [ups_append, List.map_append, List.length_append]; exact own2, bel2 _ (Z.trans (Ext.alloc _ _))⟩
        case measure => simp [intOf]; omega
      · obtain rfl : k = B.length := by omega
        have HXE : Hid (xs = L) := by show _ = _; rw [HXS.out, HDEF.out, List.take_length]
        have bzr := bzx.ext Z
        obtain ⟨k0, k1⟩ := (b1x.ext Z).two
        obtain ⟨k2, k3⟩ := (b2x.ext Z).two
        have hgt : w.heap.size + 2 < wr.heap.size := bzr.lt
        have Xr := X2.trans Z
        have hrd := own.rd
        rw [HXE.out] at hrd
        have hxlen : xs.length = L.length := by rw [HXE.out]
        have hHI := HIF.out wr _ hrd
        have hPQ : (P : Int) + (Q : Int) = ((P + Q : Nat) : Int) := by omega
        have HO : Hid (besideO (P : Int) (Q : Int) zs ys = sysO ((P + Q : Nat) : Int) (ups L)) := by show _ = _; rw [HO0.out, hPQ]
        generalize sysO ((P + Q : Nat) : Int) (ups L) = oo at *
        obtain ⟨S, hS⟩ : ∃ S, S = P + Q := ⟨_, rfl⟩
        rw [← hS] at hPQ hHI
        have HHI := Lib.hid hHI
        clear hHI hrd hS HO0
        go_wp2_with fail
        refine HHI.out.mono ?_
        intro e w5 h2
        obtain ⟨hxY, h2⟩ := h2
        replace bzr := bzr.ext hxY
        have hszY := Xr.size
        have X := Xr.trans hxY
        clear k0 k1
        obtain ⟨k0, k1⟩ := bzr.bx.two
        have z2' := bzr.lt
        have f0 := bzr.frozen (j := 0)
        have f1 := bzr.frozen (j := 1)
        clear bzr k2 k3
        cases oo with
        | none =>
          simp only at h2
          subst h2
          go_wp2_with fail
          refine bodyPost_ret (v := .tuple #[.agg #[.int .i64 0, .slice none 0 0], .bool false]) (by simp [results, Try.results21, go_sem, k0, k1, f0, f1]) rfl ?_
          unfold YsPost
          rw [HO.out]
          exact ⟨(X.setCell hle1 _).setCell hle1 _, rfl⟩
        | some q =>
          obtain ⟨g3, cap3, rfl, own3⟩ := h2
          obtain ⟨p0, qs⟩ := q
          have hgl := own3.lt g3 rfl
          simp only at own3 hgl
          simp only
          go_wp2_with fail
          refine bodyPost_ret (v := .tuple #[.agg #[.int .i64 p0, .slice (some ⟨g3, 0, none⟩) qs.length cap3], .bool true]) (by simp [results, Try.results21, go_sem, k0, k1, f0, f1]) rfl ?_
          unfold YsPost
          rw [HO.out]
          refine ⟨(X.setCell hle1 _).setCell hle1 _, g3, cap3, rfl, ?_⟩
          exact World.ownsRow.mono (ownsRow_setCell_other (ownsRow_setCell_other own3 (by simp [Value.ownBlock]; omega) _) (by simp [Value.ownBlock]; omega) _) hszY

def twoB (p q : Int) (zs ys : List Int) : Bool := sysB p zs && sysB q ys && decide (p + q ≤ 10)

set_option maxRecDepth 100000 in
set_option maxHeartbeats 4000000 in
theorem l03Two_any (p q : Int) (v u : Value) (zs ys : List Int) (b1 b2 : Nat) (w : World) (x1 : Bx w b1 [.int .i64 p, v]) (x2 : Bx w b2 [.int .i64 q, u]) (r : RdI w v zs) (rb : RdI w u ys) :
    Calls Try.prog 65 #[.pointer (some ⟨b1, 0, none⟩), .pointer (some ⟨b2, 0, none⟩)] w fun e w' => e = .returned (.bool (twoB p q zs ys)) ∧ Ext w w' := by
  have H1 := Lib.hid (fun W (x : Ext w W) => l03Is_sys p v zs b1 W (x1.ext x) (r.ext x))
  have H2 := Lib.hid (fun W (x : Ext w W) => l03Is_sys q u ys b2 W (x2.ext x) (rb.ext x))
  cases hv1 : sysB p zs
  · have HF : Hid (twoB p q zs ys = false) := by show _ = _; unfold twoB; rw [hv1]; rfl
    rw [hv1] at H1
    clear hv1 H2
    go_enter Try.func65, Try.ntmps65
    go_wp2_with fail
    refine wp_region_rel 18 (fun _ v => v = .bool false) (fun _ _ _ => True) (by kernel_rfl) (by kernel_rfl) (by kernel_rfl) ?_
    dsimp only [List.take, List.drop, List.length]
    refine LX_det (.pointer (some ⟨b1, 0, none⟩)) (by kernel_rfl) rfl (fun w' hx _ => ?_) ?_
    · go_simp
    refine LX_call (by kernel_rfl) rfl (fun _ => St.top) (fun w' hx _ => ?_) ?_
    · go_simp
      refine UponC.enter ((H1.out _ hx).mono ?_)
      rintro e w'' ⟨rfl, hx'⟩
      exact ⟨_, rfl, hx', rfl, trivial⟩
    rintro _ rfl
    refine LX_det (.bool false) (by kernel_rfl) rfl (fun w' hx _ => ?_) ?_
    · go_simp
    iterate 2 refine LX_skip (by kernel_rfl) ?_
    refine LX_det (.bool false) (by kernel_rfl) rfl (fun w' hx _ => ?_) ?_
    · go_simp
    refine LX_det (.bool false) (by kernel_rfl) rfl (fun w' hx _ => ?_) ?_
    · go_simp
    iterate 10 refine LX_skip (by kernel_rfl) ?_
    refine LX_det (.bool false) (by kernel_rfl) rfl (fun w' hx _ => ?_) ?_
    · go_simp
    refine LX_nil fun w2 hx _ => ?_
    simp only [Act.put, List.setIfInBounds_toArray, List.set_cons_succ, List.set_cons_zero]
    go_wp2_with fail
    go_ret
    exact ⟨ret_bool HF.out.symm, hx⟩
  rw [hv1] at H1
  cases hv2 : sysB q ys
  · have HF : Hid (twoB p q zs ys = false) := by show _ = _; unfold twoB; rw [hv1, hv2]; rfl
    rw [hv2] at H2
    clear hv1 hv2
    go_enter Try.func65, Try.ntmps65
    go_wp2_with fail
    refine wp_region_rel 18 (fun i v => v = .bool (i == 1)) (fun _ _ _ => True) (by kernel_rfl) (by kernel_rfl) (by kernel_rfl) ?_
    dsimp only [List.take, List.drop, List.length]
    refine LX_det (.pointer (some ⟨b1, 0, none⟩)) (by kernel_rfl) rfl (fun w' hx _ => ?_) ?_
    · go_simp
    refine LX_call (by kernel_rfl) rfl (fun _ => St.top) (fun w' hx _ => ?_) ?_
    · go_simp
      refine UponC.enter ((H1.out _ hx).mono ?_)
      rintro e w'' ⟨rfl, hx'⟩
      exact ⟨_, rfl, hx', rfl, trivial⟩
    rintro _ rfl
    refine LX_det (.bool true) (by kernel_rfl) rfl (fun w' hx _ => ?_) ?_
    · go_simp
    refine LX_det (.pointer (some ⟨b2, 0, none⟩)) (by kernel_rfl) rfl (fun w' hx _ => ?_) ?_
    · go_simp
    refine LX_call (by kernel_rfl) rfl (fun _ => St.top) (fun w' hx _ => ?_) ?_
    · go_simp
      refine UponC.enter ((H2.out _ hx).mono ?_)
      rintro e w'' ⟨rfl, hx'⟩
      exact ⟨_, rfl, hx', rfl, trivial⟩
    rintro _ rfl
    refine LX_det (.bool false) (by kernel_rfl) rfl (fun w' hx _ => ?_) ?_
    · go_simp
    refine LX_det (.bool false) (by kernel_rfl) rfl (fun w' hx _ => ?_) ?_
    · go_simp
    iterate 10 refine LX_skip (by kernel_rfl) ?_
    refine LX_det (.bool false) (by kernel_rfl) rfl (fun w' hx _ => ?_) ?_
    · go_simp
    refine LX_nil fun w2 hx _ => ?_
    simp only [Act.put, List.setIfInBounds_toArray, List.set_cons_succ, List.set_cons_zero]
    go_wp2_with fail
    go_ret
    exact ⟨ret_bool HF.out.symm, hx⟩
  · have HF : Hid (twoB p q zs ys = decide (p + q ≤ 10)) := by show _ = _; unfold twoB; rw [hv1, hv2]; rfl
    rw [hv2] at H2
    obtain ⟨s1, hp, -⟩ := SysN.of (sys_good' hv1)
    obtain ⟨s2, hq, -⟩ := SysN.of (sys_good' hv2)
    have hp10 := s1.p10
    have hq10 := s2.p10
    have hw : IntKind.i64.wrap (p + q) = p + q := IntWalk.i64_in _ (by omega)
    clear hv1 hv2 s1 s2 hp hq hp10 hq10
    obtain ⟨k0, -⟩ := x1.two
    obtain ⟨k2, -⟩ := x2.two
    have hb1 := x1.1
    have hb2 := x2.1
    go_enter Try.func65, Try.ntmps65
    go_wp2_with fail
    refine wp_region_rel 18 (fun _ v => v = .bool true) (fun _ _ _ => True) (by kernel_rfl) (by kernel_rfl) (by kernel_rfl) ?_
    dsimp only [List.take, List.drop, List.length]
    refine LX_det (.pointer (some ⟨b1, 0, none⟩)) (by kernel_rfl) rfl (fun w' hx _ => ?_) ?_
    · go_simp
    refine LX_call (by kernel_rfl) rfl (fun _ => St.top) (fun w' hx _ => ?_) ?_
    · go_simp
      refine UponC.enter ((H1.out _ hx).mono ?_)
      rintro e w'' ⟨rfl, hx'⟩
      exact ⟨_, rfl, hx', rfl, trivial⟩
    rintro _ rfl
    refine LX_det (.bool true) (by kernel_rfl) rfl (fun w' hx _ => ?_) ?_
    · go_simp
    refine LX_det (.pointer (some ⟨b2, 0, none⟩)) (by kernel_rfl) rfl (fun w' hx _ => ?_) ?_
    · go_simp
    refine LX_call (by kernel_rfl) rfl (fun _ => St.top) (fun w' hx _ => ?_) ?_
    · go_simp
      refine UponC.enter ((H2.out _ hx).mono ?_)
      rintro e w'' ⟨rfl, hx'⟩
      exact ⟨_, rfl, hx', rfl, trivial⟩
    rintro _ rfl
    refine LX_det (.bool true) (by kernel_rfl) rfl (fun w' hx _ => ?_) ?_
    · go_simp
    refine LX_det (.bool true) (by kernel_rfl) rfl (fun w' hx _ => ?_) ?_
    · go_simp
    refine LX_det (.pointer (some ⟨b1, 0, none⟩)) (by kernel_rfl) rfl (fun w' hx _ => ?_) ?_
    · go_simp
    refine LX_det (.pointer (some ⟨b1, 0, none⟩)) (by kernel_rfl) rfl (fun w' hx _ => ?_) ?_
    · go_simp
    refine LX_det (.pointer (some ⟨b1, 0, none⟩)) (by kernel_rfl) rfl (fun w' hx _ => ?_) ?_
    · go_simp
    refine LX_det (.int .i64 p) (by kernel_rfl) rfl (fun w' hx _ => ?_) ?_
    · have m0 := (Below.cell hx (p := ⟨b1, 0, none⟩) hb1).trans k0
      go_simp
    refine LX_det (.pointer (some ⟨b2, 0, none⟩)) (by kernel_rfl) rfl (fun w' hx _ => ?_) ?_
    · go_simp
    refine LX_det (.pointer (some ⟨b2, 0, none⟩)) (by kernel_rfl) rfl (fun w' hx _ => ?_) ?_
    · go_simp
    refine LX_det (.pointer (some ⟨b2, 0, none⟩)) (by kernel_rfl) rfl (fun w' hx _ => ?_) ?_
    · go_simp
    refine LX_det (.int .i64 q) (by kernel_rfl) rfl (fun w' hx _ => ?_) ?_
    · have m0 := (Below.cell hx (p := ⟨b2, 0, none⟩) hb2).trans k2
      go_simp
    refine LX_det (.int .i64 (p + q)) (by kernel_rfl) rfl (fun w' hx _ => ?_) ?_
    · go_simp
    refine LX_det (.bool (decide (p + q ≤ 10))) (by kernel_rfl) rfl (fun w' hx _ => ?_) ?_
    · go_simp
    refine LX_det (.bool (decide (p + q ≤ 10))) (by kernel_rfl) rfl (fun w' hx _ => ?_) ?_
    · go_simp
    refine LX_nil fun w2 hx _ => ?_
    simp only [Act.put, List.setIfInBounds_toArray, List.set_cons_succ, List.set_cons_zero]
    go_wp2_with fail
    go_ret
    exact ⟨ret_bool HF.out.symm, hx⟩

/-- append of a list that can be read to an empty slice, in a region that draws its order. -/
theorem LX_app0 {P : Program} {ops : Array Oper} {w0 : World} {SC : Nat → Value → Prop} {AC : Nat → Value → World → Prop} {Q : Act → World → Prop} {i : Nat} {o : Oper} {rest : List Oper} {Γ : Tmp → World → Prop} {a : Act} {s x : Operand} {t e : TypeId} {z sv : Value} {bytes b m : Nat} {xs : List Value}
    (hinfo : (P.info? e).map (fun i => (i.zero, i.size, i.bytes)) = some (some z, 1, bytes)) (hz : z.cells.size = 1) (ht : P.underlying t = some (.slice e))
    (hw : Region.wanted o (yielded ops a.tmps) = true) (ho : o.op = .call { callee := .builtin .append, args := #[s, x], argTypes := #[t, t] })
    (hs : a.eval s = .slice (some ⟨b, 0, none⟩) 0 0) (hx : a.eval x = sv) (r : ∀ w, Ext w0 w → Rd 1 w sv m xs) (hm : 0 < m) (hn : m ≤ 8796093022208) (hb16 : bytes ≤ 16)
    (h : ∀ g cap, w0.heap.size ≤ g → LX P ops w0 SC AC Q (i + 1) rest (upC Γ o.dst (fun w => w.ownsRow w0.heap.size e 1 (.slice (some ⟨g, 0, none⟩) m cap) m xs)) (a.put o.dst (.slice (some ⟨g, 0, none⟩) m cap))) : LX P ops w0 SC AC Q i (o :: rest) Γ a := by
  obtain ⟨ii, hi, i1, i2, i3⟩ := info_parts hinfo
  have hc : isCallB o = false := by unfold isCallB; rw [ho]
  unfold LX opR
  rw [if_pos hw, if_neg (by simp [hc])]
  refine ⟨fun v => ∃ g cap, v = .slice (some ⟨g, 0, none⟩) m cap ∧ w0.heap.size ≤ g, fun v w => w.ownsRow w0.heap.size e 1 v m xs, fun v w w' h1 h2 => own_ext h1 h2, fun w hx0 _ => ?_, ?_⟩
  · obtain ⟨hl, a1, c1, rfl, hc1, hc2, hc3, hc4⟩ := r w hx0
    obtain ⟨p, rfl⟩ : ∃ p, a1 = some p := by
      cases a1 with
      | none => have := hc3 rfl; omega
      | some p => exact ⟨p, rfl⟩
    have hr := run_append_grow (P := P) w t o.type e ii z ht hi i1 ⟨b, 0, none⟩ 0 0 [] (by simp) (by simp) p m c1 xs (by rw [i2]; exact hl) (by
        intro j u hj
        have hjl : j < m * 1 := by rw [← hl]; exact (List.getElem?_eq_some_iff.1 hj).1
        obtain ⟨g1, g2, g3⟩ := hc4 p rfl j hjl
        have hadd : p.add j = ⟨p.block, p.off + j, none⟩ := by
          obtain ⟨b, off, sp⟩ := p
          simp only at g1; subst g1
          unfold Addr.add; split <;> simp_all
        rw [hadd, g3, hj]) (by omega) (by omega) (by
        rw [Nat.zero_add, nextslicecap_zero hm, i3]
        have : m * bytes ≤ 8796093022208 * 16 := Nat.mul_le_mul hn hb16
        omega)
    have hge := grownCap_ge w (0 + m) 0 e
    have hcm : grownCap w (0 + m) 0 e ≤ maxLen := grownCap_le_maxLen w (0 + m) 0 e (by simp only [maxLen]; omega)
    have hrun : (execOp a.eval o).run P w = .ok (.value (.slice (some ⟨w.heap.size, 0, none⟩) (0 + m) (grownCap w (0 + m) 0 e)))
        (w.drew.alloc (.cells ((([] : List Value).toArray ++ xs.toArray ++ Builtin.zeroCells z.cells (grownCap w (0 + m) 0 e - (0 + m)))) e)) := by
      unfold execOp
      simp only [ho, resolve, invoke, builtin, Sem.run_bind, Sem.run_pure, Result.andThen_ok, List.map_toArray, List.map_cons, List.map_nil, hs, hx, hr]
    rw [hrun]
    generalize grownCap w (0 + m) 0 e = cap at *
    rw [Nat.zero_add] at *
    refine ⟨(Ext.drewN w 1).trans (Ext.alloc _ _), ⟨_, _, rfl, hx0.size⟩, hl, .inr ⟨w.heap.size, cap, _, rfl, hx0.size, heap_alloc_new w.drew _, hge, hcm, ?_, ?_⟩⟩
    · simp only [Array.size_append, List.size_toArray, size_zeroCells, hz, hl, List.length_nil]
      omega
    · simp only [Array.toList_append, List.nil_append]
      rw [← hl]
      exact List.take_left
  · rintro _ ⟨g, cap, rfl, hg⟩
    exact h g cap hg
theorem NewS.own {w0 w : World} {t : TypeId} {b : Nat} (h : NewS w0 [] t 0 (.slice (some ⟨b, 0, none⟩) 0 0) w) : w.ownsRow w0.heap.size t 1 (.slice (some ⟨b, 0, none⟩) 0 0) 0 [] := by
  obtain ⟨b', e, hb, h3⟩ := h
  simp at e; subst e
  exact ⟨rfl, .inr ⟨b, 0, #[], rfl, hb, h3, Nat.le_refl _, Nat.zero_le _, rfl, rfl⟩⟩
theorem ints_one (zs : List Int) : ∀ u ∈ zs.map (Value.int .i64), u.oneCell' = true := by
  intro u hu; obtain ⟨b, _, rfl⟩ := List.mem_map.1 hu; rfl
theorem beside_none {p q : Int} {zs ys : List Int} (h : twoB p q zs ys = false) : besideO p q zs ys = none := by
  unfold besideO
  cases hv : sysB p zs && sysB q ys
  · rfl
  · unfold twoB at h
    rw [hv] at h
    simp only [Bool.true_and, decide_eq_false_iff_not] at h
    rw [if_pos rfl]
    unfold sysO sysB goodI inB
    rw [if_neg]
    simp
    intro; omega

/-- A system handed back, drawn in a region. -/
def YqV (P0 : Int) (c : Bool) (v : Value) : Prop := ∃ a n k, v = .tuple #[.agg #[.int .i64 P0, .slice a n k], .bool c]
def YqW (B : Nat) (P0 : Int) (c : Bool) (zs : List Int) (v : Value) (w : World) : Prop := ∀ s, v = .tuple #[.agg #[.int .i64 P0, s], .bool c] → ∃ T, B ≤ B ∧ OwZ B T w s zs
theorem YqW.st (B : Nat) (P0 : Int) (c : Bool) (zs : List Int) (v : Value) : St (YqW B P0 c zs v) := fun _ _ h hx s e => by
  obtain ⟨T, h1, h2⟩ := h s e
  exact ⟨T, h1, h2.ext hx⟩
theorem OwZ.base {B B' T : Nat} {w : World} {v : Value} {zs : List Int} (h : OwZ B T w v zs) (hb : B' ≤ B) : OwZ B' T w v zs := by
  rcases h with h | ⟨g, cap, rfl, h1, own⟩
  · exact .inl h
  · exact .inr ⟨g, cap, rfl, h1, World.ownsRow.mono own hb⟩
theorem yqPost {o : Option (Int × List Int)} {P0 : Int} {zz : List Int} {B : Nat} {w w' : World} {e : Ending} (hP : (o.getD (0, [])).1 = P0) (hZ : (o.getD (0, [])).2 = zz) (h : YsPost o w e w') (hB : B ≤ w.heap.size) :
    ∃ v, e = .returned v ∧ Ext w w' ∧ YqV P0 o.isSome v ∧ YqW B P0 o.isSome zz v w' := by
  obtain ⟨vs, rfl, os, hx⟩ := ysPost_own h
  rw [hP, hZ] at *
  obtain ⟨a, n, c, rfl⟩ := os.shape
  refine ⟨_, rfl, hx, ⟨a, n, c, rfl⟩, fun s e => ?_⟩
  injection e with e1
  simp at e1
  subst e1
  exact ⟨_, Nat.le_refl _, os.base hB⟩
theorem Bz.set {w : World} {b : Nat} {t : TypeId} {cs : List Value} (h : Bz w b t cs) (j : Nat) (u : Value) : Bz (w.setCell ⟨b, j, none⟩ u) b t (cs.set j u) := by
  have := heap_setCell_same w b j _ _ u h
  unfold Bz
  rw [this]
  simp
theorem OwZ.setBox {B T b : Nat} {w : World} {v : Value} {zs : List Int} {cs : List Value} (h : OwZ B T w v zs) (hb : Bz w b 27 cs) (j : Nat) (u : Value) : OwZ B T (w.setCell ⟨b, j, none⟩ u) v zs := by
  rcases h with h | ⟨g, cap, rfl, h1, own⟩
  · exact .inl h
  · have hne : g ≠ b := own_ne own hb (by decide)
    exact .inr ⟨g, cap, rfl, h1, ownsRow_setCell_other own (by simpa [Value.ownBlock] using hne) _⟩

end Go.Proofs.Ytgmdoboeenpjpaa
/- Two systems one behind the other: the sets. Plain laws. -/
namespace Go.Proofs.Ytgmdoboeenpjpaa
open Go Go.RowKit Go.ChangeShapes Go.WideShapes Go.ChangeAt

def rowC (N : Nat) (B : List Nat) (p : Nat) : List Nat := B.map fun q => p + q * N
def rowR (N : Nat) (A : List Nat) (q : Nat) : List Nat := A.map fun p => p + q * N
/-- The program's list: the first system's sets without. -/
def chI (N : Nat) (A B : List Nat) : List Nat := A.flatMap (rowC N B)
/-- The reference's list: the second system's sets without. -/
def chL (N : Nat) (A B : List Nat) : List Nat := B.flatMap (rowR N A)
theorem rowC_len (N : Nat) (B : List Nat) (p : Nat) : (rowC N B p).length = B.length := by simp [rowC]
theorem rowR_len (N : Nat) (A : List Nat) (p : Nat) : (rowR N A p).length = A.length := by simp [rowR]
theorem flat_len {n : Nat} (f : Nat → List Nat) (hf : ∀ x, (f x).length = n) : ∀ xs : List Nat, (xs.flatMap f).length = xs.length * n
  | [] => by simp
  | x :: xs => by rw [List.flatMap_cons, List.length_append, flat_len f hf xs, hf, List.length_cons, Nat.succ_mul]; omega
theorem chI_len (N : Nat) (A B : List Nat) : (chI N A B).length = A.length * B.length := flat_len _ (rowC_len N B) A
theorem chL_len (N : Nat) (A B : List Nat) : (chL N A B).length = B.length * A.length := flat_len _ (rowR_len N A) B
theorem flat_take (f : Nat → List Nat) (xs : List Nat) {k : Nat} (h : k < xs.length) : (xs.take (k + 1)).flatMap f = (xs.take k).flatMap f ++ f xs[k] := by
  rw [List.take_succ_eq_append_getElem h, List.flatMap_append]; simp
theorem rowC_take (N : Nat) (B : List Nat) (p : Nat) {k : Nat} (h : k < B.length) : rowC N (B.take (k + 1)) p = rowC N (B.take k) p ++ [p + B[k] * N] := by
  unfold rowC; rw [List.take_succ_eq_append_getElem h, List.map_append]; rfl
theorem rowR_take (N : Nat) (A : List Nat) (q : Nat) {k : Nat} (h : k < A.length) : rowR N (A.take (k + 1)) q = rowR N (A.take k) q ++ [A[k] + q * N] := by
  unfold rowR; rw [List.take_succ_eq_append_getElem h, List.map_append]; rfl
theorem mem_chI {N : Nat} {A B : List Nat} {s : Nat} : s ∈ chI N A B ↔ ∃ p ∈ A, ∃ q ∈ B, s = p + q * N := by
  unfold chI rowC
  rw [List.mem_flatMap]
  constructor
  · rintro ⟨p, hp, h⟩
    obtain ⟨q, hq, rfl⟩ := List.mem_map.1 h
    exact ⟨p, hp, q, hq, rfl⟩
  · rintro ⟨p, hp, q, hq, rfl⟩
    exact ⟨p, hp, List.mem_map.2 ⟨q, hq, rfl⟩⟩
theorem mem_chL {N : Nat} {A B : List Nat} {s : Nat} : s ∈ chL N A B ↔ ∃ p ∈ A, ∃ q ∈ B, s = p + q * N := by
  unfold chL rowR
  rw [List.mem_flatMap]
  constructor
  · rintro ⟨q, hq, h⟩
    obtain ⟨p, hp, rfl⟩ := List.mem_map.1 h
    exact ⟨p, hp, q, hq, rfl⟩
  · rintro ⟨p, hp, q, hq, rfl⟩
    exact ⟨q, hq, List.mem_map.2 ⟨p, hp, rfl⟩⟩
theorem chL_asc {N : Nat} {A : List Nat} (hA : A.Pairwise (· < ·)) (hlt : ∀ x ∈ A, x < N) : ∀ {B : List Nat}, B.Pairwise (· < ·) → (chL N A B).Pairwise (· < ·)
  | [], _ => by simp [chL]
  | q :: B, h => by
    obtain ⟨h1, h2⟩ := List.pairwise_cons.1 h
    have ih := chL_asc hA hlt h2
    unfold chL at *
    rw [List.flatMap_cons]
    refine List.pairwise_append.2 ⟨?_, ih, ?_⟩
    · unfold rowR; rw [List.pairwise_map]; exact hA.imp fun h => by omega
    · intro x hx y hy
      obtain ⟨p, hp, rfl⟩ := List.mem_map.1 hx
      obtain ⟨q', hq', hy⟩ := List.mem_flatMap.1 hy
      obtain ⟨p', hp', rfl⟩ := List.mem_map.1 hy
      have e1 := hlt p hp
      have e2 : (q + 1) * N ≤ q' * N := Nat.mul_le_mul_right _ (h1 q' hq')
      have e3 : (q + 1) * N = q * N + N := Nat.succ_mul q N
      omega
theorem bit_ch {p q a : Nat} (h : p < 2 ^ a) (j : Nat) : (p + q * 2 ^ a).testBit j = if j < a then p.testBit j else q.testBit (j - a) := by
  rw [Nat.add_comm, Nat.mul_comm]; exact Nat.testBit_two_pow_mul_add q h j
theorem chL_anti {a : Nat} {A B : List Nat} (hA : anti A = true) (hB : anti B = true) (hlt : ∀ x ∈ A, x < 2 ^ a) : anti (chL (2 ^ a) A B) = true := by
  rw [anti_iff] at *
  intro s hs s' hs' hh
  obtain ⟨p, hp, q, hq, rfl⟩ := mem_chL.1 hs
  obtain ⟨p', hp', q', hq', rfl⟩ := mem_chL.1 hs'
  have hb := hasB_bits.1 hh
  have e1 : p' = p := hA p hp p' hp' (hasB_bits.2 fun i hi => by
    have hia : i < a := by
      rcases Nat.lt_or_ge i a with h | h
      · exact h
      · have h1 := Nat.ge_two_pow_of_testBit hi
        have h2 := Nat.pow_le_pow_right (show 0 < 2 by decide) h
        have := hlt p' hp'
        omega
    have := hb i (by rw [bit_ch (hlt p' hp'), if_pos hia]; exact hi)
    rw [bit_ch (hlt p hp), if_pos hia] at this
    exact this)
  have e2 : q' = q := hB q hq q' hq' (hasB_bits.2 fun i hi => by
    have := hb (i + a) (by rw [bit_ch (hlt p' hp'), if_neg (by omega), Nat.add_sub_cancel]; exact hi)
    rw [bit_ch (hlt p hp), if_neg (by omega), Nat.add_sub_cancel] at this
    exact this)
  rw [e1, e2]
theorem ch_or {p q a : Nat} (h : p < 2 ^ a) : p ||| (q * 2 ^ a) = p + q * 2 ^ a := by
  apply Nat.eq_of_testBit_eq
  intro i
  rw [Nat.testBit_or, bit_ch h, testBit_sh]
  by_cases hi : i < a
  · simp [hi, show ¬ a ≤ i by omega]
  · have : p.testBit i = false := Nat.testBit_lt_two_pow (Nat.lt_of_lt_of_le h (Nat.pow_le_pow_right (by decide) (by omega)))
    simp [hi, this, show a ≤ i by omega]
theorem ch_least {a b : Nat} {A B : List Nat} (hA : SysN a A) (hB : SysN b B) (h1 : A.Pairwise (· < ·)) (h2 : B.Pairwise (· < ·)) (h3 : anti A = true) (h4 : anti B = true) :
    leastN (chI (2 ^ a) A B) = chL (2 ^ a) A B ∧ (∀ z ∈ chI (2 ^ a) A B, z < 1048577) ∧ (chI (2 ^ a) A B).length ≤ 4096 ∧ 0 < (chI (2 ^ a) A B).length := by
  have hlt : ∀ z ∈ chI (2 ^ a) A B, z < 1048577 := fun z hz => by
    obtain ⟨p, hp, q, hq, rfl⟩ := mem_chI.1 hz
    have e1 := hA.small p hp
    have e2 := hB.small q hq
    have e3 := (pow10N hA.p10).2.2.2
    have : q * 2 ^ a ≤ 1023 * 1024 := Nat.mul_le_mul (by omega) e3
    omega
  have hlt' : ∀ z ∈ chL (2 ^ a) A B, z < 1048577 := fun z hz => hlt z (mem_chI.2 (mem_chL.1 hz))
  refine ⟨?_, hlt, ?_, ?_⟩
  · unfold leastN
    have : setsOf 1048577 (chI (2 ^ a) A B) = chL (2 ^ a) A B :=
      asc_ext (setsOf_asc _ _) (chL_asc h1 (fun x hx => hA.lt x hx) h2) fun x => by rw [mem_setsOf hlt, mem_chI, mem_chL]
    rw [this, minL_of_anti (chL_anti h3 h4 fun x hx => hA.lt x hx)]
  · rw [chI_len]; exact Nat.mul_le_mul hA.l64 hB.l64
  · rw [chI_len]; exact Nat.mul_pos hA.l1 hB.l1
def serO (p q : Int) (zs ys : List Int) : Option (Int × List Int) := if sysB p zs && sysB q ys then sysO (p + q) (ups (chL (2 ^ p.toNat) (downs zs) (downs ys))) else none
theorem serO_len (p q : Int) (zs ys : List Int) : ((serO p q zs ys).getD (0, [])).2.length ≤ 1048576 := by
  unfold serO
  split
  · exact sysO_len _ _
  · simp
theorem sysO_long {p : Int} {zs : List Int} (h : 64 < zs.length) : sysO p zs = none := by
  unfold sysO sysB goodI manyB
  rw [if_neg]
  simp
  intro _ h3 _
  have := inB_iff.1 h3
  omega
theorem ser_none {p q : Int} {zs ys : List Int} (h : twoB p q zs ys = false ∨ 64 < zs.length * ys.length) : serO p q zs ys = none := by
  unfold serO
  cases hv : sysB p zs && sysB q ys
  · rfl
  · rw [if_pos rfl]
    rcases h with h | h
    · unfold twoB at h
      rw [hv] at h
      simp only [Bool.true_and, decide_eq_false_iff_not] at h
      unfold sysO sysB goodI inB
      rw [if_neg]
      simp
      intro; omega
    · exact sysO_long (by rw [ups_len, chL_len, downs_len, downs_len, Nat.mul_comm]; exact h)
end Go.Proofs.Ytgmdoboeenpjpaa
