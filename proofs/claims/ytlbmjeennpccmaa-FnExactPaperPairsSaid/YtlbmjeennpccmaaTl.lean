
/- FnExactPaperPairs returns true for every input and changes nothing that was there. No condition. -/
import Derived.Test.YtlbmjeennpccmaaTk
import Derived.Test.YtlbmjeennpccmaaLv
import Derived.Test.YtlbmjeennpccmaaLA
import Derived.Test.YtlbmjeennpccmaaLt
import Derived.Test.YtlbmjeennpccmaaRh
namespace Go.Proofs.Ytlbmjeennpccmaa
open Go Go.RowKit Go.ChangeShapes Go.WideShapes Go.ChangeAt

attribute [local go_sem] run_store_float
attribute [local irreducible] LX
/-- Two elements more, behind a list that is built. -/
theorem wpList_push2 {ops : Array Oper} {rest : List Oper} {o : Oper} {a : Act} {w : World} {Q : Exit → Act → World → Prop} {s x : Operand} {b0 B g0 cap0 m : Nat} {vs : List Value} {u1 u2 : Value} {blk c : Nat}
    (hgd : o.guard = none) (ho : o.op = .call { callee := .builtin .append, args := #[s, x], argTypes := #[33, 33] })
    (hs : a.eval s = .slice (some ⟨g0, 0, none⟩) m cap0) (hO : OutF b0 B w g0 cap0 m vs) (hx : a.eval x = .slice (some ⟨blk, 0, none⟩) 2 c) (c0 : w.cell? ⟨blk, 0, none⟩ = some u1) (c1 : w.cell? ⟨blk, 1, none⟩ = some u2) (ho1 : u1.oneCell' = true) (ho2 : u2.oneCell' = true)
    (hB : B ≤ w.heap.size) (hl : m ≤ 4096)
    (h : ∀ g cap w', OutF b0 B w' g cap (m + 2) (vs ++ [u1, u2]) → Below B w w' → wpList Try.prog ops Q rest (a.put o.dst (.slice (some ⟨g, 0, none⟩) (m + 2) cap)) w') : wpList Try.prog ops Q (o :: rest) a w := by
  obtain ⟨i, hi, h1, h2, h3⟩ := info_parts infoF32
  have hcell : ∀ j u, [u1, u2][j]? = some u → w.cell? ((⟨blk, 0, none⟩ : Addr).add j) = some u := by
    intro j u hj
    match j, hj with
    | 0, hj => simp at hj; subst hj; simpa [Addr.add] using c0
    | 1, hj => simp at hj; subst hj; simpa [Addr.add] using c1
    | j + 2, hj => simp at hj
  have hone : ∀ u ∈ [u1, u2], u.oneCell' = true := by
    intro u hu
    simp at hu
    rcases hu with rfl | rfl
    · exact ho1
    · exact ho2
  rcases hO with ⟨rfl, rfl, rfl, rfl⟩ | ⟨hm, own⟩
  · refine wpList_append_grows w hgd s x 33 ho 24 i (.float .f32 0) 1 4 Try.underlying33 hi h1 h2 h3 rfl (by omega) (some ⟨g0, 0, none⟩) 0 0 [] hs (fun h => by cases h) rfl (fun b hb j u hj => by simp at hj) ⟨blk, 0, none⟩ 2 c _ hx rfl hcell hone (by omega) (by simp only [maxLen]; omega) (by omega) ?_
    intro v' w' own hg
    rw [Nat.zero_add] at own
    obtain ⟨g, cap, rfl, hbg, _⟩ := own_head own (by omega)
    exact h g cap w' (.inr ⟨by omega, World.ownsRow.mono own hB⟩) ((Below.refl _ _).grown hg (by omega) (fun _ h => by cases h))
  · refine wpList_append_own w hgd s x 33 ho B 24 i (.float .f32 0) 1 4 Try.underlying33 hi h1 h2 h3 rfl (by omega) _ m _ hs own ⟨blk, 0, none⟩ 2 c _ hx rfl hcell hone (by simp only [maxLen]; omega) (by omega) hB ?_
    intro v' w' own' hg _
    obtain ⟨g, cap, rfl, hbg, _⟩ := own_head own' (by omega)
    exact h g cap w' (.inr ⟨by omega, own'⟩) ((Below.refl _ _).grown hg hB fun k hk => (own.lt k hk).1)

/-! ### The pairs -/
/-- The share at a place of n. -/
def ppS (n i : Nat) : Nat := fop .sub .f32 (cn .f32 1065353216) (fop .quo .f32 (fop .add .f32 (cn .f32 (floatOfInt .f32 (i : Int))) (cn .f32 1060320051)) (fop .add .f32 (cn .f32 (floatOfInt .f32 (n : Int))) (cn .f32 1053609165)))
def ppY (n i : Nat) : Nat := logF (fop .sub .f32 (cn .f32 0) (logF (ppS n i)))
def ppAt (n i : Nat) (x : Lf) : List Nat := if x.2 then [logF x.1, ppY n i] else []
def ppK (os : List Lf) (n : Nat) : Nat → List Nat
  | 0 => []
  | k + 1 => ppK os n k ++ ppAt n k (os.getD k (0, false))
def ppL (ls : List Lf) : List Nat := ppK (ordL ls) ls.length ls.length
def ppO (ls : List Lf) : Option (List Nat) := if livesB ls && finAll (ppL ls) then some (ppL ls) else none
theorem ppK_len (os : List Lf) (n : Nat) : ∀ k, (ppK os n k).length ≤ 2 * k
  | 0 => Nat.le_refl _
  | k + 1 => by
    have h := ppK_len os n k
    have h2 : (ppAt n k (os.getD k (0, false))).length ≤ 2 := by unfold ppAt; split <;> simp
    show (ppK os n k ++ ppAt n k (os.getD k (0, false))).length ≤ _
    rw [List.length_append]; omega
theorem ppK_at {os : List Lf} {n k : Nat} (h : k < os.length) : ppK os n (k + 1) = ppK os n k ++ ppAt n k os[k] := by
  show _ ++ ppAt n k (os.getD k (0, false)) = _
  rw [List.getD_eq_getElem?_getD, List.getElem?_eq_getElem h]; rfl

set_option maxRecDepth 100000 in
set_option maxHeartbeats 8000000 in
theorem implPaperPairs_any (v : Value) (ls : List Lf) (w : World) (r : RdL w v ls) : Calls Try.prog 29 #[v] w (FlPost (ppO ls) w) := by
  cases h : livesB ls
  · have H : Hid (ppO ls = none) := by show _ = _; unfold ppO; rw [h]; rfl
    have HA := Lib.hid (areLives_any v ls w r)
    rw [h] at HA
    clear h
    obtain ⟨⟨_, a1, c1, rfl, p1, p2, _, _⟩, _⟩ := r
    go_enter Try.func29, Try.ntmps29
    go_wp2_with fail
    refine HA.out.mono ?_
    rintro e w1 ⟨rfl, X⟩
    go_wp2_with fail
    go_ret2
    rw [H.out]
    exact ⟨X, rfl⟩
  · have HO : Hid (ppO ls = if finAll (ppL ls) then some (ppL ls) else none) := by show _ = _; unfold ppO; rw [h, Bool.true_and]
    have HV := Lib.hid (areLives_any v ls w r)
    have hl := livesB_len h
    have hok := livesB_ok h r.2
    have hz : ls.length ≤ 1048576 := by omega
    have HOK : Hid (AllOk (ordL ls)) := hok.perm (ordL_perm ls)
    have HF := Lib.hid (fun W r => ordered_any v ls W r hl.1 hz hok)
    have HLT : Hid (∀ x ∈ ordL ls, x.1 < 4294967296) := fun x hx => r.2 x ((ordL_perm ls).mem_iff.1 hx)
    have HPL : Hid (ppL ls = ppK (ordL ls) ls.length ls.length) := rfl
    have hol := ordL_len ls
    have r' := r
    rw [h] at HV
    have h48 := hl.2
    clear h hok hl
    obtain ⟨⟨-, a1, c1, rfl, -, -, -, -⟩, -⟩ := r
    go_enter Try.func29, Try.ntmps29
    go_wp2_with fail
    refine HV.out.mono ?_
    rintro e w0 ⟨rfl, X0⟩
    go_wp2_with fail
    refine (HF.out _ ((r'.ext X0).ext (Ext.alloc _ _))).mono ?_
    rintro e w1 ⟨g, cap, rfl, own, X1⟩
    have X : Ext w0 w1 := (Ext.alloc _ _).trans X1
    have R : RdL w1 (.slice (some ⟨g, 0, none⟩) ls.length cap) (ordL ls) := by have := own.rd HLT.out; rw [ordL_len] at this; exact this
    have o0 : w1.ownsRow w0.heap.size 24 1 (.slice (some ⟨w0.heap.size, 0, none⟩) 0 0) 0 [] := own_ext (World.ownsRow_lit (base := w0.heap.size) (e := 24) (size := 1) w0 #[] 0 (Nat.le_refl _) (by decide) rfl) X1
    generalize ordL ls = os at *
    generalize hn : ls.length = n at *
    clear HF own X1 HV
    go_wp2_with fail
    go_loopw [15, 4] (fun i o wr => ∃ (k g2 cap2 : Nat) (us : List Nat), k ≤ n ∧ i = .int .i64 k ∧ o = .slice (some ⟨g2, 0, none⟩) us.length cap2 ∧ Hid (us.map (cn .f32) = ppK os n k) ∧ Hid (∀ b ∈ us, b < 4294967296) ∧
        OutF w0.heap.size w1.heap.size wr g2 cap2 us.length (us.map (Value.float .f32)) ∧ Ext w1 wr) (fun i _ _ => n - (intOf i).toNat)
    case atStart => exact ⟨0, _, _, [], Nat.zero_le _, rfl, rfl, rfl, (by show ∀ _ ∈ _, _; simp), .inl ⟨rfl, rfl, rfl, rfl⟩, Ext.refl _⟩
    case round =>
      obtain ⟨k, g2, cap2, us, hk, rfl, rfl, HU, HB, own, X2⟩ := hrel
      have hul : us.length ≤ 2 * k := by have h1 := congrArg List.length HU.out; rw [List.length_map] at h1; have := ppK_len os n k; omega
      by_cases hlt : k < n
      · obtain ⟨b1, o1, hbo, hb1, hc1, hd1⟩ := (R.ext X2).at (k := k) (by omega)
        have hlo : k < os.length := by omega
        have HST := Lib.hid (ppK_at (n := n) hlo)
        have hpx : okL os[k] := HOK.out _ (List.getElem_mem hlo)
        have hx32 : os[k].1 < 4294967296 := HLT.out _ (List.getElem_mem hlo)
        generalize os[k] = x at *
        have HPX := Lib.hid hpx
        obtain ⟨rfl, rfl⟩ : g = b1 ∧ 0 = o1 := by simpa using hbo
        rw [Nat.zero_add] at hc1 hd1
        clear hpx hbo
        have hwr := hb1
        obtain ⟨xa, xb⟩ := x
        cases xb
        · have HN : Hid (ppK os n (k + 1) = ppK os n k) := by show _ = _; rw [HST.out]; exact List.append_nil _
          clear HST
          go_wp2_with fail
          go_roundw
          case rel => exact ⟨k + 1, g2, cap2, us, by omega, by go_num, rfl, by rw [HN.out]; exact HU, HB, own.ext (Ext.alloc _ _), X2.trans (Ext.alloc _ _)⟩
          case measure => simp [intOf]; omega
        · have HN : Hid (ppK os n (k + 1) = ppK os n k ++ [logF xa, ppY n k]) := HST
          clear HST
          have hgl := X2.size
          go_wp2_with (first | (refine wpList_fcmp rfl rfl rfl rfl rfl (by first | with_reducible assumption | exact rfl) ?_) | (refine wpList_fop rfl rfl rfl rfl rfl ?_; intro fb nf hfb hfl; replace hfb := Lib.hid hfb; replace hfl := Lib.hid hfl))
          rename_i b1 n1 e1 l1 b2 n2 e2 l2 b3 n3 e3 l3 K0 a0
          have HS : Hid (cn .f32 fb = ppS n k) := by show _ = _; rw [hfb.out, e3.out, e2.out, e1.out]; rfl
          refine (logNumber_any _ _ hx32).mono ?_
          rintro e w3 ⟨y1, rfl, hy1, hz1, X3⟩
          replace hy1 : Hid (cn .f32 y1 = logF xa) := by show _ = _; rw [hy1, cn_pos HPX.out]
          replace own := own.ext ((Ext.alloc _ _).trans ((Ext.drewN _ _).trans X3))
          replace X2 := X2.trans ((Ext.alloc _ _).trans ((Ext.drewN _ _).trans X3))
          have HFL := hfl
          clear e1 e2 e3 l1 l2 l3 hfb hfl X3 hc1 hd1 hb1 hwr
          go_wp2_with fail
          refine (logNumber_any _ _ HFL.out).mono ?_
          rintro e w4 ⟨y2, rfl, hy2, hz2, X4⟩
          replace hy2 : Hid (cn .f32 y2 = logF (ppS n k)) := by show _ = _; rw [hy2, HS.out]
          replace own := own.ext X4
          replace X2 := X2.trans X4
          clear X4 HFL HS
          go_wp2_with (first | (refine wpList_fcmp rfl rfl rfl rfl rfl (by first | with_reducible assumption | exact rfl) ?_) | (refine wpList_fop rfl rfl rfl rfl rfl ?_; intro fb nf hfb hfl; replace hfb := Lib.hid hfb; replace hfl := Lib.hid hfl))
          have HQ : Hid (cn .f32 fb = fop .sub .f32 (cn .f32 0) (logF (ppS n k))) := by show _ = _; rw [hfb.out, hy2.out]
          have HFL := hfl
          clear hfb hfl
          refine (logNumber_any _ _ HFL.out).mono ?_
          rintro e w5 ⟨y3, rfl, hy3, hz3, X5⟩
          replace hy3 : Hid (cn .f32 y3 = ppY n k) := by show _ = _; rw [hy3, HQ.out]; rfl
          replace own := own.ext ((Ext.drewN _ _).trans X5)
          replace X2 := X2.trans ((Ext.drewN _ _).trans X5)
          clear X5 HFL HQ hy2
          have HN2 : Hid ((us ++ [y1, y3]).map (cn .f32) = ppK os n (k + 1)) := by
            show _ = _; rw [List.map_append, HU.out, HN.out, List.map_cons, List.map_cons, hy1.out, hy3.out]; rfl
          have HB2 : Hid (∀ b ∈ us ++ [y1, y3], b < 4294967296) := by
            show ∀ _ ∈ _, _
            intro b hb
            simp only [List.mem_append, List.mem_cons, List.not_mem_nil, or_false] at hb
            rcases hb with h | rfl | rfl
            · exact HB.out b h
            · exact hz1
            · exact hz3
          have bx : Bx (w5.alloc (.cells #[.float .f32 y1, .float .f32 y3] 24)) w5.heap.size [.float .f32 y1, .float .f32 y3] := Bx.new _ _ _
          obtain ⟨bx0, bx1⟩ := bx.two
          go_wp2_with (at_builtin; refine wpList_push2 rfl rfl rfl (own.ext (Ext.alloc _ _)) rfl bx0 bx1 rfl rfl (X2.trans (Ext.alloc _ _)).size (by omega) ?_; intro g3 cap3 w6 own6 bel6)
          have h2 : us.length + 2 = (us ++ [y1, y3]).length := by simp
          have hmm : (us.map (Value.float .f32)) ++ [.float .f32 y1, .float .f32 y3] = (us ++ [y1, y3]).map (Value.float .f32) := by simp
          rw [hmm] at own6
          rw [h2] at own6 ⊢
          go_roundw
          case rel => exact ⟨k + 1, g3, cap3, us ++ [y1, y3], by omega, by go_num, rfl, HN2, HB2, own6, Below.trans (X2.trans (Ext.alloc _ _)) bel6⟩
          case measure => simp [intOf]; omega
      · obtain rfl : k = n := by omega
        have HUL : Hid (us.map (cn .f32) = ppL ls) := by show _ = _; rw [HPL.out, HU.out]
        have hB := HB.out
        have R : RdF wr (.slice (some ⟨g2, 0, none⟩) us.length cap2) us := by
          rcases own with ⟨h1, h2, h3, h4⟩ | ⟨_, own⟩
          · have hu0 : us = [] := List.eq_nil_of_length_eq_zero h1
            subst h2 h3 hu0
            exact ⟨own_rd (own_ext o0 X2), hB⟩
          · exact ⟨own_rd own, hB⟩
        clear HPL HU
        go_wp2_with fail
        refine (ifAll_any _ us _ R).mono ?_
        rintro e w6 ⟨rfl, X6⟩
        have hU := HUL.out
        rw [hU]
        have hO := HO.out
        cases hf : finAll (ppL ls)
        · have HN : Hid (ppO ls = none) := by show _ = _; rw [hO, hf]; rfl
          clear hO hf hU
          unfold orNil
          go_wp2_with fail
          go_ret2
          rw [HN.out]
          exact ⟨(X0.trans (X.trans X2)).trans X6, rfl⟩
        · have HN : Hid (ppO ls = some (ppL ls)) := by show _ = _; rw [hO, hf]; rfl
          clear hO hf hU
          unfold orNil
          go_wp2_with fail
          go_ret2
          rw [HN.out]
          rcases own with ⟨h1, rfl, rfl, hv⟩ | ⟨_, own⟩
          · have hu0 : us = [] := List.eq_nil_of_length_eq_zero h1
            subst hu0
            exact ⟨(X0.trans (X.trans X2)).trans X6, w0.heap.size, 0, [], rfl, HUL.out, hB, World.ownsRow.mono (own_ext o0 (X2.trans X6)) X0.size⟩
          · exact ⟨(X0.trans (X.trans X2)).trans X6, g2, cap2, us, rfl, HUL.out, hB, World.ownsRow.mono (own_ext own X6) (X0.trans X).size⟩

set_option maxRecDepth 100000 in
set_option maxHeartbeats 8000000 in
theorem specPaperPairs_any (v : Value) (ls : List Lf) (w : World) (r : RdL w v ls) : Calls Try.prog 28 #[v] w (FlPost (ppO ls) w) := by
  cases h : livesB ls
  · have H : Hid (ppO ls = none) := by show _ = _; unfold ppO; rw [h]; rfl
    have HA := Lib.hid (l02Lives_any v ls w r)
    rw [h] at HA
    clear h
    obtain ⟨⟨_, a1, c1, rfl, p1, p2, _, _⟩, _⟩ := r
    go_enter Try.func28, Try.ntmps28
    go_wp2_with fail
    refine HA.out.mono ?_
    rintro e w1 ⟨rfl, X⟩
    go_wp2_with fail
    go_ret2
    rw [H.out]
    exact ⟨X, rfl⟩
  · have HO : Hid (ppO ls = if finAll (ppL ls) then some (ppL ls) else none) := by show _ = _; unfold ppO; rw [h, Bool.true_and]
    have HV := Lib.hid (l02Lives_any v ls w r)
    have hl := livesB_len h
    have hok := livesB_ok h r.2
    have hz : ls.length ≤ 1048576 := by omega
    have HOK : Hid (AllOk (ordL ls)) := hok.perm (ordL_perm ls)
    have HF := Lib.hid (fun W r => l02Order_any v ls W r hl.1 hz hok)
    have HLT : Hid (∀ x ∈ ordL ls, x.1 < 4294967296) := fun x hx => r.2 x ((ordL_perm ls).mem_iff.1 hx)
    have HPL : Hid (ppL ls = ppK (ordL ls) ls.length ls.length) := rfl
    have hol := ordL_len ls
    have r' := r
    rw [h] at HV
    have h48 := hl.2
    clear h hok hl
    obtain ⟨⟨-, a1, c1, rfl, -, -, -, -⟩, -⟩ := r
    go_enter Try.func28, Try.ntmps28
    go_wp2_with fail
    refine HV.out.mono ?_
    rintro e w0 ⟨rfl, X0⟩
    go_wp2_with fail
    refine (HF.out _ (r'.ext X0)).mono ?_
    rintro e w1 ⟨g, cap, rfl, own, X1⟩
    have X : Ext w0 w1 := X1
    have R : RdL w1 (.slice (some ⟨g, 0, none⟩) ls.length cap) (ordL ls) := by have := own.rd HLT.out; rw [ordL_len] at this; exact this
    generalize ordL ls = os at *
    generalize hn : ls.length = n at *
    clear HF own X1 HV
    go_wp2_with fail
    have o0 : (w1.alloc (.cells #[] 24)).ownsRow w1.heap.size 24 1 (.slice (some ⟨w1.heap.size, 0, none⟩) 0 0) 0 [] := World.ownsRow_lit (base := w1.heap.size) (e := 24) (size := 1) w1 #[] 0 (Nat.le_refl _) (by decide) rfl
    have XA : Ext w1 (w1.alloc (.cells #[] 24)) := Ext.alloc _ _
    have o1 := o0
    generalize w1.alloc (.cells #[] 24) = W1 at *
    have hwg := X.size
    generalize w1.heap.size = g1 at o0 hwg
    replace R := R.ext XA
    replace X := X.trans XA
    clear XA
    go_loopw [7, 6] (fun i o wr => ∃ (k g2 cap2 : Nat) (us : List Nat), k ≤ n ∧ i = .int .i64 k ∧ o = .slice (some ⟨g2, 0, none⟩) us.length cap2 ∧ Hid (us.map (cn .f32) = ppK os n k) ∧ Hid (∀ b ∈ us, b < 4294967296) ∧
        OutF g1 W1.heap.size wr g2 cap2 us.length (us.map (Value.float .f32)) ∧ Ext W1 wr) (fun i _ _ => n - (intOf i).toNat)
    case atStart => exact ⟨0, _, _, [], Nat.zero_le _, rfl, rfl, rfl, (by show ∀ _ ∈ _, _; simp), .inl ⟨rfl, rfl, rfl, rfl⟩, Ext.refl _⟩
    case round =>
      obtain ⟨k, g2, cap2, us, hk, rfl, rfl, HU, HB, own, X2⟩ := hrel
      have hul : us.length ≤ 2 * k := by have h1 := congrArg List.length HU.out; rw [List.length_map] at h1; have := ppK_len os n k; omega
      by_cases hlt : k < n
      · obtain ⟨b1, o1, hbo, hb1, hc1, hd1⟩ := (R.ext X2).at (k := k) (by omega)
        have hlo : k < os.length := by omega
        have HST := Lib.hid (ppK_at (n := n) hlo)
        have hpx : okL os[k] := HOK.out _ (List.getElem_mem hlo)
        have hx32 : os[k].1 < 4294967296 := HLT.out _ (List.getElem_mem hlo)
        generalize os[k] = x at *
        have HPX := Lib.hid hpx
        obtain ⟨rfl, rfl⟩ : g = b1 ∧ 0 = o1 := by simpa using hbo
        rw [Nat.zero_add] at hc1 hd1
        clear hpx hbo
        have hwr := hb1
        obtain ⟨xa, xb⟩ := x
        cases xb
        · have HN : Hid (ppK os n (k + 1) = ppK os n k) := by show _ = _; rw [HST.out]; exact List.append_nil _
          clear HST
          go_wp2_with fail
          go_roundw
          case rel => exact ⟨k + 1, g2, cap2, us, by omega, by go_num, rfl, by rw [HN.out]; exact HU, HB, own, X2⟩
          case measure => simp [intOf]; omega
        · have HN : Hid (ppK os n (k + 1) = ppK os n k ++ [logF xa, ppY n k]) := HST
          clear HST
          have hgl := X2.size
          go_wp2_with (first | (refine wpList_fcmp rfl rfl rfl rfl rfl (by first | with_reducible assumption | exact rfl) ?_) | (refine wpList_fop rfl rfl rfl rfl rfl ?_; intro fb nf hfb hfl; replace hfb := Lib.hid hfb; replace hfl := Lib.hid hfl))
          rename_i b1 n1 e1 l1 b2 n2 e2 l2 b3 n3 e3 l3 K0 a0
          have HS : Hid (cn .f32 fb = ppS n k) := by show _ = _; rw [hfb.out, e3.out, e2.out, e1.out]; rfl
          refine (l01Log_any _ _ hx32).mono ?_
          rintro e w3 ⟨y1, rfl, hy1, hz1, X3⟩
          replace hy1 : Hid (cn .f32 y1 = logF xa) := by show _ = _; rw [hy1, cn_pos HPX.out]
          replace own := own.ext ((Ext.drewN _ _).trans X3)
          replace X2 := X2.trans ((Ext.drewN _ _).trans X3)
          have HFL := hfl
          clear e1 e2 e3 l1 l2 l3 hfb hfl X3 hc1 hd1 hb1 hwr
          go_wp2_with fail
          refine (l01Log_any _ _ HFL.out).mono ?_
          rintro e w4 ⟨y2, rfl, hy2, hz2, X4⟩
          replace hy2 : Hid (cn .f32 y2 = logF (ppS n k)) := by show _ = _; rw [hy2, HS.out]
          replace own := own.ext X4
          replace X2 := X2.trans X4
          clear X4 HFL HS
          go_wp2_with (first | (refine wpList_fcmp rfl rfl rfl rfl rfl (by first | with_reducible assumption | exact rfl) ?_) | (refine wpList_fop rfl rfl rfl rfl rfl ?_; intro fb nf hfb hfl; replace hfb := Lib.hid hfb; replace hfl := Lib.hid hfl))
          have HQ : Hid (cn .f32 fb = fop .sub .f32 (cn .f32 0) (logF (ppS n k))) := by show _ = _; rw [hfb.out, hy2.out]
          have HFL := hfl
          clear hfb hfl
          refine (l01Log_any _ _ HFL.out).mono ?_
          rintro e w5 ⟨y3, rfl, hy3, hz3, X5⟩
          replace hy3 : Hid (cn .f32 y3 = ppY n k) := by show _ = _; rw [hy3, HQ.out]; rfl
          replace own := own.ext ((Ext.drewN _ _).trans X5)
          replace X2 := X2.trans ((Ext.drewN _ _).trans X5)
          clear X5 HFL HQ hy2
          have HN2 : Hid ((us ++ [y1, y3]).map (cn .f32) = ppK os n (k + 1)) := by
            show _ = _; rw [List.map_append, HU.out, HN.out, List.map_cons, List.map_cons, hy1.out, hy3.out]; rfl
          have HB2 : Hid (∀ b ∈ us ++ [y1, y3], b < 4294967296) := by
            show ∀ _ ∈ _, _
            intro b hb
            simp only [List.mem_append, List.mem_cons, List.not_mem_nil, or_false] at hb
            rcases hb with h | rfl | rfl
            · exact HB.out b h
            · exact hz1
            · exact hz3
          have bx : Bx (w5.alloc (.cells #[.float .f32 y1, .float .f32 y3] 24)) w5.heap.size [.float .f32 y1, .float .f32 y3] := Bx.new _ _ _
          obtain ⟨bx0, bx1⟩ := bx.two
          go_wp2_with (at_builtin; refine wpList_push2 rfl rfl rfl (own.ext (Ext.alloc _ _)) rfl bx0 bx1 rfl rfl (X2.trans (Ext.alloc _ _)).size (by omega) ?_; intro g3 cap3 w6 own6 bel6)
          have h2 : us.length + 2 = (us ++ [y1, y3]).length := by simp
          have hmm : (us.map (Value.float .f32)) ++ [.float .f32 y1, .float .f32 y3] = (us ++ [y1, y3]).map (Value.float .f32) := by simp
          rw [hmm] at own6
          rw [h2] at own6 ⊢
          go_roundw
          case rel => exact ⟨k + 1, g3, cap3, us ++ [y1, y3], by omega, by go_num, rfl, HN2, HB2, own6, Below.trans (X2.trans (Ext.alloc _ _)) bel6⟩
          case measure => simp [intOf]; omega
      · obtain rfl : k = n := by omega
        have HUL : Hid (us.map (cn .f32) = ppL ls) := by show _ = _; rw [HPL.out, HU.out]
        have hB := HB.out
        have R : RdF wr (.slice (some ⟨g2, 0, none⟩) us.length cap2) us := by
          rcases own with ⟨h1, h2, h3, h4⟩ | ⟨_, own⟩
          · have hu0 : us = [] := List.eq_nil_of_length_eq_zero h1
            subst h2 h3 hu0
            exact ⟨own_rd (own_ext o0 X2), hB⟩
          · exact ⟨own_rd own, hB⟩
        clear HPL HU
        go_wp2_with fail
        refine (l02List_any _ us _ R).mono ?_
        rintro e w6 ⟨rfl, X6⟩
        have hU := HUL.out
        rw [hU]
        have hO := HO.out
        cases hf : finAll (ppL ls)
        · have HN : Hid (ppO ls = none) := by show _ = _; rw [hO, hf]; rfl
          clear hO hf hU
          unfold orNil
          go_wp2_with fail
          go_ret2
          rw [HN.out]
          exact ⟨(X0.trans (X.trans X2)).trans X6, rfl⟩
        · have HN : Hid (ppO ls = some (ppL ls)) := by show _ = _; rw [hO, hf]; rfl
          clear hO hf hU
          unfold orNil
          go_wp2_with fail
          go_ret2
          rw [HN.out]
          rcases own with ⟨h1, rfl, rfl, hv⟩ | ⟨_, own⟩
          · have hu0 : us = [] := List.eq_nil_of_length_eq_zero h1
            subst hu0
            exact ⟨(X0.trans (X.trans X2)).trans X6, g2, 0, [], rfl, HUL.out, hB, World.ownsRow.mono (own_ext o0 (X2.trans X6)) (Nat.le_trans X0.size hwg)⟩
          · exact ⟨(X0.trans (X.trans X2)).trans X6, g2, cap2, us, rfl, HUL.out, hB, World.ownsRow.mono (own_ext own X6) (X0.trans X).size⟩

set_option maxRecDepth 100000 in
set_option maxHeartbeats 4000000 in
theorem FnExactPaperPairs_law (v : Value) (ls : List Lf) (o : Option (List Nat)) (w : World) (r : RdL w v ls)
    (hs : ∀ w v, RdL w v ls → Calls Try.prog 28 #[v] w (FlPost o w)) (hi : ∀ w v, RdL w v ls → Calls Try.prog 29 #[v] w (FlPost o w)) (hlen : (o.getD []).length ≤ 1048576) :
    Calls Try.prog 6 #[v] w fun e w' => e = .returned (.bool true) ∧ Ext w w' := by
  have HS := Lib.hid hs
  have HI := Lib.hid hi
  have r' := r
  obtain ⟨⟨-, a1, c1, rfl, p1, p2, -, -⟩, -⟩ := r
  have p3 : ls.length ≤ maxLen := Nat.le_trans p1 p2
  clear hs hi p1 p2
  by_cases hn : ls.length ≤ 1048576
  · go_enter Try.func6, Try.ntmps6
    go_wp2_with fail
    refine (szLifeS_any _ _ _ _ _ p3 (by decide) (by decide)).mono ?_
    rintro e w0 ⟨rfl, rfl⟩
    rw [if_neg (by omega)]
    have hge : ¬ (1048576 : Int) - ls.length < 0 := by omega
    go_wp2_with fail
    refine (toLifeS_any _ ls _ r' hn).mono ?_
    rintro e w1 ⟨g1, rfl, X1, own1⟩
    have r1 : RdL w1 (.slice (some ⟨g1, 0, none⟩) ls.length ls.length) ls := own1.rd r'.2
    clear own1
    go_wp2_with fail
    refine (HS.out _ _ r1).mono ?_
    intro e w2 h2
    obtain ⟨vs, rfl, os, X2⟩ := postF_own h2
    clear h2 r1
    generalize hZ : o.getD [] = zs at *
    have X02 : Ext w w2 := X1.trans X2
    go_wp2_with fail
    refine (toLifeS_any _ ls _ (r'.ext X02) hn).mono ?_
    rintro e w3 ⟨g3, rfl, X3, own3⟩
    have hx0 : RdL w3 (.slice (some ⟨g3, 0, none⟩) ls.length ls.length) ls := own3.rd r'.2
    have hg3 := own3.lt
    go_wp2_with fail
    refine (HI.out _ _ hx0).mono ?_
    intro e w4 h4
    obtain ⟨vi, rfl, oi, X4⟩ := postF_own h4
    rw [hZ] at oi
    clear h4
    have Y4 : Ext w2 w4 := Ext.trans X3 X4
    have hz3 : w3.heap.size ≤ w4.heap.size := X4.size
    have hs2 := X02.size
    have own4 := own3.ext X4
    clear own3 hx0
    go_wp2_with fail
    refine (eqF_eq oi (os.ext Y4)).mono ?_
    rintro e w5 ⟨rfl, X5⟩
    replace oi := oi.ext X5; replace own4 := own4.ext X5; replace Y4 := Ext.trans Y4 X5; replace hz3 := Nat.le_trans hz3 X5.size
    clear X5 X4
    go_wp2_with fail
    refine (toLifeS_any _ ls _ (r'.ext (X02.trans Y4)) hn).mono ?_
    rintro e w6 ⟨g6, rfl, X6, own6⟩
    have r6 : RdL w6 (.slice (some ⟨g6, 0, none⟩) ls.length ls.length) ls := own6.rd r'.2
    replace oi := oi.ext X6; replace own4 := own4.ext X6; replace Y4 := Ext.trans Y4 X6; replace hz3 := Nat.le_trans hz3 X6.size
    clear X6 own6
    go_wp2_with fail
    refine (eqLifeS_any _ _ ls ls _ (own4.rd r'.2) r6 rfl).mono ?_
    rintro e w7 ⟨rfl, X7⟩
    replace oi := oi.ext X7; replace own4 := own4.ext X7; replace Y4 := Ext.trans Y4 X7; replace hz3 := Nat.le_trans hz3 X7.size
    clear X7 r6
    go_wp2_with fail
    refine (markL_g 1 g3 ls.length w2.heap.size ls _ own4 (by decide) (by decide) hn).mono ?_
    rintro e w8 ⟨rfl, G8, -⟩
    replace oi := oi.grown G8 hg3.2; replace Y4 := Below.trans Y4 (grown_ext G8 hg3.1 Y4.size); replace hz3 := Nat.le_trans hz3 G8.size
    clear own4 G8
    go_wp2_with fail
    refine (eqF_eq oi (os.ext Y4)).mono ?_
    rintro e w9 ⟨rfl, X9⟩
    replace oi := oi.ext X9; replace Y4 := Ext.trans Y4 X9; replace hz3 := Nat.le_trans hz3 X9.size
    clear X9
    have hb3 := hz3
    go_wp2_with fail
    refine (markF_own 1 _ _ _ _ oi hb3 (by decide) (by decide) hlen).mono ?_
    rintro e w10 ⟨rfl, G10, oi2⟩
    replace Y4 := Below.trans Y4 (G10.mono X3.size)
    clear G10 oi hb3
    go_wp2_with fail
    refine (heldF_any 1 _ zs.length _ oi2 (by decide) (by decide) hlen).mono ?_
    rintro e w11 ⟨rfl, rfl⟩
    go_wp2_with fail
    refine (toLifeS_any _ ls _ (r'.ext (X02.trans Y4)) hn).mono ?_
    rintro e w12 ⟨g12, rfl, X12, own12⟩
    have r12 : RdL w12 (.slice (some ⟨g12, 0, none⟩) ls.length ls.length) ls := own12.rd r'.2
    replace oi2 := oi2.ext X12; replace Y4 := Ext.trans Y4 X12
    clear X12 own12
    go_wp2_with fail
    refine (HI.out _ _ r12).mono ?_
    intro e w13 h13
    obtain ⟨vh, rfl, oh, X13⟩ := postF_own h13
    rw [hZ] at oh
    replace oi2 := oi2.ext X13; replace Y4 := Ext.trans Y4 X13
    clear h13 X13
    go_wp2_with fail
    refine (eqF_eq oh (os.ext Y4)).mono ?_
    rintro e w14 ⟨rfl, X14⟩
    replace oi2 := oi2.ext X14; replace Y4 := Ext.trans Y4 X14
    clear X14
    go_wp2_with fail
    refine (heldF_any 1 _ zs.length _ oi2 (by decide) (by decide) hlen).mono ?_
    rintro e w15 ⟨rfl, rfl⟩
    go_wp2_with fail
    go_ret
    exact ⟨rfl, X02.trans Y4⟩
  · go_enter Try.func6, Try.ntmps6
    go_wp2_with fail
    refine (szLifeS_any _ _ _ _ _ p3 (by decide) (by decide)).mono ?_
    rintro e w0 ⟨rfl, rfl⟩
    rw [if_pos (by omega)]
    go_wp2_with fail
    go_ret
    exact ⟨rfl, Ext.refl _⟩

theorem paperPairs_walk (v : Value) (w : World) (h : ArgLives w v) :
    Calls Try.prog 6 #[v] w fun e w' => e = .returned (.bool true) ∧ Ext w w' := by
  obtain ⟨a, n, cap, ls, rfl, r⟩ := h
  refine FnExactPaperPairs_law _ ls (ppO ls) w r (fun w v r => specPaperPairs_any v ls w r) (fun w v r => implPaperPairs_any v ls w r) ?_
  unfold ppO
  split
  · rename_i h; rw [Option.getD_some]; rw [Bool.and_eq_true] at h; have := livesB_len h.1; have := ppK_len (ordL ls) ls.length ls.length; unfold ppL; omega
  · simp
theorem fnExactPaperPairs_own : ownKnob Try.prog.godebug = none := by kernel_rfl
theorem fnExactPaperPairs_laid : laidOutB Try.prog = true := by kernel_rfl

set_option maxRecDepth 100000 in
theorem fnExactPaperPairs_lifted (os : Os) (started : os.Started) (H : Type) (enc : TypeId × Value → H) :
    ReturnsInHanded {} Try.checked os 6 .any (Rows.fnExactPaperPairsSpec.pre6 enc Try.prog Try.f6 Rows.fnExactPaperPairsRow.domain false) (Rows.fnExactPaperPairsSpec.post enc Try.prog Try.f6 false true false false) := by
  refine returnsInHanded_of_change (C := Try.checked) fnExactPaperPairs_own started (by kernel_rfl) Try.func6
    (ChangeSpec.witness6 (enc := enc) (C := Try.checked) false ⟨#[], #[.slice none 0 0], []⟩ 8 (by kernel_rfl) (by kernel_rfl) (by kernel_rfl) (by kernel_rfl)) ?_
  intro W base args ds gs before hval0 hW hcnd _
  have hval : ∀ (j : Nat) t v, Try.f6.params[j]? = some t → args[j]? = some v → Value.okWide Try.prog W .any base t v := hval0
  have hW' := hW
  obtain ⟨p, q, hA0, hV, rfl, hfz, hnd⟩ := hW
  have hA : DataW.TrodAll enc Try.prog W 0 (fun _ => true) true Try.f6.params.toList args.toList ds p := hA0
  rw [Try.params6] at hA hval
  obtain ⟨v0, vs0, d0, ds0, p0, q0, hargs, rfl, rfl, h0, r0⟩ := trodAll_cons hA
  obtain ⟨rfl, rfl, rfl⟩ := trodAll_nil r0
  obtain rfl : args = #[v0] := by cases args; simp_all
  obtain ⟨rfl, rfl⟩ := trodVars_none hV
  have lt0 : ∀ x ∈ p0, x.block < W.heap.size := by obtain ⟨m, hm⟩ := h0; exact DataW.trod_lt m _ _ _ hm
  have w0 := argLives Try.underlying22 Try.underlying69 (by kernel_rfl) (by kernel_rfl) Try.underlying24 Try.underlying4 (hval 0 22 v0 rfl rfl) h0
  clear hA0 hval0
  refine (paperPairs_walk v0 W w0).mono fun e W' ⟨he, bel⟩ => ?_
  subst he
  exact ⟨_, rfl, _, _, _, [], _, [], hW', trodAll_mk1 (shut_bool Try.underlying4 _), (trodAll_cons_mk (Below.trod fnExactPaperPairs_laid (by kernel_rfl) (of_decide_eq_true (by kernel_rfl)) h0 bel lt0) trodAll_mk0), rfl, bel.below.frame _, fun h => by cases h⟩

theorem fnExactPaperPairs_over : Rows.fnExactPaperPairsRow.holds Try.pinned (OpenSpec.ofChange Rows.fnExactPaperPairsSpec) :=
  OpenClaim.holds_of_wide 6 Try.f6 rfl rfl rfl rfl rfl rfl rfl ⟨rfl, rfl, rfl, rfl, rfl⟩ rfl rfl rfl rfl rfl (by kernel_rfl) Try.func6 (by kernel_rfl)
    (of_decide_eq_true (by kernel_rfl)) (by unfold Func.isWrapper; first | (rw [if_pos (by decide +kernel)]; kernel_rfl) | (rw [if_neg (by decide +kernel)]; exact ⟨rfl, rfl⟩))
    (fun os started H enc _ => fnExactPaperPairs_lifted os started H enc)

/-- The statement. -/
theorem fnExactPaperPairs_holds : Rows.FnExactPaperPairsSaid := fnExactPaperPairs_over

end Go.Proofs.Ytlbmjeennpccmaa
