
/- PartChances, both sides. Condition: lists that can be read, of at most 2^20 numbers. -/
import Derived.Test.YtifhmkkgmchcmaaZb
import Derived.Test.YtifhmkkgmchcmaaYh
namespace Go.Proofs.Ytifhmkkgmchcmaa
open Go Go.RowKit Go.ChangeShapes Go.WideShapes Go.ChangeAt

attribute [local go_sem] run_store_float
attribute [local irreducible] LX

/-- append of all elements of a list that can be read to a list of the call's own. -/
theorem wpList_allZ {P : Program} {ops : Array Oper} {rest : List Oper} {o : Oper} {a : Act} {w : World} {Q : Exit → Act → World → Prop} {s x : Operand} {t e : TypeId} {z : Value} {k bytes base n m : Nat} {v sv : Value} {ys xs : List Value}
    (hinfo : (P.info? e).map (fun i => (i.zero, i.size, i.bytes)) = some (some z, k, bytes)) (hz : z.cells.size = k) (hk : 0 < k) (ht : P.underlying t = some (.slice e))
    (hgd : o.guard = none) (ho : o.op = .call { callee := .builtin .append, args := #[s, x], argTypes := #[t, t] })
    (hs : a.eval s = v) (hown : w.ownsRow base e k v n ys) (hx : a.eval x = sv) (r : Rd k w sv m xs) (hm : 0 < m) (h1 : ∀ u ∈ xs, u.oneCell' = true)
    (hn : n + m ≤ 8796093022208) (hb16 : bytes ≤ 16) (hbase : base ≤ w.heap.size)
    (h : ∀ g cap w', base ≤ g → w'.ownsRow base e k (.slice (some ⟨g, 0, none⟩) (n + m) cap) (n + m) (ys ++ xs) → w.grownBy w' v.ownBlock →
      wpList P ops Q rest (a.put o.dst (.slice (some ⟨g, 0, none⟩) (n + m) cap)) w') : wpList P ops Q (o :: rest) a w := by
  obtain ⟨i, hi, i1, i2, i3⟩ := info_parts hinfo
  obtain ⟨hl, a1, c1, rfl, hc1, hc2, hc3, hc4⟩ := r
  obtain ⟨p, rfl⟩ : ∃ p, a1 = some p := by
    cases a1 with
    | none => have := hc3 rfl; omega
    | some p => exact ⟨p, rfl⟩
  have hpos : 0 < m * k := Nat.mul_pos hm hk
  refine wpList_append_own w hgd s x t ho base e i z k bytes ht hi i1 i2 i3 hz hk v n ys hs hown p m c1 xs hx hl ?_ h1 (by simp only [maxLen]; omega) ?_ hbase ?_
  · intro j u hj
    have hjl : j < m * k := by rw [← hl]; exact (List.getElem?_eq_some_iff.1 hj).1
    obtain ⟨g1, g2, g3⟩ := hc4 p rfl j hjl
    have hadd : p.add j = ⟨p.block, p.off + j, none⟩ := by
      obtain ⟨b, off, sp⟩ := p
      simp only at g1; subst g1
      unfold Addr.add; split <;> simp_all
    rw [hadd, g3, hj]
  · have : (n + m) * bytes ≤ 8796093022208 * 16 := Nat.mul_le_mul hn hb16
    omega
  · intro v' w' hown' hg hnil
    obtain ⟨g, cap, rfl, hbg, _⟩ := own_head hown' (by omega)
    exact h g cap w' hbg hown' hg

/-- The same to an empty one. -/
theorem wpList_copyZ {P : Program} {ops : Array Oper} {rest : List Oper} {o : Oper} {a : Act} {w : World} {Q : Exit → Act → World → Prop} {s x : Operand} {t e : TypeId} {z : Value} {k bytes base m : Nat} {v sv : Value} {xs : List Value}
    (hinfo : (P.info? e).map (fun i => (i.zero, i.size, i.bytes)) = some (some z, k, bytes)) (hz : z.cells.size = k) (hk : 0 < k) (ht : P.underlying t = some (.slice e))
    (hgd : o.guard = none) (ho : o.op = .call { callee := .builtin .append, args := #[s, x], argTypes := #[t, t] })
    (hs : a.eval s = v) (hown : w.ownsRow base e k v 0 []) (hx : a.eval x = sv) (r : Rd k w sv m xs) (hm : 0 < m) (h1 : ∀ u ∈ xs, u.oneCell' = true)
    (hn : m ≤ 8796093022208) (hb16 : bytes ≤ 16) (hbase : base ≤ w.heap.size)
    (h : ∀ g cap w', base ≤ g → w'.ownsRow base e k (.slice (some ⟨g, 0, none⟩) m cap) m xs → w.grownBy w' v.ownBlock →
      wpList P ops Q rest (a.put o.dst (.slice (some ⟨g, 0, none⟩) m cap)) w') : wpList P ops Q (o :: rest) a w := by
  refine wpList_allZ hinfo hz hk ht hgd ho hs hown hx r hm h1 (by omega) hb16 hbase fun g cap w' hg own hgr => ?_
  rw [Nat.zero_add] at own ⊢
  exact h g cap w' hg own hgr

theorem floatsZ_one (bs : List Nat) : ∀ u ∈ bs.map (Value.float .f32), u.oneCell' = true := by
  intro u hu; obtain ⟨b, _, rfl⟩ := List.mem_map.1 hu; rfl

set_option maxHeartbeats 1000000 in
theorem cloneFZ_any (v : Value) (bs : List Nat) (w : World) (r : RdF w v bs) (h0 : 0 < bs.length) (hz : bs.length ≤ 1048576) :
    Calls Try.prog 91 #[v] w fun e w' => ∃ g cap, e = .returned (.slice (some ⟨g, 0, none⟩) bs.length cap) ∧ w'.ownsRow w.heap.size 49 1 (.slice (some ⟨g, 0, none⟩) bs.length cap) bs.length (bs.map (Value.float .f32)) ∧ Ext w w' := by
  have r' := r
  obtain ⟨b0, o0, hb0, -, -, -⟩ : ∃ b off, (match v with | .slice a _ _ => a | _ => none) = some ⟨b, off, none⟩ ∧ True ∧ True ∧ True := by
    obtain ⟨⟨_, a1, c1, rfl, _⟩, _⟩ := r
    obtain ⟨b, o, h, _⟩ := r'.at h0
    exact ⟨b, o, h, trivial, trivial, trivial⟩
  obtain ⟨⟨-, a1, c1, rfl, -, -, -, -⟩, -⟩ := r
  simp only at hb0
  subst hb0
  have hnil : ∀ W, (binOp .eql 48 (.slice (some ⟨b0, o0, none⟩) bs.length c1) (.slice none 0 0)).run Try.prog W = .ok (.bool false) W := fun W => Lib.run_eql_slice_nil W 48 49 (some ⟨b0, o0, none⟩) bs.length c1 0 0 Try.underlying48
  go_enter Try.func91, Try.ntmps91
  go_wp2_with (at_builtin; refine wpList_copyZ infoF32 rfl (by decide) Try.underlying48 rfl rfl rfl (World.ownsRow_lit (base := w.heap.size) (e := 49) (size := 1) w #[] 0 (Nat.le_refl _) (by decide) rfl) rfl (r'.1.alloc _) h0 (floatsZ_one bs) (by omega) (by decide) (by simp) ?_; intro g cap w' hg own hgr)
  go_ret
  exact ⟨g, cap, rfl, own, (below_alloc w _).grown hgr (by simp) (fun k hk => by cases hk; exact Nat.le_refl _)⟩

/-- How much more likely a system works with a part. -/
def pcK (p : Nat) (ns bs : List Nat) (i : Nat) : Nat := fop .sub .f32 (chS p ns ((bs.set i 1065353216).map (cn .f32))) (chS p ns ((bs.set i 0).map (cn .f32)))
def pcL (p : Nat) (ns bs : List Nat) (k : Nat) : List Nat := (List.range k).map (pcK p ns bs)
def pcO (p : Int) (zs : List Int) (bs : List Nat) : Option (List Nat) := if chOk p zs bs then some (pcL p.toNat (downs zs) bs p.toNat) else none
theorem pcL_succ (p : Nat) (ns bs : List Nat) (k : Nat) : pcL p ns bs (k + 1) = pcL p ns bs k ++ [pcK p ns bs k] := by unfold pcL; rw [List.range_succ, List.map_append]; rfl
theorem pcO_len (p : Int) (zs : List Int) (bs : List Nat) : ((pcO p zs bs).getD []).length ≤ 1048576 := by
  unfold pcO
  split
  · rename_i h
    have := (chOk_get h).1.p10
    simp only [Option.getD_some, pcL, List.length_map, List.length_range]; omega
  · simp

set_option maxRecDepth 100000 in
set_option maxHeartbeats 4000000 in
theorem implPartChances_any (p : Int) (v u : Value) (zs : List Int) (bs : List Nat) (w : World) (r : RdI w v zs) (rb : RdF w u bs) :
    Calls Try.prog 56 #[.agg #[.int .i64 p, v], u] w (FlPost (pcO p zs bs) w) := by
  have r' := r
  have rb' := rb
  obtain ⟨-, a1, c1, rfl, -, -, -, -⟩ := r
  obtain ⟨⟨-, a2, c2, rfl, -, -, -, -⟩, -⟩ := rb
  have bx : Bx (w.alloc (.cells #[.int .i64 p, .slice a1 zs.length c1] 27)) w.heap.size [.int .i64 p, .slice a1 zs.length c1] := Bx.new _ _ _
  cases hok : chOk p zs bs
  · have HO : Hid (pcO p zs bs = none) := by show _ = _; unfold pcO; rw [hok]; rfl
    have HK := Lib.hid hok
    clear hok
    go_enter Try.func56, Try.ntmps56
    go_wp2_with fail
    refine (chanced_eq HK.out _ (r'.ext (Ext.alloc _ _)) (rb'.ext (Ext.alloc _ _))).mono ?_
    rintro e w1 ⟨rfl, hx⟩
    go_wp2_with fail
    go_ret2
    unfold FlPost
    rw [HO.out]
    exact ⟨(Ext.alloc _ _).trans hx, rfl⟩
  · have HK := Lib.hid hok
    obtain ⟨h1, h2, h3, h4⟩ := chOk_get hok
    obtain ⟨P, hP⟩ : ∃ P, P = p.toNat := ⟨_, rfl⟩
    rw [← hP] at h1 h2 h4
    have HO : Hid (pcO p zs bs = some (pcL P (downs zs) bs P)) := by show _ = _; unfold pcO; rw [hok, hP]; rfl
    subst h2
    clear hP hok
    have hp1 := h1.p1
    have hp10 := h1.p10
    have HC := Lib.hid (fun W (x : Ext w W) u cs (rc : RdF W u cs) (hl : cs.length = P) => chance_any P (.slice a1 zs.length c1) u (downs zs) cs W (by rw [← h3]; exact r'.ext x) rc h1 hl)
    have HSUC := Lib.hid (pcL_succ P (downs zs) bs)
    have HPK : Hid (∀ i, pcK P (downs zs) bs i = fop .sub .f32 (chS P (downs zs) ((bs.set i 1065353216).map (cn .f32))) (chS P (downs zs) ((bs.set i 0).map (cn .f32)))) := fun _ => rfl
    have HL := Lib.hid h4
    rw [h4] at rb'
    try rw [h4]
    have HBB := Lib.hid rb'.2
    clear h1 h3 h4
    go_enter Try.func56, Try.ntmps56
    go_wp2_with fail
    refine (chanced_eq HK.out _ (r'.ext (Ext.alloc _ _)) (rb'.ext (Ext.alloc _ _))).mono ?_
    rintro e w1 ⟨rfl, hx⟩
    replace bx := bx.ext hx
    have X : Ext w w1 := (Ext.alloc _ _).trans hx
    clear hx
    go_wp2_with fail
    go_loopw [17, 6] (fun i q wr => ∃ (k g cap : Nat) (os : List Nat), k ≤ P ∧ i = .int .i64 k ∧ q = .slice (some ⟨g, 0, none⟩) k cap ∧ os.length = k ∧ Hid (os.map (cn .f32) = pcL P (downs zs) bs k) ∧ Hid (∀ b ∈ os, b < 4294967296) ∧
        wr.ownsRow w1.heap.size 49 1 (.slice (some ⟨g, 0, none⟩) k cap) k (os.map (Value.float .f32)) ∧ Ext w1 wr) (fun i _ _ => P - (intOf i).toNat)
    case atStart => exact ⟨0, _, _, [], Nat.zero_le _, rfl, rfl, rfl, rfl, (by show ∀ _ ∈ _, _; simp), World.ownsRow_lit w1 #[] 0 (Nat.le_refl _) (by decide) rfl, Ext.alloc _ _⟩
    case round =>
      obtain ⟨k, g, cap, os, hk, rfl, rfl, hol, HOS, HOB, own, Z⟩ := hrel
      by_cases hlt : k < P
      · have hki : (k : Int) < (P : Int) := by omega
        have hPN := HSUC.out k
        have HPKK := Lib.hid (HPK.out k)
        have HLL := HL.out
        go_wp2_with fail
        refine (cloneFZ_any (.slice a2 P c2) bs _ (rb'.ext (X.trans Z)) (by omega) (by omega)).mono ?_
        rintro e w2 ⟨g2, cap2, rfl, own2, hx⟩
        rw [HLL] at own2 ⊢
        have own0 := own
        have Z0 := Z
        have own0 := own
        have Z0 := Z
        replace own := own_ext' own hx
        have hgt := own2.lt g2 rfl
        replace own2 := World.ownsRow.mono own2 Z.size
        replace Z := Z.trans hx
        clear hx
        have hcc := own2.cellAt k (by omega)
        rw [List.getElem?_map, List.getElem?_eq_getElem (by omega)] at hcc
        simp only [Option.map_some] at hcc
        have hff := own2.frozenAt k
        have hst := (own2.stored k (.float .f32 1065353216)).1
        rw [← List.map_set] at hst
        have hne1 : ¬ g2 = w.heap.size := by have := hgt.1; have := Z0.size; have := bx.1; omega
        have hne2 : ¬ w.heap.size = g2 := fun e => hne1 e.symm
        have hg2w : w1.heap.size ≤ g2 := Nat.le_trans Z0.size hgt.1
        have hgg : ¬ g = g2 := by have := (own0.lt g rfl).2; have := hgt.1; omega
        have own' := ownsRow_setCell_other (a := ⟨g2, k, none⟩) own (by simp [Value.ownBlock]; omega) (.float .f32 1065353216)
        have Z3 : Ext w1 (w2.setCell ⟨g2, k, none⟩ (.float .f32 1065353216)) := Z.setCell hg2w _
        have bx3 := bx.ext Z3
        have hl3 : (bs.set k 1065353216).length = P := by rw [List.length_set]; exact HLL
        have R3 : RdF (w2.setCell ⟨g2, k, none⟩ (.float .f32 1065353216)) (.slice (some ⟨g2, 0, none⟩) P cap2) (bs.set k 1065353216) := by
          refine ⟨by rw [hl3]; exact own_rd hst, fun b hb => ?_⟩
          rcases List.mem_or_eq_of_mem_set hb with h | h
          · exact HBB.out b h
          · subst h; decide
        have HST := Lib.hid hst
        have HZ3 := Lib.hid Z3
        have HBX3 := Lib.hid bx3
        have HOWN' := Lib.hid own'
        have HR3 := Lib.hid R3
        obtain ⟨k0, k1⟩ := (bx.ext Z).two
        clear hst own' Z3 bx3 R3
        generalize bs[k]'(by omega) = y at *
        go_wp2_with fail
        generalize hW3 : World.setCell w2 _ _ = w3 at *
        clear k0 k1 hcc hff hW3
        refine (HC.out _ (X.trans HZ3.out) _ _ HR3.out hl3).mono ?_
        rintro e w4 ⟨f1, rfl, hf1, hl1, hx⟩
        have HF1 := Lib.hid hf1
        have HFL1 := Lib.hid hl1
        have own4 := own_ext' HST.out hx
        have Z4 := Ext.trans HZ3.out hx
        have ownR := own_ext' HOWN'.out hx
        have hg4 := (own4.lt g2 rfl).2
        clear hf1 hl1 hx
        have hcc := own4.cellAt k (by omega)
        rw [List.getElem?_map, List.getElem?_eq_getElem (by omega)] at hcc
        simp only [Option.map_some] at hcc
        have hff := own4.frozenAt k
        have hst := (own4.stored k (.float .f32 0)).1
        rw [← List.map_set, List.set_set] at hst
        have own' := ownsRow_setCell_other (a := ⟨g2, k, none⟩) ownR (by simp [Value.ownBlock]; omega) (.float .f32 0)
        have Z5 : Ext w1 (w4.setCell ⟨g2, k, none⟩ (.float .f32 0)) := Z4.setCell hg2w _
        have hl5 : (bs.set k 0).length = P := by rw [List.length_set]; exact HLL
        have R5 : RdF (w4.setCell ⟨g2, k, none⟩ (.float .f32 0)) (.slice (some ⟨g2, 0, none⟩) P cap2) (bs.set k 0) := by
          refine ⟨by rw [hl5]; exact own_rd hst, fun b hb => ?_⟩
          rcases List.mem_or_eq_of_mem_set hb with h | h
          · exact HBB.out b h
          · subst h; decide
        have HZ5 := Lib.hid Z5
        have HOWN5 := Lib.hid own'
        have HR5 := Lib.hid R5
        obtain ⟨k0, k1⟩ := (bx.ext Z4).two
        have hbx5 := Lib.hid (bx.ext Z5)
        clear hst own' Z5 R5
        generalize (bs.set k 1065353216)[k]'(by omega) = y at *
        go_wp2_with fail
        generalize hW5 : World.setCell w4 _ _ = w5 at *
        clear k0 k1 hcc hff hW5
        refine (HC.out _ (X.trans HZ5.out) _ _ HR5.out hl5).mono ?_
        rintro e w6 ⟨f2, rfl, hf2, hl2, hx⟩
        have HF2 := Lib.hid hf2
        have own6 := own_ext' HOWN5.out hx
        have Z6 := Ext.trans HZ5.out hx
        clear hf2 hl2 hx
        go_wp2_with (first | (refine wpList_fop rfl rfl rfl rfl rfl ?_; intro fb nf hfb hfl; replace hfb := Lib.hid hfb; replace hfl := Lib.hid hfl) | (at_builtin; refine wpList_push infoF32 rfl Try.underlying48 rfl rfl rfl (World.ownsRow.alloc (w := World.drewN _ _) own6 _) rfl (Bx.new _ [_] _).one rfl (by omega) (by decide) (Z6.trans ((Ext.drewN _ _).trans (Ext.alloc _ _))).size ?_; intro g7 cap7 w7 hg7 own7 bel7 sz7))
        go_roundw
        case rel =>
          refine ⟨k + 1, g7, cap7, os ++ [fb], by omega, by go_num, rfl, by simp [hol], ?_, ?_, by rw [List.map_append]; exact own7, bel7 w1 (Z6.trans ((Ext.drewN _ _).trans (Ext.alloc _ _)))⟩
          · show _ = _
            rw [List.map_append, HOS.out, hPN, List.map_cons, hfb.out, HF1.out, HF2.out, HPKK.out]; rfl
          · show ∀ _ ∈ _, _
            intro x hx
            rcases List.mem_append.1 hx with h | h
            · exact HOB.out x h
            · obtain rfl := List.mem_singleton.1 h
              exact hfl.out
        case measure => simp [intOf]; omega
      · obtain rfl : k = P := by omega
        have hol' := Lib.hid hol
        go_wp2_with fail
        go_ret2
        unfold FlPost
        rw [HO.out]
        exact ⟨X.trans Z, g, cap, os, by rw [hol'.out]; rfl, HOS.out, HOB.out, by rw [hol'.out]; exact World.ownsRow.mono own X.size⟩
set_option maxRecDepth 100000 in
set_option maxHeartbeats 4000000 in
theorem specPartChances_any (p : Int) (v u : Value) (zs : List Int) (bs : List Nat) (w : World) (r : RdI w v zs) (rb : RdF w u bs) :
    Calls Try.prog 55 #[.agg #[.int .i64 p, v], u] w (FlPost (pcO p zs bs) w) := by
  have r' := r
  have rb' := rb
  obtain ⟨-, a1, c1, rfl, -, -, -, -⟩ := r
  obtain ⟨⟨-, a2, c2, rfl, -, -, -, -⟩, -⟩ := rb
  have bx : Bx (w.alloc (.cells #[.int .i64 p, .slice a1 zs.length c1] 27)) w.heap.size [.int .i64 p, .slice a1 zs.length c1] := Bx.new _ _ _
  have HV := Lib.hid (l03Is_sys p _ zs w.heap.size _ bx (r'.ext (Ext.alloc _ _)))
  cases hv : sysB p zs
  · have HO : Hid (pcO p zs bs = none) := by show _ = _; unfold pcO chOk; rw [hv]; rfl
    rw [hv] at HV
    clear hv
    go_enter Try.func55, Try.ntmps55
    go_wp2_with fail
    refine HV.out.mono ?_
    rintro e w1 ⟨rfl, hx⟩
    go_wp2_with fail
    go_ret2
    unfold FlPost
    rw [HO.out]
    exact ⟨(Ext.alloc _ _).trans hx, rfl⟩
  rw [hv] at HV
  cases hc : chancesB bs p
  · have HO : Hid (pcO p zs bs = none) := by show _ = _; unfold pcO chOk; rw [hc, Bool.and_false]; rfl
    have HC := Lib.hid hc
    clear hv hc
    go_enter Try.func55, Try.ntmps55
    go_wp2_with fail
    refine HV.out.mono ?_
    rintro e w1 ⟨rfl, hx⟩
    replace bx := bx.ext hx
    have X : Ext w w1 := (Ext.alloc _ _).trans hx
    obtain ⟨k0, k1⟩ := bx.two
    clear hx
    go_wp2_with fail
    refine (l03Chances_eq HC.out _ (rb'.ext X)).mono ?_
    rintro e w2 ⟨rfl, rfl⟩
    go_wp2_with fail
    go_ret2
    unfold FlPost
    rw [HO.out]
    exact ⟨X, rfl⟩
  · have hok : chOk p zs bs = true := by unfold chOk; rw [hv, hc]; rfl
    have HCB := Lib.hid hc
    clear hv hc
    obtain ⟨h1, h2, h3, h4⟩ := chOk_get hok
    obtain ⟨P, hP⟩ : ∃ P, P = p.toNat := ⟨_, rfl⟩
    rw [← hP] at h1 h2 h4
    have HO : Hid (pcO p zs bs = some (pcL P (downs zs) bs P)) := by show _ = _; unfold pcO; rw [hok, hP]; rfl
    subst h2
    clear hP hok
    have hp1 := h1.p1
    have hp10 := h1.p10
    have HC := Lib.hid (fun W (x : Ext w W) (b : Bx W w.heap.size [.int .i64 (P : Int), .slice a1 zs.length c1]) u cs (rc : RdF W u cs) (hl : cs.length = P) => l03Chance_any P (.slice a1 zs.length c1) u (downs zs) cs w.heap.size W b (by rw [← h3]; exact r'.ext x) rc h1 hl)
    have HSUC := Lib.hid (pcL_succ P (downs zs) bs)
    have HPK : Hid (∀ i, pcK P (downs zs) bs i = fop .sub .f32 (chS P (downs zs) ((bs.set i 1065353216).map (cn .f32))) (chS P (downs zs) ((bs.set i 0).map (cn .f32)))) := fun _ => rfl
    have HL := Lib.hid h4
    rw [h4] at rb'
    try rw [h4]
    have HBB := Lib.hid rb'.2
    clear h1 h3 h4
    go_enter Try.func55, Try.ntmps55
    go_wp2_with fail
    refine HV.out.mono ?_
    rintro e w1 ⟨rfl, hx⟩
    replace bx := bx.ext hx
    have X : Ext w w1 := (Ext.alloc _ _).trans hx
    obtain ⟨k0, k1⟩ := bx.two
    clear hx
    go_wp2_with fail
    refine (l03Chances_eq HCB.out _ (by have h9 := rb'.ext X; exact h9)).mono ?_
    rintro e w1 ⟨rfl, rfl⟩
    clear k0 k1
    go_wp2_with fail
    go_loopw [22, 6] (fun i q wr => ∃ (k g cap : Nat) (os : List Nat), k ≤ P ∧ i = .int .i64 k ∧ q = .slice (some ⟨g, 0, none⟩) k cap ∧ os.length = k ∧ Hid (os.map (cn .f32) = pcL P (downs zs) bs k) ∧ Hid (∀ b ∈ os, b < 4294967296) ∧
        wr.ownsRow w1.heap.size 49 1 (.slice (some ⟨g, 0, none⟩) k cap) k (os.map (Value.float .f32)) ∧ Ext w1 wr) (fun i _ _ => P - (intOf i).toNat)
    case atStart => exact ⟨0, _, _, [], Nat.zero_le _, rfl, rfl, rfl, rfl, (by show ∀ _ ∈ _, _; simp), World.ownsRow_lit w1 #[] 0 (Nat.le_refl _) (by decide) rfl, Ext.alloc _ _⟩
    case round =>
      obtain ⟨k, g, cap, os, hk, rfl, rfl, hol, HOS, HOB, own, Z⟩ := hrel
      by_cases hlt : k < P
      · have hki : (k : Int) < (P : Int) := by omega
        have hPN := HSUC.out k
        have HPKK := Lib.hid (HPK.out k)
        have HLL := HL.out
        go_wp2_with (at_builtin; refine wpList_copyZ infoF32 rfl (by decide) Try.underlying48 rfl rfl rfl (World.ownsRow_lit (base := wr.heap.size) (e := 49) (size := 1) wr #[] 0 (Nat.le_refl _) (by decide) rfl) rfl ((rb'.ext (X.trans Z)).1.alloc _) (by omega) (floatsZ_one bs) (by omega) (by decide) (by simp) ?_; intro g2 cap2 w2 hg own2 hgr; rw [HLL] at own2; rw [HLL]; have hx : Ext wr w2 := (below_alloc wr _).grown hgr (by simp) (fun k hk => by cases hk; exact Nat.le_refl _); have hcc0 := own2.cellAt k (by omega); rw [List.getElem?_map, List.getElem?_eq_getElem (by omega)] at hcc0; simp only [Option.map_some] at hcc0; have hff0 := own2.frozenAt k)
        have own0 := own
        have Z0 := Z
        have own0 := own
        have Z0 := Z
        replace own := own_ext' own hx
        have hgt := own2.lt g2 rfl
        replace own2 := World.ownsRow.mono own2 Z.size
        replace Z := Z.trans hx
        clear hx
        have hst := (own2.stored k (.float .f32 1065353216)).1
        rw [← List.map_set] at hst
        have hne1 : ¬ g2 = w.heap.size := by have := hgt.1; have := Z0.size; have := bx.1; omega
        have hne2 : ¬ w.heap.size = g2 := fun e => hne1 e.symm
        have hg2w : w1.heap.size ≤ g2 := Nat.le_trans Z0.size hgt.1
        have hgg : ¬ g = g2 := by have := (own0.lt g rfl).2; have := hgt.1; omega
        have own' := ownsRow_setCell_other (a := ⟨g2, k, none⟩) own (by simp [Value.ownBlock]; omega) (.float .f32 1065353216)
        have Z3 : Ext w1 (w2.setCell ⟨g2, k, none⟩ (.float .f32 1065353216)) := Z.setCell hg2w _
        have bx3 := bx.ext Z3
        have hl3 : (bs.set k 1065353216).length = P := by rw [List.length_set]; exact HLL
        have R3 : RdF (w2.setCell ⟨g2, k, none⟩ (.float .f32 1065353216)) (.slice (some ⟨g2, 0, none⟩) P cap2) (bs.set k 1065353216) := by
          refine ⟨by rw [hl3]; exact own_rd hst, fun b hb => ?_⟩
          rcases List.mem_or_eq_of_mem_set hb with h | h
          · exact HBB.out b h
          · subst h; decide
        have HST := Lib.hid hst
        have HZ3 := Lib.hid Z3
        have HBX3 := Lib.hid bx3
        have HOWN' := Lib.hid own'
        have HR3 := Lib.hid R3
        clear hst own' Z3 bx3 R3 hcc0 hff0
        generalize hW3 : World.setCell w2 _ _ = w3 at *
        clear hW3
        refine (HC.out _ (X.trans HZ3.out) HBX3.out _ _ HR3.out hl3).mono ?_
        rintro e w4 ⟨f1, rfl, hf1, hl1, hx⟩
        have HF1 := Lib.hid hf1
        have HFL1 := Lib.hid hl1
        have own4 := own_ext' HST.out hx
        have Z4 := Ext.trans HZ3.out hx
        have ownR := own_ext' HOWN'.out hx
        have hg4 := (own4.lt g2 rfl).2
        clear hf1 hl1 hx
        have hcc := own4.cellAt k (by omega)
        rw [List.getElem?_map, List.getElem?_eq_getElem (by omega)] at hcc
        simp only [Option.map_some] at hcc
        have hff := own4.frozenAt k
        have hst := (own4.stored k (.float .f32 0)).1
        rw [← List.map_set, List.set_set] at hst
        have own' := ownsRow_setCell_other (a := ⟨g2, k, none⟩) ownR (by simp [Value.ownBlock]; omega) (.float .f32 0)
        have Z5 : Ext w1 (w4.setCell ⟨g2, k, none⟩ (.float .f32 0)) := Z4.setCell hg2w _
        have hl5 : (bs.set k 0).length = P := by rw [List.length_set]; exact HLL
        have R5 : RdF (w4.setCell ⟨g2, k, none⟩ (.float .f32 0)) (.slice (some ⟨g2, 0, none⟩) P cap2) (bs.set k 0) := by
          refine ⟨by rw [hl5]; exact own_rd hst, fun b hb => ?_⟩
          rcases List.mem_or_eq_of_mem_set hb with h | h
          · exact HBB.out b h
          · subst h; decide
        have HZ5 := Lib.hid Z5
        have HOWN5 := Lib.hid own'
        have HR5 := Lib.hid R5
        have hbx5 := Lib.hid (bx.ext Z5)
        clear hst own' Z5 R5
        generalize (bs.set k 1065353216)[k]'(by omega) = y at *
        go_wp2_with fail
        generalize hW5 : World.setCell w4 _ _ = w5 at *
        clear hcc hff hW5
        refine (HC.out _ (X.trans HZ5.out) hbx5.out _ _ HR5.out hl5).mono ?_
        rintro e w6 ⟨f2, rfl, hf2, hl2, hx⟩
        have HF2 := Lib.hid hf2
        have own6 := own_ext' HOWN5.out hx
        have Z6 := Ext.trans HZ5.out hx
        clear hf2 hl2 hx
        go_wp2_with (first | (refine wpList_fop rfl rfl rfl rfl rfl ?_; intro fb nf hfb hfl; replace hfb := Lib.hid hfb; replace hfl := Lib.hid hfl) | (at_builtin; refine wpList_push infoF32 rfl Try.underlying48 rfl rfl rfl (World.ownsRow.alloc (w := World.drewN _ _) own6 _) rfl (Bx.new _ [_] _).one rfl (by omega) (by decide) (Z6.trans ((Ext.drewN _ _).trans (Ext.alloc _ _))).size ?_; intro g7 cap7 w7 hg7 own7 bel7 sz7))
        go_roundw
        case rel =>
          refine ⟨k + 1, g7, cap7, os ++ [fb], by omega, by go_num, rfl, by simp [hol], ?_, ?_, by rw [List.map_append]; exact own7, bel7 w1 (Z6.trans ((Ext.drewN _ _).trans (Ext.alloc _ _)))⟩
          · show _ = _
            rw [List.map_append, HOS.out, hPN, List.map_cons, hfb.out, HF1.out, HF2.out, HPKK.out]; rfl
          · show ∀ _ ∈ _, _
            intro x hx
            rcases List.mem_append.1 hx with h | h
            · exact HOB.out x h
            · obtain rfl := List.mem_singleton.1 h
              exact hfl.out
        case measure => simp [intOf]; omega
      · obtain rfl : k = P := by omega
        have hol' := Lib.hid hol
        go_wp2_with fail
        go_ret2
        unfold FlPost
        rw [HO.out]
        exact ⟨X.trans Z, g, cap, os, by rw [hol'.out]; rfl, HOS.out, HOB.out, by rw [hol'.out]; exact World.ownsRow.mono own X.size⟩
end Go.Proofs.Ytifhmkkgmchcmaa
