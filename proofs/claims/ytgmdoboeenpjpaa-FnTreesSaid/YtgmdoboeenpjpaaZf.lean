
/- PartChances, both sides. Condition: lists that can be read, of at most 2^20 numbers. -/
import Derived.Test.YtgmdoboeenpjpaaZA
import Derived.Test.YtgmdoboeenpjpaaYG
namespace Go.Proofs.Ytgmdoboeenpjpaa
open Go Go.RowKit Go.ChangeShapes Go.WideShapes Go.ChangeAt

attribute [local go_sem] run_store_float
attribute [local irreducible] LX

/-- append of all elements of a list that can be read to a list of the call's own. -/
theorem wpList_allZ {P : Program} {ops : Array Oper} {rest : List Oper} {o : Oper} {a : Act} {w : World} {Q : Exit → Act → World → Prop} {s x : Operand} {t e : TypeId} {z : Value} {k bytes base n m : Nat} {v sv : Value} {ys xs : List Value}
    (hinfo : (P.info? e).map (fun i => (i.zero, i.size, i.bytes)) = some (some z, k, bytes)) (hz : z.cells.size = k) (hk : 0 < k) (ht : P.underlying t = some (.slice e))
    (hgd : o.guard = none) (ho : o.op = .call { callee := .builtin .append, args := #[s, x], argTypes := #[t, t] })
    (hs : a.eval s = v) (hown : w.ownsRow base e k v n ys) (hx : a.eval x = sv) (r : Rd k w sv m xs) (hm : 0 < m) (h1 : ∀ u ∈ xs, u.oneCell' = true)
    (hn : n + m ≤ 8796093022208) (hb16 : bytes ≤ 16) (hbase : base ≤ w.heap.size)
    (h : ∀ g cap w', base ≤ g → w'.ownsRow base e k (.slice (some ⟨g, 0, none⟩) (n + m) cap) (n + m) (ys ++ xs) → w.grownBy w' v.ownBlock →
      wpList P ops Q rest (a.put o.dst (.slice (some ⟨g, 0, none⟩) (n + m) cap)) w') : wpList P ops Q (o :: rest) a w := by
  obtain ⟨i, hi, i1, i2, i3⟩ := info_parts hinfo
  obtain ⟨hl, a1, c1, rfl, hc1, hc2, hc3, hc4⟩ := r
  obtain ⟨p, rfl⟩ : ∃ p, a1 = some p := by
    cases a1 with
    | none => have := hc3 rfl; omega
    | some p => exact ⟨p, rfl⟩
  have hpos : 0 < m * k := Nat.mul_pos hm hk
  refine wpList_append_own w hgd s x t ho base e i z k bytes ht hi i1 i2 i3 hz hk v n ys hs hown p m c1 xs hx hl ?_ h1 (by simp only [maxLen]; omega) ?_ hbase ?_
  · intro j u hj
    have hjl : j < m * k := by rw [← hl]; exact (List.getElem?_eq_some_iff.1 hj).1
    obtain ⟨g1, g2, g3⟩ := hc4 p rfl j hjl
    have hadd : p.add j = ⟨p.block, p.off + j, none⟩ := by
      obtain ⟨b, off, sp⟩ := p
      simp only at g1; subst g1
      unfold Addr.add; split <;> simp_all
    rw [hadd, g3, hj]
  · have : (n + m) * bytes ≤ 8796093022208 * 16 := Nat.mul_le_mul hn hb16
    omega
  · intro v' w' hown' hg hnil
    obtain ⟨g, cap, rfl, hbg, _⟩ := own_head hown' (by omega)
    exact h g cap w' hbg hown' hg

/-- The same to an empty one. -/
theorem wpList_copyZ {P : Program} {ops : Array Oper} {rest : List Oper} {o : Oper} {a : Act} {w : World} {Q : Exit → Act → World → Prop} {s x : Operand} {t e : TypeId} {z : Value} {k bytes base m : Nat} {v sv : Value} {xs : List Value}
    (hinfo : (P.info? e).map (fun i => (i.zero, i.size, i.bytes)) = some (some z, k, bytes)) (hz : z.cells.size = k) (hk : 0 < k) (ht : P.underlying t = some (.slice e))
    (hgd : o.guard = none) (ho : o.op = .call { callee := .builtin .append, args := #[s, x], argTypes := #[t, t] })
    (hs : a.eval s = v) (hown : w.ownsRow base e k v 0 []) (hx : a.eval x = sv) (r : Rd k w sv m xs) (hm : 0 < m) (h1 : ∀ u ∈ xs, u.oneCell' = true)
    (hn : m ≤ 8796093022208) (hb16 : bytes ≤ 16) (hbase : base ≤ w.heap.size)
    (h : ∀ g cap w', base ≤ g → w'.ownsRow base e k (.slice (some ⟨g, 0, none⟩) m cap) m xs → w.grownBy w' v.ownBlock →
      wpList P ops Q rest (a.put o.dst (.slice (some ⟨g, 0, none⟩) m cap)) w') : wpList P ops Q (o :: rest) a w := by
  refine wpList_allZ hinfo hz hk ht hgd ho hs hown hx r hm h1 (by omega) hb16 hbase fun g cap w' hg own hgr => ?_
  rw [Nat.zero_add] at own ⊢
  exact h g cap w' hg own hgr

theorem floatsZ_one (bs : List Nat) : ∀ u ∈ bs.map (Value.float .f32), u.oneCell' = true := by
  intro u hu; obtain ⟨b, _, rfl⟩ := List.mem_map.1 hu; rfl

set_option maxHeartbeats 1000000 in
theorem cloneFZ_any (v : Value) (bs : List Nat) (w : World) (r : RdF w v bs) (h0 : 0 < bs.length) (hz : bs.length ≤ 1048576) :
    Calls Try.prog 48 #[v] w fun e w' => ∃ g cap, e = .returned (.slice (some ⟨g, 0, none⟩) bs.length cap) ∧ w'.ownsRow w.heap.size 31 1 (.slice (some ⟨g, 0, none⟩) bs.length cap) bs.length (bs.map (Value.float .f32)) ∧ Ext w w' := by
  have r' := r
  obtain ⟨b0, o0, hb0, -, -, -⟩ : ∃ b off, (match v with | .slice a _ _ => a | _ => none) = some ⟨b, off, none⟩ ∧ True ∧ True ∧ True := by
    obtain ⟨⟨_, a1, c1, rfl, _⟩, _⟩ := r
    obtain ⟨b, o, h, _⟩ := r'.at h0
    exact ⟨b, o, h, trivial, trivial, trivial⟩
  obtain ⟨⟨-, a1, c1, rfl, -, -, -, -⟩, -⟩ := r
  simp only at hb0
  subst hb0
  have hnil : ∀ W, (binOp .eql 29 (.slice (some ⟨b0, o0, none⟩) bs.length c1) (.slice none 0 0)).run Try.prog W = .ok (.bool false) W := fun W => Lib.run_eql_slice_nil W 29 31 (some ⟨b0, o0, none⟩) bs.length c1 0 0 Try.underlying29
  go_enter Try.func48, Try.ntmps48
  go_wp2_with (at_builtin; refine wpList_copyZ infoF32 rfl (by decide) Try.underlying29 rfl rfl rfl (World.ownsRow_lit (base := w.heap.size) (e := 31) (size := 1) w #[] 0 (Nat.le_refl _) (by decide) rfl) rfl (r'.1.alloc _) h0 (floatsZ_one bs) (by omega) (by decide) (by simp) ?_; intro g cap w' hg own hgr)
  go_ret
  exact ⟨g, cap, rfl, own, (below_alloc w _).grown hgr (by simp) (fun k hk => by cases hk; exact Nat.le_refl _)⟩

/-- How much more likely a system works with a part. -/
def pcK (p : Nat) (ns bs : List Nat) (i : Nat) : Nat := fop .sub .f32 (chS p ns ((bs.set i 1065353216).map (cn .f32))) (chS p ns ((bs.set i 0).map (cn .f32)))
def pcL (p : Nat) (ns bs : List Nat) (k : Nat) : List Nat := (List.range k).map (pcK p ns bs)
def pcO (p : Int) (zs : List Int) (bs : List Nat) : Option (List Nat) := if chOk p zs bs then some (pcL p.toNat (downs zs) bs p.toNat) else none
theorem pcL_succ (p : Nat) (ns bs : List Nat) (k : Nat) : pcL p ns bs (k + 1) = pcL p ns bs k ++ [pcK p ns bs k] := by unfold pcL; rw [List.range_succ, List.map_append]; rfl
theorem pcO_len (p : Int) (zs : List Int) (bs : List Nat) : ((pcO p zs bs).getD []).length ≤ 1048576 := by
  unfold pcO
  split
  · rename_i h
    have := (chOk_get h).1.p10
    simp only [Option.getD_some, pcL, List.length_map, List.length_range]; omega
  · simp

set_option maxRecDepth 100000 in
set_option maxHeartbeats 4000000 in
theorem implPartChances_any (p : Int) (v u : Value) (zs : List Int) (bs : List Nat) (w : World) (r : RdI w v zs) (rb : RdF w u bs) :
    Calls Try.prog 12 #[.agg #[.int .i64 p, v], u] w (FlPost (pcO p zs bs) w) := by
  have r' := r
  have rb' := rb
  obtain ⟨-, a1, c1, rfl, -, -, -, -⟩ := r
  obtain ⟨⟨-, a2, c2, rfl, -, -, -, -⟩, -⟩ := rb
  have bx : Bx (w.alloc (.cells #[.int .i64 p, .slice a1 zs.length c1] 27)) w.heap.size [.int .i64 p, .slice a1 zs.length c1] := Bx.new _ _ _
  cases hok : chOk p zs bs
  · have HO : Hid (pcO p zs bs = none) := by show _ = _; unfold pcO; rw [hok]; rfl
    have HK := Lib.hid hok
    clear hok
    go_enter Try.func12, Try.ntmps12
    go_wp2_with fail
    refine (chanced_eq HK.out _ (r'.ext (Ext.alloc _ _)) (rb'.ext (Ext.alloc _ _))).mono ?_
    rintro e w1 ⟨rfl, hx⟩
    go_wp2_with fail
    go_ret2
    unfold FlPost
    rw [HO.out]
    exact ⟨(Ext.alloc _ _).trans hx, rfl⟩
  · have HK := Lib.hid hok
    obtain ⟨h1, h2, h3, h4⟩ := chOk_get hok
    obtain ⟨P, hP⟩ : ∃ P, P = p.toNat := ⟨_, rfl⟩
    rw [← hP] at h1 h2 h4
    have HO : Hid (pcO p zs bs = some (pcL P (downs zs) bs P)) := by show _ = _; unfold pcO; rw [hok, hP]; rfl
    subst h2
    clear hP hok
    have hp1 := h1.p1
    have hp10 := h1.p10
    have HC := Lib.hid (fun W (x : Ext w W) u cs (rc : RdF W u cs) (hl : cs.length = P) => chance_any P (.slice a1 zs.length c1) u (downs zs) cs W (by rw [← h3]; exact r'.ext x) rc h1 hl)
    have HSUC := Lib.hid (pcL_succ P (downs zs) bs)
    have HPK : Hid (∀ i, pcK P (downs zs) bs i = fop .sub .f32 (chS P (downs zs) ((bs.set i 1065353216).map (cn .f32))) (chS P (downs zs) ((bs.set i 0).map (cn .f32)))) := fun _ => rfl
    have HL := Lib.hid h4
    rw [h4] at rb'
    try rw [h4]
    have HBB := Lib.hid rb'.2
    clear h1 h3 h4
    go_enter Try.func12, Try.ntmps12
    go_wp2_with fail
    refine (chanced_eq HK.out _ (r'.ext (Ext.alloc _ _)) (rb'.ext (Ext.alloc _ _))).mono ?_
    rintro e w1 ⟨rfl, hx⟩
    replace bx := bx.ext hx
    have X : Ext w w1 := (Ext.alloc _ _).trans hx
    clear hx
    go_wp2_with fail
    go_loopw [17, 6] (fun i q wr => ∃ (k g cap : Nat) (os : List Nat), k ≤ P ∧ i = .int .i64 k ∧ q = .slice (some ⟨g, 0, none⟩) k cap ∧ os.length = k ∧ Hid (os.map (cn .f32) = pcL P (downs zs) bs k) ∧ Hid (∀ b ∈ os, b < 4294967296) ∧
        wr.ownsRow w1.heap.size 31 1 (.slice (some ⟨g, 0, none⟩) k cap) k (os.map (Value.float .f32)) ∧ Ext w1 wr) (fun i _ _ => P - (intOf i).toNat)
    case atStart => exact ⟨0, _, _, [], Nat.zero_le _, rfl, rfl, rfl, rfl, (by show ∀ _ ∈ _, _; simp), World.ownsRow_lit w1 #[] 0 (Nat.le_refl _) (by decide) rfl, Ext.alloc _ _⟩
    case round =>
      obtain ⟨k, g, cap, os, hk, rfl, rfl, hol, HOS, HOB, own, Z⟩ := hrel
      by_cases hlt : k < P
      · have hki : (k : Int) < (P : Int) := by omega
        have hPN := HSUC.out k
        have HPKK := Lib.hid (HPK.out k)
        have HLL := HL.out
        go_wp2_with fail
        refine (cloneFZ_any (.slice a2 P c2) bs _ (rb'.ext (X.trans Z)) (by omega) (by omega)).mono ?_
        rintro e w2 ⟨g2, cap2, rfl, own2, hx⟩
        rw [HLL] at own2 ⊢
        have own0 := own
        have Z0 := Z
        have own0 := own
        have Z0 := Z
        replace own := own_ext' own hx
        have hgt := own2.lt g2 rfl
        replace own2 := World.ownsRow.mono own2 Z.size
        replace Z := Z.trans hx
        clear hx
        have hcc := own2.cellAt k (by omega)
        rw [List.getElem?_map, List.getElem?_eq_getElem (by omega)] at hcc
        simp only [Option.map_some] at hcc
        have hff := own2.frozenAt k
        have hst := (own2.stored k (.float .f32 1065353216)).1
        rw [← List.map_set] at hst
        have hne1 : ¬ g2 = w.heap.size := by have := hgt.1; have := Z0.size; have := bx.1; omega
        have hne2 : ¬ w.heap.size = g2 := fun e => hne1 e.symm
        have hg2w : w1.heap.size ≤ g2 := Nat.le_trans Z0.size hgt.1
        have hgg : ¬ g = g2 := by have := (own0.lt g rfl).2; have := hgt.1; omega
        have own' := ownsRow_setCell_other (a := ⟨g2, k, none⟩) own (by simp [Value.ownBlock]; omega) (.float .f32 1065353216)
        have Z3 : Ext w1 (w2.setCell ⟨g2, k, none⟩ (.float .f32 1065353216)) := Z.setCell hg2w _
        have bx3 := bx.ext Z3
        have hl3 : (bs.set k 1065353216).length = P := by rw [List.length_set]; exact HLL
        have R3 : RdF (w2.setCell ⟨g2, k, none⟩ (.float .f32 1065353216)) (.slice (some ⟨g2, 0, none⟩) P cap2) (bs.set k 1065353216) := by
          refine ⟨by rw [hl3]; exact own_rd hst, fun b hb => ?_⟩
          rcases List.mem_or_eq_of_mem_set hb with h | h
          · exact HBB.out b h
          · subst h; decide
        have HST := Lib.hid hst
        have HZ3 := Lib.hid Z3
        have HBX3 := Lib.hid bx3
        have HOWN' := Lib.hid own'
        have HR3 := Lib.hid R3
        obtain ⟨k0, k1⟩ := (bx.ext Z).two
        clear hst own' Z3 bx3 R3
        generalize bs[k]'(by omega) = y at *
        go_wp2_with fail
        generalize hW3 : World.setCell w2 _ _ = w3 at *
        clear k0 k1 hcc hff hW3
        refine (HC.out _ (X.trans HZ3.out) _ _ HR3.out hl3).mono ?_
        rintro e w4 ⟨f1, rfl, hf1, hl1, hx⟩
        have HF1 := Lib.hid hf1
        have HFL1 := Lib.hid hl1
        have own4 := own_ext' HST.out hx
        have Z4 := Ext.trans HZ3.out hx
        have ownR := own_ext' HOWN'.out hx
        have hg4 := (own4.lt g2 rfl).2
        clear hf1 hl1 hx
        have hcc := own4.cellAt k (by omega)
        rw [List.getElem?_map, List.getElem?_eq_getElem (by omega)] at hcc
        simp only [Option.map_some] at hcc
        have hff := own4.frozenAt k
        have hst := (own4.stored k (.float .f32 0)).1
        rw [← List.map_set, List.set_set] at hst
        have own' := ownsRow_setCell_other (a := ⟨g2, k, none⟩) ownR (by simp [Value.ownBlock]; omega) (.float .f32 0)
        have Z5 : Ext w1 (w4.setCell ⟨g2, k, none⟩ (.float .f32 0)) := Z4.setCell hg2w _
        have hl5 : (bs.set k 0).length = P := by rw [List.length_set]; exact HLL
        have R5 : RdF (w4.setCell ⟨g2, k, none⟩ (.float .f32 0)) (.slice (some ⟨g2, 0, none⟩) P cap2) (bs.set k 0) := by
          refine ⟨by rw [hl5]; exact own_rd hst, fun b hb => ?_⟩
          rcases List.mem_or_eq_of_mem_set hb with h | h
          · exact HBB.out b h
          · subst h; decide
        have HZ5 := Lib.hid Z5
        have HOWN5 := Lib.hid own'
        have HR5 := Lib.hid R5
        obtain ⟨k0, k1⟩ := (bx.ext Z4).two
        have hbx5 := Lib.hid (bx.ext Z5)
        clear hst own' Z5 R5
        generalize (bs.set k 1065353216)[k]'(by omega) = y at *
        go_wp2_with fail
        generalize hW5 : World.setCell w4 _ _ = w5 at *
        clear k0 k1 hcc hff hW5
        refine (HC.out _ (X.trans HZ5.out) _ _ HR5.out hl5).mono ?_
        rintro e w6 ⟨f2, rfl, hf2, hl2, hx⟩
        have HF2 := Lib.hid hf2
        have own6 := own_ext' HOWN5.out hx
        have Z6 := Ext.trans HZ5.out hx
        clear hf2 hl2 hx
        go_wp2_with (first | (refine wpList_fop rfl rfl rfl rfl rfl ?_; intro fb nf hfb hfl; replace hfb := Lib.hid hfb; replace hfl := Lib.hid hfl) | (at_builtin; refine wpList_push infoF32 rfl Try.underlying29 rfl rfl rfl (World.ownsRow.alloc (w := World.drewN _ _) own6 _) rfl (Bx.new _ [_] _).one rfl (by omega) (by decide) (Z6.trans ((Ext.drewN _ _).trans (Ext.alloc _ _))).size ?_; intro g7 cap7 w7 hg7 own7 bel7 sz7))
        go_roundw
        case rel =>
          refine ⟨k + 1, g7, cap7, os ++ [fb], by omega, by go_num, rfl, by simp [hol], ?_, ?_, by rw [List.map_append]; exact own7, bel7 w1 (Z6.trans ((Ext.drewN _ _).trans (Ext.alloc _ _)))⟩
          · show _ = _
            rw [List.map_append, HOS.out, hPN, List.map_cons, hfb.out, HF1.out, HF2.out, HPKK.out]; rfl
          · show ∀ _ ∈ _, _
            intro x hx
            rcases List.mem_append.1 hx with h | h
            · exact HOB.out x h
            · obtain rfl := List.mem_singleton.1 h
              exact hfl.out
        case measure => simp [intOf]; omega
      · obtain rfl : k = P := by omega
        have hol' := Lib.hid hol
        go_wp2_with fail
        go_ret2
        unfold FlPost
        rw [HO.out]
        exact ⟨X.trans Z, g, cap, os, by rw [hol'.out]; rfl, HOS.out, HOB.out, by rw [hol'.out]; exact World.ownsRow.mono own X.size⟩
end Go.Proofs.Ytgmdoboeenpjpaa
/- SharedShock, both sides. Condition: lists that can be read, of at most 2^20 numbers. -/
namespace Go.Proofs.Ytgmdoboeenpjpaa
open Go Go.RowKit Go.ChangeShapes Go.WideShapes Go.ChangeAt

attribute [local go_sem] run_store_float
attribute [local irreducible] LX

/-- The chances with those of the parts of a set struck, of the first i parts. -/
def hitR (t : Nat) (bs : List Nat) : Nat → List Nat
  | 0 => bs
  | i + 1 => if t.testBit i then (hitR t bs i).set i 0 else hitR t bs i
theorem hitR_len (t : Nat) (bs : List Nat) : ∀ i, (hitR t bs i).length = bs.length
  | 0 => rfl
  | i + 1 => by unfold hitR; split <;> simp [hitR_len t bs i]
theorem hitR_lt {t : Nat} {bs : List Nat} (h : ∀ b ∈ bs, b < 4294967296) : ∀ i, ∀ b ∈ hitR t bs i, b < 4294967296
  | 0 => h
  | i + 1 => by
    unfold hitR
    split
    · intro b hb
      rcases List.mem_or_eq_of_mem_set hb with h1 | h1
      · exact hitR_lt h i b h1
      · subst h1; decide
    · exact hitR_lt h i
def ssOk (p : Int) (zs : List Int) (bs : List Nat) (t : Int) (h : Nat) : Bool := chOk p zs bs && inB t 0 (2 ^ p.toNat - 1) && shareB h
def ssV (p : Nat) (ns bs : List Nat) (t h : Nat) : Nat :=
  fop .add .f32 (fop .mul .f32 h (chS p ns ((hitR t bs p).map (cn .f32)))) (fop .mul .f32 (fop .sub .f32 oneF h) (chS p ns (bs.map (cn .f32))))
def ssO (p : Int) (zs : List Int) (bs : List Nat) (t : Int) (h : Nat) : Option Nat := if ssOk p zs bs t h then some (ssV p.toNat (downs zs) bs t.toNat h) else none

theorem shareI_eq {b : Nat} {c : Bool} (h : shareB (cn .f32 b) = c) (w : World) : Calls Try.prog 54 #[.float .f32 b] w fun e w' => e = .returned (.bool c) ∧ w = w' := isShare_eq h w

set_option maxRecDepth 100000 in
set_option maxHeartbeats 4000000 in
theorem implSharedShock_any (p t : Int) (h : Nat) (v u : Value) (zs : List Int) (bs : List Nat) (w : World) (r : RdI w v zs) (rb : RdF w u bs) :
    Calls Try.prog 15 #[.agg #[.int .i64 p, v], u, .int .i64 t, .float .f32 h] w (NmPost (ssO p zs bs t (cn .f32 h)) w) := by
  have r' := r
  have rb' := rb
  obtain ⟨-, a1, c1, rfl, -, -, -, -⟩ := r
  obtain ⟨⟨-, a2, c2, rfl, -, -, -, -⟩, -⟩ := rb
  have bx : Bx (w.alloc (.cells #[.int .i64 p, .slice a1 zs.length c1] 27)) w.heap.size [.int .i64 p, .slice a1 zs.length c1] := Bx.new _ _ _
  cases hok : chOk p zs bs
  · have HO : Hid (ssO p zs bs t (cn .f32 h) = none) := by show _ = _; unfold ssO ssOk; rw [hok]; rfl
    have HK := Lib.hid hok
    clear hok
    go_enter Try.func15, Try.ntmps15
    go_wp2_with fail
    refine (chanced_eq HK.out _ (r'.ext (Ext.alloc _ _)) (rb'.ext (Ext.alloc _ _))).mono ?_
    rintro e w1 ⟨rfl, hx⟩
    go_wp2_with fail
    go_ret2
    unfold NmPost
    rw [HO.out]
    exact ⟨(Ext.alloc _ _).trans hx, rfl⟩
  have HK := Lib.hid hok
  obtain ⟨h1, h2, h3, h4⟩ := chOk_get hok
  obtain ⟨P, hP⟩ : ∃ P, P = p.toNat := ⟨_, rfl⟩
  rw [← hP] at h1 h2 h4
  subst h2
  have hp1 := h1.p1
  have hp10 := h1.p10
  have HALL := Lib.hid (fun W v => sysAll_any (P : Int) v W (by omega) (by omega))
  cases hs : inB t 0 (2 ^ (P : Int).toNat - 1)
  · have HO : Hid (ssO (P : Int) zs bs t (cn .f32 h) = none) := by show _ = _; unfold ssO ssOk; rw [hs, Bool.and_false, Bool.false_and]; rfl
    have HS := Lib.hid hs
    clear hok hs h1 h3 h4 hP
    go_enter Try.func15, Try.ntmps15
    go_wp2_with fail
    refine (chanced_eq HK.out _ (r'.ext (Ext.alloc _ _)) (rb'.ext (Ext.alloc _ _))).mono ?_
    rintro e w1 ⟨rfl, hx⟩
    replace bx := bx.ext hx
    have X : Ext w w1 := (Ext.alloc _ _).trans hx
    obtain ⟨k0, k1⟩ := bx.two
    clear hx
    go_wp2_with fail
    refine (HALL.out _ _).mono ?_
    rintro e w2 ⟨rfl, hx⟩
    go_wp2_with fail
    refine (within_eq HS.out _).mono ?_
    rintro e w3 ⟨rfl, rfl⟩
    go_wp2_with fail
    go_ret2
    unfold NmPost
    rw [HO.out]
    exact ⟨X.trans hx, rfl⟩
  cases hh : shareB (cn .f32 h)
  · have HO : Hid (ssO (P : Int) zs bs t (cn .f32 h) = none) := by show _ = _; unfold ssO ssOk; rw [hh, Bool.and_false]; rfl
    have HS := Lib.hid hs
    have HH := Lib.hid hh
    clear hok hs hh h1 h3 h4 hP
    go_enter Try.func15, Try.ntmps15
    go_wp2_with fail
    refine (chanced_eq HK.out _ (r'.ext (Ext.alloc _ _)) (rb'.ext (Ext.alloc _ _))).mono ?_
    rintro e w1 ⟨rfl, hx⟩
    replace bx := bx.ext hx
    have X : Ext w w1 := (Ext.alloc _ _).trans hx
    obtain ⟨k0, k1⟩ := bx.two
    clear hx
    go_wp2_with fail
    refine (HALL.out _ _).mono ?_
    rintro e w2 ⟨rfl, hx⟩
    go_wp2_with fail
    refine (within_eq HS.out _).mono ?_
    rintro e w3 ⟨rfl, rfl⟩
    go_wp2_with fail
    refine (isShare_eq HH.out _).mono ?_
    rintro e w4 ⟨rfl, rfl⟩
    go_wp2_with fail
    go_ret2
    unfold NmPost
    rw [HO.out]
    exact ⟨X.trans hx, rfl⟩
  · have hs2 := inB_iff.1 hs
    have hpw := pow10' (p := (P : Int)) (by omega) (by omega)
    obtain ⟨T, rfl⟩ := Int.eq_ofNat_of_zero_le (show 0 ≤ t by omega)
    have hT : T < 1024 := by omega
    have HO : Hid (ssO (P : Int) zs bs (T : Int) (cn .f32 h) = some (fop .add .f32 (fop .mul .f32 (cn .f32 h) (chS P (downs zs) ((hitR T bs P).map (cn .f32)))) (fop .mul .f32 (fop .sub .f32 oneF (cn .f32 h)) (chS P (downs zs) (bs.map (cn .f32)))))) := by
      show _ = _; unfold ssO ssOk; rw [hok, hs, hh]; rfl
    have HS := Lib.hid hs
    have HH := Lib.hid hh
    have HC := Lib.hid (fun W (x : Ext w W) u cs (rc : RdF W u cs) (hl : cs.length = P) => chance_any P (.slice a1 zs.length c1) u (downs zs) cs W (by rw [← h3]; exact r'.ext x) rc h1 hl)
    have HLN := Lib.hid (hitR_len T bs)
    have HLT := Lib.hid (fun i => hitR_lt (t := T) rb'.2 i)
    have HL := Lib.hid h4
    rw [h4] at rb'
    try rw [h4]
    clear hok hs hh h1 h3 h4 hP hpw hs2
    go_enter Try.func15, Try.ntmps15
    go_wp2_with fail
    refine (chanced_eq HK.out _ (r'.ext (Ext.alloc _ _)) (rb'.ext (Ext.alloc _ _))).mono ?_
    rintro e w1 ⟨rfl, hx⟩
    replace bx := bx.ext hx
    have X : Ext w w1 := (Ext.alloc _ _).trans hx
    obtain ⟨k0, k1⟩ := bx.two
    clear hx
    go_wp2_with fail
    refine (HALL.out _ _).mono ?_
    rintro e w2 ⟨rfl, hx⟩
    clear k0 k1
    replace bx := bx.ext hx
    replace X := X.trans hx
    clear hx w1
    go_wp2_with fail
    refine (within_eq HS.out _).mono ?_
    rintro e w3 ⟨rfl, rfl⟩
    go_wp2_with fail
    refine (isShare_eq HH.out _).mono ?_
    rintro e w4 ⟨rfl, rfl⟩
    have HLL := HL.out
    go_wp2_with fail
    refine (cloneFZ_any (.slice a2 P c2) bs _ (rb'.ext X) (by omega) (by omega)).mono ?_
    rintro e w3 ⟨g2, cap2, rfl, own2, hx⟩
    rw [HLL] at own2 ⊢
    have hgt := own2.lt g2 rfl
    have own0 : w3.ownsRow w2.heap.size 31 1 (.slice (some ⟨g2, 0, none⟩) P cap2) P ((hitR T bs 0).map (Value.float .f32)) := own2
    clear own2
    go_wp2_with fail
    go_loopw [32] (fun i wr => ∃ k : Nat, k ≤ P ∧ i = .int .i64 k ∧ Ext w2 wr ∧ wr.ownsRow w2.heap.size 31 1 (.slice (some ⟨g2, 0, none⟩) P cap2) P ((hitR T bs k).map (Value.float .f32))) (fun i _ => P - (intOf i).toNat)
    case atStart => exact ⟨0, Nat.zero_le _, rfl, hx, own0⟩
    case round =>
      clear own0 hx
      obtain ⟨k, hk, rfl, Z, own⟩ := hrel
      have hlk := HLN.out k
      by_cases hlt : k < P
      · have hki : (k : Int) < (P : Int) := by omega
        have hk63 : (k : Int) < 64 := by omega
        have hba := bitC_and T k hT
        have hsd0 : 0 ≤ (T : Int) / 2 ^ k := Int.ediv_nonneg (by omega) (Int.le_of_lt (Int.pow_pos (by decide)))
        have hcc := own.cellAt k (by omega)
        rw [List.getElem?_map, List.getElem?_eq_getElem (by omega)] at hcc
        simp only [Option.map_some] at hcc
        have hff := own.frozenAt k
        have hst := (own.stored k (.float .f32 0)).1
        rw [← List.map_set] at hst
        have HST := Lib.hid hst
        clear hst
        generalize (hitR T bs k)[k]'(by omega) = y at *
        cases hb : T.testBit k
        · have HE : Hid (hitR T bs (k + 1) = hitR T bs k) := by show _ = _; rw [hitR, hb]; rfl
          rw [hb] at hba
          simp only [Bool.false_eq_true, if_false] at hba
          clear hb
          go_wp2_with fail
          go_roundw
          case rel => exact ⟨k + 1, by omega, by go_num, Z, by rw [HE.out]; exact own⟩
          case measure => simp [intOf]; omega
        · have HE : Hid (hitR T bs (k + 1) = (hitR T bs k).set k 0) := by show _ = _; rw [hitR, hb]; rfl
          rw [hb] at hba
          simp only [if_true] at hba
          clear hb
          go_wp2_with fail
          go_roundw
          case rel => exact ⟨k + 1, by omega, by go_num, Z.setCell hgt.1 _, by rw [HE.out]; exact HST.out⟩
          case measure => simp [intOf]; omega
      · obtain rfl : k = P := by omega
        have RH : RdF wr (.slice (some ⟨g2, 0, none⟩) k cap2) (hitR T bs k) := ⟨by rw [hlk, HLL]; exact own_rd own, HLT.out k⟩
        have hlh : (hitR T bs k).length = k := by rw [hlk]; exact HLL
        have HC1 := Lib.hid (fun W (x : Ext wr W) => HC.out W (X.trans (Z.trans x)) _ _ (RH.ext x) hlh)
        have HC2 := Lib.hid (fun W (x : Ext wr W) => HC.out W (X.trans (Z.trans x)) _ _ (rb'.ext (X.trans (Z.trans x))) HLL)
        have bxr := bx.ext Z
        generalize hC1 : chS k (downs zs) ((hitR T bs k).map (cn .f32)) = cA at *
        generalize hC2 : chS k (downs zs) (bs.map (cn .f32)) = cB at *
        clear hC1 hC2 RH hlh hlk own
        go_wp2_with fail
        refine wp_region_rel 12 (fun i v => ∃ b, v = .float .f32 b ∧ cn .f32 b = (if i = 3 then cA else cB) ∧ b < 4294967296) (fun _ _ _ => True) (by kernel_rfl) (by kernel_rfl) (by kernel_rfl) ?_
        dsimp only [List.take, List.drop, List.length]
        refine LX_det (.float .f32 h) (by kernel_rfl) rfl (fun w' hx _ => ?_) ?_
        · go_simp
        refine LX_det (.agg #[.int .i64 k, .slice a1 zs.length c1]) (by kernel_rfl) rfl (fun w' hx _ => ?_) ?_
        · obtain ⟨m0, m1⟩ := (bxr.ext hx).two
          go_simp
        refine LX_det (.slice (some ⟨g2, 0, none⟩) k cap2) (by kernel_rfl) rfl (fun w' hx _ => ?_) ?_
        · go_simp
        refine LX_call (by kernel_rfl) rfl (fun _ => St.top) (fun w' hx _ => ?_) ?_
        · go_simp
          refine UponC.enter ((HC1.out _ hx).mono ?_)
          rintro e w'' ⟨b, rfl, hb1, hb2, hx'⟩
          exact ⟨_, rfl, hx', ⟨b, rfl, hb1, hb2⟩, trivial⟩
        rintro _ ⟨bA, rfl, hA1, hA2⟩
        simp only [Act.put, List.setIfInBounds_toArray, List.set_cons_succ, List.set_cons_zero]
        refine LX_fop (by kernel_rfl) rfl rfl rfl rfl ?_
        intro f1 hf1 hl1
        replace hf1 := Lib.hid hf1
        replace hl1 := Lib.hid hl1
        simp only [Act.put, List.setIfInBounds_toArray, List.set_cons_succ, List.set_cons_zero]
        refine LX_det (.float .f32 h) (by kernel_rfl) rfl (fun w' hx _ => ?_) ?_
        · go_simp
        refine LX_fop (by kernel_rfl) rfl rfl rfl rfl ?_
        intro f2 hf2 hl2
        replace hf2 := Lib.hid hf2
        replace hl2 := Lib.hid hl2
        simp only [Act.put, List.setIfInBounds_toArray, List.set_cons_succ, List.set_cons_zero]
        refine LX_det (.agg #[.int .i64 k, .slice a1 zs.length c1]) (by kernel_rfl) rfl (fun w' hx _ => ?_) ?_
        · obtain ⟨m0, m1⟩ := (bxr.ext hx).two
          go_simp
        refine LX_det (.slice a2 k c2) (by kernel_rfl) rfl (fun w' hx _ => ?_) ?_
        · go_simp
        refine LX_call (by kernel_rfl) rfl (fun _ => St.top) (fun w' hx _ => ?_) ?_
        · go_simp
          refine UponC.enter ((HC2.out _ hx).mono ?_)
          rintro e w'' ⟨b, rfl, hb1, hb2, hx'⟩
          exact ⟨_, rfl, hx', ⟨b, rfl, hb1, hb2⟩, trivial⟩
        rintro _ ⟨bB, rfl, hB1, hB2⟩
        simp only [Act.put, List.setIfInBounds_toArray, List.set_cons_succ, List.set_cons_zero]
        refine LX_fop (by kernel_rfl) rfl rfl rfl rfl ?_
        intro f3 hf3 hl3
        replace hf3 := Lib.hid hf3
        replace hl3 := Lib.hid hl3
        simp only [Act.put, List.setIfInBounds_toArray, List.set_cons_succ, List.set_cons_zero]
        refine LX_fop (by kernel_rfl) rfl rfl rfl rfl ?_
        intro f4 hf4 hl4
        replace hf4 := Lib.hid hf4
        replace hl4 := Lib.hid hl4
        refine LX_nil fun w6 hx _ => ?_
        simp only [Act.put, List.setIfInBounds_toArray, List.set_cons_succ, List.set_cons_zero]
        have HA1 := Lib.hid hA1
        have HB1 := Lib.hid hB1
        clear hA1 hB1
        go_wp2_with fail
        go_ret2
        unfold NmPost
        rw [HO.out]
        refine ⟨X.trans (Z.trans hx), f4, rfl, ?_, hl4.out⟩
        rw [hf4.out, hf1.out, hf3.out, hf2.out, HA1.out, HB1.out]; rfl
set_option maxRecDepth 100000 in
set_option maxHeartbeats 4000000 in
theorem specSharedShock_any (p t : Int) (h : Nat) (v u : Value) (zs : List Int) (bs : List Nat) (w : World) (r : RdI w v zs) (rb : RdF w u bs) :
    Calls Try.prog 16 #[.agg #[.int .i64 p, v], u, .int .i64 t, .float .f32 h] w (NmPost (ssO p zs bs t (cn .f32 h)) w) := by
  have r' := r
  have rb' := rb
  obtain ⟨-, a1, c1, rfl, -, -, -, -⟩ := r
  obtain ⟨⟨-, a2, c2, rfl, -, -, -, -⟩, -⟩ := rb
  have bx : Bx (w.alloc (.cells #[.int .i64 p, .slice a1 zs.length c1] 27)) w.heap.size [.int .i64 p, .slice a1 zs.length c1] := Bx.new _ _ _
  have HV := Lib.hid (l03Is_sys p _ zs w.heap.size _ bx (r'.ext (Ext.alloc _ _)))
  cases hv : sysB p zs
  · have HO : Hid (ssO p zs bs t (cn .f32 h) = none) := by show _ = _; unfold ssO ssOk chOk; rw [hv]; rfl
    rw [hv] at HV
    clear hv
    go_enter Try.func16, Try.ntmps16
    go_wp2_with fail
    refine HV.out.mono ?_
    rintro e w1 ⟨rfl, hx⟩
    replace bx := bx.ext hx
    have X : Ext w w1 := (Ext.alloc _ _).trans hx
    go_wp2_with fail
    go_ret2
    unfold NmPost
    rw [HO.out]
    exact ⟨X, rfl⟩
  rw [hv] at HV
  cases hc : chancesB bs p
  · have HO : Hid (ssO p zs bs t (cn .f32 h) = none) := by show _ = _; unfold ssO ssOk chOk; rw [hc, Bool.and_false]; rfl
    have HCB := Lib.hid hc
    clear hv hc
    go_enter Try.func16, Try.ntmps16
    go_wp2_with fail
    refine HV.out.mono ?_
    rintro e w1 ⟨rfl, hx⟩
    replace bx := bx.ext hx
    have X : Ext w w1 := (Ext.alloc _ _).trans hx
    obtain ⟨k0, k1⟩ := bx.two
    clear hx
    go_wp2_with fail
    refine (l03Chances_eq HCB.out _ (by have h9 := rb'.ext X; exact h9)).mono ?_
    rintro e w1 ⟨rfl, rfl⟩
    go_wp2_with fail
    go_ret2
    unfold NmPost
    rw [HO.out]
    exact ⟨X, rfl⟩
  have hok : chOk p zs bs = true := by unfold chOk; rw [hv, hc]; rfl
  have HCB := Lib.hid hc
  clear hv hc
  obtain ⟨h1, h2, h3, h4⟩ := chOk_get hok
  obtain ⟨P, hP⟩ : ∃ P, P = p.toNat := ⟨_, rfl⟩
  rw [← hP] at h1 h2 h4
  subst h2
  have hp1 := h1.p1
  have hp10 := h1.p10
  have HSET := Lib.hid (fun W (b : Bx W w.heap.size [.int .i64 (P : Int), .slice a1 zs.length c1]) => l03Set_any (P : Int) t _ w.heap.size W b (by omega) (by omega))
  cases hs : inB t 0 (2 ^ (P : Int).toNat - 1)
  · have HO : Hid (ssO (P : Int) zs bs t (cn .f32 h) = none) := by show _ = _; unfold ssO ssOk; rw [hs, Bool.and_false, Bool.false_and]; rfl
    rw [hs] at HSET
    clear hok hs h1 h3 h4 hP
    go_enter Try.func16, Try.ntmps16
    go_wp2_with fail
    refine HV.out.mono ?_
    rintro e w1 ⟨rfl, hx⟩
    replace bx := bx.ext hx
    have X : Ext w w1 := (Ext.alloc _ _).trans hx
    obtain ⟨k0, k1⟩ := bx.two
    clear hx
    go_wp2_with fail
    refine (l03Chances_eq HCB.out _ (by have h9 := rb'.ext X; exact h9)).mono ?_
    rintro e w1 ⟨rfl, rfl⟩
    clear k0 k1
    go_wp2_with fail
    refine (HSET.out _ bx).mono ?_
    rintro e w2 ⟨rfl, rfl⟩
    go_wp2_with fail
    go_ret2
    unfold NmPost
    rw [HO.out]
    exact ⟨X, rfl⟩
  rw [hs] at HSET
  cases hh : shareB (cn .f32 h)
  · have HO : Hid (ssO (P : Int) zs bs t (cn .f32 h) = none) := by show _ = _; unfold ssO ssOk; rw [hh, Bool.and_false]; rfl
    have HH := Lib.hid hh
    clear hok hs hh h1 h3 h4 hP
    go_enter Try.func16, Try.ntmps16
    go_wp2_with fail
    refine HV.out.mono ?_
    rintro e w1 ⟨rfl, hx⟩
    replace bx := bx.ext hx
    have X : Ext w w1 := (Ext.alloc _ _).trans hx
    obtain ⟨k0, k1⟩ := bx.two
    clear hx
    go_wp2_with fail
    refine (l03Chances_eq HCB.out _ (by have h9 := rb'.ext X; exact h9)).mono ?_
    rintro e w1 ⟨rfl, rfl⟩
    clear k0 k1
    go_wp2_with fail
    refine (HSET.out _ bx).mono ?_
    rintro e w2 ⟨rfl, rfl⟩
    go_wp2_with fail
    refine (l02Share_eq HH.out _).mono ?_
    rintro e w3 ⟨rfl, rfl⟩
    go_wp2_with fail
    go_ret2
    unfold NmPost
    rw [HO.out]
    exact ⟨X, rfl⟩
  · have hs2 := inB_iff.1 hs
    have hpw := pow10' (p := (P : Int)) (by omega) (by omega)
    obtain ⟨T, rfl⟩ := Int.eq_ofNat_of_zero_le (show 0 ≤ t by omega)
    have hT : T < 1024 := by omega
    have HO : Hid (ssO (P : Int) zs bs (T : Int) (cn .f32 h) = some (fop .add .f32 (fop .mul .f32 (cn .f32 h) (chS P (downs zs) ((hitR T bs P).map (cn .f32)))) (fop .mul .f32 (fop .sub .f32 oneF (cn .f32 h)) (chS P (downs zs) (bs.map (cn .f32)))))) := by
      show _ = _; unfold ssO ssOk; rw [hok, hs, hh]; rfl
    have HH := Lib.hid hh
    have HC := Lib.hid (fun W (x : Ext w W) (b : Bx W w.heap.size [.int .i64 (P : Int), .slice a1 zs.length c1]) u cs (rc : RdF W u cs) (hl : cs.length = P) => l03Chance_any P (.slice a1 zs.length c1) u (downs zs) cs w.heap.size W b (by rw [← h3]; exact r'.ext x) rc h1 hl)
    have HLN := Lib.hid (hitR_len T bs)
    have HLT := Lib.hid (fun i => hitR_lt (t := T) rb'.2 i)
    have HL := Lib.hid h4
    rw [h4] at rb'
    try rw [h4]
    clear hok hs hh h1 h3 h4 hP hpw hs2
    go_enter Try.func16, Try.ntmps16
    go_wp2_with fail
    refine HV.out.mono ?_
    rintro e w1 ⟨rfl, hx⟩
    replace bx := bx.ext hx
    have X : Ext w w1 := (Ext.alloc _ _).trans hx
    obtain ⟨k0, k1⟩ := bx.two
    clear hx
    go_wp2_with fail
    refine (l03Chances_eq HCB.out _ (by have h9 := rb'.ext X; exact h9)).mono ?_
    rintro e w1 ⟨rfl, rfl⟩
    clear k0 k1
    go_wp2_with fail
    refine (HSET.out _ bx).mono ?_
    rintro e w2 ⟨rfl, rfl⟩
    go_wp2_with fail
    refine (l02Share_eq HH.out _).mono ?_
    rintro e w3 ⟨rfl, rfl⟩
    have HLL := HL.out
    go_wp2_with (at_builtin; refine wpList_copyZ infoF32 rfl (by decide) Try.underlying29 rfl rfl rfl (World.ownsRow_lit (base := w1.heap.size) (e := 31) (size := 1) w1 #[] 0 (Nat.le_refl _) (by decide) rfl) rfl ((rb'.ext X).1.alloc _) (by omega) (floatsZ_one bs) (by omega) (by decide) (by simp) ?_; intro g2 cap2 w3 hg own2 hgr; rw [HLL] at own2; rw [HLL]; have hx : Ext w1 w3 := (below_alloc w1 _).grown hgr (by simp) (fun k hk => by cases hk; exact Nat.le_refl _))
    have hgt := own2.lt g2 rfl
    have own0 : w3.ownsRow w1.heap.size 31 1 (.slice (some ⟨g2, 0, none⟩) P cap2) P ((hitR T bs 0).map (Value.float .f32)) := own2
    clear own2
    go_loopw [36] (fun i wr => ∃ k : Nat, k ≤ P ∧ i = .int .i64 k ∧ Ext w1 wr ∧ wr.ownsRow w1.heap.size 31 1 (.slice (some ⟨g2, 0, none⟩) P cap2) P ((hitR T bs k).map (Value.float .f32))) (fun i _ => P - (intOf i).toNat)
    case atStart => exact ⟨0, Nat.zero_le _, rfl, hx, own0⟩
    case round =>
      clear own0 hx
      obtain ⟨k, hk, rfl, Z, own⟩ := hrel
      have hlk := HLN.out k
      by_cases hlt : k < P
      · have hki : (k : Int) < (P : Int) := by omega
        have hk63 : (k : Int) < 64 := by omega
        have hba := bitC_and T k hT
        have hku := wrapU_nat k (by omega)
        have hsd0 : 0 ≤ (T : Int) / 2 ^ k := Int.ediv_nonneg (by omega) (Int.le_of_lt (Int.pow_pos (by decide)))
        have hcc := own.cellAt k (by omega)
        rw [List.getElem?_map, List.getElem?_eq_getElem (by omega)] at hcc
        simp only [Option.map_some] at hcc
        have hff := own.frozenAt k
        have hst := (own.stored k (.float .f32 0)).1
        rw [← List.map_set] at hst
        have HST := Lib.hid hst
        clear hst
        generalize (hitR T bs k)[k]'(by omega) = y at *
        cases hb : T.testBit k
        · have HE : Hid (hitR T bs (k + 1) = hitR T bs k) := by show _ = _; rw [hitR, hb]; rfl
          rw [hb] at hba
          simp only [Bool.false_eq_true, if_false] at hba
          clear hb
          go_wp2_with fail
          go_roundw
          case rel => exact ⟨k + 1, by omega, by go_num, Z, by rw [HE.out]; exact own⟩
          case measure => simp [intOf]; omega
        · have HE : Hid (hitR T bs (k + 1) = (hitR T bs k).set k 0) := by show _ = _; rw [hitR, hb]; rfl
          rw [hb] at hba
          simp only [if_true] at hba
          clear hb
          go_wp2_with fail
          go_roundw
          case rel => exact ⟨k + 1, by omega, by go_num, Z.setCell hgt.1 _, by rw [HE.out]; exact HST.out⟩
          case measure => simp [intOf]; omega
      · obtain rfl : k = P := by omega
        have RH : RdF wr (.slice (some ⟨g2, 0, none⟩) k cap2) (hitR T bs k) := ⟨by rw [hlk, HLL]; exact own_rd own, HLT.out k⟩
        have hlh : (hitR T bs k).length = k := by rw [hlk]; exact HLL
        have HC1 := Lib.hid (fun W (x : Ext wr W) => HC.out W (X.trans (Z.trans x)) ((bx.ext Z).ext x) _ _ (RH.ext x) hlh)
        have HC2 := Lib.hid (fun W (x : Ext wr W) => HC.out W (X.trans (Z.trans x)) ((bx.ext Z).ext x) _ _ (rb'.ext (X.trans (Z.trans x))) HLL)
        generalize hC1 : chS k (downs zs) ((hitR T bs k).map (cn .f32)) = cA at *
        generalize hC2 : chS k (downs zs) (bs.map (cn .f32)) = cB at *
        clear hC1 hC2 RH hlh hlk own
        go_wp2_with fail
        refine (HC1.out _ (Ext.refl _)).mono ?_
        rintro e w5 ⟨bA, rfl, hA1, hA2, hx⟩
        have HA1 := Lib.hid hA1
        have Y := hx
        clear hA1 hA2 hx
        go_wp2_with (refine wpList_fop rfl rfl rfl rfl rfl ?_; intro fb nf hfb hfl; replace hfb := Lib.hid hfb; replace hfl := Lib.hid hfl)
        rename_i m1 n1 e1 l1 z1 z2
        have E1 := e1
        have E2 := hfb
        refine (HC2.out _ (Y.trans (Ext.drewN _ _))).mono ?_
        rintro e w6 ⟨bB, rfl, hB1, hB2, hx⟩
        have HB1 := Lib.hid hB1
        replace Y := (Y.trans (Ext.drewN _ _)).trans hx
        clear hB1 hB2 hx
        go_wp2_with (refine wpList_fop rfl rfl rfl rfl rfl ?_; intro fb nf hfb hfl; replace hfb := Lib.hid hfb; replace hfl := Lib.hid hfl)
        rename_i m3 n3 e3 l3
        go_ret2
        unfold NmPost
        rw [HO.out]
        refine ⟨X.trans (Z.trans (Y.trans (Ext.drewN _ _))), fb, rfl, ?_, hfl.out⟩
        rw [hfb.out, e3.out, E2.out, E1.out, HA1.out, HB1.out]; rfl
end Go.Proofs.Ytgmdoboeenpjpaa
