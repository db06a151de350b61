
/- The times of failures: what the program and the reference compute is one list. Condition: valid lives. -/
import Derived.Test.YtlbmjeennpccmaaLr
import Derived.Test.YtlbmjeennpccmaaE
import Derived.ArgAppend
import Derived.Test.YtlbmjeennpccmaaCr
namespace Go.Proofs.Ytlbmjeennpccmaa
open Go Go.RowKit Go.ChangeShapes Go.WideShapes Go.ChangeAt

attribute [local go_sem] run_store_float
attribute [local irreducible] LX

/-- append of one element to an empty list without room: a new block, no other turns. -/
theorem wpList_push0 {P : Program} {ops : Array Oper} {rest : List Oper} {o : Oper} {a : Act} {w : World} {Q : Exit → Act → World → Prop} {s x : Operand} {t e : TypeId} {z u : Value} {bytes b0 : Nat} {blk c : Nat}
    (hinfo : (P.info? e).map (fun i => (i.zero, i.size, i.bytes)) = some (some z, 1, bytes)) (hz : z.cells.size = 1) (ht : P.underlying t = some (.slice e))
    (hgd : o.guard = none) (ho : o.op = .call { callee := .builtin .append, args := #[s, x], argTypes := #[t, t] })
    (hs : a.eval s = .slice (some ⟨b0, 0, none⟩) 0 0) (hx : a.eval x = .slice (some ⟨blk, 0, none⟩) 1 c) (hu : w.cell? ⟨blk, 0, none⟩ = some u) (hu1 : u.oneCell' = true) (hb16 : bytes ≤ 16)
    (h : ∀ g cap w', w'.ownsRow w.heap.size e 1 (.slice (some ⟨g, 0, none⟩) 1 cap) 1 [u] → Ext w w' → wpList P ops Q rest (a.put o.dst (.slice (some ⟨g, 0, none⟩) 1 cap)) w') : wpList P ops Q (o :: rest) a w := by
  obtain ⟨i, hi, h1, h2, h3⟩ := info_parts hinfo
  refine wpList_append_grows w hgd s x t ho e i z 1 bytes ht hi h1 h2 h3 hz (by omega) (some ⟨b0, 0, none⟩) 0 0 [] hs (fun h => by cases h) rfl (fun b hb j u hj => by simp at hj) ⟨blk, 0, none⟩ 1 c [u] hx rfl ?_ ?_ (by omega) (by simp only [maxLen]; omega) (by omega) ?_
  · intro j u' hj
    cases j with
    | zero => simp at hj; subst hj; simpa [Addr.add] using hu
    | succ j => simp at hj
  · intro u' hu'; simp at hu'; subst hu'; exact hu1
  · intro v' w' own hg
    rw [Nat.zero_add] at own
    obtain ⟨g, cap, rfl, hbg, _⟩ := own_head own (by omega)
    exact h g cap w' own ((Below.refl _ _).grown hg (Nat.le_refl _) (fun _ h => by cases h))

/-- A list that is built: the empty one that was there at first, or one of the call's own. -/
def OutF (b0 B : Nat) (w : World) (g cap m : Nat) (vs : List Value) : Prop := (m = 0 ∧ g = b0 ∧ cap = 0 ∧ vs = []) ∨ (0 < m ∧ w.ownsRow B 24 1 (.slice (some ⟨g, 0, none⟩) m cap) m vs)
theorem OutF.ext {b0 B : Nat} {w w' : World} {g cap m : Nat} {vs : List Value} (h : OutF b0 B w g cap m vs) (hx : Ext w w') : OutF b0 B w' g cap m vs := by
  rcases h with h | ⟨h1, h2⟩
  · exact .inl h
  · exact .inr ⟨h1, own_ext h2 hx⟩

/-- One life more. -/
def timeStep (out : List Nat) (x : Lf) : List Nat := if x.2 = true ∧ (out = [] ∨ out.getD (out.length - 1) 0 ≠ x.1) then out ++ [x.1] else out
def timesK (os : List Lf) (k : Nat) : List Nat := (os.take k).foldl timeStep []
def timesL (ls : List Lf) : List Nat := timesK (ordL ls) ls.length
theorem timesK_succ {os : List Lf} {k : Nat} (h : k < os.length) : timesK os (k + 1) = timeStep (timesK os k) os[k] := by
  unfold timesK; rw [List.take_add_one, List.getElem?_eq_getElem h, List.foldl_append]; rfl
theorem timeStep_pos {out : List Nat} {x : Lf} (h : ∀ t ∈ out, posW t) (hx : okL x) : ∀ t ∈ timeStep out x, posW t := by
  unfold timeStep
  split
  · intro t ht
    rcases List.mem_append.1 ht with ht | ht
    · exact h t ht
    · obtain rfl := List.mem_singleton.1 ht; exact hx
  · exact h
theorem timesK_pos {os : List Lf} (h : AllOk os) : ∀ k, ∀ t ∈ timesK os k, posW t := by
  intro k
  induction k with
  | zero => intro t ht; simp [timesK] at ht
  | succ k ih =>
    by_cases hk : k < os.length
    · rw [timesK_succ hk]; exact timeStep_pos ih (h _ (List.getElem_mem hk))
    · have e : timesK os (k + 1) = timesK os k := by unfold timesK; rw [List.take_of_length_le (by omega), List.take_of_length_le (by omega)]
      rw [e]; exact ih
theorem timesK_len (os : List Lf) : ∀ k, (timesK os k).length ≤ k := by
  intro k
  induction k with
  | zero => simp [timesK]
  | succ k ih =>
    by_cases hk : k < os.length
    · rw [timesK_succ hk]; unfold timeStep; split
      · rw [List.length_append]; simp; omega
      · omega
    · have e : timesK os (k + 1) = timesK os k := by unfold timesK; rw [List.take_of_length_le (by omega), List.take_of_length_le (by omega)]
      rw [e]; omega
theorem timesL_pos {ls : List Lf} (h : AllOk ls) : ∀ t ∈ timesL ls, posW t := timesK_pos (h.perm (ordL_perm ls)) _
theorem timesL_len (ls : List Lf) : (timesL ls).length ≤ ls.length := timesK_len _ _
theorem timeStep_no {out : List Nat} {x : Lf} (h : x.2 = false) : timeStep out x = out := by unfold timeStep; rw [h]; simp
theorem timeStep_new {x : Lf} (h : x.2 = true) : timeStep [] x = [x.1] := by unfold timeStep; rw [h]; simp
theorem timeStep_same {out : List Nat} {x : Lf} (h : out ≠ []) (he : out.getD (out.length - 1) 0 = x.1) : timeStep out x = out := by unfold timeStep; rw [if_neg]; rintro ⟨_, h1 | h1⟩ <;> contradiction
theorem timeStep_other {out : List Nat} {x : Lf} (hx : x.2 = true) (he : out.getD (out.length - 1) 0 ≠ x.1) : timeStep out x = out ++ [x.1] := by unfold timeStep; rw [if_pos ⟨hx, .inr he⟩]

set_option maxRecDepth 100000 in
set_option maxHeartbeats 8000000 in
theorem failures_any (v : Value) (ls : List Lf) (w : World) (r : RdL w v ls) (h0 : 0 < ls.length) (hz : ls.length ≤ 1048576) (hok : AllOk ls) :
    Calls Try.prog 51 #[v] w fun e w' => ∃ g cap, e = .returned (.slice (some ⟨g, 0, none⟩) (timesL ls).length cap) ∧ w'.ownsRow w.heap.size 24 1 (.slice (some ⟨g, 0, none⟩) (timesL ls).length cap) (timesL ls).length ((timesL ls).map (Value.float .f32)) ∧ Ext w w' := by
  have HOK : Hid (AllOk (ordL ls)) := hok.perm (ordL_perm ls)
  have HO := Lib.hid (fun W r => ordered_any v ls W r h0 hz hok)
  have HLT : Hid (∀ x ∈ ordL ls, x.1 < 4294967296) := fun x hx => r.2 x ((ordL_perm ls).mem_iff.1 hx)
  have r' := r
  clear hok
  obtain ⟨⟨-, a1, c1, rfl, -, -, -, -⟩, -⟩ := r
  go_enter Try.func51, Try.ntmps51
  go_wp2_with fail
  refine (HO.out _ (r'.ext (Ext.alloc _ _))).mono ?_
  rintro e w1 ⟨g, cap, rfl, own, X1⟩
  have X : Ext w w1 := (Ext.alloc _ _).trans X1
  have R : RdL w1 (.slice (some ⟨g, 0, none⟩) ls.length cap) (ordL ls) := by have := own.rd HLT.out; rw [ordL_len] at this; exact this
  have hol := ordL_len ls
  have o0 : w1.ownsRow w.heap.size 24 1 (.slice (some ⟨w.heap.size, 0, none⟩) 0 0) 0 [] := own_ext (World.ownsRow_lit (base := w.heap.size) (e := 24) (size := 1) w #[] 0 (Nat.le_refl _) (by decide) rfl) X1
  have HTL : Hid (timesL ls = timesK (ordL ls) ls.length) := rfl
  generalize ordL ls = os at *
  generalize hn : ls.length = n at *
  clear HO own X1 r'
  go_wp2_with fail
  go_loopw [10, 3] (fun i v wr => ∃ (k m g2 cap2 : Nat), k ≤ n ∧ i = .int .i64 k ∧ v = .slice (some ⟨g2, 0, none⟩) m cap2 ∧ Hid (m = (timesK os k).length) ∧ OutF w.heap.size w1.heap.size wr g2 cap2 m ((timesK os k).map (Value.float .f32)) ∧ Ext w1 wr) (fun i _ _ => n - (intOf i).toNat)
  case atStart => exact ⟨0, 0, _, _, Nat.zero_le _, rfl, rfl, rfl, .inl ⟨rfl, rfl, rfl, rfl⟩, Ext.refl _⟩
  case round =>
    obtain ⟨k, m, g2, cap2, hk, rfl, rfl, HM, own, X2⟩ := hrel
    by_cases hlt : k < n
    · obtain ⟨b1, o1, hbo, hb1, hc1, hd1⟩ := (R.ext X2).at (k := k) (by omega)
      have hlo : k < os.length := by omega
      have HST := Lib.hid (timesK_succ hlo)
      have hpx : okL os[k] := HOK.out _ (List.getElem_mem hlo)
      have hml := timesK_len os k
      have HPT := Lib.hid (timesK_pos HOK.out k)
      generalize os[k] = x at *
      generalize timesK os k = T at *
      have HPX := Lib.hid hpx
      obtain ⟨rfl, rfl⟩ : g = b1 ∧ 0 = o1 := by simpa using hbo
      rw [Nat.zero_add] at hc1 hd1
      clear hpx hbo
      have hwr := hb1
      go_wp2_with fail
      have bx : Bx (wr.alloc (.cells #[.float .f32 x.1, .bool x.2] 61)) wr.heap.size [.float .f32 x.1, .bool x.2] := Bx.new _ _ _
      have hxW : Ext wr (wr.alloc (.cells #[.float .f32 x.1, .bool x.2] 61)) := Ext.alloc _ _
      generalize wr.alloc (.cells #[.float .f32 x.1, .bool x.2] 61) = W at *
      generalize wr.heap.size = bb at *
      replace own := own.ext hxW
      replace X2 := X2.trans hxW
      clear hxW hc1 hd1 hb1 hwr
      obtain ⟨xa, xb⟩ := x
      have hbW := bx.1
      obtain ⟨bx0, bx1⟩ := bx.two
      cases xb
      · have HN : Hid (timesK os (k + 1) = T) := by show _ = _; rw [HST.out]; exact timeStep_no rfl
        clear HST
        refine wp_region_rel 18 (fun _ _ => True) (fun _ _ _ => True) (by kernel_rfl) (by kernel_rfl) (by kernel_rfl) ?_
        dsimp only [List.take, List.drop, List.length]
        refine LX_det (.pointer (some ⟨bb, 1, none⟩)) (by kernel_rfl) rfl (fun w' hx _ => ?_) ?_
        · go_simp
        refine LX_det (.bool false) (by kernel_rfl) rfl (fun w' hx _ => ?_) ?_
        · have m0 := (Below.cell hx (p := ⟨bb, 1, none⟩) hbW).trans bx1
          go_simp
        refine LX_det (.bool false) (by kernel_rfl) rfl (fun w' hx _ => ?_) ?_
        · go_simp
        iterate 14 refine LX_skip (by kernel_rfl) ?_
        refine LX_det (.bool false) (by kernel_rfl) rfl (fun w' hx _ => ?_) ?_
        · go_simp
        refine LX_nil fun w2 hx _ => ?_
        refine wpList_nil ?_
        simp only [Act.put, List.setIfInBounds_toArray, List.set_cons_succ, List.set_cons_zero]
        replace own := own.ext hx
        replace X2 := X2.trans hx
        clear hx bx bx0 bx1
        go_wp2_with fail
        go_roundw
        case rel => exact ⟨k + 1, m, g2, cap2, by omega, by go_num, rfl, by rw [HN.out]; exact HM, by rw [HN.out]; exact own, X2⟩
        case measure => simp [intOf]; omega
      · by_cases hT0 : T = []
        · have hm0 : m = 0 := by rw [HM.out, hT0]; rfl
          have HN : Hid (timesK os (k + 1) = [xa]) := by show _ = _; rw [HST.out, hT0]; exact timeStep_new rfl
          have hc0 : cap2 = 0 := by
            rcases own with ⟨_, _, h, _⟩ | ⟨h, _⟩
            · exact h
            · omega
          subst hm0
          subst hc0
          clear HST hT0 own
          refine wp_region_rel 18 (fun _ _ => True) (fun _ _ _ => True) (by kernel_rfl) (by kernel_rfl) (by kernel_rfl) ?_
          dsimp only [List.take, List.drop, List.length]
          refine LX_det (.pointer (some ⟨bb, 1, none⟩)) (by kernel_rfl) rfl (fun w' hx _ => ?_) ?_
          · go_simp
          refine LX_det (.bool true) (by kernel_rfl) rfl (fun w' hx _ => ?_) ?_
          · have m0 := (Below.cell hx (p := ⟨bb, 1, none⟩) hbW).trans bx1
            go_simp
          refine LX_det (.bool true) (by kernel_rfl) rfl (fun w' hx _ => ?_) ?_
          · go_simp
          refine LX_det (.slice (some ⟨g2, 0, none⟩) 0 0) (by kernel_rfl) rfl (fun w' hx _ => ?_) ?_
          · go_simp
          refine LX_det (.int .i64 0) (by kernel_rfl) rfl (fun w' hx _ => ?_) ?_
          · go_simp
          refine LX_det (.bool true) (by kernel_rfl) rfl (fun w' hx _ => ?_) ?_
          · go_simp
          refine LX_det (.bool true) (by kernel_rfl) rfl (fun w' hx _ => ?_) ?_
          · go_simp
          iterate 9 refine LX_skip (by kernel_rfl) ?_
          refine LX_det (.bool true) (by kernel_rfl) rfl (fun w' hx _ => ?_) ?_
          · go_simp
          refine LX_det (.bool true) (by kernel_rfl) rfl (fun w' hx _ => ?_) ?_
          · go_simp
          refine LX_nil fun w2 hx _ => ?_
          refine wpList_nil ?_
          simp only [Act.put, List.setIfInBounds_toArray, List.set_cons_succ, List.set_cons_zero]
          replace X2 := X2.trans hx
          have bx' := bx.ext hx
          obtain ⟨bx0', bx1'⟩ := bx'.two
          clear hx bx bx0 bx1 bx'
          go_wp2_with (at_builtin; refine wpList_push0 infoF32 rfl Try.underlying33 rfl rfl rfl rfl (Bx.new _ [_] _).one rfl (by decide) ?_; intro g3 cap3 w4 own3 hx3)
          go_roundw
          case rel => exact ⟨k + 1, 1, g3, cap3, by omega, by go_num, rfl, by rw [HN.out]; rfl, by rw [HN.out]; exact .inr ⟨by omega, World.ownsRow.mono own3 (by have := X2.size; simp; omega)⟩, X2.trans ((Ext.alloc _ _).trans hx3)⟩
          case measure => simp [intOf]; omega
        · have hm0 : 0 < m := by rw [HM.out]; exact List.length_pos_iff.2 hT0
          have hmT : T.length = m := HM.out.symm
          have own : W.ownsRow w1.heap.size 24 1 (.slice (some ⟨g2, 0, none⟩) m cap2) m (T.map (Value.float .f32)) := by
            rcases own with ⟨h, _⟩ | ⟨_, h⟩
            · omega
            · exact h
          have hgl := (World.ownsRow.lt own g2 rfl).2
          have ht0 := World.ownsRow.cellAt own (m - 1) (by omega)
          rw [List.getElem?_map, List.getElem?_eq_getElem (by omega)] at ht0
          simp only [Option.map_some] at ht0
          have hgd : T.getD (T.length - 1) 0 = T[m - 1]'(by omega) := by
            have e : T.length - 1 = m - 1 := by omega
            rw [e, List.getD_eq_getElem?_getD, List.getElem?_eq_getElem (by omega)]; rfl
          have hpt : posW (T[m - 1]'(by omega)) := HPT.out _ (List.getElem_mem _)
          have hcm := (pos_cmp hpt HPX.out).1
          have HSAME : Hid (T[m - 1]'(by omega) = xa → timesK os (k + 1) = T) := fun h => by rw [HST.out]; exact timeStep_same hT0 (hgd.trans h)
          have HDIFF : Hid (T[m - 1]'(by omega) ≠ xa → timesK os (k + 1) = T ++ [xa]) := fun h => by rw [HST.out]; exact timeStep_other rfl (by rw [hgd]; exact h)
          generalize T[m - 1]'(by omega) = tl at *
          obtain ⟨q, hq⟩ : ∃ q, q + 1 = m := ⟨m - 1, by omega⟩
          rw [show m - 1 = q by omega] at ht0
          have q0 : ((m : Int) == 0) = false := by rw [beq_eq_false_iff_ne]; omega
          have q1 : ¬ (m : Int) = 0 := by omega
          have q2 : ¬ m = 0 := by omega
          have hqm : m ≤ 1048576 := by omega
          have s1 : IntKind.i64.wrap ((m : Int) - 1) = (q : Int) := by have := IntWalk.i64_in ((m : Int) - 1) (by omega); rw [this]; omega
          have s2 : (q : Int) < (m : Int) := by omega
          have s3 : q < m := by omega
          have HQ := Lib.hid hq
          clear hq
          clear HST hT0 hgd hpt hmT hm0
          refine wp_region_rel 18 (fun _ _ => True) (fun _ _ _ => True) (by kernel_rfl) (by kernel_rfl) (by kernel_rfl) ?_
          dsimp only [List.take, List.drop, List.length]
          refine LX_det (.pointer (some ⟨bb, 1, none⟩)) (by kernel_rfl) rfl (fun w' hx _ => ?_) ?_
          · go_simp
          refine LX_det (.bool true) (by kernel_rfl) rfl (fun w' hx _ => ?_) ?_
          · have m0 := (Below.cell hx (p := ⟨bb, 1, none⟩) hbW).trans bx1
            go_simp
          refine LX_det (.bool true) (by kernel_rfl) rfl (fun w' hx _ => ?_) ?_
          · go_simp
          refine LX_det (.slice (some ⟨g2, 0, none⟩) m cap2) (by kernel_rfl) rfl (fun w' hx _ => ?_) ?_
          · go_simp
          refine LX_det (.int .i64 m) (by kernel_rfl) rfl (fun w' hx _ => ?_) ?_
          · go_simp
          refine LX_det (.bool false) (by kernel_rfl) rfl (fun w' hx _ => ?_) ?_
          · go_simp
          refine LX_det (.bool false) (by kernel_rfl) rfl (fun w' hx _ => ?_) ?_
          · go_simp
          refine LX_det (.slice (some ⟨g2, 0, none⟩) m cap2) (by kernel_rfl) rfl (fun w' hx _ => ?_) ?_
          · go_simp
          refine LX_det (.slice (some ⟨g2, 0, none⟩) m cap2) (by kernel_rfl) rfl (fun w' hx _ => ?_) ?_
          · go_simp
          refine LX_det (.int .i64 m) (by kernel_rfl) rfl (fun w' hx _ => ?_) ?_
          · go_simp
          refine LX_det (.int .i64 q) (by kernel_rfl) rfl (fun w' hx _ => ?_) ?_
          · go_simp
          refine LX_det (.pointer (some ⟨g2, q, none⟩)) (by kernel_rfl) rfl (fun w' hx _ => ?_) ?_
          · go_simp
          refine LX_det (.float .f32 tl) (by kernel_rfl) rfl (fun w' hx _ => ?_) ?_
          · have m0 := (Below.cell hx (p := ⟨g2, q, none⟩) hgl).trans ht0
            go_simp
          refine LX_det (.pointer (some ⟨bb, 0, none⟩)) (by kernel_rfl) rfl (fun w' hx _ => ?_) ?_
          · go_simp
          refine LX_det (.float .f32 xa) (by kernel_rfl) rfl (fun w' hx _ => ?_) ?_
          · have m0 := (Below.cell hx (p := ⟨bb, 0, none⟩) hbW).trans bx0
            go_simp
          simp only [Act.put, List.setIfInBounds_toArray, List.set_cons_succ, List.set_cons_zero]
          refine LX_fcmp (by kernel_rfl) rfl rfl rfl rfl hcm ?_
          by_cases he : tl = xa
          · have hd : decide (tl ≠ xa) = false := by simp [he]
            have HN := Lib.hid (HSAME.out he)
            rw [hd]
            clear hcm hd he HSAME HDIFF
            refine LX_det (.bool false) (by kernel_rfl) rfl (fun w' hx _ => ?_) ?_
            · go_simp
            refine LX_det (.bool false) (by kernel_rfl) rfl (fun w' hx _ => ?_) ?_
            · go_simp
            refine LX_nil fun w2 hx _ => ?_
            refine wpList_nil ?_
            simp only [Act.put, List.setIfInBounds_toArray, List.set_cons_succ, List.set_cons_zero]
            replace own := own_ext own hx
            replace X2 := X2.trans hx
            clear hx bx bx0 bx1 ht0
            go_wp2_with fail
            go_roundw
            case rel => exact ⟨k + 1, m, g2, cap2, by omega, by go_num, rfl, by rw [HN.out]; exact HM, by rw [HN.out]; exact .inr ⟨by omega, own⟩, X2⟩
            case measure => simp [intOf]; omega
          · have hd : decide (tl ≠ xa) = true := by simp [he]
            have HN := Lib.hid (HDIFF.out he)
            rw [hd]
            clear hcm hd he HSAME HDIFF
            refine LX_det (.bool true) (by kernel_rfl) rfl (fun w' hx _ => ?_) ?_
            · go_simp
            refine LX_det (.bool true) (by kernel_rfl) rfl (fun w' hx _ => ?_) ?_
            · go_simp
            refine LX_nil fun w2 hx _ => ?_
            refine wpList_nil ?_
            simp only [Act.put, List.setIfInBounds_toArray, List.set_cons_succ, List.set_cons_zero]
            replace own := own_ext own hx
            replace X2 := X2.trans hx
            have bx' := bx.ext hx
            obtain ⟨bx0', bx1'⟩ := bx'.two
            clear hx bx bx0 bx1 bx'
            go_wp2_with (at_builtin; refine wpList_push (v := .slice (some ⟨g2, 0, none⟩) m cap2) infoF32 rfl Try.underlying33 rfl rfl rfl (World.ownsRow.alloc own _) rfl (Bx.new _ [_] _).one rfl (by omega) (by decide) (X2.trans (Ext.alloc _ _)).size ?_; intro g3 cap3 w4 hg3 own3 bel3 sz3)
            go_roundw
            case rel =>
              exact ⟨k + 1, m + 1, g3, cap3, by omega, by go_num, rfl, by rw [HN.out, List.length_append, ← HM.out]; rfl, by rw [HN.out, List.map_append]; exact .inr ⟨by omega, own3⟩, bel3 _ (X2.trans (Ext.alloc _ _))⟩
            case measure => simp [intOf]; omega
    · obtain rfl : k = n := by omega
      go_wp2_with fail
      go_ret
      have h := HM.out
      have hT := HTL.out
      rw [hT]
      rcases own with ⟨rfl, rfl, rfl, hv⟩ | ⟨_, own⟩
      · refine ⟨w.heap.size, 0, by rw [← h]; rfl, ?_, X.trans X2⟩
        rw [← h, hv]; exact own_ext o0 X2
      · subst h
        exact ⟨g2, cap2, rfl, World.ownsRow.mono own X.size, X.trans X2⟩
end Go.Proofs.Ytlbmjeennpccmaa
/- The times of failures: the reference. Condition: valid lives. -/
namespace Go.Proofs.Ytlbmjeennpccmaa
open Go Go.RowKit Go.ChangeShapes Go.WideShapes Go.ChangeAt

attribute [local go_sem] run_store_float
attribute [local irreducible] LX

set_option maxRecDepth 100000 in
set_option maxHeartbeats 8000000 in
theorem l02Times_any (v : Value) (ls : List Lf) (w : World) (r : RdL w v ls) (h0 : 0 < ls.length) (hz : ls.length ≤ 1048576) (hok : AllOk ls) :
    Calls Try.prog 44 #[v] w fun e w' => ∃ g cap, e = .returned (.slice (some ⟨g, 0, none⟩) (timesL ls).length cap) ∧ w'.ownsRow w.heap.size 24 1 (.slice (some ⟨g, 0, none⟩) (timesL ls).length cap) (timesL ls).length ((timesL ls).map (Value.float .f32)) ∧ Ext w w' := by
  have HOK : Hid (AllOk (ordL ls)) := hok.perm (ordL_perm ls)
  have HO := Lib.hid (l02Order_any v ls w r h0 hz hok)
  have HLT : Hid (∀ x ∈ ordL ls, x.1 < 4294967296) := fun x hx => r.2 x ((ordL_perm ls).mem_iff.1 hx)
  clear hok
  obtain ⟨⟨-, a1, c1, rfl, -, -, -, -⟩, -⟩ := r
  go_enter Try.func44, Try.ntmps44
  go_wp2_with fail
  refine HO.out.mono ?_
  rintro e w1 ⟨g, cap, rfl, own, X⟩
  have R : RdL w1 (.slice (some ⟨g, 0, none⟩) ls.length cap) (ordL ls) := by have := own.rd HLT.out; rw [ordL_len] at this; exact this
  have hol := ordL_len ls
  have HTL : Hid (timesL ls = timesK (ordL ls) ls.length) := rfl
  generalize ordL ls = os at *
  generalize hn : ls.length = n at *
  clear HO own
  go_wp2_with fail
  go_loopw [5, 4] (fun i v wr => ∃ (k m g2 cap2 : Nat), k ≤ n ∧ i = .int .i64 k ∧ v = .slice (some ⟨g2, 0, none⟩) m cap2 ∧ Hid (m = (timesK os k).length) ∧ wr.ownsRow w1.heap.size 24 1 (.slice (some ⟨g2, 0, none⟩) m cap2) m ((timesK os k).map (Value.float .f32)) ∧ Ext w1 wr) (fun i _ _ => n - (intOf i).toNat)
  case atStart => exact ⟨0, 0, _, _, Nat.zero_le _, rfl, rfl, rfl, World.ownsRow_lit w1 #[] 0 (Nat.le_refl _) (by decide) rfl, Ext.alloc _ _⟩
  case round =>
    obtain ⟨k, m, g2, cap2, hk, rfl, rfl, HM, own, X2⟩ := hrel
    by_cases hlt : k < n
    · obtain ⟨b1, o1, hbo, hb1, hc1, hd1⟩ := (R.ext X2).at (k := k) (by omega)
      have hlo : k < os.length := by omega
      have HST := Lib.hid (timesK_succ hlo)
      have hpx : okL os[k] := HOK.out _ (List.getElem_mem hlo)
      have hml := timesK_len os k
      have HPT := Lib.hid (timesK_pos HOK.out k)
      have hkn : (k : Int) < (n : Int) := by omega
      generalize os[k] = x at *
      generalize timesK os k = T at *
      have HPX := Lib.hid hpx
      obtain ⟨rfl, rfl⟩ : g = b1 ∧ 0 = o1 := by simpa using hbo
      rw [Nat.zero_add] at hc1 hd1
      clear hpx hbo
      have hgl := (World.ownsRow.lt own g2 rfl).2
      obtain ⟨xa, xb⟩ := x
      simp only at hc1 hd1
      cases xb
      · have HN : Hid (timesK os (k + 1) = T) := by show _ = _; rw [HST.out]; exact timeStep_no rfl
        clear HST
        go_wp2_with fail
        refine wp_region_rel 22 (fun _ _ => True) (fun _ _ _ => True) (by kernel_rfl) (by kernel_rfl) (by kernel_rfl) ?_
        dsimp only [List.take, List.drop, List.length]
        refine LX_det (.slice (some ⟨g, 0, none⟩) n cap) (by kernel_rfl) rfl (fun w' hx _ => ?_) ?_
        · go_simp
        refine LX_det (.int .i64 k) (by kernel_rfl) rfl (fun w' hx _ => ?_) ?_
        · go_simp
        refine LX_det (.pointer (some ⟨g, k * 2, none⟩)) (by kernel_rfl) rfl (fun w' hx _ => ?_) ?_
        · go_simp
        refine LX_det (.pointer (some ⟨g, k * 2 + 1, none⟩)) (by kernel_rfl) rfl (fun w' hx _ => ?_) ?_
        · go_simp
        refine LX_det (.bool false) (by kernel_rfl) rfl (fun w' hx _ => ?_) ?_
        · have m0 := (Below.cell hx (p := ⟨g, k * 2 + 1, none⟩) hb1).trans hd1
          go_simp
        refine LX_det (.bool false) (by kernel_rfl) rfl (fun w' hx _ => ?_) ?_
        · go_simp
        iterate 15 refine LX_skip (by kernel_rfl) ?_
        refine LX_det (.bool false) (by kernel_rfl) rfl (fun w' hx _ => ?_) ?_
        · go_simp
        refine LX_nil fun w2 hx _ => ?_
        refine wpList_nil ?_
        simp only [Act.put, List.setIfInBounds_toArray, List.set_cons_succ, List.set_cons_zero]
        replace own := own_ext own hx
        replace X2 := X2.trans hx
        clear hx hc1 hd1 hb1 hgl
        go_wp2_with fail
        go_roundw
        case rel => exact ⟨k + 1, m, g2, cap2, by omega, by go_num, rfl, by rw [HN.out]; exact HM, by rw [HN.out]; exact own, X2⟩
        case measure => simp [intOf]; omega
      · by_cases hT0 : T = []
        · have hm0 : m = 0 := by rw [HM.out, hT0]; rfl
          have HN : Hid (timesK os (k + 1) = [xa]) := by show _ = _; rw [HST.out, hT0]; exact timeStep_new rfl
          subst hm0
          rw [hT0] at own
          clear HST hT0
          go_wp2_with fail
          refine wp_region_rel 22 (fun _ _ => True) (fun _ _ _ => True) (by kernel_rfl) (by kernel_rfl) (by kernel_rfl) ?_
          dsimp only [List.take, List.drop, List.length]
          refine LX_det (.slice (some ⟨g, 0, none⟩) n cap) (by kernel_rfl) rfl (fun w' hx _ => ?_) ?_
          · go_simp
          refine LX_det (.int .i64 k) (by kernel_rfl) rfl (fun w' hx _ => ?_) ?_
          · go_simp
          refine LX_det (.pointer (some ⟨g, k * 2, none⟩)) (by kernel_rfl) rfl (fun w' hx _ => ?_) ?_
          · go_simp
          refine LX_det (.pointer (some ⟨g, k * 2 + 1, none⟩)) (by kernel_rfl) rfl (fun w' hx _ => ?_) ?_
          · go_simp
          refine LX_det (.bool true) (by kernel_rfl) rfl (fun w' hx _ => ?_) ?_
          · have m0 := (Below.cell hx (p := ⟨g, k * 2 + 1, none⟩) hb1).trans hd1
            go_simp
          refine LX_det (.bool true) (by kernel_rfl) rfl (fun w' hx _ => ?_) ?_
          · go_simp
          refine LX_det (.int .i64 0) (by kernel_rfl) rfl (fun w' hx _ => ?_) ?_
          · go_simp
          refine LX_det (.bool true) (by kernel_rfl) rfl (fun w' hx _ => ?_) ?_
          · go_simp
          refine LX_det (.bool true) (by kernel_rfl) rfl (fun w' hx _ => ?_) ?_
          · go_simp
          iterate 11 refine LX_skip (by kernel_rfl) ?_
          refine LX_det (.bool true) (by kernel_rfl) rfl (fun w' hx _ => ?_) ?_
          · go_simp
          refine LX_det (.bool true) (by kernel_rfl) rfl (fun w' hx _ => ?_) ?_
          · go_simp
          refine LX_nil fun w2 hx _ => ?_
          refine wpList_nil ?_
          simp only [Act.put, List.setIfInBounds_toArray, List.set_cons_succ, List.set_cons_zero]
          replace own := own_ext own hx
          replace X2 := X2.trans hx
          have hc1' := (Below.cell hx (p := ⟨g, k * 2, none⟩) hb1).trans hc1
          clear hx hc1 hd1 hb1 hgl
          go_wp2_with (at_builtin; refine wpList_push (v := .slice (some ⟨g2, 0, none⟩) 0 cap2) infoF32 rfl Try.underlying33 rfl rfl rfl (World.ownsRow.alloc own _) rfl (Bx.new _ [_] _).one rfl (by omega) (by decide) (X2.trans (Ext.alloc _ _)).size ?_; intro g3 cap3 w4 hg3 own3 bel3 sz3)
          go_roundw
          case rel => exact ⟨k + 1, 1, g3, cap3, by omega, by go_num, rfl, by rw [HN.out]; rfl, by rw [HN.out]; exact own3, bel3 _ (X2.trans (Ext.alloc _ _))⟩
          case measure => simp [intOf]; omega
        · have hm0 : 0 < m := by rw [HM.out]; exact List.length_pos_iff.2 hT0
          have hmT : T.length = m := HM.out.symm
          have ht0 := World.ownsRow.cellAt own (m - 1) (by omega)
          rw [List.getElem?_map, List.getElem?_eq_getElem (by omega)] at ht0
          simp only [Option.map_some] at ht0
          have hgd : T.getD (T.length - 1) 0 = T[m - 1]'(by omega) := by
            have e : T.length - 1 = m - 1 := by omega
            rw [e, List.getD_eq_getElem?_getD, List.getElem?_eq_getElem (by omega)]; rfl
          have hpt : posW (T[m - 1]'(by omega)) := HPT.out _ (List.getElem_mem _)
          have hcm := (pos_cmp hpt HPX.out).1
          have HSAME : Hid (T[m - 1]'(by omega) = xa → timesK os (k + 1) = T) := fun h => by rw [HST.out]; exact timeStep_same hT0 (hgd.trans h)
          have HDIFF : Hid (T[m - 1]'(by omega) ≠ xa → timesK os (k + 1) = T ++ [xa]) := fun h => by rw [HST.out]; exact timeStep_other rfl (by rw [hgd]; exact h)
          generalize T[m - 1]'(by omega) = tl at *
          obtain ⟨q, hq⟩ : ∃ q, q + 1 = m := ⟨m - 1, by omega⟩
          rw [show m - 1 = q by omega] at ht0
          have q0 : ((m : Int) == 0) = false := by rw [beq_eq_false_iff_ne]; omega
          have q1 : ¬ (m : Int) = 0 := by omega
          have q2 : ¬ m = 0 := by omega
          have hqm : m ≤ 1048576 := by omega
          have s1 : IntKind.i64.wrap ((m : Int) - 1) = (q : Int) := by have := IntWalk.i64_in ((m : Int) - 1) (by omega); rw [this]; omega
          have s2 : (q : Int) < (m : Int) := by omega
          have s3 : q < m := by omega
          have HQ := Lib.hid hq
          clear hq HST hT0 hgd hpt hmT hm0
          go_wp2_with fail
          refine wp_region_rel 22 (fun _ _ => True) (fun _ _ _ => True) (by kernel_rfl) (by kernel_rfl) (by kernel_rfl) ?_
          dsimp only [List.take, List.drop, List.length]
          refine LX_det (.slice (some ⟨g, 0, none⟩) n cap) (by kernel_rfl) rfl (fun w' hx _ => ?_) ?_
          · go_simp
          refine LX_det (.int .i64 k) (by kernel_rfl) rfl (fun w' hx _ => ?_) ?_
          · go_simp
          refine LX_det (.pointer (some ⟨g, k * 2, none⟩)) (by kernel_rfl) rfl (fun w' hx _ => ?_) ?_
          · go_simp
          refine LX_det (.pointer (some ⟨g, k * 2 + 1, none⟩)) (by kernel_rfl) rfl (fun w' hx _ => ?_) ?_
          · go_simp
          refine LX_det (.bool true) (by kernel_rfl) rfl (fun w' hx _ => ?_) ?_
          · have m0 := (Below.cell hx (p := ⟨g, k * 2 + 1, none⟩) hb1).trans hd1
            go_simp
          refine LX_det (.bool true) (by kernel_rfl) rfl (fun w' hx _ => ?_) ?_
          · go_simp
          refine LX_det (.int .i64 m) (by kernel_rfl) rfl (fun w' hx _ => ?_) ?_
          · go_simp
          refine LX_det (.bool false) (by kernel_rfl) rfl (fun w' hx _ => ?_) ?_
          · go_simp
          refine LX_det (.bool false) (by kernel_rfl) rfl (fun w' hx _ => ?_) ?_
          · go_simp
          refine LX_det (.slice (some ⟨g2, 0, none⟩) m cap2) (by kernel_rfl) rfl (fun w' hx _ => ?_) ?_
          · go_simp
          refine LX_det (.int .i64 m) (by kernel_rfl) rfl (fun w' hx _ => ?_) ?_
          · go_simp
          refine LX_det (.int .i64 q) (by kernel_rfl) rfl (fun w' hx _ => ?_) ?_
          · go_simp
          refine LX_det (.pointer (some ⟨g2, q, none⟩)) (by kernel_rfl) rfl (fun w' hx _ => ?_) ?_
          · go_simp
          refine LX_det (.float .f32 tl) (by kernel_rfl) rfl (fun w' hx _ => ?_) ?_
          · have m0 := (Below.cell hx (p := ⟨g2, q, none⟩) hgl).trans ht0
            go_simp
          refine LX_det (.slice (some ⟨g, 0, none⟩) n cap) (by kernel_rfl) rfl (fun w' hx _ => ?_) ?_
          · go_simp
          refine LX_det (.int .i64 k) (by kernel_rfl) rfl (fun w' hx _ => ?_) ?_
          · go_simp
          refine LX_det (.pointer (some ⟨g, k * 2, none⟩)) (by kernel_rfl) rfl (fun w' hx _ => ?_) ?_
          · go_simp
          refine LX_det (.pointer (some ⟨g, k * 2, none⟩)) (by kernel_rfl) rfl (fun w' hx _ => ?_) ?_
          · go_simp
          refine LX_det (.float .f32 xa) (by kernel_rfl) rfl (fun w' hx _ => ?_) ?_
          · have m0 := (Below.cell hx (p := ⟨g, k * 2, none⟩) hb1).trans hc1
            go_simp
          simp only [Act.put, List.setIfInBounds_toArray, List.set_cons_succ, List.set_cons_zero]
          refine LX_fcmp (by kernel_rfl) rfl rfl rfl rfl hcm ?_
          by_cases he : tl = xa
          · have hd : decide (tl ≠ xa) = false := by simp [he]
            have HN := Lib.hid (HSAME.out he)
            rw [hd]
            clear hcm hd he HSAME HDIFF
            refine LX_det (.bool false) (by kernel_rfl) rfl (fun w' hx _ => ?_) ?_
            · go_simp
            refine LX_det (.bool false) (by kernel_rfl) rfl (fun w' hx _ => ?_) ?_
            · go_simp
            refine LX_nil fun w2 hx _ => ?_
            refine wpList_nil ?_
            simp only [Act.put, List.setIfInBounds_toArray, List.set_cons_succ, List.set_cons_zero]
            replace own := own_ext own hx
            replace X2 := X2.trans hx
            clear hx hc1 hd1 hb1 hgl ht0
            go_wp2_with fail
            go_roundw
            case rel => exact ⟨k + 1, m, g2, cap2, by omega, by go_num, rfl, by rw [HN.out]; exact HM, by rw [HN.out]; exact own, X2⟩
            case measure => simp [intOf]; omega
          · have hd : decide (tl ≠ xa) = true := by simp [he]
            have HN := Lib.hid (HDIFF.out he)
            rw [hd]
            clear hcm hd he HSAME HDIFF
            refine LX_det (.bool true) (by kernel_rfl) rfl (fun w' hx _ => ?_) ?_
            · go_simp
            refine LX_det (.bool true) (by kernel_rfl) rfl (fun w' hx _ => ?_) ?_
            · go_simp
            refine LX_nil fun w2 hx _ => ?_
            refine wpList_nil ?_
            simp only [Act.put, List.setIfInBounds_toArray, List.set_cons_succ, List.set_cons_zero]
            replace own := own_ext own hx
            replace X2 := X2.trans hx
            have hc1' := (Below.cell hx (p := ⟨g, k * 2, none⟩) hb1).trans hc1
            clear hx hc1 hd1 hb1 hgl ht0
            go_wp2_with (at_builtin; refine wpList_push (v := .slice (some ⟨g2, 0, none⟩) m cap2) infoF32 rfl Try.underlying33 rfl rfl rfl (World.ownsRow.alloc own _) rfl (Bx.new _ [_] _).one rfl (by omega) (by decide) (X2.trans (Ext.alloc _ _)).size ?_; intro g3 cap3 w4 hg3 own3 bel3 sz3)
            go_roundw
            case rel => exact ⟨k + 1, m + 1, g3, cap3, by omega, by go_num, rfl, by rw [HN.out, List.length_append, ← HM.out]; rfl, by rw [HN.out, List.map_append]; exact own3, bel3 _ (X2.trans (Ext.alloc _ _))⟩
            case measure => simp [intOf]; omega
    · obtain rfl : k = n := by omega
      go_wp2_with fail
      go_ret
      have h := HM.out
      have hT := HTL.out
      rw [hT]
      subst h
      exact ⟨g2, cap2, rfl, World.ownsRow.mono own X.size, X.trans X2⟩
end Go.Proofs.Ytlbmjeennpccmaa
