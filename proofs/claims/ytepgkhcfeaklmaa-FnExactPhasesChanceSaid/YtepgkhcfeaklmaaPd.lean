
/- Phases: the program's closure that goes through all ways of failing. Condition: valid systems of the same parts, lists that can be read. -/
import Derived.Test.YtepgkhcfeaklmaaPa
import Derived.Test.YtepgkhcfeaklmaaPb
import Derived.Test.YtepgkhcfeaklmaaYf
namespace Go.Proofs.Ytepgkhcfeaklmaa
open Go Go.RowKit Go.ChangeShapes Go.WideShapes Go.ChangeAt

attribute [local irreducible] LX
attribute [local go_sem] run_store_float

/-- What a list of systems gives: the paths of each. -/
def dn (ss : List Sy) : List (List Nat) := ss.map fun s => downs s.zs
theorem dn_at {ss : List Sy} {i : Nat} (h : i < ss.length) : (dn ss).getD i [] = downs ss[i].zs := by simp [dn, h]
theorem dn_dat {a b : List Sy} (e : a.map Sy.dat = b.map Sy.dat) : dn a = dn b := by
  have h := congrArg (List.map fun q : Int × List Int => downs q.2) e
  simpa [dn, Sy.dat, Function.comp_def] using h
/-- Systems of the same parts, all valid. -/
def SysP (P : Nat) (ss : List Sy) : Prop := ∀ s ∈ ss, SysN P (downs s.zs) ∧ s.zs = ups (downs s.zs)

theorem infoIntP : (Try.prog.info? 3).map (fun i => (i.zero, i.size, i.bytes)) = some (some (.int .i64 0), 1, 8) := by kernel_rfl
def nums (F : List Nat) : List Value := F.map fun d : Nat => Value.int .i64 (d : Int)
theorem nums_set (F : List Nat) (i d : Nat) : (nums F).set i (.int .i64 (d : Int)) = nums (F.set i d) := by unfold nums; rw [List.map_set]
theorem nums_at {F : List Nat} {i : Nat} (h : i < F.length) : (nums F)[i]? = some (.int .i64 (F[i] : Int)) := by simp [nums, h]
/-- Where the program keeps its things: parts, phases, the phases of failing, the function, the systems, the chances, the sum; and the phases' block. -/
structure PlP (w0 : World) (B bp bn bf bu bl bc bo g : Nat) : Prop where
  l : bp < B ∧ bn < B ∧ bf < B ∧ bu < B ∧ bl < B ∧ bc < B ∧ bo < B ∧ g < B
  o : bo ≠ bp ∧ bo ≠ bn ∧ bo ≠ bf ∧ bo ≠ bu ∧ bo ≠ bl ∧ bo ≠ bc ∧ bo ≠ g
  m : g ≠ bp ∧ g ≠ bn ∧ g ≠ bf ∧ g ≠ bu ∧ g ≠ bl ∧ g ≠ bc
  w : w0.heap.size ≤ bo ∧ w0.heap.size ≤ g
structure StP (w0 : World) (B P n bp bn bf bu bl bc bo g : Nat) (lv cv fv : Value) (D : List (List Nat)) (C : List Nat) (W : World) (m : Nat) (pre : List Nat) : Prop where
  x : Ext w0 W
  sz : B ≤ W.heap.size
  cp : W.cell? ⟨bp, 0, none⟩ = some (.int .i64 P)
  cN : W.cell? ⟨bn, 0, none⟩ = some (.int .i64 n)
  cf : W.cell? ⟨bf, 0, none⟩ = some (.slice (some ⟨g, 0, none⟩) P P)
  cu : W.cell? ⟨bu, 0, none⟩ = some fv
  cl : W.cell? ⟨bl, 0, none⟩ = some lv
  cc : W.cell? ⟨bc, 0, none⟩ = some cv
  fa : ∃ F : List Nat, F.length = P ∧ F.take pre.length = pre ∧ W.ownsRow w0.heap.size 3 1 (.slice (some ⟨g, 0, none⟩) P P) P (nums F)
  co : ∃ x, W.cell? ⟨bo, 0, none⟩ = some (.float .f32 x) ∧ cn .f32 x = sumP D C P n m ∧ x < 4294967296
  fo : W.frozen? ⟨bo, 0, none⟩ = false
variable {w0 : World} {B P n bp bn bf bu bl bc bo g : Nat} {lv cv fv : Value} {D : List (List Nat)} {C : List Nat} {W W' : World} {m : Nat} {pre : List Nat}
theorem StP.ext (pl : PlP w0 B bp bn bf bu bl bc bo g) (h : StP w0 B P n bp bn bf bu bl bc bo g lv cv fv D C W m pre) (hx : Ext W W') : StP w0 B P n bp bn bf bu bl bc bo g lv cv fv D C W' m pre := by
  obtain ⟨l1, l2, l3, l4, l5, l6, l7, l8⟩ := pl.l
  have hz := h.sz
  have k : ∀ b (v : Value), b < B → W.cell? ⟨b, 0, none⟩ = some v → W'.cell? ⟨b, 0, none⟩ = some v := fun b v hb e => (Below.cell hx (p := ⟨b, 0, none⟩) (by show b < _; omega)).trans e
  obtain ⟨F, f1, f2, f3⟩ := h.fa
  obtain ⟨x, c1, c2⟩ := h.co
  exact ⟨h.x.trans hx, Nat.le_trans hz hx.size, k _ _ l1 h.cp, k _ _ l2 h.cN, k _ _ l3 h.cf, k _ _ l4 h.cu, k _ _ l5 h.cl, k _ _ l6 h.cc, ⟨F, f1, f2, own_ext' f3 hx⟩, ⟨x, k _ _ l7 c1, c2⟩,
    (Below.frozen hx (p := ⟨bo, 0, none⟩) (by show bo < _; omega)).trans h.fo⟩
theorem StP.put {j : Nat} (pl : PlP w0 B bp bn bf bu bl bc bo g) (h : StP w0 B P n bp bn bf bu bl bc bo g lv cv fv D C W m pre) (hp : pre.length < P) :
    StP w0 B P n bp bn bf bu bl bc bo g lv cv fv D C (W.setCell ⟨g, pre.length, none⟩ (.int .i64 (j : Int))) m (pre ++ [j]) := by
  obtain ⟨m1, m2, m3, m4, m5, m6⟩ := pl.m
  have hog := pl.o.2.2.2.2.2.2
  have k : ∀ b (v : Value), g ≠ b → W.cell? ⟨b, 0, none⟩ = some v → (W.setCell ⟨g, pre.length, none⟩ (.int .i64 (j : Int))).cell? ⟨b, 0, none⟩ = some v := fun b v hb e =>
    (World.cell?_setCell_other _ _ _ _ (fun q => hb (by injection q))).trans e
  obtain ⟨F, f1, f2, f3⟩ := h.fa
  obtain ⟨x, c1, c2⟩ := h.co
  have hst := (f3.stored pre.length (.int .i64 (j : Int))).1
  rw [nums_set] at hst
  have hs : W.heap.size ≤ (W.setCell ⟨g, pre.length, none⟩ (.int .i64 (j : Int))).heap.size := (Below.setCell (p := ⟨g, pre.length, none⟩) (Below.refl g W) (Nat.le_refl _) (.int .i64 (j : Int))).size
  refine ⟨h.x.setCell pl.w.2 _, Nat.le_trans h.sz hs, k _ _ m1 h.cp, k _ _ m2 h.cN, k _ _ m3 h.cf, k _ _ m4 h.cu, k _ _ m5 h.cl, k _ _ m6 h.cc, ⟨F.set pre.length j, by simp [f1], ?_, hst⟩, ⟨x, k _ _ (Ne.symm hog) c1, c2⟩, ?_⟩
  · rw [List.length_append, List.length_singleton, List.take_succ_eq_append_getElem (by rw [List.length_set]; omega), List.take_set_of_le (Nat.le_refl _), f2]
    simp
  · rw [World.frozen?_setCell]; exact h.fo
theorem StP.less {j : Nat} (h : StP w0 B P n bp bn bf bu bl bc bo g lv cv fv D C W m (pre ++ [j])) : StP w0 B P n bp bn bf bu bl bc bo g lv cv fv D C W m pre := by
  obtain ⟨F, f1, f2, f3⟩ := h.fa
  refine ⟨h.x, h.sz, h.cp, h.cN, h.cf, h.cu, h.cl, h.cc, ⟨F, f1, ?_, f3⟩, h.co, h.fo⟩
  have := congrArg (List.take pre.length) f2
  rw [List.take_take] at this
  simpa using this
theorem StP.sum {x m' : Nat} (pl : PlP w0 B bp bn bf bu bl bc bo g) (h : StP w0 B P n bp bn bf bu bl bc bo g lv cv fv D C W m pre) (hx : cn .f32 x = sumP D C P n m') (hl : x < 4294967296) :
    StP w0 B P n bp bn bf bu bl bc bo g lv cv fv D C (W.setCell ⟨bo, 0, none⟩ (.float .f32 x)) m' pre := by
  obtain ⟨m1, m2, m3, m4, m5, m6, m7⟩ := pl.o
  have k : ∀ b (v : Value), bo ≠ b → W.cell? ⟨b, 0, none⟩ = some v → (W.setCell ⟨bo, 0, none⟩ (.float .f32 x)).cell? ⟨b, 0, none⟩ = some v := fun b v hb e =>
    (World.cell?_setCell_other _ _ _ _ (fun q => hb (by injection q))).trans e
  obtain ⟨F, f1, f2, f3⟩ := h.fa
  obtain ⟨y, c1, c2⟩ := h.co
  have hs : W.heap.size ≤ (W.setCell ⟨bo, 0, none⟩ (.float .f32 x)).heap.size := (Below.setCell (p := ⟨bo, 0, none⟩) (Below.refl bo W) (Nat.le_refl _) (.float .f32 x)).size
  refine ⟨h.x.setCell pl.w.1 _, Nat.le_trans h.sz hs, k _ _ m1 h.cp, k _ _ m2 h.cN, k _ _ m3 h.cf, k _ _ m4 h.cu, k _ _ m5 h.cl, k _ _ m6 h.cc, ⟨F, f1, f2, ?_⟩, ⟨x, World.cell?_setCell_same' _ _ _ (by rw [c1]; rfl), hx, hl⟩, ?_⟩
  · exact ownsRow_setCell_other (a := ⟨bo, 0, none⟩) f3 (by simp [Value.ownBlock]; omega) _
  · rw [World.frozen?_setCell]; exact h.fo

set_option maxRecDepth 100000 in
set_option maxHeartbeats 8000000 in
/-- All parts have their phases: what this way adds. -/
theorem put_leaf (ss : List Sy) (bs : List Nat) (q : Nat) (rl : RdY w0 lv ss) (rc : RdF w0 cv bs) (hP : P ≤ 6) (hn : n ≤ 3) (hsn : ss.length = n) (hss : SysP P ss) (hbs : bs.length = n * P)
    (pl : PlP w0 B bp bn bf bu bl bc bo g) (hq : q < (n + 1) ^ P) (st : StP w0 B P n bp bn bf bu bl bc bo g lv cv fv (dn ss) (bs.map (cn .f32)) W q (digs (n + 1) P q)) :
    Calls Try.prog 95 #[.int .i64 P, .pointer (some ⟨bp, 0, none⟩), .pointer (some ⟨bn, 0, none⟩), .pointer (some ⟨bf, 0, none⟩), .pointer (some ⟨bu, 0, none⟩), .pointer (some ⟨bl, 0, none⟩), .pointer (some ⟨bc, 0, none⟩), .pointer (some ⟨bo, 0, none⟩)] W
      fun e W' => e = .returned (.tuple #[]) ∧ StP w0 B P n bp bn bf bu bl bc bo g lv cv fv (dn ss) (bs.map (cn .f32)) W' (q + 1) (digs (n + 1) P q) := by
  have ST := Lib.hid st
  have rl' := rl.ext st.x
  have rc' := rc.ext st.x
  have rl0 := rl
  have rc0 := rc
  obtain ⟨⟨-, a1, c1, rfl, -, -, -, -⟩, -⟩ := rl
  obtain ⟨⟨-, a2, c2, rfl, -, -, -, -⟩, -⟩ := rc
  rw [hsn] at rl' rl0 ST st
  try rw [hsn]
  have hcl := digs_len (n + 1) P q
  have hlt := digs_lt (show 0 < n + 1 by omega) P q hq
  obtain ⟨F, f1, f2, own⟩ := st.fa
  rw [hcl, List.take_of_length_le (by omega)] at f2
  have HDEF : Hid (sumP (dn ss) (bs.map (cn .f32)) P n (q + 1) = if okK (dn ss) P (digs (n + 1) P q) n then fop .add .f32 (sumP (dn ss) (bs.map (cn .f32)) P n q) (prA (bs.map (cn .f32)) P n (digs (n + 1) P q) P) else sumP (dn ss) (bs.map (cn .f32)) P n q) := rfl
  rw [← f2] at HDEF hlt ST ⊢
  obtain ⟨x0, hx0, hx1, hx2⟩ := st.co
  have cp := st.cp
  have cN := st.cN
  have cf := st.cf
  have cl := st.cl
  have cc := st.cc
  have fo := st.fo
  have hsz := st.sz
  have HX1 := Lib.hid hx1
  have HX2 := Lib.hid hx2
  have HLT : Hid (∀ i, (h : i < F.length) → F[i] ≤ n) := fun i h => by have := hlt _ (List.getElem_mem h); omega
  have HSS := Lib.hid hss
  have HBS := Lib.hid hbs
  have HF1 := Lib.hid f1
  obtain ⟨l1, l2, l3, l4, l5, l6, l7, l8⟩ := Lib.hid pl.l |>.out
  have PL := Lib.hid pl
  clear st hcl f2 hlt hq hss hbs pl hx1 hx2
  go_enter Try.func95, Try.ntmps95
  go_wp2_with fail
  clear cp cN cf cl cc fo hx0
  go_loopw [39] (fun i wr => ∃ t : Nat, t ≤ n ∧ i = .int .i64 t ∧ Hid (okK (dn ss) P F t = true) ∧ Ext W wr) (fun i _ => n - (intOf i).toNat)
  case atStart => exact ⟨0, Nat.zero_le _, rfl, (by show _ = _; rfl), Ext.refl _⟩
  case round =>
    obtain ⟨t, ht, rfl, HOK, X⟩ := hrel
    by_cases hlt : t < n
    · have hts : t < ss.length := by omega
      obtain ⟨b1, o1, rfl, hb1, k0, k1⟩ := (rl'.ext X).at hts
      have hok : RdI _ ss[t].kv ss[t].zs := (rl'.ext X).2 _ (List.getElem_mem hts)
      obtain ⟨hsn1, hsn2⟩ := HSS.out _ (List.getElem_mem hts)
      have HDN : Hid ((dn ss).getD t [] = downs ss[t].zs) := dn_at hts
      have st := ST.out.ext PL.out X
      have cf := st.cf
      have hbf : bf < wr.heap.size := Nat.lt_of_lt_of_le l3 st.sz
      generalize ss[t] = sy at *
      obtain ⟨pt, kv, zs⟩ := sy
      simp only at *
      have HN1 := Lib.hid hsn1
      have HN2 := Lib.hid hsn2
      have HOKR := Lib.hid hok
      obtain ⟨-, a3, c3, rfl, -, -, -, -⟩ := hok
      clear hsn1 hsn2 st
      go_wp2_with fail
      have bx : Bx (wr.alloc (.cells #[.int .i64 pt, .slice a3 zs.length c3] 33)) wr.heap.size [.int .i64 pt, .slice a3 zs.length c3] := Bx.new _ _ _
      have X1 : Ext wr (wr.alloc (.cells #[.int .i64 pt, .slice a3 zs.length c3] 33)) := Ext.alloc _ _
      generalize hW1 : World.alloc wr _ = W1 at *
      generalize hbx0 : wr.heap.size = bx0 at *
      clear hW1 k0 k1 hb1 cf hbf
      obtain ⟨wo, rfl⟩ : ∃ wo : World, wo = wr := ⟨_, rfl⟩
      go_loopw [46, 12] (fun i q wq => ∃ j : Nat, j ≤ P ∧ i = .int .i64 j ∧ q = .int .i64 (setK F t j : Nat) ∧ Ext W1 wq) (fun i _ _ => P - (intOf i).toNat)
      case atStart => exact ⟨0, Nat.zero_le _, rfl, rfl, Ext.refl _⟩
      case round =>
        obtain ⟨j, hj, rfl, rfl, Y⟩ := hrel
        have hj6 : 2 ^ j ≤ 64 := by
          have : j = 0 ∨ j = 1 ∨ j = 2 ∨ j = 3 ∨ j = 4 ∨ j = 5 ∨ j = 6 := by omega
          rcases this with h | h | h | h | h | h | h <;> subst h <;> decide
        have hs := setK_lt F t j
        by_cases hjP : j < P
        · have hjF : j < F.length := by omega
          have own2 := own_ext' own ((X.trans X1).trans Y)
          have hc0 := own2.cellAt j (by omega)
          rw [nums_at hjF] at hc0
          have hg2 := (own2.lt g rfl).2
          have hji : (j : Int) < (P : Int) := by omega
          have hj64 : (j : Int) < 64 := by omega
          have hSD : Hid (setK F t (j + 1) = setK F t j + (if t < F.getD j 0 then 2 ^ j else 0)) := rfl
          have hgd : F.getD j 0 = F[j] := by simp [hjF]
          rw [hgd] at hSD
          obtain ⟨s2, hs2⟩ : ∃ s2, s2 = setK F t j + 2 ^ j := ⟨_, rfl⟩
          have hor : bits .or .i64 ((setK F t j : Nat) : Int) (2 ^ j) = (s2 : Int) := by
            rw [show (2 : Int) ^ j = ((2 ^ j : Nat) : Int) by exact_mod_cast rfl, bits_or _ _ (by omega) (by omega), or_bit (Nat.testBit_lt_two_pow hs), hs2]
          have hw2 : IntKind.i64.wrap ((2 : Int) ^ j) = (2 : Int) ^ j := by
            rw [show (2 : Int) ^ j = ((2 ^ j : Nat) : Int) by exact_mod_cast rfl]; exact wrap_nat _ (by omega)
          clear own2 hgd hs hj6
          generalize setK F t j = s1 at *
          generalize F[j] = d at *
          by_cases htd : t < d
          · have htd2 : (t : Int) < (d : Int) := by omega
            have hSE : Hid (setK F t (j + 1) = s2) := by show _ = _; rw [hSD.out, if_pos htd, hs2]
            clear htd hs2
            go_wp2_with fail
            go_roundw
            case rel => exact ⟨j + 1, by omega, by go_num, by rw [hSE.out], Y⟩
            case measure => simp [intOf]; omega
          · have htd2 : ¬ (t : Int) < (d : Int) := by omega
            have hSE : Hid (setK F t (j + 1) = s1) := by show _ = _; rw [hSD.out, if_neg htd, Nat.add_zero]
            clear htd hs2
            go_wp2_with fail
            go_roundw
            case rel => exact ⟨j + 1, by omega, by go_num, by rw [hSE.out], Y⟩
            case measure => simp [intOf]; omega
        · obtain rfl : j = P := by omega
          have bx2 := bx.ext Y
          obtain ⟨k0, k1⟩ := bx2.two
          have hbl := bx2.1
          have r3 : RdI wr (.slice a3 zs.length c3) (ups (downs zs)) := by rw [← HN2.out]; exact RdI.ext HOKR.out (X1.trans Y)
          have HW := Lib.hid (fun W' (x : Ext wr W') => works_any pt (setK F t j) (.slice a3 zs.length c3) (downs zs) W' (r3.ext x) (fun z hz => by have := HN1.out.small z hz; omega) (by omega))
          generalize hwb : worksB (downs zs) (setK F t j) = wb at *
          have HWB := Lib.hid hwb
          clear hwb r3 hs hj6
          go_wp2_with fail
          refine (HW.out _ (Ext.refl _)).mono ?_
          rintro e w2 ⟨rfl, hx⟩
          have Z := ((X.trans X1).trans Y).trans hx
          cases wb
          · have HNO : Hid (okK (dn ss) j F n = false) := okK_false hlt (by rw [HDN.out]; exact HWB.out)
            go_wp2_with fail
            refine bodyPost_ret (v := .tuple #[]) (results_none rfl _ _ _) rfl ⟨rfl, ?_⟩
            have st2 := ST.out.ext PL.out Z
            have e : sumP (dn ss) (bs.map (cn .f32)) j n (q + 1) = sumP (dn ss) (bs.map (cn .f32)) j n q := by rw [HDEF.out, HNO.out]; rfl
            obtain ⟨y, y1, y2, y3⟩ := st2.co
            exact ⟨st2.x, st2.sz, st2.cp, st2.cN, st2.cf, st2.cu, st2.cl, st2.cc, st2.fa, ⟨y, y1, by rw [e]; exact y2, y3⟩, st2.fo⟩
          · have HYES : Hid (okK (dn ss) j F (t + 1) = true) := by show _ = _; rw [okK_succ, HOK.out, HDN.out, HWB.out]; rfl
            go_wp2_with fail
            go_roundw
            case rel => exact ⟨t + 1, by omega, by go_num, HYES, Z⟩
            case measure => simp [intOf]; omega
    · obtain rfl : t = n := by omega
      have st := ST.out.ext PL.out X
      have cf := st.cf
      have hbf : bf < wr.heap.size := Nat.lt_of_lt_of_le l3 st.sz
      clear st
      go_wp2_with fail
      clear cf hbf
      obtain ⟨we, rfl⟩ : ∃ we : World, we = wr := ⟨_, rfl⟩
      go_loopw [66, 15] (fun i p wq => ∃ (j x : Nat), j ≤ P ∧ i = .int .i64 j ∧ p = .float .f32 x ∧ Hid (cn .f32 x = prA (bs.map (cn .f32)) P t F j) ∧ Hid (x < 4294967296) ∧ Ext we wq) (fun i _ _ => P - (intOf i).toNat)
      case atStart => exact ⟨0, 1065353216, Nat.zero_le _, rfl, rfl, rfl, (by show (1065353216 : Nat) < _; decide), Ext.refl _⟩
      case round =>
        obtain ⟨j, x, hj, rfl, rfl, HX, HXB, Y⟩ := hrel
        by_cases hjP : j < P
        · have hjF : j < F.length := by omega
          have st := ST.out.ext PL.out (X.trans Y)
          have own2 := own_ext' own (X.trans Y)
          have hc0 := own2.cellAt j (by omega)
          rw [nums_at hjF] at hc0
          have hg2 := (own2.lt g rfl).2
          have cN := st.cN
          have hbn : bn < wr.heap.size := Nat.lt_of_lt_of_le l2 st.sz
          have hji : (j : Int) < (P : Int) := by omega
          have HDA : Hid (prA (bs.map (cn .f32)) P t F (j + 1) = prT (prA (bs.map (cn .f32)) P t F j) (bs.map (cn .f32)) P j (F.getD j 0) (min t (F.getD j 0 + 1))) := rfl
          have hgd : F.getD j 0 = F[j] := by simp [hjF]
          rw [hgd] at HDA
          have hdn := HLT.out j hjF
          generalize F[j] = d at *
          clear own2 hgd st
          go_wp2_with fail
          obtain ⟨wo, rfl⟩ : ∃ wo : World, wo = wr := ⟨_, rfl⟩
          clear hc0 hg2 cN hbn
          go_loopw [72, 15] (fun i p wq => ∃ (s y : Nat), s ≤ t ∧ s ≤ d ∧ i = .int .i64 s ∧ p = .float .f32 y ∧ Hid (cn .f32 y = prT (prA (bs.map (cn .f32)) P t F j) (bs.map (cn .f32)) P j d s) ∧ Hid (y < 4294967296) ∧ Ext wo wq) (fun i _ _ => t - (intOf i).toNat)
          case atStart => exact ⟨0, x, Nat.zero_le _, Nat.zero_le _, rfl, rfl, HX, HXB, Ext.refl _⟩
          case round =>
            obtain ⟨s, y, hst, hsd, rfl, rfl, HY, HYB, V⟩ := hrel
            by_cases hlt : s < t
            · have hix : s * P + j < bs.length := by
                rw [HBS.out]
                have : (s + 1) * P ≤ t * P := Nat.mul_le_mul_right P hlt
                rw [Nat.succ_mul] at this; omega
              have hix2 : s * P + j < 18 := by
                have h1 : t * P ≤ 3 * 6 := Nat.mul_le_mul hn hP
                have h2 := HBS.out
                omega
              have hm : (s : Int) * (P : Int) = ((s * P : Nat) : Int) := by exact_mod_cast rfl
              have hw1 : IntKind.i64.wrap ((s : Int) * (P : Int)) = ((s * P : Nat) : Int) := by rw [hm]; exact wrap_nat _ (by omega)
              obtain ⟨ix, hixd⟩ : ∃ ix, ix = s * P + j := ⟨_, rfl⟩
              have hw3 : IntKind.i64.wrap (((s * P : Nat) : Int) + (j : Int)) = (ix : Int) := by rw [hixd, show ((s * P : Nat) : Int) + (j : Int) = ((s * P + j : Nat) : Int) by omega]; exact wrap_nat _ (by omega)
              have st := ST.out.ext PL.out ((X.trans Y).trans V)
              have cc := st.cc
              have cp := st.cp
              have hbc : bc < wr.heap.size := Nat.lt_of_lt_of_le l6 st.sz
              have hbp : bp < wr.heap.size := Nat.lt_of_lt_of_le l1 st.sz
              rw [← hixd] at hix hix2
              obtain ⟨b2, o2, e2, hb2, hc2⟩ := RdF.at (rc'.ext ((X.trans Y).trans V)) hix
              subst e2
              have hixi : (ix : Int) < (bs.length : Int) := by omega
              have HCX : Hid ((bs.map (cn .f32)).getD (s * P + j) 0 = cn .f32 bs[ix]) := by show _ = _; rw [← hixd]; simp [hix]
              have HPT : Hid (prT (prA (bs.map (cn .f32)) P t F j) (bs.map (cn .f32)) P j d (s + 1) = fop .mul .f32 (prT (prA (bs.map (cn .f32)) P t F j) (bs.map (cn .f32)) P j d s) (if s < d then fop .sub .f32 oneF ((bs.map (cn .f32)).getD (s * P + j) 0) else (bs.map (cn .f32)).getD (s * P + j) 0)) := rfl
              rw [HCX.out] at HPT
              generalize bs[ix] = c at *
              generalize hsp : s * P = sp at *
              clear hsp hm st hixd
              by_cases hsd2 : s = d
              · have HPE : Hid (prA (bs.map (cn .f32)) P t F (j + 1) = fop .mul .f32 (prT (prA (bs.map (cn .f32)) P t F j) (bs.map (cn .f32)) P j d s) (cn .f32 c)) := by
                  show _ = _
                  rw [HDA.out, show min t (d + 1) = s + 1 by omega, HPT.out, if_neg (by omega)]
                clear HPT HDA
                subst hsd2
                go_wp2_with (refine wpList_fop rfl rfl rfl rfl rfl ?_; intro fb nf hfb hfl; replace hfb := Lib.hid hfb; replace hfl := Lib.hid hfl)
                go_roundw
                case rel =>
                  refine ⟨j + 1, fb, by omega, by go_num, rfl, ?_, hfl, Y.trans (V.trans (Ext.drewN _ _))⟩
                  show _ = _; rw [HPE.out, hfb.out, HY.out]
                case measure => simp [intOf]; omega
              · have HPE : Hid (prT (prA (bs.map (cn .f32)) P t F j) (bs.map (cn .f32)) P j d (s + 1) = fop .mul .f32 (prT (prA (bs.map (cn .f32)) P t F j) (bs.map (cn .f32)) P j d s) (fop .sub .f32 oneF (cn .f32 c))) := by
                  show _ = _
                  rw [HPT.out, if_pos (by omega)]
                have hsd3 : ¬ (s : Int) = (d : Int) := by omega
                have hsd4 : s < d := by omega
                clear HPT HDA hsd2
                go_wp2_with (refine wpList_fop rfl rfl rfl rfl rfl ?_; intro fb nf hfb hfl; replace hfb := Lib.hid hfb; replace hfl := Lib.hid hfl)
                rename_i m1 n1 e1 l1
                go_roundw
                case rel =>
                  refine ⟨s + 1, fb, by omega, by omega, by go_num, rfl, ?_, hfl, V.trans (Ext.drewN _ _)⟩
                  show _ = _; rw [HPE.out, hfb.out, e1.out, HY.out]; rfl
                case measure => simp [intOf]; omega
            · obtain rfl : s = t := by omega
              have HPE : Hid (prA (bs.map (cn .f32)) P s F (j + 1) = prT (prA (bs.map (cn .f32)) P s F j) (bs.map (cn .f32)) P j d s) := by
                show _ = _
                rw [HDA.out, show min s (d + 1) = s by omega]
              go_wp2_with fail
              go_roundw
              case rel =>
                refine ⟨j + 1, y, by omega, by go_num, rfl, ?_, HYB, Y.trans V⟩
                show _ = _; rw [HPE.out, HY.out]
              case measure => simp [intOf]; omega
        · obtain rfl : j = P := by omega
          have st := ST.out.ext PL.out (X.trans Y)
          have ST2 := Lib.hid st
          obtain ⟨x0, hx0, hx1, hx2⟩ := st.co
          have HX1 := Lib.hid hx1
          have HX2 := Lib.hid hx2
          have fo := st.fo
          have hbo : bo < wr.heap.size := Nat.lt_of_lt_of_le l7 st.sz
          clear st hx1 hx2
          go_wp2_with (refine wpList_fop rfl rfl rfl rfl rfl ?_; intro fb nf hfb hfl; replace hfb := Lib.hid hfb; replace hfl := Lib.hid hfl)
          go_end0
          refine ⟨rfl, ?_⟩
          have e : sumP (dn ss) (bs.map (cn .f32)) j t (q + 1) = fop .add .f32 (sumP (dn ss) (bs.map (cn .f32)) j t q) (prA (bs.map (cn .f32)) j t F j) := by rw [HDEF.out, HOK.out]; rfl
          refine StP.sum PL.out (ST2.out.ext PL.out (Ext.drewN _ _)) ?_ hfl.out
          rw [e, hfb.out, HX1.out, HX.out]

set_option maxRecDepth 100000 in
set_option maxHeartbeats 8000000 in
/-- The closure: all ways for the parts from one on. -/
theorem put_any (ss : List Sy) (bs : List Nat) (rl : RdY w0 lv ss) (rc : RdF w0 cv bs) (hP : P ≤ 6) (hn : n ≤ 3) (hsn : ss.length = n) (hss : SysP P ss) (hbs : bs.length = n * P)
    (pl : PlP w0 B bp bn bf bu bl bc bo g) (hfv : fv = .func (.func 95) #[] #[.pointer (some ⟨bp, 0, none⟩), .pointer (some ⟨bn, 0, none⟩), .pointer (some ⟨bf, 0, none⟩), .pointer (some ⟨bu, 0, none⟩), .pointer (some ⟨bl, 0, none⟩), .pointer (some ⟨bc, 0, none⟩), .pointer (some ⟨bo, 0, none⟩)]) :
    ∀ (k p q : Nat) (W : World), p + k = P → q < (n + 1) ^ p → StP w0 B P n bp bn bf bu bl bc bo g lv cv fv (dn ss) (bs.map (cn .f32)) W (q * (n + 1) ^ k) (digs (n + 1) p q) →
    Calls Try.prog 95 #[.int .i64 p, .pointer (some ⟨bp, 0, none⟩), .pointer (some ⟨bn, 0, none⟩), .pointer (some ⟨bf, 0, none⟩), .pointer (some ⟨bu, 0, none⟩), .pointer (some ⟨bl, 0, none⟩), .pointer (some ⟨bc, 0, none⟩), .pointer (some ⟨bo, 0, none⟩)] W
      fun e W' => e = .returned (.tuple #[]) ∧ StP w0 B P n bp bn bf bu bl bc bo g lv cv fv (dn ss) (bs.map (cn .f32)) W' ((q + 1) * (n + 1) ^ k) (digs (n + 1) p q) := by
  have HFV := Lib.hid hfv
  clear hfv
  intro k
  induction k with
  | zero =>
    intro p q W hpk hq st
    obtain rfl : p = P := by omega
    rw [Nat.pow_zero, Nat.mul_one] at st ⊢
    exact put_leaf ss bs q rl rc hP hn hsn hss hbs pl hq st
  | succ k ih =>
    intro p q W hpk hq st
    have hpl : p < P := by omega
    have hpi : (p : Int) < (P : Int) := by omega
    have hw1 : IntKind.i64.wrap ((p : Int) + 1) = ((p + 1 : Nat) : Int) := by rw [show (p : Int) + 1 = ((p + 1 : Nat) : Int) by omega]; exact wrap_nat _ (by omega)
    have hw2 : IntKind.i64.wrap ((n : Int) + 1) = ((n + 1 : Nat) : Int) := by rw [show (n : Int) + 1 = ((n + 1 : Nat) : Int) by omega]; exact wrap_nat _ (by omega)
    obtain ⟨b, hb⟩ : ∃ b, b = n + 1 := ⟨_, rfl⟩
    have hlen := digs_len (n + 1) p q
    have HIH := Lib.hid (fun (j : Nat) (hj : j < n + 1) (W' : World) (s : StP w0 B P n bp bn bf bu bl bc bo g lv cv fv (dn ss) (bs.map (cn .f32)) W' ((q * (n + 1) + j) * (n + 1) ^ k) (digs (n + 1) p q ++ [j])) =>
      ih (p + 1) (q * (n + 1) + j) W' (by omega) (by
        have : (q + 1) * (n + 1) ≤ (n + 1) ^ p * (n + 1) := Nat.mul_le_mul_right _ hq
        rw [Nat.succ_mul] at this
        rw [Nat.pow_succ]; omega) (by rw [digs_snoc hj p q hq]; exact s))
    have HSN := Lib.hid (fun (j : Nat) (hj : j < n + 1) => digs_snoc hj p q hq)
    have h0 : q * (n + 1) ^ (k + 1) = (q * (n + 1) + 0) * (n + 1) ^ k := by
      show q * (n + 1) ^ (k + 1) = (q * (n + 1)) * (n + 1) ^ k
      rw [Nat.pow_succ, Nat.mul_assoc, Nat.mul_comm (n + 1)]
    have h1 : (q + 1) * (n + 1) ^ (k + 1) = (q * (n + 1) + (n + 1)) * (n + 1) ^ k := by
      rw [← Nat.succ_mul, Nat.pow_succ, Nat.mul_assoc, Nat.mul_comm (n + 1)]
    rw [h0] at st
    have HG := Lib.hid h1
    have ST := Lib.hid st
    have PL := Lib.hid pl
    have cp := st.cp
    have cN := st.cN
    have hsz := st.sz
    obtain ⟨l1, l2, l3, l4, l5, l6, l7, l8⟩ := Lib.hid pl.l |>.out
    clear ih h0 h1 st pl hq rl rc hbs hss hsn
    have hbp : bp < W.heap.size := Nat.lt_of_lt_of_le l1 hsz
    have hbn : bn < W.heap.size := Nat.lt_of_lt_of_le l2 hsz
    generalize hpre : digs (n + 1) p q = pre at *
    clear hpre
    rw [← hb] at hw2
    have hbi : (b : Int) = (n : Int) + 1 := by omega
    go_enter Try.func95, Try.ntmps95
    go_wp2_with fail
    clear cp cN hbp hbn
    go_loopw [25] (fun i wr => ∃ j : Nat, j ≤ n + 1 ∧ i = .int .i64 j ∧ StP w0 B P n bp bn bf bu bl bc bo g lv cv fv (dn ss) (bs.map (cn .f32)) wr ((q * (n + 1) + j) * (n + 1) ^ k) pre) (fun i _ => (n + 1) - (intOf i).toNat)
    case atStart => exact ⟨0, Nat.zero_le _, rfl, ST.out⟩
    case round =>
      obtain ⟨j, hj, rfl, st⟩ := hrel
      by_cases hlt : j < n + 1
      · have hji : (j : Int) < (b : Int) := by omega
        obtain ⟨F, f1, f2, own⟩ := st.fa
        have hc := own.cellAt p (by omega)
        have hf := own.frozenAt p
        rw [nums_at (by omega)] at hc
        have cf := st.cf
        have hbf : bf < wr.heap.size := Nat.lt_of_lt_of_le l3 st.sz
        have hg := (own.lt g rfl).2
        have st2 := st.put (j := j) PL.out (by omega)
        rw [hlen] at st2
        have cu := st2.cu
        rw [HFV.out] at cu
        have HI := Lib.hid (HIH.out j hlt _ st2)
        rw [HSN.out j hlt] at HI
        clear own st st2 f2
        go_wp2_with fail
        refine HI.out.mono ?_
        rintro e w2 ⟨rfl, st3⟩
        have st4 := st3.less
        clear st3
        go_wp2_with fail
        go_roundw
        case rel => exact ⟨j + 1, by omega, by go_num, by rw [show q * (n + 1) + (j + 1) = q * (n + 1) + j + 1 by omega]; exact st4⟩
        case measure => simp [intOf]; omega
      · obtain rfl : j = n + 1 := by omega
        have hji : ¬ ((n + 1 : Nat) : Int) < (b : Int) := by omega
        go_wp2_with fail
        refine bodyPost_ret (v := .tuple #[]) (results_none rfl _ _ _) rfl ⟨rfl, ?_⟩
        rw [HG.out]; exact st
end Go.Proofs.Ytepgkhcfeaklmaa
