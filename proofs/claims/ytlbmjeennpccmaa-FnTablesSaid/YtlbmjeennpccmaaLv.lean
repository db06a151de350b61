
/- Tables behind failures: what the program and the reference compute. Condition: valid lives. -/
import Derived.Test.YtlbmjeennpccmaaLu
import Derived.Test.YtlbmjeennpccmaaLs
import Derived.Test.YtlbmjeennpccmaaLw
namespace Go.Proofs.Ytlbmjeennpccmaa
open Go Go.RowKit Go.ChangeShapes Go.WideShapes Go.ChangeAt

attribute [local go_sem] run_store_float

/-- A list of numbers of the call's own, by their canonical bits. -/
def OwN (B : Nat) (w : World) (v : Value) (xs : List Nat) : Prop := ∃ (g cap : Nat) (os : List Nat), v = .slice (some ⟨g, 0, none⟩) os.length cap ∧ os.map (cn .f32) = xs ∧ (∀ b ∈ os, b < 4294967296) ∧
  w.ownsRow B 24 1 (.slice (some ⟨g, 0, none⟩) os.length cap) os.length (os.map (Value.float .f32))
theorem OwN.ext {B : Nat} {w w' : World} {v : Value} {xs : List Nat} (h : OwN B w v xs) (hx : Ext w w') : OwN B w' v xs := by
  obtain ⟨g, cap, os, rfl, h1, h2, own⟩ := h
  exact ⟨g, cap, os, rfl, h1, h2, own_ext own hx⟩
theorem OwN.post {w w1 w2 : World} {v : Value} {xs : List Nat} (h : OwN w1.heap.size w2 v xs) (X : Ext w w1) (X2 : Ext w1 w2) : FlPost (some xs) w (.returned (.tuple #[v, .bool true])) w2 := by
  obtain ⟨g, cap, os, rfl, h1, h2, own⟩ := h
  exact ⟨X.trans X2, g, cap, os, rfl, h1, h2, World.ownsRow.mono own X.size⟩

/-- What has come of the first k elements, and the list of all that came. -/
def accK (f : Nat → Nat → Nat) (s : Nat) (T : List Nat) (k : Nat) : Nat := (T.take k).foldl f s
def scanK (f : Nat → Nat → Nat) (s : Nat) (T : List Nat) (k : Nat) : List Nat := (List.range k).map fun i => accK f s T (i + 1)
theorem accK_succ {f : Nat → Nat → Nat} {s : Nat} {T : List Nat} {k : Nat} (h : k < T.length) : accK f s T (k + 1) = f (accK f s T k) T[k] := by
  unfold accK; rw [List.take_add_one, List.getElem?_eq_getElem h, List.foldl_append]; rfl
theorem scanK_succ (f : Nat → Nat → Nat) (s : Nat) (T : List Nat) (k : Nat) : scanK f s T (k + 1) = scanK f s T k ++ [accK f s T (k + 1)] := by
  unfold scanK; rw [List.range_succ, List.map_append]; rfl
theorem scanK_len (f : Nat → Nat → Nat) (s : Nat) (T : List Nat) (k : Nat) : (scanK f s T k).length = k := by simp [scanK]

def one1 : Nat := cn .f32 1065353216
def survF (ls : List Lf) (s t : Nat) : Nat := fop .mul .f32 s (fop .sub .f32 one1 (quotL ls t))
def hazF (ls : List Lf) (s t : Nat) : Nat := fop .add .f32 s (quotL ls t)
def survL (ls : List Lf) : List Nat := scanK (survF ls) one1 (timesL ls) (timesL ls).length
def hazL (ls : List Lf) : List Nat := scanK (hazF ls) (cn .f32 0) (timesL ls) (timesL ls).length
theorem times_rd {ls : List Lf} {w : World} {B g cap : Nat} (hok : AllOk ls) (own : w.ownsRow B 24 1 (.slice (some ⟨g, 0, none⟩) (timesL ls).length cap) (timesL ls).length ((timesL ls).map (Value.float .f32))) :
    RdF w (.slice (some ⟨g, 0, none⟩) (timesL ls).length cap) (timesL ls) := ⟨own_rd own, fun b hb => by have := (timesL_pos hok b hb).2; omega⟩

set_option maxRecDepth 100000 in
set_option maxHeartbeats 8000000 in
theorem survivors_any (v : Value) (ls : List Lf) (w : World) (r : RdL w v ls) (h0 : 0 < ls.length) (hz : ls.length ≤ 1048576) (hok : AllOk ls) :
    Calls Try.prog 58 #[v] w fun e w' => ∃ v', e = .returned v' ∧ OwN w.heap.size w' v' (survL ls) ∧ Ext w w' := by
  have HF := Lib.hid (fun W r => failures_any v ls W r h0 hz hok)
  have HA := Lib.hid (fun W r t => at_any v ls t W r hz)
  have HTR := Lib.hid (fun (W : World) (B g cap : Nat) => times_rd (w := W) (B := B) (g := g) (cap := cap) hok)
  have hlen := timesL_len ls
  have r' := r
  clear hok
  obtain ⟨⟨-, a1, c1, rfl, -, -, -, -⟩, -⟩ := r
  go_enter Try.func58, Try.ntmps58
  go_wp2_with fail
  refine (HF.out _ (r'.ext (Ext.alloc _ _))).mono ?_
  rintro e w1 ⟨g, cap, rfl, own, X1⟩
  have X : Ext w w1 := (Ext.alloc _ _).trans X1
  have R := HTR.out _ _ _ _ own
  have o0 : w1.ownsRow w.heap.size 24 1 (.slice (some ⟨w.heap.size, 0, none⟩) 0 0) 0 [] := own_ext (World.ownsRow_lit (base := w.heap.size) (e := 24) (size := 1) w #[] 0 (Nat.le_refl _) (by decide) rfl) X1
  have HTS : Hid (survL ls = scanK (survF ls) one1 (timesL ls) (timesL ls).length) := rfl
  generalize timesL ls = T at *
  clear HF HTR own X1
  go_wp2_with fail
  go_loopw [13, 4, 3] (fun i s o wr => ∃ (k sb g2 cap2 : Nat) (us : List Nat), k ≤ T.length ∧ i = .int .i64 k ∧ s = .float .f32 sb ∧ o = .slice (some ⟨g2, 0, none⟩) k cap2 ∧ us.length = k ∧ Hid (cn .f32 sb = accK (survF ls) one1 T k) ∧ Hid (us.map (cn .f32) = scanK (survF ls) one1 T k) ∧ Hid (∀ b ∈ us, b < 4294967296) ∧
      OutF w.heap.size w1.heap.size wr g2 cap2 k (us.map (Value.float .f32)) ∧ Ext w1 wr) (fun i _ _ _ => T.length - (intOf i).toNat)
  case atStart => exact ⟨0, 1065353216, _, _, [], Nat.zero_le _, rfl, rfl, rfl, rfl, rfl, rfl, (by show ∀ _ ∈ _, _; simp), .inl ⟨rfl, rfl, rfl, rfl⟩, Ext.refl _⟩
  case round =>
    obtain ⟨k, sb, g2, cap2, us, hk, rfl, rfl, rfl, hul, HS, HU, HB, own, X2⟩ := hrel
    by_cases hlt : k < T.length
    · obtain ⟨b1, o1, hbo, hb1, hc1⟩ := (R.ext X2).at hlt
      obtain ⟨rfl, rfl⟩ : g = b1 ∧ 0 = o1 := by simpa using hbo
      rw [Nat.zero_add] at hc1
      have HSU : Hid (accK (survF ls) one1 T (k + 1) = fop .mul .f32 (accK (survF ls) one1 T k) (fop .sub .f32 one1 (quotL ls T[k]))) := accK_succ hlt
      have HSC := Lib.hid (scanK_succ (survF ls) one1 T k)
      generalize T[k] = t at *
      have HQ : Hid (quotL ls t = fop .quo .f32 (cn .f32 (floatOfInt .f32 (cntB (fellB t) ls))) (cn .f32 (floatOfInt .f32 (cntB (riskB t) ls)))) := by show _ = _; rw [cn_ofI, cn_ofI]; rfl
      have HAT := Lib.hid (fun W r => HA.out W r t)
      generalize floatOfInt .f32 (cntB (fellB t) ls) = fa at *
      generalize floatOfInt .f32 (cntB (riskB t) ls) = ra at *
      clear hbo
      go_wp2_with fail
      refine (HAT.out _ ((r'.ext X).ext X2)).mono ?_
      rintro e w2 ⟨rfl, hx⟩
      replace X2 := X2.trans hx
      replace own := own.ext hx
      clear hx hc1 hb1
      rcases own with ⟨rfl, rfl, rfl, hv⟩ | ⟨hk0, own⟩
      · have hu0 : us = [] := List.eq_nil_of_length_eq_zero hul
        subst hu0
        clear hv
        go_wp2_with (first | (refine wpList_fop rfl rfl rfl rfl rfl ?_; intro fb nf hfb hfl; replace hfb := Lib.hid hfb; replace hfl := Lib.hid hfl) | (at_builtin; refine wpList_push0 infoF32 rfl Try.underlying33 rfl rfl rfl rfl (Bx.new _ [_] _).one rfl (by decide) ?_; intro g3 cap3 w4 own3 hx3))
        rename_i b1 n1 e1 l1 b2 n2 e2 l2
        have N1 : Hid (cn .f32 fb = accK (survF ls) one1 T (0 + 1)) := by
          show _ = _; rw [HSU.out, hfb.out, e2.out, e1.out, HS.out, HQ.out]; rfl
        have N2 : Hid (([] ++ [fb]).map (cn .f32) = scanK (survF ls) one1 T (0 + 1)) := by
          show _ = _; rw [List.map_append, HU.out, HSC.out, List.map_cons, N1.out]; rfl
        have N3 : Hid (∀ b ∈ [] ++ [fb], b < 4294967296) := by
          show ∀ _ ∈ _, _
          intro x hx
          rcases List.mem_append.1 hx with h | h
          · exact HB.out x h
          · obtain rfl := List.mem_singleton.1 h; exact hfl.out
        go_roundw
        case rel => exact ⟨1, fb, g3, cap3, [] ++ [fb], by omega, by go_num, rfl, rfl, rfl, N1, N2, N3, .inr ⟨by omega, World.ownsRow.mono own3 (by have := X2.size; simp; omega)⟩, X2.trans ((Ext.drewN _ _).trans ((Ext.alloc _ _).trans hx3))⟩
        case measure => simp [intOf]; omega
      · go_wp2_with (first | (refine wpList_fop rfl rfl rfl rfl rfl ?_; intro fb nf hfb hfl; replace hfb := Lib.hid hfb; replace hfl := Lib.hid hfl) | (at_builtin; refine wpList_push (v := .slice (some ⟨g2, 0, none⟩) k cap2) infoF32 rfl Try.underlying33 rfl rfl rfl (World.ownsRow.alloc (w := World.drewN _ _) (own_ext own (Ext.drewN _ _)) _) rfl (Bx.new _ [_] _).one rfl (by omega) (by decide) (X2.trans ((Ext.drewN _ _).trans (Ext.alloc _ _))).size ?_; intro g3 cap3 w4 hg3 own3 bel3 sz3))
        rename_i b1 n1 e1 l1 b2 n2 e2 l2
        have N1 : Hid (cn .f32 fb = accK (survF ls) one1 T (k + 1)) := by
          show _ = _; rw [HSU.out, hfb.out, e2.out, e1.out, HS.out, HQ.out]; rfl
        have N2 : Hid ((us ++ [fb]).map (cn .f32) = scanK (survF ls) one1 T (k + 1)) := by
          show _ = _; rw [List.map_append, HU.out, HSC.out, List.map_cons, N1.out]; rfl
        have N3 : Hid (∀ b ∈ us ++ [fb], b < 4294967296) := by
          show ∀ _ ∈ _, _
          intro x hx
          rcases List.mem_append.1 hx with h | h
          · exact HB.out x h
          · obtain rfl := List.mem_singleton.1 h; exact hfl.out
        go_roundw
        case rel => exact ⟨k + 1, fb, g3, cap3, us ++ [fb], by omega, by go_num, rfl, rfl, by simp [hul], N1, N2, N3, .inr ⟨by omega, by rw [List.map_append]; exact own3⟩, bel3 _ (X2.trans ((Ext.drewN _ _).trans (Ext.alloc _ _)))⟩
        case measure => simp [intOf]; omega
    · obtain rfl : k = T.length := by omega
      go_wp2_with fail
      go_ret
      have hU := HU.out
      have hB := HB.out
      rcases own with ⟨h1, rfl, rfl, hv⟩ | ⟨_, own⟩
      · refine ⟨_, rfl, ⟨w.heap.size, 0, us, by rw [hul]; rfl, by rw [HTS.out]; exact hU, hB, ?_⟩, X.trans X2⟩
        rw [hul, h1, hv]; exact own_ext o0 X2
      · exact ⟨_, rfl, ⟨g2, cap2, us, by rw [hul]; rfl, by rw [HTS.out]; exact hU, hB, by rw [hul]; exact World.ownsRow.mono own X.size⟩, X.trans X2⟩
end Go.Proofs.Ytlbmjeennpccmaa
