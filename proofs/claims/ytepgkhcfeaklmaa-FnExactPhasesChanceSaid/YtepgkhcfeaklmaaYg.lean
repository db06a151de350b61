
/- The laws' own functions on systems and their results. No condition. -/
import Derived.Test.YtepgkhcfeaklmaaSS
import Derived.Test.YtepgkhcfeaklmaaYd
namespace Go.Proofs.Ytepgkhcfeaklmaa
open Go Go.RowKit Go.ChangeShapes Go.WideShapes Go.ChangeAt

attribute [local go_sem] run_store_float

theorem RdI_none (w : World) : RdI w (.slice none 0 0) [] := ⟨rfl, none, 0, rfl, Nat.le_refl _, Nat.zero_le _, fun _ => rfl, fun _ h => by cases h⟩
/-- Blocks from T on are as they were. -/
def KeptFrom (T : Nat) (w w' : World) : Prop := ∀ b, T ≤ b → b < w.heap.size → w'.heap[b]? = w.heap[b]?
theorem KeptFrom.of_ext {T : Nat} {w w' : World} (h : Ext w w') : KeptFrom T w w' := fun b _ hb => h.block b hb
theorem KeptFrom.of_grown {T g : Nat} {w w' : World} (h : w.grownBy w' (some g)) (hg : g < T) : KeptFrom T w w' := fun b hT hb => h.block b hb (fun e => by cases e; omega)
theorem Bx.of_block {w w' : World} {b : Nat} {vs : List Value} (h : Bx w b vs) (hs : w.heap.size ≤ w'.heap.size) (hb : w'.heap[b]? = w.heap[b]?) : Bx w' b vs :=
  ⟨Nat.lt_of_lt_of_le h.1 hs, fun j hj => (World.cell?_of_block hb).trans (h.2 j hj)⟩
theorem Bx.kept {T : Nat} {w w' : World} {b : Nat} {vs : List Value} (h : Bx w b vs) (hs : w.heap.size ≤ w'.heap.size) (k : KeptFrom T w w') (hT : T ≤ b) : Bx w' b vs := h.of_block hs (k b hT h.1)
theorem Bx.grown {g : Nat} {w w' : World} {b : Nat} {vs : List Value} (h : Bx w b vs) (k : w.grownBy w' (some g)) (hne : b ≠ g) : Bx w' b vs := h.of_block k.size (k.block b h.1 (fun e => hne (Option.some.inj e)))

/-- A list of ints of the call's own (in a block below T), or nothing. -/
def OwZ (B T : Nat) (w : World) (v : Value) (zs : List Int) : Prop := (v = .slice none 0 0 ∧ zs = []) ∨ ∃ g cap, v = .slice (some ⟨g, 0, none⟩) zs.length cap ∧ g < T ∧ w.ownsRow B 2 1 (.slice (some ⟨g, 0, none⟩) zs.length cap) zs.length (zs.map (Value.int .i64))
theorem OwZ.rd {B T : Nat} {w : World} {v : Value} {zs : List Int} (h : OwZ B T w v zs) : RdI w v zs := by
  rcases h with ⟨rfl, rfl⟩ | ⟨g, cap, rfl, -, own⟩
  · exact RdI_none _
  · exact own_rd own
theorem OwZ.ext {B T : Nat} {w w' : World} {v : Value} {zs : List Int} (h : OwZ B T w v zs) (hx : Ext w w') : OwZ B T w' v zs := by
  rcases h with h | ⟨g, cap, rfl, hT, own⟩
  · exact .inl h
  · exact .inr ⟨g, cap, rfl, hT, own_ext' own hx⟩
theorem OwZ.grown {B T g : Nat} {w w' : World} {v : Value} {zs : List Int} (h : OwZ B T w v zs) (hg : w.grownBy w' (some g)) (hne : g < B) : OwZ B T w' v zs := by
  rcases h with h | ⟨g2, cap, rfl, hT, own⟩
  · exact .inl h
  · exact .inr ⟨g2, cap, rfl, hT, own_grown own hg hne⟩

/-- What functions that hand back ints leave. -/
def ZlPost (o : Option (List Int)) (w : World) (e : Ending) (w' : World) : Prop :=
  Ext w w' ∧ match o with
  | some zs => ∃ g cap, e = .returned (.tuple #[.slice (some ⟨g, 0, none⟩) zs.length cap, .bool true]) ∧ w'.ownsRow w.heap.size 2 1 (.slice (some ⟨g, 0, none⟩) zs.length cap) zs.length (zs.map (Value.int .i64))
  | none => e = .returned (.tuple #[.slice none 0 0, .bool false])
theorem zlPost_own {o : Option (List Int)} {w w' : World} {e : Ending} (h : ZlPost o w e w') : ∃ v, e = .returned (.tuple #[v, .bool o.isSome]) ∧ OwZ w.heap.size w'.heap.size w' v (o.getD []) ∧ Ext w w' := by
  obtain ⟨X, h⟩ := h
  cases o with
  | none => exact ⟨_, h, .inl ⟨rfl, rfl⟩, X⟩
  | some zs => obtain ⟨g, cap, rfl, own⟩ := h; exact ⟨_, rfl, .inr ⟨g, cap, rfl, (own.lt g rfl).2, own⟩, X⟩
/-- What functions that hand back a system leave. -/
def YsPost (o : Option (Int × List Int)) (w : World) (e : Ending) (w' : World) : Prop :=
  Ext w w' ∧ match o with
  | some q => ∃ g cap, e = .returned (.tuple #[.agg #[.int .i64 q.1, .slice (some ⟨g, 0, none⟩) q.2.length cap], .bool true]) ∧ w'.ownsRow w.heap.size 2 1 (.slice (some ⟨g, 0, none⟩) q.2.length cap) q.2.length (q.2.map (Value.int .i64))
  | none => e = .returned (.tuple #[.agg #[.int .i64 0, .slice none 0 0], .bool false])
theorem ysPost_own {o : Option (Int × List Int)} {w w' : World} {e : Ending} (h : YsPost o w e w') : ∃ v, e = .returned (.tuple #[.agg #[.int .i64 (o.getD (0, [])).1, v], .bool o.isSome]) ∧ OwZ w.heap.size w'.heap.size w' v (o.getD (0, [])).2 ∧ Ext w w' := by
  obtain ⟨X, h⟩ := h
  cases o with
  | none => exact ⟨_, h, .inl ⟨rfl, rfl⟩, X⟩
  | some q => obtain ⟨g, cap, rfl, own⟩ := h; exact ⟨_, rfl, .inr ⟨g, cap, rfl, (own.lt g rfl).2, own⟩, X⟩
theorem OwZ.shape {B T : Nat} {w : World} {v : Value} {zs : List Int} (h : OwZ B T w v zs) : ∃ a n c, v = .slice a n c := by
  rcases h with ⟨rfl, -⟩ | ⟨g, cap, rfl, -, -⟩
  · exact ⟨_, _, _, rfl⟩
  · exact ⟨_, _, _, rfl⟩

theorem eqI_eq {v1 v2 : Value} {zs : List Int} {w : World} (r1 : RdI w v1 zs) (r2 : RdI w v2 zs) : Calls Try.prog 13 #[v1, v2] w fun e w' => e = .returned (.bool true) ∧ Ext w w' := by
  refine (eqInt64S_any v1 v2 zs zs w r1 r2).mono ?_
  rintro e w' ⟨rfl, m, rfl⟩
  exact ⟨by simp, Ext.drewN _ _⟩
theorem eqSys_eq (p : Int) {v1 v2 : Value} {zs : List Int} {w : World} (r1 : RdI w v1 zs) (r2 : RdI w v2 zs) :
    Calls Try.prog 40 #[.agg #[.int .i64 p, v1], .agg #[.int .i64 p, v2]] w fun e w' => e = .returned (.bool true) ∧ Ext w w' := by
  have h := eqSystem_any p p v1 v2 zs zs w r1 r2
  have e : sysEqB p p zs zs = true := by simp [sysEqB]
  rw [e] at h
  exact h

set_option maxHeartbeats 1000000 in
theorem toSystem_own (p : Int) (a : Option Addr) (cap n : Nat) (zs : List Int) (w : World) (hr : RdI w (.slice a n cap) zs) (hn : n ≤ 1048576) :
    Calls Try.prog 38 #[.agg #[.int .i64 p, .slice a n cap]] w fun e w' => ∃ g, e = .returned (.agg #[.int .i64 p, .slice (some ⟨g, 0, none⟩) n n]) ∧ Ext w w' ∧
      w'.ownsRow w.heap.size 2 1 (.slice (some ⟨g, 0, none⟩) n n) n (zs.map (Value.int .i64)) := by
  have hnz : n = zs.length := by obtain ⟨_, _, _, h2, _⟩ := hr; cases h2; rfl
  subst hnz
  go_enter Try.func38, Try.ntmps38
  go_wp2_with fail
  refine (toInt64S_any _ zs.length (zs.map (Value.int .i64)) _ (((hr.alloc _).alloc _).alloc _) (by intro x hx; obtain ⟨z, _, rfl⟩ := List.mem_map.1 hx; exact ⟨z, rfl⟩) hn).mono ?_
  rintro e w1 ⟨g, rfl, hb, hown⟩
  obtain ⟨hc, hf⟩ := bcell hb
  have hz := hb.size
  simp at hz
  have hg := (hown.lt g rfl).1
  simp at hg
  go_wp2
  refine bodyPost_ret (v := .agg #[.int .i64 p, .slice (some ⟨g, 0, none⟩) zs.length zs.length]) (by simp [results, Try.results38, go_sem, hc]) rfl ⟨g, rfl, ?_, ?_⟩
  · have h1 := (((below_alloc w _).trans ((below_alloc _ _).mono (by simp))).trans ((below_alloc _ _).mono (by simp; omega))).trans (hb.mono (by simp; omega))
    exact ((h1.setCell (by simp; omega) _).setCell (by simp) _).setCell (by simp) _
  · exact World.ownsRow.mono (ownsRow_setCell_below (ownsRow_setCell_below (ownsRow_setCell_below hown (by simp) _) (by simp) _) (by simp) _) (by simp; omega)

set_option maxHeartbeats 1000000 in
theorem markI_h (k0 : Int) (g n cap B : Nat) (bs : List Int) (w : World) (own : w.ownsRow B 2 1 (.slice (some ⟨g, 0, none⟩) n cap) n (bs.map (Value.int .i64))) (h0 : 0 ≤ k0) (h1 : k0 ≤ 16777216) (hn : n ≤ 1048576) :
    Calls Try.prog 14 #[.slice (some ⟨g, 0, none⟩) n cap, .int .i64 k0] w fun e w' => e = .returned (.int .i64 (k0 + n)) ∧ w.grownBy w' (some g) ∧
      w'.ownsRow B 2 1 (.slice (some ⟨g, 0, none⟩) n cap) n ((marksI k0 n).map (Value.int .i64)) := by
  have hl : bs.length = n := by simpa using own.1
  go_enter Try.func14, Try.ntmps14
  go_wp2_with fail
  go_loopw [1, 5] (fun q i wr => ∃ j : Nat, j ≤ n ∧ i = .int .i64 j ∧ q = .int .i64 (k0 + j) ∧
    wr.ownsRow B 2 1 (.slice (some ⟨g, 0, none⟩) n cap) n ((marksI k0 j ++ bs.drop j).map (Value.int .i64)) ∧ w.grownBy wr (some g)) (fun _ i _ => n - (intOf i).toNat)
  case atStart => exact ⟨0, Nat.zero_le _, rfl, by simp, by simpa [marksI] using own, grownBy_refl _ _⟩
  case round =>
    obtain ⟨j, hj, rfl, rfl, own1, X⟩ := hrel
    clear own
    by_cases hlt : j < n
    · have hc0 := own1.cellAt j (by omega)
      have hf0 := own1.frozenAt j
      have hj1 : j < bs.length := by omega
      have hst := own1.stored j (.int .i64 (k0 + (j : Int)))
      have Hst := Lib.hid hst
      clear hst
      rw [List.getElem?_map, List.getElem?_append_right (by rw [marksI_len]; omega), marksI_len, Nat.sub_self, List.getElem?_drop, Nat.add_zero, List.getElem?_eq_getElem hj1] at hc0
      simp only [Option.map_some] at hc0
      go_wp2_with fail
      go_roundw
      case rel =>
        have e : ((marksI k0 j ++ bs.drop j).map (Value.int .i64)).set j (.int .i64 (k0 + (j : Int))) = (marksI k0 (j + 1) ++ bs.drop (j + 1)).map (Value.int .i64) := by
          rw [← List.map_set]
          congr 1
          rw [List.set_append_right _ _ (by rw [marksI_len]; omega), marksI_len, Nat.sub_self, List.drop_eq_getElem_cons hj1, List.set_cons_zero, marksI_succ]
          simp
        refine ⟨j + 1, by omega, by go_num, by go_num, e ▸ Hst.out.1, X.trans (grownBy_setCell _ _ _ _)⟩
      case measure => simp [intOf]; omega
    · have hjn : j = n := by omega
      subst hjn
      rw [List.drop_of_length_le (by omega), List.append_nil] at own1
      go_wp2_with fail
      go_ret
      exact ⟨rfl, X, own1⟩

theorem markSystem_g (p k0 : Int) (g n cap B : Nat) (zs : List Int) (w : World) (own : w.ownsRow B 2 1 (.slice (some ⟨g, 0, none⟩) n cap) n (zs.map (Value.int .i64))) (h0 : 0 ≤ k0) (h1 : k0 ≤ 16777216) (hn : n ≤ 1048576) :
    Calls Try.prog 41 #[.agg #[.int .i64 p, .slice (some ⟨g, 0, none⟩) n cap], .int .i64 k0] w fun e w' => e = .returned (.int .i64 (k0 + n)) ∧ w.grownBy w' (some g) ∧
      w'.ownsRow B 2 1 (.slice (some ⟨g, 0, none⟩) n cap) n ((marksI k0 n).map (Value.int .i64)) := by
  go_enter Try.func41, Try.ntmps41
  go_wp2_with fail
  refine (markI_h k0 g n cap B zs _ (own_ext' own (Ext.alloc _ _)) h0 h1 hn).mono ?_
  rintro e w1 ⟨rfl, hg, own'⟩
  go_wp2_with fail
  go_ret
  exact ⟨rfl, (World.grownBy_alloc _ _ _).trans hg, own'⟩

theorem markZ_own (k0 : Int) (B T : Nat) (v : Value) (zs : List Int) (w : World) (h : OwZ B T w v zs) (hB : B ≤ w.heap.size) (h0 : 0 ≤ k0) (h1 : k0 ≤ 16777216) (hn : zs.length ≤ 1048576) :
    Calls Try.prog 14 #[v, .int .i64 k0] w fun e w' => e = .returned (.int .i64 (k0 + zs.length)) ∧ Below B w w' ∧ KeptFrom T w w' ∧ OwZ B T w' v (marksI k0 zs.length) := by
  rcases h with ⟨rfl, rfl⟩ | ⟨g, cap, rfl, hT, own⟩
  · refine (markI_nil k0 w).mono ?_
    rintro e w' ⟨rfl, rfl⟩
    exact ⟨by simp, Below.refl _ _, fun _ _ _ => rfl, .inl ⟨rfl, rfl⟩⟩
  · refine (markI_h k0 g zs.length cap B zs w own h0 h1 hn).mono ?_
    rintro e w' ⟨rfl, hg, own'⟩
    exact ⟨rfl, grown_ext hg (own.lt g rfl).1 hB, .of_grown hg hT, .inr ⟨g, cap, by rw [marksI_len], hT, by rw [marksI_len]; exact own'⟩⟩
theorem markSys_own (p k0 : Int) (B T : Nat) (v : Value) (zs : List Int) (w : World) (h : OwZ B T w v zs) (hB : B ≤ w.heap.size) (h0 : 0 ≤ k0) (h1 : k0 ≤ 16777216) (hn : zs.length ≤ 1048576) :
    Calls Try.prog 41 #[.agg #[.int .i64 p, v], .int .i64 k0] w fun e w' => e = .returned (.int .i64 (k0 + zs.length)) ∧ Below B w w' ∧ KeptFrom T w w' ∧ OwZ B T w' v (marksI k0 zs.length) := by
  obtain ⟨a, n, c, rfl⟩ := h.shape
  go_enter Try.func41, Try.ntmps41
  go_wp2_with fail
  refine (markZ_own k0 B T _ zs _ (h.ext (Ext.alloc _ _)) (Nat.le_trans hB (Ext.alloc w _).size) h0 h1 hn).mono ?_
  rintro e w1 ⟨rfl, hx, hk, h'⟩
  go_wp2_with fail
  go_ret
  refine ⟨rfl, Below.trans (Below.mono (Ext.alloc w _) hB) hx, fun b hT hb => ?_, h'⟩
  have h2 : b < (w.alloc (.cells #[.int .i64 p, .slice a n c] 33)).heap.size := Nat.lt_of_lt_of_le hb (Ext.alloc w _).size
  exact (hk b hT h2).trans ((Ext.alloc w _).block b hb)
theorem heldZ_own (k0 : Int) (B T n : Nat) (v : Value) (w : World) (h : OwZ B T w v (marksI k0 n)) (h0 : 0 ≤ k0) (h1 : k0 ≤ 1048576) (hn : n ≤ 1048576) :
    Calls Try.prog 15 #[v, .int .i64 k0] w fun e w' => e = .returned (.int .i64 (k0 + n)) ∧ w = w' := heldI_any k0 v n w h.rd h0 h1 hn
theorem heldSys_own (p k0 : Int) (B T n : Nat) (v : Value) (w : World) (h : OwZ B T w v (marksI k0 n)) (h0 : 0 ≤ k0) (h1 : k0 ≤ 1048576) (hn : n ≤ 1048576) :
    Calls Try.prog 42 #[.agg #[.int .i64 p, v], .int .i64 k0] w fun e w' => e = .returned (.int .i64 (k0 + n)) ∧ Ext w w' := by
  obtain ⟨a, m, c, rfl⟩ := h.shape
  have hpos : ¬ (k0 + (n : Int)) < 0 := by omega
  go_enter Try.func42, Try.ntmps42
  go_wp2_with fail
  refine (heldI_any k0 _ n _ (h.ext (Ext.alloc _ _)).rd h0 h1 hn).mono ?_
  rintro e w1 ⟨rfl, rfl⟩
  go_wp2_with fail
  go_ret
  exact ⟨rfl, Ext.alloc _ _⟩
end Go.Proofs.Ytepgkhcfeaklmaa
