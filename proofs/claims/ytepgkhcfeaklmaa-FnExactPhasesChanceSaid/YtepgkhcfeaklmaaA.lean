
/- Contracts of the laws' helpers for lists of integers and for systems, and of the two functions SameSystem. Conditions: lists that can be read, of at most 2^20 numbers where they are copied. -/
import Derived.Test.YtepgkhcfeaklmaaProg
import Derived.Test.YtepgkhcfeaklmaaLib
import Derived.Test.YtepgkhcfeaklmaaRg
import Derived.Deep.QuietTactic
import Derived.BigQuiet
import Derived.Outline
namespace Go.Proofs.Ytepgkhcfeaklmaa
open Go Go.RowKit

theorem szInt64S_any (a : Option Addr) (n c : Nat) (l : Int) (w : World) (hn : n ≤ maxLen) (h0 : 0 ≤ l) (h1 : l ≤ 1048576) :
    Calls Try.prog 88 #[.slice a n c, .int .i64 l] w fun e w' => e = .returned (.int .i64 (if l - n < 0 then -1 else l - n)) ∧ w = w' := by
  unfold maxLen at hn
  by_cases h : l - n < 0
  · rw [if_pos h]
    go_enter Try.func88, Try.ntmps88
    go_wp2
    go_ret
    exact ⟨rfl, rfl⟩
  · rw [if_neg h]
    go_enter Try.func88, Try.ntmps88
    go_wp2
    go_ret
    exact ⟨rfl, rfl⟩

theorem infoI64 : (Try.prog.info? 2).map (fun i => (i.zero, i.size, i.bytes)) = some (some (.int .i64 0), 1, 8) := by kernel_rfl

set_option maxHeartbeats 1000000 in
theorem toInt64S_any (v : Value) (n : Nat) (xs : List Value) (w : World) (hr : Rd 1 w v n xs) (hi : ∀ x ∈ xs, ∃ z, x = .int .i64 z) (hn : n ≤ 1048576) :
    Calls Try.prog 11 #[v] w fun e w' => ∃ g, e = .returned (.slice (some ⟨g, 0, none⟩) n n) ∧ Below w.heap.size w w' ∧ w'.ownsRow w.heap.size 2 1 (.slice (some ⟨g, 0, none⟩) n n) n xs := by
  have hr' := hr
  obtain ⟨hlen, a, cap, rfl, h3, h4, h5, h6⟩ := hr
  obtain ⟨i0, hi0, hz0, hz1, hz2⟩ := info_parts infoI64
  unfold maxLen at h4
  go_enter Try.func11, Try.ntmps11
  go_wp2_with (at_make; refine wpList_make_full _ rfl _ _ 22 rfl w.heap.size 2 i0 (.int .i64 0) 1 Try.underlying22 hi0 hz0 hz1 _ _ _ _ n rfl rfl rfl rfl ?c1 ?c2 ?c3 ?_)
  case c1 => rw [hz2]; omega
  case c2 => unfold maxLen; omega
  case c3 => exact Nat.le_refl _
  intro w1 hown hg
  go_wp2
  go_loopw [4] (fun i wr => ∃ k : Nat, k ≤ n ∧ i = .int .i64 k ∧ wr.ownsRow w.heap.size 2 1 (.slice (some ⟨w.heap.size, 0, none⟩) n n) n (xs.take k ++ List.replicate (n - k) (.int .i64 0)) ∧ Below w.heap.size w wr) (fun i _ => n - (intOf i).toNat)
  case atStart =>
    refine ⟨0, Nat.zero_le _, rfl, ?_, ?_⟩
    · have := hown
      rw [toList_madeCells_one] at this
      exact this
    · exact (Below.refl _ _).grown hg (Nat.le_refl _) (fun _ h => by cases h)
  case round =>
    obtain ⟨k, hk, rfl, hown1, hb1⟩ := hrel
    by_cases hlt : k < n
    · obtain ⟨b, off, rfl, hb, hc⟩ := hr'.pos (by omega)
      obtain ⟨z, hz⟩ : ∃ z, xs[k]? = some (.int .i64 z) := by
        obtain ⟨z, hz⟩ := hi xs[k] (List.getElem_mem (by omega))
        exact ⟨z, by rw [List.getElem?_eq_getElem (by omega), hz]⟩
      have hc1 : wr.cell? ⟨b, off + k, none⟩ = some (.int .i64 z) := by
        rw [hb1.cell (p := ⟨b, off + k, none⟩) hb, hc k (by omega), hz]
      have hc2 := hown1.cellAt k (by omega)
      have hf2 := hown1.frozenAt k
      have hst := hown1.stored k (.int .i64 z)
      have Hst := Lib.hid hst
      clear hst
      have hz2' : (xs.take k ++ List.replicate (n - k) (.int .i64 0))[k]? = some (Value.int .i64 0) := by
        rw [List.getElem?_append_right (by simp; omega), List.getElem?_replicate, if_pos (by simp; omega)]
      rw [hz2'] at hc2
      have Hz := Lib.hid hz
      clear hz hz2' hc h6 hi hr'
      go_wp2
      go_roundw
      case rel =>
        refine ⟨k + 1, by omega, by go_num, ?_, hb1.setCell (Nat.le_refl _) _⟩
        have e : (xs.take k ++ List.replicate (n - k) (Value.int .i64 0)).set k (.int .i64 z) = xs.take (k + 1) ++ List.replicate (n - (k + 1)) (.int .i64 0) := by
          rw [List.take_add_one, Hz.out, List.set_append_right _ _ (by simp; omega), List.length_take, Nat.min_eq_left (by omega), Nat.sub_self, show n - k = (n - (k + 1)) + 1 from by omega, List.replicate_succ]
          simp
        rw [← e]
        exact Hst.out.1
      case measure => simp [intOf]; omega
    · go_wp2
      go_ret
      obtain rfl : k = n := by omega
      refine ⟨_, rfl, hb1, ?_⟩
      rw [List.take_of_length_le (by omega)] at hown1
      simpa using hown1

set_option maxHeartbeats 1000000 in
theorem toSystem_any (p : Int) (a : Option Addr) (cap n : Nat) (zs : List Int) (w : World) (hr : RdI w (.slice a n cap) zs) (hn : n ≤ 1048576) :
    Calls Try.prog 38 #[.agg #[.int .i64 p, .slice a n cap]] w fun e w' => ∃ g, e = .returned (.agg #[.int .i64 p, .slice (some ⟨g, 0, none⟩) n n]) ∧ Ext w w' ∧ RdI w' (.slice (some ⟨g, 0, none⟩) n n) zs := by
  have hnz : n = zs.length := by obtain ⟨_, _, _, h2, _⟩ := hr; cases h2; rfl
  subst hnz
  go_enter Try.func38, Try.ntmps38
  go_wp2_with fail
  refine (toInt64S_any _ zs.length (zs.map (Value.int .i64)) _ (((hr.alloc _).alloc _).alloc _) (by intro x hx; obtain ⟨z, _, rfl⟩ := List.mem_map.1 hx; exact ⟨z, rfl⟩) hn).mono ?_
  rintro e w1 ⟨g, rfl, hb, hown⟩
  obtain ⟨hc, hf⟩ := bcell hb
  have hz := hb.size
  simp at hz
  have hg := (hown.lt g rfl).1
  simp at hg
  go_wp2
  refine bodyPost_ret (v := .agg #[.int .i64 p, .slice (some ⟨g, 0, none⟩) zs.length zs.length]) (by simp [results, Try.results38, go_sem, hc]) rfl ⟨g, rfl, ?_, ?_⟩
  · have h1 := (((below_alloc w _).trans ((below_alloc _ _).mono (by simp))).trans ((below_alloc _ _).mono (by simp; omega))).trans (hb.mono (by simp; omega))
    exact ((h1.setCell (by simp; omega) _).setCell (by simp) _).setCell (by simp) _
  · exact own_rd (ownsRow_setCell_below (ownsRow_setCell_below (ownsRow_setCell_below hown (by simp) _) (by simp) _) (by simp) _)

set_option maxHeartbeats 1000000 in
theorem eqInt64S_any (v1 v2 : Value) (zs ys : List Int) (w : World) (r1 : RdI w v1 zs) (r2 : RdI w v2 ys) :
    Calls Try.prog 13 #[v1, v2] w fun e w' => e = .returned (.bool (decide (zs = ys))) ∧ ∃ m, w' = w.drewN m := by
  have r1' := r1
  have r2' := r2
  obtain ⟨_, a1, c1, rfl, p1, p2, _, _⟩ := r1
  obtain ⟨_, a2, c2, rfl, q1, q2, _, _⟩ := r2
  unfold maxLen at p2 q2
  by_cases hl : zs.length = ys.length
  · have hne : ((zs.length : Int) != (ys.length : Int)) = false := by simp [hl]
    have Hl := Lib.hid hl
    clear hl
    go_enter Try.func13, Try.ntmps13
    go_wp2_with fail
    go_loopw [5] (fun i wr => ∃ k : Nat, k ≤ zs.length ∧ i = .int .i64 k ∧ Hid (zs.take k = ys.take k) ∧ ∃ m, wr = w.drewN m) (fun i _ => zs.length - (intOf i).toNat)
    case atStart => exact ⟨0, Nat.zero_le _, rfl, rfl, 0, rfl⟩
    case round =>
      obtain ⟨k, hk, rfl, Hs, m, rfl⟩ := hrel
      by_cases hlt : k < zs.length
      · have hlt2 : k < ys.length := by rw [← Hl.out]; exact hlt
        obtain ⟨b1, o1, rfl, hb1, hc1⟩ := r1'.at hlt
        obtain ⟨b2, o2, rfl, hb2, hc2⟩ := r2'.at hlt2
        by_cases he : zs[k] = ys[k]
        · have he1 : (zs[k] != ys[k]) = false := by simp [he]
          have Ht := Lib.hid (take_same hlt hlt2 Hs.out he)
          clear he
          go_wp2_with fail
          go_quiet (fail)
          go_wp2_with fail
          go_roundw
          case rel => exact ⟨k + 1, by omega, by go_num, Ht, _, rfl⟩
          case measure => simp [intOf]; omega
        · have he1 : (zs[k] != ys[k]) = true := by simp [he]
          have hd : decide (zs = ys) = false := by
            simp only [decide_eq_false_iff_not]; rintro rfl; exact he rfl
          have Hd := Lib.hid hd
          clear he hd
          go_wp2_with fail
          go_quiet (fail)
          go_wp2_with fail
          go_ret
          exact ⟨ret_bool Hd.out.symm, _, World.drewN_drewN _ _ _⟩
      · have hd : decide (zs = ys) = true := by
          have h := Hs.out
          rw [List.take_of_length_le (by omega), List.take_of_length_le (by rw [← Hl.out]; omega)] at h
          simp [h]
        have Hd := Lib.hid hd
        clear hd
        go_wp2_with fail
        go_ret
        exact ⟨ret_bool Hd.out.symm, _, rfl⟩
  · have hne : ((zs.length : Int) != (ys.length : Int)) = true := by simp; omega
    have hd : decide (zs = ys) = false := by
      simp only [decide_eq_false_iff_not]; rintro rfl; exact hl rfl
    have Hd := Lib.hid hd
    clear hl hd
    go_enter Try.func13, Try.ntmps13
    go_wp2_with fail
    go_ret
    exact ⟨ret_bool Hd.out.symm, 0, rfl⟩

set_option maxHeartbeats 1000000 in
theorem slicesEqualI_any (v1 v2 : Value) (zs ys : List Int) (w : World) (r1 : RdI w v1 zs) (r2 : RdI w v2 ys) :
    Calls Try.prog 71 #[v1, v2] w fun e w' => e = .returned (.bool (decide (zs = ys))) ∧ ∃ m, w' = w.drewN m := by
  have r1' := r1
  have r2' := r2
  obtain ⟨_, a1, c1, rfl, p1, p2, _, _⟩ := r1
  obtain ⟨_, a2, c2, rfl, q1, q2, _, _⟩ := r2
  unfold maxLen at p2 q2
  by_cases hl : zs.length = ys.length
  · have hne : ((zs.length : Int) != (ys.length : Int)) = false := by simp [hl]
    have Hl := Lib.hid hl
    clear hl
    go_enter Try.func71, Try.ntmps71
    go_wp2_with fail
    go_loopw [13] (fun i wr => ∃ k : Nat, k ≤ zs.length ∧ i = .int .i64 k ∧ Hid (zs.take k = ys.take k) ∧ ∃ m, wr = w.drewN m) (fun i _ => zs.length - (intOf i).toNat)
    case atStart => exact ⟨0, Nat.zero_le _, rfl, rfl, 0, rfl⟩
    case round =>
      obtain ⟨k, hk, rfl, Hs, m, rfl⟩ := hrel
      by_cases hlt : k < zs.length
      · have hlt2 : k < ys.length := by rw [← Hl.out]; exact hlt
        obtain ⟨b1, o1, rfl, hb1, hc1⟩ := r1'.at hlt
        obtain ⟨b2, o2, rfl, hb2, hc2⟩ := r2'.at hlt2
        by_cases he : zs[k] = ys[k]
        · have he1 : (zs[k] != ys[k]) = false := by simp [he]
          have Ht := Lib.hid (take_same hlt hlt2 Hs.out he)
          clear he
          go_wp2_with fail
          go_quiet (fail)
          go_wp2_with fail
          go_roundw
          case rel => exact ⟨k + 1, by omega, by go_num, Ht, _, rfl⟩
          case measure => simp [intOf]; omega
        · have he1 : (zs[k] != ys[k]) = true := by simp [he]
          have hd : decide (zs = ys) = false := by
            simp only [decide_eq_false_iff_not]; rintro rfl; exact he rfl
          have Hd := Lib.hid hd
          clear he hd
          go_wp2_with fail
          go_quiet (fail)
          go_wp2_with fail
          go_ret
          exact ⟨ret_bool Hd.out.symm, _, World.drewN_drewN _ _ _⟩
      · have hd : decide (zs = ys) = true := by
          have h := Hs.out
          rw [List.take_of_length_le (by omega), List.take_of_length_le (by rw [← Hl.out]; omega)] at h
          simp [h]
        have Hd := Lib.hid hd
        clear hd
        go_wp2_with fail
        go_ret
        exact ⟨ret_bool Hd.out.symm, _, rfl⟩
  · have hne : ((zs.length : Int) != (ys.length : Int)) = true := by simp; omega
    have hd : decide (zs = ys) = false := by
      simp only [decide_eq_false_iff_not]; rintro rfl; exact hl rfl
    have Hd := Lib.hid hd
    clear hl hd
    go_enter Try.func71, Try.ntmps71
    go_wp2_with fail
    go_ret
    exact ⟨ret_bool Hd.out.symm, 0, rfl⟩

def sysEqB (p q : Int) (zs ys : List Int) : Bool := decide (p = q ∧ zs = ys)
theorem sysEqB_self (p : Int) (zs : List Int) : sysEqB p p zs zs = true := by simp [sysEqB]


set_option maxHeartbeats 1000000 in
theorem implSameSystem_any (p q : Int) (v1 v2 : Value) (zs ys : List Int) (w : World) (r1 : RdI w v1 zs) (r2 : RdI w v2 ys) :
    Calls Try.prog 24 #[.agg #[.int .i64 p, v1], .agg #[.int .i64 q, v2]] w fun e w' => e = .returned (.bool (sysEqB p q zs ys)) ∧ Below w.heap.size w w' := by
  have r1' := r1
  have r2' := r2
  obtain ⟨_, a1, c1, rfl, _, _, _, _⟩ := r1
  obtain ⟨_, a2, c2, rfl, _, _, _, _⟩ := r2
  by_cases hp : p = q
  · have hd : sysEqB p q zs ys = decide (zs = ys) := by simp [sysEqB, hp]
    have h1 : (p == q) = true := by simp [hp]
    have h2 : (p != q) = false := by simp [hp]
    have Hd := Lib.hid hd
    clear hp hd
    go_enter Try.func24, Try.ntmps24
    go_wp2_with fail
    refine (slicesEqualI_any _ _ zs ys _ ((r1'.alloc _).alloc _) ((r2'.alloc _).alloc _)).mono ?_
    rintro e w1 ⟨rfl, m, rfl⟩
    generalize hb : decide (zs = ys) = b at *
    have Hb := Lib.hid hb
    clear hb
    cases b
    all_goals
      go_wp2_with fail
      go_ret
      exact ⟨ret_bool Hd.out.symm, below_drewN ((below_alloc w _).trans ((below_alloc _ _).mono (by simp))) _⟩
  · have hd : sysEqB p q zs ys = false := by simp [sysEqB, hp]
    have h1 : (p == q) = false := by simp [hp]
    have h2 : (p != q) = true := by simp [hp]
    have Hd := Lib.hid hd
    clear hp hd
    go_enter Try.func24, Try.ntmps24
    go_wp2_with fail
    go_ret
    exact ⟨ret_bool Hd.out.symm, (below_alloc w _).trans ((below_alloc _ _).mono (by simp))⟩

set_option maxHeartbeats 1000000 in
theorem eqSystem_any (p q : Int) (v1 v2 : Value) (zs ys : List Int) (w : World) (r1 : RdI w v1 zs) (r2 : RdI w v2 ys) :
    Calls Try.prog 40 #[.agg #[.int .i64 p, v1], .agg #[.int .i64 q, v2]] w fun e w' => e = .returned (.bool (sysEqB p q zs ys)) ∧ Below w.heap.size w w' := by
  have r1' := r1
  have r2' := r2
  obtain ⟨_, a1, c1, rfl, _, _, _, _⟩ := r1
  obtain ⟨_, a2, c2, rfl, _, _, _, _⟩ := r2
  by_cases hp : p = q
  · have hd : sysEqB p q zs ys = decide (zs = ys) := by simp [sysEqB, hp]
    have h1 : (p == q) = true := by simp [hp]
    have h2 : (p != q) = false := by simp [hp]
    have Hd := Lib.hid hd
    clear hp hd
    go_enter Try.func40, Try.ntmps40
    go_wp2_with fail
    refine (eqInt64S_any _ _ zs ys _ ((r1'.alloc _).alloc _) ((r2'.alloc _).alloc _)).mono ?_
    rintro e w1 ⟨rfl, m, rfl⟩
    generalize hb : decide (zs = ys) = b at *
    have Hb := Lib.hid hb
    clear hb
    cases b
    all_goals
      go_wp2_with fail
      go_ret
      exact ⟨ret_bool Hd.out.symm, below_drewN ((below_alloc w _).trans ((below_alloc _ _).mono (by simp))) _⟩
  · have hd : sysEqB p q zs ys = false := by simp [sysEqB, hp]
    have h1 : (p == q) = false := by simp [hp]
    have h2 : (p != q) = true := by simp [hp]
    have Hd := Lib.hid hd
    clear hp hd
    go_enter Try.func40, Try.ntmps40
    go_wp2_with fail
    go_ret
    exact ⟨ret_bool Hd.out.symm, (below_alloc w _).trans ((below_alloc _ _).mono (by simp))⟩

end Go.Proofs.Ytepgkhcfeaklmaa
