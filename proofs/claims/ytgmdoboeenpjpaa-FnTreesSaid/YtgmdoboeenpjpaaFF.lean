
/- Contracts of the functions that say whether the top of a tree fails, of the reference and of the program. Conditions: a valid tree, a set of its parts. -/
import Derived.Test.YtgmdoboeenpjpaaTW
import Derived.Test.YtgmdoboeenpjpaaRH
namespace Go.Proofs.Ytgmdoboeenpjpaa
open Go Go.RowKit Go.ChangeShapes Go.WideShapes Go.ChangeAt

/-- The bit of a set. -/
def bitB (s : Int) (k : Int) : Bool := bits BinOp.and IntKind.i64 (s / 2 ^ k.toNat) 1 == 1
def kidF (s : Int) (fs : List Bool) (x : Int) : Bool := if 0 ≤ x then fs.getD x.toNat false else bitB s (-1 - x)
def countF (s : Int) (fs : List Bool) (ks : List Int) : Nat := (ks.filter (kidF s fs)).length
def needG (g : Gt) : Int := if g.kind = 0 then 1 else if g.kind = 1 then g.kids.length else g.votes
def gateF (s : Int) (fs : List Bool) (g : Gt) : Bool := decide (needG g ≤ countF s fs g.kids)
def failV (gs : List Gt) (s : Int) : Nat → List Bool
  | 0 => List.replicate gs.length false
  | j + 1 => (failV gs s j).set (gs.length - 1 - j) ((gs[gs.length - 1 - j]?.map (gateF s (failV gs s j))).getD false)
def failB (gs : List Gt) (s : Int) : Bool := (failV gs s gs.length).getD 0 false
theorem failV_len (gs : List Gt) (s : Int) : ∀ j, (failV gs s j).length = gs.length
  | 0 => by simp [failV]
  | j + 1 => by simp [failV, failV_len gs s j]

theorem infoBool : (Try.prog.info? 4).map (fun i => (i.zero, i.size, i.bytes)) = some (some (.bool false), 1, 1) := by kernel_rfl

theorem treeOk_get {p : Int} {gs : List Gt} (h : treeOk p gs = true) : (1 ≤ p ∧ p ≤ 10) ∧ 1 ≤ gs.length ∧ gs.length ≤ 16 ∧ ∀ k, (hk : k < gs.length) → (0 ≤ gs[k].kind ∧ gs[k].kind ≤ 2) ∧ gs[k].kids.length ≤ 10 ∧
    ∀ j, (hj : j < gs[k].kids.length) → -p ≤ gs[k].kids[j] ∧ gs[k].kids[j] < gs.length ∧ (0 ≤ gs[k].kids[j] → (k : Int) < gs[k].kids[j]) := by
  simp only [treeOk, Bool.and_eq_true, List.all_eq_true, List.mem_range] at h
  obtain ⟨⟨h1, h2⟩, h3⟩ := h
  have q1 := inB_iff.1 h1
  have q2 := inB_iff.1 h2
  refine ⟨q1, by omega, by omega, fun k hk => ?_⟩
  have h4 := h3 k hk
  simp only [hk, List.getElem?_eq_getElem, Option.map_some, Option.getD_some, gateOk, Bool.and_eq_true, List.all_eq_true] at h4
  obtain ⟨⟨⟨h5, h6⟩, _⟩, h7⟩ := h4
  have q5 := inB_iff.1 h5
  have q6 := inB_iff.1 h6
  refine ⟨q5, by omega, fun j hj => ?_⟩
  have h8 := h7 _ (List.getElem_mem hj)
  simp only [kidOk, Bool.and_eq_true, Bool.not_eq_true', Bool.and_eq_false_iff, decide_eq_false_iff_not] at h8
  have q8 := inB_iff.1 h8.1
  refine ⟨q8.1, by omega, fun h0 => ?_⟩
  rcases h8.2 with h | h
  · exact absurd h0 h
  · omega

theorem countF_take {s : Int} {fs : List Bool} {ks : List Int} {m : Nat} (h : m < ks.length) : countF s fs (ks.take (m + 1)) = countF s fs (ks.take m) + if kidF s fs ks[m] then 1 else 0 := by
  unfold countF
  rw [List.take_add_one, List.getElem?_eq_getElem h, List.filter_append, List.length_append]
  cases hk : kidF s fs ks[m] <;> simp [hk]
theorem countF_le (s : Int) (fs : List Bool) (ks : List Int) : countF s fs ks ≤ ks.length := List.length_filter_le _ _
theorem failV_step {gs : List Gt} {s : Int} {j i : Nat} (hi : (gs.length : Int) - 1 - j = i) (hil : i < gs.length) {b : Bool} (hb : b = gateF s (failV gs s j) gs[i]) :
    ((failV gs s j).map Value.bool).set i (.bool b) = (failV gs s (j + 1)).map Value.bool := by
  have e : gs.length - 1 - j = i := by omega
  show _ = List.map Value.bool ((failV gs s j).set (gs.length - 1 - j) _)
  rw [e, List.map_set, List.getElem?_eq_getElem hil, hb]
  rfl
theorem gateF_0 {s : Int} {fs : List Bool} {g : Gt} (h : g.kind = 0) : decide (0 < countF s fs g.kids) = gateF s fs g := by
  unfold gateF needG; rw [if_pos h, Bool.eq_iff_iff, decide_eq_true_iff, decide_eq_true_iff]; omega
theorem gateF_1 {s : Int} {fs : List Bool} {g : Gt} (h : g.kind = 1) : ((countF s fs g.kids : Int) == g.kids.length) = gateF s fs g := by
  have := countF_le s fs g.kids
  unfold gateF needG; rw [if_neg (by omega), if_pos h, Bool.eq_iff_iff, beq_iff_eq, decide_eq_true_iff]; omega
theorem gateF_2 {s : Int} {fs : List Bool} {g : Gt} (h0 : ¬ g.kind = 0) (h1 : ¬ g.kind = 1) : decide (g.votes ≤ (countF s fs g.kids : Int)) = gateF s fs g := by
  unfold gateF needG; rw [if_neg h0, if_neg h1]
theorem kidF_pos {s : Int} {fs : List Bool} {x : Nat} : kidF s fs (x : Int) = fs[x]?.getD false := by simp [kidF]
theorem kidF_neg {s : Int} {fs : List Bool} {x : Int} (h : ¬ 0 ≤ x) : kidF s fs x = (bits BinOp.and IntKind.i64 (s / 2 ^ (-1 - x).toNat) 1 == 1) := by unfold kidF bitB; rw [if_neg h]

set_option maxRecDepth 100000 in
set_option maxHeartbeats 1000000 in
theorem l03Fails_any (p s : Int) (v : Value) (gs : List Gt) (w : World) (r : RdG w v gs) (ht : treeOk p gs = true) (h0 : 0 ≤ s) (h1 : s ≤ 1023) :
    Calls Try.prog 86 #[v, .int .i64 s] w fun e w' => e = .returned (.bool (failB gs s)) ∧ Ext w w' := by
  have r' := r
  obtain ⟨⟨-, a1, c1, rfl, -, -, -, -⟩, -⟩ := r
  obtain ⟨hp, n1, n2, hall⟩ := treeOk_get ht
  have HA := Lib.hid hall
  clear hall ht
  obtain ⟨i0, hi0, hz0, hz1, hz2⟩ := info_parts infoBool
  go_enter Try.func86, Try.ntmps86
  go_wp2_with (at_make; refine wpList_make_full _ rfl _ _ 118 rfl w.heap.size 4 i0 (.bool false) 1 Try.underlying118 hi0 hz0 hz1 _ _ _ _ gs.length rfl rfl rfl rfl ?c1 ?c2 ?c3 ?_)
  case c1 => rw [hz2]; omega
  case c2 => unfold maxLen; omega
  case c3 => exact Nat.le_refl _
  intro w1 hown hg
  have X1 : Ext w w1 := (Below.refl _ _).grown hg (Nat.le_refl _) (fun _ h => by cases h)
  go_wp2
  go_loopw [6] (fun i wr => ∃ j : Nat, j ≤ gs.length ∧ i = .int .i64 ((gs.length : Int) - 1 - j) ∧ wr.ownsRow w.heap.size 4 1 (.slice (some ⟨w.heap.size, 0, none⟩) gs.length gs.length) gs.length ((failV gs s j).map Value.bool) ∧ Ext w wr) (fun i _ => (intOf i + 1).toNat)
  case atStart =>
    refine ⟨0, Nat.zero_le _, by go_num, ?_, X1⟩
    have h := hown
    rw [toList_madeCells_one] at h
    simpa [failV] using h
  case round =>
    obtain ⟨j, hj, rfl, own, X⟩ := hrel
    by_cases hlt : j < gs.length
    · obtain ⟨i, hi⟩ : ∃ i : Nat, (gs.length : Int) - 1 - j = i := ⟨gs.length - 1 - j, by omega⟩
      rw [hi]
      have hil : i < gs.length := by omega
      obtain ⟨b, o, rfl, hb, k0, k1, k2⟩ := (r'.ext X).at hil
      have hok := (r'.ext X).2 gs[i] (List.getElem_mem hil)
      have hki := hok.1
      obtain ⟨⟨-, a3, c3, hkv, p3, p4, -, -⟩, -⟩ := hok
      rw [hkv] at k2 hki
      clear hkv
      unfold maxLen at p4
      obtain ⟨hk2, hkl, hkid⟩ := HA.out i hil
      have HK := Lib.hid hkid
      have Hi := Lib.hid hi
      clear hkid hi
      go_wp2_with fail
      go_loopw [29, 8] (fun t c wq => ∃ m : Nat, m ≤ gs[i].kids.length ∧ t = .int .i64 m ∧ c = .int .i64 (countF s (failV gs s j) (gs[i].kids.take m)) ∧ wq = wr) (fun t _ _ => gs[i].kids.length - (intOf t).toNat)
      case atStart => exact ⟨0, Nat.zero_le _, rfl, rfl, rfl⟩
      case round =>
        obtain ⟨m, hm, rfl, rfl, rfl⟩ := hrel
        have hcl : countF s (failV gs s j) (gs[i].kids.take m) ≤ m := by
          unfold countF; exact Nat.le_trans (List.length_filter_le _ _) (List.length_take_le _ _)
        by_cases hlt2 : m < gs[i].kids.length
        · obtain ⟨b3, o3, rfl, hb3, hc3⟩ := hki.at hlt2
          obtain ⟨q1, q2, q3⟩ := HK.out m hlt2
          have Hst := Lib.hid (countF_take (s := s) (fs := failV gs s j) hlt2)
          generalize countF s (failV gs s j) (gs[i].kids.take m) = cnt at *
          by_cases hx : 0 ≤ gs[i].kids[m]
          · obtain ⟨x, hxx⟩ := Int.eq_ofNat_of_zero_le hx
            rw [hxx] at hc3 q2 q3 hx q1
            have hxl : x < gs.length := by omega
            have hcx : wr.cell? ⟨w.heap.size, x, none⟩ = some (.bool ((failV gs s j).getD x false)) := by
              rw [own.cellAt x (by omega), List.getElem?_map, List.getElem?_eq_getElem (by rw [failV_len]; exact hxl)]
              simp [failV_len, hxl]
            have Hk : Hid (kidF s (failV gs s j) gs[i].kids[m] = (failV gs s j)[x]?.getD false) := by show _ = _; rw [hxx]; exact kidF_pos
            clear hxx
            go_wp2_with fail
            · have h : kidF s (failV gs s j) gs[i].kids[m] = true := Hk.out.trans ‹_›
              have H := Lib.hid h
              clear h
              go_roundw
              case rel => exact ⟨m + 1, by omega, by go_num, by rw [Hst.out, if_pos H.out]; go_num, trivial⟩
              case measure => simp [intOf]; omega
            · have h : ¬ kidF s (failV gs s j) gs[i].kids[m] = true := by rw [Hk.out]; assumption
              have H := Lib.hid h
              clear h
              go_roundw
              case rel => exact ⟨m + 1, by omega, by go_num, by rw [Hst.out, if_neg H.out]; go_num, trivial⟩
              case measure => simp [intOf]; omega
          · have Hk := Lib.hid (kidF_neg (s := s) (fs := failV gs s j) hx)
            go_wp2_with fail
            · have h : kidF s (failV gs s j) gs[i].kids[m] = true := Hk.out.trans ‹_›
              have H := Lib.hid h
              clear h
              go_roundw
              case rel => exact ⟨m + 1, by omega, by go_num, by rw [Hst.out, if_pos H.out]; go_num, trivial⟩
              case measure => simp [intOf]; omega
            · have h : ¬ kidF s (failV gs s j) gs[i].kids[m] = true := by rw [Hk.out, Bool.not_eq_true]; assumption
              have H := Lib.hid h
              clear h
              go_roundw
              case rel => exact ⟨m + 1, by omega, by go_num, by rw [Hst.out, if_neg H.out]; go_num, trivial⟩
              case measure => simp [intOf]; omega
        · obtain rfl : m = gs[i].kids.length := by omega
          rw [List.take_length] at *
          have hci : wr.cell? ⟨w.heap.size, i, none⟩ = some (.bool ((failV gs s j).getD i false)) := by
            rw [own.cellAt i (by omega), List.getElem?_map, List.getElem?_eq_getElem (by rw [failV_len]; exact hil)]
            simp [failV_len, hil]
          have hfi := own.frozenAt i
          have Hw := Lib.hid (own.lt _ rfl)
          go_wp2_with fail
          · have hk0 : gs[i].kind = 0 := by simpa using (show (gs[i].kind == 0) = true by assumption)
            have st := failV_step (s := s) Hi.out hil (gateF_0 (s := s) (fs := failV gs s j) hk0)
            have St := Lib.hid st
            clear st hk0
            go_roundw
            case rel => exact ⟨j + 1, by omega, by have := Hi.out; go_num, by rw [← St.out]; exact (own.stored i _).1, Below.setCell X (Nat.le_refl _) _⟩
            case measure => simp [intOf]
          · have hk1 : gs[i].kind = 1 := by simpa using (show (gs[i].kind == 1) = true by assumption)
            have st := failV_step (s := s) Hi.out hil (gateF_1 (s := s) (fs := failV gs s j) hk1)
            have St := Lib.hid st
            clear st hk1
            go_roundw
            case rel => exact ⟨j + 1, by omega, by have := Hi.out; go_num, by rw [← St.out]; exact (own.stored i _).1, Below.setCell X (Nat.le_refl _) _⟩
            case measure => simp [intOf]
          · have hk0 : ¬ gs[i].kind = 0 := by simpa using (show (gs[i].kind == 0) = false by assumption)
            have hk1 : ¬ gs[i].kind = 1 := by simpa using (show (gs[i].kind == 1) = false by assumption)
            have st := failV_step (s := s) Hi.out hil (gateF_2 (s := s) (fs := failV gs s j) hk0 hk1)
            have St := Lib.hid st
            clear st hk0 hk1
            go_roundw
            case rel => exact ⟨j + 1, by omega, by have := Hi.out; go_num, by rw [← St.out]; exact (own.stored i _).1, Below.setCell X (Nat.le_refl _) _⟩
            case measure => simp [intOf]
    · obtain rfl : j = gs.length := by omega
      have hc0 : wr.cell? ⟨w.heap.size, 0, none⟩ = some (.bool (failB gs s)) := by
        rw [own.cellAt 0 (by omega), List.getElem?_map, List.getElem?_eq_getElem (by rw [failV_len]; omega)]
        simp [failB, failV_len, n1, List.getD_eq_getElem?_getD, List.getElem?_eq_getElem (show 0 < (failV gs s gs.length).length by rw [failV_len]; omega)]
      generalize hz : failB gs s = z at hc0
      go_wp2_with fail
      go_ret
      exact ⟨ret_bool hz.symm, X⟩
end Go.Proofs.Ytgmdoboeenpjpaa
/- The contract of the program's function that says whether the top of a tree fails. Conditions: a valid tree, a set of its parts. -/
namespace Go.Proofs.Ytgmdoboeenpjpaa
open Go Go.RowKit Go.ChangeShapes Go.WideShapes Go.ChangeAt

set_option maxRecDepth 100000 in
set_option maxHeartbeats 1000000 in
theorem fails_any (p s : Int) (v : Value) (gs : List Gt) (w : World) (r : RdG w v gs) (ht : treeOk p gs = true) (h0 : 0 ≤ s) (h1 : s ≤ 1023) :
    Calls Try.prog 84 #[v, .int .i64 s] w fun e w' => e = .returned (.bool (failB gs s)) ∧ Ext w w' := by
  have r' := r
  obtain ⟨⟨-, a1, c1, rfl, -, -, -, -⟩, -⟩ := r
  obtain ⟨hp, n1, n2, hall⟩ := treeOk_get ht
  have HA := Lib.hid hall
  clear hall ht
  obtain ⟨i0, hi0, hz0, hz1, hz2⟩ := info_parts infoBool
  go_enter Try.func84, Try.ntmps84
  go_wp2_with (at_make; refine wpList_make_full _ rfl _ _ 118 rfl w.heap.size 4 i0 (.bool false) 1 Try.underlying118 hi0 hz0 hz1 _ _ _ _ gs.length rfl rfl rfl rfl ?c1 ?c2 ?c3 ?_)
  case c1 => rw [hz2]; omega
  case c2 => unfold maxLen; omega
  case c3 => exact Nat.le_refl _
  intro w1 hown hg
  have X1 : Ext w w1 := (Below.refl _ _).grown hg (Nat.le_refl _) (fun _ h => by cases h)
  go_wp2
  go_loopw [6] (fun i wr => ∃ j : Nat, j ≤ gs.length ∧ i = .int .i64 ((gs.length : Int) - 1 - j) ∧ wr.ownsRow w.heap.size 4 1 (.slice (some ⟨w.heap.size, 0, none⟩) gs.length gs.length) gs.length ((failV gs s j).map Value.bool) ∧ Ext w wr) (fun i _ => (intOf i + 1).toNat)
  case atStart =>
    refine ⟨0, Nat.zero_le _, by go_num, ?_, X1⟩
    have h := hown
    rw [toList_madeCells_one] at h
    simpa [failV] using h
  case round =>
    obtain ⟨j, hj, rfl, own, X⟩ := hrel
    by_cases hlt : j < gs.length
    · obtain ⟨i, hi⟩ : ∃ i : Nat, (gs.length : Int) - 1 - j = i := ⟨gs.length - 1 - j, by omega⟩
      rw [hi]
      have hil : i < gs.length := by omega
      obtain ⟨b, o, rfl, hb, k0, k1, k2⟩ := (r'.ext X).at hil
      have hok := (r'.ext X).2 gs[i] (List.getElem_mem hil)
      have hki := hok.1
      obtain ⟨⟨-, a3, c3, hkv, p3, p4, -, -⟩, -⟩ := hok
      rw [hkv] at k2 hki
      clear hkv
      unfold maxLen at p4
      obtain ⟨hk2, hkl, hkid⟩ := HA.out i hil
      have HK := Lib.hid hkid
      have Hi := Lib.hid hi
      clear hkid hi
      go_wp2_with fail
      go_loopw [27, 7] (fun t c wq => ∃ m : Nat, m ≤ gs[i].kids.length ∧ t = .int .i64 m ∧ c = .int .i64 (countF s (failV gs s j) (gs[i].kids.take m)) ∧ wq = wr) (fun t _ _ => gs[i].kids.length - (intOf t).toNat)
      case atStart => exact ⟨0, Nat.zero_le _, rfl, rfl, rfl⟩
      case round =>
        obtain ⟨m, hm, rfl, rfl, rfl⟩ := hrel
        have hcl : countF s (failV gs s j) (gs[i].kids.take m) ≤ m := by
          unfold countF; exact Nat.le_trans (List.length_filter_le _ _) (List.length_take_le _ _)
        by_cases hlt2 : m < gs[i].kids.length
        · obtain ⟨b3, o3, rfl, hb3, hc3⟩ := hki.at hlt2
          obtain ⟨q1, q2, q3⟩ := HK.out m hlt2
          have Hst := Lib.hid (countF_take (s := s) (fs := failV gs s j) hlt2)
          generalize countF s (failV gs s j) (gs[i].kids.take m) = cnt at *
          by_cases hx : 0 ≤ gs[i].kids[m]
          · obtain ⟨x, hxx⟩ := Int.eq_ofNat_of_zero_le hx
            rw [hxx] at hc3 q2 q3 hx q1
            have hxl : x < gs.length := by omega
            have hcx : wr.cell? ⟨w.heap.size, x, none⟩ = some (.bool ((failV gs s j).getD x false)) := by
              rw [own.cellAt x (by omega), List.getElem?_map, List.getElem?_eq_getElem (by rw [failV_len]; exact hxl)]
              simp [failV_len, hxl]
            have Hk : Hid (kidF s (failV gs s j) gs[i].kids[m] = (failV gs s j)[x]?.getD false) := by show _ = _; rw [hxx]; exact kidF_pos
            clear hxx
            go_wp2_with fail
            · have h : kidF s (failV gs s j) gs[i].kids[m] = true := Hk.out.trans ‹_›
              have H := Lib.hid h
              clear h
              go_roundw
              case rel => exact ⟨m + 1, by omega, by go_num, by rw [Hst.out, if_pos H.out]; go_num, trivial⟩
              case measure => simp [intOf]; omega
            · have h : ¬ kidF s (failV gs s j) gs[i].kids[m] = true := by rw [Hk.out, Bool.not_eq_true]; assumption
              have H := Lib.hid h
              clear h
              go_roundw
              case rel => exact ⟨m + 1, by omega, by go_num, by rw [Hst.out, if_neg H.out]; go_num, trivial⟩
              case measure => simp [intOf]; omega
          · have Hk := Lib.hid (kidF_neg (s := s) (fs := failV gs s j) hx)
            go_wp2_with fail
            · have h : kidF s (failV gs s j) gs[i].kids[m] = true := by rw [Hk.out, beq_iff_eq]; assumption
              have H := Lib.hid h
              clear h
              go_roundw
              case rel => exact ⟨m + 1, by omega, by go_num, by rw [Hst.out, if_pos H.out]; go_num, trivial⟩
              case measure => simp [intOf]; omega
            · have h : ¬ kidF s (failV gs s j) gs[i].kids[m] = true := by rw [Hk.out, Bool.not_eq_true]; assumption
              have H := Lib.hid h
              clear h
              go_roundw
              case rel => exact ⟨m + 1, by omega, by go_num, by rw [Hst.out, if_neg H.out]; go_num, trivial⟩
              case measure => simp [intOf]; omega
        · obtain rfl : m = gs[i].kids.length := by omega
          rw [List.take_length] at *
          have hci : wr.cell? ⟨w.heap.size, i, none⟩ = some (.bool ((failV gs s j).getD i false)) := by
            rw [own.cellAt i (by omega), List.getElem?_map, List.getElem?_eq_getElem (by rw [failV_len]; exact hil)]
            simp [failV_len, hil]
          have hfi := own.frozenAt i
          have Hw := Lib.hid (own.lt _ rfl)
          go_wp2_with fail
          refine wp_region_rel 13 (fun _ _ => True) (fun _ _ _ => True) (by kernel_rfl) (by kernel_rfl) (by kernel_rfl) ?_
          dsimp only [List.take, List.drop, List.length]
          refine LX_det (.slice (some ⟨b, o, none⟩) gs.length c1) rfl rfl (fun w' hx _ => ?_) ?_
          · go_simp
          refine LX_det (.int .i64 i) rfl rfl (fun w' hx _ => ?_) ?_
          · go_simp
          refine LX_det (.pointer (some ⟨b, o + i * 3, none⟩)) rfl rfl (fun w' hx _ => ?_) ?_
          · go_simp
          refine LX_det (.pointer (some ⟨b, o + i * 3 + 2, none⟩)) rfl rfl (fun w' hx _ => ?_) ?_
          · go_simp
          refine LX_det (.slice a3 gs[i].kids.length c3) rfl rfl (fun w' hx _ => ?_) ?_
          · have m2 := (Below.cell hx (p := ⟨b, o + i * 3 + 2, none⟩) hb).trans k2
            go_simp
          refine LX_det (.int .i64 gs[i].kids.length) rfl rfl (fun w' hx _ => ?_) ?_
          · go_simp
          refine LX_det (.slice (some ⟨b, o, none⟩) gs.length c1) rfl rfl (fun w' hx _ => ?_) ?_
          · go_simp
          refine LX_det (.int .i64 i) rfl rfl (fun w' hx _ => ?_) ?_
          · go_simp
          refine LX_det (.pointer (some ⟨b, o + i * 3, none⟩)) rfl rfl (fun w' hx _ => ?_) ?_
          · go_simp
          refine LX_det (.pointer (some ⟨b, o + i * 3 + 1, none⟩)) rfl rfl (fun w' hx _ => ?_) ?_
          · go_simp
          refine LX_det (.int .i64 gs[i].votes) rfl rfl (fun w' hx _ => ?_) ?_
          · have m2 := (Below.cell hx (p := ⟨b, o + i * 3 + 1, none⟩) hb).trans k1
            go_simp
          refine LX_det (.agg #[.int .i64 1, .int .i64 gs[i].kids.length, .int .i64 gs[i].votes]) rfl rfl (fun w' hx _ => ?_) ?_
          · go_simp
          refine LX_alloc [.int .i64 0, .int .i64 0, .int .i64 0] 96 rfl rfl (fun w' hx => ?_) ?_
          · go_simp
          intro B hB
          refine LX_nil fun w2 hx hg => ?_
          have hN := (hg 10).2 rfl
          clear hg
          have n0 := hN.cell 0
          have n1' := hN.cell 1
          have n2' := hN.cell 2
          have z0 := hN.frozen 0
          have z1 := hN.frozen 1
          have z2 := hN.frozen 2
          have own2 := own_ext' own hx
          have X2 := Below.trans X (Below.mono hx (Nat.le_of_lt (own.lt _ rfl).2))
          have m0 := (Below.cell hx (p := ⟨b, o + i * 3, none⟩) hb).trans k0
          have hcI : w2.cell? ⟨w.heap.size, i, none⟩ = some (.bool ((failV gs s j).getD i false)) := (Below.cell hx (p := ⟨w.heap.size, i, none⟩) Hw.out.2).trans hci
          have hfI := own2.frozenAt i
          have hB0 : b ≠ B := by omega
          have hB1 : ¬ w.heap.size = B := by have := Hw.out.2; omega
          clear hci hfi k0 k1 k2 hx
          simp only [Act.put, List.setIfInBounds_toArray, List.set_cons_succ, List.set_cons_zero]
          obtain hk | hk | hk : gs[i].kind = 0 ∨ gs[i].kind = 1 ∨ gs[i].kind = 2 := by omega
          · rw [hk] at m0
            have st := failV_step (s := s) Hi.out hil (b := decide ((1 : Int) ≤ (countF s (failV gs s j) gs[i].kids : Int))) (by unfold gateF needG; rw [if_pos hk])
            have St := Lib.hid st
            clear st hk hk2
            go_wp2_with fail
            go_roundw
            case rel =>
              refine ⟨j + 1, by omega, by have := Hi.out; go_num, ?_, ?_⟩
              · rw [← St.out]
                exact ((ownsRow_setCell_other (ownsRow_setCell_other (ownsRow_setCell_other own2 (a := ⟨B, 0, none⟩) (by simpa [Value.ownBlock] using hB1) (.int .i64 1)) (a := ⟨B, 1, none⟩) (by simpa [Value.ownBlock] using hB1) (.int .i64 gs[i].kids.length)) (a := ⟨B, 2, none⟩) (by simpa [Value.ownBlock] using hB1) (.int .i64 gs[i].votes)).stored i (.bool (decide ((1 : Int) ≤ (countF s (failV gs s j) gs[i].kids : Int))))).1
              · have hle : w.heap.size ≤ B := Nat.le_trans (Nat.le_of_lt Hw.out.2) hB
                exact Below.setCell (Below.setCell (Below.setCell (Below.setCell X2 hle _) hle _) hle _) (Nat.le_refl _) _
            case measure => simp [intOf]
          · rw [hk] at m0
            have st := failV_step (s := s) Hi.out hil (b := decide (gs[i].kids.length ≤ countF s (failV gs s j) gs[i].kids)) (by unfold gateF needG; rw [if_neg (by omega), if_pos hk, Bool.eq_iff_iff, decide_eq_true_iff, decide_eq_true_iff]; omega)
            have St := Lib.hid st
            clear st hk hk2
            go_wp2_with fail
            go_roundw
            case rel =>
              refine ⟨j + 1, by omega, by have := Hi.out; go_num, ?_, ?_⟩
              · rw [← St.out]
                exact ((ownsRow_setCell_other (ownsRow_setCell_other (ownsRow_setCell_other own2 (a := ⟨B, 0, none⟩) (by simpa [Value.ownBlock] using hB1) (.int .i64 1)) (a := ⟨B, 1, none⟩) (by simpa [Value.ownBlock] using hB1) (.int .i64 gs[i].kids.length)) (a := ⟨B, 2, none⟩) (by simpa [Value.ownBlock] using hB1) (.int .i64 gs[i].votes)).stored i (.bool (decide (gs[i].kids.length ≤ countF s (failV gs s j) gs[i].kids)))).1
              · have hle : w.heap.size ≤ B := Nat.le_trans (Nat.le_of_lt Hw.out.2) hB
                exact Below.setCell (Below.setCell (Below.setCell (Below.setCell X2 hle _) hle _) hle _) (Nat.le_refl _) _
            case measure => simp [intOf]
          · rw [hk] at m0
            have st := failV_step (s := s) Hi.out hil (b := decide (gs[i].votes ≤ (countF s (failV gs s j) gs[i].kids : Int))) (by unfold gateF needG; rw [if_neg (by omega), if_neg (by omega)])
            have St := Lib.hid st
            clear st hk hk2
            go_wp2_with fail
            go_roundw
            case rel =>
              refine ⟨j + 1, by omega, by have := Hi.out; go_num, ?_, ?_⟩
              · rw [← St.out]
                exact ((ownsRow_setCell_other (ownsRow_setCell_other (ownsRow_setCell_other own2 (a := ⟨B, 0, none⟩) (by simpa [Value.ownBlock] using hB1) (.int .i64 1)) (a := ⟨B, 1, none⟩) (by simpa [Value.ownBlock] using hB1) (.int .i64 gs[i].kids.length)) (a := ⟨B, 2, none⟩) (by simpa [Value.ownBlock] using hB1) (.int .i64 gs[i].votes)).stored i (.bool (decide (gs[i].votes ≤ (countF s (failV gs s j) gs[i].kids : Int))))).1
              · have hle : w.heap.size ≤ B := Nat.le_trans (Nat.le_of_lt Hw.out.2) hB
                exact Below.setCell (Below.setCell (Below.setCell (Below.setCell X2 hle _) hle _) hle _) (Nat.le_refl _) _
            case measure => simp [intOf]
    · obtain rfl : j = gs.length := by omega
      have hc0 : wr.cell? ⟨w.heap.size, 0, none⟩ = some (.bool (failB gs s)) := by
        rw [own.cellAt 0 (by omega), List.getElem?_map, List.getElem?_eq_getElem (by rw [failV_len]; omega)]
        simp [failB, failV_len, n1, List.getD_eq_getElem?_getD, List.getElem?_eq_getElem (show 0 < (failV gs s gs.length).length by rw [failV_len]; omega)]
      generalize hz : failB gs s = z at hc0
      go_wp2_with fail
      go_ret
      exact ⟨ret_bool hz.symm, X⟩
end Go.Proofs.Ytgmdoboeenpjpaa
