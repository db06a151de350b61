
/- Contracts of the functions that say whether a tree is valid, of the reference and of the program. Condition: a list that can be read. -/
import Derived.Test.YtgmdoboeenpjpaaSG
import Derived.Test.YtgmdoboeenpjpaaAB
namespace Go.Proofs.Ytgmdoboeenpjpaa
open Go Go.RowKit Go.ChangeShapes Go.WideShapes Go.ChangeAt

def kidOk (p : Int) (n i : Nat) (x : Int) : Bool := inB x (-p) ((n : Int) - 1) && !(decide (0 ≤ x) && decide (x ≤ i))
def gateOk (p : Int) (n i : Nat) (g : Gt) : Bool :=
  inB g.kind 0 2 && inB g.kids.length 1 10 && (if g.kind = 2 then inB g.votes 1 g.kids.length else decide (g.votes = 0)) && g.kids.all (kidOk p n i)
def treeOk (p : Int) (gs : List Gt) : Bool := inB p 1 10 && inB gs.length 1 16 && (List.range gs.length).all fun i => (gs[i]?.map (gateOk p gs.length i)).getD true

theorem l03Parts_any (p : Int) (w : World) : Calls Try.prog 74 #[.int .i64 p] w fun e w' => e = .returned (.bool (inB p 1 10)) ∧ w = w' := by
  go_enter Try.func74, Try.ntmps74
  go_wp2_with fail
  refine (l00In_any _ _ _ _).mono ?_
  rintro e w1 ⟨rfl, rfl⟩
  generalize hz : inB p 1 10 = z
  go_wp2_with fail
  go_ret
  exact ⟨ret_bool hz.symm, rfl⟩

theorem treeOk_p {p : Int} {gs : List Gt} (h : ¬ inB p 1 10 = true) : treeOk p gs = false := by simp [treeOk, h]
theorem treeOk_n {p : Int} {gs : List Gt} (h : ¬ (1 ≤ gs.length ∧ gs.length ≤ 16)) : treeOk p gs = false := by
  have : inB gs.length 1 16 = false := by rw [Bool.eq_false_iff]; intro h'; have := inB_iff.1 h'; omega
  simp [treeOk, this]
theorem treeOk_bad {p : Int} {gs : List Gt} {k : Nat} (hk : k < gs.length) (h : gateOk p gs.length k gs[k] = false) : treeOk p gs = false := by
  have : ((List.range gs.length).all fun i => (gs[i]?.map (gateOk p gs.length i)).getD true) = false := by
    rw [List.all_eq_false]; exact ⟨k, List.mem_range.2 hk, by simp [hk, h]⟩
  simp only [treeOk, this, Bool.and_false]
theorem treeOk_all {p : Int} {gs : List Gt} (h0 : inB p 1 10 = true) (h1 : 1 ≤ gs.length) (h2 : gs.length ≤ 16) (h : ∀ k, (hk : k < gs.length) → gateOk p gs.length k gs[k] = true) : treeOk p gs = true := by
  simp only [treeOk, h0, inB_true (show (1 : Int) ≤ gs.length by omega) (show (gs.length : Int) ≤ 16 by omega), Bool.true_and, List.all_eq_true, List.mem_range]
  intro k hk; simp [hk, h k hk]

def gateHead (g : Gt) : Bool := inB g.kind 0 2 && inB g.kids.length 1 10 && (if g.kind = 2 then inB g.votes 1 g.kids.length else decide (g.votes = 0))
theorem gateOk_eq {p : Int} {n i : Nat} {g : Gt} : gateOk p n i g = (gateHead g && g.kids.all (kidOk p n i)) := rfl
theorem gateOk_head {p : Int} {n i : Nat} {g : Gt} (h : gateHead g = false) : gateOk p n i g = false := by rw [gateOk_eq, h]; rfl
theorem gateHead_k {g : Gt} (h : ¬ inB g.kind 0 2 = true) : gateHead g = false := by simp [gateHead, h]
theorem gateHead_n {g : Gt} (h : ¬ (1 ≤ g.kids.length ∧ g.kids.length ≤ 10)) : gateHead g = false := by
  have : inB g.kids.length 1 10 = false := by rw [Bool.eq_false_iff]; intro h'; have := inB_iff.1 h'; omega
  simp [gateHead, this]
theorem gateHead_v {g : Gt} (h0 : g.kind = 2) (h : ¬ inB g.votes 1 g.kids.length = true) : gateHead g = false := by simp [gateHead, h0, h]
theorem gateHead_z {g : Gt} (h : (g.kind != 2) = true ∧ (g.votes != 0) = true) : gateHead g = false := by
  have h0 : ¬ g.kind = 2 := by simpa using h.1
  have h1 : ¬ g.votes = 0 := by simpa using h.2
  simp [gateHead, h0, h1]
theorem gateHead_2 {g : Gt} (h1 : inB g.kind 0 2 = true) (h2 : 1 ≤ (g.kids.length : Int) ∧ (g.kids.length : Int) ≤ 10) (h0 : g.kind = 2) (h : inB g.votes 1 g.kids.length = true) : gateHead g = true := by
  have : inB g.kids.length 1 10 = true := inB_true h2.1 h2.2
  rw [h0] at h1
  simp [gateHead, h1, this, h0, h]
theorem gateHead_o {g : Gt} (h1 : inB g.kind 0 2 = true) (h2 : 1 ≤ (g.kids.length : Int) ∧ (g.kids.length : Int) ≤ 10) (h0 : ¬ g.kind = 2) (h : (g.kind != 2) = false ∨ (g.votes != 0) = false) : gateHead g = true := by
  have : inB g.kids.length 1 10 = true := inB_true h2.1 h2.2
  have hv : g.votes = 0 := by
    rcases h with h | h
    · exact absurd (by simpa using h) h0
    · simpa using h
  simp [gateHead, h1, this, h0, hv]
theorem gateOk_kid {p : Int} {n i j : Nat} {g : Gt} (hj : j < g.kids.length) (h : kidOk p n i g.kids[j] = false) : gateOk p n i g = false := by
  have : g.kids.all (kidOk p n i) = false := by rw [List.all_eq_false]; exact ⟨_, List.getElem_mem hj, by simp [h]⟩
  rw [gateOk_eq, this, Bool.and_false]
theorem gateOk_all {p : Int} {n i : Nat} {g : Gt} (h0 : gateHead g = true) (h : ∀ j, (hj : j < g.kids.length) → kidOk p n i g.kids[j] = true) : gateOk p n i g = true := by
  rw [gateOk_eq, h0, Bool.true_and, List.all_eq_true]
  intro x hx
  obtain ⟨j, hj, rfl⟩ := List.getElem_of_mem hx
  exact h j hj
theorem kidOk_b {p x : Int} {n i : Nat} (h : ¬ inB x (-p) ((n : Int) - 1) = true) : kidOk p n i x = false := by simp [kidOk, h]
theorem kidOk_x {p x : Int} {n i : Nat} (h : 0 ≤ x ∧ x ≤ i) : kidOk p n i x = false := by simp [kidOk, h.1, h.2]
theorem kidOk_y {p x : Int} {n i : Nat} (h : inB x (-p) ((n : Int) - 1) = true) (h2 : ¬ (0 ≤ x ∧ x ≤ i)) : kidOk p n i x = true := by
  unfold kidOk; rw [h]
  have : (decide (0 ≤ x) && decide (x ≤ i)) = false := by rw [Bool.eq_false_iff]; intro h; simp at h; omega
  rw [this]; rfl

set_option maxRecDepth 100000 in
set_option maxHeartbeats 1000000 in
theorem l03Tree_any (p : Int) (v : Value) (gs : List Gt) (w : World) (r : RdG w v gs) (hn : gs.length ≤ 1048576) :
    Calls Try.prog 85 #[.int .i64 p, v] w fun e w' => e = .returned (.bool (treeOk p gs)) ∧ w = w' := by
  have r' := r
  obtain ⟨⟨-, a1, c1, rfl, p1, p2, -, -⟩, -⟩ := r
  clear p1 p2
  go_enter Try.func85, Try.ntmps85
  go_wp2_with (first | (go_at_call 74; refine (l03Parts_any _ _).mono ?_; rintro e w' ⟨rfl, rfl⟩))
  any_goals (go_ret; first | exact ⟨ret_bool (treeOk_p ‹_›).symm, rfl⟩ | exact ⟨ret_bool (treeOk_n (by omega)).symm, rfl⟩)
  have hp : inB p 1 10 = true := by assumption
  have Hp := Lib.hid hp
  have hp0 := inB_iff.1 hp
  clear hp
  go_loopw [25] (fun i wr => ∃ k : Nat, k ≤ gs.length ∧ i = .int .i64 k ∧ Hid (∀ j, (hj : j < gs.length) → j < k → gateOk p gs.length j gs[j] = true) ∧ wr = w) (fun i _ => gs.length - (intOf i).toNat)
  case atStart => exact ⟨0, Nat.zero_le _, rfl, fun j _ h => absurd h (Nat.not_lt_zero _), rfl⟩
  case round =>
    obtain ⟨k, hk, rfl, Hn, rfl⟩ := hrel
    by_cases hlt : k < gs.length
    · obtain ⟨b, o, rfl, hb, k0, k1, k2⟩ := r'.at hlt
      have hok := r'.2 gs[k] (List.getElem_mem hlt)
      have hki := hok.1
      obtain ⟨⟨-, a3, c3, hkv, p3, p4, -, -⟩, -⟩ := hok
      rw [hkv] at k2
      go_wp2_with (first | (go_at_call 75; refine (l00In_any _ _ _ _).mono ?_; rintro e w' ⟨rfl, rfl⟩))
      any_goals (go_ret; exact ⟨ret_bool (treeOk_bad hlt (gateOk_head (by first | exact gateHead_k ‹_› | exact gateHead_n (by omega) | exact gateHead_v ‹_› ‹_› | exact gateHead_z ‹_›))).symm, rfl⟩)
      all_goals
        have hg : gateHead gs[k] = true := by first | exact gateHead_2 ‹_› ‹_› ‹_› ‹_› | exact gateHead_o ‹_› ‹_› ‹_› ‹_›
        have Hg := Lib.hid hg
        clear hg
        go_loopw [83] (fun i wq => ∃ m : Nat, m ≤ gs[k].kids.length ∧ i = .int .i64 m ∧ Hid (∀ j, (hj : j < gs[k].kids.length) → j < m → kidOk p gs.length k gs[k].kids[j] = true) ∧ wq = wr) (fun i _ => gs[k].kids.length - (intOf i).toNat)
        case atStart => exact ⟨0, Nat.zero_le _, rfl, fun j _ h => absurd h (Nat.not_lt_zero _), rfl⟩
        case round =>
          obtain ⟨m, hm, rfl, Hm, rfl⟩ := hrel
          by_cases hlt2 : m < gs[k].kids.length
          · rw [hkv] at hki
            obtain ⟨b3, o3, rfl, hb3, hc3⟩ := hki.at hlt2
            go_wp2_with (first | (go_at_call 75; refine (l00In_any _ _ _ _).mono ?_; rintro e w' ⟨rfl, rfl⟩))
            any_goals (go_ret; exact ⟨ret_bool (treeOk_bad hlt (gateOk_kid hlt2 (by first | exact kidOk_b ‹_› | exact kidOk_x ⟨‹_›, ‹_›⟩))).symm, rfl⟩)
            all_goals
              have hkk : kidOk p gs.length k gs[k].kids[m] = true := kidOk_y ‹_› (by omega)
              have Hkk := Lib.hid hkk
              clear hkk
              go_roundw
              case rel =>
                refine ⟨m + 1, by omega, by go_num, fun j hj hjm => ?_, trivial⟩
                by_cases hjm2 : j = m
                · subst hjm2; exact Hkk.out
                · exact Hm.out j hj (by omega)
              case measure => simp [intOf]; omega
          · go_wp2_with fail
            go_roundw
            case rel =>
              refine ⟨k + 1, by omega, by go_num, fun j hj hjk => ?_, trivial⟩
              by_cases hjk2 : j = k
              · subst hjk2; exact gateOk_all Hg.out fun q hq => Hm.out q hq (by omega)
              · exact Hn.out j hj (by omega)
            case measure => simp [intOf]; omega
    · go_wp2_with fail
      go_ret
      exact ⟨ret_bool (treeOk_all Hp.out (by omega) (by omega) (fun j hj => Hn.out j hj (by omega))).symm, rfl⟩

end Go.Proofs.Ytgmdoboeenpjpaa
/- Contracts of the functions of the program that say whether numbers lie between bounds and whether a tree is valid. Condition: a list that can be read. -/
namespace Go.Proofs.Ytgmdoboeenpjpaa
open Go Go.RowKit Go.ChangeShapes Go.WideShapes Go.ChangeAt

theorem all_any {α : Type} (p : α → Bool) : ∀ l : List α, (!(l.any fun x => !(p x))) = l.all p
  | [] => rfl
  | x :: l => by simp only [List.any_cons, List.all_cons, Bool.not_or, Bool.not_not, all_any p l]

theorem areParts_any (p : Int) (w : World) : Calls Try.prog 69 #[.int .i64 p] w fun e w' => e = .returned (.bool (inB p 1 10)) ∧ w = w' := by
  go_enter Try.func69, Try.ntmps69
  go_wp2_with fail
  refine (within_any _ _ _ _).mono ?_
  rintro e w1 ⟨rfl, rfl⟩
  generalize hz : inB p 1 10 = z
  go_wp2_with fail
  go_ret
  exact ⟨ret_bool hz.symm, rfl⟩
theorem areWithin_1 (z lo hi : Int) (b c : Nat) (w : World) (h1 : Bx w b [.int .i64 lo]) (h2 : Bx w c [.int .i64 hi]) :
    Calls Try.prog 112 #[.int .i64 z, .pointer (some ⟨b, 0, none⟩), .pointer (some ⟨c, 0, none⟩)] w fun e w' => e = .returned (.bool (!(inB z lo hi))) ∧ Ext w w' := by
  have k1 := h1.one
  have k2 := h2.one
  go_enter Try.func112, Try.ntmps112
  go_wp2_with fail
  refine (within_any _ _ _ _).mono ?_
  rintro e w1 ⟨rfl, rfl⟩
  generalize hz : inB z lo hi = q
  go_wp2_with fail
  go_ret
  exact ⟨ret_bool (by rw [hz]), Ext.refl _⟩
theorem areWithin_any (v : Value) (zs : List Int) (lo hi : Int) (w : World) (r : RdI w v zs) :
    Calls Try.prog 93 #[v, .int .i64 lo, .int .i64 hi] w fun e w' => e = .returned (.bool (zs.all fun z => inB z lo hi)) ∧ Ext w w' := by
  have r' := r
  obtain ⟨-, a1, c1, rfl, -, -, -, -⟩ := r
  go_enter Try.func93, Try.ntmps93
  go_wp2_with fail
  refine (containsFuncI_any 112 #[.pointer (some ⟨w.heap.size, 0, none⟩), .pointer (some ⟨w.heap.size + 1, 0, none⟩)] (fun z => !(inB z lo hi)) _ zs _ ((r'.alloc _).alloc _) (enterOk Try.func112 (by kernel_rfl) rfl) ?_).mono ?_
  · intro w' hx z
    exact areWithin_1 z lo hi w.heap.size (w.heap.size + 1) w' (((Bx.new w [_] _).ext (Ext.alloc _ _)).ext hx) ((Bx.new' (w.alloc _) [_] _ (by simp)).ext hx)
  rintro e w1 ⟨rfl, X⟩
  have H := Lib.hid (all_any (fun z => inB z lo hi) zs)
  generalize (zs.any fun z => !(inB z lo hi)) = q at *
  go_wp2_with fail
  go_ret
  exact ⟨ret_bool H.out, ((Ext.alloc _ _).trans (Ext.alloc _ _)).trans X⟩
/-- How many and how great. -/
def manyB (zs : List Int) (few many lo hi : Int) : Bool := inB zs.length few many && zs.all fun z => inB z lo hi
theorem areMany_any (v : Value) (zs : List Int) (few many lo hi : Int) (w : World) (r : RdI w v zs) :
    Calls Try.prog 87 #[v, .int .i64 few, .int .i64 many, .int .i64 lo, .int .i64 hi] w fun e w' => e = .returned (.bool (manyB zs few many lo hi)) ∧ Ext w w' := by
  have r' := r
  obtain ⟨-, a1, c1, rfl, -, -, -, -⟩ := r
  cases h : inB zs.length few many
  · have H := Lib.hid h
    clear h
    go_enter Try.func87, Try.ntmps87
    go_wp2_with fail
    refine (within_eq H.out _).mono ?_
    rintro e w1 ⟨rfl, rfl⟩
    go_wp2_with fail
    go_ret
    exact ⟨ret_bool (by unfold manyB; rw [H.out]; rfl), Ext.refl _⟩
  · have H := Lib.hid h
    clear h
    go_enter Try.func87, Try.ntmps87
    go_wp2_with fail
    refine (within_eq H.out _).mono ?_
    rintro e w1 ⟨rfl, rfl⟩
    go_wp2_with fail
    refine (areWithin_any _ zs _ _ _ r').mono ?_
    rintro e w1 ⟨rfl, X⟩
    generalize hz : (zs.all fun z => inB z lo hi) = q
    go_wp2_with fail
    go_ret
    exact ⟨ret_bool (by unfold manyB; rw [H.out, hz]; rfl), X⟩

theorem validTree_1 (z : Int) (i b : Nat) (w : World) (h : Bx w b [.int .i64 i]) :
    Calls Try.prog 89 #[.int .i64 z, .pointer (some ⟨b, 0, none⟩)] w fun e w' => e = .returned (.bool (decide (0 ≤ z) && decide (z ≤ i))) ∧ Ext w w' := by
  have k1 := h.one
  go_enter Try.func89, Try.ntmps89
  go_wp2_with fail
  all_goals
    go_ret
    refine ⟨ret_bool ?_, Ext.refl _⟩
    first | (simp [*]; done) | (simp; omega)
theorem gateOkI {p : Int} {n i : Nat} {g : Gt} : gateOk p n i g = (inB g.kind 0 2 && manyB g.kids 1 10 (-p) ((n : Int) - 1) && !(g.kids.any fun z => decide (0 ≤ z) && decide (z ≤ i)) && (if g.kind = 2 then inB g.votes 1 g.kids.length else decide (g.votes = 0))) := by
  have h : ∀ l : List Int, l.all (kidOk p n i) = ((l.all fun z => inB z (-p) ((n : Int) - 1)) && !(l.any fun z => decide (0 ≤ z) && decide (z ≤ i))) := by
    intro l
    induction l with
    | nil => rfl
    | cons x l ih =>
      simp only [List.all_cons, List.any_cons, ih, kidOk, Bool.not_or]
      generalize inB x (-p) ((n : Int) - 1) = a
      generalize (decide (0 ≤ x) && decide (x ≤ (i : Int))) = b
      generalize (l.all fun z => inB z (-p) ((n : Int) - 1)) = c
      generalize (l.any fun z => decide (0 ≤ z) && decide (z ≤ (i : Int))) = d
      cases a <;> cases b <;> cases c <;> cases d <;> rfl
  unfold gateOk manyB
  rw [h]
  generalize inB g.kind 0 2 = a
  generalize (if g.kind = 2 then inB g.votes 1 g.kids.length else decide (g.votes = 0)) = b
  generalize inB g.kids.length 1 10 = c
  generalize (g.kids.all fun z => inB z (-p) ((n : Int) - 1)) = d
  generalize (g.kids.any fun z => decide (0 ≤ z) && decide (z ≤ (i : Int))) = e
  cases a <;> cases b <;> cases c <;> cases d <;> cases e <;> rfl
theorem gateI_k {p : Int} {n i : Nat} {g : Gt} (h : ¬ inB g.kind 0 2 = true) : gateOk p n i g = false := gateOk_head (gateHead_k h)
theorem gateI_m {p : Int} {n i : Nat} {g : Gt} (h : (!(manyB g.kids 1 10 (-p) ((n : Int) - 1))) = true) : gateOk p n i g = false := by rw [gateOkI]; simp at h; simp [h]
theorem gateI_a {p : Int} {n i : Nat} {g : Gt} (h : (g.kids.any fun z => decide (0 ≤ z) && decide (z ≤ (i : Int))) = true) : gateOk p n i g = false := by rw [gateOkI, h]; simp
theorem gateI_t {p : Int} {n i : Nat} {g : Gt} (h0 : inB g.kind 0 2 = true) (h1 : manyB g.kids 1 10 (-p) ((n : Int) - 1) = true) (h2 : (g.kids.any fun z => decide (0 ≤ z) && decide (z ≤ (i : Int))) = false)
    (h3 : (if g.kind = 2 then inB g.votes 1 g.kids.length else decide (g.votes = 0)) = true) : gateOk p n i g = true := by rw [gateOkI, h0, h1, h2, h3]; rfl
set_option maxRecDepth 100000 in
set_option maxHeartbeats 1000000 in
theorem implValidTree_any (p : Int) (v : Value) (gs : List Gt) (w : World) (r : RdG w v gs) (hn : gs.length ≤ 1048576) :
    Calls Try.prog 33 #[.int .i64 p, v] w fun e w' => e = .returned (.bool (treeOk p gs)) ∧ Ext w w' := by
  have r' := r
  obtain ⟨⟨-, a1, c1, rfl, p1, p2, -, -⟩, -⟩ := r
  clear p1 p2
  go_enter Try.func33, Try.ntmps33
  go_wp2_with (first | (go_at_call 69; refine (areParts_any _ _).mono ?_; rintro e w' ⟨rfl, rfl⟩))
  any_goals (go_ret; first | exact ⟨ret_bool (treeOk_p ‹_›).symm, Ext.refl _⟩ | exact ⟨ret_bool (treeOk_n (by omega)).symm, Ext.refl _⟩)
  have hp : inB p 1 10 = true := by assumption
  have Hp := Lib.hid hp
  have hp0 := inB_iff.1 hp
  clear hp
  go_loopw [23] (fun i wr => ∃ k : Nat, k ≤ gs.length ∧ i = .int .i64 k ∧ Hid (∀ j, (hj : j < gs.length) → j < k → gateOk p gs.length j gs[j] = true) ∧ Ext w wr) (fun i _ => gs.length - (intOf i).toNat)
  case atStart => exact ⟨0, Nat.zero_le _, rfl, fun j _ h => absurd h (Nat.not_lt_zero _), Ext.refl _⟩
  case round =>
    obtain ⟨k, hk, rfl, Hn, X⟩ := hrel
    by_cases hlt : k < gs.length
    · obtain ⟨b, o, rfl, hb, k0, k1, k2⟩ := (r'.ext X).at hlt
      have hok := (r'.ext X).2 gs[k] (List.getElem_mem hlt)
      have hki := hok.1
      obtain ⟨⟨-, a3, c3, hkv, p3, p4, -, -⟩, -⟩ := hok
      rw [hkv] at k2 hki
      clear hkv
      unfold maxLen at p4
      go_wp2_with fail
      generalize hW : World.alloc (World.alloc wr _) _ = W
      have XW : Ext wr W := hW ▸ (Ext.alloc _ _).trans (Ext.alloc _ _)
      have bi : Bx W wr.heap.size [.int .i64 k] := hW ▸ (Bx.new wr _ _).ext (Ext.alloc _ _)
      have bg : Bx W (wr.heap.size + 1) [.int .i64 gs[k].kind, .int .i64 gs[k].votes, .slice a3 gs[k].kids.length c3] := hW ▸ (Bx.new' (wr.alloc _) _ _ (by simp))
      clear hW k0 k1 k2 hb
      replace hki := hki.ext XW
      obtain ⟨g0, g1, g2⟩ := bg.three
      refine (within_any _ _ _ _).mono ?_
      rintro e w1 ⟨rfl, rfl⟩
      go_wp2_with fail
      any_goals (go_ret; exact ⟨ret_bool (treeOk_bad hlt (gateI_k ‹_›)).symm, X.trans XW⟩)
      refine (areMany_any _ gs[k].kids 1 10 (-p) ((gs.length : Int) - 1) _ hki).mono ?_
      rintro e w2 ⟨rfl, hx⟩
      replace XW := XW.trans hx; replace bi := bi.ext hx; replace bg := bg.ext hx; replace hki := hki.ext hx
      clear hx g0 g1 g2
      obtain ⟨g0, g1, g2⟩ := bg.three
      go_wp2_with fail
      any_goals (go_ret; exact ⟨ret_bool (treeOk_bad hlt (gateI_m ‹_›)).symm, X.trans XW⟩)
      refine (containsFuncI_any 89 #[.pointer (some ⟨wr.heap.size, 0, none⟩)] (fun z => decide (0 ≤ z) && decide (z ≤ (k : Int))) _ gs[k].kids _ hki (enterOk Try.func89 (by kernel_rfl) rfl) ?_).mono ?_
      · intro w' hx z
        exact validTree_1 z k wr.heap.size w' (bi.ext hx)
      rintro e w3 ⟨rfl, hx⟩
      replace XW := XW.trans hx; replace bg := bg.ext hx
      clear hx g0 g1 g2 bi
      obtain ⟨g0, g1, g2⟩ := bg.three
      cases hany : gs[k].kids.any fun z => decide (0 ≤ z) && decide (z ≤ (k : Int))
      · have Hany := Lib.hid hany
        clear hany
        go_wp2_with (first | (go_at_call 52; refine (within_any _ _ _ _).mono ?_; rintro e w' ⟨rfl, rfl⟩))
        any_goals (go_ret; exact ⟨ret_bool (treeOk_bad hlt (gateOk_head (by first | exact gateHead_v ‹_› ‹_› | exact gateHead_z ‹_›))).symm, X.trans XW⟩)
        all_goals
          have hm : manyB gs[k].kids 1 10 (-p) ((gs.length : Int) - 1) = true := by
            have h : (!manyB gs[k].kids 1 10 (-p) ((gs.length : Int) - 1)) = false := by assumption
            simpa using h
          have hv : (if gs[k].kind = 2 then inB gs[k].votes 1 gs[k].kids.length else decide (gs[k].votes = 0)) = true := by
            first
              | (have h2 : gs[k].kind = 2 := by assumption
                 rw [if_pos h2]; assumption)
              | (have h2 : ¬ gs[k].kind = 2 := by assumption
                 have h3 : (gs[k].kind != 2) = false ∨ (gs[k].votes != 0) = false := by assumption
                 rw [if_neg h2]
                 rcases h3 with h | h
                 · exact absurd (by simpa using h) h2
                 · simpa using h)
          have hg : gateOk p gs.length k gs[k] = true := gateI_t ‹_› hm Hany.out hv
          have Hg := Lib.hid hg
          clear hg hm hv
          go_roundw
          case rel =>
            refine ⟨k + 1, by omega, by go_num, fun j hj hjk => ?_, X.trans XW⟩
            by_cases hjk2 : j = k
            · subst hjk2; exact Hg.out
            · exact Hn.out j hj (by omega)
          case measure => simp [intOf]; omega
      · have Hany := Lib.hid hany
        clear hany
        go_wp2_with fail
        go_ret
        exact ⟨ret_bool (treeOk_bad hlt (gateI_a Hany.out)).symm, X.trans XW⟩
    · go_wp2_with fail
      go_ret
      exact ⟨ret_bool (treeOk_all Hp.out (by omega) (by omega) (fun j hj => Hn.out j hj (by omega))).symm, X⟩
end Go.Proofs.Ytgmdoboeenpjpaa
