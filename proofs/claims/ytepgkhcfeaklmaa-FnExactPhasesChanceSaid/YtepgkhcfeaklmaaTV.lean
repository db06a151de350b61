
/- Contracts of the functions that say whether a tree is valid, of the reference and of the program. Condition: a list that can be read. -/
import Derived.Test.YtepgkhcfeaklmaaGA
import Derived.Test.YtepgkhcfeaklmaaB
namespace Go.Proofs.Ytepgkhcfeaklmaa
open Go Go.RowKit Go.ChangeShapes Go.WideShapes Go.ChangeAt

def kidOk (p : Int) (n i : Nat) (x : Int) : Bool := inB x (-p) ((n : Int) - 1) && !(decide (0 ≤ x) && decide (x ≤ i))
def gateOk (p : Int) (n i : Nat) (g : Gt) : Bool :=
  inB g.kind 0 2 && inB g.kids.length 1 10 && (if g.kind = 2 then inB g.votes 1 g.kids.length else decide (g.votes = 0)) && g.kids.all (kidOk p n i)
def treeOk (p : Int) (gs : List Gt) : Bool := inB p 1 10 && inB gs.length 1 16 && (List.range gs.length).all fun i => (gs[i]?.map (gateOk p gs.length i)).getD true

theorem l03Parts_any (p : Int) (w : World) : Calls Try.prog 112 #[.int .i64 p] w fun e w' => e = .returned (.bool (inB p 1 10)) ∧ w = w' := by
  go_enter Try.func112, Try.ntmps112
  go_wp2_with fail
  refine (l00In_any _ _ _ _).mono ?_
  rintro e w1 ⟨rfl, rfl⟩
  generalize hz : inB p 1 10 = z
  go_wp2_with fail
  go_ret
  exact ⟨ret_bool hz.symm, rfl⟩

theorem treeOk_p {p : Int} {gs : List Gt} (h : ¬ inB p 1 10 = true) : treeOk p gs = false := by simp [treeOk, h]
theorem treeOk_n {p : Int} {gs : List Gt} (h : ¬ (1 ≤ gs.length ∧ gs.length ≤ 16)) : treeOk p gs = false := by
  have : inB gs.length 1 16 = false := by rw [Bool.eq_false_iff]; intro h'; have := inB_iff.1 h'; omega
  simp [treeOk, this]
theorem treeOk_bad {p : Int} {gs : List Gt} {k : Nat} (hk : k < gs.length) (h : gateOk p gs.length k gs[k] = false) : treeOk p gs = false := by
  have : ((List.range gs.length).all fun i => (gs[i]?.map (gateOk p gs.length i)).getD true) = false := by
    rw [List.all_eq_false]; exact ⟨k, List.mem_range.2 hk, by simp [hk, h]⟩
  simp only [treeOk, this, Bool.and_false]
theorem treeOk_all {p : Int} {gs : List Gt} (h0 : inB p 1 10 = true) (h1 : 1 ≤ gs.length) (h2 : gs.length ≤ 16) (h : ∀ k, (hk : k < gs.length) → gateOk p gs.length k gs[k] = true) : treeOk p gs = true := by
  simp only [treeOk, h0, inB_true (show (1 : Int) ≤ gs.length by omega) (show (gs.length : Int) ≤ 16 by omega), Bool.true_and, List.all_eq_true, List.mem_range]
  intro k hk; simp [hk, h k hk]

def gateHead (g : Gt) : Bool := inB g.kind 0 2 && inB g.kids.length 1 10 && (if g.kind = 2 then inB g.votes 1 g.kids.length else decide (g.votes = 0))
theorem gateOk_eq {p : Int} {n i : Nat} {g : Gt} : gateOk p n i g = (gateHead g && g.kids.all (kidOk p n i)) := rfl
theorem gateOk_head {p : Int} {n i : Nat} {g : Gt} (h : gateHead g = false) : gateOk p n i g = false := by rw [gateOk_eq, h]; rfl
theorem gateHead_k {g : Gt} (h : ¬ inB g.kind 0 2 = true) : gateHead g = false := by simp [gateHead, h]
theorem gateHead_n {g : Gt} (h : ¬ (1 ≤ g.kids.length ∧ g.kids.length ≤ 10)) : gateHead g = false := by
  have : inB g.kids.length 1 10 = false := by rw [Bool.eq_false_iff]; intro h'; have := inB_iff.1 h'; omega
  simp [gateHead, this]
theorem gateHead_v {g : Gt} (h0 : g.kind = 2) (h : ¬ inB g.votes 1 g.kids.length = true) : gateHead g = false := by simp [gateHead, h0, h]
theorem gateHead_z {g : Gt} (h : (g.kind != 2) = true ∧ (g.votes != 0) = true) : gateHead g = false := by
  have h0 : ¬ g.kind = 2 := by simpa using h.1
  have h1 : ¬ g.votes = 0 := by simpa using h.2
  simp [gateHead, h0, h1]
theorem gateHead_2 {g : Gt} (h1 : inB g.kind 0 2 = true) (h2 : 1 ≤ (g.kids.length : Int) ∧ (g.kids.length : Int) ≤ 10) (h0 : g.kind = 2) (h : inB g.votes 1 g.kids.length = true) : gateHead g = true := by
  have : inB g.kids.length 1 10 = true := inB_true h2.1 h2.2
  rw [h0] at h1
  simp [gateHead, h1, this, h0, h]
theorem gateHead_o {g : Gt} (h1 : inB g.kind 0 2 = true) (h2 : 1 ≤ (g.kids.length : Int) ∧ (g.kids.length : Int) ≤ 10) (h0 : ¬ g.kind = 2) (h : (g.kind != 2) = false ∨ (g.votes != 0) = false) : gateHead g = true := by
  have : inB g.kids.length 1 10 = true := inB_true h2.1 h2.2
  have hv : g.votes = 0 := by
    rcases h with h | h
    · exact absurd (by simpa using h) h0
    · simpa using h
  simp [gateHead, h1, this, h0, hv]
theorem gateOk_kid {p : Int} {n i j : Nat} {g : Gt} (hj : j < g.kids.length) (h : kidOk p n i g.kids[j] = false) : gateOk p n i g = false := by
  have : g.kids.all (kidOk p n i) = false := by rw [List.all_eq_false]; exact ⟨_, List.getElem_mem hj, by simp [h]⟩
  rw [gateOk_eq, this, Bool.and_false]
theorem gateOk_all {p : Int} {n i : Nat} {g : Gt} (h0 : gateHead g = true) (h : ∀ j, (hj : j < g.kids.length) → kidOk p n i g.kids[j] = true) : gateOk p n i g = true := by
  rw [gateOk_eq, h0, Bool.true_and, List.all_eq_true]
  intro x hx
  obtain ⟨j, hj, rfl⟩ := List.getElem_of_mem hx
  exact h j hj
theorem kidOk_b {p x : Int} {n i : Nat} (h : ¬ inB x (-p) ((n : Int) - 1) = true) : kidOk p n i x = false := by simp [kidOk, h]
theorem kidOk_x {p x : Int} {n i : Nat} (h : 0 ≤ x ∧ x ≤ i) : kidOk p n i x = false := by simp [kidOk, h.1, h.2]
theorem kidOk_y {p x : Int} {n i : Nat} (h : inB x (-p) ((n : Int) - 1) = true) (h2 : ¬ (0 ≤ x ∧ x ≤ i)) : kidOk p n i x = true := by
  unfold kidOk; rw [h]
  have : (decide (0 ≤ x) && decide (x ≤ i)) = false := by rw [Bool.eq_false_iff]; intro h; simp at h; omega
  rw [this]; rfl

set_option maxRecDepth 100000 in
set_option maxHeartbeats 1000000 in
theorem l03Tree_any (p : Int) (v : Value) (gs : List Gt) (w : World) (r : RdG w v gs) (hn : gs.length ≤ 1048576) :
    Calls Try.prog 81 #[.int .i64 p, v] w fun e w' => e = .returned (.bool (treeOk p gs)) ∧ w = w' := by
  have r' := r
  obtain ⟨⟨-, a1, c1, rfl, p1, p2, -, -⟩, -⟩ := r
  clear p1 p2
  go_enter Try.func81, Try.ntmps81
  go_wp2_with (first | (go_at_call 112; refine (l03Parts_any _ _).mono ?_; rintro e w' ⟨rfl, rfl⟩))
  any_goals (go_ret; first | exact ⟨ret_bool (treeOk_p ‹_›).symm, rfl⟩ | exact ⟨ret_bool (treeOk_n (by omega)).symm, rfl⟩)
  have hp : inB p 1 10 = true := by assumption
  have Hp := Lib.hid hp
  have hp0 := inB_iff.1 hp
  clear hp
  go_loopw [25] (fun i wr => ∃ k : Nat, k ≤ gs.length ∧ i = .int .i64 k ∧ Hid (∀ j, (hj : j < gs.length) → j < k → gateOk p gs.length j gs[j] = true) ∧ wr = w) (fun i _ => gs.length - (intOf i).toNat)
  case atStart => exact ⟨0, Nat.zero_le _, rfl, fun j _ h => absurd h (Nat.not_lt_zero _), rfl⟩
  case round =>
    obtain ⟨k, hk, rfl, Hn, rfl⟩ := hrel
    by_cases hlt : k < gs.length
    · obtain ⟨b, o, rfl, hb, k0, k1, k2⟩ := r'.at hlt
      have hok := r'.2 gs[k] (List.getElem_mem hlt)
      have hki := hok.1
      obtain ⟨⟨-, a3, c3, hkv, p3, p4, -, -⟩, -⟩ := hok
      rw [hkv] at k2
      go_wp2_with (first | (go_at_call 96; refine (l00In_any _ _ _ _).mono ?_; rintro e w' ⟨rfl, rfl⟩))
      any_goals (go_ret; exact ⟨ret_bool (treeOk_bad hlt (gateOk_head (by first | exact gateHead_k ‹_› | exact gateHead_n (by omega) | exact gateHead_v ‹_› ‹_› | exact gateHead_z ‹_›))).symm, rfl⟩)
      all_goals
        have hg : gateHead gs[k] = true := by first | exact gateHead_2 ‹_› ‹_› ‹_› ‹_› | exact gateHead_o ‹_› ‹_› ‹_› ‹_›
        have Hg := Lib.hid hg
        clear hg
        go_loopw [83] (fun i wq => ∃ m : Nat, m ≤ gs[k].kids.length ∧ i = .int .i64 m ∧ Hid (∀ j, (hj : j < gs[k].kids.length) → j < m → kidOk p gs.length k gs[k].kids[j] = true) ∧ wq = wr) (fun i _ => gs[k].kids.length - (intOf i).toNat)
        case atStart => exact ⟨0, Nat.zero_le _, rfl, fun j _ h => absurd h (Nat.not_lt_zero _), rfl⟩
        case round =>
          obtain ⟨m, hm, rfl, Hm, rfl⟩ := hrel
          by_cases hlt2 : m < gs[k].kids.length
          · rw [hkv] at hki
            obtain ⟨b3, o3, rfl, hb3, hc3⟩ := hki.at hlt2
            go_wp2_with (first | (go_at_call 96; refine (l00In_any _ _ _ _).mono ?_; rintro e w' ⟨rfl, rfl⟩))
            any_goals (go_ret; exact ⟨ret_bool (treeOk_bad hlt (gateOk_kid hlt2 (by first | exact kidOk_b ‹_› | exact kidOk_x ⟨‹_›, ‹_›⟩))).symm, rfl⟩)
            all_goals
              have hkk : kidOk p gs.length k gs[k].kids[m] = true := kidOk_y ‹_› (by omega)
              have Hkk := Lib.hid hkk
              clear hkk
              go_roundw
              case rel =>
                refine ⟨m + 1, by omega, by go_num, fun j hj hjm => ?_, trivial⟩
                by_cases hjm2 : j = m
                · subst hjm2; exact Hkk.out
                · exact Hm.out j hj (by omega)
              case measure => simp [intOf]; omega
          · go_wp2_with fail
            go_roundw
            case rel =>
              refine ⟨k + 1, by omega, by go_num, fun j hj hjk => ?_, trivial⟩
              by_cases hjk2 : j = k
              · subst hjk2; exact gateOk_all Hg.out fun q hq => Hm.out q hq (by omega)
              · exact Hn.out j hj (by omega)
            case measure => simp [intOf]; omega
    · go_wp2_with fail
      go_ret
      exact ⟨ret_bool (treeOk_all Hp.out (by omega) (by omega) (fun j hj => Hn.out j hj (by omega))).symm, rfl⟩

end Go.Proofs.Ytepgkhcfeaklmaa
