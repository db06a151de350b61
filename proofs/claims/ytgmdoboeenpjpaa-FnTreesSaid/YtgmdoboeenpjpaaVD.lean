
/- FnExactValidTree returns true for every input and changes nothing that was there. No condition. -/
import Derived.Test.YtgmdoboeenpjpaaTW
import Derived.Test.YtgmdoboeenpjpaaSG
import Derived.Test.YtgmdoboeenpjpaaRows
import Derived.Test.YtgmdoboeenpjpaaFF
namespace Go.Proofs.Ytgmdoboeenpjpaa
open Go Go.RowKit Go.ChangeShapes Go.WideShapes Go.ChangeAt

theorem gateOk_dat {p : Int} {n i : Nat} {g h : Gt} (e : g.dat = h.dat) : gateOk p n i g = gateOk p n i h := by
  obtain ⟨a, b, c, d⟩ := g
  obtain ⟨a', b', c', d'⟩ := h
  simp only [Gt.dat, Prod.mk.injEq] at e
  obtain ⟨rfl, rfl, rfl⟩ := e
  rfl
theorem treeOk_dat {p : Int} {gs hs : List Gt} (e : gs.map Gt.dat = hs.map Gt.dat) : treeOk p gs = treeOk p hs := by
  have hl : gs.length = hs.length := by simpa using congrArg List.length e
  unfold treeOk
  rw [hl]
  congr 1
  have : ∀ i, (gs[i]?.map (gateOk p hs.length i)).getD true = (hs[i]?.map (gateOk p hs.length i)).getD true := by
    intro i
    have h := congrArg (fun l => l[i]?) e
    simp only [List.getElem?_map] at h
    cases h1 : gs[i]? <;> cases h2 : hs[i]? <;> rw [h1, h2] at h <;> simp at h
    simp only [Option.map_some, Option.getD_some]; exact gateOk_dat h
  simp only [this]

end Go.Proofs.Ytgmdoboeenpjpaa
/- FnExactFailsBy returns true for every input and changes nothing that was there. No condition. -/
namespace Go.Proofs.Ytgmdoboeenpjpaa
open Go Go.RowKit Go.ChangeShapes Go.WideShapes Go.ChangeAt

/-- Whether it is a set of a tree's parts, and whether the top fails by it. -/
def fbOk (p s : Int) (gs : List Gt) : Bool := treeOk p gs && inB s 0 (2 ^ p.toNat - 1)
def fbRes (p s : Int) (gs : List Gt) : Bool := fbOk p s gs && failB gs s
theorem pow10 {p : Int} (h0 : 1 ≤ p) (h1 : p ≤ 10) : (2 : Int) ^ p.toNat ≤ 1024 ∧ (2 : Int) ≤ 2 ^ p.toNat := by
  obtain ⟨k, rfl⟩ := Int.eq_ofNat_of_zero_le (show 0 ≤ p by omega)
  simp only [Int.toNat_natCast]
  have : k = 1 ∨ k = 2 ∨ k = 3 ∨ k = 4 ∨ k = 5 ∨ k = 6 ∨ k = 7 ∨ k = 8 ∨ k = 9 ∨ k = 10 := by omega
  rcases this with h | h | h | h | h | h | h | h | h | h <;> subst h <;> decide
theorem l03Tree_eq {p : Int} {v : Value} {gs : List Gt} {c : Bool} (h : treeOk p gs = c) (w : World) (r : RdG w v gs) (hn : gs.length ≤ 1048576) : Calls Try.prog 85 #[.int .i64 p, v] w fun e w' => e = .returned (.bool c) ∧ w = w' := by
  subst h; exact l03Tree_any p v gs w r hn
theorem implValidTree_eq {p : Int} {v : Value} {gs : List Gt} {c : Bool} (h : treeOk p gs = c) (w : World) (r : RdG w v gs) (hn : gs.length ≤ 1048576) : Calls Try.prog 33 #[.int .i64 p, v] w fun e w' => e = .returned (.bool c) ∧ Ext w w' := by
  subst h; exact implValidTree_any p v gs w r hn

set_option maxHeartbeats 1000000 in
theorem implFailsBy_any (p s : Int) (v : Value) (gs : List Gt) (w : World) (r : RdG w v gs) (hn : gs.length ≤ 1048576) :
    Calls Try.prog 34 #[.int .i64 p, v, .int .i64 s] w fun e w' => e = .returned (.tuple #[.bool (fbRes p s gs), .bool (fbOk p s gs)]) ∧ Ext w w' := by
  cases ht : treeOk p gs
  · have H1 : Hid (fbRes p s gs = false) := by show _ = _; simp [fbRes, fbOk, ht]
    have H2 : Hid (fbOk p s gs = false) := by show _ = _; simp [fbOk, ht]
    have Ht := Lib.hid ht
    clear ht
    go_enter Try.func34, Try.ntmps34
    go_wp2_with fail
    refine (implValidTree_eq Ht.out _ r hn).mono ?_
    rintro e w1 ⟨rfl, X⟩
    skip
    go_wp2_with fail
    go_ret2
    rw [H1.out, H2.out]
    exact ⟨rfl, X⟩
  · have hp := (treeOk_get ht).1
    have hpw := pow10 hp.1 hp.2
    have HT := Lib.hid ht
    clear ht
    cases hs : inB s 0 (2 ^ p.toNat - 1)
    · have H1 : Hid (fbRes p s gs = false) := by show _ = _; simp [fbRes, fbOk, hs]
      have H2 : Hid (fbOk p s gs = false) := by show _ = _; simp [fbOk, hs]
      have Hs := Lib.hid hs
      clear hs
      go_enter Try.func34, Try.ntmps34
      go_wp2_with fail
      refine (implValidTree_eq HT.out _ r hn).mono ?_
      rintro e w1 ⟨rfl, X⟩
      skip
      go_wp2_with fail
      refine (within_eq Hs.out _).mono ?_
      rintro e w2 ⟨rfl, rfl⟩
      go_wp2_with fail
      go_ret2
      rw [H1.out, H2.out]
      exact ⟨rfl, X⟩
    · have H1 : Hid (fbRes p s gs = failB gs s) := by show _ = _; simp [fbRes, fbOk, hs, HT.out]
      have H2 : Hid (fbOk p s gs = true) := by show _ = _; simp [fbOk, hs, HT.out]
      have hs0 := inB_iff.1 hs
      have Hs := Lib.hid hs
      clear hs
      go_enter Try.func34, Try.ntmps34
      go_wp2_with fail
      refine (implValidTree_eq HT.out _ r hn).mono ?_
      rintro e w1 ⟨rfl, X⟩
      skip
      go_wp2_with fail
      refine (within_eq Hs.out _).mono ?_
      rintro e w2 ⟨rfl, rfl⟩
      go_wp2_with fail
      refine (fails_any p s v gs _ (r.ext X) HT.out (by omega) (by omega)).mono ?_
      rintro e w2 ⟨rfl, hx⟩
      generalize hz : failB gs s = z at *
      go_wp2_with fail
      go_ret2
      rw [H1.out, H2.out]
      exact ⟨rfl, X.trans hx⟩

theorem gateF_dat {s : Int} {fs : List Bool} {g h : Gt} (e : g.dat = h.dat) : gateF s fs g = gateF s fs h := by
  obtain ⟨a, b, c, d⟩ := g
  obtain ⟨a', b', c', d'⟩ := h
  simp only [Gt.dat, Prod.mk.injEq] at e
  obtain ⟨rfl, rfl, rfl⟩ := e
  rfl
theorem failV_dat {gs hs : List Gt} {s : Int} (e : gs.map Gt.dat = hs.map Gt.dat) : ∀ j, failV gs s j = failV hs s j
  | 0 => by have hl : gs.length = hs.length := by simpa using congrArg List.length e
            simp [failV, hl]
  | j + 1 => by
    have hl : gs.length = hs.length := by simpa using congrArg List.length e
    have h := congrArg (fun l => l[hs.length - 1 - j]?) e
    simp only [List.getElem?_map] at h
    simp only [failV, failV_dat e j, hl]
    congr 1
    cases h1 : gs[hs.length - 1 - j]? <;> cases h2 : hs[hs.length - 1 - j]? <;> rw [h1, h2] at h <;> simp at h
    simp only [Option.map_some, Option.getD_some]; exact gateF_dat h
theorem failB_dat {gs hs : List Gt} {s : Int} (e : gs.map Gt.dat = hs.map Gt.dat) : failB gs s = failB hs s := by
  have hl : gs.length = hs.length := by simpa using congrArg List.length e
  unfold failB; rw [failV_dat e, hl]
theorem fbOk_dat {p s : Int} {gs hs : List Gt} (e : gs.map Gt.dat = hs.map Gt.dat) : fbOk p s gs = fbOk p s hs := by unfold fbOk; rw [treeOk_dat e]
theorem fbRes_dat {p s : Int} {gs hs : List Gt} (e : gs.map Gt.dat = hs.map Gt.dat) : fbRes p s gs = fbRes p s hs := by unfold fbRes; rw [fbOk_dat e, failB_dat e]


end Go.Proofs.Ytgmdoboeenpjpaa
