
/- FnExactFailsBy returns true for every input and changes nothing that was there. No condition. -/
import Derived.Test.YtepgkhcfeaklmaaFC
import Derived.Test.YtepgkhcfeaklmaaVT
namespace Go.Proofs.Ytepgkhcfeaklmaa
open Go Go.RowKit Go.ChangeShapes Go.WideShapes Go.ChangeAt

/-- Whether it is a set of a tree's parts, and whether the top fails by it. -/
def fbOk (p s : Int) (gs : List Gt) : Bool := treeOk p gs && inB s 0 (2 ^ p.toNat - 1)
def fbRes (p s : Int) (gs : List Gt) : Bool := fbOk p s gs && failB gs s
theorem pow10 {p : Int} (h0 : 1 ≤ p) (h1 : p ≤ 10) : (2 : Int) ^ p.toNat ≤ 1024 ∧ (2 : Int) ≤ 2 ^ p.toNat := by
  obtain ⟨k, rfl⟩ := Int.eq_ofNat_of_zero_le (show 0 ≤ p by omega)
  simp only [Int.toNat_natCast]
  have : k = 1 ∨ k = 2 ∨ k = 3 ∨ k = 4 ∨ k = 5 ∨ k = 6 ∨ k = 7 ∨ k = 8 ∨ k = 9 ∨ k = 10 := by omega
  rcases this with h | h | h | h | h | h | h | h | h | h <;> subst h <;> decide
theorem l03Tree_eq {p : Int} {v : Value} {gs : List Gt} {c : Bool} (h : treeOk p gs = c) (w : World) (r : RdG w v gs) (hn : gs.length ≤ 1048576) : Calls Try.prog 81 #[.int .i64 p, v] w fun e w' => e = .returned (.bool c) ∧ w = w' := by
  subst h; exact l03Tree_any p v gs w r hn
theorem implValidTree_eq {p : Int} {v : Value} {gs : List Gt} {c : Bool} (h : treeOk p gs = c) (w : World) (r : RdG w v gs) (hn : gs.length ≤ 1048576) : Calls Try.prog 84 #[.int .i64 p, v] w fun e w' => e = .returned (.bool c) ∧ Ext w w' := by
  subst h; exact implValidTree_any p v gs w r hn

theorem gateF_dat {s : Int} {fs : List Bool} {g h : Gt} (e : g.dat = h.dat) : gateF s fs g = gateF s fs h := by
  obtain ⟨a, b, c, d⟩ := g
  obtain ⟨a', b', c', d'⟩ := h
  simp only [Gt.dat, Prod.mk.injEq] at e
  obtain ⟨rfl, rfl, rfl⟩ := e
  rfl
theorem failV_dat {gs hs : List Gt} {s : Int} (e : gs.map Gt.dat = hs.map Gt.dat) : ∀ j, failV gs s j = failV hs s j
  | 0 => by have hl : gs.length = hs.length := by simpa using congrArg List.length e
            simp [failV, hl]
  | j + 1 => by
    have hl : gs.length = hs.length := by simpa using congrArg List.length e
    have h := congrArg (fun l => l[hs.length - 1 - j]?) e
    simp only [List.getElem?_map] at h
    simp only [failV, failV_dat e j, hl]
    congr 1
    cases h1 : gs[hs.length - 1 - j]? <;> cases h2 : hs[hs.length - 1 - j]? <;> rw [h1, h2] at h <;> simp at h
    simp only [Option.map_some, Option.getD_some]; exact gateF_dat h
theorem failB_dat {gs hs : List Gt} {s : Int} (e : gs.map Gt.dat = hs.map Gt.dat) : failB gs s = failB hs s := by
  have hl : gs.length = hs.length := by simpa using congrArg List.length e
  unfold failB; rw [failV_dat e, hl]
theorem fbOk_dat {p s : Int} {gs hs : List Gt} (e : gs.map Gt.dat = hs.map Gt.dat) : fbOk p s gs = fbOk p s hs := by unfold fbOk; rw [treeOk_dat e]
theorem fbRes_dat {p s : Int} {gs hs : List Gt} (e : gs.map Gt.dat = hs.map Gt.dat) : fbRes p s gs = fbRes p s hs := by unfold fbRes; rw [fbOk_dat e, failB_dat e]


end Go.Proofs.Ytepgkhcfeaklmaa
