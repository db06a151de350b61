
/- FnExactValidTree returns true for every input and changes nothing that was there. No condition. -/
import Derived.Test.YtepgkhcfeaklmaaTW
import Derived.Test.YtepgkhcfeaklmaaGA
import Derived.Test.YtepgkhcfeaklmaaRows
namespace Go.Proofs.Ytepgkhcfeaklmaa
open Go Go.RowKit Go.ChangeShapes Go.WideShapes Go.ChangeAt

theorem gateOk_dat {p : Int} {n i : Nat} {g h : Gt} (e : g.dat = h.dat) : gateOk p n i g = gateOk p n i h := by
  obtain ⟨a, b, c, d⟩ := g
  obtain ⟨a', b', c', d'⟩ := h
  simp only [Gt.dat, Prod.mk.injEq] at e
  obtain ⟨rfl, rfl, rfl⟩ := e
  rfl
theorem treeOk_dat {p : Int} {gs hs : List Gt} (e : gs.map Gt.dat = hs.map Gt.dat) : treeOk p gs = treeOk p hs := by
  have hl : gs.length = hs.length := by simpa using congrArg List.length e
  unfold treeOk
  rw [hl]
  congr 1
  have : ∀ i, (gs[i]?.map (gateOk p hs.length i)).getD true = (hs[i]?.map (gateOk p hs.length i)).getD true := by
    intro i
    have h := congrArg (fun l => l[i]?) e
    simp only [List.getElem?_map] at h
    cases h1 : gs[i]? <;> cases h2 : hs[i]? <;> rw [h1, h2] at h <;> simp at h
    simp only [Option.map_some, Option.getD_some]; exact gateOk_dat h
  simp only [this]

end Go.Proofs.Ytepgkhcfeaklmaa
