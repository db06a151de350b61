
/- FnExactSameSystem returns true for every input and changes nothing that was there. No condition. -/
import Derived.Test.YtepgkhcfeaklmaaRows
import Derived.Test.YtepgkhcfeaklmaaRead
import Derived.Test.YtepgkhcfeaklmaaA
import Derived.Test.YtepgkhcfeaklmaaRg
import Derived.Outline
namespace Go.Proofs.Ytepgkhcfeaklmaa
open Go Go.RowKit Go.ChangeShapes Go.WideShapes Go.ChangeAt

set_option maxHeartbeats 1000000 in
theorem szSystem_any (p : Int) (a : Option Addr) (n c : Nat) (l : Int) (w : World) (hn : n ≤ maxLen) (h0 : 0 ≤ l) (h1 : l ≤ 1048576) :
    Calls Try.prog 36 #[.agg #[.int .i64 p, .slice a n c], .int .i64 l] w fun e w' => e = .returned (.int .i64 (if l - n < 0 then -1 else l - n)) ∧ Ext w w' := by
  go_enter Try.func36, Try.ntmps36
  go_wp2_with fail
  refine (szInt64S_any _ _ _ _ _ hn h0 h1).mono ?_
  rintro e w1 ⟨rfl, rfl⟩
  by_cases h : l - n < 0
  · rw [if_pos h]
    go_wp2
    go_ret
    exact ⟨rfl, below_alloc _ _⟩
  · rw [if_neg h]
    go_wp2
    go_ret
    exact ⟨rfl, below_alloc _ _⟩

def SysV (p : Int) (zs : List Int) (v : Value) : Prop := ∃ g, v = .agg #[.int .i64 p, .slice (some ⟨g, 0, none⟩) zs.length zs.length]
def SysW (p : Int) (zs : List Int) (v : Value) (w : World) : Prop := ∃ g, v = .agg #[.int .i64 p, .slice (some ⟨g, 0, none⟩) zs.length zs.length] ∧ RdI w (.slice (some ⟨g, 0, none⟩) zs.length zs.length) zs
theorem SysW.st (p : Int) (zs : List Int) (v : Value) : St (SysW p zs v) := fun _ _ ⟨g, h1, h2⟩ hx => ⟨g, h1, h2.ext hx⟩

theorem SysW.rd {p : Int} {zs : List Int} {a : Option Addr} {n : Nat} {w : World} (h : SysW p zs (.agg #[.int .i64 p, .slice a n n]) w) : RdI w (.slice a n n) zs := by
  obtain ⟨g, e, hr⟩ := h
  simp at e
  obtain ⟨rfl, rfl, _⟩ := e
  exact hr


end Go.Proofs.Ytepgkhcfeaklmaa
