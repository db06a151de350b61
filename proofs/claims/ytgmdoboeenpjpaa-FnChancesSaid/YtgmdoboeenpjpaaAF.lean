
/- Contracts of the laws' helpers for lists of 32-bit numbers. Conditions: lists that can be read, of at most 2^20 numbers where they are copied. -/
import Derived.Test.YtgmdoboeenpjpaaProg
import Derived.Test.YtgmdoboeenpjpaaA
import Derived.Test.YtgmdoboeenpjpaaRead
import Derived.Test.YtgmdoboeenpjpaaFl
namespace Go.Proofs.Ytgmdoboeenpjpaa
open Go Go.RowKit

theorem run_store_float (P : Program) (w : World) (a : Addr) (m : Mode) (k : FloatKind) (b : Nat) : (store a (.float k b) m).run P w = stored P w a (.float k b) m := run_store P w a _ m rfl
attribute [local go_sem] run_store_float


theorem infoF32 : (Try.prog.info? 31).map (fun i => (i.zero, i.size, i.bytes)) = some (some (.float .f32 0), 1, 4) := by kernel_rfl

/-- Two lists that have the same numbers. -/
def SameC (bs cs : List Nat) : Prop := bs.map (cn .f32) = cs.map (cn .f32)

theorem SameC.at {bs cs : List Nat} (h : SameC bs cs) {k : Nat} (h1 : k < bs.length) (h2 : k < cs.length) : cn .f32 bs[k] = cn .f32 cs[k] := by
  unfold SameC at h
  have e1 : (bs.map (cn .f32))[k]? = some (cn .f32 bs[k]) := by simp [h1]
  have e2 : (cs.map (cn .f32))[k]? = some (cn .f32 cs[k]) := by simp [h2]
  rw [h, e2] at e1
  exact (Option.some.inj e1).symm

theorem RdF.at {w : World} {a : Option Addr} {cap n : Nat} {bs : List Nat} (h : RdF w (.slice a n cap) bs) {k : Nat} (hk : k < bs.length) :
    ∃ b off, a = some ⟨b, off, none⟩ ∧ b < w.heap.size ∧ w.cell? ⟨b, off + k, none⟩ = some (.float .f32 bs[k]) := by
  have hn : n = bs.length := by obtain ⟨⟨_, _, _, h2, _⟩, _⟩ := h; cases h2; rfl
  subst hn
  obtain ⟨b, off, h1, h2, h3⟩ := Rd.pos h.1 (by omega : 0 < bs.length * 1)
  refine ⟨b, off, h1, h2, ?_⟩
  rw [h3 k (by omega)]
  simp [hk]

end Go.Proofs.Ytgmdoboeenpjpaa
