
/- A system if it is valid, both sides; SystemOf. Condition: lists of ints that can be read, of at most 2^20. -/
import Derived.Test.YtgmdoboeenpjpaaYj
namespace Go.Proofs.Ytgmdoboeenpjpaa
open Go Go.RowKit Go.ChangeShapes Go.WideShapes Go.ChangeAt

attribute [local irreducible] LX

theorem sys_good' {p : Int} {zs : List Int} (h : sysB p zs = true) : goodI p zs = true := by unfold sysB at h; rw [Bool.and_eq_true] at h; exact h.1
theorem sysO_len (p : Int) (zs : List Int) : ((if sysB p zs then some (p, zs) else none : Option (Int × List Int)).getD (0, [])).2.length ≤ 1048576 := by
  split
  · rename_i h
    have := (good_get (sys_good' h)).2.1
    simp only [Option.getD_some]; omega
  · simp
/-- A system, if it is valid. -/
def sysO (p : Int) (zs : List Int) : Option (Int × List Int) := if sysB p zs then some (p, zs) else none

/-- A block of the call's own that holds these cells. -/
def Bz (w : World) (b : Nat) (t : TypeId) (cs : List Value) : Prop := w.heap[b]? = some (.cells cs.toArray t (0, 0))
theorem Bz.new (w : World) (cs : List Value) (t : TypeId) : Bz (w.alloc (.cells cs.toArray t)) w.heap.size t cs := heap_alloc_new w _
theorem Bz.lt {w : World} {b : Nat} {t : TypeId} {cs : List Value} (h : Bz w b t cs) : b < w.heap.size := by
  unfold Bz at h
  rcases Nat.lt_or_ge b w.heap.size with h' | h'
  · exact h'
  · rw [Array.getElem?_eq_none h'] at h; cases h
theorem Bz.ext {w w' : World} {b : Nat} {t : TypeId} {cs : List Value} (h : Bz w b t cs) (hx : Ext w w') : Bz w' b t cs := (hx.block b h.lt).trans h
theorem Bz.frozen {w : World} {b j : Nat} {t : TypeId} {cs : List Value} (h : Bz w b t cs) : w.frozen? ⟨b, j, none⟩ = false := by unfold Bz at h; simp [World.frozen?, h]
theorem Bz.bx {w : World} {b : Nat} {t : TypeId} {cs : List Value} (h : Bz w b t cs) : Bx w b cs := ⟨h.lt, fun j hj => by rw [cell_of_row _ b j cs.toArray t (0, 0) h]; simp⟩

/-- What 'l03Give' hands back of a list that lies there. -/
def GivePost (o : Option (Int × List Int)) (g cap : Nat) (w : World) (e : Ending) (w' : World) : Prop := Ext w w' ∧ match o with
      | some q => e = .returned (.tuple #[.agg #[.int .i64 q.1, .slice (some ⟨g, 0, none⟩) q.2.length cap], .bool true])
      | none => e = .returned (.tuple #[.agg #[.int .i64 0, .slice none 0 0], .bool false])
theorem GivePost.ys {p : Int} {zs : List Int} {g cap : Nat} {w w1 w2 : World} {e : Ending} (h : GivePost (sysO p zs) g cap w1 e w2) (X : Ext w w1)
    (own : w1.ownsRow w.heap.size 2 1 (.slice (some ⟨g, 0, none⟩) zs.length cap) zs.length (zs.map (Value.int .i64))) : YsPost (sysO p zs) w e w2 := by
  obtain ⟨hx, h⟩ := h
  unfold sysO at *
  refine ⟨X.trans hx, ?_⟩
  split at h
  · rename_i q hq
    split at hq
    · cases hq
      rename_i hs
      rw [if_pos hs]
      exact ⟨g, cap, h, own_ext' own hx⟩
    · cases hq
  · rename_i hq
    split at hq
    · cases hq
    · rename_i hs
      rw [if_neg hs]
      exact h

set_option maxHeartbeats 2000000 in
theorem l03Give_any (p : Int) (B g cap : Nat) (zs : List Int) (w : World) (own : w.ownsRow B 2 1 (.slice (some ⟨g, 0, none⟩) zs.length cap) zs.length (zs.map (Value.int .i64))) :
    Calls Try.prog 66 #[.agg #[.int .i64 p, .slice (some ⟨g, 0, none⟩) zs.length cap]] w (GivePost (sysO p zs) g cap w) := by
  have r : RdI w (.slice (some ⟨g, 0, none⟩) zs.length cap) zs := own_rd own
  have bx : Bx ((w.alloc (.cells #[.int .i64 p, .slice (some ⟨g, 0, none⟩) zs.length cap] 27)).alloc (.cells #[.int .i64 0, .slice none 0 0] 27)) w.heap.size [.int .i64 p, .slice (some ⟨g, 0, none⟩) zs.length cap] := (Bx.new w _ _).ext (Ext.alloc _ _)
  have b2 : Bz ((w.alloc (.cells #[.int .i64 p, .slice (some ⟨g, 0, none⟩) zs.length cap] 27)).alloc (.cells #[.int .i64 0, .slice none 0 0] 27)) (w.alloc (.cells #[.int .i64 p, .slice (some ⟨g, 0, none⟩) zs.length cap] 27)).heap.size 27 [.int .i64 0, .slice none 0 0] := Bz.new _ _ _
  have HV := Lib.hid (l03Is_sys p _ zs w.heap.size _ bx (r.ext ((Ext.alloc _ _).trans (Ext.alloc _ _))))
  have hbs : (w.alloc (.cells #[.int .i64 p, .slice (some ⟨g, 0, none⟩) zs.length cap] 27)).heap.size = w.heap.size + 1 := by simp
  rw [hbs] at b2
  have X0 : Ext w ((w.alloc (.cells #[.int .i64 p, .slice (some ⟨g, 0, none⟩) zs.length cap] 27)).alloc (.cells #[.int .i64 0, .slice none 0 0] 27)) := (Ext.alloc _ _).trans (Ext.alloc _ _)
  clear hbs
  cases hv : sysB p zs
  · have HO : Hid (sysO p zs = none) := by show _ = _; unfold sysO; rw [hv]; rfl
    rw [hv] at HV
    clear hv
    go_enter Try.func66, Try.ntmps66
    go_wp2_with fail
    refine HV.out.mono ?_
    rintro e w1 ⟨rfl, hx⟩
    replace b2 := b2.ext hx
    have X := X0.trans hx
    obtain ⟨k0, k1⟩ := b2.bx.two
    have z2 := b2.lt
    have f0 := b2.frozen (j := 0)
    have f1 := b2.frozen (j := 1)
    clear b2 bx
    go_wp2_with fail
    refine bodyPost_ret (v := .tuple #[.agg #[.int .i64 0, .slice none 0 0], .bool false]) (by simp [results, Try.results66, go_sem, k0, k1, f0, f1]) rfl ?_
    unfold GivePost
    rw [HO.out]
    refine ⟨?_, rfl⟩
    exact (X.setCell (by simp) _).setCell (by simp) _
  · have HO : Hid (sysO p zs = some (p, zs)) := by show _ = _; unfold sysO; rw [hv]; rfl
    rw [hv] at HV
    clear hv
    go_enter Try.func66, Try.ntmps66
    go_wp2_with fail
    refine HV.out.mono ?_
    rintro e w1 ⟨rfl, hx⟩
    replace b2 := b2.ext hx
    replace bx := bx.ext hx
    have X := X0.trans hx
    obtain ⟨k0, k1⟩ := b2.bx.two
    obtain ⟨k2, k3⟩ := bx.two
    have z2 := b2.lt
    have f0 := b2.frozen (j := 0)
    have f1 := b2.frozen (j := 1)
    clear b2 bx
    go_wp2_with fail
    refine bodyPost_ret (v := .tuple #[.agg #[.int .i64 p, .slice (some ⟨g, 0, none⟩) zs.length cap], .bool true]) (by simp [results, Try.results66, go_sem, k0, k1, f0, f1]) rfl ?_
    unfold GivePost
    rw [HO.out]
    refine ⟨?_, rfl⟩
    exact (X.setCell (by simp) _).setCell (by simp) _

set_option maxHeartbeats 4000000 in
theorem ifSystem_any (p : Int) (v : Value) (ns : List Nat) (w : World) (r : RdI w v (ups ns)) (h0 : 0 < ns.length) (hn : ns.length ≤ 1048576) (hb : ∀ z ∈ ns, z < 1048577) :
    Calls Try.prog 64 #[.int .i64 p, v] w (YsPost (sysO p (ups (leastN ns))) w) := by
  have r' := r
  obtain ⟨-, a1, c1, rfl, -, -, -, -⟩ := r
  have b2 : Bz (w.alloc (.cells #[.int .i64 0, .slice none 0 0] 27)) w.heap.size 27 [.int .i64 0, .slice none 0 0] := Bz.new _ _ _
  have HLE := Lib.hid (least_any _ ns _ (r'.ext (Ext.alloc w (.cells #[.int .i64 0, .slice none 0 0] 27))) h0 hn hb)
  clear hb h0
  generalize hL : leastN ns = ls at *
  clear hL
  have HV := Lib.hid (fun W v (r : RdI W v (ups ls)) => implValidSystem_any p v (ups ls) W r)
  cases hv : sysB p (ups ls)
  · have HO : Hid (sysO p (ups ls) = none) := by show _ = _; unfold sysO; rw [hv]; rfl
    rw [hv] at HV
    clear hv
    go_enter Try.func64, Try.ntmps64
    go_wp2_with fail
    refine HLE.out.mono ?_
    rintro e w1 ⟨g, cap, rfl, hx, own⟩
    replace b2 := b2.ext hx
    have X := (Ext.alloc _ _).trans hx
    clear hx
    go_wp2_with fail
    refine (HV.out _ _ (own.rd.ext (Ext.alloc _ _))).mono ?_
    rintro e w2 ⟨rfl, hx⟩
    replace hx := (Ext.alloc _ _).trans hx
    replace b2 := b2.ext hx
    replace X := X.trans hx
    obtain ⟨k0, k1⟩ := b2.bx.two
    have z2 := b2.lt
    have f0 := b2.frozen (j := 0)
    have f1 := b2.frozen (j := 1)
    clear b2
    go_wp2_with fail
    refine bodyPost_ret (v := .tuple #[.agg #[.int .i64 0, .slice none 0 0], .bool false]) (by simp [results, Try.results64, go_sem, k0, k1, f0, f1]) rfl ?_
    unfold YsPost
    rw [HO.out]
    exact ⟨(X.setCell (by simp) _).setCell (by simp) _, rfl⟩
  · have HO : Hid (sysO p (ups ls) = some (p, ups ls)) := by show _ = _; unfold sysO; rw [hv]; rfl
    rw [hv] at HV
    clear hv
    go_enter Try.func64, Try.ntmps64
    go_wp2_with fail
    refine HLE.out.mono ?_
    rintro e w1 ⟨g, cap, rfl, hx, own⟩
    replace b2 := b2.ext hx
    have X := (Ext.alloc _ _).trans hx
    clear hx
    go_wp2_with fail
    have bx : Bx (w1.alloc (.cells #[.int .i64 p, .slice (some ⟨g, 0, none⟩) ls.length cap] 27)) w1.heap.size [.int .i64 p, .slice (some ⟨g, 0, none⟩) ls.length cap] := Bx.new _ _ _
    refine (HV.out _ _ (own.rd.ext (Ext.alloc _ _))).mono ?_
    rintro e w2 ⟨rfl, hx⟩
    replace bx := bx.ext hx
    replace hx := (Ext.alloc _ _).trans hx
    replace b2 := b2.ext hx
    replace own := own.ext hx
    replace X := X.trans hx
    obtain ⟨k0, k1⟩ := b2.bx.two
    obtain ⟨k2, k3⟩ := bx.two
    have z2 := b2.lt
    have f0 := b2.frozen (j := 0)
    have f1 := b2.frozen (j := 1)
    have hgl := own.lt g rfl
    have hgw : w.heap.size < g := by have := hgl.1; simp at this; omega
    clear b2 bx
    go_wp2_with fail
    refine bodyPost_ret (v := .tuple #[.agg #[.int .i64 p, .slice (some ⟨g, 0, none⟩) ls.length cap], .bool true]) (by simp [results, Try.results64, go_sem, k0, k1, f0, f1]) rfl ?_
    unfold YsPost
    rw [HO.out]
    refine ⟨(X.setCell (by simp) _).setCell (by simp) _, g, cap, by rw [ups_len], ?_⟩
    show World.ownsRow _ _ _ _ _ (ups ls).length _
    rw [ups_len]
    exact World.ownsRow.mono (ownsRow_setCell_other (ownsRow_setCell_other own (by simp [Value.ownBlock]; omega) _) (by simp [Value.ownBlock]; omega) _) (by simp)
end Go.Proofs.Ytgmdoboeenpjpaa
