
/- The program's sets: has, hasOne; slices.DeleteFunc at a list of the call's own; the least sets of a list. Condition: sets that are natural numbers below 2^20. -/
import Derived.Test.YtepgkhcfeaklmaaTW
import Derived.Test.YtepgkhcfeaklmaaE
import Derived.Test.YtepgkhcfeaklmaaMi
import Derived.Test.YtepgkhcfeaklmaaBw
import Derived.Lib.OwnBridge
import Derived.Lib.SliceRun
import Derived.Sort.OwnSortedInts
import Derived.Shelf.SortM.Plain
import Derived.Shelf.SlicesG.Clone
import Derived.Shelf.SlicesG.CompactI
import Derived.Shelf.SlicesG.Equal
import Derived.Ground.SlgmProg
import Derived.Ground.SlgnProg
namespace Go.Proofs.Ytepgkhcfeaklmaa
open Go Go.RowKit Go.ChangeShapes Go.WideShapes Go.ChangeAt

section
open Go.Shelf
def laysCloneI_ren : Go.Shelf.Ren := ⟨fun | 41 => 105 | n => n, fun | 22 => 22 | 23 => 2 | 4 => 4 | n => n, fun | n => n⟩
theorem laysCloneI : Go.Proofs.SlLaysN.n41 Try.prog laysCloneI_ren := {
  mixed := by kernel_rfl
  f41 := ⟨Try.f105.name, by decide, Try.func105.trans (congrArg some (by kernel_rfl))⟩
  t4 := Try.underlying4
  a4 := Try.isAgg4
  z4 := Try.sizeOf4
  v4 := Try.zeroValue4
  t22 := Try.underlying22
  a22 := Try.isAgg22
  z22 := Try.sizeOf22
  v22 := Try.zeroValue22
  t23 := Try.underlying2
  a23 := Try.isAgg2
  z23 := Try.sizeOf2
  v23 := Try.zeroValue2
  i23 := by kernel_rfl }
def laysCompactI_ren : Go.Shelf.Ren := ⟨fun | 43 => 107 | n => n, fun | 22 => 22 | 23 => 2 | 3 => 3 | 4 => 4 | 0 => 0 | n => n, fun | n => n⟩
theorem laysCompactI : Go.Proofs.SlLaysN.n43 Try.prog laysCompactI_ren := {
  mixed := by kernel_rfl
  f43 := ⟨Try.f107.name, by decide, Try.func107.trans (congrArg some (by kernel_rfl))⟩
  t0 := Try.underlying0
  a0 := Try.isAgg0
  z0 := Try.sizeOf0
  v0 := Try.zeroValue0
  t3 := Try.underlying3
  a3 := Try.isAgg3
  z3 := Try.sizeOf3
  v3 := Try.zeroValue3
  t4 := Try.underlying4
  a4 := Try.isAgg4
  z4 := Try.sizeOf4
  v4 := Try.zeroValue4
  t22 := Try.underlying22
  a22 := Try.isAgg22
  z22 := Try.sizeOf22
  v22 := Try.zeroValue22
  t23 := Try.underlying2
  a23 := Try.isAgg2
  z23 := Try.sizeOf2
  v23 := Try.zeroValue2
  i23 := by kernel_rfl }
def laysEqualI_ren : Go.Shelf.Ren := ⟨fun | 33 => 71 | n => n, fun | 22 => 22 | 23 => 2 | 4 => 4 | 3 => 3 | 0 => 0 | n => n, fun | n => n⟩
theorem laysEqualI : Go.Proofs.SlLaysN.n33 Try.prog laysEqualI_ren := {
  mixed := by kernel_rfl
  f33 := ⟨Try.f71.name, by decide, Try.func71.trans (congrArg some (by kernel_rfl))⟩
  t0 := Try.underlying0
  a0 := Try.isAgg0
  z0 := Try.sizeOf0
  v0 := Try.zeroValue0
  t3 := Try.underlying3
  a3 := Try.isAgg3
  z3 := Try.sizeOf3
  v3 := Try.zeroValue3
  t4 := Try.underlying4
  a4 := Try.isAgg4
  z4 := Try.sizeOf4
  v4 := Try.zeroValue4
  t22 := Try.underlying22
  a22 := Try.isAgg22
  z22 := Try.sizeOf22
  v22 := Try.zeroValue22
  t23 := Try.underlying2
  a23 := Try.isAgg2
  z23 := Try.sizeOf2
  v23 := Try.zeroValue2 }
def laysSortI_ren : Go.Shelf.Ren := ⟨fun | 5 => 106 | 8 => 125 | 7 => 124 | 19 => 138 | 20 => 139 | 10 => 129 | 11 => 130 | 12 => 131 | 13 => 132 | 14 => 133 | 15 => 134 | 16 => 135 | 17 => 136 | 18 => 137 | 30 => 140 | 31 => 141 | 32 => 142 | 33 => 143 | 34 => 144 | 35 => 145 | 40 => 146 | n => n, fun | 23 => 22 | 25 => 2 | 3 => 3 | 32 => 42 | 22 => 22 | 0 => 0 | 44 => 140 | 46 => 113 | 4 => 4 | 36 => 133 | 35 => 132 | 41 => 137 | 5 => 5 | 9 => 9 | 53 => 141 | 57 => 145 | 63 => 147 | 64 => 148 | n => n, fun | n => n⟩
theorem laysSortI : Go.Proofs.SlLaysM.n5 Try.prog laysSortI_ren := {
  mixed := by kernel_rfl
  f5 := ⟨Try.f106.name, by decide, Try.func106.trans (congrArg some (by kernel_rfl))⟩
  f7 := ⟨Try.f124.name, by decide, Try.func124.trans (congrArg some (by kernel_rfl))⟩
  f8 := Try.func125.trans (congrArg some (by kernel_rfl))
  f10 := ⟨Try.f129.name, by decide, Try.func129.trans (congrArg some (by kernel_rfl))⟩
  f11 := ⟨Try.f130.name, by decide, Try.func130.trans (congrArg some (by kernel_rfl))⟩
  f12 := ⟨Try.f131.name, by decide, Try.func131.trans (congrArg some (by kernel_rfl))⟩
  f13 := ⟨Try.f132.name, by decide, Try.func132.trans (congrArg some (by kernel_rfl))⟩
  f14 := ⟨Try.f133.name, by decide, Try.func133.trans (congrArg some (by kernel_rfl))⟩
  f15 := ⟨Try.f134.name, by decide, Try.func134.trans (congrArg some (by kernel_rfl))⟩
  f16 := ⟨Try.f135.name, by decide, Try.func135.trans (congrArg some (by kernel_rfl))⟩
  f17 := ⟨Try.f136.name, by decide, Try.func136.trans (congrArg some (by kernel_rfl))⟩
  f18 := ⟨Try.f137.name, by decide, Try.func137.trans (congrArg some (by kernel_rfl))⟩
  f19 := Try.func138.trans (congrArg some (by kernel_rfl))
  f20 := Try.func139.trans (congrArg some (by kernel_rfl))
  f30 := ⟨Try.f140.name, by decide, Try.func140.trans (congrArg some (by kernel_rfl))⟩
  f31 := Try.func141.trans (congrArg some (by kernel_rfl))
  f32 := Try.func142.trans (congrArg some (by kernel_rfl))
  f33 := ⟨Try.f143.name, by decide, Try.func143.trans (congrArg some (by kernel_rfl))⟩
  f34 := ⟨Try.f144.name, by decide, Try.func144.trans (congrArg some (by kernel_rfl))⟩
  f35 := ⟨Try.f145.name, by decide, Try.func145.trans (congrArg some (by kernel_rfl))⟩
  f40 := ⟨Try.f146.name, by decide, Try.func146.trans (congrArg some (by kernel_rfl))⟩
  t0 := Try.underlying0
  a0 := Try.isAgg0
  z0 := Try.sizeOf0
  v0 := Try.zeroValue0
  t3 := Try.underlying3
  a3 := Try.isAgg3
  z3 := Try.sizeOf3
  v3 := Try.zeroValue3
  t4 := Try.underlying4
  a4 := Try.isAgg4
  z4 := Try.sizeOf4
  v4 := Try.zeroValue4
  t5 := Try.underlying5
  a5 := Try.isAgg5
  z5 := Try.sizeOf5
  v5 := Try.zeroValue5
  t9 := Try.underlying9
  a9 := Try.isAgg9
  z9 := Try.sizeOf9
  v9 := Try.zeroValue9
  t22 := Try.underlying22
  a22 := Try.isAgg22
  z22 := Try.sizeOf22
  v22 := Try.zeroValue22
  t23 := Try.underlying22
  a23 := Try.isAgg22
  z23 := Try.sizeOf22
  v23 := Try.zeroValue22
  t25 := Try.underlying2
  a25 := Try.isAgg2
  z25 := Try.sizeOf2
  v25 := Try.zeroValue2
  t32 := Try.underlying42
  a32 := Try.isAgg42
  z32 := Try.sizeOf42
  v32 := Try.zeroValue42
  t35 := Try.underlying132
  a35 := Try.isAgg132
  z35 := Try.sizeOf132
  v35 := Try.zeroValue132
  t36 := Try.underlying133
  a36 := Try.isAgg133
  z36 := Try.sizeOf133
  v36 := Try.zeroValue133
  t41 := Try.underlying137
  a41 := Try.isAgg137
  z41 := Try.sizeOf137
  v41 := Try.zeroValue137
  t44 := Try.underlying140
  a44 := Try.isAgg140
  z44 := Try.sizeOf140
  v44 := Try.zeroValue140
  t46 := Try.underlying113
  a46 := Try.isAgg113
  z46 := Try.sizeOf113
  v46 := Try.zeroValue113
  t53 := Try.underlying141
  a53 := Try.isAgg141
  z53 := Try.sizeOf141
  v53 := Try.zeroValue141
  t57 := Try.underlying145
  a57 := Try.isAgg145
  z57 := Try.sizeOf145
  v57 := Try.zeroValue145
  t63 := Try.underlying147
  a63 := Try.isAgg147
  z63 := Try.sizeOf147
  v63 := Try.zeroValue147
  t64 := Try.underlying148
  a64 := Try.isAgg148
  z64 := Try.sizeOf148
  v64 := Try.zeroValue148 }
end

theorem has_any (s p : Int) (w : World) : Calls Try.prog 99 #[.int .i64 s, .int .i64 p] w fun e w' => e = .returned (.bool (hasI s p)) ∧ w = w' := by
  go_enter Try.func99, Try.ntmps99
  go_wp2_with fail
  go_ret
  exact ⟨rfl, rfl⟩

theorem hasOne1_any (b : Nat) (s z : Int) (w : World) (hc : w.cell? ⟨b, 0, none⟩ = some (.int .i64 s)) :
    Calls Try.prog 122 #[.int .i64 z, .pointer (some ⟨b, 0, none⟩)] w fun e w' => e = .returned (.bool (hasI s z)) ∧ Ext w w' := by
  go_enter Try.func122, Try.ntmps122
  go_wp2_with fail
  refine (has_any _ _ _).mono ?_
  rintro e w1 ⟨rfl, rfl⟩
  go_wp2_with fail
  go_ret
  exact ⟨rfl, Ext.refl _⟩

theorem hasOne_any (s : Int) (v : Value) (zs : List Int) (w : World) (r : RdI w v zs) :
    Calls Try.prog 103 #[.int .i64 s, v] w fun e w' => e = .returned (.bool (zs.any fun q => hasI s q)) ∧ Ext w w' := by
  have r' := r
  obtain ⟨-, a1, c1, rfl, -, -, -, -⟩ := r
  go_enter Try.func103, Try.ntmps103
  go_wp2_with fail
  have bx : Bx (w.alloc (.cells #[.int .i64 s] 2)) w.heap.size [.int .i64 s] := Bx.new _ _ _
  refine (containsFuncI_any 122 #[.pointer (some ⟨w.heap.size, 0, none⟩)] (fun z => hasI s z) _ zs _ (r'.ext (Ext.alloc _ _)) (enterOk Try.func122 (by kernel_rfl) rfl)
    (fun w' hx z => hasOne1_any w.heap.size s z w' (bx.ext hx).one)).mono ?_
  rintro e w1 ⟨rfl, X⟩
  go_wp2_with fail
  go_ret
  exact ⟨rfl, (Ext.alloc _ _).trans X⟩

/-! ### A list of the call's own, cut -/
theorem own_cut {w : World} {B g n cap k : Nat} {e : TypeId} {xs : List Value} (h : w.ownsRow B e 1 (.slice (some ⟨g, 0, none⟩) n cap) n xs) (hk : k ≤ n) :
    w.ownsRow B e 1 (.slice (some ⟨g, 0, none⟩) k cap) k (xs.take k) := by
  obtain ⟨hl, h⟩ := h
  rcases h with ⟨h', _⟩ | ⟨g', cap', cur, h', hb, hg, hnc, hcm, hcs, ht⟩
  · cases h'
  · cases h'
    refine ⟨by rw [List.length_take]; omega, .inr ⟨g, cap, cur, rfl, hb, hg, by omega, hcm, hcs, ?_⟩⟩
    rw [← ht, List.take_take, Nat.min_eq_left (by omega), Nat.mul_one]
theorem own_setCells {B g n cap : Nat} {e : TypeId} {xs : List Value} : ∀ (vs : List Value) (o : Nat) (w : World), n ≤ o → w.ownsRow B e 1 (.slice (some ⟨g, 0, none⟩) n cap) n xs →
    (w.setCells g o vs).ownsRow B e 1 (.slice (some ⟨g, 0, none⟩) n cap) n xs ∧ w.grownBy (w.setCells g o vs) (some g)
  | [], _, w, _, h => ⟨h, grownBy_refl _ _⟩
  | v :: r, o, w, ho, h => by
    have h1 := (World.ownsRow.stored h o v).1
    rw [List.set_eq_of_length_le (by have := h.1; omega)] at h1
    obtain ⟨h2, h3⟩ := own_setCells r (o + 1) _ (by omega) h1
    exact ⟨h2, (grownBy_setCell _ _ _ _).trans h3⟩

theorem filter_take_succ {p : Int → Bool} {bs : List Int} {j : Nat} (h : j < bs.length) : (bs.take (j + 1)).filter p = (bs.take j).filter p ++ (if p bs[j] then [bs[j]] else []) := by
  rw [List.take_succ_eq_append_getElem h, List.filter_append]
  congr 1
  cases hp : p bs[j] <;> simp [hp]

set_option maxHeartbeats 2000000 in
theorem deleteFuncI_own (fn : FuncId) (lb : Array Value) (p : Int → Bool) (g n cap : Nat) (bs : List Int) (w0 w : World) (own : w.ownsRow w0.heap.size 2 1 (.slice (some ⟨g, 0, none⟩) n cap) n (bs.map (Value.int .i64)))
    (hn : n ≤ 1048576) (X0 : Ext w0 w) (hen : EnterOk Try.prog fn) (hp : PredI Try.prog fn lb p w0) :
    Calls Try.prog 108 #[.slice (some ⟨g, 0, none⟩) n cap, .func (.func fn) #[] lb] w fun e w' => e = .returned (.slice (some ⟨g, 0, none⟩) (bs.filter fun x => !p x).length cap) ∧ Ext w0 w' ∧
      w'.ownsRow w0.heap.size 2 1 (.slice (some ⟨g, 0, none⟩) (bs.filter fun x => !p x).length cap) (bs.filter fun x => !p x).length ((bs.filter fun x => !p x).map (Value.int .i64)) := by
  have hl : bs.length = n := by simpa using own.1
  have hgB := own.lt g rfl
  have hcap : n ≤ cap ∧ cap ≤ maxLen := by
    rcases own.2 with ⟨h', _⟩ | ⟨g', cap', cur, h', hb, hg, hnc, hcm, hcs, ht⟩
    · cases h'
    · cases h'; exact ⟨hnc, hcm⟩
  have hcap1 := hcap.1
  have hcap2 : cap ≤ 9223372036854775807 := by have := hcap.2; unfold maxLen at this; omega
  have hent : ∀ args w, (callFunc fn args).run Try.prog w = .ok (.enter fn args) w := hen
  have HI := Lib.hid (indexFuncI_any fn lb p (.slice (some ⟨g, 0, none⟩) n cap) bs w (by rw [← hl]; rw [← hl] at own; exact own_rd own) hen (fun w' x z => hp w' (X0.trans x) z))
  have HP := Lib.hid hp
  clear hp hen hcap
  subst hl
  rcases Classical.em (∃ j, ∃ h : j < bs.length, p bs[j] = true) with hex | hno
  · have hidx : ∃ j, ∃ h : j < bs.length, p bs[j] = true ∧ (∀ k, (hk : k < j) → p (bs[k]'(by omega)) = false) ∧ idxOf p bs = j := by
      obtain ⟨j, hj⟩ := hex
      induction j using Nat.strongRecOn with
      | _ j ih =>
        obtain ⟨h, hpj⟩ := hj
        by_cases hall : ∃ k, ∃ hk : k < j, p (bs[k]'(by omega)) = true
        · obtain ⟨k, hk, hpk⟩ := hall
          exact ih k hk ⟨by omega, hpk⟩
        · have hk2 : ∀ k, (hk : k < j) → p (bs[k]'(by omega)) = false := fun k hk => by
            cases h3 : p (bs[k]'(by omega))
            · rfl
            · exact absurd ⟨k, hk, h3⟩ hall
          exact ⟨j, h, hpj, hk2, idxOf_hit h hpj hk2⟩
    obtain ⟨i0, hi0, hpi, hbefore, hidx⟩ := hidx
    rw [hidx] at HI
    have H0 : Hid ((bs.take (i0 + 1)).filter (fun x => !p x) = bs.take i0) := by
      show _ = _
      rw [filter_take_succ hi0]
      simp only [hpi, Bool.not_true, Bool.false_eq_true, if_false, List.append_nil]
      rw [List.filter_eq_self]
      intro x hx
      obtain ⟨k, hk, rfl⟩ := List.getElem_of_mem hx
      rw [List.length_take] at hk
      rw [List.getElem_take, hbefore k (by omega)]; rfl
    clear hex hpi hbefore hidx
    go_enter Try.func108, Try.ntmps108
    go_wp2_with fail
    refine HI.out.mono ?_
    rintro e w1 ⟨rfl, hx⟩
    replace own := own_ext' own hx
    replace X0 := X0.trans hx
    clear hx HI
    have hne : (i0 : Int) ≠ -1 := by omega
    have hnb : ((i0 : Int) == -1) = false := by simp
    go_wp2_with fail
    try rw [hnb]
    clear hne hnb
    go_loopw [5, 6] (fun s5 s6 wr => ∃ (i j : Nat) (ys : List Int), s5 = .int .i64 i ∧ s6 = .int .i64 j ∧ i < j ∧ j ≤ bs.length ∧ ys.length = bs.length ∧ Hid (ys.take i = (bs.take j).filter fun x => !p x) ∧ Hid (ys.drop j = bs.drop j) ∧
      wr.ownsRow w0.heap.size 2 1 (.slice (some ⟨g, 0, none⟩) bs.length cap) bs.length (ys.map (Value.int .i64)) ∧ Ext w0 wr) (fun _ j _ => bs.length - (intOf j).toNat)
    case atStart => exact ⟨i0, i0 + 1, bs, rfl, by go_num, by omega, by omega, rfl, H0.out.symm, rfl, own, X0⟩
    case round =>
      obtain ⟨i, j, ys, rfl, rfl, hij, hj, hyl, HT, HD, own1, X⟩ := hrel
      clear own
      by_cases hlt : j < bs.length
      · have hcj := own1.cellAt j (by omega)
        have hfj := own1.frozenAt j
        have hci := own1.cellAt i (by omega)
        have hfi := own1.frozenAt i
        have hst := Lib.hid (fun u W (x : Ext wr W) => (own_ext' own1 x).stored i u)
        have hyj : ys[j]'(by omega) = bs[j] := by
          have := congrArg (fun l => l[0]?) HD.out
          simp only [List.getElem?_drop, Nat.add_zero] at this
          rw [List.getElem?_eq_getElem (by omega), List.getElem?_eq_getElem hlt] at this
          exact Option.some.inj this
        rw [List.getElem?_map, List.getElem?_eq_getElem (by omega)] at hcj hci
        simp only [Option.map_some] at hcj hci
        rw [hyj] at hcj
        have HF := Lib.hid (filter_take_succ (p := fun x => !p x) hlt)
        have hdr : Hid (ys.drop (j + 1) = bs.drop (j + 1)) := by
          show _ = _
          have := congrArg (List.drop 1) HD.out
          simpa [List.drop_drop] using this
        have hs2 : Hid ((ys.set i bs[j]).drop (j + 1) = bs.drop (j + 1)) := by
          show _ = _
          rw [List.drop_set_of_lt (by omega)]; exact hdr.out
        have hs1 : Hid ((ys.set i bs[j]).take (i + 1) = ys.take i ++ [bs[j]]) := by
          show _ = _
          rw [List.take_succ_eq_append_getElem (by simp; omega)]
          simp [List.take_set_of_le]
        have hgl := own1.lt g rfl
        generalize bs[j] = x at *
        generalize ys[i]'(by omega) = y at *
        clear hyj
        go_wp2_with fail
        refine (HP.out _ X x).mono ?_
        rintro e w2 ⟨rfl, hx⟩
        have X2 := X.trans hx
        have own2 := own_ext' own1 hx
        have c2 : w2.cell? ⟨g, i, none⟩ = some (.int .i64 y) := (Below.cell hx (p := ⟨g, i, none⟩) hgl.2).trans hci
        have f2 := own2.frozenAt i
        clear hcj hfj hci hfi
        cases hpx : p x
        · have HP2 := Lib.hid hpx
          have hst2 := Lib.hid (hst.out (.int .i64 x) w2 hx).1
          clear hpx hst
          go_wp2_with fail
          go_roundw
          case rel =>
            refine ⟨i + 1, j + 1, ys.set i x, by go_num, by go_num, by omega, by omega, by simp [hyl], ?_, hs2, by rw [List.map_set]; exact hst2.out, X2.setCell (by exact hgl.1) _⟩
            show _ = _
            rw [hs1.out, HF.out, HT.out, HP2.out]; rfl
          case measure => simp [intOf]; omega
        · have HP2 := Lib.hid hpx
          clear hpx hst
          go_wp2_with fail
          go_roundw
          case rel =>
            refine ⟨i, j + 1, ys, rfl, by go_num, by omega, by omega, hyl, ?_, hdr, own2, X2⟩
            show _ = _
            rw [HF.out, HT.out, HP2.out]; simp
          case measure => simp [intOf]; omega
      · obtain rfl : j = bs.length := by omega
        have HT2 : Hid (ys.take i = bs.filter fun x => !p x) := by show _ = _; rw [HT.out, List.take_length]
        have hiL : Hid (i = (bs.filter fun x => !p x).length) := by show _ = _; rw [← HT2.out, List.length_take]; omega
        have hcut := own_cut own1 (show i ≤ bs.length by omega)
        rw [← List.map_take, HT2.out] at hcut
        have HC := Lib.hid hcut
        have hcl : ∀ ty, (Builtin.clear_ #[22] ty #[.slice (some ⟨g, i, none⟩) (bs.length - i) (cap - i)]).run Try.prog wr = .ok (.tuple #[]) (wr.setCells g i (List.replicate (bs.length - i) (.int .i64 0))) := fun ty =>
          Lib.run_clear_slice wr 22 2 ty (.int .i64 0) Try.underlying22 (fun w => by go_simp) rfl rfl g i _ _ (by omega)
            (fun t ht => by rw [own1.cellAt (i + t) (by omega), List.getElem?_map, List.getElem?_eq_getElem (by omega)]; rfl) (fun t ht => own1.frozenAt (i + t))
        have HSet := Lib.hid (own_setCells (List.replicate (bs.length - i) (.int .i64 0)) i wr (Nat.le_refl i) hcut)
        clear hcut own1
        have hlz : ¬ (bs.length : Int) < (bs.length : Int) := by omega
        have hic : i ≤ cap := by omega
        go_wp2_with fail
        go_ret
        rw [← hiL.out]
        exact ⟨rfl, Below.trans X (grown_ext HSet.out.2 hgB.1 X.size), HSet.out.1⟩
  · have hall : ∀ j, (h : j < bs.length) → p bs[j] = false := fun j h => by
      cases h3 : p bs[j]
      · rfl
      · exact absurd ⟨j, h, h3⟩ hno
    rw [idxOf_none hall] at HI
    have HF : Hid ((bs.filter fun x => !p x) = bs) := by
      show _ = _
      rw [List.filter_eq_self]
      intro x hx
      obtain ⟨k, hk, rfl⟩ := List.getElem_of_mem hx
      rw [hall k hk]; rfl
    clear hno hall
    go_enter Try.func108, Try.ntmps108
    go_wp2_with fail
    refine HI.out.mono ?_
    rintro e w1 ⟨rfl, hx⟩
    replace own := own_ext' own hx
    replace X0 := X0.trans hx
    clear hx HI
    go_wp2_with fail
    go_ret
    rw [HF.out]
    exact ⟨rfl, X0, own⟩

end Go.Proofs.Ytepgkhcfeaklmaa
