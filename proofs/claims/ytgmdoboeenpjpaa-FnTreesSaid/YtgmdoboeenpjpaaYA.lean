
/- The program's sets: has, hasOne; slices.DeleteFunc at a list of the call's own; the least sets of a list. Condition: sets that are natural numbers below 2^20. -/
import Derived.Test.YtgmdoboeenpjpaaTW
import Derived.Test.YtgmdoboeenpjpaaEM
import Derived.Test.YtgmdoboeenpjpaaBb
import Derived.Lib.OwnBridge
import Derived.Lib.SliceRun
import Derived.Sort.OwnSortedInts
import Derived.Shelf.SortM.Plain
import Derived.Shelf.SlicesG.Clone
import Derived.Shelf.SlicesG.CompactI
import Derived.Shelf.SlicesG.Equal
import Derived.Ground.SlgmProg
import Derived.Ground.SlgnProg
namespace Go.Proofs.Ytgmdoboeenpjpaa
open Go Go.RowKit Go.ChangeShapes Go.WideShapes Go.ChangeAt

section
open Go.Shelf
def laysCloneI_ren : Go.Shelf.Ren := ⟨fun | 41 => 67 | n => n, fun | 22 => 25 | 23 => 2 | 4 => 4 | n => n, fun | n => n⟩
theorem laysCloneI : Go.Proofs.SlLaysN.n41 Try.prog laysCloneI_ren := {
  mixed := by kernel_rfl
  f41 := ⟨Try.f67.name, by decide, Try.func67.trans (congrArg some (by kernel_rfl))⟩
  t4 := Try.underlying4
  a4 := Try.isAgg4
  z4 := Try.sizeOf4
  v4 := Try.zeroValue4
  t22 := Try.underlying25
  a22 := Try.isAgg25
  z22 := Try.sizeOf25
  v22 := Try.zeroValue25
  t23 := Try.underlying2
  a23 := Try.isAgg2
  z23 := Try.sizeOf2
  v23 := Try.zeroValue2
  i23 := by kernel_rfl }
def laysCompactI_ren : Go.Shelf.Ren := ⟨fun | 43 => 107 | n => n, fun | 22 => 25 | 23 => 2 | 3 => 3 | 4 => 4 | 0 => 0 | n => n, fun | n => n⟩
theorem laysCompactI : Go.Proofs.SlLaysN.n43 Try.prog laysCompactI_ren := {
  mixed := by kernel_rfl
  f43 := ⟨Try.f107.name, by decide, Try.func107.trans (congrArg some (by kernel_rfl))⟩
  t0 := Try.underlying0
  a0 := Try.isAgg0
  z0 := Try.sizeOf0
  v0 := Try.zeroValue0
  t3 := Try.underlying3
  a3 := Try.isAgg3
  z3 := Try.sizeOf3
  v3 := Try.zeroValue3
  t4 := Try.underlying4
  a4 := Try.isAgg4
  z4 := Try.sizeOf4
  v4 := Try.zeroValue4
  t22 := Try.underlying25
  a22 := Try.isAgg25
  z22 := Try.sizeOf25
  v22 := Try.zeroValue25
  t23 := Try.underlying2
  a23 := Try.isAgg2
  z23 := Try.sizeOf2
  v23 := Try.zeroValue2
  i23 := by kernel_rfl }
def laysEqualI_ren : Go.Shelf.Ren := ⟨fun | 33 => 97 | n => n, fun | 22 => 25 | 23 => 2 | 4 => 4 | 3 => 3 | 0 => 0 | n => n, fun | n => n⟩
theorem laysEqualI : Go.Proofs.SlLaysN.n33 Try.prog laysEqualI_ren := {
  mixed := by kernel_rfl
  f33 := ⟨Try.f97.name, by decide, Try.func97.trans (congrArg some (by kernel_rfl))⟩
  t0 := Try.underlying0
  a0 := Try.isAgg0
  z0 := Try.sizeOf0
  v0 := Try.zeroValue0
  t3 := Try.underlying3
  a3 := Try.isAgg3
  z3 := Try.sizeOf3
  v3 := Try.zeroValue3
  t4 := Try.underlying4
  a4 := Try.isAgg4
  z4 := Try.sizeOf4
  v4 := Try.zeroValue4
  t22 := Try.underlying25
  a22 := Try.isAgg25
  z22 := Try.sizeOf25
  v22 := Try.zeroValue25
  t23 := Try.underlying2
  a23 := Try.isAgg2
  z23 := Try.sizeOf2
  v23 := Try.zeroValue2 }
def laysSortI_ren : Go.Shelf.Ren := ⟨fun | 5 => 106 | 8 => 118 | 7 => 117 | 19 => 128 | 20 => 129 | 10 => 119 | 11 => 120 | 12 => 121 | 13 => 122 | 14 => 123 | 15 => 124 | 16 => 125 | 17 => 126 | 18 => 127 | 30 => 130 | 31 => 131 | 32 => 132 | 33 => 133 | 34 => 134 | 35 => 135 | 40 => 136 | n => n, fun | 23 => 25 | 25 => 2 | 3 => 3 | 32 => 59 | 22 => 25 | 0 => 0 | 44 => 122 | 46 => 104 | 4 => 4 | 36 => 129 | 35 => 128 | 41 => 133 | 5 => 5 | 9 => 9 | 53 => 136 | 57 => 140 | 63 => 142 | 64 => 143 | n => n, fun | n => n⟩
theorem laysSortI : Go.Proofs.SlLaysM.n5 Try.prog laysSortI_ren := {
  mixed := by kernel_rfl
  f5 := ⟨Try.f106.name, by decide, Try.func106.trans (congrArg some (by kernel_rfl))⟩
  f7 := ⟨Try.f117.name, by decide, Try.func117.trans (congrArg some (by kernel_rfl))⟩
  f8 := Try.func118.trans (congrArg some (by kernel_rfl))
  f10 := ⟨Try.f119.name, by decide, Try.func119.trans (congrArg some (by kernel_rfl))⟩
  f11 := ⟨Try.f120.name, by decide, Try.func120.trans (congrArg some (by kernel_rfl))⟩
  f12 := ⟨Try.f121.name, by decide, Try.func121.trans (congrArg some (by kernel_rfl))⟩
  f13 := ⟨Try.f122.name, by decide, Try.func122.trans (congrArg some (by kernel_rfl))⟩
  f14 := ⟨Try.f123.name, by decide, Try.func123.trans (congrArg some (by kernel_rfl))⟩
  f15 := ⟨Try.f124.name, by decide, Try.func124.trans (congrArg some (by kernel_rfl))⟩
  f16 := ⟨Try.f125.name, by decide, Try.func125.trans (congrArg some (by kernel_rfl))⟩
  f17 := ⟨Try.f126.name, by decide, Try.func126.trans (congrArg some (by kernel_rfl))⟩
  f18 := ⟨Try.f127.name, by decide, Try.func127.trans (congrArg some (by kernel_rfl))⟩
  f19 := Try.func128.trans (congrArg some (by kernel_rfl))
  f20 := Try.func129.trans (congrArg some (by kernel_rfl))
  f30 := ⟨Try.f130.name, by decide, Try.func130.trans (congrArg some (by kernel_rfl))⟩
  f31 := Try.func131.trans (congrArg some (by kernel_rfl))
  f32 := Try.func132.trans (congrArg some (by kernel_rfl))
  f33 := ⟨Try.f133.name, by decide, Try.func133.trans (congrArg some (by kernel_rfl))⟩
  f34 := ⟨Try.f134.name, by decide, Try.func134.trans (congrArg some (by kernel_rfl))⟩
  f35 := ⟨Try.f135.name, by decide, Try.func135.trans (congrArg some (by kernel_rfl))⟩
  f40 := ⟨Try.f136.name, by decide, Try.func136.trans (congrArg some (by kernel_rfl))⟩
  t0 := Try.underlying0
  a0 := Try.isAgg0
  z0 := Try.sizeOf0
  v0 := Try.zeroValue0
  t3 := Try.underlying3
  a3 := Try.isAgg3
  z3 := Try.sizeOf3
  v3 := Try.zeroValue3
  t4 := Try.underlying4
  a4 := Try.isAgg4
  z4 := Try.sizeOf4
  v4 := Try.zeroValue4
  t5 := Try.underlying5
  a5 := Try.isAgg5
  z5 := Try.sizeOf5
  v5 := Try.zeroValue5
  t9 := Try.underlying9
  a9 := Try.isAgg9
  z9 := Try.sizeOf9
  v9 := Try.zeroValue9
  t22 := Try.underlying25
  a22 := Try.isAgg25
  z22 := Try.sizeOf25
  v22 := Try.zeroValue25
  t23 := Try.underlying25
  a23 := Try.isAgg25
  z23 := Try.sizeOf25
  v23 := Try.zeroValue25
  t25 := Try.underlying2
  a25 := Try.isAgg2
  z25 := Try.sizeOf2
  v25 := Try.zeroValue2
  t32 := Try.underlying59
  a32 := Try.isAgg59
  z32 := Try.sizeOf59
  v32 := Try.zeroValue59
  t35 := Try.underlying128
  a35 := Try.isAgg128
  z35 := Try.sizeOf128
  v35 := Try.zeroValue128
  t36 := Try.underlying129
  a36 := Try.isAgg129
  z36 := Try.sizeOf129
  v36 := Try.zeroValue129
  t41 := Try.underlying133
  a41 := Try.isAgg133
  z41 := Try.sizeOf133
  v41 := Try.zeroValue133
  t44 := Try.underlying122
  a44 := Try.isAgg122
  z44 := Try.sizeOf122
  v44 := Try.zeroValue122
  t46 := Try.underlying104
  a46 := Try.isAgg104
  z46 := Try.sizeOf104
  v46 := Try.zeroValue104
  t53 := Try.underlying136
  a53 := Try.isAgg136
  z53 := Try.sizeOf136
  v53 := Try.zeroValue136
  t57 := Try.underlying140
  a57 := Try.isAgg140
  z57 := Try.sizeOf140
  v57 := Try.zeroValue140
  t63 := Try.underlying142
  a63 := Try.isAgg142
  z63 := Try.sizeOf142
  v63 := Try.zeroValue142
  t64 := Try.underlying143
  a64 := Try.isAgg143
  z64 := Try.sizeOf143
  v64 := Try.zeroValue143 }
end

theorem has_any (s p : Int) (w : World) : Calls Try.prog 105 #[.int .i64 s, .int .i64 p] w fun e w' => e = .returned (.bool (hasI s p)) ∧ w = w' := by
  go_enter Try.func105, Try.ntmps105
  go_wp2_with fail
  go_ret
  exact ⟨rfl, rfl⟩

theorem hasOne1_any (b : Nat) (s z : Int) (w : World) (hc : w.cell? ⟨b, 0, none⟩ = some (.int .i64 s)) :
    Calls Try.prog 114 #[.int .i64 z, .pointer (some ⟨b, 0, none⟩)] w fun e w' => e = .returned (.bool (hasI s z)) ∧ Ext w w' := by
  go_enter Try.func114, Try.ntmps114
  go_wp2_with fail
  refine (has_any _ _ _).mono ?_
  rintro e w1 ⟨rfl, rfl⟩
  go_wp2_with fail
  go_ret
  exact ⟨rfl, Ext.refl _⟩

theorem hasOne_any (s : Int) (v : Value) (zs : List Int) (w : World) (r : RdI w v zs) :
    Calls Try.prog 100 #[.int .i64 s, v] w fun e w' => e = .returned (.bool (zs.any fun q => hasI s q)) ∧ Ext w w' := by
  have r' := r
  obtain ⟨-, a1, c1, rfl, -, -, -, -⟩ := r
  go_enter Try.func100, Try.ntmps100
  go_wp2_with fail
  have bx : Bx (w.alloc (.cells #[.int .i64 s] 2)) w.heap.size [.int .i64 s] := Bx.new _ _ _
  refine (containsFuncI_any 114 #[.pointer (some ⟨w.heap.size, 0, none⟩)] (fun z => hasI s z) _ zs _ (r'.ext (Ext.alloc _ _)) (enterOk Try.func114 (by kernel_rfl) rfl)
    (fun w' hx z => hasOne1_any w.heap.size s z w' (bx.ext hx).one)).mono ?_
  rintro e w1 ⟨rfl, X⟩
  go_wp2_with fail
  go_ret
  exact ⟨rfl, (Ext.alloc _ _).trans X⟩

/-! ### A list of the call's own, cut -/
theorem own_cut {w : World} {B g n cap k : Nat} {e : TypeId} {xs : List Value} (h : w.ownsRow B e 1 (.slice (some ⟨g, 0, none⟩) n cap) n xs) (hk : k ≤ n) :
    w.ownsRow B e 1 (.slice (some ⟨g, 0, none⟩) k cap) k (xs.take k) := by
  obtain ⟨hl, h⟩ := h
  rcases h with ⟨h', _⟩ | ⟨g', cap', cur, h', hb, hg, hnc, hcm, hcs, ht⟩
  · cases h'
  · cases h'
    refine ⟨by rw [List.length_take]; omega, .inr ⟨g, cap, cur, rfl, hb, hg, by omega, hcm, hcs, ?_⟩⟩
    rw [← ht, List.take_take, Nat.min_eq_left (by omega), Nat.mul_one]
theorem own_setCells {B g n cap : Nat} {e : TypeId} {xs : List Value} : ∀ (vs : List Value) (o : Nat) (w : World), n ≤ o → w.ownsRow B e 1 (.slice (some ⟨g, 0, none⟩) n cap) n xs →
    (w.setCells g o vs).ownsRow B e 1 (.slice (some ⟨g, 0, none⟩) n cap) n xs ∧ w.grownBy (w.setCells g o vs) (some g)
  | [], _, w, _, h => ⟨h, grownBy_refl _ _⟩
  | v :: r, o, w, ho, h => by
    have h1 := (World.ownsRow.stored h o v).1
    rw [List.set_eq_of_length_le (by have := h.1; omega)] at h1
    obtain ⟨h2, h3⟩ := own_setCells r (o + 1) _ (by omega) h1
    exact ⟨h2, (grownBy_setCell _ _ _ _).trans h3⟩

theorem filter_take_succ {p : Int → Bool} {bs : List Int} {j : Nat} (h : j < bs.length) : (bs.take (j + 1)).filter p = (bs.take j).filter p ++ (if p bs[j] then [bs[j]] else []) := by
  rw [List.take_succ_eq_append_getElem h, List.filter_append]
  congr 1
  cases hp : p bs[j] <;> simp [hp]

set_option maxHeartbeats 2000000 in
theorem deleteFuncI_own (fn : FuncId) (lb : Array Value) (p : Int → Bool) (g n cap : Nat) (bs : List Int) (w0 w : World) (own : w.ownsRow w0.heap.size 2 1 (.slice (some ⟨g, 0, none⟩) n cap) n (bs.map (Value.int .i64)))
    (hn : n ≤ 1048576) (X0 : Ext w0 w) (hen : EnterOk Try.prog fn) (hp : PredI Try.prog fn lb p w0) :
    Calls Try.prog 108 #[.slice (some ⟨g, 0, none⟩) n cap, .func (.func fn) #[] lb] w fun e w' => e = .returned (.slice (some ⟨g, 0, none⟩) (bs.filter fun x => !p x).length cap) ∧ Ext w0 w' ∧
      w'.ownsRow w0.heap.size 2 1 (.slice (some ⟨g, 0, none⟩) (bs.filter fun x => !p x).length cap) (bs.filter fun x => !p x).length ((bs.filter fun x => !p x).map (Value.int .i64)) := by
  have hl : bs.length = n := by simpa using own.1
  have hgB := own.lt g rfl
  have hcap : n ≤ cap ∧ cap ≤ maxLen := by
    rcases own.2 with ⟨h', _⟩ | ⟨g', cap', cur, h', hb, hg, hnc, hcm, hcs, ht⟩
    · cases h'
    · cases h'; exact ⟨hnc, hcm⟩
  have hcap1 := hcap.1
  have hcap2 : cap ≤ 9223372036854775807 := by have := hcap.2; unfold maxLen at this; omega
  have hent : ∀ args w, (callFunc fn args).run Try.prog w = .ok (.enter fn args) w := hen
  have HI := Lib.hid (indexFuncI_any fn lb p (.slice (some ⟨g, 0, none⟩) n cap) bs w (by rw [← hl]; rw [← hl] at own; exact own_rd own) hen (fun w' x z => hp w' (X0.trans x) z))
  have HP := Lib.hid hp
  clear hp hen hcap
  subst hl
  rcases Classical.em (∃ j, ∃ h : j < bs.length, p bs[j] = true) with hex | hno
  · have hidx : ∃ j, ∃ h : j < bs.length, p bs[j] = true ∧ (∀ k, (hk : k < j) → p (bs[k]'(by omega)) = false) ∧ idxOf p bs = j := by
      obtain ⟨j, hj⟩ := hex
      induction j using Nat.strongRecOn with
      | _ j ih =>
        obtain ⟨h, hpj⟩ := hj
        by_cases hall : ∃ k, ∃ hk : k < j, p (bs[k]'(by omega)) = true
        · obtain ⟨k, hk, hpk⟩ := hall
          exact ih k hk ⟨by omega, hpk⟩
        · have hk2 : ∀ k, (hk : k < j) → p (bs[k]'(by omega)) = false := fun k hk => by
            cases h3 : p (bs[k]'(by omega))
            · rfl
            · exact absurd ⟨k, hk, h3⟩ hall
          exact ⟨j, h, hpj, hk2, idxOf_hit h hpj hk2⟩
    obtain ⟨i0, hi0, hpi, hbefore, hidx⟩ := hidx
    rw [hidx] at HI
    have H0 : Hid ((bs.take (i0 + 1)).filter (fun x => !p x) = bs.take i0) := by
      show _ = _
      rw [filter_take_succ hi0]
      simp only [hpi, Bool.not_true, Bool.false_eq_true, if_false, List.append_nil]
      rw [List.filter_eq_self]
      intro x hx
      obtain ⟨k, hk, rfl⟩ := List.getElem_of_mem hx
      rw [List.length_take] at hk
      rw [List.getElem_take, hbefore k (by omega)]; rfl
    clear hex hpi hbefore hidx
    go_enter Try.func108, Try.ntmps108
    go_wp2_with fail
    refine HI.out.mono ?_
    rintro e w1 ⟨rfl, hx⟩
    replace own := own_ext' own hx
    replace X0 := X0.trans hx
    clear hx HI
    have hne : (i0 : Int) ≠ -1 := by omega
    have hnb : ((i0 : Int) == -1) = false := by simp
    go_wp2_with fail
    try rw [hnb]
    clear hne hnb
    go_loopw [5, 6] (fun s5 s6 wr => ∃ (i j : Nat) (ys : List Int), s5 = .int .i64 i ∧ s6 = .int .i64 j ∧ i < j ∧ j ≤ bs.length ∧ ys.length = bs.length ∧ Hid (ys.take i = (bs.take j).filter fun x => !p x) ∧ Hid (ys.drop j = bs.drop j) ∧
      wr.ownsRow w0.heap.size 2 1 (.slice (some ⟨g, 0, none⟩) bs.length cap) bs.length (ys.map (Value.int .i64)) ∧ Ext w0 wr) (fun _ j _ => bs.length - (intOf j).toNat)
    case atStart => exact ⟨i0, i0 + 1, bs, rfl, by go_num, by omega, by omega, rfl, H0.out.symm, rfl, own, X0⟩
    case round =>
      obtain ⟨i, j, ys, rfl, rfl, hij, hj, hyl, HT, HD, own1, X⟩ := hrel
      clear own
      by_cases hlt : j < bs.length
      · have hcj := own1.cellAt j (by omega)
        have hfj := own1.frozenAt j
        have hci := own1.cellAt i (by omega)
        have hfi := own1.frozenAt i
        have hst := Lib.hid (fun u W (x : Ext wr W) => (own_ext' own1 x).stored i u)
        have hyj : ys[j]'(by omega) = bs[j] := by
          have := congrArg (fun l => l[0]?) HD.out
          simp only [List.getElem?_drop, Nat.add_zero] at this
          rw [List.getElem?_eq_getElem (by omega), List.getElem?_eq_getElem hlt] at this
          exact Option.some.inj this
        rw [List.getElem?_map, List.getElem?_eq_getElem (by omega)] at hcj hci
        simp only [Option.map_some] at hcj hci
        rw [hyj] at hcj
        have HF := Lib.hid (filter_take_succ (p := fun x => !p x) hlt)
        have hdr : Hid (ys.drop (j + 1) = bs.drop (j + 1)) := by
          show _ = _
          have := congrArg (List.drop 1) HD.out
          simpa [List.drop_drop] using this
        have hs2 : Hid ((ys.set i bs[j]).drop (j + 1) = bs.drop (j + 1)) := by
          show _ = _
          rw [List.drop_set_of_lt (by omega)]; exact hdr.out
        have hs1 : Hid ((ys.set i bs[j]).take (i + 1) = ys.take i ++ [bs[j]]) := by
          show _ = _
          rw [List.take_succ_eq_append_getElem (by simp; omega)]
          simp [List.take_set_of_le]
        have hgl := own1.lt g rfl
        generalize bs[j] = x at *
        generalize ys[i]'(by omega) = y at *
        clear hyj
        go_wp2_with fail
        refine (HP.out _ X x).mono ?_
        rintro e w2 ⟨rfl, hx⟩
        have X2 := X.trans hx
        have own2 := own_ext' own1 hx
        have c2 : w2.cell? ⟨g, i, none⟩ = some (.int .i64 y) := (Below.cell hx (p := ⟨g, i, none⟩) hgl.2).trans hci
        have f2 := own2.frozenAt i
        clear hcj hfj hci hfi
        cases hpx : p x
        · have HP2 := Lib.hid hpx
          have hst2 := Lib.hid (hst.out (.int .i64 x) w2 hx).1
          clear hpx hst
          go_wp2_with fail
          go_roundw
          case rel =>
            refine ⟨i + 1, j + 1, ys.set i x, by go_num, by go_num, by omega, by omega, by simp [hyl], ?_, hs2, by rw [List.map_set]; exact hst2.out, X2.setCell (by exact hgl.1) _⟩
            show _ = _
            rw [hs1.out, HF.out, HT.out, HP2.out]; rfl
          case measure => simp [intOf]; omega
        · have HP2 := Lib.hid hpx
          clear hpx hst
          go_wp2_with fail
          go_roundw
          case rel =>
            refine ⟨i, j + 1, ys, rfl, by go_num, by omega, by omega, hyl, ?_, hdr, own2, X2⟩
            show _ = _
            rw [HF.out, HT.out, HP2.out]; simp
          case measure => simp [intOf]; omega
      · obtain rfl : j = bs.length := by omega
        have HT2 : Hid (ys.take i = bs.filter fun x => !p x) := by show _ = _; rw [HT.out, List.take_length]
        have hiL : Hid (i = (bs.filter fun x => !p x).length) := by show _ = _; rw [← HT2.out, List.length_take]; omega
        have hcut := own_cut own1 (show i ≤ bs.length by omega)
        rw [← List.map_take, HT2.out] at hcut
        have HC := Lib.hid hcut
        have hcl : ∀ ty, (Builtin.clear_ #[25] ty #[.slice (some ⟨g, i, none⟩) (bs.length - i) (cap - i)]).run Try.prog wr = .ok (.tuple #[]) (wr.setCells g i (List.replicate (bs.length - i) (.int .i64 0))) := fun ty =>
          Lib.run_clear_slice wr 25 2 ty (.int .i64 0) Try.underlying25 (fun w => by go_simp) rfl rfl g i _ _ (by omega)
            (fun t ht => by rw [own1.cellAt (i + t) (by omega), List.getElem?_map, List.getElem?_eq_getElem (by omega)]; rfl) (fun t ht => own1.frozenAt (i + t))
        have HSet := Lib.hid (own_setCells (List.replicate (bs.length - i) (.int .i64 0)) i wr (Nat.le_refl i) hcut)
        clear hcut own1
        have hlz : ¬ (bs.length : Int) < (bs.length : Int) := by omega
        have hic : i ≤ cap := by omega
        go_wp2_with fail
        go_ret
        rw [← hiL.out]
        exact ⟨rfl, Below.trans X (grown_ext HSet.out.2 hgB.1 X.size), HSet.out.1⟩
  · have hall : ∀ j, (h : j < bs.length) → p bs[j] = false := fun j h => by
      cases h3 : p bs[j]
      · rfl
      · exact absurd ⟨j, h, h3⟩ hno
    rw [idxOf_none hall] at HI
    have HF : Hid ((bs.filter fun x => !p x) = bs) := by
      show _ = _
      rw [List.filter_eq_self]
      intro x hx
      obtain ⟨k, hk, rfl⟩ := List.getElem_of_mem hx
      rw [hall k hk]; rfl
    clear hno hall
    go_enter Try.func108, Try.ntmps108
    go_wp2_with fail
    refine HI.out.mono ?_
    rintro e w1 ⟨rfl, hx⟩
    replace own := own_ext' own hx
    replace X0 := X0.trans hx
    clear hx HI
    go_wp2_with fail
    go_ret
    rw [HF.out]
    exact ⟨rfl, X0, own⟩

end Go.Proofs.Ytgmdoboeenpjpaa
/- The least sets of a list, as the program finds them. Condition: at most 2^20 sets that are natural numbers up to 2^20. -/
namespace Go.Proofs.Ytgmdoboeenpjpaa
open Go Go.RowKit Go.ChangeShapes Go.WideShapes Go.ChangeAt

set_option maxHeartbeats 1000000 in
theorem cloneI_any (v : Value) (zs : List Int) (w : World) (r : RdI w v zs) (h0 : 0 < zs.length) (hn : zs.length ≤ 1048576) :
    Calls Try.prog 67 #[v] w fun e w' => ∃ g cap, e = .returned (.slice (some ⟨g, 0, none⟩) zs.length cap) ∧ w'.ownsRow w.heap.size 2 1 (.slice (some ⟨g, 0, none⟩) zs.length cap) zs.length (zs.map (Value.int .i64)) ∧ Ext w w' := by
  have r' := r
  obtain ⟨-, a1, c1, rfl, p1, p2, -, -⟩ := r
  obtain ⟨b, o, rfl, hb, -⟩ := r'.at h0
  have hc : ∀ j, j < zs.length → w.cell? ⟨b, o + j, none⟩ = some (.int .i64 (zs.getD j 0)) := fun j hj => by
    obtain ⟨b', o', e, -, h⟩ := r'.at hj
    cases e
    rw [h, List.getD_eq_getElem?_getD, List.getElem?_eq_getElem hj]; rfl
  have h := AnyG.slices_Clone_int laysCloneI b o zs.length c1 zs w (Nat.le_refl _) (by omega) hc
  refine h.mono ?_
  rintro e w' ⟨v', rfl, own, hv, X⟩
  rw [List.take_length] at own
  obtain ⟨g, cap, rfl, -⟩ := Lib.holds_of_ownsRow own hv
  exact ⟨g, cap, rfl, own, X⟩

theorem own_holds {w : World} {B g n cap : Nat} {e : TypeId} {zs : List Int} (own : w.ownsRow B e 1 (.slice (some ⟨g, 0, none⟩) n cap) n (zs.map (Value.int .i64))) :
    zs.length = n ∧ n ≤ cap ∧ cap ≤ maxLen ∧ g < w.heap.size ∧ B ≤ g ∧ Sort.Holds (Value.int .i64) w g 0 zs.toArray := by
  obtain ⟨g', cap', e1, h1, h2, h3, h4, h5, h6⟩ := Lib.holds_of_ownsRow own (by simp)
  cases e1
  exact ⟨h5, h3, h4, h2, h1, h6⟩

theorem ext_grow (w : World) (os : Array Obj) : Ext w (Sort.grow w os) :=
  ⟨rfl, rfl, rfl, by show w.heap.size ≤ (w.heap ++ os).size; rw [Array.size_append]; omega, fun _ hj => Sort.heap_grow_old w os hj⟩
theorem compact_le (zs : List Int) : (Lib.compact zs).length ≤ zs.length := by
  unfold Lib.compact Lib.compactUpTo
  rw [List.length_map]
  exact Nat.le_trans (List.length_filter_le _ _) (by simp)

set_option maxHeartbeats 1000000 in
theorem sortI_any (g n cap B : Nat) (zs : List Int) (w : World) (own : w.ownsRow B 2 1 (.slice (some ⟨g, 0, none⟩) n cap) n (zs.map (Value.int .i64))) (hn : n ≤ 1048576) :
    Calls Try.prog 106 #[.slice (some ⟨g, 0, none⟩) n cap] w fun e w' => e = .returned (.tuple #[]) ∧ w.grownBy w' (some g) ∧
      w'.ownsRow B 2 1 (.slice (some ⟨g, 0, none⟩) n cap) n ((zs.mergeSort fun x y => decide (x ≤ y)).map (Value.int .i64)) := by
  obtain ⟨h1, h2, h3, h4, h5, h6⟩ := own_holds own
  subst h1
  have h := AnyM.slices_Sort_int laysSortI g 0 cap zs w h6 h4 (by omega)
  refine h.mono ?_
  rintro e w' ⟨rfl, q, os, rfl⟩
  refine ⟨rfl, grownBy_sortedI _, ?_⟩
  have hl : (zs.mergeSort fun x y => decide (x ≤ y)).length = zs.length := List.length_mergeSort _
  have o1 := Lib.ownsRow_putRow (q := q) (k := zs.length) own hl (Nat.le_refl _)
  rw [List.take_of_length_le (by omega)] at o1
  have o2 : (Sort.grow (Sort.putRow (Value.int .i64) (Sort.ahead w q) g 0 (zs.mergeSort fun x y => decide (x ≤ y)).toArray) os).ownsRow B 2 1 (.slice (some ⟨g, 0, none⟩) zs.length cap) zs.length ((zs.mergeSort fun x y => decide (x ≤ y)).map (Value.int .i64)) :=
    own_ext' o1 (ext_grow _ os)
  exact o2

set_option maxHeartbeats 1000000 in
theorem compactI_any (g n cap B : Nat) (zs : List Int) (w : World) (own : w.ownsRow B 2 1 (.slice (some ⟨g, 0, none⟩) n cap) n (zs.map (Value.int .i64))) (hn : n ≤ 1048576) :
    Calls Try.prog 107 #[.slice (some ⟨g, 0, none⟩) n cap] w fun e w' => e = .returned (.slice (some ⟨g, 0, none⟩) (Lib.compact zs).length cap) ∧ w.grownBy w' (some g) ∧
      w'.ownsRow B 2 1 (.slice (some ⟨g, 0, none⟩) (Lib.compact zs).length cap) (Lib.compact zs).length ((Lib.compact zs).map (Value.int .i64)) := by
  obtain ⟨h1, h2, h3, h4, h5, h6⟩ := own_holds own
  subst h1
  have h := AnyG.slices_Compact_int laysCompactI g 0 cap zs w h6 (by omega) h2
  have hle := compact_le zs
  refine h.mono ?_
  rintro e w' ⟨rfl, q, rfl⟩
  refine ⟨rfl, ?_, ?_⟩
  · have hg := grownBy_sortedI (w := w) (g := g) (n := q) (os := #[]) (Lib.compact zs ++ List.replicate (zs.length - (Lib.compact zs).length) 0).toArray
    rw [Sort.grow_empty] at hg
    exact hg
  · have o1 := Lib.ownsRow_putRow (q := q) (k := (Lib.compact zs).length) (ys := Lib.compact zs ++ List.replicate (zs.length - (Lib.compact zs).length) 0) own (by simp; omega) hle
    rw [List.take_left] at o1
    exact o1

theorem least11_any (b : Nat) (s z : Int) (w : World) (hc : w.cell? ⟨b, 0, none⟩ = some (.int .i64 s)) :
    Calls Try.prog 110 #[.int .i64 z, .pointer (some ⟨b, 0, none⟩)] w fun e w' => e = .returned (.bool (z != s && hasI s z)) ∧ Ext w w' := by
  cases hz : z != s
  · go_enter Try.func110, Try.ntmps110
    go_wp2_with fail
    go_ret
    exact ⟨rfl, Ext.refl _⟩
  · go_enter Try.func110, Try.ntmps110
    go_wp2_with fail
    refine (has_any _ _ _).mono ?_
    rintro e w1 ⟨rfl, rfl⟩
    go_wp2_with fail
    go_ret
    exact ⟨rfl, Ext.refl _⟩

theorem least1_any (b : Nat) (v : Value) (cs : List Int) (s : Int) (w : World) (hc : w.cell? ⟨b, 0, none⟩ = some v) (r : RdI w v cs) :
    Calls Try.prog 109 #[.int .i64 s, .pointer (some ⟨b, 0, none⟩)] w fun e w' => e = .returned (.bool (aboveI cs s)) ∧ Ext w w' := by
  have r' := r
  obtain ⟨-, a1, c1, rfl, -, -, -, -⟩ := r
  have hb : b < w.heap.size := World.block_lt_of_cell? w _ hc
  have bx : Bx (w.alloc (.cells #[.int .i64 s] 2)) w.heap.size [.int .i64 s] := Bx.new _ _ _
  go_enter Try.func109, Try.ntmps109
  go_wp2_with fail
  refine (containsFuncI_any 110 #[.pointer (some ⟨w.heap.size, 0, none⟩)] (fun z => z != s && hasI s z) _ cs _ (r'.ext (Ext.alloc _ _)) (enterOk Try.func110 (by kernel_rfl) rfl)
    (fun w' hx z => least11_any w.heap.size s z w' (bx.ext hx).one)).mono ?_
  rintro e w1 ⟨rfl, X⟩
  go_wp2_with fail
  go_ret
  exact ⟨rfl, (Ext.alloc _ _).trans X⟩

/-- A list of sets of the call's own. -/
def OwnS (B : Nat) (w : World) (g cap : Nat) (ns : List Nat) : Prop := w.ownsRow B 2 1 (.slice (some ⟨g, 0, none⟩) ns.length cap) ns.length ((ups ns).map (Value.int .i64))
theorem OwnS.rd {B : Nat} {w : World} {g cap : Nat} {ns : List Nat} (h : OwnS B w g cap ns) : RdI w (.slice (some ⟨g, 0, none⟩) ns.length cap) (ups ns) := by
  have h1 := own_rd h
  unfold RdI
  rw [ups_len]
  exact h1
theorem OwnS.ext {B : Nat} {w w' : World} {g cap : Nat} {ns : List Nat} (h : OwnS B w g cap ns) (hx : Ext w w') : OwnS B w' g cap ns := own_ext' h hx
theorem OwnS.mono {B B' : Nat} {w : World} {g cap : Nat} {ns : List Nat} (h : OwnS B w g cap ns) (hb : B' ≤ B) : OwnS B' w g cap ns := World.ownsRow.mono h hb
/-- The least sets of a list. -/
def leastN (ns : List Nat) : List Nat := minL (setsOf 1048577 ns)

set_option maxHeartbeats 2000000 in
theorem least_any (v : Value) (ns : List Nat) (w : World) (r : RdI w v (ups ns)) (h0 : 0 < ns.length) (hn : ns.length ≤ 1048576) (hb : ∀ z ∈ ns, z < 1048577) :
    Calls Try.prog 82 #[v] w fun e w' => ∃ g cap, e = .returned (.slice (some ⟨g, 0, none⟩) (leastN ns).length cap) ∧ Ext w w' ∧ OwnS w.heap.size w' g cap (leastN ns) := by
  have r' := r
  obtain ⟨-, a1, c1, rfl, p1, p2, -, -⟩ := r
  have hcs : Hid (Lib.compact ((ups ns).mergeSort fun x y => decide (x ≤ y)) = ups (setsOf 1048577 ns)) := compact_ups hb
  have hlt : ∀ z ∈ setsOf 1048577 ns, z < 1048577 := fun z hz => hb z ((mem_setsOf hb).1 hz)
  have hc0 : 0 < (setsOf 1048577 ns).length := by
    cases ns with
    | nil => simp at h0
    | cons a l => exact List.length_pos_of_mem ((mem_setsOf hb).2 (List.mem_cons_self (a := a) (l := l)))
  have hmin : Hid ((ups (setsOf 1048577 ns)).filter (fun x => !aboveI (ups (setsOf 1048577 ns)) x) = ups (leastN ns)) := least_ups fun z hz => by have := hlt z hz; omega
  have hcn : (setsOf 1048577 ns).length ≤ 1048576 := by
    have h1 := compact_le ((ups ns).mergeSort fun x y => decide (x ≤ y))
    rw [hcs.out, ups_len, List.length_mergeSort, ups_len] at h1
    omega
  generalize setsOf 1048577 ns = cs at *
  have HLT := Lib.hid hlt
  clear hlt
  go_enter Try.func82, Try.ntmps82
  go_wp2_with fail
  refine (cloneI_any _ (ups ns) w r' (by rw [ups_len]; exact h0) (by rw [ups_len]; exact hn)).mono ?_
  rintro e w1 ⟨g, cap, rfl, own, X⟩
  rw [ups_len] at own ⊢
  have hg := own.lt g rfl
  go_wp2_with fail
  have bx : Bx (w1.alloc (.cells #[.slice (some ⟨g, 0, none⟩) ns.length cap] 25)) w1.heap.size [.slice (some ⟨g, 0, none⟩) ns.length cap] := Bx.new _ _ _
  generalize hW : World.alloc w1 _ = W at bx
  have hx : Ext w1 W := hW ▸ Ext.alloc _ _
  have hblk : W.heap[w1.heap.size]? = some (.cells #[.slice (some ⟨g, 0, none⟩) ns.length cap] 25 (0, 0)) := by rw [← hW]; exact heap_alloc_new w1 _
  have hbb : w1.heap.size < W.heap.size := by rw [← hW]; simp
  clear hW
  replace own := own_ext' own hx
  replace X := X.trans hx
  clear hx
  generalize w1.heap.size = bb at *
  have k1 := bx.one
  refine (sortI_any g ns.length cap w.heap.size (ups ns) W own hn).mono ?_
  rintro e w2 ⟨rfl, G, own2⟩
  replace k1 := G.cell k1 (by simp; omega)
  replace hblk := (G.block bb hbb (by simp; omega)).trans hblk
  have hz2 := G.size
  replace X := Below.trans X (grown_ext G hg.1 X.size)
  clear G own bx
  go_wp2_with fail
  refine (compactI_any g ns.length cap w.heap.size _ w2 own2 hn).mono ?_
  rintro e w3 ⟨rfl, G, own3⟩
  rw [hcs.out, ups_len] at own3 ⊢
  replace k1 := G.cell k1 (by simp; omega)
  replace hblk := (G.block bb (by omega) (by simp; omega)).trans hblk
  have hz3 := G.size
  have f1 : w3.frozen? ⟨bb, 0, none⟩ = false := by simp [World.frozen?, hblk]
  clear hblk
  replace X := Below.trans X (grown_ext G hg.1 X.size)
  clear G own2
  have hbb3 : bb < w3.heap.size := by omega
  go_wp2_with fail
  have k2 : (w3.setCell ⟨bb, 0, none⟩ (.slice (some ⟨g, 0, none⟩) cs.length cap)).cell? ⟨bb, 0, none⟩ = some (.slice (some ⟨g, 0, none⟩) cs.length cap) := by
    simp [go_sem, k1]
  have own4 : OwnS w.heap.size (w3.setCell ⟨bb, 0, none⟩ (.slice (some ⟨g, 0, none⟩) cs.length cap)) g cap cs := ownsRow_setCell_other own3 (by simp [Value.ownBlock]; omega) _
  have X4 : Ext w (w3.setCell ⟨bb, 0, none⟩ (.slice (some ⟨g, 0, none⟩) cs.length cap)) := Below.setCell X (by show w.heap.size ≤ bb; omega) _
  have hbb4 : bb < (w3.setCell ⟨bb, 0, none⟩ (.slice (some ⟨g, 0, none⟩) cs.length cap)).heap.size := by simpa using hbb3
  generalize World.setCell w3 _ _ = w4 at *
  clear k1 f1 own3 X hz2 hz3 hbb hbb3
  have r4 := own4.rd
  refine (cloneI_any _ (ups cs) w4 r4 (by rw [ups_len]; exact hc0) (by rw [ups_len]; exact hcn)).mono ?_
  rintro e w5 ⟨g5, cap5, rfl, own5, X5⟩
  rw [ups_len] at own5 ⊢
  clear own4
  go_wp2_with fail
  refine (deleteFuncI_own 109 #[.pointer (some ⟨bb, 0, none⟩)] (aboveI (ups cs)) g5 cs.length cap5 (ups cs) w4 w5 own5 hcn X5 (enterOk Try.func109 (by kernel_rfl) rfl)
    (fun w' hx z => least1_any bb _ (ups cs) z w' ((Below.cell hx (p := ⟨bb, 0, none⟩) hbb4).trans k2) (r4.ext hx))).mono ?_
  rintro e w6 ⟨rfl, X6, own6⟩
  rw [hmin.out, ups_len] at own6 ⊢
  go_wp2_with fail
  go_ret
  exact ⟨g5, cap5, rfl, X4.trans X6, World.ownsRow.mono own6 X4.size⟩

end Go.Proofs.Ytgmdoboeenpjpaa
