/- The balance of crews: what the program and the reference compute is one list. No condition. -/
import Derived.Test.YtnlnjhbckfcmfaaRows
import Derived.Test.YtnlnjhbckfcmfaaD
import Derived.Test.YtnlnjhbckfcmfaaE
import Derived.Outline
namespace Go.Proofs.Ytnlnjhbckfcmfaa
open Go Go.RowKit Go.ChangeShapes Go.WideShapes Go.ChangeAt

theorem own_ext {B : Nat} {e : TypeId} {k : Nat} {v : Value} {n : Nat} {xs : List Value} {w w' : World} (h : w.ownsRow B e k v n xs) (hb : Ext w w') : w'.ownsRow B e k v n xs :=
  h.kept (row := none) ⟨hb.os, hb.tape, hb.output, hb.size, fun j hj _ => hb.block j hj⟩ (by cases hv : v.ownBlock <;> simp)

/-- The 32-bit number nearest to an integer. -/
def ofI (n : Int) : Nat := floatOfInt .f32 n
theorem cn_ofI (n : Int) : cn .f32 (floatOfInt .f32 n) = ofI n := by
  unfold ofI floatOfInt FloatKind.nearest FloatKind.encode
  exact cn_of_not (isN_write .f32 rfl)
theorem ofI_lt (n : Int) : ofI n < 4294967296 := by
  have h : ofI n < 2 ^ FloatKind.f32.format.width := by
    unfold ofI floatOfInt FloatKind.nearest FloatKind.encode; exact Ieee.Format.write_lt _ _
  exact h

def minI (a b : Int) : Int := if a < b then a else b
def crewStep (m c : Int) (f r : Nat) (k : Int) (p : Nat) : Nat :=
  fop .quo .f32 (fop .mul .f32 (fop .mul .f32 p (ofI (m - k + 1))) f) (fop .mul .f32 (ofI (minI k c)) r)
/-- The first k + 1 terms. -/
def crewL (m c : Int) (f r : Nat) : Nat → List Nat
  | 0 => [cn .f32 1065353216]
  | k + 1 => crewL m c f r k ++ [crewStep m c f r (k + 1) ((crewL m c f r k).getD k 0)]
theorem crewL_len (m c : Int) (f r : Nat) : ∀ k, (crewL m c f r k).length = k + 1
  | 0 => rfl
  | k + 1 => by simp [crewL, crewL_len m c f r k]
def crewSum (m c : Int) (f r : Nat) (k : Nat) : Nat := sumF (cn .f32 1065353216) ((crewL m c f r k).drop 1)
def crewOut (m c : Int) (f r : Nat) : List Nat := (crewL m c f r m.toNat).map fun u => fop .quo .f32 u (crewSum m c f r m.toNat)
def crewPre (m c : Int) (f r : Nat) : Bool := inB m 1 16 && inB c 1 m && leastB f && aboveB r

theorem l02Above_eq2 {b : Nat} {c : Bool} (h : aboveB (cn .f32 b) = c) (w : World) : Calls Try.prog 86 #[.float .f32 b] w fun e w' => e = .returned (.bool c) ∧ Ext w w' := by
  subst h; exact l02Above_any b w

theorem l00Min_any (a b : Int) (w : World) : Calls Try.prog 87 #[.int .i64 a, .int .i64 b] w fun e w' => e = .returned (.int .i64 (minI a b)) ∧ w = w' := by
  unfold minI
  by_cases h : a < b
  · rw [if_pos h]
    go_enter Try.func87, Try.ntmps87
    go_wp2
    go_ret
    exact ⟨rfl, rfl⟩
  · rw [if_neg h]
    go_enter Try.func87, Try.ntmps87
    go_wp2
    go_ret
    exact ⟨rfl, rfl⟩

theorem crewL_take (m c : Int) (f r : Nat) (k : Nat) : (crewL m c f r (k + 1)).drop 1 = (crewL m c f r k).drop 1 ++ [crewStep m c f r (k + 1) ((crewL m c f r k).getD k 0)] := by
  show (crewL m c f r k ++ [_]).drop 1 = _
  rw [List.drop_append_of_le_length (by rw [crewL_len]; omega)]
theorem crewSum_succ (m c : Int) (f r : Nat) (k : Nat) : crewSum m c f r (k + 1) = fop .add .f32 (crewSum m c f r k) (crewStep m c f r (k + 1) ((crewL m c f r k).getD k 0)) := by
  unfold crewSum
  rw [crewL_take]
  unfold sumF
  rw [List.foldl_append]
  rfl

/-- What a call of either hands back. -/
def CrewPost (m c : Int) (f r : Nat) (w : World) (e : Ending) (w' : World) : Prop :=
  Ext w w' ∧ if crewPre m c f r && finAll (crewOut m c f r) then
    ∃ (g cap : Nat) (os : List Nat), e = .returned (.tuple #[.slice (some ⟨g, 0, none⟩) os.length cap, .bool true]) ∧ os.map (cn .f32) = crewOut m c f r ∧ (∀ b ∈ os, b < 4294967296) ∧
      w'.ownsRow w.heap.size 40 1 (.slice (some ⟨g, 0, none⟩) os.length cap) os.length (os.map (Value.float .f32))
  else e = .returned (.tuple #[.slice none 0 0, .bool false])

theorem crewPost_of {m c : Int} {f r : Nat} {w w' : World} {g cap : Nat} {os : List Nat} (hp : crewPre m c f r = true) (X : Ext w w') (h : os.map (cn .f32) = crewOut m c f r) (hb : ∀ b ∈ os, b < 4294967296)
    (own : w'.ownsRow w.heap.size 40 1 (.slice (some ⟨g, 0, none⟩) os.length cap) os.length (os.map (Value.float .f32))) :
    CrewPost m c f r w (.returned (.tuple #[orNil (finAll (os.map (cn .f32))) (.slice (some ⟨g, 0, none⟩) os.length cap), .bool (finAll (os.map (cn .f32)))])) w' := by
  refine ⟨X, ?_⟩
  rw [hp, h, Bool.true_and]
  cases finAll (crewOut m c f r)
  · rfl
  · exact ⟨g, cap, os, rfl, h, hb, own⟩
theorem crewPost_no {m c : Int} {f r : Nat} {w w' : World} (hp : crewPre m c f r = false) (X : Ext w w') : CrewPost m c f r w (.returned (.tuple #[.slice none 0 0, .bool false])) w' := by
  refine ⟨X, ?_⟩
  rw [hp, Bool.false_and]
  rfl

set_option maxHeartbeats 4000000 in
theorem specCrew_any (m c : Int) (f r : Nat) (w : World) :
    Calls Try.prog 42 #[.int .i64 m, .int .i64 c, .float .f32 f, .float .f32 r] w (CrewPost m c (cn .f32 f) (cn .f32 r) w) := by
  by_cases hpre : crewPre m c (cn .f32 f) (cn .f32 r) = true
  · have hp := hpre
    simp only [crewPre, Bool.and_eq_true] at hp
    obtain ⟨⟨⟨p1, p2⟩, p3⟩, p4⟩ := hp
    have q1 := inB_iff.1 p1
    have q2 := inB_iff.1 p2
    obtain ⟨M, rfl⟩ := Int.eq_ofNat_of_zero_le (show 0 ≤ m by omega)
    have P1 := Lib.hid p1
    have P2 := Lib.hid p2
    have P3 := Lib.hid p3
    have P4 := Lib.hid p4
    have HP := Lib.hid hpre
    obtain ⟨m1, m16⟩ := q1
    obtain ⟨c1, cm⟩ := q2
    clear p1 p2 p3 p4 hpre
    go_enter Try.func42, Try.ntmps42
    go_wp2_with fail
    refine (l00In_eq P1.out _).mono ?_
    rintro e w1 ⟨rfl, rfl⟩
    go_wp2_with fail
    refine (l00In_eq P2.out _).mono ?_
    rintro e w1 ⟨rfl, rfl⟩
    go_wp2_with fail
    refine (l02Least_eq P3.out _).mono ?_
    rintro e w1 ⟨rfl, X⟩
    go_wp2_with fail
    refine (l02Above_eq2 P4.out _).mono ?_
    rintro e w2 ⟨rfl, hx⟩
    replace X := X.trans hx
    clear hx w1
    go_wp2_with fail
    go_loopw [10, 11, 12] (fun l s i wr => ∃ (j g cap b : Nat) (us : List Nat), j < M + 1 ∧ l = .slice (some ⟨g, 0, none⟩) (j + 1) cap ∧ s = .float .f32 b ∧ i = .int .i64 ((j : Int) + 1) ∧
        us.length = j + 1 ∧ Hid (us.map (cn .f32) = crewL M c (cn .f32 f) (cn .f32 r) j) ∧ Hid (cn .f32 b = crewSum M c (cn .f32 f) (cn .f32 r) j) ∧ Hid (∀ b ∈ us, b < 4294967296) ∧
        wr.ownsRow w.heap.size 40 1 (.slice (some ⟨g, 0, none⟩) (j + 1) cap) (j + 1) (us.map (Value.float .f32)) ∧ Ext w wr) (fun _ _ i _ => M + 1 - (intOf i).toNat)
    case atStart =>
      refine ⟨0, w2.heap.size, 1, 1065353216, [1065353216], by omega, rfl, rfl, rfl, rfl, rfl, rfl, ?_, ?_, Ext.trans X (Ext.alloc _ _)⟩
      · show ∀ _ ∈ _, _; intro b hb; simp at hb; subst hb; decide
      · exact World.ownsRow.mono (World.ownsRow_lit w2 #[.float .f32 1065353216] 1 (Nat.le_refl _) (by decide) rfl) X.size
    case round =>
      obtain ⟨j, g, cap, b, us, hj, rfl, rfl, rfl, hus, Hl, Hs, Hb, own, X1⟩ := hrel
      by_cases hlt : j < M
      · have hc0 := own.cellAt j (by omega)
        have hf0 := own.frozenAt j
        rw [List.getElem?_map, List.getElem?_eq_getElem (by omega)] at hc0
        simp only [Option.map_some] at hc0
        have hg0 := (own.lt g rfl).2
        go_wp2_with (first | (refine wpList_fop rfl rfl rfl rfl rfl ?_; intro fb nf hfb hfl; replace hfb := Lib.hid hfb; replace hfl := Lib.hid hfl))
        refine (l00Min_any _ _ _).mono ?_
        rintro e w3 ⟨rfl, rfl⟩
        go_wp2_with (first | (refine wpList_fop rfl rfl rfl rfl rfl ?_; intro fb nf hfb hfl; replace hfb := Lib.hid hfb; replace hfl := Lib.hid hfl) | (at_builtin; refine wpList_push infoF32 rfl Try.underlying30 rfl rfl rfl (World.ownsRow.alloc (w := World.drewN _ _) own _) rfl (Bx.new _ [_] _).one rfl (by omega) (by decide) (X1.trans ((Ext.drewN _ _).trans (Ext.alloc _ _))).size ?_; intro g2 cap2 w4 hg2 own2 bel2 sz2; have hc1 : w4.cell? ⟨g2, j + 1, none⟩ = some (.float .f32 fb) := (own2.cellAt (j + 1) (by omega)).trans (by rw [List.getElem?_append_right (by simp; omega)]; simp [hus]); have hf1 := own2.frozenAt (j + 1)))
        rename_i a1 n1 e1 l1 a2 n2 e2 l2 a3 n3 e3 l3 a4 n4 e4 l4
        go_roundw
        case rel =>
          have hX : Hid (cn .f32 a4 = crewStep M c (cn .f32 f) (cn .f32 r) (j + 1) ((crewL M c (cn .f32 f) (cn .f32 r) j).getD j 0)) := by
            show _ = _
            rw [← Hl.out]
            simp only [List.getD_eq_getElem?_getD, List.getElem?_map, List.getElem?_eq_getElem (show j < us.length by omega), Option.map_some, Option.getD_some]
            rw [e4.out, e2.out, e1.out, e3.out, cn_ofI, cn_ofI]
            rfl
          refine ⟨j + 1, g2, cap2, fb, us ++ [a4], by omega, rfl, rfl, by go_num, by simp [hus], ?_, ?_, ?_, by rw [List.map_append]; exact own2, Ext.trans (a := w) (b := w4) (bel2 w (X1.trans ((Ext.drewN _ _).trans (Ext.alloc _ _)))) (Ext.drewN _ _)⟩
          · show _ = _
            rw [List.map_append, Hl.out, List.map_cons, hX.out]
            rfl
          · show _ = _
            rw [crewSum_succ, hfb.out, Hs.out, hX.out]
          · show ∀ _ ∈ _, _
            intro x hx
            rcases List.mem_append.1 hx with h | h
            · exact Hb.out x h
            · obtain rfl := List.mem_singleton.1 h
              exact l4.out
        case measure => simp [intOf]; omega
      · have hjM : j = M := by omega
        subst hjM
        have R : RdF wr (.slice (some ⟨g, 0, none⟩) (j + 1) cap) us := ⟨by rw [hus]; exact own_rd own, Hb.out⟩
        clear own
        go_wp2_with fail
        go_loopw [14, 15] (fun l i wq => ∃ (k g2 cap2 : Nat) (os : List Nat), k ≤ j + 1 ∧ l = .slice (some ⟨g2, 0, none⟩) k cap2 ∧ i = .int .i64 k ∧ os.length = k ∧
          Hid (os.map (cn .f32) = ((crewL j c (cn .f32 f) (cn .f32 r) j).map fun u => fop .quo .f32 u (crewSum j c (cn .f32 f) (cn .f32 r) j)).take k) ∧ Hid (∀ b ∈ os, b < 4294967296) ∧
          wq.ownsRow wr.heap.size 40 1 (.slice (some ⟨g2, 0, none⟩) k cap2) k (os.map (Value.float .f32)) ∧ Ext wr wq) (fun _ i _ => j + 1 - (intOf i).toNat)
        case atStart =>
          refine ⟨0, wr.heap.size, 0, [], by omega, rfl, rfl, rfl, (by show _ = _; simp), ?_, ?_, Ext.alloc _ _⟩
          · show ∀ _ ∈ _, _; intro b hb; simp at hb
          · exact World.ownsRow_lit wr #[] 0 (Nat.le_refl _) (by decide) rfl
        case round =>
          obtain ⟨k, g2, cap2, os, hk, rfl, rfl, hos, Ho, Hob, own, X2⟩ := hrel
          by_cases hlt2 : k < j + 1
          · obtain ⟨b1, o1, hbo, hb1, hc1⟩ := (R.ext X2).at (k := k) (by omega)
            cases hbo
            rw [Nat.zero_add] at hc1
            go_wp2_with (first | (refine wpList_fop rfl rfl rfl rfl rfl ?_; intro fb nf hfb hfl; replace hfb := Lib.hid hfb; replace hfl := Lib.hid hfl) | (at_builtin; refine wpList_push infoF32 rfl Try.underlying30 rfl rfl rfl (World.ownsRow.alloc (w := World.drewN _ _) own _) rfl (Bx.new _ [_] _).one rfl (by omega) (by decide) (X2.trans ((Ext.drewN _ _).trans (Ext.alloc _ _))).size ?_; intro g4 cap4 w4 hg4 own4 bel4 sz4))
            go_roundw
            case rel =>
              refine ⟨k + 1, g4, cap4, os ++ [fb], by omega, rfl, by go_num, by simp [hos], ?_, ?_, by rw [List.map_append]; exact own4, bel4 _ (X2.trans ((Ext.drewN _ _).trans (Ext.alloc _ _)))⟩
              · show _ = _
                rw [List.map_append, Ho.out, List.take_add_one, ← Hl.out, List.map_cons, hfb.out, Hs.out]
                simp [show k < us.length by omega]
              · show ∀ _ ∈ _, _
                intro x hx
                rcases List.mem_append.1 hx with h | h
                · exact Hob.out x h
                · obtain rfl := List.mem_singleton.1 h
                  exact hfl.out
            case measure => simp [intOf]; omega
          · have hkj : k = os.length := hos.symm
            subst hkj
            have RO : RdF wr (.slice (some ⟨g2, 0, none⟩) os.length cap2) os := ⟨own_rd own, Hob.out⟩
            have HO : Hid (os.map (cn .f32) = crewOut j c (cn .f32 f) (cn .f32 r)) := by
              show _ = _
              rw [Ho.out, List.take_of_length_le (by rw [List.length_map, crewL_len]; omega)]
              rfl
            go_wp2_with fail
            refine (l02List_any _ os _ RO).mono ?_
            rintro e w5 ⟨rfl, hx5⟩
            go_wp2_with fail
            go_ret2
            exact crewPost_of HP.out ((X1.trans X2).trans hx5) HO.out Hob.out (World.ownsRow.mono (own_ext own hx5) (X1.size))
  · have hp : crewPre m c (cn .f32 f) (cn .f32 r) = false := by simpa using hpre
    refine (?_ : Calls Try.prog 42 #[.int .i64 m, .int .i64 c, .float .f32 f, .float .f32 r] w fun e w' => e = .returned (.tuple #[.slice none 0 0, .bool false]) ∧ Ext w w').mono ?_
    · have HP := Lib.hid hp
      clear hp hpre
      cases h1 : inB m 1 16
      · have H1 := Lib.hid h1
        clear h1
        go_enter Try.func42, Try.ntmps42
        go_wp2_with fail
        refine (l00In_eq H1.out _).mono ?_
        rintro e w1 ⟨rfl, rfl⟩
        go_wp2_with fail
        go_ret2
        exact ⟨rfl, Ext.refl _⟩
      · cases h2 : inB c 1 m
        · have H1 := Lib.hid h1
          have H2 := Lib.hid h2
          clear h1 h2
          go_enter Try.func42, Try.ntmps42
          go_wp2_with fail
          refine (l00In_eq H1.out _).mono ?_
          rintro e w1 ⟨rfl, rfl⟩
          go_wp2_with fail
          refine (l00In_eq H2.out _).mono ?_
          rintro e w1 ⟨rfl, rfl⟩
          go_wp2_with fail
          go_ret2
          exact ⟨rfl, Ext.refl _⟩
        · cases h3 : leastB (cn .f32 f)
          · have H1 := Lib.hid h1
            have H2 := Lib.hid h2
            have H3 := Lib.hid h3
            clear h1 h2 h3
            go_enter Try.func42, Try.ntmps42
            go_wp2_with fail
            refine (l00In_eq H1.out _).mono ?_
            rintro e w1 ⟨rfl, rfl⟩
            go_wp2_with fail
            refine (l00In_eq H2.out _).mono ?_
            rintro e w1 ⟨rfl, rfl⟩
            go_wp2_with fail
            refine (l02Least_eq H3.out _).mono ?_
            rintro e w1 ⟨rfl, X⟩
            go_wp2_with fail
            go_ret2
            exact ⟨rfl, X⟩
          · have h4 : aboveB (cn .f32 r) = false := by
              have := HP.out
              simpa [crewPre, h1, h2, h3] using this
            have H1 := Lib.hid h1
            have H2 := Lib.hid h2
            have H3 := Lib.hid h3
            have H4 := Lib.hid h4
            clear h1 h2 h3 h4
            go_enter Try.func42, Try.ntmps42
            go_wp2_with fail
            refine (l00In_eq H1.out _).mono ?_
            rintro e w1 ⟨rfl, rfl⟩
            go_wp2_with fail
            refine (l00In_eq H2.out _).mono ?_
            rintro e w1 ⟨rfl, rfl⟩
            go_wp2_with fail
            refine (l02Least_eq H3.out _).mono ?_
            rintro e w1 ⟨rfl, X⟩
            go_wp2_with fail
            refine (l02Above_eq2 H4.out _).mono ?_
            rintro e w2 ⟨rfl, hx⟩
            go_wp2_with fail
            go_ret2
            exact ⟨rfl, X.trans hx⟩
    · rintro e w1 ⟨rfl, X⟩
      exact crewPost_no hp X

theorem min_int (ats : Array TypeId) (ty : TypeId) (k : IntKind) (a b : Int) : Builtin.min_ ats ty #[.int k a, .int k b] = pure (.int k (minI a b)) := by
  have h : (if b < a then b else a) = minI a b := by unfold minI; split <;> split <;> omega
  show (pure (Value.int k (if b < a then b else a)) : Sem Value) = _
  rw [h]
theorem crew_head (m c : Int) (f r : Nat) : ∀ k, crewL m c f r k = cn .f32 1065353216 :: (crewL m c f r k).drop 1
  | 0 => rfl
  | k + 1 => by
    rw [crewL_take]
    exact congrArg (fun l => l ++ [crewStep m c f r (k + 1) ((crewL m c f r k).getD k 0)]) (crew_head m c f r k)
theorem crew_sum0 (m c : Int) (f r : Nat) (k : Nat) : sumF (cn .f32 0) (crewL m c f r k) = crewSum m c f r k := by
  rw [crew_head]
  unfold crewSum sumF
  rw [List.foldl_cons]
  have h : fop .add .f32 (cn .f32 0) (cn .f32 1065353216) = cn .f32 1065353216 := by decide +kernel
  rw [h]
theorem areNotLess_one {b : Nat} {c : Bool} (h : leastB (cn .f32 b) = c) (w : World) (v : Value) (R : RdF w v [b]) :
    Calls Try.prog 63 #[v] w fun e w' => e = .returned (.bool c) ∧ Ext w w' := by
  subst h
  refine (areNotLess_any v [b] w R).mono ?_
  rintro e w' ⟨rfl, X⟩
  exact ⟨by simp, X⟩
theorem areMore_one {b : Nat} {c : Bool} (h : aboveB (cn .f32 b) = c) (w : World) (v : Value) (R : RdF w v [b]) :
    Calls Try.prog 89 #[v] w fun e w' => e = .returned (.bool c) ∧ Ext w w' := by
  subst h
  refine (areMore_any v [b] w R).mono ?_
  rintro e w' ⟨rfl, X⟩
  exact ⟨by simp, X⟩
theorem RdF_one (w : World) (b : Nat) (hb : b < 4294967296) : RdF (w.alloc (.cells #[.float .f32 b] 40)) (.slice (some ⟨w.heap.size, 0, none⟩) 1 1) [b] :=
  ⟨own_rd (B := w.heap.size) (e := 40) (World.ownsRow_lit w #[.float .f32 b] 1 (Nat.le_refl _) (by decide) rfl), fun x hx => by obtain rfl := List.mem_singleton.1 hx; exact hb⟩

attribute [local go_sem ↓] min_int
attribute [local go_sem] run_store_float

set_option maxHeartbeats 4000000 in
theorem implCrew_any (m c : Int) (f r : Nat) (w : World) (hf : f < 4294967296) (hr : r < 4294967296) :
    Calls Try.prog 43 #[.int .i64 m, .int .i64 c, .float .f32 f, .float .f32 r] w (CrewPost m c (cn .f32 f) (cn .f32 r) w) := by
  have HF := Lib.hid hf
  have HR := Lib.hid hr
  clear hf hr
  by_cases hpre : crewPre m c (cn .f32 f) (cn .f32 r) = true
  · have hp := hpre
    simp only [crewPre, Bool.and_eq_true] at hp
    obtain ⟨⟨⟨p1, p2⟩, p3⟩, p4⟩ := hp
    have q1 := inB_iff.1 p1
    have q2 := inB_iff.1 p2
    obtain ⟨M, rfl⟩ := Int.eq_ofNat_of_zero_le (show 0 ≤ m by omega)
    have P1 := Lib.hid p1
    have P2 := Lib.hid p2
    have P3 := Lib.hid p3
    have P4 := Lib.hid p4
    have HP := Lib.hid hpre
    obtain ⟨m1, m16⟩ := q1
    obtain ⟨c1, cm⟩ := q2
    clear p1 p2 p3 p4 hpre
    go_enter Try.func43, Try.ntmps43
    go_wp2_with fail
    refine (within_eq P1.out _).mono ?_
    rintro e w1 ⟨rfl, rfl⟩
    go_wp2_with fail
    refine (within_eq P2.out _).mono ?_
    rintro e w1 ⟨rfl, rfl⟩
    go_wp2_with fail
    refine (areNotLess_one P3.out _ _ (RdF_one _ f HF.out)).mono ?_
    rintro e w1 ⟨rfl, X⟩
    replace X := (Ext.alloc _ _).trans X
    go_wp2_with fail
    refine (areMore_one P4.out _ _ (RdF_one _ r HR.out)).mono ?_
    rintro e w2 ⟨rfl, hx⟩
    replace X := X.trans ((Ext.alloc _ _).trans hx)
    clear hx
    go_wp2_with fail
    go_loopw [10, 11] (fun l i wr => ∃ (j g cap : Nat) (us : List Nat), j < M + 1 ∧ l = .slice (some ⟨g, 0, none⟩) (j + 1) cap ∧ i = .int .i64 ((j : Int) + 1) ∧
        us.length = j + 1 ∧ Hid (us.map (cn .f32) = crewL M c (cn .f32 f) (cn .f32 r) j) ∧ Hid (∀ b ∈ us, b < 4294967296) ∧
        wr.ownsRow w.heap.size 40 1 (.slice (some ⟨g, 0, none⟩) (j + 1) cap) (j + 1) (us.map (Value.float .f32)) ∧ Ext w wr) (fun _ i _ => M + 1 - (intOf i).toNat)
    case atStart =>
      refine ⟨0, w2.heap.size, 1, [1065353216], by omega, rfl, rfl, rfl, rfl, ?_, ?_, Ext.trans X (Ext.alloc _ _)⟩
      · show ∀ _ ∈ _, _; intro b hb; simp at hb; subst hb; decide
      · exact World.ownsRow.mono (World.ownsRow_lit w2 #[.float .f32 1065353216] 1 (Nat.le_refl _) (by decide) rfl) X.size
    case round =>
      obtain ⟨j, g, cap, us, hj, rfl, rfl, hus, Hl, Hb, own, X1⟩ := hrel
      by_cases hlt : j < M
      · have hc0 := own.cellAt j (by omega)
        have hf0 := own.frozenAt j
        rw [List.getElem?_map, List.getElem?_eq_getElem (by omega)] at hc0
        simp only [Option.map_some] at hc0
        have hg0 := (own.lt g rfl).2
        go_wp2_with (first | (refine wpList_fop rfl rfl rfl rfl rfl ?_; intro fb nf hfb hfl; replace hfb := Lib.hid hfb; replace hfl := Lib.hid hfl) | (at_builtin; refine wpList_push infoF32 rfl Try.underlying30 rfl rfl rfl (World.ownsRow.alloc (w := World.drewN _ _) own _) rfl (Bx.new _ [_] _).one rfl (by omega) (by decide) (X1.trans ((Ext.drewN _ _).trans (Ext.alloc _ _))).size ?_; intro g2 cap2 w4 hg2 own2 bel2 sz2))
        rename_i a1 n1 e1 l1 a2 n2 e2 l2 a3 n3 e3 l3
        go_roundw
        case rel =>
          have hX : Hid (cn .f32 fb = crewStep M c (cn .f32 f) (cn .f32 r) (j + 1) ((crewL M c (cn .f32 f) (cn .f32 r) j).getD j 0)) := by
            show _ = _
            rw [← Hl.out]
            simp only [List.getD_eq_getElem?_getD, List.getElem?_map, List.getElem?_eq_getElem (show j < us.length by omega), Option.map_some, Option.getD_some]
            rw [hfb.out, e2.out, e1.out, e3.out, cn_ofI, cn_ofI]
            rfl
          refine ⟨j + 1, g2, cap2, us ++ [fb], by omega, rfl, by go_num, by simp [hus], ?_, ?_, by rw [List.map_append]; exact own2, bel2 w (X1.trans ((Ext.drewN _ _).trans (Ext.alloc _ _)))⟩
          · show _ = _
            rw [List.map_append, Hl.out, List.map_cons, hX.out]
            rfl
          · show ∀ _ ∈ _, _
            intro x hx
            rcases List.mem_append.1 hx with h | h
            · exact Hb.out x h
            · obtain rfl := List.mem_singleton.1 h
              exact hfl.out
        case measure => simp [intOf]; omega
      · have hjM : j = M := by omega
        subst hjM
        have R : RdF wr (.slice (some ⟨g, 0, none⟩) (j + 1) cap) us := ⟨by rw [hus]; exact own_rd own, Hb.out⟩
        go_wp2_with fail
        refine (addUp_any _ us _ R).mono ?_
        rintro e w3 ⟨s, rfl, hs, hsl, hx3⟩
        have Hs : Hid (cn .f32 s = crewSum j c (cn .f32 f) (cn .f32 r) j) := by
          show _ = _
          rw [hs, Hl.out, crew_sum0]
        have X3 := X1.trans hx3
        replace own := own_ext own hx3
        clear hs hsl hx3 R
        go_wp2_with fail
        go_loopw [70] (fun i wq => ∃ (k : Nat) (os : List Nat), k ≤ j + 1 ∧ i = .int .i64 k ∧ os.length = k ∧
          Hid (os.map (cn .f32) = ((crewL j c (cn .f32 f) (cn .f32 r) j).map fun u => fop .quo .f32 u (crewSum j c (cn .f32 f) (cn .f32 r) j)).take k) ∧ Hid (∀ b ∈ os, b < 4294967296) ∧
          wq.ownsRow w.heap.size 40 1 (.slice (some ⟨g, 0, none⟩) (j + 1) cap) (j + 1) ((os ++ us.drop k).map (Value.float .f32)) ∧ Ext w wq) (fun i _ => j + 1 - (intOf i).toNat)
        case atStart =>
          refine ⟨0, [], by omega, rfl, rfl, (by show _ = _; simp), ?_, own, X3⟩
          show ∀ _ ∈ _, _; intro b hb; simp at hb
        case round =>
          obtain ⟨k, os, hk, rfl, hos, Ho, Hob, own2, X4⟩ := hrel
          clear own
          by_cases hlt2 : k < j + 1
          · have hc0 := own2.cellAt k (by omega)
            have hf0 := own2.frozenAt k
            have hg0 := (own2.lt g rfl)
            have hk1 : k < us.length := by omega
            rw [List.getElem?_map, List.getElem?_append_right (by omega), hos, Nat.sub_self, List.getElem?_drop, Nat.add_zero, List.getElem?_eq_getElem hk1] at hc0
            simp only [Option.map_some] at hc0
            go_wp2_with (first | (refine wpList_fop rfl rfl rfl rfl rfl ?_; intro fb nf hfb hfl; replace hfb := Lib.hid hfb; replace hfl := Lib.hid hfl))
            go_roundw
            case rel =>
              have e : ((os ++ us.drop k).map (Value.float .f32)).set k (.float .f32 fb) = ((os ++ [fb]) ++ us.drop (k + 1)).map (Value.float .f32) := by
                rw [← List.map_set]
                congr 1
                rw [List.set_append_right _ _ (by omega), hos, Nat.sub_self, List.drop_eq_getElem_cons hk1, List.set_cons_zero]
                simp
              refine ⟨k + 1, os ++ [fb], by omega, by go_num, by simp [hos], ?_, ?_, e ▸ (World.ownsRow.stored (w := World.drewN _ _) own2 k (.float .f32 fb)).1, Below.setCell (X4.trans (Ext.drewN _ _)) hg0.1 _⟩
              · show _ = _
                rw [List.map_append, Ho.out, List.take_add_one, ← Hl.out, List.map_cons, hfb.out, Hs.out]
                simp [hk1]
              · show ∀ _ ∈ _, _
                intro x hx
                rcases List.mem_append.1 hx with h | h
                · exact Hob.out x h
                · obtain rfl := List.mem_singleton.1 h
                  exact hfl.out
            case measure => simp [intOf]; omega
          · have hkj : k = j + 1 := by omega
            subst hkj
            rw [List.drop_of_length_le (by omega), List.append_nil] at own2
            have RO : RdF wr (.slice (some ⟨g, 0, none⟩) (j + 1) cap) os := ⟨by rw [hos]; exact own_rd own2, Hob.out⟩
            have HO : Hid (os.map (cn .f32) = crewOut j c (cn .f32 f) (cn .f32 r)) := by
              show _ = _
              rw [Ho.out, List.take_of_length_le (by rw [List.length_map, crewL_len]; omega)]
              rfl
            go_wp2_with fail
            refine (ifAll_any _ os _ RO).mono ?_
            rintro e w5 ⟨rfl, hx5⟩
            go_wp2_with fail
            go_ret2
            have hfin := crewPost_of (g := g) (cap := cap) HP.out (X4.trans hx5) HO.out Hob.out (by rw [hos]; exact own_ext own2 hx5)
            rw [hos] at hfin
            exact hfin
  · have hp : crewPre m c (cn .f32 f) (cn .f32 r) = false := by simpa using hpre
    refine (?_ : Calls Try.prog 43 #[.int .i64 m, .int .i64 c, .float .f32 f, .float .f32 r] w fun e w' => e = .returned (.tuple #[.slice none 0 0, .bool false]) ∧ Ext w w').mono ?_
    · have HP := Lib.hid hp
      clear hp hpre
      cases h1 : inB m 1 16
      · have H1 := Lib.hid h1
        clear h1
        go_enter Try.func43, Try.ntmps43
        go_wp2_with fail
        refine (within_eq H1.out _).mono ?_
        rintro e w1 ⟨rfl, rfl⟩
        go_wp2_with fail
        go_ret2
        exact ⟨rfl, Ext.refl _⟩
      · cases h2 : inB c 1 m
        · have H1 := Lib.hid h1
          have H2 := Lib.hid h2
          clear h1 h2
          go_enter Try.func43, Try.ntmps43
          go_wp2_with fail
          refine (within_eq H1.out _).mono ?_
          rintro e w1 ⟨rfl, rfl⟩
          go_wp2_with fail
          refine (within_eq H2.out _).mono ?_
          rintro e w1 ⟨rfl, rfl⟩
          go_wp2_with fail
          go_ret2
          exact ⟨rfl, Ext.refl _⟩
        · cases h3 : leastB (cn .f32 f)
          · have H1 := Lib.hid h1
            have H2 := Lib.hid h2
            have H3 := Lib.hid h3
            clear h1 h2 h3
            go_enter Try.func43, Try.ntmps43
            go_wp2_with fail
            refine (within_eq H1.out _).mono ?_
            rintro e w1 ⟨rfl, rfl⟩
            go_wp2_with fail
            refine (within_eq H2.out _).mono ?_
            rintro e w1 ⟨rfl, rfl⟩
            go_wp2_with fail
            refine (areNotLess_one H3.out _ _ (RdF_one _ f HF.out)).mono ?_
            rintro e w1 ⟨rfl, X⟩
            go_wp2_with fail
            go_ret2
            exact ⟨rfl, (Ext.alloc _ _).trans X⟩
          · have h4 : aboveB (cn .f32 r) = false := by
              have := HP.out
              simpa [crewPre, h1, h2, h3] using this
            have H1 := Lib.hid h1
            have H2 := Lib.hid h2
            have H3 := Lib.hid h3
            have H4 := Lib.hid h4
            clear h1 h2 h3 h4
            go_enter Try.func43, Try.ntmps43
            go_wp2_with fail
            refine (within_eq H1.out _).mono ?_
            rintro e w1 ⟨rfl, rfl⟩
            go_wp2_with fail
            refine (within_eq H2.out _).mono ?_
            rintro e w1 ⟨rfl, rfl⟩
            go_wp2_with fail
            refine (areNotLess_one H3.out _ _ (RdF_one _ f HF.out)).mono ?_
            rintro e w1 ⟨rfl, X⟩
            go_wp2_with fail
            refine (areMore_one H4.out _ _ (RdF_one _ r HR.out)).mono ?_
            rintro e w2 ⟨rfl, hx⟩
            go_wp2_with fail
            go_ret2
            exact ⟨rfl, ((Ext.alloc _ _).trans X).trans ((Ext.alloc _ _).trans hx)⟩
    · rintro e w1 ⟨rfl, X⟩
      exact crewPost_no hp X

end Go.Proofs.Ytnlnjhbckfcmfaa
