/- FnExactValidChain returns true for every input and changes nothing that was there. No condition. -/
import Derived.Test.YtnlnjhbckfcmfaaC
namespace Go.Proofs.Ytnlnjhbckfcmfaa
open Go Go.RowKit Go.ChangeShapes Go.WideShapes Go.ChangeAt

theorem div_of_lt {n i : Nat} (hn : 1 ≤ n) (hi : i < n * n) (hd : i % (n + 1) = 0) : ∃ k, k < n ∧ i = k * n + k := by
  refine ⟨i / (n + 1), ?_, ?_⟩
  · apply Nat.div_lt_of_lt_mul
    have : (n + 1) * n = n * n + n := by rw [Nat.add_mul]; omega
    omega
  · have h := Nat.div_add_mod i (n + 1)
    rw [hd, Nat.add_zero] at h
    have : (n + 1) * (i / (n + 1)) = i / (n + 1) * n + i / (n + 1) := by rw [Nat.mul_comm, Nat.mul_add, Nat.mul_one]
    omega

/-- The program asks the same of a chain as the reference. -/
theorem chainOk_same (n : Int) (bs : List Nat) : chainOkI n bs = chainOk n bs := by
  unfold chainOkI chainOk
  cases hin : inB n 1 8 with
  | false => rfl
  | true =>
    by_cases hlen : (bs.length : Int) = n * n
    · have hn8 := inB_iff.1 hin
      obtain ⟨m, rfl⟩ := Int.eq_ofNat_of_zero_le (show 0 ≤ n by omega)
      have hl : bs.length = m * m := by exact_mod_cast hlen
      simp only [hlen, decide_true, Bool.true_and, Int.toNat_natCast]
      rw [Bool.eq_iff_iff]
      simp only [Bool.and_eq_true, List.all_eq_true, List.mem_range, List.mem_map, forall_exists_index, and_imp, forall_apply_eq_imp_iff₂]
      constructor
      · rintro ⟨h1, h2⟩ i hi
        have hg : bs.getD i 0 = bs[i] := by simp [hi]
        unfold diagB
        rw [hg, h1 _ (List.getElem_mem hi)]
        by_cases hd : i % (m + 1) = 0
        · obtain ⟨k, hk, rfl⟩ := div_of_lt (by omega) (by omega) hd
          have := h2 k hk
          rw [hg] at this
          simpa [hd] using this
        · simp [hd]
      · intro h
        refine ⟨fun x hx => ?_, fun k hk => ?_⟩
        · obtain ⟨i, hi, rfl⟩ := List.getElem_of_mem hx
          have hg : bs.getD i 0 = bs[i] := by simp [hi]
          have := h i hi
          unfold diagB at this
          rw [hg, Bool.and_eq_true] at this
          exact this.1
        · have hi : k * m + k < bs.length := by
            have h4 : (k + 1) * m ≤ m * m := Nat.mul_le_mul_right m hk
            have h5 : (k + 1) * m = k * m + m := Nat.succ_mul k m
            omega
          have := h _ hi
          unfold diagB at this
          rw [Bool.and_eq_true] at this
          have hd : (k * m + k) % (m + 1) = 0 := by
            have : k * m + k = (m + 1) * k := by rw [Nat.mul_comm, Nat.add_mul]; omega
            rw [this, Nat.mul_mod_right]
          simpa [hd] using this.2
    · have : ((bs.length : Int) == n * n) = false := by simpa using hlen
      simp [hlen]

def ChV (p : Int) (bs : List Nat) (v : Value) : Prop := ∃ g, v = .agg #[.int .i64 p, .slice (some ⟨g, 0, none⟩) bs.length bs.length]
def ChW (p : Int) (bs : List Nat) (v : Value) (w : World) : Prop := ∃ g, v = .agg #[.int .i64 p, .slice (some ⟨g, 0, none⟩) bs.length bs.length] ∧ RdF w (.slice (some ⟨g, 0, none⟩) bs.length bs.length) bs
theorem ChW.st (p : Int) (bs : List Nat) (v : Value) : St (ChW p bs v) := fun _ _ ⟨g, h1, h2⟩ hx => ⟨g, h1, h2.ext hx⟩
theorem ChW.rd {p : Int} {bs : List Nat} {a : Option Addr} {n : Nat} {w : World} (h : ChW p bs (.agg #[.int .i64 p, .slice a n n]) w) : RdF w (.slice a n n) bs := by
  obtain ⟨g, e, hr⟩ := h
  simp at e
  obtain ⟨rfl, rfl, _⟩ := e
  exact hr

theorem specValidChain_any (n : Int) (v : Value) (bs : List Nat) (w : World) (r : RdF w v bs) (hn : bs.length ≤ 1048576) :
    Calls Try.prog 21 #[.agg #[.int .i64 n, v]] w fun e w' => e = .returned (.bool (chainOk n bs)) ∧ Ext w w' := by
  have r' := r
  obtain ⟨⟨_, a1, c1, rfl, _, _, _, _⟩, _⟩ := r
  go_enter Try.func21, Try.ntmps21
  go_wp2_with fail
  refine (l04Is_any n _ bs w.heap.size _ (Bx.new w _ _) (r'.ext (Ext.alloc _ _)) hn).mono ?_
  rintro e w1 ⟨rfl, X⟩
  go_wp2_with fail
  go_ret
  exact ⟨rfl, (Ext.alloc _ _).trans X⟩

set_option maxHeartbeats 400000 in
theorem validChain_law (p : Int) (v1 : Value) (bs : List Nat) (w : World) (r1 : RdF w v1 bs) :
    Calls Try.prog 4 #[.agg #[.int .i64 p, v1]] w fun e w' => e = .returned (.bool true) ∧ Ext w w' := by
  have r1' := r1
  obtain ⟨⟨_, a1, c1, rfl, p1, p2, _, _⟩, _⟩ := r1
  have hm1 : bs.length ≤ maxLen := by omega
  clear p1 p2
  have Hsame := Lib.hid (chainOk_same p bs)
  go_enter Try.func4, Try.ntmps4
  go_wp2_with fail
  generalize hW : World.alloc w _ = W
  have X : Ext w W := hW ▸ Ext.alloc _ _
  have b1 : Bx W w.heap.size [.int .i64 p, .slice a1 bs.length c1] := hW ▸ Bx.new w _ _
  clear hW
  replace r1' := r1'.ext X
  refine (szChain_any _ _ _ _ _ _ hm1 (by omega) (by omega)).mono ?_
  rintro e w1 ⟨rfl, hx⟩
  replace X := X.trans hx; replace b1 := b1.ext hx; replace r1' := r1'.ext hx
  clear hx W
  by_cases h : (1048576 : Int) - bs.length < 0
  · rw [if_pos h]
    go_wp2_with fail
    go_ret
    exact ⟨rfl, X⟩
  · rw [if_neg h]
    obtain ⟨c1a, c1b⟩ := b1.two
    go_wp2_with fail
    refine (toChain_any p a1 c1 _ bs _ r1' (by omega)).mono ?_
    rintro e w2 ⟨g2, rfl, hx, r2⟩
    clear c1a c1b
    replace X := X.trans hx; replace b1 := b1.ext hx; replace r1' := r1'.ext hx
    clear hx w1
    go_wp2_with fail
    refine (specValidChain_any p _ bs _ r2 (by omega)).mono ?_
    rintro e w3 ⟨rfl, hx⟩
    replace X := X.trans hx; replace b1 := b1.ext hx; replace r1' := r1'.ext hx
    clear hx r2 w2
    obtain ⟨c1a, c1b⟩ := b1.two
    go_wp2_with fail
    refine (toChain_any p a1 c1 _ bs _ r1' (by omega)).mono ?_
    rintro e w4 ⟨g3, rfl, hx, r3⟩
    clear c1a c1b
    replace X := X.trans hx; replace b1 := b1.ext hx; replace r1' := r1'.ext hx
    clear hx w3
    obtain ⟨c1a, c1b⟩ := b1.two
    have z1 := b1.1
    go_wp2_with fail
    have b3 : Bx (w4.alloc (.cells #[.int .i64 p, .slice (some ⟨g3, 0, none⟩) bs.length bs.length] 35)) w4.heap.size [.int .i64 p, .slice (some ⟨g3, 0, none⟩) bs.length bs.length] := Bx.new _ _ _
    generalize hW : World.alloc w4 _ = W at b3
    have hx : Ext w4 W := hW ▸ Ext.alloc _ _
    clear hW c1a c1b z1
    replace X := X.trans hx; replace b1 := b1.ext hx; replace r1' := r1'.ext hx; replace r3 := r3.ext hx
    clear hx
    generalize w4.heap.size = B3 at *
    clear w4
    refine (implValidChain_any p _ bs _ r3 (by omega)).mono ?_
    rintro e w6 ⟨rfl, hx⟩
    replace X := X.trans hx; replace b1 := b1.ext hx; replace r1' := r1'.ext hx; replace r3 := r3.ext hx; replace b3 := b3.ext hx
    clear hx W
    rw [Hsame.out]
    go_wp2_with fail
    refine wp_region_rel 5 (fun i v => match i with | 2 => ChV p bs v | _ => v = .bool true)
      (fun i v w => match i with | 2 => ChW p bs v w | _ => True) (by kernel_rfl) (by kernel_rfl) (by kernel_rfl) ?_
    dsimp only [List.take, List.drop, List.length]
    refine LX_det (.agg #[.int .i64 p, .slice (some ⟨g3, 0, none⟩) bs.length bs.length]) rfl rfl (fun w' hx _ => ?_) ?_
    · obtain ⟨k1, k2⟩ := (b3.ext hx).two
      go_simp
    refine LX_det (.agg #[.int .i64 p, .slice a1 bs.length c1]) rfl rfl (fun w' hx _ => ?_) ?_
    · obtain ⟨k1, k2⟩ := (b1.ext hx).two
      go_simp
    refine LX_call rfl rfl (ChW.st p bs) (fun w' hx _ => ?_) ?_
    · go_simp
      refine UponC.enter ((toChain_any p a1 c1 _ bs _ (r1'.ext hx) (by omega)).mono ?_)
      rintro e w'' ⟨g, rfl, hx', hr⟩
      exact ⟨_, rfl, hx', ⟨g, rfl⟩, g, rfl, hr⟩
    rintro _ ⟨g5, rfl⟩
    refine LX_call rfl rfl (fun _ => St.top) (fun w' hx hg => ?_) ?_
    · have h1 := ChW.rd (show ChW p bs _ w' from (hg 24 (by decide)).2 rfl)
      clear hg
      go_simp
      refine UponC.enter ((eqChain_any p _ _ bs bs _ (r3.ext hx) h1 rfl).mono ?_)
      rintro e w'' ⟨rfl, hx'⟩
      exact ⟨_, rfl, hx', rfl, trivial⟩
    rintro _ rfl
    refine LX_det (.bool false) rfl rfl (fun w' hx _ => ?_) ?_
    · go_simp
    refine LX_nil fun W hx hg => ?_
    replace X := X.trans hx
    clear hx hg
    refine wpList_nil ?_
    simp only [Act.put, List.setIfInBounds_toArray, List.set_cons_succ, List.set_cons_zero]
    go_wp2_with fail
    go_ret
    exact ⟨rfl, X⟩

theorem validChain_walk (v1 : Value) (w : World) (h1 : ArgChain w v1) :
    Calls Try.prog 4 #[v1] w fun e w' => e = .returned (.bool true) ∧ Ext w w' := by
  obtain ⟨p, a, l, c, bs, rfl, _, r1⟩ := h1
  exact validChain_law p _ bs w r1

theorem fnExactValidChain_own : ownKnob Try.prog.godebug = none := by kernel_rfl
theorem fnExactValidChain_laid : laidOutB Try.prog = true := by kernel_rfl

set_option maxRecDepth 100000 in
theorem fnExactValidChain_lifted (os : Os) (started : os.Started) (H : Type) (enc : TypeId × Value → H) :
    ReturnsInHanded {} Try.checked os 4 .any (Rows.fnExactValidChainSpec.pre6 enc Try.prog Try.f4 Rows.fnExactValidChainRow.domain false) (Rows.fnExactValidChainSpec.post enc Try.prog Try.f4 false true false false) := by
  refine returnsInHanded_of_change (C := Try.checked) fnExactValidChain_own started (by kernel_rfl) Try.func4
    (ChangeSpec.witness6 (enc := enc) (C := Try.checked) false ⟨#[], #[.agg #[.int .i64 0, .slice none 0 0]], []⟩ 8 (by kernel_rfl) (by kernel_rfl) (by kernel_rfl) (by kernel_rfl)) ?_
  intro W base args ds gs before hval0 hW hcnd _
  have hval : ∀ (j : Nat) t v, Try.f4.params[j]? = some t → args[j]? = some v → Value.okWide Try.prog W .any base t v := hval0
  have hW' := hW
  obtain ⟨p, q, hA0, hV, rfl, hfz, hnd⟩ := hW
  have hA : DataW.TrodAll enc Try.prog W 0 (fun _ => true) true Try.f4.params.toList args.toList ds p := hA0
  rw [Try.params4] at hA hval
  obtain ⟨v0, vs0, d0, ds0, p0, q0, hargs, rfl, rfl, h0, r0⟩ := trodAll_cons hA
  obtain ⟨rfl, rfl, rfl⟩ := trodAll_nil r0
  obtain rfl : args = #[v0] := by cases args; simp_all
  obtain ⟨rfl, rfl⟩ := trodVars_none hV
  have lt0 : ∀ x ∈ p0, x.block < W.heap.size := by obtain ⟨m, hm⟩ := h0; exact DataW.trod_lt m _ _ _ hm
  have w0 := argChain Try.underlying32 (by kernel_rfl) (by kernel_rfl) Try.underlying2 Try.underlying30 Try.underlying40 (by kernel_rfl) (hval 0 32 v0 rfl rfl) h0
  clear hA0 hval0
  refine (validChain_walk v0 W w0).mono fun e W' ⟨he, bel⟩ => ?_
  subst he
  exact ⟨_, rfl, _, _, _, [], _, [], hW', trodAll_mk1 (shut_bool Try.underlying4 _), (trodAll_cons_mk (Below.trod fnExactValidChain_laid (by kernel_rfl) (of_decide_eq_true (by kernel_rfl)) h0 bel lt0) trodAll_mk0), rfl, bel.below.frame _, fun h => by cases h⟩

theorem fnExactValidChain_toL {s : String} {L : List Char} (h : s = String.ofList L) : s.toList = L := by rw [h]; exact String.toList_ofList
def fnExactValidChain_enterF (P : Program) : { F : List Char → Bool // P.mayEnter = F P.initOrder.toList } :=
  ⟨_, by unfold Program.mayEnter; generalize P.initOrder.toList = l; exact rfl⟩
def fnExactValidChain_liftsF (P : Program) : { F : List Char → Bool // P.liftsFinal = F P.initOrder.toList } :=
  ⟨_, by unfold Program.liftsFinal Program.headLifts; generalize P.initOrder.toList = l; exact rfl⟩
def fnExactValidChain_makeF (P : Program) : { F : List Char → Option Make // P.make = F P.initOrder.toList } :=
  ⟨_, by unfold Program.make; generalize P.initOrder.toList = l; exact rfl⟩
set_option maxRecDepth 100000 in
theorem fnExactValidChain_enter : Try.checked.prog.mayEnter = true :=
  ((fnExactValidChain_enterF Try.checked.prog).2.trans (congrArg (fnExactValidChain_enterF Try.checked.prog).1 (fnExactValidChain_toL (rfl : Try.checked.prog.initOrder = String.ofList _)))).trans (by kernel_rfl)
set_option maxRecDepth 100000 in
theorem fnExactValidChain_lifts : Try.checked.prog.liftsFinal = false :=
  ((fnExactValidChain_liftsF Try.checked.prog).2.trans (congrArg (fnExactValidChain_liftsF Try.checked.prog).1 (fnExactValidChain_toL (rfl : Try.checked.prog.initOrder = String.ofList _)))).trans (by kernel_rfl)
set_option maxRecDepth 100000 in
theorem fnExactValidChain_make : Try.checked.prog.make = some .cut :=
  ((fnExactValidChain_makeF Try.checked.prog).2.trans (congrArg (fnExactValidChain_makeF Try.checked.prog).1 (fnExactValidChain_toL (rfl : Try.checked.prog.initOrder = String.ofList _)))).trans (by kernel_rfl)
set_option maxRecDepth 100000 in
theorem fnExactValidChain_closed : joinedFacts Try.checked.prog 4 Try.f4 Rows.fnExactValidChainSpec Rows.fnExactValidChainRow = true := by
  unfold joinedFacts
  rw [fnExactValidChain_enter, fnExactValidChain_lifts, fnExactValidChain_make]
  decide +kernel

theorem fnExactValidChain_over : Rows.fnExactValidChainRow.holds Try.pinned (OpenSpec.ofChange Rows.fnExactValidChainSpec) :=
  OpenClaim.holds_of_wide 4 Try.f4 rfl rfl rfl rfl rfl rfl rfl ⟨rfl, rfl, rfl, rfl, rfl⟩ rfl rfl rfl rfl rfl (by kernel_rfl) Try.func4 fnExactValidChain_closed
    (of_decide_eq_true (by kernel_rfl)) (by unfold Func.isWrapper; first | (rw [if_pos (by decide +kernel)]; kernel_rfl) | (rw [if_neg (by decide +kernel)]; exact ⟨rfl, rfl⟩))
    (fun os started H enc _ => fnExactValidChain_lifted os started H enc)

/-- The statement. -/
theorem fnExactValidChain_holds : Rows.FnExactValidChainSaid := fnExactValidChain_over


end Go.Proofs.Ytnlnjhbckfcmfaa
