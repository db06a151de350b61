
/- A tree that is drawn. Conditions: bytes that can be read, at most 2^20 of them; one to five parts. -/
import Derived.Test.YtgmdoboeenpjpaaSa
import Derived.Test.YtgmdoboeenpjpaaTW
namespace Go.Proofs.Ytgmdoboeenpjpaa
open Go Go.RowKit Go.ChangeShapes Go.WideShapes Go.ChangeAt

attribute [local irreducible] LX
/-- All blocks as they were, but one. -/
def Hk (W w : World) (bs : Nat) : Prop := W.heap.size ≤ w.heap.size ∧ ∀ b, b < W.heap.size → b ≠ bs → w.heap[b]? = W.heap[b]?
theorem Hk.refl (W : World) (bs : Nat) : Hk W W bs := ⟨Nat.le_refl _, fun _ _ _ => rfl⟩
theorem Hk.trans {A B C : World} {bs : Nat} (h : Hk A B bs) (k : Hk B C bs) : Hk A C bs := ⟨Nat.le_trans h.1 k.1, fun b hb hn => (k.2 b (Nat.lt_of_lt_of_le hb h.1) hn).trans (h.2 b hb hn)⟩
theorem Hk.ext {A B : World} {bs : Nat} (h : Ext A B) : Hk A B bs := ⟨h.size, fun b hb _ => h.block b hb⟩
theorem Hk.grown {A B : World} {bs : Nat} (h : A.grownBy B (some bs)) : Hk A B bs := ⟨h.size, fun b hb hn => h.block b hb (fun e => hn (Option.some.inj e))⟩
theorem size_set (w : World) (a : Addr) (u : Value) : (w.setCell a u).heap.size = w.heap.size := by simp [World.setCell]
theorem Hk.set {A B : World} {bs b j : Nat} (h : Hk A B bs) (hb : A.heap.size ≤ b) (u : Value) : Hk A (B.setCell ⟨b, j, none⟩ u) bs :=
  ⟨by rw [size_set]; exact h.1, fun c hc hn => (RowKit.Below.heap_setCell _ _ _ _ (by simp only; omega)).trans (h.2 c hc hn)⟩
theorem own_hk {W w : World} {bs B k n : Nat} {e : TypeId} {v : Value} {xs : List Value} (h : W.ownsRow B e k v n xs) (H : Hk W w bs) (hne : v.ownBlock ≠ some bs) : w.ownsRow B e k v n xs := by
  refine ⟨h.1, ?_⟩
  rcases h.2 with hn | ⟨g, cap, cur, rfl, hb, hg, rest⟩
  · exact .inl hn
  · refine .inr ⟨g, cap, cur, rfl, hb, ?_, rest⟩
    rw [H.2 g (Array.getElem?_eq_some_iff.1 hg).1 (fun e => hne (by simp [Value.ownBlock, e]))]
    exact hg
theorem own_base {w : World} {B k n bs : Nat} {e : TypeId} {v : Value} {xs : List Value} (h : w.ownsRow B e k v n xs) (hb : bs < B) : v.ownBlock ≠ some bs := by
  rcases h.2 with ⟨rfl, _⟩ | ⟨g, cap, cur, rfl, hg, _⟩
  · simp [Value.ownBlock]
  · simp [Value.ownBlock]; omega
theorem own_types {w : World} {B B' k k' n n' g cap : Nat} {e e' : TypeId} {v : Value} {xs ys : List Value} (h : w.ownsRow B e k v n xs) (h' : w.ownsRow B' e' k' (.slice (some ⟨g, 0, none⟩) n' cap) n' ys) (hne : e ≠ e') : v.ownBlock ≠ some g := by
  rcases h.2 with ⟨rfl, _⟩ | ⟨g1, cap1, cur, rfl, _, hg, _⟩
  · simp [Value.ownBlock]
  · rcases h'.2 with ⟨h2, _⟩ | ⟨g2, cap2, cur2, h2, _, hg2, _⟩
    · cases h2
    · simp only [Value.slice.injEq, Option.some.injEq, Addr.mk.injEq] at h2
      obtain ⟨⟨rfl, _⟩, _⟩ := h2
      simp only [Value.ownBlock, ne_eq, Option.some.injEq]
      rintro rfl
      rw [hg] at hg2
      simp only [Option.some.injEq, Obj.cells.injEq] at hg2
      exact hne hg2.2.1
theorem bz_set {w : World} {b : Nat} {t : TypeId} {cs : List Value} (h : Bz w b t cs) (j : Nat) (u : Value) : Bz (w.setCell ⟨b, j, none⟩ u) b t (cs.set j u) := by
  have := heap_setCell_same w b j _ _ u h
  unfold Bz
  rw [this]
  simp
theorem bz_hk {W w : World} {b bs : Nat} {t : TypeId} {cs : List Value} (h : Bz W b t cs) (H : Hk W w bs) (hne : b ≠ bs) : Bz w b t cs := (H.2 b h.lt hne).trans h
theorem SrcW.set {w0 W : World} {bs m b j : Nat} {v : Value} {zs : List Int} (h : SrcW w0 bs m v zs W) (hb : bs < b) (u : Value) : SrcW w0 bs m v zs (W.setCell ⟨b, j, none⟩ u) :=
  h.below (B := bs + 1) ((Below.refl _ _).setCell (p := ⟨b, j, none⟩) hb u) (Nat.lt_succ_self _)

/-- What is own of a gate's list. -/
def KidT (B : Nat) (w : World) (x : Gt) : Prop := w.ownsRow B 2 1 x.kv x.kids.length (x.kids.map (Value.int .i64))

/-- append of one gate. -/
theorem wpList_pushG {P : Program} {ops : Array Oper} {rest : List Oper} {o : Oper} {a : Act} {w : World} {Q : Exit → Act → World → Prop} {s x : Operand} {t e : TypeId} {z u0 u1 u2 : Value} {base n : Nat} {v : Value} {xs : List Value} {blk c : Nat}
    (hinfo : (P.info? e).map (fun i => (i.zero, i.size, i.bytes)) = some (some z, 3, 40)) (hz : z.cells.size = 3) (ht : P.underlying t = some (.slice e))
    (hgd : o.guard = none) (ho : o.op = .call { callee := .builtin .append, args := #[s, x], argTypes := #[t, t] })
    (hs : a.eval s = v) (hown : w.ownsRow base e 3 v n xs) (hx : a.eval x = .slice (some ⟨blk, 0, none⟩) 1 c) (hu : Bx w blk [u0, u1, u2]) (h0 : u0.oneCell' = true) (h1 : u1.oneCell' = true) (h2 : u2.oneCell' = true)
    (hn : n + 1 ≤ 1000) (hbase : base ≤ w.heap.size)
    (h : ∀ g cap w', base ≤ g → w'.ownsRow base e 3 (.slice (some ⟨g, 0, none⟩) (n + 1) cap) (n + 1) (xs ++ [u0, u1, u2]) → w.grownBy w' v.ownBlock →
      wpList P ops Q rest (a.put o.dst (.slice (some ⟨g, 0, none⟩) (n + 1) cap)) w') : wpList P ops Q (o :: rest) a w := by
  obtain ⟨i, hi, i1, i2, i3⟩ := info_parts hinfo
  refine wpList_append_own w hgd s x t ho base e i z 3 40 ht hi i1 i2 i3 hz (by omega) v n xs hs hown ⟨blk, 0, none⟩ 1 c [u0, u1, u2] hx rfl ?_ ?_ ?_ ?_ hbase ?_
  · intro j u hj
    have hjl : j < 3 := (List.getElem?_eq_some_iff.1 hj).1
    have := hu.2 j hjl
    rw [hj] at this
    have hadd : (⟨blk, 0, none⟩ : Addr).add j = ⟨blk, j, none⟩ := by unfold Addr.add; split <;> simp_all
    rw [hadd]; exact this
  · intro u hu
    simp only [List.mem_cons, List.not_mem_nil, or_false] at hu
    rcases hu with rfl | rfl | rfl <;> assumption
  · simp only [maxLen]; omega
  · omega
  · intro v' w' hown' hg hnil
    obtain ⟨g, cap, rfl, hbg, _⟩ := own_head hown' (by omega)
    exact h g cap w' hbg hown' hg

set_option maxHeartbeats 1000000 in
theorem one_any (w0 : World) (bs m n : Nat) (v : Value) (zs : List Int) (W : World) (h : SrcW w0 bs m v zs W) (hm : m ≤ 4194304) (hn : 1 ≤ n) (hn2 : n ≤ 200) :
    Calls Try.prog 81 #[.pointer (some ⟨bs, 0, none⟩), .int .i64 n] W fun e W' => (∃ b : Bool, e = .returned (.bool b)) ∧ W.grownBy W' (some bs) ∧ SrcW w0 bs (m + 1) v zs W' := by
  have H := Lib.hid (pick_any w0 bs m n v zs W h hm hn hn2)
  clear h
  go_enter Try.func81, Try.ntmps81
  go_wp2_with fail
  refine H.out.mono ?_
  rintro e w1 ⟨⟨x, hx, rfl⟩, G, S⟩
  go_wp2_with fail
  go_ret
  exact ⟨⟨_, rfl⟩, G, S⟩
theorem lit_small {z : Int} (h0 : -1000 ≤ z) (h1 : z ≤ 1000) : (Lit.int .i64 z).wf = true := by
  have := IntWalk.i64_in z (by omega)
  simp [Lit.wf, this]
  exact ⟨by show (-9223372036854775808 : Int) ≤ z; omega, by omega⟩
theorem gate_new {P : Int} {n i K : Nat} {V : Int} {kv : Value} {ks : List Int} (hK : K ≤ 2) (h1 : 1 ≤ ks.length) (h3 : ks.length ≤ 3) (hv : (K = 2 ∧ 1 ≤ V ∧ V ≤ ks.length) ∨ (¬ K = 2 ∧ V = 0)) (hk : ∀ y ∈ ks, kidOk P n i y = true) : gateOk P n i ⟨(K : Int), V, kv, ks⟩ = true := by
  unfold gateOk
  simp only
  rw [inB_true (by omega) (by omega), inB_true (by omega) (by omega), Bool.true_and, Bool.true_and, Bool.and_eq_true, List.all_eq_true]
  refine ⟨?_, hk⟩
  rcases hv with ⟨rfl, h4, h5⟩ | ⟨h4, rfl⟩
  · rw [if_pos (by rfl)]; exact inB_true h4 h5
  · rw [if_neg (by omega)]; exact decide_eq_true rfl
theorem gate_lits {P n i : Nat} {g : Gt} (hP : P ≤ 5) (hn : n ≤ 4) (h : gateOk (P : Int) n i g = true) : (Lit.int .i64 g.kind).wf = true ∧ (Lit.int .i64 g.votes).wf = true ∧ ∀ z ∈ g.kids, (Lit.int .i64 z).wf = true := by
  unfold gateOk at h
  rw [Bool.and_eq_true, Bool.and_eq_true, Bool.and_eq_true, List.all_eq_true] at h
  obtain ⟨⟨⟨h1, h2⟩, h3⟩, h4⟩ := h
  have a1 := inB_iff.1 h1
  have a2 := inB_iff.1 h2
  refine ⟨lit_small (by omega) (by omega), ?_, fun z hz => ?_⟩
  · split at h3
    · have := inB_iff.1 h3; exact lit_small (by omega) (by omega)
    · have := of_decide_eq_true h3; exact lit_small (by omega) (by omega)
  · have := h4 z hz
    unfold kidOk at this
    rw [Bool.and_eq_true] at this
    have := inB_iff.1 this.1
    exact lit_small (by omega) (by omega)
set_option maxRecDepth 100000 in
set_option maxHeartbeats 4000000 in
theorem b10Tree_any (P : Nat) (v : Value) (zs : List Int) (w : World) (r : RdY w v zs) (hl : zs.length ≤ 1048576) (hP1 : 1 ≤ P) (hP5 : P ≤ 5) :
    Calls Try.prog 30 #[v, .int .i64 P] w fun e w' => ∃ (g cap : Nat) (gs : List Gt), e = .returned (.slice (some ⟨g, 0, none⟩) gs.length cap) ∧ Ext w w' ∧ RdG w' (.slice (some ⟨g, 0, none⟩) gs.length cap) gs ∧ treeOk (P : Int) gs = true ∧ gs.length ≤ 4 := by
  have r' := r
  obtain ⟨⟨-, a1, c1, rfl, -, -, -, -⟩, -⟩ := r
  have bz : Bz (w.alloc (.cells #[.slice a1 zs.length c1, .int .i64 0, .int .u64 0] 106)) w.heap.size 106 [.slice a1 zs.length c1, .int .i64 0, .int .u64 0] := Bz.new _ _ _
  have S0 : SrcW w w.heap.size 0 (.slice a1 zs.length c1) zs (w.alloc (.cells #[.slice a1 zs.length c1, .int .i64 0, .int .u64 0] 106)) :=
    ⟨r', hl, Nat.le_refl _, Ext.alloc _ _, by simp, bz.bx.2 0 (by simp), ⟨0, Nat.le_refl _, bz.bx.2 1 (by simp)⟩, ⟨0, bz.bx.2 2 (by simp)⟩, bz.frozen, bz.frozen⟩
  have HPK := Lib.hid (fun m W n (S : SrcW w w.heap.size m (.slice a1 zs.length c1) zs W) (hm : m ≤ 4194304) (h1 : 1 ≤ n) (h2 : n ≤ 200) => pick_any w w.heap.size m n _ zs W S hm h1 h2)
  have HON := Lib.hid (fun m W n (S : SrcW w w.heap.size m (.slice a1 zs.length c1) zs W) (hm : m ≤ 4194304) (h1 : 1 ≤ n) (h2 : n ≤ 200) => one_any w w.heap.size m n _ zs W S hm h1 h2)
  clear bz
  go_enter Try.func30, Try.ntmps30
  go_wp2_with fail
  refine (l00From_any _ _ _ _).mono ?_
  rintro e w1 ⟨rfl, rfl⟩
  generalize hW : w.alloc (.cells #[.slice a1 zs.length c1, .int .i64 0, .int .u64 0] 106) = W at *
  have hlt : w.heap.size < W.heap.size := by rw [← hW]; simp
  clear hW
  generalize hbs : w.heap.size = bs at *
  go_wp2_with fail
  refine (HPK.out 0 _ 4 S0 (by decide) (by decide) (by decide)).mono ?_
  rintro e w2 ⟨⟨x, hx, rfl⟩, G, S⟩
  obtain ⟨n, hn⟩ : ∃ n, n = x + 1 := ⟨_, rfl⟩
  have hnw : IntKind.i64.wrap (1 + (x : Int)) = (n : Int) := by rw [show 1 + (x : Int) = (n : Int) by omega]; exact wrap_nat _ (by omega)
  have hn1 : 1 ≤ n := by omega
  have hn4 : n ≤ 4 := by omega
  have hlt2 : bs < w2.heap.size := Nat.lt_of_lt_of_le hlt G.size
  clear S0 G hn hx
  have HS := Lib.hid (S.ext (Ext.alloc w2 (.cells #[] 90)))
  have own0 : (w2.alloc (.cells #[] 90)).ownsRow w2.heap.size 90 3 (.slice (some ⟨w2.heap.size, 0, none⟩) 0 0) 0 [] := World.ownsRow_lit w2 #[] 0 (Nat.le_refl _) (by decide) rfl
  have hsz : w2.heap.size ≤ (w2.alloc (.cells #[] 90)).heap.size := by simp
  clear S
  go_wp2_with fail
  generalize w2.heap.size = B0 at *
  go_loopw [8, 7] (fun iv tv wr => ∃ (i g cap : Nat) (gs : List Gt), iv = .int .i64 i ∧ i ≤ n ∧ Hid (gs.length = i) ∧ tv = .slice (some ⟨g, 0, none⟩) gs.length cap ∧ Hid (∀ j, (h : j < gs.length) → gateOk (P : Int) n j gs[j] = true) ∧
      wr.ownsRow B0 90 3 (.slice (some ⟨g, 0, none⟩) gs.length cap) gs.length (gs.map Gt.row).flatten ∧ Hid (∀ y ∈ gs, KidT B0 wr y) ∧ SrcW w bs (1 + i * 20) (.slice a1 zs.length c1) zs wr ∧ B0 ≤ wr.heap.size) (fun iv _ _ => n - (intOf iv).toNat)
  case atStart => exact ⟨0, B0, 0, [], rfl, Nat.zero_le _, rfl, rfl, (fun j h => absurd h (Nat.not_lt_zero _)), own0, (fun y hy => by cases hy), HS.out, hsz⟩
  case round =>
    clear own0 HS hsz
    obtain ⟨i, g, cap, gs, rfl, hi, hgl, rfl, HG, own, HK, S, hsz⟩ := hrel
    by_cases hin : i < n
    · have hini : (i : Int) < (n : Int) := by omega
      go_wp2_with fail
      refine (HPK.out _ _ 3 S (by omega) (by decide) (by decide)).mono ?_
      rintro e w3 ⟨⟨K, hK, rfl⟩, G, S3⟩
      have H3 : Hk wr w3 bs := Hk.grown G
      clear S
      have b4 : Bz (w3.alloc (.cells #[.int .i64 K, .int .i64 0, .slice none 0 0] 90)) w3.heap.size 90 [.int .i64 K, .int .i64 0, .slice none 0 0] := Bz.new _ _ _
      have H4 := H3.trans (Hk.ext (bs := bs) (Ext.alloc w3 (.cells #[.int .i64 K, .int .i64 0, .slice none 0 0] 90)))
      have S4 := S3.ext (Ext.alloc w3 (.cells #[.int .i64 K, .int .i64 0, .slice none 0 0] 90))
      have hb9s : w3.heap.size < (w3.alloc (.cells #[.int .i64 K, .int .i64 0, .slice none 0 0] 90)).heap.size := by simp
      have hwr3 := H3.1
      have hltb := S3.lt
      clear H3 S3 G
      go_wp2_with fail
      generalize hWW : w3.alloc (.cells #[.int .i64 K, .int .i64 0, .slice none 0 0] 90) = w4 at *
      clear hWW
      generalize w3.heap.size = b9 at *
      refine (HPK.out _ _ 3 S4 (by omega) (by decide) (by decide)).mono ?_
      rintro e w5 ⟨⟨x2, hx2, rfl⟩, G, S5⟩
      have H5 := H4.trans (Hk.grown G)
      have b5 := bz_hk b4 (Hk.grown G) (by omega)
      obtain ⟨tot, htot⟩ : ∃ tot, tot = x2 + 1 := ⟨_, rfl⟩
      have htw : IntKind.i64.wrap (1 + (x2 : Int)) = (tot : Int) := by rw [show 1 + (x2 : Int) = (tot : Int) by omega]; exact wrap_nat _ (by omega)
      have htot1 : 1 ≤ tot := by omega
      have htot3 : tot ≤ 3 := by omega
      have hb9 : b9 < w5.heap.size := b5.lt
      clear S4 b4 H4 G htot hx2 hb9s
      go_wp2_with fail
      go_loopw [10] (fun cv wq => ∃ (c : Nat) (kv : Value) (ks : List Int), cv = .int .i64 c ∧ Hid (c + ks.length = tot) ∧ Hid (∀ y ∈ ks, kidOk (P : Int) n i y = true ∧ -1000 ≤ y ∧ y ≤ 1000) ∧ Bz wq b9 90 [.int .i64 K, .int .i64 0, kv] ∧
          wq.ownsRow (b9 + 1) 2 1 kv ks.length (ks.map (Value.int .i64)) ∧ SrcW w bs (1 + i * 20 + 1 + 1 + ks.length * 4) (.slice a1 zs.length c1) zs wq ∧ Hk wr wq bs) (fun cv _ => (intOf cv).toNat)
      case atStart => exact ⟨tot, .slice none 0 0, [], rfl, rfl, (fun y hy => by cases hy), b5, ⟨rfl, .inl ⟨rfl, rfl⟩⟩, S5, H5⟩
      case round =>
        clear b5 S5 H5 hb9
        obtain ⟨c, kv, ks, rfl, hc, HQ, bz, ownk, S, H⟩ := hrel
        by_cases hc0 : 0 < c
        · have hci : (0 : Int) < (c : Int) := by omega
          have hcw : IntKind.i64.wrap ((c : Int) - 1) = (c : Int) - 1 := IntWalk.i64_in _ (by have := hc.out; omega)
          go_wp2_with fail
          refine (HPK.out _ _ P S (by have := hc.out; omega) hP1 (by omega)).mono ?_
          rintro e w6 ⟨⟨x3, hx3, rfl⟩, G, S6⟩
          replace H := H.trans (Hk.grown G)
          replace bz := bz_hk bz (Hk.grown G) (by omega)
          replace ownk := own_hk ownk (Hk.grown G) (own_base ownk (by omega))
          obtain ⟨y, hy⟩ : ∃ y : Int, y = -1 - (x3 : Int) := ⟨_, rfl⟩
          have hyw : IntKind.i64.wrap (-1 - (x3 : Int)) = y := by rw [hy]; exact IntWalk.i64_in _ (by omega)
          have HY : Hid (kidOk (P : Int) n i y = true ∧ -1000 ≤ y ∧ y ≤ 1000) := by
            refine ⟨?_, by omega, by omega⟩
            unfold kidOk
            rw [inB_true (by omega) (by omega), decide_eq_false (show ¬ (0 : Int) ≤ y by omega)]; rfl
          have hi1 : IntKind.i64.wrap ((i : Int) + 1) = (i : Int) + 1 := IntWalk.i64_in _ (by omega)
          clear S G hx3 hy
          by_cases hin2 : i + 1 < n
          · have hin2i : (i : Int) + 1 < (n : Int) := by omega
            have hn1w : IntKind.i64.wrap ((n : Int) - 1) = (n : Int) - 1 := IntWalk.i64_in _ (by omega)
            obtain ⟨q, hq⟩ : ∃ q, q = n - 1 - i := ⟨_, rfl⟩
            have hqw : IntKind.i64.wrap ((n : Int) - 1 - (i : Int)) = (q : Int) := by rw [show (n : Int) - 1 - (i : Int) = (q : Int) by omega]; exact wrap_nat _ (by omega)
            have hq1 : 1 ≤ q := by omega
            have hq4 : q ≤ 4 := by omega
            have hqi : i + 1 + q ≤ n := by omega
            clear hq
            go_wp2_with fail
            refine (HON.out _ _ 2 S6 (by have := hc.out; omega) (by decide) (by decide)).mono ?_
            rintro e w7 ⟨⟨b, rfl⟩, G, S7⟩
            replace H := H.trans (Hk.grown G)
            replace bz := bz_hk bz (Hk.grown G) (by omega)
            replace ownk := own_hk ownk (Hk.grown G) (own_base ownk (by omega))
            clear S6 G
            cases b
            case true =>
              go_wp2_with fail
              refine (HPK.out _ _ q S7 (by have := hc.out; omega) hq1 (by omega)).mono ?_
              rintro e w8 ⟨⟨x4, hx4, rfl⟩, G, S8⟩
              replace H := H.trans (Hk.grown G)
              replace bz := bz_hk bz (Hk.grown G) (by omega)
              replace ownk := own_hk ownk (Hk.grown G) (own_base ownk (by omega))
              clear HY hyw
              obtain ⟨y2, hy⟩ : ∃ y : Int, y = (i : Int) + 1 + (x4 : Int) := ⟨_, rfl⟩
              have hyw : IntKind.i64.wrap ((i : Int) + 1 + (x4 : Int)) = y2 := by rw [hy]; exact IntWalk.i64_in _ (by omega)
              have HY : Hid (kidOk (P : Int) n i y2 = true ∧ -1000 ≤ y2 ∧ y2 ≤ 1000) := by
                refine ⟨?_, by omega, by omega⟩
                unfold kidOk
                rw [inB_true (by omega) (by omega), decide_eq_true (show (0 : Int) ≤ y2 by omega), decide_eq_false (show ¬ y2 ≤ (i : Int) by omega)]; rfl
              replace S := S8.mono (show _ ≤ 1 + i * 20 + 1 + 1 + (ks.length + 1) * 4 by omega)
              clear S7 S8 G hx4 hy
              obtain ⟨k0, k1, k2⟩ := bz.bx.three
              have hblk := bz.lt
              have f2 := bz.frozen (j := 2)
              have hsz6 : b9 + 1 ≤ w8.heap.size := bz.lt
              go_wp2_with (at_builtin; refine wpList_push infoI64 rfl Try.underlying25 rfl rfl rfl (World.ownsRow.alloc (w := _) ownk _) rfl (Bx.new _ [_] _).one rfl (by have := hc.out; omega) (by decide) (Nat.le_trans hsz6 (Ext.alloc _ _).size) ?_; intro g2 cap2 w9 hg2 own9 bel9 sz9; have bz9 : Bz w9 b9 90 [.int .i64 K, .int .i64 0, kv] := (bel9 w8 (Below.mono (Ext.alloc _ _) hsz6)).block b9 (by omega) |>.trans bz; obtain ⟨j0, j1, j2⟩ := bz9.bx.three; have hb9' := bz9.lt; have f9 := bz9.frozen (j := 2))
              have hne2 : g2 ≠ b9 := by omega
              have BB := bel9 w8 (Below.mono (Ext.alloc _ _) hsz6)
              go_roundw
              case rel =>
                refine ⟨c - 1, _, ks ++ [y2], by go_num, ?_, ?_, bz_set bz9 2 _, ?_, ?_, ?_⟩
                · show _ = _
                  rw [List.length_append]; have := hc.out; simp; omega
                · intro z hz
                  rcases List.mem_append.1 hz with hz | hz
                  · exact HQ.out z hz
                  · obtain rfl := List.mem_singleton.1 hz; exact HY.out
                · rw [List.map_append, List.length_append]
                  exact ownsRow_setCell_other own9 (by simp [Value.ownBlock]; exact hne2) _
                · rw [List.length_append]
                  exact (S.below BB (by omega)).set (by omega) _
                · exact Hk.set ⟨Nat.le_trans H.1 BB.size, fun b hb hn => (BB.block b (by omega)).trans (H.2 b hb hn)⟩ (by omega) _
              case measure => simp [intOf]; omega
            case false =>
              replace S := S7.mono (show _ ≤ 1 + i * 20 + 1 + 1 + (ks.length + 1) * 4 by omega)
              clear S7
              obtain ⟨k0, k1, k2⟩ := bz.bx.three
              have hblk := bz.lt
              have f2 := bz.frozen (j := 2)
              have hsz6 : b9 + 1 ≤ w7.heap.size := bz.lt
              go_wp2_with (at_builtin; refine wpList_push infoI64 rfl Try.underlying25 rfl rfl rfl (World.ownsRow.alloc (w := _) ownk _) rfl (Bx.new _ [_] _).one rfl (by have := hc.out; omega) (by decide) (Nat.le_trans hsz6 (Ext.alloc _ _).size) ?_; intro g2 cap2 w9 hg2 own9 bel9 sz9; have bz9 : Bz w9 b9 90 [.int .i64 K, .int .i64 0, kv] := (bel9 w7 (Below.mono (Ext.alloc _ _) hsz6)).block b9 (by omega) |>.trans bz; obtain ⟨j0, j1, j2⟩ := bz9.bx.three; have hb9' := bz9.lt; have f9 := bz9.frozen (j := 2))
              have hne2 : g2 ≠ b9 := by omega
              have BB := bel9 w7 (Below.mono (Ext.alloc _ _) hsz6)
              go_roundw
              case rel =>
                refine ⟨c - 1, _, ks ++ [y], by go_num, ?_, ?_, bz_set bz9 2 _, ?_, ?_, ?_⟩
                · show _ = _
                  rw [List.length_append]; have := hc.out; simp; omega
                · intro z hz
                  rcases List.mem_append.1 hz with hz | hz
                  · exact HQ.out z hz
                  · obtain rfl := List.mem_singleton.1 hz; exact HY.out
                · rw [List.map_append, List.length_append]
                  exact ownsRow_setCell_other own9 (by simp [Value.ownBlock]; exact hne2) _
                · rw [List.length_append]
                  exact (S.below BB (by omega)).set (by omega) _
                · exact Hk.set ⟨Nat.le_trans H.1 BB.size, fun b hb hn => (BB.block b (by omega)).trans (H.2 b hb hn)⟩ (by omega) _
              case measure => simp [intOf]; omega
          · have hin2i : ¬ (i : Int) + 1 < (n : Int) := by omega
            replace S := S6.mono (show _ ≤ 1 + i * 20 + 1 + 1 + (ks.length + 1) * 4 by omega)
            clear S6
            obtain ⟨k0, k1, k2⟩ := bz.bx.three
            have hblk := bz.lt
            have f2 := bz.frozen (j := 2)
            have hsz6 : b9 + 1 ≤ w6.heap.size := bz.lt
            go_wp2_with (at_builtin; refine wpList_push infoI64 rfl Try.underlying25 rfl rfl rfl (World.ownsRow.alloc (w := _) ownk _) rfl (Bx.new _ [_] _).one rfl (by have := hc.out; omega) (by decide) (Nat.le_trans hsz6 (Ext.alloc _ _).size) ?_; intro g2 cap2 w9 hg2 own9 bel9 sz9; have bz9 : Bz w9 b9 90 [.int .i64 K, .int .i64 0, kv] := (bel9 w6 (Below.mono (Ext.alloc _ _) hsz6)).block b9 (by omega) |>.trans bz; obtain ⟨j0, j1, j2⟩ := bz9.bx.three; have hb9' := bz9.lt; have f9 := bz9.frozen (j := 2))
            have hne2 : g2 ≠ b9 := by omega
            have BB := bel9 w6 (Below.mono (Ext.alloc _ _) hsz6)
            go_roundw
            case rel =>
              refine ⟨c - 1, _, ks ++ [y], by go_num, ?_, ?_, bz_set bz9 2 _, ?_, ?_, ?_⟩
              · show _ = _
                rw [List.length_append]; have := hc.out; simp; omega
              · intro z hz
                rcases List.mem_append.1 hz with hz | hz
                · exact HQ.out z hz
                · obtain rfl := List.mem_singleton.1 hz; exact HY.out
              · rw [List.map_append, List.length_append]
                exact ownsRow_setCell_other own9 (by simp [Value.ownBlock]; exact hne2) _
              · rw [List.length_append]
                exact (S.below BB (by omega)).set (by omega) _
              · exact Hk.set ⟨Nat.le_trans H.1 BB.size, fun b hb hn => (BB.block b (by omega)).trans (H.2 b hb hn)⟩ (by omega) _
            case measure => simp [intOf]; omega
        · have hc0' : c = 0 := by omega
          have hkl : ks.length = tot := by have := hc.out; omega
          obtain ⟨gk, capk, hkv, hgk, -⟩ := own_head ownk (by omega)
          subst hkv
          have HKL := Lib.hid hkl
          have hk1 : 1 ≤ ks.length := by omega
          have hk3 : ks.length ≤ 3 := by omega
          clear hc0' hkl hc
          obtain ⟨k0, k1, k2⟩ := bz.bx.three
          have hblk := bz.lt
          have f1 := bz.frozen (j := 1)
          by_cases hK2 : K = 2
          · subst hK2
            go_wp2_with fail
            refine (HPK.out _ _ ks.length S (by omega) hk1 (by omega)).mono ?_
            rintro e w10 ⟨⟨x5, hx5, rfl⟩, G, S10⟩
            replace H := H.trans (Hk.grown G)
            replace bz := bz_hk bz (Hk.grown G) (by omega)
            replace ownk := own_hk ownk (Hk.grown G) (own_base ownk (by omega))
            obtain ⟨V, hV⟩ : ∃ V, V = x5 + 1 := ⟨_, rfl⟩
            have hVw : IntKind.i64.wrap (1 + (x5 : Int)) = (V : Int) := by rw [show 1 + (x5 : Int) = (V : Int) by omega]; exact wrap_nat _ (by omega)
            have HGN := Lib.hid (gate_new (P := (P : Int)) (n := n) (i := i) (K := 2) (V := (V : Int)) (kv := .slice (some ⟨gk, 0, none⟩) ks.length capk) (by omega) hk1 hk3 (.inl ⟨rfl, by omega, by omega⟩) fun y hy => (HQ.out y hy).1)
            have bzS : Bz (w10.setCell ⟨b9, 1, none⟩ (.int .i64 V)) b9 90 [.int .i64 2, .int .i64 V, .slice (some ⟨gk, 0, none⟩) ks.length capk] := bz_set bz 1 _
            have S11 := S10.set (b := b9) (j := 1) (by omega) (.int .i64 V)
            have H11 := H.set (b := b9) (j := 1) (by omega) (.int .i64 V)
            have ownk11 : (w10.setCell ⟨b9, 1, none⟩ (.int .i64 V)).ownsRow (b9 + 1) 2 1 (.slice (some ⟨gk, 0, none⟩) ks.length capk) ks.length (ks.map (Value.int .i64)) := ownsRow_setCell_other ownk (show _ ≠ some b9 from own_base ownk (Nat.lt_succ_self _)) _
            clear k0 k1 k2 hblk f1 S G hV hx5
            obtain ⟨k0, k1, k2⟩ := bz.bx.three
            have hblk := bz.lt
            have f1 := bz.frozen (j := 1)
            obtain ⟨j0, j1, j2⟩ := bzS.bx.three
            have jblk := bzS.lt
            have ownT := own_hk own H11 (own_base own hlt2)
            have hB9 : B0 ≤ b9 := by omega
            have hszW : B0 ≤ (w10.setCell ⟨b9, 1, none⟩ (.int .i64 V)).heap.size := Nat.le_trans hsz H11.1
            have hgB := (own.lt g rfl).1
            go_wp2_with (at_builtin; refine wpList_pushG (u0 := .int .i64 2) (u1 := .int .i64 V) (u2 := .slice (some ⟨gk, 0, none⟩) ks.length capk) infoGate rfl Try.underlying53 rfl rfl rfl (World.ownsRow.alloc (w := _) ownT _) rfl (Bx.new' _ [_, _, _] _ (by first | rfl | exact (size_set _ _ _).symm)) rfl rfl rfl (by have := hgl.out; omega) (Nat.le_trans hszW (Ext.alloc _ _).size) ?_; intro g2 cap2 w12 hg2 own12 G12)
            go_roundw
            case rel =>
              have Xa := Ext.alloc (w10.setCell ⟨b9, 1, none⟩ (.int .i64 V)) (.cells #[.int .i64 2, .int .i64 V, .slice (some ⟨gk, 0, none⟩) ks.length capk] 90)
              have ownT' := own_ext' ownT Xa
              refine ⟨i + 1, g2, cap2, gs ++ [⟨2, V, .slice (some ⟨gk, 0, none⟩) ks.length capk, ks⟩], by go_num, by omega, ?_, by simp, ?_, ?_, ?_, ?_, Nat.le_trans hszW (Nat.le_trans Xa.size G12.size)⟩
              · show _ = _
                rw [List.length_append, hgl.out]; rfl
              · intro j hj
                by_cases hjl : j < gs.length
                · rw [List.getElem_append_left hjl]; exact HG.out j hjl
                · have hji : j = i := by have := hgl.out; rw [List.length_append] at hj; simp only [List.length_cons, List.length_nil] at hj; omega
                  subst hji
                  rw [List.getElem_append_right (by omega)]
                  simp only [hgl.out, Nat.sub_self, List.getElem_cons_zero]
                  exact HGN.out
              · rw [List.map_append, List.flatten_append, List.length_append]
                have h := own12
                simpa [Gt.row] using h
              · intro y hy
                rcases List.mem_append.1 hy with hy | hy
                · have h1 := own_ext' (own_hk (HK.out y hy) H11 (own_base (HK.out y hy) hlt2)) Xa
                  exact World.ownsRow.kept h1 G12 (.inr (own_types h1 ownT' (by decide)))
                · obtain rfl := List.mem_singleton.1 hy
                  have h1 := own_ext' ownk11 Xa
                  exact World.ownsRow.mono (World.ownsRow.kept h1 G12 (.inr (own_types h1 ownT' (by decide)))) (by omega)
              · have h1 := (S11.ext Xa).below (B := B0) (Below.grown (Below.refl _ _) G12 (Nat.le_trans hszW Xa.size) (fun k e => by cases e; exact hgB)) hlt2
                exact h1.mono (by omega)
            case measure => simp [intOf]; omega
          · have hKi : ¬ (K : Int) = 2 := by omega
            have HGN := Lib.hid (gate_new (P := (P : Int)) (n := n) (i := i) (K := K) (V := 0) (kv := .slice (some ⟨gk, 0, none⟩) ks.length capk) (by omega) hk1 hk3 (.inr ⟨hK2, rfl⟩) fun y hy => (HQ.out y hy).1)
            have ownT := own_hk own H (own_base own hlt2)
            have hB9 : B0 ≤ b9 := by omega
            have hszW : B0 ≤ wr.heap.size := Nat.le_trans hsz H.1
            have hgB := (own.lt g rfl).1
            go_wp2_with (at_builtin; refine wpList_pushG (u0 := .int .i64 K) (u1 := .int .i64 0) (u2 := .slice (some ⟨gk, 0, none⟩) ks.length capk) infoGate rfl Try.underlying53 rfl rfl rfl (World.ownsRow.alloc (w := _) ownT _) rfl (Bx.new' _ [_, _, _] _ (by first | rfl | exact (size_set _ _ _).symm)) rfl rfl rfl (by have := hgl.out; omega) (Nat.le_trans hszW (Ext.alloc _ _).size) ?_; intro g2 cap2 w12 hg2 own12 G12)
            go_roundw
            case rel =>
              have Xa := Ext.alloc wr (.cells #[.int .i64 K, .int .i64 0, .slice (some ⟨gk, 0, none⟩) ks.length capk] 90)
              have ownT' := own_ext' ownT Xa
              refine ⟨i + 1, g2, cap2, gs ++ [⟨K, 0, .slice (some ⟨gk, 0, none⟩) ks.length capk, ks⟩], by go_num, by omega, ?_, by simp, ?_, ?_, ?_, ?_, Nat.le_trans hszW (Nat.le_trans Xa.size G12.size)⟩
              · show _ = _
                rw [List.length_append, hgl.out]; rfl
              · intro j hj
                by_cases hjl : j < gs.length
                · rw [List.getElem_append_left hjl]; exact HG.out j hjl
                · have hji : j = i := by have := hgl.out; rw [List.length_append] at hj; simp only [List.length_cons, List.length_nil] at hj; omega
                  subst hji
                  rw [List.getElem_append_right (by omega)]
                  simp only [hgl.out, Nat.sub_self, List.getElem_cons_zero]
                  exact HGN.out
              · rw [List.map_append, List.flatten_append, List.length_append]
                have h := own12
                simpa [Gt.row] using h
              · intro y hy
                rcases List.mem_append.1 hy with hy | hy
                · have h1 := own_ext' (own_hk (HK.out y hy) H (own_base (HK.out y hy) hlt2)) Xa
                  exact World.ownsRow.kept h1 G12 (.inr (own_types h1 ownT' (by decide)))
                · obtain rfl := List.mem_singleton.1 hy
                  have h1 := own_ext' ownk Xa
                  exact World.ownsRow.mono (World.ownsRow.kept h1 G12 (.inr (own_types h1 ownT' (by decide)))) (by omega)
              · have h1 := (S.ext Xa).below (B := B0) (Below.grown (Below.refl _ _) G12 (Nat.le_trans hszW Xa.size) (fun k e => by cases e; exact hgB)) hlt2
                exact h1.mono (by omega)
            case measure => simp [intOf]; omega
    · have hni : ¬ (i : Int) < (n : Int) := by omega
      have hin' : i = n := by omega
      have hgn : Hid (gs.length = n) := by show _ = _; rw [hgl.out]; exact hin'
      have X := S.x
      have ok := HG.out
      have kd := HK.out
      clear HPK HON hgl
      go_wp2_with fail
      go_ret
      have hgn := hgn.out
      refine ⟨g, cap, gs, rfl, X, ⟨own_rd own, fun y hy => ?_⟩, treeOk_all (inB_true (by omega) (by omega)) (by omega) (by omega) (fun k hk => by rw [hgn]; exact ok k hk), by omega⟩
      obtain ⟨j, hj, rfl⟩ := List.getElem_of_mem hy
      obtain ⟨z1, z2, z3⟩ := gate_lits hP5 hn4 (ok j hj)
      have := own_rd (kd _ hy)
      exact ⟨this, z1, z2, z3⟩
end Go.Proofs.Ytgmdoboeenpjpaa
