
/- Phases: all ways in which parts fail in phases, in their order; what each adds. Plain, no program. -/
import Derived.Test.YtgmdoboeenpjpaaZA
import Derived.Test.YtgmdoboeenpjpaaPa
import Derived.Test.YtgmdoboeenpjpaaYf
import Derived.Test.YtgmdoboeenpjpaaEM
import Derived.Test.YtgmdoboeenpjpaaRH
import Derived.Deep.RegionHeld3
namespace Go.Proofs.Ytgmdoboeenpjpaa

/-- The digits of a number, the greatest first. -/
def digs (b : Nat) : Nat → Nat → List Nat
  | 0, _ => []
  | k + 1, m => m / b ^ k :: digs b k (m % b ^ k)
theorem digs_len (b : Nat) : ∀ k m, (digs b k m).length = k
  | 0, _ => rfl
  | k + 1, m => by simp [digs, digs_len b k]
theorem digs_snoc {b j : Nat} (hj : j < b) : ∀ k q, q < b ^ k → digs b (k + 1) (q * b + j) = digs b k q ++ [j]
  | 0, q, h => by
    have : q = 0 := by simpa using h
    subst this
    simp [digs]
  | k + 1, q, h => by
    have hb : 0 < b := by omega
    have hbk : 0 < b ^ k := Nat.pow_pos hb
    have e1 : (q * b + j) / b ^ (k + 1) = q / b ^ k := by
      rw [Nat.pow_succ, Nat.mul_comm (b ^ k) b, ← Nat.div_div_eq_div_mul]
      congr 1
      rw [Nat.mul_comm q b, Nat.mul_add_div hb, Nat.div_eq_of_lt hj, Nat.add_zero]
    have e2 : (q * b + j) % b ^ (k + 1) = (q % b ^ k) * b + j := by
      have h1 := Nat.div_add_mod q (b ^ k)
      have h2 : q % b ^ k < b ^ k := Nat.mod_lt _ hbk
      have h3 : q * b + j = b ^ (k + 1) * (q / b ^ k) + ((q % b ^ k) * b + j) := by
        conv => lhs; rw [← h1]
        rw [Nat.pow_succ, Nat.add_mul, Nat.add_assoc]
        congr 1
        rw [Nat.mul_assoc, Nat.mul_assoc, Nat.mul_comm b]
      have h4 : (q % b ^ k) * b + j < b ^ (k + 1) := by
        have : (q % b ^ k + 1) * b ≤ b ^ k * b := Nat.mul_le_mul_right b h2
        rw [Nat.succ_mul] at this
        rw [Nat.pow_succ]; omega
      rw [h3, Nat.mul_add_mod, Nat.mod_eq_of_lt h4]
    show (q * b + j) / b ^ (k + 1) :: digs b (k + 1) ((q * b + j) % b ^ (k + 1)) = _
    rw [e1, e2, digs_snoc hj k _ (Nat.mod_lt _ hbk)]
    rfl
theorem digs_lt {b : Nat} (hb : 0 < b) : ∀ k m, m < b ^ k → ∀ d ∈ digs b k m, d < b
  | 0, _, _, d, hd => by simp [digs] at hd
  | k + 1, m, h, d, hd => by
    have hbk : 0 < b ^ k := Nat.pow_pos hb
    rcases List.mem_cons.1 hd with rfl | hd
    · rw [Nat.div_lt_iff_lt_mul hbk, Nat.mul_comm]; rwa [Nat.pow_succ] at h
    · exact digs_lt hb k _ (Nat.mod_lt _ hbk) d hd
theorem digs_zero (b : Nat) : ∀ k, digs b k 0 = List.replicate k 0
  | 0 => rfl
  | k + 1 => by simp [digs, digs_zero b k, List.replicate_succ]

/-- The next way: whether there is one, and which (the last part's phase runs first). -/
def nxt (b : Nat) : List Nat → Bool × List Nat
  | [] => (false, [])
  | c :: cs => if (nxt b cs).1 then (true, c :: (nxt b cs).2) else if c + 1 < b then (true, (c + 1) :: (nxt b cs).2) else (false, 0 :: (nxt b cs).2)
theorem nxt_len (b : Nat) : ∀ cs, (nxt b cs).2.length = cs.length
  | [] => rfl
  | c :: cs => by
    have := nxt_len b cs
    unfold nxt
    split
    · simp [this]
    · split <;> simp [this]
theorem nxt_le {b : Nat} (hb : 0 < b) : ∀ cs, (∀ c ∈ cs, c < b) → ∀ c ∈ (nxt b cs).2, c < b
  | [], _, c, h => by simp [nxt] at h
  | x :: cs, h, c, hc => by
    have ih := nxt_le hb cs (fun y hy => h y (by simp [hy]))
    have hx := h x (by simp)
    unfold nxt at hc
    split at hc
    · rcases List.mem_cons.1 hc with rfl | hc
      · exact hx
      · exact ih c hc
    · split at hc
      · rcases List.mem_cons.1 hc with rfl | hc
        · assumption
        · exact ih c hc
      · rcases List.mem_cons.1 hc with rfl | hc
        · exact hb
        · exact ih c hc
theorem nxt_digs {b : Nat} (hb : 0 < b) : ∀ k m, m < b ^ k → nxt b (digs b k m) = (decide (m + 1 < b ^ k), if m + 1 < b ^ k then digs b k (m + 1) else digs b k 0)
  | 0, m, h => by
    have : m = 0 := by simpa using h
    subst this
    simp [digs, nxt]
  | k + 1, m, h => by
    have hbk : 0 < b ^ k := Nat.pow_pos hb
    have hr := Nat.mod_lt m hbk
    have hdm := Nat.div_add_mod m (b ^ k)
    have ih := nxt_digs hb k (m % b ^ k) hr
    show nxt b (m / b ^ k :: digs b k (m % b ^ k)) = _
    unfold nxt
    rw [ih]
    by_cases h1 : m % b ^ k + 1 < b ^ k
    · have e1 : (m + 1) / b ^ k = m / b ^ k := by
        rw [show m + 1 = b ^ k * (m / b ^ k) + (m % b ^ k + 1) by omega, Nat.mul_add_div hbk, Nat.div_eq_of_lt h1, Nat.add_zero]
      have e2 : (m + 1) % b ^ k = m % b ^ k + 1 := by
        conv => lhs; rw [show m + 1 = b ^ k * (m / b ^ k) + (m % b ^ k + 1) by omega]
        rw [Nat.mul_add_mod, Nat.mod_eq_of_lt h1]
      have h2 : m + 1 < b ^ (k + 1) := by
        have hd : m / b ^ k < b := by rw [Nat.div_lt_iff_lt_mul hbk, Nat.mul_comm]; rwa [Nat.pow_succ] at h
        have : b ^ k * (m / b ^ k + 1) ≤ b ^ k * b := Nat.mul_le_mul_left _ hd
        rw [Nat.mul_add, Nat.mul_one] at this
        rw [Nat.pow_succ]; omega
      simp only [h1, h2, decide_true, if_true]
      show _ = (true, (m + 1) / b ^ k :: digs b k ((m + 1) % b ^ k))
      rw [e1, e2]
    · have hr1 : m % b ^ k + 1 = b ^ k := by omega
      have e0 : m + 1 = b ^ k * (m / b ^ k + 1) := by rw [Nat.mul_add, Nat.mul_one]; omega
      have e1 : (m + 1) / b ^ k = m / b ^ k + 1 := by rw [e0, Nat.mul_div_cancel_left _ hbk]
      have e2 : (m + 1) % b ^ k = 0 := by rw [e0, Nat.mul_mod_right]
      have e3 : (m + 1 < b ^ (k + 1)) ↔ m / b ^ k + 1 < b := by
        rw [e0, Nat.pow_succ]
        exact Nat.mul_lt_mul_left hbk
      simp only [h1, decide_false, Bool.false_eq_true, if_false]
      by_cases h2 : m / b ^ k + 1 < b
      · have h3 := e3.2 h2
        simp only [h2, h3, decide_true, if_true]
        show _ = (true, (m + 1) / b ^ k :: digs b k ((m + 1) % b ^ k))
        rw [e1, e2]
      · have h3 : ¬ m + 1 < b ^ (k + 1) := fun h => h2 (e3.1 h)
        simp only [h2, h3, decide_false, if_false]
        show _ = (false, 0 / b ^ k :: digs b k (0 % b ^ k))
        simp
theorem nxt_split {b : Nat} : ∀ (q : Nat) (F : List Nat), (nxt b (F.drop q)).1 = true → nxt b F = (true, F.take q ++ (nxt b (F.drop q)).2)
  | 0, F, h => by
    simp only [List.drop_zero, List.take_zero, List.nil_append] at h ⊢
    rw [← h]
  | q + 1, [], h => by simp [nxt] at h
  | q + 1, c :: cs, h => by
    simp only [List.drop_succ_cons] at h
    have ih := nxt_split q cs h
    rw [nxt, ih]
    simp
/-- One step of the search for the next way. -/
theorem nxt_step {b q : Nat} {F : List Nat} (hq : q < F.length) (h : (nxt b (F.drop (q + 1))).1 = false) :
    nxt b (F.drop q) = (decide (F[q] + 1 < b), (if F[q] + 1 < b then F[q] + 1 else 0) :: (nxt b (F.drop (q + 1))).2) := by
  rw [List.drop_eq_getElem_cons hq, nxt, h]
  simp only [Bool.false_eq_true, if_false]
  split <;> simp_all

/-- The parts that have not failed by the end of a phase, of the first parts. -/
def setK (c : List Nat) (t : Nat) : Nat → Nat
  | 0 => 0
  | i + 1 => setK c t i + (if t < c.getD i 0 then 2 ^ i else 0)
theorem setK_lt (c : List Nat) (t : Nat) : ∀ i, setK c t i < 2 ^ i
  | 0 => by simp [setK]
  | i + 1 => by
    have := setK_lt c t i
    have e : 2 ^ (i + 1) = 2 ^ i + 2 ^ i := by rw [Nat.pow_succ]; omega
    unfold setK
    split <;> omega
/-- All systems work at the end of their phases (of the first phases). -/
def okK (ss : List (List Nat)) (P : Nat) (c : List Nat) (n : Nat) : Bool := (List.range n).all fun t => worksB (ss.getD t []) (setK c t P)
theorem okK_succ (ss : List (List Nat)) (P : Nat) (c : List Nat) (n : Nat) : okK ss P c (n + 1) = (okK ss P c n && worksB (ss.getD n []) (setK c n P)) := by
  unfold okK
  rw [List.range_succ, List.all_append]
  simp
theorem okK_false {ss : List (List Nat)} {P : Nat} {c : List Nat} {n k : Nat} (hk : k < n) (h : worksB (ss.getD k []) (setK c k P) = false) : okK ss P c n = false := by
  unfold okK
  rw [List.all_eq_false]
  exact ⟨k, List.mem_range.2 hk, by rw [h]; exact Bool.false_ne_true⟩
/-- How likely a part fails just in its phase: the first factors. -/
def prT (x : Nat) (C : List Nat) (P i d : Nat) : Nat → Nat
  | 0 => x
  | t + 1 => fop .mul .f32 (prT x C P i d t) (if t < d then fop .sub .f32 oneF (C.getD (t * P + i) 0) else C.getD (t * P + i) 0)
def prA (C : List Nat) (P n : Nat) (c : List Nat) : Nat → Nat
  | 0 => oneF
  | i + 1 => prT (prA C P n c i) C P i (c.getD i 0) (min n (c.getD i 0 + 1))
/-- What a way adds. -/
def leafP (ss : List (List Nat)) (C : List Nat) (P n : Nat) (c : List Nat) (s : Nat) : Nat := if okK ss P c n then fop .add .f32 s (prA C P n c P) else s
/-- The sum of the first ways. -/
def sumP (ss : List (List Nat)) (C : List Nat) (P n : Nat) : Nat → Nat
  | 0 => cn .f32 0
  | m + 1 => leafP ss C P n (digs (n + 1) P m) (sumP ss C P n m)

end Go.Proofs.Ytgmdoboeenpjpaa
/- Phases: the program's closure that goes through all ways of failing. Condition: valid systems of the same parts, lists that can be read. -/
namespace Go.Proofs.Ytgmdoboeenpjpaa
open Go Go.RowKit Go.ChangeShapes Go.WideShapes Go.ChangeAt

attribute [local irreducible] LX
attribute [local go_sem] run_store_float

/-- What a list of systems gives: the paths of each. -/
def dn (ss : List Sy) : List (List Nat) := ss.map fun s => downs s.zs
theorem dn_at {ss : List Sy} {i : Nat} (h : i < ss.length) : (dn ss).getD i [] = downs ss[i].zs := by simp [dn, h]
theorem dn_dat {a b : List Sy} (e : a.map Sy.dat = b.map Sy.dat) : dn a = dn b := by
  have h := congrArg (List.map fun q : Int × List Int => downs q.2) e
  simpa [dn, Sy.dat, Function.comp_def] using h
/-- Systems of the same parts, all valid. -/
def SysP (P : Nat) (ss : List Sy) : Prop := ∀ s ∈ ss, SysN P (downs s.zs) ∧ s.zs = ups (downs s.zs)

theorem infoIntP : (Try.prog.info? 3).map (fun i => (i.zero, i.size, i.bytes)) = some (some (.int .i64 0), 1, 8) := by kernel_rfl
def nums (F : List Nat) : List Value := F.map fun d : Nat => Value.int .i64 (d : Int)
theorem nums_set (F : List Nat) (i d : Nat) : (nums F).set i (.int .i64 (d : Int)) = nums (F.set i d) := by unfold nums; rw [List.map_set]
theorem nums_at {F : List Nat} {i : Nat} (h : i < F.length) : (nums F)[i]? = some (.int .i64 (F[i] : Int)) := by simp [nums, h]
/-- Where the program keeps its things: parts, phases, the phases of failing, the function, the systems, the chances, the sum; and the phases' block. -/
structure PlP (w0 : World) (B bp bn bf bu bl bc bo g : Nat) : Prop where
  l : bp < B ∧ bn < B ∧ bf < B ∧ bu < B ∧ bl < B ∧ bc < B ∧ bo < B ∧ g < B
  o : bo ≠ bp ∧ bo ≠ bn ∧ bo ≠ bf ∧ bo ≠ bu ∧ bo ≠ bl ∧ bo ≠ bc ∧ bo ≠ g
  m : g ≠ bp ∧ g ≠ bn ∧ g ≠ bf ∧ g ≠ bu ∧ g ≠ bl ∧ g ≠ bc
  w : w0.heap.size ≤ bo ∧ w0.heap.size ≤ g
structure StP (w0 : World) (B P n bp bn bf bu bl bc bo g : Nat) (lv cv fv : Value) (D : List (List Nat)) (C : List Nat) (W : World) (m : Nat) (pre : List Nat) : Prop where
  x : Ext w0 W
  sz : B ≤ W.heap.size
  cp : W.cell? ⟨bp, 0, none⟩ = some (.int .i64 P)
  cN : W.cell? ⟨bn, 0, none⟩ = some (.int .i64 n)
  cf : W.cell? ⟨bf, 0, none⟩ = some (.slice (some ⟨g, 0, none⟩) P P)
  cu : W.cell? ⟨bu, 0, none⟩ = some fv
  cl : W.cell? ⟨bl, 0, none⟩ = some lv
  cc : W.cell? ⟨bc, 0, none⟩ = some cv
  fa : ∃ F : List Nat, F.length = P ∧ F.take pre.length = pre ∧ W.ownsRow w0.heap.size 3 1 (.slice (some ⟨g, 0, none⟩) P P) P (nums F)
  co : ∃ x, W.cell? ⟨bo, 0, none⟩ = some (.float .f32 x) ∧ cn .f32 x = sumP D C P n m ∧ x < 4294967296
  fo : W.frozen? ⟨bo, 0, none⟩ = false
variable {w0 : World} {B P n bp bn bf bu bl bc bo g : Nat} {lv cv fv : Value} {D : List (List Nat)} {C : List Nat} {W W' : World} {m : Nat} {pre : List Nat}
theorem StP.ext (pl : PlP w0 B bp bn bf bu bl bc bo g) (h : StP w0 B P n bp bn bf bu bl bc bo g lv cv fv D C W m pre) (hx : Ext W W') : StP w0 B P n bp bn bf bu bl bc bo g lv cv fv D C W' m pre := by
  obtain ⟨l1, l2, l3, l4, l5, l6, l7, l8⟩ := pl.l
  have hz := h.sz
  have k : ∀ b (v : Value), b < B → W.cell? ⟨b, 0, none⟩ = some v → W'.cell? ⟨b, 0, none⟩ = some v := fun b v hb e => (Below.cell hx (p := ⟨b, 0, none⟩) (by show b < _; omega)).trans e
  obtain ⟨F, f1, f2, f3⟩ := h.fa
  obtain ⟨x, c1, c2⟩ := h.co
  exact ⟨h.x.trans hx, Nat.le_trans hz hx.size, k _ _ l1 h.cp, k _ _ l2 h.cN, k _ _ l3 h.cf, k _ _ l4 h.cu, k _ _ l5 h.cl, k _ _ l6 h.cc, ⟨F, f1, f2, own_ext' f3 hx⟩, ⟨x, k _ _ l7 c1, c2⟩,
    (Below.frozen hx (p := ⟨bo, 0, none⟩) (by show bo < _; omega)).trans h.fo⟩
theorem StP.put {j : Nat} (pl : PlP w0 B bp bn bf bu bl bc bo g) (h : StP w0 B P n bp bn bf bu bl bc bo g lv cv fv D C W m pre) (hp : pre.length < P) :
    StP w0 B P n bp bn bf bu bl bc bo g lv cv fv D C (W.setCell ⟨g, pre.length, none⟩ (.int .i64 (j : Int))) m (pre ++ [j]) := by
  obtain ⟨m1, m2, m3, m4, m5, m6⟩ := pl.m
  have hog := pl.o.2.2.2.2.2.2
  have k : ∀ b (v : Value), g ≠ b → W.cell? ⟨b, 0, none⟩ = some v → (W.setCell ⟨g, pre.length, none⟩ (.int .i64 (j : Int))).cell? ⟨b, 0, none⟩ = some v := fun b v hb e =>
    (World.cell?_setCell_other _ _ _ _ (fun q => hb (by injection q))).trans e
  obtain ⟨F, f1, f2, f3⟩ := h.fa
  obtain ⟨x, c1, c2⟩ := h.co
  have hst := (f3.stored pre.length (.int .i64 (j : Int))).1
  rw [nums_set] at hst
  have hs : W.heap.size ≤ (W.setCell ⟨g, pre.length, none⟩ (.int .i64 (j : Int))).heap.size := (Below.setCell (p := ⟨g, pre.length, none⟩) (Below.refl g W) (Nat.le_refl _) (.int .i64 (j : Int))).size
  refine ⟨h.x.setCell pl.w.2 _, Nat.le_trans h.sz hs, k _ _ m1 h.cp, k _ _ m2 h.cN, k _ _ m3 h.cf, k _ _ m4 h.cu, k _ _ m5 h.cl, k _ _ m6 h.cc, ⟨F.set pre.length j, by simp [f1], ?_, hst⟩, ⟨x, k _ _ (Ne.symm hog) c1, c2⟩, ?_⟩
  · rw [List.length_append, List.length_singleton, List.take_succ_eq_append_getElem (by rw [List.length_set]; omega), List.take_set_of_le (Nat.le_refl _), f2]
    simp
  · rw [World.frozen?_setCell]; exact h.fo
theorem StP.less {j : Nat} (h : StP w0 B P n bp bn bf bu bl bc bo g lv cv fv D C W m (pre ++ [j])) : StP w0 B P n bp bn bf bu bl bc bo g lv cv fv D C W m pre := by
  obtain ⟨F, f1, f2, f3⟩ := h.fa
  refine ⟨h.x, h.sz, h.cp, h.cN, h.cf, h.cu, h.cl, h.cc, ⟨F, f1, ?_, f3⟩, h.co, h.fo⟩
  have := congrArg (List.take pre.length) f2
  rw [List.take_take] at this
  simpa using this
theorem StP.sum {x m' : Nat} (pl : PlP w0 B bp bn bf bu bl bc bo g) (h : StP w0 B P n bp bn bf bu bl bc bo g lv cv fv D C W m pre) (hx : cn .f32 x = sumP D C P n m') (hl : x < 4294967296) :
    StP w0 B P n bp bn bf bu bl bc bo g lv cv fv D C (W.setCell ⟨bo, 0, none⟩ (.float .f32 x)) m' pre := by
  obtain ⟨m1, m2, m3, m4, m5, m6, m7⟩ := pl.o
  have k : ∀ b (v : Value), bo ≠ b → W.cell? ⟨b, 0, none⟩ = some v → (W.setCell ⟨bo, 0, none⟩ (.float .f32 x)).cell? ⟨b, 0, none⟩ = some v := fun b v hb e =>
    (World.cell?_setCell_other _ _ _ _ (fun q => hb (by injection q))).trans e
  obtain ⟨F, f1, f2, f3⟩ := h.fa
  obtain ⟨y, c1, c2⟩ := h.co
  have hs : W.heap.size ≤ (W.setCell ⟨bo, 0, none⟩ (.float .f32 x)).heap.size := (Below.setCell (p := ⟨bo, 0, none⟩) (Below.refl bo W) (Nat.le_refl _) (.float .f32 x)).size
  refine ⟨h.x.setCell pl.w.1 _, Nat.le_trans h.sz hs, k _ _ m1 h.cp, k _ _ m2 h.cN, k _ _ m3 h.cf, k _ _ m4 h.cu, k _ _ m5 h.cl, k _ _ m6 h.cc, ⟨F, f1, f2, ?_⟩, ⟨x, World.cell?_setCell_same' _ _ _ (by rw [c1]; rfl), hx, hl⟩, ?_⟩
  · exact ownsRow_setCell_other (a := ⟨bo, 0, none⟩) f3 (by simp [Value.ownBlock]; omega) _
  · rw [World.frozen?_setCell]; exact h.fo

set_option maxRecDepth 100000 in
set_option maxHeartbeats 8000000 in
/-- All parts have their phases: what this way adds. -/
theorem put_leaf (ss : List Sy) (bs : List Nat) (q : Nat) (rl : RdSy w0 lv ss) (rc : RdF w0 cv bs) (hP : P ≤ 6) (hn : n ≤ 3) (hsn : ss.length = n) (hss : SysP P ss) (hbs : bs.length = n * P)
    (pl : PlP w0 B bp bn bf bu bl bc bo g) (hq : q < (n + 1) ^ P) (st : StP w0 B P n bp bn bf bu bl bc bo g lv cv fv (dn ss) (bs.map (cn .f32)) W q (digs (n + 1) P q)) :
    Calls Try.prog 61 #[.int .i64 P, .pointer (some ⟨bp, 0, none⟩), .pointer (some ⟨bn, 0, none⟩), .pointer (some ⟨bf, 0, none⟩), .pointer (some ⟨bu, 0, none⟩), .pointer (some ⟨bl, 0, none⟩), .pointer (some ⟨bc, 0, none⟩), .pointer (some ⟨bo, 0, none⟩)] W
      fun e W' => e = .returned (.tuple #[]) ∧ StP w0 B P n bp bn bf bu bl bc bo g lv cv fv (dn ss) (bs.map (cn .f32)) W' (q + 1) (digs (n + 1) P q) := by
  have ST := Lib.hid st
  have rl' := rl.ext st.x
  have rc' := rc.ext st.x
  have rl0 := rl
  have rc0 := rc
  obtain ⟨⟨-, a1, c1, rfl, -, -, -, -⟩, -⟩ := rl
  obtain ⟨⟨-, a2, c2, rfl, -, -, -, -⟩, -⟩ := rc
  rw [hsn] at rl' rl0 ST st
  try rw [hsn]
  have hcl := digs_len (n + 1) P q
  have hlt := digs_lt (show 0 < n + 1 by omega) P q hq
  obtain ⟨F, f1, f2, own⟩ := st.fa
  rw [hcl, List.take_of_length_le (by omega)] at f2
  have HDEF : Hid (sumP (dn ss) (bs.map (cn .f32)) P n (q + 1) = if okK (dn ss) P (digs (n + 1) P q) n then fop .add .f32 (sumP (dn ss) (bs.map (cn .f32)) P n q) (prA (bs.map (cn .f32)) P n (digs (n + 1) P q) P) else sumP (dn ss) (bs.map (cn .f32)) P n q) := rfl
  rw [← f2] at HDEF hlt ST ⊢
  obtain ⟨x0, hx0, hx1, hx2⟩ := st.co
  have cp := st.cp
  have cN := st.cN
  have cf := st.cf
  have cl := st.cl
  have cc := st.cc
  have fo := st.fo
  have hsz := st.sz
  have HX1 := Lib.hid hx1
  have HX2 := Lib.hid hx2
  have HLT : Hid (∀ i, (h : i < F.length) → F[i] ≤ n) := fun i h => by have := hlt _ (List.getElem_mem h); omega
  have HSS := Lib.hid hss
  have HBS := Lib.hid hbs
  have HF1 := Lib.hid f1
  obtain ⟨l1, l2, l3, l4, l5, l6, l7, l8⟩ := Lib.hid pl.l |>.out
  have PL := Lib.hid pl
  clear st hcl f2 hlt hq hss hbs pl hx1 hx2
  go_enter Try.func61, Try.ntmps61
  go_wp2_with fail
  clear cp cN cf cl cc fo hx0
  go_loopw [39] (fun i wr => ∃ t : Nat, t ≤ n ∧ i = .int .i64 t ∧ Hid (okK (dn ss) P F t = true) ∧ Ext W wr) (fun i _ => n - (intOf i).toNat)
  case atStart => exact ⟨0, Nat.zero_le _, rfl, (by show _ = _; rfl), Ext.refl _⟩
  case round =>
    obtain ⟨t, ht, rfl, HOK, X⟩ := hrel
    by_cases hlt : t < n
    · have hts : t < ss.length := by omega
      obtain ⟨b1, o1, rfl, hb1, k0, k1⟩ := (rl'.ext X).at hts
      have hok : RdI _ ss[t].kv ss[t].zs := (rl'.ext X).2 _ (List.getElem_mem hts)
      obtain ⟨hsn1, hsn2⟩ := HSS.out _ (List.getElem_mem hts)
      have HDN : Hid ((dn ss).getD t [] = downs ss[t].zs) := dn_at hts
      have st := ST.out.ext PL.out X
      have cf := st.cf
      have hbf : bf < wr.heap.size := Nat.lt_of_lt_of_le l3 st.sz
      generalize ss[t] = sy at *
      obtain ⟨pt, kv, zs⟩ := sy
      simp only at *
      have HN1 := Lib.hid hsn1
      have HN2 := Lib.hid hsn2
      have HOKR := Lib.hid hok
      obtain ⟨-, a3, c3, rfl, -, -, -, -⟩ := hok
      clear hsn1 hsn2 st
      go_wp2_with fail
      have bx : Bx (wr.alloc (.cells #[.int .i64 pt, .slice a3 zs.length c3] 27)) wr.heap.size [.int .i64 pt, .slice a3 zs.length c3] := Bx.new _ _ _
      have X1 : Ext wr (wr.alloc (.cells #[.int .i64 pt, .slice a3 zs.length c3] 27)) := Ext.alloc _ _
      generalize hW1 : World.alloc wr _ = W1 at *
      generalize hbx0 : wr.heap.size = bx0 at *
      clear hW1 k0 k1 hb1 cf hbf
      obtain ⟨wo, rfl⟩ : ∃ wo : World, wo = wr := ⟨_, rfl⟩
      go_loopw [46, 12] (fun i q wq => ∃ j : Nat, j ≤ P ∧ i = .int .i64 j ∧ q = .int .i64 (setK F t j : Nat) ∧ Ext W1 wq) (fun i _ _ => P - (intOf i).toNat)
      case atStart => exact ⟨0, Nat.zero_le _, rfl, rfl, Ext.refl _⟩
      case round =>
        obtain ⟨j, hj, rfl, rfl, Y⟩ := hrel
        have hj6 : 2 ^ j ≤ 64 := by
          have : j = 0 ∨ j = 1 ∨ j = 2 ∨ j = 3 ∨ j = 4 ∨ j = 5 ∨ j = 6 := by omega
          rcases this with h | h | h | h | h | h | h <;> subst h <;> decide
        have hs := setK_lt F t j
        by_cases hjP : j < P
        · have hjF : j < F.length := by omega
          have own2 := own_ext' own ((X.trans X1).trans Y)
          have hc0 := own2.cellAt j (by omega)
          rw [nums_at hjF] at hc0
          have hg2 := (own2.lt g rfl).2
          have hji : (j : Int) < (P : Int) := by omega
          have hj64 : (j : Int) < 64 := by omega
          have hSD : Hid (setK F t (j + 1) = setK F t j + (if t < F.getD j 0 then 2 ^ j else 0)) := rfl
          have hgd : F.getD j 0 = F[j] := by simp [hjF]
          rw [hgd] at hSD
          obtain ⟨s2, hs2⟩ : ∃ s2, s2 = setK F t j + 2 ^ j := ⟨_, rfl⟩
          have hor : bits .or .i64 ((setK F t j : Nat) : Int) (2 ^ j) = (s2 : Int) := by
            rw [show (2 : Int) ^ j = ((2 ^ j : Nat) : Int) by exact_mod_cast rfl, bits_or _ _ (by omega) (by omega), or_bit (Nat.testBit_lt_two_pow hs), hs2]
          have hw2 : IntKind.i64.wrap ((2 : Int) ^ j) = (2 : Int) ^ j := by
            rw [show (2 : Int) ^ j = ((2 ^ j : Nat) : Int) by exact_mod_cast rfl]; exact wrap_nat _ (by omega)
          clear own2 hgd hs hj6
          generalize setK F t j = s1 at *
          generalize F[j] = d at *
          by_cases htd : t < d
          · have htd2 : (t : Int) < (d : Int) := by omega
            have hSE : Hid (setK F t (j + 1) = s2) := by show _ = _; rw [hSD.out, if_pos htd, hs2]
            clear htd hs2
            go_wp2_with fail
            go_roundw
            case rel => exact ⟨j + 1, by omega, by go_num, by rw [hSE.out], Y⟩
            case measure => simp [intOf]; omega
          · have htd2 : ¬ (t : Int) < (d : Int) := by omega
            have hSE : Hid (setK F t (j + 1) = s1) := by show _ = _; rw [hSD.out, if_neg htd, Nat.add_zero]
            clear htd hs2
            go_wp2_with fail
            go_roundw
            case rel => exact ⟨j + 1, by omega, by go_num, by rw [hSE.out], Y⟩
            case measure => simp [intOf]; omega
        · obtain rfl : j = P := by omega
          have bx2 := bx.ext Y
          obtain ⟨k0, k1⟩ := bx2.two
          have hbl := bx2.1
          have r3 : RdI wr (.slice a3 zs.length c3) (ups (downs zs)) := by rw [← HN2.out]; exact RdI.ext HOKR.out (X1.trans Y)
          have HW := Lib.hid (fun W' (x : Ext wr W') => works_any pt (setK F t j) (.slice a3 zs.length c3) (downs zs) W' (r3.ext x) (fun z hz => by have := HN1.out.small z hz; omega) (by omega))
          generalize hwb : worksB (downs zs) (setK F t j) = wb at *
          have HWB := Lib.hid hwb
          clear hwb r3 hs hj6
          go_wp2_with fail
          refine (HW.out _ (Ext.refl _)).mono ?_
          rintro e w2 ⟨rfl, hx⟩
          have Z := ((X.trans X1).trans Y).trans hx
          cases wb
          · have HNO : Hid (okK (dn ss) j F n = false) := okK_false hlt (by rw [HDN.out]; exact HWB.out)
            go_wp2_with fail
            refine bodyPost_ret (v := .tuple #[]) (results_none rfl _ _ _) rfl ⟨rfl, ?_⟩
            have st2 := ST.out.ext PL.out Z
            have e : sumP (dn ss) (bs.map (cn .f32)) j n (q + 1) = sumP (dn ss) (bs.map (cn .f32)) j n q := by rw [HDEF.out, HNO.out]; rfl
            obtain ⟨y, y1, y2, y3⟩ := st2.co
            exact ⟨st2.x, st2.sz, st2.cp, st2.cN, st2.cf, st2.cu, st2.cl, st2.cc, st2.fa, ⟨y, y1, by rw [e]; exact y2, y3⟩, st2.fo⟩
          · have HYES : Hid (okK (dn ss) j F (t + 1) = true) := by show _ = _; rw [okK_succ, HOK.out, HDN.out, HWB.out]; rfl
            go_wp2_with fail
            go_roundw
            case rel => exact ⟨t + 1, by omega, by go_num, HYES, Z⟩
            case measure => simp [intOf]; omega
    · obtain rfl : t = n := by omega
      have st := ST.out.ext PL.out X
      have cf := st.cf
      have hbf : bf < wr.heap.size := Nat.lt_of_lt_of_le l3 st.sz
      clear st
      go_wp2_with fail
      clear cf hbf
      obtain ⟨we, rfl⟩ : ∃ we : World, we = wr := ⟨_, rfl⟩
      go_loopw [66, 15] (fun i p wq => ∃ (j x : Nat), j ≤ P ∧ i = .int .i64 j ∧ p = .float .f32 x ∧ Hid (cn .f32 x = prA (bs.map (cn .f32)) P t F j) ∧ Hid (x < 4294967296) ∧ Ext we wq) (fun i _ _ => P - (intOf i).toNat)
      case atStart => exact ⟨0, 1065353216, Nat.zero_le _, rfl, rfl, rfl, (by show (1065353216 : Nat) < _; decide), Ext.refl _⟩
      case round =>
        obtain ⟨j, x, hj, rfl, rfl, HX, HXB, Y⟩ := hrel
        by_cases hjP : j < P
        · have hjF : j < F.length := by omega
          have st := ST.out.ext PL.out (X.trans Y)
          have own2 := own_ext' own (X.trans Y)
          have hc0 := own2.cellAt j (by omega)
          rw [nums_at hjF] at hc0
          have hg2 := (own2.lt g rfl).2
          have cN := st.cN
          have hbn : bn < wr.heap.size := Nat.lt_of_lt_of_le l2 st.sz
          have hji : (j : Int) < (P : Int) := by omega
          have HDA : Hid (prA (bs.map (cn .f32)) P t F (j + 1) = prT (prA (bs.map (cn .f32)) P t F j) (bs.map (cn .f32)) P j (F.getD j 0) (min t (F.getD j 0 + 1))) := rfl
          have hgd : F.getD j 0 = F[j] := by simp [hjF]
          rw [hgd] at HDA
          have hdn := HLT.out j hjF
          generalize F[j] = d at *
          clear own2 hgd st
          go_wp2_with fail
          obtain ⟨wo, rfl⟩ : ∃ wo : World, wo = wr := ⟨_, rfl⟩
          clear hc0 hg2 cN hbn
          go_loopw [72, 15] (fun i p wq => ∃ (s y : Nat), s ≤ t ∧ s ≤ d ∧ i = .int .i64 s ∧ p = .float .f32 y ∧ Hid (cn .f32 y = prT (prA (bs.map (cn .f32)) P t F j) (bs.map (cn .f32)) P j d s) ∧ Hid (y < 4294967296) ∧ Ext wo wq) (fun i _ _ => t - (intOf i).toNat)
          case atStart => exact ⟨0, x, Nat.zero_le _, Nat.zero_le _, rfl, rfl, HX, HXB, Ext.refl _⟩
          case round =>
            obtain ⟨s, y, hst, hsd, rfl, rfl, HY, HYB, V⟩ := hrel
            by_cases hlt : s < t
            · have hix : s * P + j < bs.length := by
                rw [HBS.out]
                have : (s + 1) * P ≤ t * P := Nat.mul_le_mul_right P hlt
                rw [Nat.succ_mul] at this; omega
              have hix2 : s * P + j < 18 := by
                have h1 : t * P ≤ 3 * 6 := Nat.mul_le_mul hn hP
                have h2 := HBS.out
                omega
              have hm : (s : Int) * (P : Int) = ((s * P : Nat) : Int) := by exact_mod_cast rfl
              have hw1 : IntKind.i64.wrap ((s : Int) * (P : Int)) = ((s * P : Nat) : Int) := by rw [hm]; exact wrap_nat _ (by omega)
              obtain ⟨ix, hixd⟩ : ∃ ix, ix = s * P + j := ⟨_, rfl⟩
              have hw3 : IntKind.i64.wrap (((s * P : Nat) : Int) + (j : Int)) = (ix : Int) := by rw [hixd, show ((s * P : Nat) : Int) + (j : Int) = ((s * P + j : Nat) : Int) by omega]; exact wrap_nat _ (by omega)
              have st := ST.out.ext PL.out ((X.trans Y).trans V)
              have cc := st.cc
              have cp := st.cp
              have hbc : bc < wr.heap.size := Nat.lt_of_lt_of_le l6 st.sz
              have hbp : bp < wr.heap.size := Nat.lt_of_lt_of_le l1 st.sz
              rw [← hixd] at hix hix2
              obtain ⟨b2, o2, e2, hb2, hc2⟩ := RdF.at (rc'.ext ((X.trans Y).trans V)) hix
              subst e2
              have hixi : (ix : Int) < (bs.length : Int) := by omega
              have HCX : Hid ((bs.map (cn .f32)).getD (s * P + j) 0 = cn .f32 bs[ix]) := by show _ = _; rw [← hixd]; simp [hix]
              have HPT : Hid (prT (prA (bs.map (cn .f32)) P t F j) (bs.map (cn .f32)) P j d (s + 1) = fop .mul .f32 (prT (prA (bs.map (cn .f32)) P t F j) (bs.map (cn .f32)) P j d s) (if s < d then fop .sub .f32 oneF ((bs.map (cn .f32)).getD (s * P + j) 0) else (bs.map (cn .f32)).getD (s * P + j) 0)) := rfl
              rw [HCX.out] at HPT
              generalize bs[ix] = c at *
              generalize hsp : s * P = sp at *
              clear hsp hm st hixd
              by_cases hsd2 : s = d
              · have HPE : Hid (prA (bs.map (cn .f32)) P t F (j + 1) = fop .mul .f32 (prT (prA (bs.map (cn .f32)) P t F j) (bs.map (cn .f32)) P j d s) (cn .f32 c)) := by
                  show _ = _
                  rw [HDA.out, show min t (d + 1) = s + 1 by omega, HPT.out, if_neg (by omega)]
                clear HPT HDA
                subst hsd2
                go_wp2_with (refine wpList_fop rfl rfl rfl rfl rfl ?_; intro fb nf hfb hfl; replace hfb := Lib.hid hfb; replace hfl := Lib.hid hfl)
                go_roundw
                case rel =>
                  refine ⟨j + 1, fb, by omega, by go_num, rfl, ?_, hfl, Y.trans (V.trans (Ext.drewN _ _))⟩
                  show _ = _; rw [HPE.out, hfb.out, HY.out]
                case measure => simp [intOf]; omega
              · have HPE : Hid (prT (prA (bs.map (cn .f32)) P t F j) (bs.map (cn .f32)) P j d (s + 1) = fop .mul .f32 (prT (prA (bs.map (cn .f32)) P t F j) (bs.map (cn .f32)) P j d s) (fop .sub .f32 oneF (cn .f32 c))) := by
                  show _ = _
                  rw [HPT.out, if_pos (by omega)]
                have hsd3 : ¬ (s : Int) = (d : Int) := by omega
                have hsd4 : s < d := by omega
                clear HPT HDA hsd2
                go_wp2_with (refine wpList_fop rfl rfl rfl rfl rfl ?_; intro fb nf hfb hfl; replace hfb := Lib.hid hfb; replace hfl := Lib.hid hfl)
                rename_i m1 n1 e1 l1
                go_roundw
                case rel =>
                  refine ⟨s + 1, fb, by omega, by omega, by go_num, rfl, ?_, hfl, V.trans (Ext.drewN _ _)⟩
                  show _ = _; rw [HPE.out, hfb.out, e1.out, HY.out]; rfl
                case measure => simp [intOf]; omega
            · obtain rfl : s = t := by omega
              have HPE : Hid (prA (bs.map (cn .f32)) P s F (j + 1) = prT (prA (bs.map (cn .f32)) P s F j) (bs.map (cn .f32)) P j d s) := by
                show _ = _
                rw [HDA.out, show min s (d + 1) = s by omega]
              go_wp2_with fail
              go_roundw
              case rel =>
                refine ⟨j + 1, y, by omega, by go_num, rfl, ?_, HYB, Y.trans V⟩
                show _ = _; rw [HPE.out, HY.out]
              case measure => simp [intOf]; omega
        · obtain rfl : j = P := by omega
          have st := ST.out.ext PL.out (X.trans Y)
          have ST2 := Lib.hid st
          obtain ⟨x0, hx0, hx1, hx2⟩ := st.co
          have HX1 := Lib.hid hx1
          have HX2 := Lib.hid hx2
          have fo := st.fo
          have hbo : bo < wr.heap.size := Nat.lt_of_lt_of_le l7 st.sz
          clear st hx1 hx2
          go_wp2_with (refine wpList_fop rfl rfl rfl rfl rfl ?_; intro fb nf hfb hfl; replace hfb := Lib.hid hfb; replace hfl := Lib.hid hfl)
          go_end0
          refine ⟨rfl, ?_⟩
          have e : sumP (dn ss) (bs.map (cn .f32)) j t (q + 1) = fop .add .f32 (sumP (dn ss) (bs.map (cn .f32)) j t q) (prA (bs.map (cn .f32)) j t F j) := by rw [HDEF.out, HOK.out]; rfl
          refine StP.sum PL.out (ST2.out.ext PL.out (Ext.drewN _ _)) ?_ hfl.out
          rw [e, hfb.out, HX1.out, HX.out]

set_option maxRecDepth 100000 in
set_option maxHeartbeats 8000000 in
/-- The closure: all ways for the parts from one on. -/
theorem put_any (ss : List Sy) (bs : List Nat) (rl : RdSy w0 lv ss) (rc : RdF w0 cv bs) (hP : P ≤ 6) (hn : n ≤ 3) (hsn : ss.length = n) (hss : SysP P ss) (hbs : bs.length = n * P)
    (pl : PlP w0 B bp bn bf bu bl bc bo g) (hfv : fv = .func (.func 61) #[] #[.pointer (some ⟨bp, 0, none⟩), .pointer (some ⟨bn, 0, none⟩), .pointer (some ⟨bf, 0, none⟩), .pointer (some ⟨bu, 0, none⟩), .pointer (some ⟨bl, 0, none⟩), .pointer (some ⟨bc, 0, none⟩), .pointer (some ⟨bo, 0, none⟩)]) :
    ∀ (k p q : Nat) (W : World), p + k = P → q < (n + 1) ^ p → StP w0 B P n bp bn bf bu bl bc bo g lv cv fv (dn ss) (bs.map (cn .f32)) W (q * (n + 1) ^ k) (digs (n + 1) p q) →
    Calls Try.prog 61 #[.int .i64 p, .pointer (some ⟨bp, 0, none⟩), .pointer (some ⟨bn, 0, none⟩), .pointer (some ⟨bf, 0, none⟩), .pointer (some ⟨bu, 0, none⟩), .pointer (some ⟨bl, 0, none⟩), .pointer (some ⟨bc, 0, none⟩), .pointer (some ⟨bo, 0, none⟩)] W
      fun e W' => e = .returned (.tuple #[]) ∧ StP w0 B P n bp bn bf bu bl bc bo g lv cv fv (dn ss) (bs.map (cn .f32)) W' ((q + 1) * (n + 1) ^ k) (digs (n + 1) p q) := by
  have HFV := Lib.hid hfv
  clear hfv
  intro k
  induction k with
  | zero =>
    intro p q W hpk hq st
    obtain rfl : p = P := by omega
    rw [Nat.pow_zero, Nat.mul_one] at st ⊢
    exact put_leaf ss bs q rl rc hP hn hsn hss hbs pl hq st
  | succ k ih =>
    intro p q W hpk hq st
    have hpl : p < P := by omega
    have hpi : (p : Int) < (P : Int) := by omega
    have hw1 : IntKind.i64.wrap ((p : Int) + 1) = ((p + 1 : Nat) : Int) := by rw [show (p : Int) + 1 = ((p + 1 : Nat) : Int) by omega]; exact wrap_nat _ (by omega)
    have hw2 : IntKind.i64.wrap ((n : Int) + 1) = ((n + 1 : Nat) : Int) := by rw [show (n : Int) + 1 = ((n + 1 : Nat) : Int) by omega]; exact wrap_nat _ (by omega)
    obtain ⟨b, hb⟩ : ∃ b, b = n + 1 := ⟨_, rfl⟩
    have hlen := digs_len (n + 1) p q
    have HIH := Lib.hid (fun (j : Nat) (hj : j < n + 1) (W' : World) (s : StP w0 B P n bp bn bf bu bl bc bo g lv cv fv (dn ss) (bs.map (cn .f32)) W' ((q * (n + 1) + j) * (n + 1) ^ k) (digs (n + 1) p q ++ [j])) =>
      ih (p + 1) (q * (n + 1) + j) W' (by omega) (by
        have : (q + 1) * (n + 1) ≤ (n + 1) ^ p * (n + 1) := Nat.mul_le_mul_right _ hq
        rw [Nat.succ_mul] at this
        rw [Nat.pow_succ]; omega) (by rw [digs_snoc hj p q hq]; exact s))
    have HSN := Lib.hid (fun (j : Nat) (hj : j < n + 1) => digs_snoc hj p q hq)
    have h0 : q * (n + 1) ^ (k + 1) = (q * (n + 1) + 0) * (n + 1) ^ k := by
      show q * (n + 1) ^ (k + 1) = (q * (n + 1)) * (n + 1) ^ k
      rw [Nat.pow_succ, Nat.mul_assoc, Nat.mul_comm (n + 1)]
    have h1 : (q + 1) * (n + 1) ^ (k + 1) = (q * (n + 1) + (n + 1)) * (n + 1) ^ k := by
      rw [← Nat.succ_mul, Nat.pow_succ, Nat.mul_assoc, Nat.mul_comm (n + 1)]
    rw [h0] at st
    have HG := Lib.hid h1
    have ST := Lib.hid st
    have PL := Lib.hid pl
    have cp := st.cp
    have cN := st.cN
    have hsz := st.sz
    obtain ⟨l1, l2, l3, l4, l5, l6, l7, l8⟩ := Lib.hid pl.l |>.out
    clear ih h0 h1 st pl hq rl rc hbs hss hsn
    have hbp : bp < W.heap.size := Nat.lt_of_lt_of_le l1 hsz
    have hbn : bn < W.heap.size := Nat.lt_of_lt_of_le l2 hsz
    generalize hpre : digs (n + 1) p q = pre at *
    clear hpre
    rw [← hb] at hw2
    have hbi : (b : Int) = (n : Int) + 1 := by omega
    go_enter Try.func61, Try.ntmps61
    go_wp2_with fail
    clear cp cN hbp hbn
    go_loopw [25] (fun i wr => ∃ j : Nat, j ≤ n + 1 ∧ i = .int .i64 j ∧ StP w0 B P n bp bn bf bu bl bc bo g lv cv fv (dn ss) (bs.map (cn .f32)) wr ((q * (n + 1) + j) * (n + 1) ^ k) pre) (fun i _ => (n + 1) - (intOf i).toNat)
    case atStart => exact ⟨0, Nat.zero_le _, rfl, ST.out⟩
    case round =>
      obtain ⟨j, hj, rfl, st⟩ := hrel
      by_cases hlt : j < n + 1
      · have hji : (j : Int) < (b : Int) := by omega
        obtain ⟨F, f1, f2, own⟩ := st.fa
        have hc := own.cellAt p (by omega)
        have hf := own.frozenAt p
        rw [nums_at (by omega)] at hc
        have cf := st.cf
        have hbf : bf < wr.heap.size := Nat.lt_of_lt_of_le l3 st.sz
        have hg := (own.lt g rfl).2
        have st2 := st.put (j := j) PL.out (by omega)
        rw [hlen] at st2
        have cu := st2.cu
        rw [HFV.out] at cu
        have HI := Lib.hid (HIH.out j hlt _ st2)
        rw [HSN.out j hlt] at HI
        clear own st st2 f2
        go_wp2_with fail
        refine HI.out.mono ?_
        rintro e w2 ⟨rfl, st3⟩
        have st4 := st3.less
        clear st3
        go_wp2_with fail
        go_roundw
        case rel => exact ⟨j + 1, by omega, by go_num, by rw [show q * (n + 1) + (j + 1) = q * (n + 1) + j + 1 by omega]; exact st4⟩
        case measure => simp [intOf]; omega
      · obtain rfl : j = n + 1 := by omega
        have hji : ¬ ((n + 1 : Nat) : Int) < (b : Int) := by omega
        go_wp2_with fail
        refine bodyPost_ret (v := .tuple #[]) (results_none rfl _ _ _) rfl ⟨rfl, ?_⟩
        rw [HG.out]; exact st
end Go.Proofs.Ytgmdoboeenpjpaa
/- PhasesChance as the program finds it. Condition: lists that can be read. -/
namespace Go.Proofs.Ytgmdoboeenpjpaa
open Go Go.RowKit Go.ChangeShapes Go.WideShapes Go.ChangeAt

attribute [local irreducible] LX
attribute [local go_sem] run_store_float
theorem run_store_fnP (P : Program) (w : World) (a : Addr) (m : Mode) (fn : Fn) (x y : Array Value) : (store a (.func fn x y) m).run P w = stored P w a (.func fn x y) m := run_store P w a _ m rfl
attribute [local go_sem] run_store_fnP

def phHead (ss : List Sy) : Int := (ss.map Sy.parts).headD 0
def phRow (p : Int) (s : Sy) : Bool := sysB s.parts s.zs && (decide (s.parts = p) && decide (s.parts ≤ 6))
def phOk (ss : List Sy) (bs : List Nat) : Bool := (decide (1 ≤ ss.length) && decide (ss.length ≤ 3)) && (ss.all (phRow (phHead ss)) && chancesB bs (phHead ss * ss.length))
def phO (ss : List Sy) (bs : List Nat) : Option Nat :=
  if phOk ss bs then some (sumP (dn ss) (bs.map (cn .f32)) (phHead ss).toNat ss.length ((ss.length + 1) ^ (phHead ss).toNat)) else none
theorem phO_no {ss : List Sy} {bs : List Nat} (h : phOk ss bs = false) : phO ss bs = none := by unfold phO; rw [h]; rfl
theorem phOk_row {ss : List Sy} {bs : List Nat} {i : Nat} (hi : i < ss.length) (h : phRow (phHead ss) ss[i] = false) : phOk ss bs = false := by
  have : ss.all (phRow (phHead ss)) = false := by rw [List.all_eq_false]; exact ⟨ss[i], List.getElem_mem hi, by rw [h]; exact Bool.false_ne_true⟩
  unfold phOk; rw [this]; simp
theorem phHead_at {ss : List Sy} (h : 0 < ss.length) : phHead ss = ss[0].parts := by
  cases ss with
  | nil => simp at h
  | cons s _ => rfl
theorem phHead_dat {a b : List Sy} (e : a.map Sy.dat = b.map Sy.dat) : phHead a = phHead b := by
  have h := congrArg (List.map fun q : Int × List Int => q.1) e
  unfold phHead
  have h2 : a.map Sy.parts = b.map Sy.parts := by simpa [Sy.dat, Function.comp_def] using h
  rw [h2]
theorem phO_dat {a b : List Sy} (bs : List Nat) (e : a.map Sy.dat = b.map Sy.dat) : phO a bs = phO b bs := by
  have hl : a.length = b.length := by simpa using congrArg List.length e
  have hh := phHead_dat e
  have ha : a.all (phRow (phHead a)) = b.all (phRow (phHead b)) := by
    rw [hh]
    have h := congrArg (fun l : List (Int × List Int) => l.all fun q => sysB q.1 q.2 && (decide (q.1 = phHead b) && decide (q.1 ≤ 6))) e
    simp only [List.all_map] at h
    exact h
  unfold phO phOk
  rw [ha, hh, hl, dn_dat e]
/-- All is as asked. -/
structure PhG (ss : List Sy) (bs : List Nat) (P n : Nat) : Prop where
  hn : 1 ≤ n ∧ n ≤ 3
  hsn : ss.length = n
  hP : 1 ≤ P ∧ P ≤ 6
  hp : phHead ss = (P : Int)
  hss : SysP P ss
theorem phG_of {ss : List Sy} {bs : List Nat} (h1 : 1 ≤ ss.length) (h3 : ss.length ≤ 3) (hr : ∀ i, (h : i < ss.length) → phRow (phHead ss) ss[i] = true) : PhG ss bs (phHead ss).toNat ss.length := by
  have h := fun i (hi : i < ss.length) => by
    have := hr i hi
    simp only [phRow, Bool.and_eq_true, decide_eq_true_eq] at this
    exact this
  have hs0 := h 0 (by omega)
  have hg0 := hs0.1
  unfold sysB at hg0
  simp only [Bool.and_eq_true] at hg0
  have hgood := (good_get hg0.1).1
  refine ⟨⟨h1, h3⟩, rfl, ⟨by omega, by omega⟩, by omega, fun s hm => ?_⟩
  obtain ⟨i, hi, rfl⟩ := List.getElem_of_mem hm
  obtain ⟨q1, q2, q3⟩ := h i hi
  unfold sysB at q1
  simp only [Bool.and_eq_true] at q1
  obtain ⟨a1, a2, a3⟩ := SysN.of q1.1
  rw [q2] at a1
  exact ⟨a1, a3⟩

theorem keepS {wr W : World} {a b : Addr} {x y : Value} (ha : a.block < wr.heap.size) (hb : b.block < wr.heap.size) (k1 : wr.cell? a = some x) (k2 : wr.cell? b = some y) (h : Ext wr W) : W.cell? a = some x ∧ W.cell? b = some y ∧ Ext wr W :=
  ⟨(Below.cell h ha).trans k1, (Below.cell h hb).trans k2, h⟩
theorem keepS_d (W : World) : Ext W W.drew := Ext.drewN _ 1
theorem keepS_a {wr W : World} {o : Obj} (h : Ext wr W) : Ext wr (W.alloc o) := h.trans (Ext.alloc _ _)
theorem twoBz {wr W : World} {s t : TypeId} {x y : Value} (h : W = ((wr.alloc (.cells #[x] s)).alloc (.cells #[y] t)).drew) : Bz W wr.heap.size s [x] ∧ Bz W (wr.heap.size + 1) t [y] := by
  subst h
  have h1 : Bz (wr.alloc (.cells #[x] s)) wr.heap.size s [x] := Bz.new _ _ _
  have h2 : Bz ((wr.alloc (.cells #[x] s)).alloc (.cells #[y] t)) (wr.alloc (.cells #[x] s)).heap.size t [y] := Bz.new _ _ _
  have e : (wr.alloc (.cells #[x] s)).heap.size = wr.heap.size + 1 := by simp
  rw [e] at h2
  exact ⟨(h1.ext (Ext.alloc _ _)).ext (keepS_d _), h2.ext (keepS_d _)⟩
set_option maxRecDepth 100000 in
set_option maxHeartbeats 8000000 in
theorem implPhasesChance_any (v u : Value) (ss : List Sy) (bs : List Nat) (w : World) (r : RdSy w v ss) (rb : RdF w u bs) :
    Calls Try.prog 17 #[v, u] w (NmPost (phO ss bs) w) := by
  have r' := r
  have rb' := rb
  obtain ⟨⟨-, a1, c1, rfl, p1, p2, -, -⟩, -⟩ := r
  obtain ⟨⟨-, a2, c2, rfl, -, -, -, -⟩, -⟩ := rb
  unfold maxLen at p2
  generalize hW0 : (w.alloc (.cells #[.slice a1 ss.length c1] 44)).alloc (.cells #[.slice a2 bs.length c2] 29) = W0
  have X0 : Ext w W0 := hW0 ▸ (Ext.alloc _ _).trans (Ext.alloc _ _)
  have b1 : Bx W0 w.heap.size [.slice a1 ss.length c1] := hW0 ▸ (Bx.new _ _ _).ext (Ext.alloc _ _)
  have b2 : Bx W0 (w.heap.size + 1) [.slice a2 bs.length c2] := hW0 ▸ Bx.new' _ _ _ (by simp)
  have k1 := b1.one
  by_cases h1 : ss.length < 1
  · have HO : Hid (phO ss bs = none) := phO_no (by unfold phOk; simp; omega)
    have h1i : (ss.length : Int) < 1 := by omega
    go_enter Try.func17, Try.ntmps17
    go_wp2_with fail
    go_ret2
    unfold NmPost
    rw [HO.out]
    exact ⟨X0, rfl⟩
  by_cases h3 : 3 < ss.length
  · have HO : Hid (phO ss bs = none) := phO_no (by unfold phOk; simp; omega)
    have h1i : ¬ (ss.length : Int) < 1 := by omega
    have h3i : (3 : Int) < (ss.length : Int) := by omega
    go_enter Try.func17, Try.ntmps17
    go_wp2_with fail
    go_ret2
    unfold NmPost
    rw [HO.out]
    exact ⟨X0, rfl⟩
  have h1i : ¬ (ss.length : Int) < 1 := by omega
  have h3i : ¬ (3 : Int) < (ss.length : Int) := by omega
  have H0 : 0 < ss.length := by omega
  have HH := Lib.hid (phHead_at H0)
  go_enter Try.func17, Try.ntmps17
  go_wp2_with fail
  clear k1 h1i h3i
  go_loopw [23] (fun i wr => ∃ k : Nat, k ≤ ss.length ∧ i = .int .i64 k ∧ Hid (∀ j, (h : j < ss.length) → j < k → phRow (phHead ss) ss[j] = true) ∧ Ext W0 wr) (fun i _ => ss.length - (intOf i).toNat)
  case atStart => exact ⟨0, Nat.zero_le _, rfl, fun j _ h => absurd h (Nat.not_lt_zero _), Ext.refl _⟩
  case round =>
    obtain ⟨k, hk, rfl, HR, X⟩ := hrel
    by_cases hlt : k < ss.length
    · have hki : (k : Int) < (ss.length : Int) := by omega
      have HNO : Hid (phRow (phHead ss) ss[k] = false → phO ss bs = none) := fun h => phO_no (phOk_row hlt h)
      have HYES : Hid (phRow (phHead ss) ss[k] = true → ∀ j, (h : j < ss.length) → j < k + 1 → phRow (phHead ss) ss[j] = true) := fun h j hj hjk => by
        by_cases e : j = k
        · subst e; exact h
        · exact HR.out j hj (by omega)
      have HROW : Hid (phRow (phHead ss) ss[k] = (sysB ss[k].parts ss[k].zs && (decide (ss[k].parts = phHead ss) && decide (ss[k].parts ≤ 6)))) := rfl
      obtain ⟨bb, oo, rfl, hbb, m0, m1⟩ := (r'.ext (X0.trans X)).at hlt
      obtain ⟨_, _, e0, -, z0, -⟩ := (r'.ext (X0.trans X)).at H0
      cases e0
      rw [← HH.out, Nat.zero_mul, Nat.add_zero] at z0
      have hok : RdI _ ss[k].kv ss[k].zs := (r'.ext (X0.trans X)).2 _ (List.getElem_mem hlt)
      have B1 := b1.ext X
      have k1 := B1.one
      have hb1 := B1.1
      generalize ss[k] = sy at *
      obtain ⟨pt, kv, zs⟩ := sy
      simp only at *
      have HOKR := Lib.hid hok
      obtain ⟨-, a3, c3, rfl, -, -, -, -⟩ := hok
      generalize phHead ss = p at *
      go_wp2_with fail
      have bx : Bx (wr.alloc (.cells #[.int .i64 pt, .slice a3 zs.length c3] 27)) wr.heap.size [.int .i64 pt, .slice a3 zs.length c3] := Bx.new _ _ _
      have X1 : Ext wr (wr.alloc (.cells #[.int .i64 pt, .slice a3 zs.length c3] 27)) := Ext.alloc _ _
      generalize hW1 : World.alloc wr _ = W1 at *
      have z1 := (Below.cell X1 (p := ⟨bb, oo, none⟩) hbb).trans z0
      have kk1 := (B1.ext X1).one
      have hbb1 : bb < W1.heap.size := Nat.lt_of_lt_of_le hbb X1.size
      have hb11 := (B1.ext X1).1
      have RI := Lib.hid (RdI.ext HOKR.out X1)
      generalize hbx0 : wr.heap.size = bx0 at *
      clear hW1 m0 m1 hbb z0 k1 hb1 B1
      obtain ⟨q0, q1⟩ := bx.two
      have hq := bx.1
      cases hv : sysB pt zs
      · have HV := Lib.hid hv
        have HNO2 := Lib.hid (HNO.out (by rw [HROW.out, hv]; rfl))
        clear hv
        refine wp_region_rel 17 (fun _ v => v = .bool false) (fun _ _ _ => True) (by kernel_rfl) (by kernel_rfl) (by kernel_rfl) ?_
        dsimp only [List.take, List.drop, List.length]
        refine LX_det (.agg #[.int .i64 pt, .slice a3 zs.length c3]) (by kernel_rfl) rfl (fun w' hx _ => ?_) ?_
        · obtain ⟨m0, m1⟩ := (bx.ext hx).two
          go_simp
        refine LX_call (by kernel_rfl) rfl (fun _ => St.top) (fun w' hx _ => ?_) ?_
        · go_simp
          refine UponC.enter ((implValidSystem_any pt _ zs _ (RI.out.ext hx)).mono ?_)
          rw [HV.out]
          rintro e w'' ⟨rfl, hx'⟩
          exact ⟨_, rfl, hx', rfl, trivial⟩
        rintro _ rfl
        refine LX_det (.bool true) (by kernel_rfl) rfl (fun w' hx _ => ?_) ?_
        · go_simp
        refine LX_det (.bool true) (by kernel_rfl) rfl (fun w' hx _ => ?_) ?_
        · go_simp
        iterate 7 refine LX_skip (by kernel_rfl) ?_
        refine LX_det (.bool true) (by kernel_rfl) rfl (fun w' hx _ => ?_) ?_
        · go_simp
        refine LX_det (.bool true) (by kernel_rfl) rfl (fun w' hx _ => ?_) ?_
        · go_simp
        iterate 3 refine LX_skip (by kernel_rfl) ?_
        refine LX_det (.bool true) (by kernel_rfl) rfl (fun w' hx _ => ?_) ?_
        · go_simp
        refine LX_nil fun w2 hx _ => ?_
        simp only [Act.put, List.setIfInBounds_toArray, List.set_cons_succ, List.set_cons_zero]
        go_wp2_with fail
        go_ret2
        unfold NmPost
        rw [HNO2.out]
        exact ⟨((X0.trans X).trans X1).trans hx, rfl⟩
      · have HV := Lib.hid hv
        rw [hv, Bool.true_and] at HROW
        clear hv
        by_cases hpt : pt = p
        · subst hpt
          simp only [decide_true, Bool.true_and] at HROW
          refine wp_region_rel 17 (fun _ v => v = .bool true) (fun _ _ _ => True) (by kernel_rfl) (by kernel_rfl) (by kernel_rfl) ?_
          dsimp only [List.take, List.drop, List.length]
          refine LX_det (.agg #[.int .i64 pt, .slice a3 zs.length c3]) (by kernel_rfl) rfl (fun w' hx _ => ?_) ?_
          · obtain ⟨m0, m1⟩ := (bx.ext hx).two
            go_simp
          refine LX_call (by kernel_rfl) rfl (fun _ => St.top) (fun w' hx _ => ?_) ?_
          · go_simp
            refine UponC.enter ((implValidSystem_any pt _ zs _ (RI.out.ext hx)).mono ?_)
            rw [HV.out]
            rintro e w'' ⟨rfl, hx'⟩
            exact ⟨_, rfl, hx', rfl, trivial⟩
          rintro _ rfl
          refine LX_det (.bool false) (by kernel_rfl) rfl (fun w' hx _ => ?_) ?_
          · go_simp
          refine LX_det (.bool false) (by kernel_rfl) rfl (fun w' hx _ => ?_) ?_
          · go_simp
          refine LX_det (.pointer (some ⟨bx0, 0, none⟩)) (by kernel_rfl) rfl (fun w' hx _ => ?_) ?_
          · go_simp
          refine LX_det (.int .i64 pt) (by kernel_rfl) rfl (fun w' hx _ => ?_) ?_
          · obtain ⟨m0, m1⟩ := (bx.ext hx).two
            go_simp
          refine LX_det (.slice (some ⟨bb, oo, none⟩) ss.length c1) (by kernel_rfl) rfl (fun w' hx _ => ?_) ?_
          · have m0 := (Below.cell hx (p := ⟨w.heap.size, 0, none⟩) hb11).trans kk1
            go_simp
          refine LX_det (.pointer (some ⟨bb, oo, none⟩)) (by kernel_rfl) rfl (fun w' hx _ => ?_) ?_
          · go_simp
          refine LX_det (.pointer (some ⟨bb, oo, none⟩)) (by kernel_rfl) rfl (fun w' hx _ => ?_) ?_
          · go_simp
          refine LX_det (.int .i64 pt) (by kernel_rfl) rfl (fun w' hx _ => ?_) ?_
          · have m0 := (Below.cell hx (p := ⟨bb, oo, none⟩) hbb1).trans z1
            go_simp
          refine LX_det (.bool false) (by kernel_rfl) rfl (fun w' hx _ => ?_) ?_
          · go_simp
          refine LX_det (.bool false) (by kernel_rfl) rfl (fun w' hx _ => ?_) ?_
          · go_simp
          refine LX_det (.bool false) (by kernel_rfl) rfl (fun w' hx _ => ?_) ?_
          · go_simp
          refine LX_det (.pointer (some ⟨bx0, 0, none⟩)) (by kernel_rfl) rfl (fun w' hx _ => ?_) ?_
          · go_simp
          refine LX_det (.int .i64 pt) (by kernel_rfl) rfl (fun w' hx _ => ?_) ?_
          · obtain ⟨m0, m1⟩ := (bx.ext hx).two
            go_simp
          refine LX_det (.bool (decide ((6 : Int) < pt))) (by kernel_rfl) rfl (fun w' hx _ => ?_) ?_
          · go_simp
          refine LX_det (.bool (decide ((6 : Int) < pt))) (by kernel_rfl) rfl (fun w' hx _ => ?_) ?_
          · go_simp
          refine LX_nil fun w2 hx _ => ?_
          simp only [Act.put, List.setIfInBounds_toArray, List.set_cons_succ, List.set_cons_zero]
          by_cases h6 : (6 : Int) < pt
          · have HNO2 := Lib.hid (HNO.out (by rw [HROW.out]; simp; omega))
            go_wp2_with fail
            go_ret2
            unfold NmPost
            rw [HNO2.out]
            exact ⟨((X0.trans X).trans X1).trans hx, rfl⟩
          · have HYES2 := Lib.hid (HYES.out (by rw [HROW.out]; simp; omega))
            go_wp2_with fail
            go_roundw
            case rel => exact ⟨k + 1, by omega, by go_num, HYES2, (X.trans X1).trans hx⟩
            case measure => simp [intOf]; omega
        · have HNO2 := Lib.hid (HNO.out (by rw [HROW.out]; simp [hpt]))
          refine wp_region_rel 17 (fun _ v => v = .bool true) (fun _ _ _ => True) (by kernel_rfl) (by kernel_rfl) (by kernel_rfl) ?_
          dsimp only [List.take, List.drop, List.length]
          refine LX_det (.agg #[.int .i64 pt, .slice a3 zs.length c3]) (by kernel_rfl) rfl (fun w' hx _ => ?_) ?_
          · obtain ⟨m0, m1⟩ := (bx.ext hx).two
            go_simp
          refine LX_call (by kernel_rfl) rfl (fun _ => St.top) (fun w' hx _ => ?_) ?_
          · go_simp
            refine UponC.enter ((implValidSystem_any pt _ zs _ (RI.out.ext hx)).mono ?_)
            rw [HV.out]
            rintro e w'' ⟨rfl, hx'⟩
            exact ⟨_, rfl, hx', rfl, trivial⟩
          rintro _ rfl
          refine LX_det (.bool false) (by kernel_rfl) rfl (fun w' hx _ => ?_) ?_
          · go_simp
          refine LX_det (.bool false) (by kernel_rfl) rfl (fun w' hx _ => ?_) ?_
          · go_simp
          refine LX_det (.pointer (some ⟨bx0, 0, none⟩)) (by kernel_rfl) rfl (fun w' hx _ => ?_) ?_
          · go_simp
          refine LX_det (.int .i64 pt) (by kernel_rfl) rfl (fun w' hx _ => ?_) ?_
          · obtain ⟨m0, m1⟩ := (bx.ext hx).two
            go_simp
          refine LX_det (.slice (some ⟨bb, oo, none⟩) ss.length c1) (by kernel_rfl) rfl (fun w' hx _ => ?_) ?_
          · have m0 := (Below.cell hx (p := ⟨w.heap.size, 0, none⟩) hb11).trans kk1
            go_simp
          refine LX_det (.pointer (some ⟨bb, oo, none⟩)) (by kernel_rfl) rfl (fun w' hx _ => ?_) ?_
          · go_simp
          refine LX_det (.pointer (some ⟨bb, oo, none⟩)) (by kernel_rfl) rfl (fun w' hx _ => ?_) ?_
          · go_simp
          refine LX_det (.int .i64 p) (by kernel_rfl) rfl (fun w' hx _ => ?_) ?_
          · have m0 := (Below.cell hx (p := ⟨bb, oo, none⟩) hbb1).trans z1
            go_simp
          refine LX_det (.bool true) (by kernel_rfl) rfl (fun w' hx _ => ?_) ?_
          · go_simp
          refine LX_det (.bool true) (by kernel_rfl) rfl (fun w' hx _ => ?_) ?_
          · go_simp
          refine LX_det (.bool true) (by kernel_rfl) rfl (fun w' hx _ => ?_) ?_
          · go_simp
          iterate 3 refine LX_skip (by kernel_rfl) ?_
          refine LX_det (.bool true) (by kernel_rfl) rfl (fun w' hx _ => ?_) ?_
          · go_simp
          refine LX_nil fun w2 hx _ => ?_
          simp only [Act.put, List.setIfInBounds_toArray, List.set_cons_succ, List.set_cons_zero]
          go_wp2_with fail
          go_ret2
          unfold NmPost
          rw [HNO2.out]
          exact ⟨((X0.trans X).trans X1).trans hx, rfl⟩
    · obtain hkn : k = ss.length := by omega
      have G : PhG ss bs (phHead ss).toNat ss.length := phG_of (by omega) (by omega) fun i hi => HR.out i hi (by omega)
      have HALL : Hid (phOk ss bs = chancesB bs (phHead ss * ss.length)) := by
        show _ = _
        have h1 : ss.all (phRow (phHead ss)) = true := by
          rw [List.all_eq_true]
          intro s hs
          obtain ⟨i, hi, rfl⟩ := List.getElem_of_mem hs
          exact HR.out i hi (by omega)
        unfold phOk
        rw [h1, show decide (1 ≤ ss.length) = true by simp; omega, show decide (ss.length ≤ 3) = true by simp; omega]
        rfl
      have HDO : Hid (phO ss bs = if phOk ss bs then some (sumP (dn ss) (bs.map (cn .f32)) (phHead ss).toNat ss.length ((ss.length + 1) ^ (phHead ss).toNat)) else none) := rfl
      obtain ⟨bb, oo, rfl, hbb, z0, -⟩ := (r'.ext (X0.trans X)).at H0
      rw [← HH.out, Nat.zero_mul, Nat.add_zero] at z0
      rw [HALL.out] at HDO
      clear HR HALL HH
      obtain ⟨gn, hsn, gP, hp, hss⟩ := G
      generalize phHead ss = p at *
      generalize hPP : p.toNat = P at *
      subst hp
      clear hPP
      subst hkn
      have GSS := Lib.hid hss
      clear hss hsn
      have hPn : (P : Int) * (ss.length : Int) = ((ss.length * P : Nat) : Int) := by rw [Nat.mul_comm]; exact_mod_cast rfl
      have hle : ss.length * P ≤ 3 * 6 := Nat.mul_le_mul gn.2 gP.2
      have hw1 : IntKind.i64.wrap ((P : Int) * (ss.length : Int)) = ((ss.length * P : Nat) : Int) := by rw [hPn]; exact wrap_nat _ (by omega)
      rw [hPn] at HDO
      have B1 := b1.ext X
      have B2 := b2.ext X
      have k1 := B1.one
      have k2 := B2.one
      have hb1 := B1.1
      have hb2 := B2.1
      generalize hkP : ss.length * P = kP at *
      clear hPn
      have H0i : (0 : Int) < (ss.length : Int) := by omega
      go_wp2_with fail
      go_region_held3 (fun w' => w'.cell? ⟨w.heap.size, 0, none⟩ = some (.slice (some ⟨bb, oo, none⟩) ss.length c1) ∧ w'.cell? ⟨bb, oo, none⟩ = some (.int .i64 P) ∧ Ext wr w')
        ((refine keepS hb1 hbb k1 z0 ?_; repeat (first | exact Ext.refl _ | refine Ext.trans ?_ (keepS_d _) | refine keepS_a ?_ | refine Below.setCell ?_ (by simp) _)))
        (first | fail)
      all_goals
      rename_i hS
      replace hS := hS.2.2
      first
      | (obtain ⟨W3, hW3⟩ : ∃ W3, W3 = ((wr.alloc (.cells #[.int .i64 P] 2)).alloc (.cells #[.int .i64 ss.length] 3)).drew := ⟨_, rfl⟩
         rw [← hW3] at hS ⊢
         obtain ⟨bz3, bz4⟩ := twoBz hW3
         obtain ⟨bn, hbn⟩ : ∃ b, b = wr.heap.size + 1 := ⟨_, rfl⟩
         obtain ⟨bp, hbp⟩ : ∃ b, b = wr.heap.size := ⟨_, rfl⟩
         rw [← hbn, ← hbp]
         rw [← hbp] at bz3
         rw [← hbn] at bz4)
      | (obtain ⟨W3, hW3⟩ : ∃ W3, W3 = ((wr.alloc (.cells #[.int .i64 ss.length] 3)).alloc (.cells #[.int .i64 P] 2)).drew := ⟨_, rfl⟩
         rw [← hW3] at hS ⊢
         obtain ⟨bz4, bz3⟩ := twoBz hW3
         obtain ⟨bp, hbp⟩ : ∃ b, b = wr.heap.size + 1 := ⟨_, rfl⟩
         obtain ⟨bn, hbn⟩ : ∃ b, b = wr.heap.size := ⟨_, rfl⟩
         rw [← hbp, ← hbn]
         rw [← hbp] at bz3
         rw [← hbn] at bz4)
      all_goals
      have X3 : Ext wr W3 := hS
      clear hS hW3
      replace hbp : wr.heap.size ≤ bp := by omega
      replace hbn : wr.heap.size ≤ bn := by omega
      have hne : bp ≠ bn := by
        rintro rfl
        have := bz3.symm.trans bz4
        simp at this
      have c1' := b1.ext (X.trans X3)
      have c2' := b2.ext (X.trans X3)
      have q1 := bz3.bx.one
      have q2 := bz4.bx.one
      have z1 := bz3.lt
      have z2 := bz4.lt
      have kk2 := c2'.one
      have hbb2 := c2'.1
      clear k1 k2 B1 B2
      go_wp2_with fail
      clear kk2 hbb2 z0 hw1 q1 q2 z1 z2
      have HCH := Lib.hid (areChances_any _ bs kP W3 (rb'.ext ((X0.trans X).trans X3)))
      generalize hch : chancesB bs kP = ch at *
      refine HCH.out.mono ?_
      rintro e w4 ⟨rfl, X4⟩
      cases ch
      · have HNO : Hid (phO ss bs = none) := HDO.out
        clear hch
        go_wp2_with fail
        go_ret2
        unfold NmPost
        rw [HNO.out]
        exact ⟨((X0.trans X).trans X3).trans X4, rfl⟩
      · have HYES : Hid (phO ss bs = some (sumP (dn ss) (bs.map (cn .f32)) P ss.length ((ss.length + 1) ^ P))) := HDO.out
        have hbl : bs.length = ss.length * P := by
          simp only [chancesB, Bool.and_eq_true, decide_eq_true_eq] at hch
          have := hch.2
          rw [hkP]; omega
        have HBL := Lib.hid hbl
        clear hch hbl HDO HCH
        have Y4 : Ext w w4 := ((X0.trans X).trans X3).trans X4
        replace c1' := c1'.ext X4
        replace c2' := c2'.ext X4
        replace bz3 := bz3.ext X4
        replace bz4 := bz4.ext X4
        have hp4 := bz3.lt
        have hn4 := bz4.lt
        have k3 := bz3.bx.one
        have hbbp : w.heap.size ≤ bp := Nat.le_trans (X0.trans X).size hbp
        have hbbn : w.heap.size ≤ bn := Nat.le_trans (X0.trans X).size hbn
        have hw1le : W0.heap.size = w.heap.size + 2 := by rw [← hW0]; simp
        have hWw : W0.heap.size ≤ wr.heap.size := X.size
        clear hW0
        obtain ⟨i0, hi0, hz0, hz1, hz2⟩ := info_parts infoIntP
        have hP6 : (P : Int) ≤ 6 := by omega
        have hP0 : ¬ (P : Int) < 0 := by omega
        go_wp2_with (at_make; refine wpList_make_full _ rfl _ _ 80 rfl w.heap.size 3 i0 (.int .i64 0) 1 Try.underlying80 hi0 hz0 hz1 _ _ _ _ P rfl rfl rfl rfl ?c1 ?c2 ?c3 ?_)
        case c1 => first | omega | (rw [hz2]; omega)
        case c2 => unfold maxLen; omega
        case c3 => exact Nat.le_trans Y4.size (by simp)
        intro w6 hown hg
        rw [toList_madeCells_one] at hown
        have bo5 : Bz (w4.alloc (.cells #[.float .f32 0] 31)) w4.heap.size 31 [.float .f32 0] := Bz.new _ _ _
        have Y5 : Ext w4 (w4.alloc (.cells #[.float .f32 0] 31)) := Ext.alloc _ _
        have e5 : (w4.alloc (.cells #[.float .f32 0] 31)).heap.size = w4.heap.size + 1 := by simp
        have X6 : Ext (w4.alloc (.cells #[.float .f32 0] 31)) w6 := (Ext.refl _).grown hg (Nat.le_refl _) (fun _ h => by cases h)
        generalize hA5 : w4.alloc (.cells #[.float .f32 0] 31) = A5 at *
        have own0 : w6.ownsRow w.heap.size 3 1 (.slice (some ⟨w4.heap.size + 1, 0, none⟩) P P) P (nums (List.replicate P 0)) := by
          have : nums (List.replicate P 0) = List.replicate P (Value.int .i64 0) := by unfold nums; rw [List.map_replicate]; rfl
          rw [this]; exact hown
        have hg6 := (own0.lt _ rfl).2
        have bo6 := bo5.ext X6
        clear hown hg hi0 hz0 hz1 hz2 hA5
        have b7 : Bx (w6.alloc (.cells #[.slice (some ⟨w4.heap.size + 1, 0, none⟩) P P] 80)) w6.heap.size [.slice (some ⟨w4.heap.size + 1, 0, none⟩) P P] := Bx.new _ _ _
        have e7 : (w6.alloc (.cells #[.slice (some ⟨w4.heap.size + 1, 0, none⟩) P P] 80)).heap.size = w6.heap.size + 1 := by simp
        generalize hfv : Value.func (.func 61) #[] #[.pointer (some ⟨bp, 0, none⟩), .pointer (some ⟨bn, 0, none⟩), .pointer (some ⟨w6.heap.size, 0, none⟩), .pointer (some ⟨w6.heap.size + 1, 0, none⟩), .pointer (some ⟨w.heap.size, 0, none⟩), .pointer (some ⟨w.heap.size + 1, 0, none⟩), .pointer (some ⟨w4.heap.size, 0, none⟩)] = fv
        have X8 : Ext w6 ((w6.alloc (.cells #[.slice (some ⟨w4.heap.size + 1, 0, none⟩) P P] 80)).alloc (.cells #[fv] 81)) := (Ext.alloc _ _).trans (Ext.alloc _ _)
        have b8 : Bx ((w6.alloc (.cells #[.slice (some ⟨w4.heap.size + 1, 0, none⟩) P P] 80)).alloc (.cells #[fv] 81)) w6.heap.size [.slice (some ⟨w4.heap.size + 1, 0, none⟩) P P] := b7.ext (Ext.alloc _ _)
        have b9 : Bx ((w6.alloc (.cells #[.slice (some ⟨w4.heap.size + 1, 0, none⟩) P P] 80)).alloc (.cells #[fv] 81)) (w6.heap.size + 1) [fv] := by rw [← e7]; exact Bx.new _ _ _
        have e8 : ((w6.alloc (.cells #[.slice (some ⟨w4.heap.size + 1, 0, none⟩) P P] 80)).alloc (.cells #[fv] 81)).heap.size = w6.heap.size + 2 := by simp
        generalize hA8 : (w6.alloc (.cells #[.slice (some ⟨w4.heap.size + 1, 0, none⟩) P P] 80)).alloc (.cells #[fv] 81) = A8 at *
        have X48 := (Y5.trans X6).trans X8
        have hz6 : w4.heap.size + 1 < w6.heap.size := hg6
        have pl : PlP w A8.heap.size bp bn w6.heap.size (w6.heap.size + 1) w.heap.size (w.heap.size + 1) w4.heap.size (w4.heap.size + 1) :=
          ⟨⟨by omega, by omega, by omega, by omega, by omega, by omega, by omega, by omega⟩, ⟨by omega, by omega, by omega, by omega, by omega, by omega, by omega⟩, ⟨by omega, by omega, by omega, by omega, by omega, by omega⟩, ⟨Y4.size, Nat.le_trans Y4.size (Nat.le_succ _)⟩⟩
        have st : StP w A8.heap.size P ss.length bp bn w6.heap.size (w6.heap.size + 1) w.heap.size (w.heap.size + 1) w4.heap.size (w4.heap.size + 1) (.slice (some ⟨bb, oo, none⟩) ss.length c1) (.slice a2 bs.length c2) fv (dn ss) (bs.map (cn .f32)) A8 (0 * (ss.length + 1) ^ P) (digs (ss.length + 1) 0 0) :=
          ⟨Y4.trans X48, Nat.le_refl _, (bz3.ext X48).bx.one, (bz4.ext X48).bx.one, b8.one, b9.one, (c1'.ext X48).one, (c2'.ext X48).one, ⟨List.replicate P 0, by simp, rfl, own_ext' own0 X8⟩,
            ⟨0, (bo6.ext X8).bx.one, by rw [Nat.zero_mul]; rfl, by decide⟩, (bo6.ext X8).frozen⟩
        have HT := Lib.hid (put_any ss bs r' rb' gP.2 gn.2 rfl GSS.out HBL.out pl hfv.symm P 0 0 A8 (by omega) (by simp) st)
        subst hfv
        subst hA8
        clear st b9 b8 bo6 bo5 own0 b7 e7 c1' c2' bz3 bz4
        go_wp2_with fail
        refine HT.out.mono ?_
        rintro e w9 ⟨rfl, st9⟩
        obtain ⟨x, hx1, hx2, hx3⟩ := st9.co
        have XX := st9.x
        rw [Nat.zero_add, Nat.one_mul] at hx2
        have HX2 := Lib.hid hx2
        have HX3 := Lib.hid hx3
        clear hx2 hx3 st9 HT
        go_wp2_with fail
        go_ret2
        unfold NmPost
        rw [HYES.out]
        exact ⟨XX, x, rfl, HX2.out, HX3.out⟩
end Go.Proofs.Ytgmdoboeenpjpaa
