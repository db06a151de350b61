
/- How many sets have a small sum: what a table holds, told by reckoning. Plain. Condition: numbers up to 12. How many sets have a small sum: the table that the program fills. Condition: numbers up to 12. RankSumCount: what the program computes. Condition: numbers up to 12. -/
import Derived.Test.YtlbmjeennpccmaaTe
import Derived.Test.YtlbmjeennpccmaaA
import Derived.Test.YtlbmjeennpccmaaCr
import Derived.Test.YtlbmjeennpccmaaB
import Derived.Test.YtlbmjeennpccmaaRh
import Derived.Test.YtlbmjeennpccmaaE
namespace Go.Proofs.Ytlbmjeennpccmaa
open Go Go.RowKit Go.ChangeShapes Go.WideShapes Go.ChangeAt

attribute [local irreducible] LX
/-- How many sets of i numbers of 1 to x have the sum s. -/
def rkN : Nat → Nat → Nat → Nat
  | 0, i, s => if i = 0 ∧ s = 0 then 1 else 0
  | x + 1, i, s => rkN x i s + if 1 ≤ i ∧ x + 1 ≤ s then rkN x (i - 1) (s - (x + 1)) else 0
theorem rkN_le : ∀ x i s, rkN x i s ≤ 2 ^ x
  | 0, i, s => by unfold rkN; split <;> simp
  | x + 1, i, s => by
    have h1 := rkN_le x i s
    have h2 := rkN_le x (i - 1) (s - (x + 1))
    unfold rkN
    rw [Nat.pow_succ]
    split <;> omega
theorem rkN_zero : ∀ x i s, x < i → rkN x i s = 0
  | 0, i, s, h => by unfold rkN; rw [if_neg (by omega)]
  | x + 1, i, s, h => by
    unfold rkN
    rw [rkN_zero x i s (by omega), rkN_zero x (i - 1) _ (by omega)]
    split <;> rfl
/-- The table as it stands: rows above i are those of x + 1 already, in row i the places above s. -/
def rkT (x i s : Nat) (a b : Nat) : Nat := if i < a ∨ (a = i ∧ s < b) then rkN (x + 1) a b else rkN x a b
def rowSum (n k M : Nat) : Nat := ((List.range M).map (rkN n k)).sum
def rowFew (n k M : Nat) (t : Int) : Nat := ((List.range M).map fun (s : Nat) => if (s : Int) ≤ t then rkN n k s else 0).sum
theorem range_sum_succ (f : Nat → Nat) (m : Nat) : ((List.range (m + 1)).map f).sum = ((List.range m).map f).sum + f m := by rw [List.range_succ]; simp
theorem range_sum_le (f : Nat → Nat) (B : Nat) (h : ∀ s, f s ≤ B) : ∀ m, ((List.range m).map f).sum ≤ B * m
  | 0 => by simp
  | m + 1 => by rw [range_sum_succ, Nat.mul_add]; have := range_sum_le f B h m; have := h m; omega

/-! ### The table as lists, to reckon with -/
def addSh (x : Nat) (r p : List Nat) : List Nat := List.zipWith (· + ·) r (List.replicate x 0 ++ p)
def stepRows (x : Nat) : List Nat → List (List Nat) → List (List Nat)
  | _, [] => []
  | p, r :: rs => addSh x r p :: stepRows x r rs
def rkRows (W : Nat) : Nat → List (List Nat)
  | 0 => (1 :: List.replicate (W - 1) 0) :: List.replicate 12 (List.replicate W 0)
  | x + 1 => match rkRows W x with
    | [] => []
    | r :: rs => r :: stepRows (x + 1) r rs
theorem addSh_len {x : Nat} {r p : List Nat} (h : r.length = p.length) : (addSh x r p).length = r.length := by
  unfold addSh; rw [List.length_zipWith, List.length_append, List.length_replicate]; omega
theorem addSh_get {x s : Nat} {r p : List Nat} (h : r.length = p.length) (hs : s < r.length) : (addSh x r p).getD s 0 = r.getD s 0 + if x ≤ s then p.getD (s - x) 0 else 0 := by
  unfold addSh
  rw [List.getD_eq_getElem?_getD, List.getElem?_zipWith, List.getElem?_append, List.length_replicate]
  by_cases hx : x ≤ s
  · rw [if_neg (by omega), if_pos hx, List.getD_eq_getElem?_getD, List.getD_eq_getElem?_getD, List.getElem?_eq_getElem hs, List.getElem?_eq_getElem (by omega)]; rfl
  · rw [if_pos (by omega), if_neg hx, List.getElem?_replicate, if_pos (by omega), List.getD_eq_getElem?_getD, List.getElem?_eq_getElem hs]; rfl
theorem stepRows_len {x : Nat} : ∀ (p : List Nat) (rs : List (List Nat)), (stepRows x p rs).length = rs.length
  | _, [] => rfl
  | p, r :: rs => by simp [stepRows, stepRows_len r rs]
theorem stepRows_get {x W : Nat} : ∀ (p : List Nat) (rs : List (List Nat)), p.length = W → (∀ r ∈ rs, r.length = W) → ∀ i, i < rs.length →
    (stepRows x p rs).getD i [] = addSh x (rs.getD i []) ((p :: rs).getD i [])
  | _, [], _, _, i, hi => by simp at hi
  | p, r :: rs, hp, h, 0, _ => rfl
  | p, r :: rs, hp, h, i + 1, hi => by
    show (stepRows x r rs).getD i [] = addSh x (rs.getD i []) ((r :: rs).getD i [])
    exact stepRows_get r rs (h r (by simp)) (fun q hq => h q (List.mem_cons_of_mem _ hq)) i (by simpa using hi)
theorem stepRows_mem {x W : Nat} : ∀ (p : List Nat) (rs : List (List Nat)), p.length = W → (∀ r ∈ rs, r.length = W) → ∀ q ∈ stepRows x p rs, q.length = W
  | _, [], _, _, q, hq => by simp [stepRows] at hq
  | p, r :: rs, hp, h, q, hq => by
    rcases List.mem_cons.1 hq with rfl | hq
    · rw [addSh_len (by rw [hp]; exact h r (by simp))]; exact h r (by simp)
    · exact stepRows_mem r rs (h r (by simp)) (fun q hq => h q (List.mem_cons_of_mem _ hq)) q hq
theorem rkRows_ok {W : Nat} (hW : 1 ≤ W) : ∀ x, (rkRows W x).length = 13 ∧ (∀ r ∈ rkRows W x, r.length = W) ∧ ∀ i s, i < 13 → s < W → ((rkRows W x).getD i []).getD s 0 = rkN x i s
  | 0 => by
    refine ⟨rfl, ?_, ?_⟩
    · intro r hr
      rcases List.mem_cons.1 hr with rfl | hr
      · simp; omega
      · rw [List.eq_of_mem_replicate hr]; simp
    · intro i s hi hs
      unfold rkRows
      cases i with
      | zero =>
        cases s with
        | zero => rfl
        | succ s =>
          show (List.replicate (W - 1) 0).getD s 0 = _
          rw [List.getD_eq_getElem?_getD, List.getElem?_replicate, if_pos (by omega)]
          unfold rkN; rw [if_neg (by omega)]; rfl
      | succ i =>
        have e : (List.replicate 12 (List.replicate W 0)).getD i [] = List.replicate W 0 := by
          rw [List.getD_eq_getElem?_getD, List.getElem?_replicate, if_pos (by omega)]; rfl
        show ((List.replicate 12 (List.replicate W 0)).getD i []).getD s 0 = _
        rw [e, List.getD_eq_getElem?_getD, List.getElem?_replicate, if_pos hs]
        unfold rkN; rw [if_neg (by omega)]; rfl
  | x + 1 => by
    obtain ⟨h1, h2, h3⟩ := rkRows_ok hW x
    unfold rkRows
    cases hr : rkRows W x with
    | nil => rw [hr] at h1; cases h1
    | cons r rs =>
      rw [hr] at h1 h2 h3
      have hl : rs.length = 12 := by simpa using h1
      have hr0 : r.length = W := h2 r (by simp)
      have hrs : ∀ q ∈ rs, q.length = W := fun q hq => h2 q (List.mem_cons_of_mem _ hq)
      refine ⟨by simp [stepRows_len, hl], ?_, ?_⟩
      · intro q hq
        rcases List.mem_cons.1 hq with rfl | hq
        · exact hr0
        · exact stepRows_mem r rs hr0 hrs q hq
      · intro i s hi hs
        cases i with
        | zero =>
          show r.getD s 0 = _
          have := h3 0 s (by omega) hs
          unfold rkN
          rw [if_neg (by omega)]
          exact this
        | succ i =>
          show ((stepRows (x + 1) r rs).getD i []).getD s 0 = _
          rw [stepRows_get r rs hr0 hrs i (by omega)]
          have l1 : (rs.getD i []).length = W := by
            rw [List.getD_eq_getElem?_getD, List.getElem?_eq_getElem (by omega)]; exact hrs _ (List.getElem_mem _)
          have l2 : ((r :: rs).getD i []).length = W := by
            rw [List.getD_eq_getElem?_getD, List.getElem?_eq_getElem (by simp; omega)]; exact h2 _ (List.getElem_mem _)
          rw [addSh_get (by rw [l1, l2]) (by rw [l1]; exact hs)]
          have e1 := h3 (i + 1) s hi hs
          have e2 : (rs.getD i []).getD s 0 = rkN x (i + 1) s := e1
          conv => rhs; unfold rkN
          rw [e2]
          by_cases hx : x + 1 ≤ s
          · rw [if_pos hx, if_pos ⟨by omega, hx⟩, h3 i (s - (x + 1)) (by omega) (by omega)]; rfl
          · rw [if_neg hx, if_neg (by omega)]

/-! ### What the law asks -/
def mostN (n : Nat) : Nat := n * (n + 1) / 2
/-- The loop of the law that counts sets. -/
def chs (n k : Nat) : Nat → Nat
  | 0 => 1
  | i + 1 => chs n k i * (n - k + (i + 1)) / (i + 1)
def mostK (n k : Nat) : Nat := k * (2 * n - k + 1) / 2 + k * (k + 1) / 2
def fewL (row : List Nat) (t : Int) : Nat := if t < 0 then 0 else (row.take (t.toNat + 1)).sum
def chkK (row : List Nat) (n k : Nat) : Bool := row.sum == chs n k k && (List.range 80).all fun t => fewL row (t : Int) + fewL row ((mostK n k : Int) - t - 1) == row.sum
def chkN (n : Nat) : Bool := (List.range (n + 1)).all fun k => chkK (((rkRows 79 n).getD k []).take (mostN n + 1)) n k
theorem chkN_all : ((List.range 12).all fun n => chkN (n + 1)) = true := by decide +kernel
theorem take_row {row : List Nat} {f : Nat → Nat} : ∀ {m}, m ≤ row.length → (∀ s, s < m → row.getD s 0 = f s) → row.take m = (List.range m).map f
  | 0, _, _ => by simp
  | m + 1, h, h2 => by
    rw [List.take_add_one, take_row (m := m) (by omega) (fun s hs => h2 s (by omega)), List.range_succ, List.map_append]
    have := h2 m (by omega)
    rw [List.getD_eq_getElem?_getD] at this
    rw [List.getElem?_eq_getElem (by omega)] at this ⊢
    simp at this ⊢
    exact this
theorem few_eq (f : Nat → Nat) (t : Int) : ∀ M, ((List.range M).map fun (s : Nat) => if (s : Int) ≤ t then f s else 0).sum = fewL ((List.range M).map f) t
  | 0 => by unfold fewL; split <;> simp
  | M + 1 => by
    rw [range_sum_succ, few_eq f t M]
    unfold fewL
    by_cases ht : t < 0
    · rw [if_pos ht, if_pos ht, if_neg (by omega)]
    · rw [if_neg ht, if_neg ht, List.range_succ, List.map_append, List.take_append, List.sum_append, List.length_map, List.length_range]
      by_cases hm : (M : Int) ≤ t
      · rw [if_pos hm, List.take_of_length_le (l := [M].map f) (by simp; omega)]; simp
      · rw [if_neg hm]
        have : t.toNat + 1 - M = 0 := by omega
        rw [this]; simp
theorem rk_ok {n k t : Nat} (h1 : 1 ≤ n) (h2 : n ≤ 12) (hk : k ≤ n) (ht : t < 80) :
    rowSum n k (mostN n + 1) = chs n k k ∧ rowFew n k (mostN n + 1) (t : Int) + rowFew n k (mostN n + 1) ((mostK n k : Int) - t - 1) = chs n k k := by
  have h0 := chkN_all
  rw [List.all_eq_true] at h0
  have h3 := h0 (n - 1) (List.mem_range.2 (by omega))
  rw [show n - 1 + 1 = n by omega] at h3
  unfold chkN at h3
  rw [List.all_eq_true] at h3
  have h4 := h3 k (List.mem_range.2 (by omega))
  obtain ⟨r1, r2, r3⟩ := rkRows_ok (W := 79) (by omega) n
  have hrow : ((rkRows 79 n).getD k []).length = 79 := by
    rw [List.getD_eq_getElem?_getD, List.getElem?_eq_getElem (by omega)]; exact r2 _ (List.getElem_mem _)
  have hm : mostN n ≤ 78 := by
    have h : n * (n + 1) ≤ 12 * 13 := Nat.mul_le_mul h2 (by omega)
    unfold mostN; omega
  have he : ((rkRows 79 n).getD k []).take (mostN n + 1) = (List.range (mostN n + 1)).map (rkN n k) := take_row (by omega) fun s hs => r3 k s (by omega) (by omega)
  rw [he] at h4
  unfold chkK at h4
  rw [Bool.and_eq_true, beq_iff_eq, List.all_eq_true] at h4
  have h5 := h4.2 t (List.mem_range.2 ht)
  rw [beq_iff_eq] at h5
  refine ⟨h4.1, ?_⟩
  unfold rowFew
  rw [few_eq, few_eq, h5, h4.1]

open Go Go.RowKit Go.ChangeShapes Go.WideShapes Go.ChangeAt

attribute [local irreducible] rkN
theorem rkN_at {X a b : Nat} (hX : 1 ≤ X) : rkN X a b = rkN (X - 1) a b + if 1 ≤ a ∧ X ≤ b then rkN (X - 1) (a - 1) (b - X) else 0 := by
  obtain ⟨x, rfl⟩ : ∃ x, X = x + 1 := ⟨X - 1, by omega⟩
  rw [Nat.add_sub_cancel]
  with_unfolding_all rfl
/-- Rows above i are new, in row i the places above s. -/
def rkS (X i s a b : Nat) : Nat := if i < a ∨ (a = i ∧ s < b) then rkN X a b else rkN (X - 1) a b

theorem infoInts : (Try.prog.info? 48).map (fun i => (i.zero, i.size, i.bytes)) = some (some (.slice none 0 0), 1, 24) := by kernel_rfl
def hdrV (g : Nat → Nat) (M i : Nat) : Value := .slice (some ⟨g i, 0, none⟩) M M
def hdrL (g : Nat → Nat) (M K j : Nat) : List Value := (List.range K).map fun i => if i < j then hdrV g M i else .slice none 0 0
def rowL (f : Nat → Nat) (M : Nat) : List Value := (List.range M).map fun s => .int .i64 ((f s : Nat) : Int)
theorem rowL_len (f : Nat → Nat) (M : Nat) : (rowL f M).length = M := by simp [rowL]
theorem rowL_get {f : Nat → Nat} {M s : Nat} (h : s < M) : (rowL f M)[s]? = some (.int .i64 ((f s : Nat) : Int)) := by simp [rowL, h]
theorem rowL_congr {f f' : Nat → Nat} {M : Nat} (h : ∀ s, s < M → f s = f' s) : rowL f M = rowL f' M := by
  unfold rowL
  apply List.map_congr_left
  intro s hs
  rw [h s (List.mem_range.1 hs)]
theorem rowL_set {f : Nat → Nat} {M s v : Nat} : (rowL f M).set s (.int .i64 ((v : Nat) : Int)) = rowL (fun b => if b = s then v else f b) M := by
  apply List.ext_getElem?
  intro b
  rw [List.getElem?_set, rowL_len]
  by_cases hb : b < M
  · by_cases hs : s = b
    · subst hs; rw [if_pos rfl, if_pos hb, rowL_get hb, if_pos rfl]
    · rw [if_neg hs, rowL_get hb, rowL_get hb, if_neg (fun h => hs h.symm)]
  · have e1 : (rowL (fun b => if b = s then v else f b) M)[b]? = none := List.getElem?_eq_none (by rw [rowL_len]; omega)
    have e2 : (rowL f M)[b]? = none := List.getElem?_eq_none (by rw [rowL_len]; omega)
    rw [e1, e2]
    by_cases hs : s = b
    · rw [if_pos hs, if_neg (by omega)]
    · rw [if_neg hs]
/-- A table: its rows' heads, its rows. -/
structure TabW (W : World) (gt K M j : Nat) (g : Nat → Nat) (T : Nat → Nat → Nat) : Prop where
  h : W.ownsRow gt 48 1 (.slice (some ⟨gt, 0, none⟩) K K) K (hdrL g M K j)
  r : ∀ i, i < j → W.ownsRow (gt + 1) 2 1 (.slice (some ⟨g i, 0, none⟩) M M) M (rowL (T i) M)
  d : ∀ i i', i < j → i' < j → i ≠ i' → g i ≠ g i'
theorem TabW.ext {W W' : World} {gt K M j : Nat} {g : Nat → Nat} {T : Nat → Nat → Nat} (t : TabW W gt K M j g T) (hx : Ext W W') : TabW W' gt K M j g T :=
  ⟨own_ext t.h hx, fun i hi => own_ext (t.r i hi) hx, t.d⟩
theorem TabW.congr {W : World} {gt K M j : Nat} {g : Nat → Nat} {T T' : Nat → Nat → Nat} (t : TabW W gt K M j g T) (h : ∀ a b, a < j → b < M → T a b = T' a b) : TabW W gt K M j g T' :=
  ⟨t.h, fun i hi => by rw [← rowL_congr (fun s hs => h i s hi hs)]; exact t.r i hi, t.d⟩
theorem TabW.head {W : World} {gt K M j i : Nat} {g : Nat → Nat} {T : Nat → Nat → Nat} (t : TabW W gt K M j g T) (hi : i < j) (hK : i < K) : gt < W.heap.size ∧ W.cell? ⟨gt, i, none⟩ = some (.slice (some ⟨g i, 0, none⟩) M M) := by
  refine ⟨(World.ownsRow.lt t.h gt rfl).2, ?_⟩
  have h := World.ownsRow.cellAt t.h i (by omega)
  rw [h]
  simp [hdrL, hdrV, hK, hi]
theorem TabW.cell {W : World} {gt K M j i s : Nat} {g : Nat → Nat} {T : Nat → Nat → Nat} (t : TabW W gt K M j g T) (hi : i < j) (hs : s < M) :
    g i < W.heap.size ∧ W.cell? ⟨g i, s, none⟩ = some (.int .i64 ((T i s : Nat) : Int)) ∧ W.frozen? ⟨g i, s, none⟩ = false ∧ gt < g i := by
  have hl := World.ownsRow.lt (t.r i hi) (g i) rfl
  refine ⟨hl.2, ?_, World.ownsRow.frozenAt (t.r i hi) s, hl.1⟩
  rw [World.ownsRow.cellAt (t.r i hi) s (by omega), rowL_get hs]
theorem TabW.set {W : World} {gt K M j i s v : Nat} {g : Nat → Nat} {T : Nat → Nat → Nat} (t : TabW W gt K M j g T) (hi : i < j) :
    TabW (W.setCell ⟨g i, s, none⟩ (.int .i64 ((v : Nat) : Int))) gt K M j g (fun a b => if a = i ∧ b = s then v else T a b) := by
  have hl := World.ownsRow.lt (t.r i hi) (g i) rfl
  refine ⟨ownsRow_setCell_other t.h (by simp [Value.ownBlock]; omega) _, fun a ha => ?_, t.d⟩
  by_cases hai : a = i
  · subst hai
    have h := (World.ownsRow.stored (t.r a ha) s (.int .i64 ((v : Nat) : Int))).1
    rw [rowL_set] at h
    have e : rowL (fun b => if a = a ∧ b = s then v else T a b) M = rowL (fun b => if b = s then v else T a b) M := rowL_congr fun b _ => by simp
    show (W.setCell _ _).ownsRow _ _ _ _ _ (rowL (fun b => if a = a ∧ b = s then v else T a b) M)
    rw [e]; exact h
  · have e : rowL (fun b => if a = i ∧ b = s then v else T a b) M = rowL (T a) M := rowL_congr fun b _ => by simp [hai]
    show (W.setCell _ _).ownsRow _ _ _ _ _ (rowL (fun b => if a = i ∧ b = s then v else T a b) M)
    rw [e]
    exact ownsRow_setCell_other (t.r a ha) (by simp [Value.ownBlock]; exact fun h => t.d a i ha hi hai h) _
/-- One row more. -/
theorem hdrL_set {g : Nat → Nat} {M K j p : Nat} : (hdrL g M K j).set j (.slice (some ⟨p, 0, none⟩) M M) = hdrL (fun i => if i = j then p else g i) M K (j + 1) := by
  have hl : ∀ g j, (hdrL g M K j).length = K := fun g j => by simp [hdrL]
  have hg : ∀ g j b, b < K → (hdrL g M K j)[b]? = some (if b < j then hdrV g M b else .slice none 0 0) := fun g j b h => by simp [hdrL, h]
  apply List.ext_getElem?
  intro b
  rw [List.getElem?_set, hl]
  by_cases hb : b < K
  · rw [hg _ _ b hb, hg _ _ b hb]
    by_cases hj : j = b
    · subst hj; rw [if_pos rfl, if_pos hb, if_pos (by omega)]; simp [hdrV]
    · rw [if_neg hj]
      by_cases hlt : b < j
      · rw [if_pos hlt, if_pos (by omega)]; unfold hdrV; simp only; rw [if_neg (fun h => hj h.symm)]
      · rw [if_neg hlt, if_neg (by omega)]
  · rw [List.getElem?_eq_none (by rw [hl]; omega), List.getElem?_eq_none (by rw [hl]; omega)]
    by_cases hj : j = b
    · rw [if_pos hj, if_neg (by omega)]
    · rw [if_neg hj]
theorem TabW.more {W : World} {gt K M j p : Nat} {g : Nat → Nat} {T : Nat → Nat → Nat} (t : TabW W gt K M j g T) (hp : W.ownsRow (gt + 1) 2 1 (.slice (some ⟨p, 0, none⟩) M M) M (rowL (T j) M)) (hne : ∀ i, i < j → g i ≠ p) :
    TabW (W.setCell ⟨gt, j, none⟩ (.slice (some ⟨p, 0, none⟩) M M)) gt K M (j + 1) (fun i => if i = j then p else g i) T := by
  have hpl := (World.ownsRow.lt hp p rfl).1
  refine ⟨?_, fun i hi => ?_, fun i i' hi hi' hne' => ?_⟩
  · rw [← hdrL_set]; exact (World.ownsRow.stored t.h j _).1
  · by_cases hij : i = j
    · subst hij
      simp only [if_true]
      exact ownsRow_setCell_other hp (by simp [Value.ownBlock]; omega) _
    · simp only [if_neg hij]
      have := (World.ownsRow.lt (t.r i (by omega)) (g i) rfl).1
      exact ownsRow_setCell_other (t.r i (by omega)) (by simp [Value.ownBlock]; omega) _
  · show (if i = j then p else g i) ≠ (if i' = j then p else g i')
    by_cases h1 : i = j
    · rw [if_pos h1, if_neg (by omega)]; exact fun h => hne i' (by omega) h.symm
    · rw [if_neg h1]
      by_cases h2 : i' = j
      · rw [if_pos h2]; exact hne i (by omega)
      · rw [if_neg h2]; exact t.d i i' (by omega) (by omega) hne'

open Go Go.RowKit Go.ChangeShapes Go.WideShapes Go.ChangeAt

attribute [local go_sem ↓] min_int
theorem rkN_4096 {x i s : Nat} (h : x ≤ 12) : rkN x i s ≤ 4096 := by
  have h1 := rkN_le x i s
  have h2 : 2 ^ x ≤ 2 ^ 12 := Nat.pow_le_pow_right (by decide) h
  omega
/-- The sum of a list. -/
theorem sumOf_any (v : Value) (f : Nat → Nat) (M g cap : Nat) (w : World) (hv : v = .slice (some ⟨g, 0, none⟩) M cap) (hM : M ≤ 1000) (hf : ∀ s, f s ≤ 4096) (hc : ∀ s, s < M → w.cell? ⟨g, s, none⟩ = some (.int .i64 ((f s : Nat) : Int))) (hg : g < w.heap.size) :
    Calls Try.prog 75 #[v] w fun e w' => e = .returned (.int .i64 ((((List.range M).map f).sum : Nat) : Int)) ∧ Ext w w' := by
  subst hv
  have HC := Lib.hid hc
  have HF := Lib.hid hf
  clear hc hf
  obtain ⟨S, hS⟩ : ∃ S : Nat → Nat, S = fun m => ((List.range m).map f).sum := ⟨_, rfl⟩
  have HS0 : Hid (S 0 = 0) := by show _ = _; rw [hS]; rfl
  have HS1 : Hid (∀ m, S (m + 1) = S m + f m) := by intro m; rw [hS]; exact range_sum_succ f m
  have HSB : Hid (∀ m, S m ≤ 4096 * m) := by intro m; rw [hS]; exact range_sum_le f 4096 HF.out m
  have HE : Hid (((List.range M).map f).sum = S M) := by show _ = _; rw [hS]
  rw [HE.out]
  clear hS
  go_enter Try.func75, Try.ntmps75
  go_wp2_with fail
  go_loopw [8, 3] (fun i s wr => ∃ m : Nat, m ≤ M ∧ i = .int .i64 m ∧ s = .int .i64 ((S m : Nat) : Int) ∧ wr = w) (fun i _ _ => M - (intOf i).toNat)
  case atStart => exact ⟨0, Nat.zero_le _, rfl, by rw [HS0.out]; rfl, rfl⟩
  case round =>
    obtain ⟨m, hm, rfl, rfl, rfl⟩ := hrel
    by_cases hlt : m < M
    · have hcm := HC.out m hlt
      have h1 := HF.out m
      have h2 := HS1.out m
      have h3 := HSB.out m
      have s1 : IntKind.i64.wrap (((S m : Nat) : Int) + ((f m : Nat) : Int)) = ((S (m + 1) : Nat) : Int) := by rw [IntWalk.i64_in _ (by omega)]; omega
      clear h1 h2 h3
      go_wp2_with fail
      go_roundw
      case rel => exact ⟨m + 1, by omega, by go_num, rfl, by first | rfl | trivial⟩
      case measure => simp [intOf]; omega
    · obtain rfl : m = M := by omega
      go_wp2_with fail
      go_ret
      exact ⟨rfl, Ext.refl _⟩
theorem within_in {n lo hi : Int} (h1 : lo ≤ n) (h2 : n ≤ hi) (w : World) : Calls Try.prog 62 #[.int .i64 n, .int .i64 lo, .int .i64 hi] w fun e w' => e = .returned (.bool true) ∧ w = w' := within_eq (inB_true h1 h2) w

set_option maxRecDepth 100000 in
set_option maxHeartbeats 8000000 in
theorem rankSumCount_any (n k : Nat) (t : Int) (w : World) (h1 : 1 ≤ n) (h2 : n ≤ 12) (hk : k ≤ n) (ht1 : -1000 ≤ t) (ht2 : t ≤ 1000) :
    Calls Try.prog 32 #[.int .i64 n, .int .i64 k, .int .i64 t] w fun e w' => e = .returned (.tuple #[.int .i64 ((rowFew n k (mostN n + 1) t : Nat) : Int), .int .i64 ((rowSum n k (mostN n + 1) : Nat) : Int), .bool true]) ∧ Ext w w' := by
  obtain ⟨i0, hi0, hz0, hz1, hz2⟩ := info_parts infoInts
  obtain ⟨i1, hi1, hy0, hy1, hy2⟩ := info_parts infoI64
  have W1 := Lib.hid (fun w => within_in (n := (n : Int)) (lo := 1) (hi := 24) (by omega) (by omega) w)
  have W2 := Lib.hid (fun w => within_in (n := (k : Int)) (lo := 0) (hi := (n : Int)) (by omega) (by omega) w)
  have hmn : n * (n + 1) ≤ 12 * 13 := Nat.mul_le_mul h2 (by omega)
  have s2 : IntKind.i64.wrap ((n : Int) * ((n : Int) + 1)) = ((n * (n + 1) : Nat) : Int) := by
    have e : (n : Int) * ((n : Int) + 1) = ((n * (n + 1) : Nat) : Int) := (Int.natCast_mul n (n + 1)).symm
    rw [e, IntWalk.i64_in _ (by omega)]
  have HM : Hid (mostN n = n * (n + 1) / 2) := rfl
  have hm78 : mostN n ≤ 78 := by rw [HM.out]; omega
  have s3 : ((n * (n + 1) : Nat) : Int).tdiv 2 = ((mostN n : Nat) : Int) := by rw [HM.out]; rfl
  have s4 : IntKind.i64.wrap ((mostN n : Nat) : Int) = ((mostN n : Nat) : Int) := IntWalk.i64_in _ (by omega)
  have hnm : n ≤ mostN n := by
    have h3 : n * 2 ≤ n * (n + 1) := Nat.mul_le_mul_left _ (by omega)
    rw [HM.out]; omega
  clear hmn
  generalize mostN n = most at *
  generalize n * (n + 1) = nn at *
  go_enter Try.func32, Try.ntmps32
  go_wp2_with fail
  refine (W1.out _).mono ?_
  rintro e w1 ⟨rfl, rfl⟩
  go_wp2_with fail
  refine (W2.out _).mono ?_
  rintro e w1 ⟨rfl, rfl⟩
  go_wp2_with (at_make; refine wpList_make_full _ rfl _ _ 84 rfl w.heap.size 48 i0 (.slice none 0 0) 1 Try.underlying84 hi0 hz0 hz1 _ _ _ _ (k + 1) rfl rfl rfl rfl ?c1 ?c2 ?c3 ?_)
  case c1 => rw [hz2]; omega
  case c2 => unfold maxLen; omega
  case c3 => exact Nat.le_refl _
  intro w1 hown hg
  have hgt : w.heap.size < w1.heap.size := (World.ownsRow.lt hown _ rfl).2
  have T0 : TabW w1 w.heap.size (k + 1) (most + 1) 0 (fun _ => 0) (fun _ _ => 0) := by
    refine ⟨?_, fun i hi => absurd hi (by omega), fun i i' hi => absurd hi (by omega)⟩
    have e : hdrL (fun _ => 0) (most + 1) (k + 1) 0 = List.replicate (k + 1) (.slice none 0 0) := by
      unfold hdrL
      simp [List.map_const']
    rw [e]; rw [toList_madeCells_one] at hown; exact hown
  have X1 : Ext w w1 := (Below.refl _ _).grown hg (Nat.le_refl _) (fun _ h => by cases h)
  clear hown hg
  generalize hG : w.heap.size = gt at *
  have HG := Lib.hid hG
  clear hG
  go_wp2_with fail
  go_loopw [37] (fun i wr => ∃ (j : Nat) (g : Nat → Nat), j ≤ k + 1 ∧ i = .int .i64 j ∧ TabW wr gt (k + 1) (most + 1) j g (fun _ _ => 0) ∧ Ext w wr ∧ gt < wr.heap.size) (fun i _ => k + 1 - (intOf i).toNat)
  case atStart => exact ⟨0, _, Nat.zero_le _, rfl, T0, X1, hgt⟩
  case round =>
    obtain ⟨j, g, hj, rfl, TJ, X, hgl⟩ := hrel
    by_cases hlt : j < k + 1
    · have hjk : (j : Int) < (k : Int) + 1 := by omega
      go_wp2_with (at_make; refine wpList_make_full _ rfl _ _ 48 rfl (gt + 1) 2 i1 (.int .i64 0) 1 Try.underlying48 hi1 hy0 hy1 _ _ _ _ (most + 1) rfl rfl rfl rfl ?c1 ?c2 ?c3 ?_)
      case c1 => rw [hy2]; omega
      case c2 => unfold maxLen; omega
      case c3 => omega
      intro w2 hown hg
      have X2 : Ext wr w2 := (Below.refl _ _).grown hg (Nat.le_refl _) (fun _ h => by cases h)
      have TJ2 := TJ.ext X2
      have hh := World.ownsRow.cellAt TJ2.h j (by omega)
      have hv : (hdrL g (most + 1) (k + 1) j)[j]? = some (.slice none 0 0) := by simp [hdrL, hlt]
      rw [hv] at hh
      have hf := World.ownsRow.frozenAt TJ2.h j
      have hgl2 : gt < w2.heap.size := Nat.lt_of_lt_of_le hgl X2.size
      have HNE : Hid (∀ i, i < j → g i ≠ wr.heap.size) := fun i hi => by have := (World.ownsRow.lt (TJ.r i hi) (g i) rfl).2; omega
      have HOW : Hid (w2.ownsRow (gt + 1) 2 1 (.slice (some ⟨wr.heap.size, 0, none⟩) (most + 1) (most + 1)) (most + 1) (rowL (fun _ => 0) (most + 1))) := by
        have e : rowL (fun _ => 0) (most + 1) = List.replicate (most + 1) (.int .i64 0) := by
          unfold rowL; simp [List.map_const']
        show World.ownsRow _ _ _ _ _ _ _
        rw [e]; rw [toList_madeCells_one] at hown; exact hown
      clear hown hg hv
      generalize wr.heap.size = p at *
      go_wp2_with fail
      exact ⟨⟨j + 1, _, by omega, by go_num, TJ2.more HOW.out HNE.out, Below.setCell (X.trans X2) (by rw [HG.out]; exact Nat.le_refl _) _, by simpa using hgl2⟩, by simp [intOf]; omega⟩
    · obtain rfl : j = k + 1 := by omega
      have hhd := TJ.head (i := 0) (by omega) (by omega)
      have hce := TJ.cell (i := 0) (s := 0) (by omega) (by omega)
      have TS := TJ.set (i := 0) (s := 0) (v := 1) (by omega)
      replace TS : TabW _ gt (k + 1) (most + 1) (k + 1) g (rkN 0) := TS.congr fun a b _ _ => by with_unfolding_all rfl
      have X2 : Ext w (wr.setCell ⟨g 0, 0, none⟩ (.int .i64 ((1 : Nat) : Int))) := Below.setCell X (show w.heap.size ≤ g 0 by rw [HG.out]; have := hce.2.2.2; omega) _
      obtain ⟨q1, q2⟩ := hhd
      obtain ⟨q3, q4, q5, -⟩ := hce
      have q6 : ((0 : Nat) : Int) < (k : Int) + 1 := by omega
      clear TJ X T0 X1 hgt
      go_wp2_with fail
      clear q1 q2 q3 q4 q5 q6 hgl
      go_loopw [12] (fun i wq => ∃ (x : Nat), 1 ≤ x ∧ x ≤ n + 1 ∧ i = .int .i64 x ∧ TabW wq gt (k + 1) (most + 1) (k + 1) g (rkN (x - 1)) ∧ Ext w wq) (fun i _ => n + 1 - (intOf i).toNat)
      case atStart => exact ⟨1, by omega, by omega, rfl, TS, X2⟩
      case round =>
        clear TS X2
        obtain ⟨x, hx1, hxn, rfl, TX, X⟩ := hrel
        by_cases hxt : x ≤ n
        · have hmin : minI (k : Int) (x : Int) = ((min k x : Nat) : Int) := by unfold minI; split <;> omega
          have hmk : min k x ≤ k ∧ min k x ≤ x := ⟨Nat.min_le_left _ _, Nat.min_le_right _ _⟩
          have hmx : min k x = k ∨ min k x = x := by omega
          have hxm : x ≤ most := by omega
          generalize min k x = mi at *
          go_wp2_with fail
          go_loopw [13] (fun i wq => ∃ (a : Nat), a ≤ mi ∧ i = .int .i64 a ∧ TabW wq gt (k + 1) (most + 1) (k + 1) g (rkS x a most) ∧ Ext w wq) (fun i _ => (intOf i).toNat)
          case atStart =>
            refine ⟨mi, Nat.le_refl _, rfl, TX.congr fun a b ha hb => ?_, X⟩
            unfold rkS
            by_cases h : mi < a ∨ (a = mi ∧ most < b)
            · rw [if_pos h, rkN_zero x a b (by omega), rkN_zero (x - 1) a b (by omega)]
            · rw [if_neg h]
          case round =>
            clear TX X
            obtain ⟨a, ha, rfl, TA, X⟩ := hrel
            by_cases hat : 1 ≤ a
            · go_wp2_with fail
              go_loopw [14] (fun i wq => ∃ (s : Nat), s ≤ most ∧ x ≤ s + 1 ∧ i = .int .i64 s ∧ TabW wq gt (k + 1) (most + 1) (k + 1) g (rkS x a s) ∧ Ext w wq) (fun i _ => (intOf i).toNat)
              case atStart => exact ⟨most, Nat.le_refl _, by omega, rfl, TA, X⟩
              case round =>
                clear TA X
                obtain ⟨s, hs, hxs, rfl, TT, X⟩ := hrel
                by_cases hst : x ≤ s
                · obtain ⟨a1, ha1⟩ : ∃ a1, a1 + 1 = a := ⟨a - 1, by omega⟩
                  obtain ⟨d, hd⟩ : ∃ d, d + x = s := ⟨s - x, by omega⟩
                  obtain ⟨q1, q2⟩ := TT.head (i := a) (by omega) (by omega)
                  obtain ⟨-, q3⟩ := TT.head (i := a1) (by omega) (by omega)
                  obtain ⟨p1, p2, p3, p4⟩ := TT.cell (i := a) (s := s) (by omega) (by omega)
                  obtain ⟨p5, p6, p7, -⟩ := TT.cell (i := a1) (s := d) (by omega) (by omega)
                  have v0 : rkS x a s a s = rkN (x - 1) a s := by unfold rkS; rw [if_neg (by omega)]
                  have v1 : rkS x a s a1 d = rkN (x - 1) a1 d := by unfold rkS; rw [if_neg (by omega)]
                  have v2 : rkN x a s = rkN (x - 1) a s + rkN (x - 1) a1 d := by
                    rw [rkN_at hx1, if_pos ⟨by omega, hst⟩, show a - 1 = a1 by omega, show s - x = d by omega]
                  have b0 := rkN_4096 (x := x - 1) (i := a) (s := s) (by omega)
                  have b1 := rkN_4096 (x := x - 1) (i := a1) (s := d) (by omega)
                  rw [v0] at p2
                  rw [v1] at p6
                  have HTN : Hid (∀ W, Ext wr W → TabW (W.setCell ⟨g a, s, none⟩ (.int .i64 ((rkN x a s : Nat) : Int))) gt (k + 1) (most + 1) (k + 1) g (rkS x a (s - 1)) ∧ Ext w (W.setCell ⟨g a, s, none⟩ (.int .i64 ((rkN x a s : Nat) : Int)))) := by
                    intro W hW
                    have TN := (TT.ext hW).set (i := a) (s := s) (v := rkN x a s) (by omega)
                    refine ⟨TN.congr fun i b hi hb => ?_, Below.setCell (X.trans hW) (show w.heap.size ≤ g a by rw [HG.out]; omega) _⟩
                    show (if i = a ∧ b = s then rkN x a s else rkS x a s i b) = rkS x a (s - 1) i b
                    unfold rkS
                    by_cases h : i = a ∧ b = s
                    · obtain ⟨rfl, rfl⟩ := h
                      rw [if_pos ⟨rfl, rfl⟩, if_pos (by omega)]
                    · rw [if_neg h]
                      by_cases h5 : a < i ∨ (i = a ∧ s < b)
                      · rw [if_pos h5, if_pos (by omega)]
                      · rw [if_neg h5, if_neg (by omega)]
                  obtain ⟨s0, hs0⟩ : ∃ s0, s0 = s - 1 := ⟨_, rfl⟩
                  rw [← hs0] at HTN
                  have w8 : IntKind.i64.wrap ((s : Int) - 1) = (s0 : Int) := by rw [IntWalk.i64_in _ (by omega)]; omega
                  clear v0 v1
                  generalize rkN (x - 1) a s = V0 at *
                  generalize rkN (x - 1) a1 d = V1 at *
                  generalize rkN x a s = V2 at *
                  have w1 : IntKind.i64.wrap ((V0 : Int) + (V1 : Int)) = (V2 : Int) := by rw [IntWalk.i64_in _ (by omega)]; omega
                  have w2 : IntKind.i64.wrap ((a : Int) - 1) = (a1 : Int) := by rw [IntWalk.i64_in _ (by omega)]; omega
                  have w3 : IntKind.i64.wrap ((s : Int) - (x : Int)) = (d : Int) := by rw [IntWalk.i64_in _ (by omega)]; omega
                  have w4 : (a : Int) < (k : Int) + 1 := by omega
                  have w5 : (a1 : Int) < (k : Int) + 1 := by omega
                  have w6 : (s : Int) < (most : Int) + 1 := by omega
                  have w7 : (d : Int) < (most : Int) + 1 := by omega
                  have n4 : a < k + 1 := by omega
                  have n5 : a1 < k + 1 := by omega
                  have n6 : s < most + 1 := by omega
                  have n7 : d < most + 1 := by omega
                  have n8 : s0 ≤ most ∧ x ≤ s0 + 1 ∧ s0 < s := by omega
                  clear ha1 hd b0 b1 v2 hs0
                  go_wp2_with fail
                  refine wp_region_rel 19 (fun _ _ => True) (fun _ _ _ => True) (by kernel_rfl) (by kernel_rfl) (by kernel_rfl) ?_
                  dsimp only [List.take, List.drop, List.length]
                  refine LX_det (.slice (some ⟨gt, 0, none⟩) (k + 1) (k + 1)) (by kernel_rfl) rfl (fun w' hx _ => ?_) ?_
                  · go_simp
                  refine LX_det (.int .i64 a) (by kernel_rfl) rfl (fun w' hx _ => ?_) ?_
                  · go_simp
                  refine LX_det (.pointer (some ⟨gt, a, none⟩)) (by kernel_rfl) rfl (fun w' hx _ => ?_) ?_
                  · go_simp
                  refine LX_det (.slice (some ⟨g a, 0, none⟩) (most + 1) (most + 1)) (by kernel_rfl) rfl (fun w' hx _ => ?_) ?_
                  · have m0 := (Below.cell hx (p := ⟨gt, a, none⟩) q1).trans q2
                    go_simp
                  refine LX_det (.int .i64 s) (by kernel_rfl) rfl (fun w' hx _ => ?_) ?_
                  · go_simp
                  refine LX_det (.pointer (some ⟨g a, s, none⟩)) (by kernel_rfl) rfl (fun w' hx _ => ?_) ?_
                  · go_simp
                  refine LX_det (.int .i64 V0) (by kernel_rfl) rfl (fun w' hx _ => ?_) ?_
                  · have m0 := (Below.cell hx (p := ⟨g a, s, none⟩) p1).trans p2
                    go_simp
                  refine LX_det (.slice (some ⟨gt, 0, none⟩) (k + 1) (k + 1)) (by kernel_rfl) rfl (fun w' hx _ => ?_) ?_
                  · go_simp
                  refine LX_det (.int .i64 a) (by kernel_rfl) rfl (fun w' hx _ => ?_) ?_
                  · go_simp
                  refine LX_det (.int .i64 a1) (by kernel_rfl) rfl (fun w' hx _ => ?_) ?_
                  · go_simp
                  refine LX_det (.pointer (some ⟨gt, a1, none⟩)) (by kernel_rfl) rfl (fun w' hx _ => ?_) ?_
                  · go_simp
                  refine LX_det (.slice (some ⟨g a1, 0, none⟩) (most + 1) (most + 1)) (by kernel_rfl) rfl (fun w' hx _ => ?_) ?_
                  · have m0 := (Below.cell hx (p := ⟨gt, a1, none⟩) q1).trans q3
                    go_simp
                  refine LX_det (.int .i64 s) (by kernel_rfl) rfl (fun w' hx _ => ?_) ?_
                  · go_simp
                  refine LX_det (.int .i64 x) (by kernel_rfl) rfl (fun w' hx _ => ?_) ?_
                  · go_simp
                  refine LX_det (.int .i64 d) (by kernel_rfl) rfl (fun w' hx _ => ?_) ?_
                  · go_simp
                  refine LX_det (.pointer (some ⟨g a1, d, none⟩)) (by kernel_rfl) rfl (fun w' hx _ => ?_) ?_
                  · go_simp
                  refine LX_det (.int .i64 V1) (by kernel_rfl) rfl (fun w' hx _ => ?_) ?_
                  · have m0 := (Below.cell hx (p := ⟨g a1, d, none⟩) p5).trans p6
                    go_simp
                  refine LX_det (.int .i64 V2) (by kernel_rfl) rfl (fun w' hx _ => ?_) ?_
                  · go_simp
                  refine LX_det (.pointer (some ⟨g a, s, none⟩)) (by kernel_rfl) rfl (fun w' hx _ => ?_) ?_
                  · go_simp
                  refine LX_nil fun w10 hx _ => ?_
                  simp only [Act.put, List.setIfInBounds_toArray, List.set_cons_succ, List.set_cons_zero]
                  obtain ⟨T10, X10⟩ := HTN.out w10 hx
                  replace p2 := (Below.cell hx (p := ⟨g a, s, none⟩) p1).trans p2
                  replace p3 := (Below.frozen hx (p := ⟨g a, s, none⟩) p1).trans p3
                  replace p1 := Nat.lt_of_lt_of_le p1 hx.size
                  clear hx q1 q2 q3 p5 p6 p7 w1 w2 w3 w4 w5 w6 w7 n4 n5 n6 n7 TT X
                  go_wp2_with fail
                  go_roundw
                  case rel => exact ⟨s0, n8.1, n8.2.1, by go_num, T10, X10⟩
                  case measure => simp [intOf]; omega
                · obtain ⟨s1, hs1⟩ : ∃ s1, s1 + 1 = x := ⟨x - 1, by omega⟩
                  obtain ⟨a1, ha1⟩ : ∃ a1, a1 + 1 = a := ⟨a - 1, by omega⟩
                  have TE : TabW wr gt (k + 1) (most + 1) (k + 1) g (rkS x a1 most) := TT.congr fun i b hi hb => by
                    unfold rkS
                    by_cases h : a < i ∨ (i = a ∧ s < b)
                    · rw [if_pos h, if_pos (by omega)]
                    · rw [if_neg h]
                      by_cases h5 : a1 < i ∨ (i = a1 ∧ most < b)
                      · rw [if_pos h5]
                        conv => rhs; rw [rkN_at hx1, if_neg (by omega), Nat.add_zero]
                      · rw [if_neg h5]
                  have w2 : IntKind.i64.wrap ((a : Int) - 1) = (a1 : Int) := by rw [IntWalk.i64_in _ (by omega)]; omega
                  have n8 : a1 ≤ mi ∧ a1 < a := by omega
                  clear hs1 ha1 TT
                  go_wp2_with fail
                  exact ⟨⟨a1, n8.1, by go_num, TE, X⟩, by simp [intOf]; omega⟩
            · obtain rfl : a = 0 := by omega
              have TE : TabW wr gt (k + 1) (most + 1) (k + 1) g (rkN ((x + 1) - 1)) := TA.congr fun i b hi hb => by
                rw [Nat.add_sub_cancel]
                unfold rkS
                by_cases h : 0 < i ∨ (i = 0 ∧ most < b)
                · rw [if_pos h]
                · rw [if_neg h, rkN_at hx1, if_neg (by omega), Nat.add_zero]
              have h0 : ¬ ((0 : Nat) : Int) ≥ 1 := by omega
              have w2 : IntKind.i64.wrap ((x : Int) + 1) = ((x + 1 : Nat) : Int) := by rw [IntWalk.i64_in _ (by omega)]; omega
              clear TA
              go_wp2_with fail
              exact ⟨⟨x + 1, by omega, by omega, by go_num, TE, X⟩, by simp [intOf]; omega⟩
        · obtain rfl : x = n + 1 := by omega
          rw [Nat.add_sub_cancel] at TX
          obtain ⟨q1, q2⟩ := TX.head (i := k) (by omega) (by omega)
          have HC : Hid (∀ s, s < most + 1 → g k < wr.heap.size ∧ wr.cell? ⟨g k, s, none⟩ = some (.int .i64 ((rkN n k s : Nat) : Int))) := fun s hs => by
            have h := TX.cell (i := k) (s := s) (by omega) hs
            exact ⟨h.1, h.2.1⟩
          have HGK := (TX.cell (i := k) (s := 0) (by omega) (by omega)).1
          have h1n : ¬ ((n + 1 : Nat) : Int) ≤ (n : Int) := by omega
          clear TX
          obtain ⟨F, hF⟩ : ∃ F : Nat → Nat, F = fun m => ((List.range m).map fun (s : Nat) => if (s : Int) ≤ t then rkN n k s else 0).sum := ⟨_, rfl⟩
          have HF0 : Hid (F 0 = 0) := by show _ = _; rw [hF]; rfl
          have HF1 : Hid (∀ m, F (m + 1) = F m + if (m : Int) ≤ t then rkN n k m else 0) := by intro m; rw [hF]; exact range_sum_succ _ m
          have HFB : Hid (∀ m, F m ≤ 4096 * m) := by
            intro m; rw [hF]
            exact range_sum_le _ 4096 (fun s => by split; exact rkN_4096 h2; omega) m
          have HFE : Hid (rowFew n k (most + 1) t = F (most + 1)) := by show _ = _; rw [hF]; rfl
          have HRK : Hid (∀ s, rkN n k s ≤ 4096) := fun s => rkN_4096 h2
          clear hF
          go_wp2_with fail
          go_loopw [93, 15] (fun i c wq => ∃ (m : Nat), m ≤ most + 1 ∧ i = .int .i64 m ∧ c = .int .i64 ((F m : Nat) : Int) ∧ wr = wq) (fun i _ _ => most + 1 - (intOf i).toNat)
          case atStart => exact ⟨0, by omega, rfl, by rw [HF0.out]; rfl, rfl⟩
          case round =>
            obtain ⟨m, hm, rfl, rfl, rfl⟩ := hrel
            by_cases hmt : m < most + 1
            · obtain ⟨-, hcm⟩ := HC.out m hmt
              have f1 := HF1.out m
              have f2 := HFB.out m
              have f3 := HRK.out m
              have hmi : (m : Int) < (most : Int) + 1 := by omega
              generalize rkN n k m = V at *
              by_cases hle : (m : Int) ≤ t
              · rw [if_pos hle] at f1
                have w2 : IntKind.i64.wrap (((F m : Nat) : Int) + (V : Int)) = ((F (m + 1) : Nat) : Int) := by rw [IntWalk.i64_in _ (by omega)]; omega
                clear f1 f2 f3
                go_wp2_with fail
                go_roundw
                case rel => exact ⟨m + 1, by omega, by go_num, rfl, by first | rfl | trivial⟩
                case measure => simp [intOf]; omega
              · rw [if_neg hle, Nat.add_zero] at f1
                have HFE1 := Lib.hid f1
                clear f1 f2 f3
                go_wp2_with fail
                go_roundw
                case rel => exact ⟨m + 1, by omega, by go_num, by rw [HFE1.out]; rfl, by first | rfl | trivial⟩
                case measure => simp [intOf]; omega
            · obtain rfl : m = most + 1 := by omega
              have h1m : ¬ ((most + 1 : Nat) : Int) < (most : Int) + 1 := by omega
              have HS := Lib.hid (sumOf_any (.slice (some ⟨g k, 0, none⟩) (most + 1) (most + 1)) (rkN n k) (most + 1) (g k) (most + 1) wr rfl (by omega) HRK.out (fun s hs => (HC.out s hs).2) HGK)
              go_wp2_with fail
              refine HS.out.mono ?_
              rintro e w9 ⟨rfl, X9⟩
              go_wp2_with fail
              refine bodyPost_ret (v := .tuple #[.int .i64 ((F (most + 1) : Nat) : Int), .int .i64 ((((List.range (most + 1)).map (rkN n k)).sum : Nat) : Int), .bool true]) (by simp [results, Try.results32, go_sem]) rfl ?_
              rw [HFE.out]
              exact ⟨rfl, X.trans X9⟩
end Go.Proofs.Ytlbmjeennpccmaa
