
/- Phases: all ways in which parts fail in phases, in their order; what each adds. Plain, no program. -/
import Derived.Test.YtepgkhcfeaklmaaZa
namespace Go.Proofs.Ytepgkhcfeaklmaa

/-- The digits of a number, the greatest first. -/
def digs (b : Nat) : Nat → Nat → List Nat
  | 0, _ => []
  | k + 1, m => m / b ^ k :: digs b k (m % b ^ k)
theorem digs_len (b : Nat) : ∀ k m, (digs b k m).length = k
  | 0, _ => rfl
  | k + 1, m => by simp [digs, digs_len b k]
theorem digs_snoc {b j : Nat} (hj : j < b) : ∀ k q, q < b ^ k → digs b (k + 1) (q * b + j) = digs b k q ++ [j]
  | 0, q, h => by
    have : q = 0 := by simpa using h
    subst this
    simp [digs]
  | k + 1, q, h => by
    have hb : 0 < b := by omega
    have hbk : 0 < b ^ k := Nat.pow_pos hb
    have e1 : (q * b + j) / b ^ (k + 1) = q / b ^ k := by
      rw [Nat.pow_succ, Nat.mul_comm (b ^ k) b, ← Nat.div_div_eq_div_mul]
      congr 1
      rw [Nat.mul_comm q b, Nat.mul_add_div hb, Nat.div_eq_of_lt hj, Nat.add_zero]
    have e2 : (q * b + j) % b ^ (k + 1) = (q % b ^ k) * b + j := by
      have h1 := Nat.div_add_mod q (b ^ k)
      have h2 : q % b ^ k < b ^ k := Nat.mod_lt _ hbk
      have h3 : q * b + j = b ^ (k + 1) * (q / b ^ k) + ((q % b ^ k) * b + j) := by
        conv => lhs; rw [← h1]
        rw [Nat.pow_succ, Nat.add_mul, Nat.add_assoc]
        congr 1
        rw [Nat.mul_assoc, Nat.mul_assoc, Nat.mul_comm b]
      have h4 : (q % b ^ k) * b + j < b ^ (k + 1) := by
        have : (q % b ^ k + 1) * b ≤ b ^ k * b := Nat.mul_le_mul_right b h2
        rw [Nat.succ_mul] at this
        rw [Nat.pow_succ]; omega
      rw [h3, Nat.mul_add_mod, Nat.mod_eq_of_lt h4]
    show (q * b + j) / b ^ (k + 1) :: digs b (k + 1) ((q * b + j) % b ^ (k + 1)) = _
    rw [e1, e2, digs_snoc hj k _ (Nat.mod_lt _ hbk)]
    rfl
theorem digs_lt {b : Nat} (hb : 0 < b) : ∀ k m, m < b ^ k → ∀ d ∈ digs b k m, d < b
  | 0, _, _, d, hd => by simp [digs] at hd
  | k + 1, m, h, d, hd => by
    have hbk : 0 < b ^ k := Nat.pow_pos hb
    rcases List.mem_cons.1 hd with rfl | hd
    · rw [Nat.div_lt_iff_lt_mul hbk, Nat.mul_comm]; rwa [Nat.pow_succ] at h
    · exact digs_lt hb k _ (Nat.mod_lt _ hbk) d hd
theorem digs_zero (b : Nat) : ∀ k, digs b k 0 = List.replicate k 0
  | 0 => rfl
  | k + 1 => by simp [digs, digs_zero b k, List.replicate_succ]

/-- The next way: whether there is one, and which (the last part's phase runs first). -/
def nxt (b : Nat) : List Nat → Bool × List Nat
  | [] => (false, [])
  | c :: cs => if (nxt b cs).1 then (true, c :: (nxt b cs).2) else if c + 1 < b then (true, (c + 1) :: (nxt b cs).2) else (false, 0 :: (nxt b cs).2)
theorem nxt_len (b : Nat) : ∀ cs, (nxt b cs).2.length = cs.length
  | [] => rfl
  | c :: cs => by
    have := nxt_len b cs
    unfold nxt
    split
    · simp [this]
    · split <;> simp [this]
theorem nxt_le {b : Nat} (hb : 0 < b) : ∀ cs, (∀ c ∈ cs, c < b) → ∀ c ∈ (nxt b cs).2, c < b
  | [], _, c, h => by simp [nxt] at h
  | x :: cs, h, c, hc => by
    have ih := nxt_le hb cs (fun y hy => h y (by simp [hy]))
    have hx := h x (by simp)
    unfold nxt at hc
    split at hc
    · rcases List.mem_cons.1 hc with rfl | hc
      · exact hx
      · exact ih c hc
    · split at hc
      · rcases List.mem_cons.1 hc with rfl | hc
        · assumption
        · exact ih c hc
      · rcases List.mem_cons.1 hc with rfl | hc
        · exact hb
        · exact ih c hc
theorem nxt_digs {b : Nat} (hb : 0 < b) : ∀ k m, m < b ^ k → nxt b (digs b k m) = (decide (m + 1 < b ^ k), if m + 1 < b ^ k then digs b k (m + 1) else digs b k 0)
  | 0, m, h => by
    have : m = 0 := by simpa using h
    subst this
    simp [digs, nxt]
  | k + 1, m, h => by
    have hbk : 0 < b ^ k := Nat.pow_pos hb
    have hr := Nat.mod_lt m hbk
    have hdm := Nat.div_add_mod m (b ^ k)
    have ih := nxt_digs hb k (m % b ^ k) hr
    show nxt b (m / b ^ k :: digs b k (m % b ^ k)) = _
    unfold nxt
    rw [ih]
    by_cases h1 : m % b ^ k + 1 < b ^ k
    · have e1 : (m + 1) / b ^ k = m / b ^ k := by
        rw [show m + 1 = b ^ k * (m / b ^ k) + (m % b ^ k + 1) by omega, Nat.mul_add_div hbk, Nat.div_eq_of_lt h1, Nat.add_zero]
      have e2 : (m + 1) % b ^ k = m % b ^ k + 1 := by
        conv => lhs; rw [show m + 1 = b ^ k * (m / b ^ k) + (m % b ^ k + 1) by omega]
        rw [Nat.mul_add_mod, Nat.mod_eq_of_lt h1]
      have h2 : m + 1 < b ^ (k + 1) := by
        have hd : m / b ^ k < b := by rw [Nat.div_lt_iff_lt_mul hbk, Nat.mul_comm]; rwa [Nat.pow_succ] at h
        have : b ^ k * (m / b ^ k + 1) ≤ b ^ k * b := Nat.mul_le_mul_left _ hd
        rw [Nat.mul_add, Nat.mul_one] at this
        rw [Nat.pow_succ]; omega
      simp only [h1, h2, decide_true, if_true]
      show _ = (true, (m + 1) / b ^ k :: digs b k ((m + 1) % b ^ k))
      rw [e1, e2]
    · have hr1 : m % b ^ k + 1 = b ^ k := by omega
      have e0 : m + 1 = b ^ k * (m / b ^ k + 1) := by rw [Nat.mul_add, Nat.mul_one]; omega
      have e1 : (m + 1) / b ^ k = m / b ^ k + 1 := by rw [e0, Nat.mul_div_cancel_left _ hbk]
      have e2 : (m + 1) % b ^ k = 0 := by rw [e0, Nat.mul_mod_right]
      have e3 : (m + 1 < b ^ (k + 1)) ↔ m / b ^ k + 1 < b := by
        rw [e0, Nat.pow_succ]
        exact Nat.mul_lt_mul_left hbk
      simp only [h1, decide_false, Bool.false_eq_true, if_false]
      by_cases h2 : m / b ^ k + 1 < b
      · have h3 := e3.2 h2
        simp only [h2, h3, decide_true, if_true]
        show _ = (true, (m + 1) / b ^ k :: digs b k ((m + 1) % b ^ k))
        rw [e1, e2]
      · have h3 : ¬ m + 1 < b ^ (k + 1) := fun h => h2 (e3.1 h)
        simp only [h2, h3, decide_false, if_false]
        show _ = (false, 0 / b ^ k :: digs b k (0 % b ^ k))
        simp
theorem nxt_split {b : Nat} : ∀ (q : Nat) (F : List Nat), (nxt b (F.drop q)).1 = true → nxt b F = (true, F.take q ++ (nxt b (F.drop q)).2)
  | 0, F, h => by
    simp only [List.drop_zero, List.take_zero, List.nil_append] at h ⊢
    rw [← h]
  | q + 1, [], h => by simp [nxt] at h
  | q + 1, c :: cs, h => by
    simp only [List.drop_succ_cons] at h
    have ih := nxt_split q cs h
    rw [nxt, ih]
    simp
/-- One step of the search for the next way. -/
theorem nxt_step {b q : Nat} {F : List Nat} (hq : q < F.length) (h : (nxt b (F.drop (q + 1))).1 = false) :
    nxt b (F.drop q) = (decide (F[q] + 1 < b), (if F[q] + 1 < b then F[q] + 1 else 0) :: (nxt b (F.drop (q + 1))).2) := by
  rw [List.drop_eq_getElem_cons hq, nxt, h]
  simp only [Bool.false_eq_true, if_false]
  split <;> simp_all

/-- The parts that have not failed by the end of a phase, of the first parts. -/
def setK (c : List Nat) (t : Nat) : Nat → Nat
  | 0 => 0
  | i + 1 => setK c t i + (if t < c.getD i 0 then 2 ^ i else 0)
theorem setK_lt (c : List Nat) (t : Nat) : ∀ i, setK c t i < 2 ^ i
  | 0 => by simp [setK]
  | i + 1 => by
    have := setK_lt c t i
    have e : 2 ^ (i + 1) = 2 ^ i + 2 ^ i := by rw [Nat.pow_succ]; omega
    unfold setK
    split <;> omega
/-- All systems work at the end of their phases (of the first phases). -/
def okK (ss : List (List Nat)) (P : Nat) (c : List Nat) (n : Nat) : Bool := (List.range n).all fun t => worksB (ss.getD t []) (setK c t P)
theorem okK_succ (ss : List (List Nat)) (P : Nat) (c : List Nat) (n : Nat) : okK ss P c (n + 1) = (okK ss P c n && worksB (ss.getD n []) (setK c n P)) := by
  unfold okK
  rw [List.range_succ, List.all_append]
  simp
theorem okK_false {ss : List (List Nat)} {P : Nat} {c : List Nat} {n k : Nat} (hk : k < n) (h : worksB (ss.getD k []) (setK c k P) = false) : okK ss P c n = false := by
  unfold okK
  rw [List.all_eq_false]
  exact ⟨k, List.mem_range.2 hk, by rw [h]; exact Bool.false_ne_true⟩
/-- How likely a part fails just in its phase: the first factors. -/
def prT (x : Nat) (C : List Nat) (P i d : Nat) : Nat → Nat
  | 0 => x
  | t + 1 => fop .mul .f32 (prT x C P i d t) (if t < d then fop .sub .f32 oneF (C.getD (t * P + i) 0) else C.getD (t * P + i) 0)
def prA (C : List Nat) (P n : Nat) (c : List Nat) : Nat → Nat
  | 0 => oneF
  | i + 1 => prT (prA C P n c i) C P i (c.getD i 0) (min n (c.getD i 0 + 1))
/-- What a way adds. -/
def leafP (ss : List (List Nat)) (C : List Nat) (P n : Nat) (c : List Nat) (s : Nat) : Nat := if okK ss P c n then fop .add .f32 s (prA C P n c P) else s
/-- The sum of the first ways. -/
def sumP (ss : List (List Nat)) (C : List Nat) (P n : Nat) : Nat → Nat
  | 0 => cn .f32 0
  | m + 1 => leafP ss C P n (digs (n + 1) P m) (sumP ss C P n m)

end Go.Proofs.Ytepgkhcfeaklmaa
