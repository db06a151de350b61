
/- Logarithms of nodes, by whole numbers. Plain. -/
import Derived.Test.YtmcnfapdghoenaaJa
namespace Go.Proofs.Ytmcnfapdghoenaa
open Go Go.RowKit

attribute [local irreducible] tw EX
/-- 128 logarithms by TR, of 1, 129/128, .. -/
def LT7 : Nat := 363479252059259874960787100663200161292011322136218458269225701027733991088435348909959840674344564469815627669185632600829886374449887605821103371103129596326500001970536918308629769946739287842500557670920848696403003950475984663737691448422502531129392252602860423837374717151210461464534501025070633394235157453036928320302827423092165090637451222127503548735614050623022715191046604867175771453864830634756499889500297568473992559955857006307009030481837660136573911386984765105483338634308645490065812176014621355630699858613548591962908830315993459335079233087219265302362143537737494402988260337157235789450310919820235822308509868328231119320814480680396649448157879279336798991728694251045726919514432217329994349728850439544316693818716971128314556752678840116054174191626181422433838811908427023083367205279502735510463715748521690728075606427467363752019122615892609044891152878295418742578048339982766017420404847693117943822607015754038484959107996876190005931823558065765923138576677869914780497697544976157663083800614640705084439898758956916943960271679168612488559916241225521842650669018355957972090130190687201162769839939477862622788508425775205813283206107940107847724046621706910969553204873710243632254094681248541629380891316480780770363798595129371275977706859362053275465741283655688824196951887980301125708936124142914031270602670458355968607358993307591467588747026953148533990641258704935794462624539913229488940746007305166769919360434800874407019642533961467000239533851495260378658636449700977433217843443678981239058532562507407652601111379162549151192546471761120093057910851738101160555622439654814492262050488531325460885648885872820452365910591595460498942623064438846002013863027638547616062802333209094069664189336695258224193768272312438491143014826533952383448258643512969771967361954829148648312112414720
def LN2i : Nat := 3048493539143
def LO : Nat := 42678909548002
def entL (i : Nat) : Nat := Nat.mod (Nat.shiftRight LT7 (Nat.mul 48 i)) 281474976710656
def nodeL (j : Nat) : Nat := Nat.add (entL (Nat.mod j 128)) (Nat.mul (Nat.div j 128) 3048493539143)
/-- The node's value. -/
def vN (j : Nat) : Rat := ((128 + j % 128 : Nat) : Rat) * tw (((j / 128 : Nat) : Int) - 21)
theorem ent_low : ∀ i, i < 64 → fL (((128 + i : Nat) : Rat) / 128) * TR ≤ (entL i : Rat) + 10 ∧ (entL i : Rat) ≤ fL (((128 + i : Nat) : Rat) / 128) * TR + 10 := by decide +kernel
theorem ent_high : ∀ i, i < 64 → (fL (((192 + i : Nat) : Rat) / 256) + LN2) * TR ≤ (entL (64 + i) : Rat) + 10 ∧ (entL (64 + i) : Rat) ≤ (fL (((192 + i : Nat) : Rat) / 256) + LN2) * TR + 10 := by decide +kernel
theorem ln2i_at : LN2 * TR ≤ (LN2i : Rat) + 1 ∧ (LN2i : Rat) ≤ LN2 * TR + 1 := by
  obtain ⟨-, a, b⟩ := ln2_val
  have : (LN2i : Rat) = 3048493539143 := rfl
  rw [this, TRv]
  constructor <;> grind
attribute [local irreducible] fL
theorem vN_pos (j : Nat) : 0 < vN j := by
  unfold vN
  exact Rat.mul_pos (by have : (0 : Rat) ≤ ((j % 128 : Nat) : Rat) := Rat.natCast_nonneg
                        rw [Rat.natCast_add]
                        have : ((128 : Nat) : Rat) = 128 := rfl
                        grind) (tw_pos _)
theorem tw_m7 : tw (-7) * 128 = 1 := tw_neg 7
theorem tw_m8 : tw (-8) * 256 = 1 := tw_neg 8
/-- A node's logarithm. -/
theorem node_ln {j : Nat} (hj : j < 2304) : ∃ l, LnOf (vN j) l ∧ l * TR ≤ (nodeL j : Rat) - (LO : Rat) + 40 ∧ (nodeL j : Rat) - (LO : Rat) ≤ l * TR + 40 := by
  obtain ⟨i, hi⟩ : ∃ i, i = j % 128 := ⟨_, rfl⟩
  obtain ⟨e, he⟩ : ∃ e, e = j / 128 := ⟨_, rfl⟩
  have i1 : i < 128 := by omega
  have e1 : e < 18 := by omega
  have hn : (nodeL j : Rat) = (entL i : Rat) + (e : Rat) * (LN2i : Rat) := by
    have : nodeL j = entL i + e * LN2i := by rw [hi, he]; rfl
    rw [this, Rat.natCast_add, Rat.natCast_mul]
  have ho : (LO : Rat) = 14 * (LN2i : Rat) := by decide +kernel
  have hv : vN j = ((128 + i : Nat) : Rat) * tw ((e : Int) - 21) := by rw [hi, he]; rfl
  obtain ⟨n1, n2⟩ := ln2i_at
  have er : (e : Rat) ≤ 17 := by exact_mod_cast (show e ≤ 17 by omega)
  have er0 : (0 : Rat) ≤ (e : Rat) := Rat.natCast_nonneg
  -- what the last part may err
  have k1 : ((e : Rat) - 14) * (LN2 * TR) ≤ ((e : Rat) - 14) * (LN2i : Rat) + 14 ∧ ((e : Rat) - 14) * (LN2i : Rat) ≤ ((e : Rat) - 14) * (LN2 * TR) + 14 := by
    obtain ⟨a, b⟩ := j_abs (u := LN2 * TR - (LN2i : Rat)) (v := (e : Rat) - 14) (e := 1) (B := 14) (by grind) (by grind) (by grind) (by grind)
    constructor <;> grind
  by_cases h : i < 64
  · refine ⟨fL (((128 + i : Nat) : Rat) / 128) + (((e : Int) - 14 : Int) : Rat) * LN2, ⟨_, (e : Int) - 14, ?_, ?_, by omega, by omega, ?_, ?_, rfl⟩, ?_⟩
    · rw [Rat.natCast_add]
      have : (0 : Rat) ≤ (i : Rat) := Rat.natCast_nonneg
      have : ((128 : Nat) : Rat) = 128 := rfl
      grind
    · rw [Rat.natCast_add]
      have : (i : Rat) ≤ 64 := by exact_mod_cast (show i ≤ 64 by omega)
      have : ((128 : Nat) : Rat) = 128 := rfl
      grind
    · have p := vN_pos j
      have : ((128 + i : Nat) : Rat) / 128 * tw ((e : Int) - 14) = vN j := by
        rw [hv, show (e : Int) - 21 = -7 + (e - 14) by omega, tw_add]
        have := tw_m7
        generalize tw (-7) = a at *
        generalize tw ((e : Int) - 14) = b at *
        grind
      rw [this]; grind
    · have p := vN_pos j
      have : ((128 + i : Nat) : Rat) / 128 * tw ((e : Int) - 14) = vN j := by
        rw [hv, show (e : Int) - 21 = -7 + (e - 14) by omega, tw_add]
        have := tw_m7
        generalize tw (-7) = a at *
        generalize tw ((e : Int) - 14) = b at *
        grind
      rw [this]; grind
    · obtain ⟨q1, q2⟩ := ent_low i h
      have c : (((e : Int) - 14 : Int) : Rat) = (e : Rat) - 14 := by rw [Rat.intCast_sub, Rat.intCast_natCast]; rfl
      rw [c, hn, ho]
      generalize fL (((128 + i : Nat) : Rat) / 128) = F at *
      generalize (entL i : Rat) = E at *
      constructor <;> grind
  · obtain ⟨d, rfl⟩ : ∃ d, i = 64 + d := ⟨i - 64, by omega⟩
    have e2 : (192 + d : Nat) = 128 + (64 + d) := by omega
    refine ⟨fL (((192 + d : Nat) : Rat) / 256) + (((e : Int) - 13 : Int) : Rat) * LN2, ⟨_, (e : Int) - 13, ?_, ?_, by omega, by omega, ?_, ?_, rfl⟩, ?_⟩
    · rw [Rat.natCast_add]
      have : (0 : Rat) ≤ (d : Rat) := Rat.natCast_nonneg
      have : ((192 : Nat) : Rat) = 192 := rfl
      grind
    · rw [Rat.natCast_add]
      have : (d : Rat) ≤ 64 := by exact_mod_cast (show d ≤ 64 by omega)
      have : ((192 : Nat) : Rat) = 192 := rfl
      grind
    · have p := vN_pos j
      have : ((192 + d : Nat) : Rat) / 256 * tw ((e : Int) - 13) = vN j := by
        rw [hv, e2, show (e : Int) - 21 = -8 + (e - 13) by omega, tw_add]
        have := tw_m8
        generalize tw (-8) = a at *
        generalize tw ((e : Int) - 13) = b at *
        grind
      rw [this]; grind
    · have p := vN_pos j
      have : ((192 + d : Nat) : Rat) / 256 * tw ((e : Int) - 13) = vN j := by
        rw [hv, e2, show (e : Int) - 21 = -8 + (e - 13) by omega, tw_add]
        have := tw_m8
        generalize tw (-8) = a at *
        generalize tw ((e : Int) - 13) = b at *
        grind
      rw [this]; grind
    · obtain ⟨q1, q2⟩ := ent_high d (by omega)
      have c : (((e : Int) - 13 : Int) : Rat) = (e : Rat) - 13 := by rw [Rat.intCast_sub, Rat.intCast_natCast]; rfl
      rw [c, hn, ho]
      generalize fL (((192 + d : Nat) : Rat) / 256) = F at *
      generalize (entL (64 + d) : Rat) = E at *
      constructor <;> grind
end Go.Proofs.Ytmcnfapdghoenaa
/- Survivors of kinds 1 and 2 at nodes, by whole numbers. Plain. -/
namespace Go.Proofs.Ytmcnfapdghoenaa
open Go Go.RowKit

attribute [local irreducible] tw EX eN eP EN nodeL LO k1 k2
def zN (m j : Nat) : Nat := Nat.div (Nat.mul m (Nat.sub LO (nodeL j))) 4
def zP (m j : Nat) : Nat := Nat.div (Nat.mul m (Nat.sub (nodeL j) LO)) 4
def s1 (m j : Nat) : Nat := bif Nat.ble LO (nodeL j) then (bif Nat.ble (zP m j) 13194139533312 then k1 (eP (zP m j)) else 0) else k1 (eN (zN m j))
def s2 (m j : Nat) : Nat := bif Nat.ble LO (nodeL j) then k2 (eP (zP m j)) else k2 (eN (zN m j))
/-- A quarter of a product, near. -/
theorem z_of {m d : Nat} {l : Rat} (hm : m ≤ 12) (h1 : l * TR ≤ (d : Rat) + 40) (h2 : (d : Rat) ≤ l * TR + 40) : (m : Rat) / 4 * l * TR ≤ ((Nat.div (Nat.mul m d) 4 : Nat) : Rat) + 130 ∧ ((Nat.div (Nat.mul m d) 4 : Nat) : Rat) ≤ (m : Rat) / 4 * l * TR + 130 := by
  have e : Nat.div (Nat.mul m d) 4 = m * d / 4 := rfl
  rw [e]
  obtain ⟨f1, f2⟩ := floor_near (a := m * d) (b := 4) (by decide)
  rw [Rat.natCast_mul] at f1 f2
  have c : ((4 : Nat) : Rat) = 4 := rfl
  rw [c] at f1 f2
  have m0 : (0 : Rat) ≤ (m : Rat) := Rat.natCast_nonneg
  have m1 : (m : Rat) ≤ 12 := by exact_mod_cast hm
  have a := jmul_le h1 m0
  have b := jmul_le h2 m0
  generalize ((m * d / 4 : Nat) : Rat) = q at *
  constructor <;> grind
theorem EX_nn {x : Rat} (h1 : -200 ≤ x) (h2 : x ≤ 8) : 0 ≤ EX x := (EX_mono h1 Rat.le_refl h2).1
theorem EN_small {a : Rat} (h : 20 ≤ a) : 0 ≤ EN a ∧ EN a ≤ 1 / 50000000 := by
  obtain ⟨a1, a2⟩ := EN_in (show 0 ≤ a by grind)
  obtain ⟨b1, b2⟩ := EN_fall (show (0 : Rat) ≤ 20 by decide) h
  have c : EN 20 = EX (-20) := by unfold EN; rw [if_pos (by decide)]
  have d := EX_20
  constructor <;> grind
theorem sides {j : Nat} {l : Rat} (n1 : l * TR ≤ (nodeL j : Rat) - (LO : Rat) + 40) (n2 : (nodeL j : Rat) - (LO : Rat) ≤ l * TR + 40) :
    (LO ≤ nodeL j → l * TR ≤ ((Nat.sub (nodeL j) LO : Nat) : Rat) + 40 ∧ ((Nat.sub (nodeL j) LO : Nat) : Rat) ≤ l * TR + 40) ∧ (nodeL j ≤ LO → -l * TR ≤ ((Nat.sub LO (nodeL j) : Nat) : Rat) + 40 ∧ ((Nat.sub LO (nodeL j) : Nat) : Rat) ≤ -l * TR + 40) := by
  constructor
  · intro h
    have : ((Nat.sub (nodeL j) LO + LO : Nat) : Rat) = (nodeL j : Rat) := by rw [show Nat.sub (nodeL j) LO + LO = nodeL j from Nat.sub_add_cancel h]
    rw [Rat.natCast_add] at this
    constructor <;> grind
  · intro h
    have : ((Nat.sub LO (nodeL j) + nodeL j : Nat) : Rat) = (LO : Rat) := by rw [show Nat.sub LO (nodeL j) + nodeL j = LO from Nat.sub_add_cancel h]
    rw [Rat.natCast_add] at this
    constructor <;> grind
/-- The exponential at a node. -/
theorem e_at {m j : Nat} {l : Rat} (hm : m ≤ 12) (n1 : l * TR ≤ (nodeL j : Rat) - (LO : Rat) + 40) (n2 : (nodeL j : Rat) - (LO : Rat) ≤ l * TR + 40) (l1 : -10 ≤ l) (hz : (m : Rat) / 4 * l ≤ 79 / 10) :
    (LO ≤ nodeL j → ((eP (zP m j) : Rat) ≤ EX ((m : Rat) / 4 * l) * wR + wR / 3000000 ∧ EX ((m : Rat) / 4 * l) * wR ≤ (eP (zP m j) : Rat) + wR / 3000000) ∧ (m : Rat) / 4 * l * TR ≤ (zP m j : Rat) + 130 ∧ (zP m j : Rat) ≤ (m : Rat) / 4 * l * TR + 130) ∧
    (nodeL j ≤ LO → ((eN (zN m j) : Rat) ≤ EX ((m : Rat) / 4 * l) * wR + wR / 3000000 ∧ EX ((m : Rat) / 4 * l) * wR ≤ (eN (zN m j) : Rat) + wR / 3000000) ∧ (m : Rat) / 4 * l * TR ≤ 130) ∧ -30 ≤ (m : Rat) / 4 * l := by
  obtain ⟨sp, sn⟩ := sides n1 n2
  have m0 : (0 : Rat) ≤ (m : Rat) := Rat.natCast_nonneg
  have m1 : (m : Rat) ≤ 12 := by exact_mod_cast hm
  have lo : -30 ≤ (m : Rat) / 4 * l := by
    have a := jmul_le l1 (show 0 ≤ (m : Rat) / 4 by grind)
    grind
  refine ⟨fun h => ?_, fun h => ?_, lo⟩
  · obtain ⟨a, b⟩ := sp h
    obtain ⟨p, q⟩ := z_of hm a b
    have z0 : (0 : Rat) ≤ ((Nat.div (Nat.mul m (Nat.sub (nodeL j) LO)) 4 : Nat) : Rat) := Rat.natCast_nonneg
    exact ⟨eP_at p q (by_TR (by rw [TRv] at *; grind)) hz, p, q⟩
  · obtain ⟨a, b⟩ := sn h
    obtain ⟨p, q⟩ := z_of hm a b
    have z0 : (0 : Rat) ≤ ((Nat.div (Nat.mul m (Nat.sub LO (nodeL j))) 4 : Nat) : Rat) := Rat.natCast_nonneg
    have e : (m : Rat) / 4 * -l * TR = -((m : Rat) / 4 * l * TR) := by grind
    rw [e] at p q
    exact ⟨eN_at (z := zN m j) (by show _ ≤ -((Nat.div (Nat.mul m (Nat.sub LO (nodeL j))) 4 : Nat) : Rat) + 130; grind) (by show -((Nat.div (Nat.mul m (Nat.sub LO (nodeL j))) 4 : Nat) : Rat) ≤ _; grind) (by grind) hz, by grind⟩
theorem s1_at {m j : Nat} {l : Rat} (hm : m ≤ 12) (n1 : l * TR ≤ (nodeL j : Rat) - (LO : Rat) + 40) (n2 : (nodeL j : Rat) - (LO : Rat) ≤ l * TR + 40) (l1 : -10 ≤ l) (hz : (m : Rat) / 4 * l ≤ 79 / 10) :
    (s1 m j : Rat) ≤ EN (EX ((m : Rat) / 4 * l)) * KR + 3 ∧ EN (EX ((m : Rat) / 4 * l)) * KR ≤ (s1 m j : Rat) + 3 := by
  obtain ⟨ep, en, lo⟩ := e_at hm n1 n2 l1 hz
  have nn := EX_nn (x := (m : Rat) / 4 * l) (by grind) (by grind)
  have t31 := EX_31
  unfold s1
  by_cases h : LO ≤ nodeL j
  · rw [show Nat.ble LO (nodeL j) = true from Nat.ble_eq_true_of_le h, cond_true]
    obtain ⟨⟨a, b⟩, c, d⟩ := ep h
    by_cases g : zP m j ≤ 13194139533312
    · rw [show Nat.ble (zP m j) 13194139533312 = true from Nat.ble_eq_true_of_le g, cond_true]
      have g2 : (zP m j : Rat) ≤ ((13194139533312 : Nat) : Rat) := by exact_mod_cast g
      have g3 : ((13194139533312 : Nat) : Rat) = 13194139533312 := rfl
      have z3 : (m : Rat) / 4 * l ≤ 301 / 100 := by_TR (by rw [TRv] at *; grind)
      have := (EX_mono (show -200 ≤ (m : Rat) / 4 * l by grind) z3 (by grind)).2
      exact k1_at a b nn (by grind)
    · rw [show Nat.ble (zP m j) 13194139533312 = false by cases hb : Nat.ble (zP m j) 13194139533312 with | false => rfl | true => exact absurd (Nat.le_of_ble_eq_true hb) g, cond_false]
      have g2 : ((13194139533312 : Nat) : Rat) ≤ (zP m j : Rat) := by exact_mod_cast (show 13194139533312 ≤ zP m j by omega)
      have g3 : ((13194139533312 : Nat) : Rat) = 13194139533312 := rfl
      have z3 : 299999 / 100000 ≤ (m : Rat) / 4 * l := by_TR (by rw [TRv] at *; grind)
      have t := (EX_mono (show -200 ≤ (299999 / 100000 : Rat) by decide +kernel) z3 (by grind)).2
      have t3 := EX_3
      obtain ⟨u, v⟩ := EN_small (show 20 ≤ EX ((m : Rat) / 4 * l) by grind)
      have z0 : ((0 : Nat) : Rat) = 0 := rfl
      rw [KRv, z0]
      constructor <;> grind
  · rw [show Nat.ble LO (nodeL j) = false by cases hb : Nat.ble LO (nodeL j) with | false => rfl | true => exact absurd (Nat.le_of_ble_eq_true hb) h, cond_false]
    obtain ⟨⟨a, b⟩, c⟩ := en (by omega)
    have z3 : (m : Rat) / 4 * l ≤ 301 / 100 := by_TR (by rw [TRv] at *; grind)
    have := (EX_mono (show -200 ≤ (m : Rat) / 4 * l by grind) z3 (by grind)).2
    exact k1_at a b nn (by grind)
theorem s2_at {m j : Nat} {l : Rat} (hm : m ≤ 12) (n1 : l * TR ≤ (nodeL j : Rat) - (LO : Rat) + 40) (n2 : (nodeL j : Rat) - (LO : Rat) ≤ l * TR + 40) (l1 : -10 ≤ l) (hz : (m : Rat) / 4 * l ≤ 79 / 10) :
    (s2 m j : Rat) ≤ (1 + EX ((m : Rat) / 4 * l))⁻¹ * KR + 3 ∧ (1 + EX ((m : Rat) / 4 * l))⁻¹ * KR ≤ (s2 m j : Rat) + 3 := by
  obtain ⟨ep, en, lo⟩ := e_at hm n1 n2 l1 hz
  have nn := EX_nn (x := (m : Rat) / 4 * l) (by grind) (by grind)
  unfold s2
  by_cases h : LO ≤ nodeL j
  · rw [show Nat.ble LO (nodeL j) = true from Nat.ble_eq_true_of_le h, cond_true]
    obtain ⟨⟨a, b⟩, -, -⟩ := ep h
    exact k2_at a b nn
  · rw [show Nat.ble LO (nodeL j) = false by cases hb : Nat.ble LO (nodeL j) with | false => rfl | true => exact absurd (Nat.le_of_ble_eq_true hb) h, cond_false]
    obtain ⟨⟨a, b⟩, -⟩ := en (by omega)
    exact k2_at a b nn
end Go.Proofs.Ytmcnfapdghoenaa
/- Tables in whole numbers. Plain. -/
namespace Go.Proofs.Ytmcnfapdghoenaa
open Go Go.RowKit

/-- n entries of f from j on, 30 bits each. -/
def tabN (f : Nat → Nat) : Nat → Nat → Nat
  | 0, _ => 0
  | n + 1, j => Nat.add (Nat.shiftLeft (tabN f n (Nat.succ j)) 30) (f j)
theorem tab_one {f : Nat → Nat} {n j : Nat} : tabN f (n + 1) j = tabN f n (j + 1) * 1073741824 + f j := by
  show (tabN f n (j + 1)) <<< 30 + f j = _
  rw [Nat.shiftLeft_eq]
/-- Two entries, one behind the other. -/
theorem tab_two {f : Nat → Nat} (hf : ∀ i, f i < 1073741824) : ∀ i n j, i + 1 < n → Nat.mod (Nat.shiftRight (tabN f n j) (Nat.mul 30 i)) 1152921504606846976 = f (j + i + 1) * 1073741824 + f (j + i)
  | 0, n, j, h => by
    obtain ⟨k, rfl⟩ : ∃ k, n = k + 1 + 1 := ⟨n - 2, by omega⟩
    rw [tab_one, tab_one]
    have h1 := hf j
    have h2 := hf (j + 1)
    show ((tabN f k (j + 1 + 1) * 1073741824 + f (j + 1)) * 1073741824 + f j) >>> (30 * 0) % 1152921504606846976 = _
    rw [Nat.shiftRight_eq_div_pow]
    simp only [Nat.mul_zero, Nat.pow_zero, Nat.div_one, Nat.add_zero]
    omega
  | i + 1, n, j, h => by
    obtain ⟨k, rfl⟩ : ∃ k, n = k + 1 := ⟨n - 1, by omega⟩
    have ih := tab_two hf i k (j + 1) (by omega)
    rw [tab_one]
    have h1 := hf j
    have e : Nat.shiftRight (tabN f k (j + 1) * 1073741824 + f j) (Nat.mul 30 (i + 1)) = Nat.shiftRight (tabN f k (j + 1)) (Nat.mul 30 i) := by
      show (tabN f k (j + 1) * 1073741824 + f j) >>> (30 * (i + 1)) = tabN f k (j + 1) >>> (30 * i)
      rw [show 30 * (i + 1) = 30 + 30 * i by omega, Nat.shiftRight_add, Nat.shiftRight_eq_div_pow _ 30]
      congr 1
      show (tabN f k (j + 1) * 1073741824 + f j) / 1073741824 = _
      omega
    rw [e, ih]
    have : j + 1 + i = j + (i + 1) := by omega
    rw [this]
/-- Where x = n/(256 b) lies among the nodes. -/
def idx (n b : Nat) : Nat := (fun q => (fun L => Nat.add (Nat.mul 128 (Nat.sub L 15)) (Nat.shiftRight q (Nat.sub L 7))) (Nat.log2 q)) (Nat.div (Nat.shiftLeft n 20) b)
theorem idx_at {n b : Nat} (hb : 1 ≤ b) (hn : b ≤ 32 * n) : ∃ q L i, q = n * 1048576 / b ∧ 15 ≤ L ∧ 128 ≤ i ∧ i < 256 ∧ i * 2 ^ (L - 7) ≤ q ∧ q < (i + 1) * 2 ^ (L - 7) ∧ idx n b = 128 * (L - 14) + (i - 128) ∧ L = Nat.log2 q := by
  have hq : 32768 ≤ n * 1048576 / b := by
    rw [Nat.le_div_iff_mul_le hb]; omega
  obtain ⟨q, hqe⟩ : ∃ q, q = n * 1048576 / b := ⟨_, rfl⟩
  rw [← hqe] at hq
  have q0 : q ≠ 0 := by omega
  have l1 := Nat.log2_self_le q0
  have l2 := @Nat.lt_log2_self q
  have l15 : 15 ≤ Nat.log2 q := (Nat.le_log2 q0).2 (by omega)
  obtain ⟨L, hL⟩ : ∃ L, L = Nat.log2 q := ⟨_, rfl⟩
  rw [← hL] at l1 l2 l15
  have pw : 2 ^ L = 128 * 2 ^ (L - 7) := by rw [show (128 : Nat) = 2 ^ 7 from rfl, ← Nat.pow_add]; congr 1; omega
  have pw2 : 2 ^ (L + 1) = 256 * 2 ^ (L - 7) := by rw [show (256 : Nat) = 2 ^ 8 from rfl, ← Nat.pow_add]; congr 1; omega
  have pp : 0 < 2 ^ (L - 7) := Nat.pow_pos (by decide)
  rw [pw] at l1
  rw [pw2] at l2
  have i1 : 128 ≤ q / 2 ^ (L - 7) := (Nat.le_div_iff_mul_le pp).2 l1
  have i2 : q / 2 ^ (L - 7) < 256 := (Nat.div_lt_iff_lt_mul pp).2 l2
  have d1 := Nat.div_add_mod q (2 ^ (L - 7))
  have d2 := Nat.mod_lt q pp
  have e : idx n b = 128 * (L - 15) + q / 2 ^ (L - 7) := by
    show 128 * (Nat.log2 (n <<< 20 / b) - 15) + (n <<< 20 / b) >>> (Nat.log2 (n <<< 20 / b) - 7) = _
    have : n <<< 20 / b = q := by rw [Nat.shiftLeft_eq, hqe]
    rw [this, ← hL, Nat.shiftRight_eq_div_pow]
  refine ⟨q, L, q / 2 ^ (L - 7), hqe, l15, i1, i2, ?_, ?_, by rw [e]; omega, hL⟩
  · rw [Nat.mul_comm]; exact Nat.mul_div_le q (2 ^ (L - 7))
  · rw [Nat.add_mul, Nat.mul_comm (q / 2 ^ (L - 7))]
    generalize 2 ^ (L - 7) = P at *
    omega
end Go.Proofs.Ytmcnfapdghoenaa
/- A time by scale between two nodes. Plain. -/
namespace Go.Proofs.Ytmcnfapdghoenaa
open Go Go.RowKit

attribute [local irreducible] tw
theorem idx_le {n b : Nat} (hb : 1 ≤ b) (hn : b ≤ 32 * n) (h : n ≤ 2898) : idx n b ≤ 2229 := by
  obtain ⟨q, L, i, hq, l15, i1, i2, k1, k2, hi, hL⟩ := idx_at hb hn
  have q1 : q ≤ n * 1048576 := by rw [hq]; exact Nat.div_le_self _ _
  have q2 : q ≤ 3038773248 := by omega
  have : L ≤ 31 := by
    by_cases hc : L ≤ 31
    · exact hc
    · have p : 2 ^ 25 ≤ 2 ^ (L - 7) := Nat.pow_le_pow_right (by decide) (by omega)
      have := Nat.mul_le_mul i1 p
      omega
  by_cases h31 : L = 31
  · subst h31
    have : i * 16777216 ≤ q := k1
    omega
  · omega
theorem tw_28 : tw (-28) * 268435456 = 1 := tw_neg 28
theorem vN_at {L i : Nat} (l15 : 15 ≤ L) (i1 : 128 ≤ i) (i2 : i ≤ 256) : vN (128 * (L - 14) + (i - 128)) = (i : Rat) * tw ((L : Int) - 35) := by
  by_cases h : i < 256
  · unfold vN
    have e1 : (128 * (L - 14) + (i - 128)) % 128 = i - 128 := by omega
    have e2 : (128 * (L - 14) + (i - 128)) / 128 = L - 14 := by omega
    rw [e1, e2, show 128 + (i - 128) = i by omega, show (((L - 14 : Nat) : Int) - 21) = (L : Int) - 35 by omega]
  · have : i = 256 := by omega
    subst this
    unfold vN
    have e1 : (128 * (L - 14) + (256 - 128)) % 128 = 0 := by omega
    have e2 : (128 * (L - 14) + (256 - 128)) / 128 = L - 13 := by omega
    rw [e1, e2, show (((L - 13 : Nat) : Int) - 21) = 1 + ((L : Int) - 35) by omega, tw_add, tw_one]
    have c1 : ((128 + 0 : Nat) : Rat) = 128 := rfl
    have c2 : ((256 : Nat) : Rat) = 256 := rfl
    rw [c1, c2]; grind
theorem x_node {n b : Nat} {x : Rat} (hb : 1 ≤ b) (hn : b ≤ 32 * n) (hx : x * (256 * (b : Rat)) = (n : Rat)) : vN (idx n b) ≤ x ∧ x ≤ vN (idx n b + 1) := by
  obtain ⟨q, L, i, hq, l15, i1, i2, k1, k2, hi, hL⟩ := idx_at hb hn
  obtain ⟨f1, f2⟩ := floor_near (a := n * 1048576) hb
  rw [← hq, Rat.natCast_mul, ← hx] at f1 f2
  have c1 : ((1048576 : Nat) : Rat) = 1048576 := rfl
  rw [c1] at f1 f2
  have b0 : (0 : Rat) < (b : Rat) := by exact_mod_cast (show 0 < b by omega)
  -- q is x by 2^28, but for one
  have q1 : (q : Rat) ≤ x * 268435456 := by
    by_cases hc : (q : Rat) ≤ x * 268435456
    · exact hc
    · have := Rat.mul_pos (show 0 < (q : Rat) - x * 268435456 by grind) b0; grind
  have q2 : x * 268435456 ≤ (q : Rat) + 1 := by
    by_cases hc : x * 268435456 ≤ (q : Rat) + 1
    · exact hc
    · have := Rat.mul_pos (show 0 < x * 268435456 - ((q : Rat) + 1) by grind) b0; grind
  have m1 : ((i * 2 ^ (L - 7) : Nat) : Rat) ≤ (q : Rat) := by exact_mod_cast k1
  have m2 : ((q + 1 : Nat) : Rat) ≤ (((i + 1) * 2 ^ (L - 7) : Nat) : Rat) := by exact_mod_cast k2
  have v1 := vN_at l15 i1 (show i ≤ 256 by omega)
  have v2 := vN_at l15 (show 128 ≤ i + 1 by omega) (show i + 1 ≤ 256 by omega)
  rw [← hi] at v1
  rw [show 128 * (L - 14) + (i + 1 - 128) = idx n b + 1 by omega] at v2
  have et : tw ((L : Int) - 35) = ((2 ^ (L - 7) : Nat) : Rat) * tw (-28) := by
    rw [← tw_nat, ← tw_add]; congr 1; omega
  rw [v1, v2, et]
  rw [Rat.natCast_mul] at m1 m2
  have c2 : ((q + 1 : Nat) : Rat) = (q : Rat) + 1 := by rw [Rat.natCast_add]; rfl
  rw [c2] at m2
  have t := tw_28
  have tp := tw_pos (-28)
  have r1 := Rat.mul_le_mul_of_nonneg_right (show (i : Rat) * ((2 ^ (L - 7) : Nat) : Rat) ≤ x * 268435456 by grind) (Rat.le_of_lt tp)
  have r2 := Rat.mul_le_mul_of_nonneg_right (show x * 268435456 ≤ ((i + 1 : Nat) : Rat) * ((2 ^ (L - 7) : Nat) : Rat) by grind) (Rat.le_of_lt tp)
  have ex : x * 268435456 * tw (-28) = x := by
    have : x * 268435456 * tw (-28) = x * (tw (-28) * 268435456) := by grind
    rw [this, t]; grind
  rw [ex] at r1 r2
  generalize ((2 ^ (L - 7) : Nat) : Rat) = P at *
  generalize ((i + 1 : Nat) : Rat) = I at *
  constructor <;> grind
end Go.Proofs.Ytmcnfapdghoenaa
/- Means between sums over nodes: the check. Plain. -/
namespace Go.Proofs.Ytmcnfapdghoenaa
open Go Go.RowKit

def pairT (T n b : Nat) : Nat := Nat.mod (Nat.shiftRight T (Nat.mul 30 (idx n b))) 1152921504606846976
def sumT (T a b : Nat) : Nat → Nat
  | 0 => 0
  | i + 1 => Nat.add (sumT T a b i) (pairT T (Nat.mul (Nat.succ (Nat.mul 2 i)) a) b)
/-- The sum of entries at the nodes d behind. -/
def nodeS (f : Nat → Nat) (d a b : Nat) : Nat → Nat
  | 0 => 0
  | i + 1 => nodeS f d a b i + f (idx ((2 * i + 1) * a) b + d)
theorem nodeS_le {f : Nat → Nat} (hf : ∀ i, f i ≤ 1100000) {d a b : Nat} : ∀ k, nodeS f d a b k ≤ 1100000 * k
  | 0 => by show 0 ≤ _; omega
  | k + 1 => by
    have := nodeS_le hf (d := d) (a := a) (b := b) k
    have := hf (idx ((2 * k + 1) * a) b + d)
    show nodeS f d a b k + f (idx ((2 * k + 1) * a) b + d) ≤ _; omega
/-- A table of f. -/
def TabOf (f : Nat → Nat) (T : Nat) : Prop := ∀ i, i + 1 < 2304 → Nat.mod (Nat.shiftRight T (Nat.mul 30 i)) 1152921504606846976 = f (i + 1) * 1073741824 + f i
theorem sumT_eq {f : Nat → Nat} {T : Nat} (hT : TabOf f T) (hf : ∀ i, f i ≤ 1100000) {a b : Nat} (a1 : 1 ≤ a) (a2 : a ≤ 46) (b1 : 1 ≤ b) (b2 : b ≤ 32) : ∀ k, k ≤ 32 → sumT T a b k = nodeS f 1 a b k * 1073741824 + nodeS f 0 a b k
  | 0, _ => by simp only [sumT, nodeS, Nat.zero_mul, Nat.add_zero]
  | k + 1, hk => by
    have ih := sumT_eq hT hf a1 a2 b1 b2 k (by omega)
    have n1 : b ≤ 32 * ((2 * k + 1) * a) := by have := Nat.mul_le_mul (show 1 ≤ 2 * k + 1 by omega) a1; omega
    have n2 : (2 * k + 1) * a ≤ 2898 := by have := Nat.mul_le_mul (show 2 * k + 1 ≤ 63 by omega) a2; omega
    have hi := idx_le b1 n1 n2
    have p : pairT T ((2 * k + 1) * a) b = f (idx ((2 * k + 1) * a) b + 1) * 1073741824 + f (idx ((2 * k + 1) * a) b) := by
      have := hT (idx ((2 * k + 1) * a) b) (by omega)
      unfold pairT; exact this
    clear hT
    show sumT T a b k + pairT T ((2 * k + 1) * a) b = (nodeS f 1 a b k + f (idx ((2 * k + 1) * a) b + 1)) * 1073741824 + (nodeS f 0 a b k + f (idx ((2 * k + 1) * a) b))
    rw [ih, p, Nat.add_mul]; omega
/-- n more a's, from a on; m: the greatest so far. -/
def chkA (T b c : Nat) : Nat → Nat → Nat → Bool
  | 0, _, _ => true
  | n + 1, a, m => (fun s => (fun lo => (fun up => bif Nat.ble m (Nat.add lo c) then chkA T b c n (Nat.succ a) (bif Nat.ble a 30 then (bif Nat.ble m up then up else m) else m) else false) (Nat.mul a (Nat.mod s 1073741824))) (Nat.mul a (Nat.shiftRight s 30))) (sumT T a b 32)
def chkB (T c : Nat) : Nat → Bool
  | 0 => true
  | b + 1 => bif chkA T (Nat.succ b) c 46 1 0 then chkB T c b else false
theorem chkA_at {f : Nat → Nat} {T : Nat} (hT : TabOf f T) (hf : ∀ i, f i ≤ 1100000) {b c : Nat} (b1 : 1 ≤ b) (b2 : b ≤ 32) : ∀ n a m, 1 ≤ a → a + n ≤ 47 → chkA T b c n a m = true →
    (∀ q, a ≤ q → q < a + n → m ≤ q * nodeS f 1 q b 32 + c) ∧ (∀ p q, a ≤ p → p ≤ 30 → p < q → q < a + n → p * nodeS f 0 p b 32 ≤ q * nodeS f 1 q b 32 + c)
  | 0, a, m, _, _, _ => ⟨fun q h1 h2 => by omega, fun p q h1 _ h2 h3 => by omega⟩
  | n + 1, a, m, a1, hn, h => by
    have hs := sumT_eq hT hf a1 (show a ≤ 46 by omega) b1 b2 32 (by omega)
    have u0 := nodeS_le hf (d := 0) (a := a) (b := b) 32
    have hup : sumT T a b 32 % 1073741824 = nodeS f 0 a b 32 := by rw [hs]; omega
    have hlo : Nat.shiftRight (sumT T a b 32) 30 = nodeS f 1 a b 32 := by
      show _ >>> 30 = _
      rw [hs, Nat.shiftRight_eq_div_pow]; omega
    have h' : (bif Nat.ble m (a * Nat.shiftRight (sumT T a b 32) 30 + c) then chkA T b c n (a + 1) (bif Nat.ble a 30 then (bif Nat.ble m (a * (sumT T a b 32 % 1073741824)) then a * (sumT T a b 32 % 1073741824) else m) else m) else false) = true := h
    rw [hup, hlo] at h'
    cases hb : Nat.ble m (a * nodeS f 1 a b 32 + c) with
    | false => rw [hb] at h'; simp at h'
    | true =>
      rw [hb, cond_true] at h'
      have hm := Nat.le_of_ble_eq_true hb
      obtain ⟨k1, k2⟩ := chkA_at hT hf b1 b2 n (a + 1) _ (by omega) (by omega) h'
      have mm : m ≤ (bif Nat.ble a 30 then (bif Nat.ble m (a * nodeS f 0 a b 32) then a * nodeS f 0 a b 32 else m) else m) := by
        cases Nat.ble a 30 with
        | false => exact Nat.le_refl _
        | true =>
          cases hc : Nat.ble m (a * nodeS f 0 a b 32) with
          | false => exact Nat.le_refl _
          | true => exact Nat.le_of_ble_eq_true hc
      have ma : a ≤ 30 → a * nodeS f 0 a b 32 ≤ (bif Nat.ble a 30 then (bif Nat.ble m (a * nodeS f 0 a b 32) then a * nodeS f 0 a b 32 else m) else m) := by
        intro h30
        rw [Nat.ble_eq_true_of_le h30, cond_true]
        cases hc : Nat.ble m (a * nodeS f 0 a b 32) with
        | true => exact Nat.le_refl _
        | false =>
          show a * nodeS f 0 a b 32 ≤ m
          by_cases g : m ≤ a * nodeS f 0 a b 32
          · rw [Nat.ble_eq_true_of_le g] at hc; cases hc
          · omega
      refine ⟨fun q h1 h2 => ?_, fun p q h1 h30 h2 h3 => ?_⟩
      · by_cases e : q = a
        · rw [e]; exact hm
        · exact Nat.le_trans mm (k1 q (by omega) (by omega))
      · by_cases e : p = a
        · rw [e]; exact Nat.le_trans (ma (by omega)) (k1 q (by omega) (by omega))
        · exact k2 p q (by omega) h30 h2 (by omega)
theorem chkB_at {f : Nat → Nat} {T : Nat} (hT : TabOf f T) (hf : ∀ i, f i ≤ 1100000) {c : Nat} : ∀ k, k ≤ 32 → chkB T c k = true → ∀ b, 1 ≤ b → b ≤ k → ∀ p q, 1 ≤ p → p ≤ 30 → p < q → q ≤ 46 → p * nodeS f 0 p b 32 ≤ q * nodeS f 1 q b 32 + c
  | 0, _, _, b, b1, b2 => by omega
  | k + 1, hk, h, b, b1, b2 => by
    intro p q p1 p2 pq q2
    have h' : (bif chkA T (k + 1) c 46 1 0 then chkB T c k else false) = true := h
    cases hc : chkA T (k + 1) c 46 1 0 with
    | false => rw [hc] at h'; cases h'
    | true =>
      rw [hc, cond_true] at h'
      by_cases e : b = k + 1
      · rw [e]
        exact (chkA_at hT hf (by omega) (by omega) 46 1 0 (by omega) (by omega) hc).2 p q p1 p2 pq (by omega)
      · exact chkB_at hT hf k (by omega) h' b b1 (by omega) p q p1 p2 pq q2
theorem tab_of {f : Nat → Nat} (hf : ∀ i, f i ≤ 1100000) {n : Nat} (hn : 2304 ≤ n) : TabOf f (tabN f n 0) := by
  intro i hi
  have := tab_two (f := f) (fun i => by have := hf i; omega) i n 0 (by omega)
  rw [Nat.zero_add] at this
  exact this
end Go.Proofs.Ytmcnfapdghoenaa
