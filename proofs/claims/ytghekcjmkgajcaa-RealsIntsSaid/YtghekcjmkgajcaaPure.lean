/- Doubles by their bits: how the model's order stands to the bits' own. No Go. -/
import Ieee.Arith
namespace Go.Proofs.Ytghekcjmkgajcaa

def rung (a : Nat) : Nat := a % 9223372036854775808
def negB (a : Nat) : Bool := a / 9223372036854775808 % 2 == 1
def isNan (a : Nat) : Bool := decide (9218868437227405312 < rung a)
/-- A real's bits as a number that rises with it; both noughts are 0. -/
def key (a : Nat) : Int := if negB a then -(rung a : Int) else rung a

/-- A magnitude in units of the least one. -/
def mg (r : Nat) : Nat := if r < 4503599627370496 then r else (4503599627370496 + r % 4503599627370496) * 2 ^ (r / 4503599627370496 - 1)

theorem mg_succ (r : Nat) : mg r < mg (r + 1) := by
  unfold mg
  by_cases h1 : r + 1 < 4503599627370496
  · rw [if_pos (by omega), if_pos h1]; omega
  · by_cases h2 : r < 4503599627370496
    · rw [if_pos h2, if_neg h1]
      have e : r + 1 = 4503599627370496 := by omega
      rw [e]; simp; omega
    · rw [if_neg h2, if_neg h1]
      generalize hq : r / 4503599627370496 = q
      generalize hf : r % 4503599627370496 = f
      have hr : r = 4503599627370496 * q + f := by have := Nat.div_add_mod r 4503599627370496; omega
      have hf2 : f < 4503599627370496 := by omega
      have hq1 : 1 ≤ q := by omega
      by_cases h3 : f + 1 < 4503599627370496
      · have e1 : (r + 1) / 4503599627370496 = q := by omega
        have e2 : (r + 1) % 4503599627370496 = f + 1 := by omega
        rw [e1, e2]
        exact Nat.mul_lt_mul_of_pos_right (by omega) (Nat.two_pow_pos _)
      · have e1 : (r + 1) / 4503599627370496 = q + 1 := by omega
        have e2 : (r + 1) % 4503599627370496 = 0 := by omega
        rw [e1, e2]
        have e3 : 2 ^ (q + 1 - 1) = 2 * 2 ^ (q - 1) := by rw [show q + 1 - 1 = (q - 1) + 1 from by omega, Nat.pow_succ, Nat.mul_comm]
        rw [e3]
        have hp := Nat.two_pow_pos (q - 1)
        have hle : (4503599627370496 + f) * 2 ^ (q - 1) ≤ 9007199254740991 * 2 ^ (q - 1) := Nat.mul_le_mul_right _ (by omega)
        generalize 2 ^ (q - 1) = P at *
        omega
theorem mg_lt {r s : Nat} (h : r < s) : mg r < mg s := by
  obtain ⟨d, rfl⟩ : ∃ d, s = r + 1 + d := ⟨s - (r + 1), by omega⟩
  clear h
  induction d with
  | zero => exact mg_succ r
  | succ d ih => exact Nat.lt_trans ih (mg_succ _)
theorem mg_zero : mg 0 = 0 := rfl
theorem mg_inj {r s : Nat} (h : mg r = mg s) : r = s := by
  rcases Nat.lt_trichotomy r s with k | k | k
  · have := mg_lt k; omega
  · exact k
  · have := mg_lt k; omega
theorem mg_pos {r : Nat} (h : 0 < r) : 0 < mg r := by have := mg_lt h; rw [mg_zero] at this; exact this

def sg (s : Bool) (m : Nat) : Int := if s then -(m : Int) else m
theorem compare_sg (s t : Bool) (r q : Nat) : compare (sg s (mg r)) (sg t (mg q)) = compare (sg s r) (sg t q) := by
  have h0 : ∀ r, 0 ≤ mg r := fun r => Nat.zero_le _
  have hz : ∀ r, (mg r = 0 ↔ r = 0) := fun r => ⟨fun h => by
    rcases Nat.eq_zero_or_pos r with k | k
    · exact k
    · have := mg_pos k; omega, fun h => by rw [h]; rfl⟩
  have hl : ∀ r q, (mg r < mg q ↔ r < q) := fun r q => ⟨fun h => by
    rcases Nat.lt_trichotomy r q with k | k | k
    · exact k
    · subst k; omega
    · have := mg_lt k; omega, mg_lt⟩
  have h1 := hl r q
  have h2 := hl q r
  have h3 := hz r
  have h4 := hz q
  have key : ∀ (x y x' y' : Int), (x < y ↔ x' < y') → (y < x ↔ y' < x') → compare x y = compare x' y' := by
    intro x y x' y' ha hb
    simp only [compare, compareOfLessAndEq]
    by_cases k1 : x < y
    · rw [if_pos k1, if_pos (ha.1 k1)]
    · rw [if_neg k1, if_neg (fun h => k1 (ha.2 h))]
      by_cases k2 : x = y
      · have : x' = y' := by
          have a1 : ¬ x' < y' := fun h => k1 (ha.2 h)
          have a2 : ¬ y' < x' := fun h => by have := hb.2 h; omega
          omega
        rw [if_pos k2, if_pos this]
      · have : ¬ x' = y' := by
          intro e
          have : y < x := by omega
          have := hb.1 this
          omega
        rw [if_neg k2, if_neg this]
  apply key
  · unfold sg; cases s <;> cases t <;> simp <;> omega
  · unfold sg; cases s <;> cases t <;> simp <;> omega

theorem fmt_sw : Ieee.double.signWeight = 9223372036854775808 := by decide +kernel
theorem fmt_bin : Ieee.double.binade = 4503599627370496 := by decide +kernel
theorem fmt_inf : Ieee.double.infRung = 9218868437227405312 := by decide +kernel
theorem fmt_least : Ieee.double.leastPlace = -1074 := by decide +kernel

open Ieee in
theorem read_eq (a : Nat) : double.read a =
    if rung a < 4503599627370496 then .number (negB a) (rung a) (-1074)
    else if rung a < 9218868437227405312 then .number (negB a) (4503599627370496 + rung a % 4503599627370496) (-1074 + (rung a / 4503599627370496 - 1 : Nat))
    else if rung a = 9218868437227405312 then .infinity (negB a) else .nan (negB a) (rung a - 9218868437227405312) := by
  unfold Format.read
  rw [fmt_sw, fmt_bin, fmt_inf, fmt_least]
  rfl

open Ieee in
/-- A number's datum: its magnitude times a power of two is mg. -/
theorem read_num (a : Nat) (h : rung a < 9218868437227405312) : ∃ m p : Nat, double.read a = .number (negB a) m (-1074 + (p : Int)) ∧ m * 2 ^ p = mg (rung a) := by
  rw [read_eq]
  by_cases h1 : rung a < 4503599627370496
  · refine ⟨rung a, 0, by rw [if_pos h1]; rfl, ?_⟩
    unfold mg; rw [if_pos h1]; simp
  · refine ⟨4503599627370496 + rung a % 4503599627370496, rung a / 4503599627370496 - 1, by rw [if_neg h1, if_pos h], ?_⟩
    unfold mg; rw [if_neg h1]
open Ieee in
theorem read_inf (a : Nat) (h : rung a = 9218868437227405312) : double.read a = .infinity (negB a) := by
  rw [read_eq, if_neg (by omega), if_neg (by omega), if_pos h]
open Ieee in
theorem read_nan (a : Nat) (h : 9218868437227405312 < rung a) : double.read a = .nan (negB a) (rung a - 9218868437227405312) := by
  rw [read_eq, if_neg (by omega), if_neg (by omega), if_neg (by omega)]

theorem signed_sg (s : Bool) (m u : Nat) : Ieee.signed s m u = sg s (m * 2 ^ u) := by
  unfold Ieee.signed sg; rw [Nat.shiftLeft_eq]
theorem sg_mul (s : Bool) (m k : Nat) : sg s (m * k) = sg s m * (k : Int) := by
  unfold sg; cases s
  · simp
  · simp [Int.neg_mul]
theorem compare_scale (x y : Int) (k : Nat) (hk : 0 < k) : compare (x * (k : Int)) (y * (k : Int)) = compare x y := by
  have hk' : (0 : Int) < k := by omega
  simp only [compare, compareOfLessAndEq]
  have h1 : x * (k : Int) < y * k ↔ x < y := Int.mul_lt_mul_right hk'
  have h2 : x * (k : Int) = y * k ↔ x = y := ⟨fun h => Int.eq_of_mul_eq_mul_right (by omega) h, fun h => by rw [h]⟩
  by_cases a : x < y
  · rw [if_pos a, if_pos (h1.2 a)]
  · rw [if_neg a, if_neg (fun h => a (h1.1 h))]
    by_cases b : x = y
    · rw [if_pos b, if_pos (h2.2 b)]
    · rw [if_neg b, if_neg (fun h => b (h2.1 h))]

theorem key_sg (a : Nat) : key a = sg (negB a) (rung a) := by unfold key sg; rfl

open Ieee in
theorem order_num (a b : Nat) (ha : rung a < 9218868437227405312) (hb : rung b < 9218868437227405312) : double.order a b = some (compare (key a) (key b)) := by
  obtain ⟨m, p, e1, h1⟩ := read_num a ha
  obtain ⟨n, q, e2, h2⟩ := read_num b hb
  unfold Format.order
  rw [e1, e2]
  simp only [Datum.order]
  rw [signed_sg, signed_sg]
  congr 1
  have hmin : min (-1074 + (p : Int)) (-1074 + (q : Int)) = -1074 + ((min p q : Nat) : Int) := by omega
  rw [hmin]
  have u1 : (-1074 + (p : Int) - (-1074 + ((min p q : Nat) : Int))).toNat = p - min p q := by omega
  have u2 : (-1074 + (q : Int) - (-1074 + ((min p q : Nat) : Int))).toNat = q - min p q := by omega
  rw [u1, u2, ← compare_scale _ _ (2 ^ min p q) (Nat.two_pow_pos _), ← sg_mul, ← sg_mul, Nat.mul_assoc, Nat.mul_assoc, ← Nat.pow_add, ← Nat.pow_add,
    show p - min p q + min p q = p by omega, show q - min p q + min p q = q by omega, h1, h2, compare_sg, key_sg, key_sg]

theorem cmp_lt {x y : Int} (h : x < y) : compare x y = .lt := by simp only [compare, compareOfLessAndEq]; rw [if_pos h]
theorem cmp_gt {x y : Int} (h : y < x) : compare x y = .gt := by simp only [compare, compareOfLessAndEq]; rw [if_neg (by omega), if_neg (by omega)]
theorem key_bd (a : Nat) (h : rung a < 9218868437227405312) : -9218868437227405312 < key a ∧ key a < 9218868437227405312 := by
  unfold key; cases negB a
  · simp; omega
  · simp; omega
theorem key_inf (a : Nat) (h : rung a = 9218868437227405312) : key a = if negB a then -9218868437227405312 else 9218868437227405312 := by
  unfold key; rw [h]; rfl
theorem cmp_right (a b : Nat) (ha : rung a < 9218868437227405312) (hb : rung b = 9218868437227405312) : compare (key a) (key b) = if negB b then .gt else .lt := by
  have h := key_bd a ha
  rw [key_inf b hb]
  cases negB b
  · exact cmp_lt (by simp; omega)
  · exact cmp_gt (by simp; omega)
theorem cmp_left (a b : Nat) (ha : rung a = 9218868437227405312) (hb : rung b < 9218868437227405312) : compare (key a) (key b) = if negB a then .lt else .gt := by
  have h := key_bd b hb
  rw [key_inf a ha]
  cases negB a
  · exact cmp_gt (by simp; omega)
  · exact cmp_lt (by simp; omega)

open Ieee in
theorem order_eq (a b : Nat) : double.order a b = if isNan a || isNan b then none else some (compare (key a) (key b)) := by
  unfold isNan
  by_cases na : 9218868437227405312 < rung a
  · rw [decide_eq_true na]
    unfold Format.order
    rw [read_nan a na]; simp [Datum.order]
  · rw [decide_eq_false na]
    by_cases nb : 9218868437227405312 < rung b
    · rw [decide_eq_true nb]
      unfold Format.order
      rw [read_nan b nb]
      simp only [Bool.false_or, if_true]
      rcases Nat.lt_or_ge (rung a) 9218868437227405312 with k | k
      · obtain ⟨m, p, e, _⟩ := read_num a k; rw [e]; rfl
      · rw [read_inf a (by omega)]; rfl
    · rw [decide_eq_false nb]
      simp only [Bool.or_self, Bool.false_eq_true, if_false]
      rcases Nat.lt_or_ge (rung a) 9218868437227405312 with ka | ka <;> rcases Nat.lt_or_ge (rung b) 9218868437227405312 with kb | kb
      · exact order_num a b ka kb
      · obtain ⟨m, p, e, _⟩ := read_num a ka
        unfold Format.order
        rw [e, read_inf b (by omega), cmp_right a b ka (by omega)]
        simp only [Datum.order]
      · obtain ⟨m, p, e, _⟩ := read_num b kb
        unfold Format.order
        rw [e, read_inf a (by omega), cmp_left a b (by omega) kb]
        simp only [Datum.order]
      · unfold Format.order
        rw [read_inf a (by omega), read_inf b (by omega)]
        simp only [Datum.order]
        congr 1
        unfold key
        have e1 : rung a = 9218868437227405312 := by omega
        have e2 : rung b = 9218868437227405312 := by omega
        rw [e1, e2]
        cases negB a <;> cases negB b <;> decide +kernel
end Go.Proofs.Ytghekcjmkgajcaa
