/- Whole numbers of up to 53 bits as doubles: sums, differences, products, back again. No Go. -/
import Derived.Test.YtghekcjmkgajcaaExact
namespace Go.Proofs.Ytghekcjmkgajcaa
open Ieee

/-- The real of a whole number. -/
def wordI (n : Int) : Nat := double.word (decide (n < 0)) (rungN n.natAbs)
theorem word_rung (s : Bool) (r : Nat) (h : r < 9223372036854775808) : rung (double.word s r) = r := by
  unfold Format.word rung; rw [fmt_sw]; cases s
  · rw [if_neg (by decide)]; omega
  · rw [if_pos rfl]; omega
theorem word_neg (s : Bool) (r : Nat) (h : r < 9223372036854775808) : negB (double.word s r) = s := by
  unfold Format.word negB; rw [fmt_sw]; cases s
  · rw [if_neg (by decide)]; exact beq_eq_false_iff_ne.2 (by omega)
  · rw [if_pos rfl]; exact beq_iff_eq.2 (by omega)
theorem log_abs (n : Int) (h0 : -9223372036854775808 ≤ n) (h1 : n ≤ 9223372036854775807) : n.natAbs.log2 < 64 := by
  by_cases h : n.natAbs = 0
  · rw [h]; decide
  · exact (Nat.log2_lt h).2 (by omega)
theorem wordI_rung (n : Int) (hl : n.natAbs.log2 < 64) : rung (wordI n) = rungN n.natAbs := word_rung _ _ (by have := rungN_lt _ hl; omega)
theorem wordI_neg (n : Int) (hl : n.natAbs.log2 < 64) : negB (wordI n) = decide (n < 0) := word_neg _ _ (by have := rungN_lt _ hl; omega)
theorem wordI_num (n : Int) (hl : n.natAbs.log2 < 64) : isNan (wordI n) = false := by
  unfold isNan; rw [wordI_rung n hl]; exact decide_eq_false (by have := rungN_lt _ hl; omega)
theorem wordI_lt (n : Int) (hl : n.natAbs.log2 < 64) : wordI n < 18446744073709551616 := by
  have := rungN_lt _ hl
  unfold wordI Format.word; rw [fmt_sw]; split <;> omega
theorem wordI_key (n : Int) (hl : n.natAbs.log2 < 64) : key (wordI n) = if n < 0 then -(rungN n.natAbs : Int) else rungN n.natAbs := by
  unfold key; rw [wordI_rung n hl, wordI_neg n hl]
  by_cases h : n < 0
  · rw [decide_eq_true h, if_pos rfl, if_pos h]
  · rw [decide_eq_false h, if_neg (by decide), if_neg h]
theorem nearest_wordI (n : Int) (hl : n.natAbs.log2 < 64) : double.write (.number (n < 0) n.natAbs 0) = wordI n := nearest_int _ _ hl

theorem rungN_pos {n : Nat} (h : n ≠ 0) : 4602678819172646912 ≤ rungN n := by
  unfold rungN; rw [if_neg h]; have := kept_lo n h; omega
theorem rungN_hi {n : Nat} (h : n ≤ 9007199254740992) : rungN n ≤ 4845873199050653696 := by
  have := rungN_mono h
  have e : rungN 9007199254740992 = 4845873199050653696 := by decide +kernel
  omega
theorem key_mono {m n : Int} (h : m ≤ n) (hm : m.natAbs.log2 < 64) (hn : n.natAbs.log2 < 64) : key (wordI m) ≤ key (wordI n) := by
  rw [wordI_key m hm, wordI_key n hn]
  by_cases h1 : m < 0
  · rw [if_pos h1]
    by_cases h2 : n < 0
    · rw [if_pos h2]
      have := rungN_mono (show n.natAbs ≤ m.natAbs by omega)
      omega
    · rw [if_neg h2]; omega
  · rw [if_neg h1, if_neg (by omega)]
    have := rungN_mono (show m.natAbs ≤ n.natAbs by omega)
    omega

/-- A datum that stands for a whole number. -/
def IsD (d : Datum) (a : Int) : Prop := ∃ m p : Nat, d = .number (decide (a < 0)) m (-1074 + (p : Int)) ∧ m * 2 ^ p = a.natAbs * 2 ^ 1074 ∧ (a ≠ 0 → 1021 ≤ p)

theorem read_wordI (n : Int) (h : n.natAbs ≤ 9007199254740992) (hl : n.natAbs.log2 < 64) : IsD (double.read (wordI n)) n := by
  have hr := wordI_rung n hl
  have hlt := rungN_lt _ hl
  have hx := rungN_exact _ h
  rw [read_eq, hr, wordI_neg n hl]
  by_cases h1 : rungN n.natAbs < 4503599627370496
  · rw [if_pos h1]
    refine ⟨rungN n.natAbs, 0, rfl, ?_, ?_⟩
    · rw [← hx]; unfold mg; rw [if_pos h1, Nat.pow_zero, Nat.mul_one]
    · intro hn
      have := rungN_pos (n := n.natAbs) (by omega)
      omega
  · rw [if_neg h1, if_pos hlt]
    refine ⟨_, _, rfl, ?_, ?_⟩
    · rw [← hx]; unfold mg; rw [if_neg h1]
    · intro hn
      have := rungN_pos (n := n.natAbs) (by omega)
      omega
theorem opp_isD {d : Datum} {a : Int} (h : IsD d a) (h0 : a ≠ 0) : IsD d.opposite (-a) := by
  obtain ⟨m, p, rfl, h1, h2⟩ := h
  refine ⟨m, p, ?_, by rw [h1, Int.natAbs_neg], fun _ => h2 h0⟩
  unfold Datum.opposite
  have : (!decide (a < 0)) = decide (-a < 0) := by
    by_cases h : a < 0
    · rw [decide_eq_true h, decide_eq_false (by omega)]; rfl
    · rw [decide_eq_false h, decide_eq_true (by omega)]; rfl
  dsimp only
  rw [this]

theorem sg_abs (a : Int) : sg (decide (a < 0)) a.natAbs = a := by
  unfold sg
  by_cases h : a < 0
  · rw [decide_eq_true h, if_pos rfl]; omega
  · rw [decide_eq_false h, if_neg (by decide)]; omega

theorem exact_word (s : Bool) (m p : Nat) (c : Int) (hm : m ≠ 0) (hs : s = decide (c < 0)) (h : m * 2 ^ p = c.natAbs * 2 ^ 1074) (hc : c.natAbs ≤ 9007199254740992) (hl : c.natAbs.log2 < 64) : double.nearest s m (-1074 + (p : Int)) = wordI c := by
  rw [nearest_exact s m p (rungN c.natAbs) (rungN_lt _ hl) hm (by rw [h, rungN_exact _ hc]), hs]; rfl

set_option exponentiation.threshold 2500
theorem sum_exact {d e : Datum} {a b : Int} (hd : IsD d a) (he : IsD e b) (hc : (a + b).natAbs ≤ 9007199254740992) : (d.sum e).map double.write = some (wordI (a + b)) := by
  obtain ⟨m, p, rfl, h1, _⟩ := hd
  obtain ⟨n, q, rfl, h2, _⟩ := he
  have hl : (a + b).natAbs.log2 < 64 := log_abs _ (by omega) (by omega)
  unfold Datum.sum
  have hmin : min (-1074 + (p : Int)) (-1074 + (q : Int)) = -1074 + ((min p q : Nat) : Int) := by omega
  have u1 : (-1074 + (p : Int) - (-1074 + ((min p q : Nat) : Int))).toNat = p - min p q := by omega
  have u2 : (-1074 + (q : Int) - (-1074 + ((min p q : Nat) : Int))).toNat = q - min p q := by omega
  dsimp only
  rw [hmin, u1, u2, signed_sg, signed_sg]
  have ht : (sg (decide (a < 0)) (m * 2 ^ (p - min p q)) + sg (decide (b < 0)) (n * 2 ^ (q - min p q))) * ((2 ^ min p q : Nat) : Int) = (a + b) * ((2 ^ 1074 : Nat) : Int) := by
    rw [Int.add_mul, ← sg_mul, ← sg_mul, Nat.mul_assoc, Nat.mul_assoc, ← Nat.pow_add, ← Nat.pow_add,
      show p - min p q + min p q = p by omega, show q - min p q + min p q = q by omega, h1, h2, sg_mul, sg_mul, sg_abs, sg_abs, Int.add_mul]
  generalize sg (decide (a < 0)) (m * 2 ^ (p - min p q)) + sg (decide (b < 0)) (n * 2 ^ (q - min p q)) = T at ht
  have hP : (0 : Int) < ((2 ^ min p q : Nat) : Int) := by have := Nat.two_pow_pos (min p q); omega
  have hQ : (0 : Int) < ((2 ^ 1074 : Nat) : Int) := by have := Nat.two_pow_pos 1074; omega
  have hz : T = 0 ↔ a + b = 0 := by
    constructor
    · intro h; rw [h, Int.zero_mul] at ht
      rcases Int.mul_eq_zero.1 ht.symm with k | k
      · exact k
      · omega
    · intro h; rw [h, Int.zero_mul] at ht
      rcases Int.mul_eq_zero.1 ht with k | k
      · exact k
      · omega
  have hn : T < 0 ↔ a + b < 0 := by
    constructor
    · intro h
      have : T * ((2 ^ min p q : Nat) : Int) < 0 := Int.mul_neg_of_neg_of_pos h hP
      rw [ht] at this
      by_cases k : a + b < 0
      · exact k
      · have := Int.mul_nonneg (show 0 ≤ a + b by omega) (Int.le_of_lt hQ); omega
    · intro h
      have : (a + b) * ((2 ^ 1074 : Nat) : Int) < 0 := Int.mul_neg_of_neg_of_pos h hQ
      rw [← ht] at this
      by_cases k : T < 0
      · exact k
      · have := Int.mul_nonneg (show 0 ≤ T by omega) (Int.le_of_lt hP); omega
  have habs : T.natAbs * 2 ^ min p q = (a + b).natAbs * 2 ^ 1074 := by
    have := congrArg Int.natAbs ht
    rw [Int.natAbs_mul, Int.natAbs_mul, Int.natAbs_natCast, Int.natAbs_natCast] at this
    exact this
  show some (double.write _) = _
  congr 1
  by_cases h0 : a + b = 0
  · rw [if_pos (hz.2 h0), hz.2 h0, h0]
    have hs : (decide (a < 0) && decide (b < 0)) = false := by
      by_cases h : a < 0
      · rw [decide_eq_false (show ¬ b < 0 by omega), Bool.and_false]
      · rw [decide_eq_false h, Bool.false_and]
    rw [hs]
    show double.nearest false 0 _ = _
    unfold Format.nearest; rw [if_pos rfl]; rfl
  · rw [if_neg (fun h => h0 (hz.1 h))]
    refine exact_word _ _ _ _ ?_ ?_ habs hc hl
    · intro h; exact h0 (hz.1 (by omega))
    · exact decide_eq_decide.2 hn

theorem prod_exact {d e : Datum} {a b : Int} (hd : IsD d a) (he : IsD e b) (ha : a ≠ 0) (hb : b ≠ 0) (hc : (a * b).natAbs ≤ 9007199254740992) : (d.product e).map double.write = some (wordI (a * b)) := by
  obtain ⟨m, p, rfl, h1, hp⟩ := hd
  obtain ⟨n, q, rfl, h2, hq⟩ := he
  have hp := hp ha
  have hq := hq hb
  have hl : (a * b).natAbs.log2 < 64 := log_abs _ (by omega) (by omega)
  have hne : ∀ (m p : Nat) (a : Int), a ≠ 0 → m * 2 ^ p = a.natAbs * 2 ^ 1074 → m ≠ 0 := by
    intro m p a ha h hm
    rw [hm, Nat.zero_mul] at h
    exact Nat.mul_ne_zero (show a.natAbs ≠ 0 by omega) (Nat.pos_iff_ne_zero.1 (Nat.two_pow_pos 1074)) h.symm
  unfold Datum.product
  show some (double.write _) = _
  congr 1
  have hpl : -1074 + (p : Int) + (-1074 + (q : Int)) = -1074 + ((p + q - 1074 : Nat) : Int) := by omega
  rw [hpl]
  refine exact_word _ _ _ _ (Nat.mul_ne_zero (hne m p a ha h1) (hne n q b hb h2)) ?_ ?_ hc hl
  · by_cases k1 : a < 0 <;> by_cases k2 : b < 0
    · rw [decide_eq_true k1, decide_eq_true k2, decide_eq_false (by have := Int.mul_pos_of_neg_of_neg k1 k2; omega)]; rfl
    · rw [decide_eq_true k1, decide_eq_false k2, decide_eq_true (Int.mul_neg_of_neg_of_pos k1 (by omega))]; rfl
    · rw [decide_eq_false k1, decide_eq_true k2, decide_eq_true (Int.mul_neg_of_pos_of_neg (by omega) k2)]; rfl
    · rw [decide_eq_false k1, decide_eq_false k2, decide_eq_false (by have := Int.mul_pos (show 0 < a by omega) (show 0 < b by omega); omega)]; rfl
  · have e : m * n * 2 ^ (p + q - 1074) * 2 ^ 1074 = (a * b).natAbs * 2 ^ 1074 * 2 ^ 1074 := by
      rw [Nat.mul_assoc, ← Nat.pow_add, show p + q - 1074 + 1074 = p + q by omega, Nat.pow_add, Int.natAbs_mul]
      calc m * n * (2 ^ p * 2 ^ q) = (m * 2 ^ p) * (n * 2 ^ q) := by simp only [Nat.mul_assoc, Nat.mul_left_comm]
        _ = (a.natAbs * 2 ^ 1074) * (b.natAbs * 2 ^ 1074) := by rw [h1, h2]
        _ = _ := by generalize 2 ^ 1074 = Q; simp only [Nat.mul_assoc, Nat.mul_left_comm]
    exact Nat.eq_of_mul_eq_mul_right (Nat.two_pow_pos 1074) e

/-- Made whole, a whole number is what it was. -/
theorem whole_exact {d : Datum} {a : Int} (hd : IsD d a) : d.integral .zero = .number (decide (a < 0)) a.natAbs 0 := by
  obtain ⟨m, p, rfl, h1, hp⟩ := hd
  unfold Datum.integral
  dsimp only
  congr 1
  by_cases h0 : a = 0
  · subst h0
    have hm : m = 0 := by
      rcases Nat.mul_eq_zero.1 (show m * 2 ^ p = 0 by rw [h1]; exact Nat.zero_mul _) with k | k
      · exact k
      · have := Nat.two_pow_pos p; omega
    subst hm
    rw [shiftL, Nat.zero_mul]
    unfold Toward.cut
    simp
  · have := hp h0
    rcases Nat.le_total 1074 p with h | h
    · have t1 : (-1074 + (p : Int)).toNat = p - 1074 := by omega
      have t2 : (-(-1074 + (p : Int))).toNat = 0 := by omega
      rw [t1, t2, cut_none, shiftL]
      have : m * 2 ^ (p - 1074) * 2 ^ 1074 = a.natAbs * 2 ^ 1074 := by rw [Nat.mul_assoc, ← Nat.pow_add, show p - 1074 + 1074 = p by omega, h1]
      exact Nat.eq_of_mul_eq_mul_right (Nat.two_pow_pos 1074) this
    · have t1 : (-1074 + (p : Int)).toNat = 0 := by omega
      have t2 : (-(-1074 + (p : Int))).toNat = 1074 - p := by omega
      rw [t1, t2, shiftL, Nat.pow_zero, Nat.mul_one]
      have : m * 2 ^ p = a.natAbs * 2 ^ (1074 - p) * 2 ^ p := by rw [Nat.mul_assoc, ← Nat.pow_add, show 1074 - p + p = 1074 by omega, h1]
      rw [Nat.eq_of_mul_eq_mul_right (Nat.two_pow_pos p) this]
      exact cut_exact _ _ _ _ (by omega)
theorem toInt_exact {d : Datum} {a : Int} (hd : IsD d a) : d.toInt .zero = some a := by
  unfold Datum.toInt
  rw [whole_exact hd]
  show some (signed _ _ 0) = _
  rw [signed_sg, Nat.pow_zero, Nat.mul_one, sg_abs]
theorem compare_ne_eq {x y : Int} (h : x < y) : compare x y = .lt ∧ compare y x = .gt := ⟨cmp_lt h, cmp_gt h⟩
theorem key_inj {a b : Int} (ha : a.natAbs ≤ 9007199254740992) (hb : b.natAbs ≤ 9007199254740992) (h : a < b) : key (wordI a) < key (wordI b) := by
  have la : a.natAbs.log2 < 64 := log_abs _ (by omega) (by omega)
  have lb : b.natAbs.log2 < 64 := log_abs _ (by omega) (by omega)
  have hm := key_mono (Int.le_of_lt h) la lb
  have hne : key (wordI a) ≠ key (wordI b) := by
    rw [wordI_key a la, wordI_key b lb]
    intro e
    have hr : rungN a.natAbs = rungN b.natAbs ∧ (a < 0 ↔ b < 0) ∨ (rungN a.natAbs = 0 ∧ rungN b.natAbs = 0) := by
      split at e <;> split at e <;> omega
    have inj : ∀ x y : Nat, x ≤ 9007199254740992 → y ≤ 9007199254740992 → rungN x = rungN y → x = y := by
      intro x y hx hy hxy
      have h1 := rungN_exact x hx
      have h2 := rungN_exact y hy
      rw [hxy, h2] at h1
      exact (Nat.eq_of_mul_eq_mul_right (Nat.two_pow_pos 1074) h1).symm
    have e1 : a.natAbs = b.natAbs := inj _ _ ha hb (by omega)
    rcases hr with ⟨_, k⟩ | ⟨k1, k2⟩
    · omega
    · have z := inj _ 0 ha (by omega) k1
      have z2 := inj _ 0 hb (by omega) k2
      omega
  omega
end Go.Proofs.Ytghekcjmkgajcaa
