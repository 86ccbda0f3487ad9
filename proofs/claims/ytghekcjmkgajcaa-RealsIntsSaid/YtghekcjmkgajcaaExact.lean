/- Doubles: what is written exactly, and that rounding rises. No Go. -/
import Derived.Test.YtghekcjmkgajcaaPure
namespace Go.Proofs.Ytghekcjmkgajcaa
open Ieee

theorem mg_at (e k : Nat) (hk : k ≤ 9007199254740992) (h : 4503599627370496 ≤ k ∨ e = 0) : mg (e * 4503599627370496 + k) = k * 2 ^ e := by
  unfold mg
  by_cases h1 : e * 4503599627370496 + k < 4503599627370496
  · have he : e = 0 := by omega
    subst he
    rw [if_pos h1]; simp
  · rw [if_neg h1]
    by_cases h2 : k = 9007199254740992
    · subst h2
      have e1 : (e * 4503599627370496 + 9007199254740992) % 4503599627370496 = 0 := by omega
      have e2 : (e * 4503599627370496 + 9007199254740992) / 4503599627370496 - 1 = e + 1 := by omega
      rw [e1, e2, Nat.pow_succ]
      generalize 2 ^ e = P
      omega
    · by_cases h3 : 4503599627370496 ≤ k
      · have e1 : (e * 4503599627370496 + k) % 4503599627370496 = k - 4503599627370496 := by omega
        have e2 : (e * 4503599627370496 + k) / 4503599627370496 - 1 = e := by omega
        rw [e1, e2, show 4503599627370496 + (k - 4503599627370496) = k by omega]
      · have he : e = 0 := by omega
        subst he; omega

theorem rung_split (r : Nat) : ∃ e k, r = e * 4503599627370496 + k ∧ k < 9007199254740992 ∧ (4503599627370496 ≤ k ∨ e = 0) := by
  by_cases h : r < 9007199254740992
  · exact ⟨0, r, by omega, h, .inr rfl⟩
  · exact ⟨r / 4503599627370496 - 1, r - (r / 4503599627370496 - 1) * 4503599627370496, by omega, by omega, .inl (by omega)⟩

theorem shiftL (n d : Nat) : n <<< d = n * 2 ^ d := Nat.shiftLeft_eq n d

/-- What has room is cut exactly. -/
theorem cut_exact (way : Toward) (neg : Bool) (k d : Nat) (hk : k ≠ 0) : way.cut neg (k * 2 ^ d) d = k := by
  have hp := Nat.two_pow_pos d
  have hne : k * 2 ^ d ≠ 0 := Nat.mul_ne_zero hk (by omega)
  have hl : d ≤ (k * 2 ^ d).log2 := (Nat.le_log2 hne).2 (Nat.le_mul_of_pos_left _ (Nat.pos_of_ne_zero hk))
  unfold Toward.cut
  have hg : 1 <<< min d ((k * 2 ^ d).log2 + 2) = 2 ^ d := by
    rw [Nat.min_eq_left (by omega), shiftL, Nat.one_mul]
  simp only [hg, Nat.mul_div_cancel k hp, Nat.mul_mod_left]
  cases way
  · have h1 : decide (2 ^ d < 2 * 0) = false := decide_eq_false (by omega)
    have h2 : (2 ^ d == 2 * 0) = false := beq_eq_false_iff_ne.2 (by omega)
    rw [h1, h2]; rfl
  · simp
  · simp
  · simp
theorem cut_none (way : Toward) (neg : Bool) (n : Nat) : way.cut neg n 0 = n := by
  by_cases h : n = 0
  · subst h; cases way <;> cases neg <;> rfl
  · have := cut_exact way neg n 0 h
    simpa using this

theorem log_eq {n : Nat} (h0 : n ≠ 0) : 2 ^ n.log2 ≤ n ∧ n < 2 ^ (n.log2 + 1) :=
  ⟨(Nat.le_log2 h0).1 (Nat.le_refl _), (Nat.log2_lt h0).1 (Nat.lt_succ_self _)⟩
theorem pow_cmp {a b : Nat} (h : 2 ^ a < 2 ^ b) : a < b := (Nat.pow_lt_pow_iff_right (by omega)).1 h

theorem fmt_frac : Ieee.double.fractionBits = 52 := rfl

theorem log_of {m p k e : Nat} (hm : m ≠ 0) (h : m * 2 ^ p = k * 2 ^ e) (hk : k < 9007199254740992) : m.log2 + p < 53 + e := by
  have ⟨h1, _⟩ := log_eq hm
  apply pow_cmp
  calc 2 ^ (m.log2 + p) = 2 ^ m.log2 * 2 ^ p := Nat.pow_add ..
    _ ≤ m * 2 ^ p := Nat.mul_le_mul_right _ h1
    _ = k * 2 ^ e := h
    _ < 2 ^ 53 * 2 ^ e := Nat.mul_lt_mul_of_pos_right (by omega) (Nat.two_pow_pos _)
    _ = 2 ^ (53 + e) := (Nat.pow_add ..).symm
theorem log_of' {m p k e : Nat} (hm : m ≠ 0) (h : m * 2 ^ p = k * 2 ^ e) (hk : 4503599627370496 ≤ k) : 52 + e < m.log2 + 1 + p := by
  have ⟨_, h2⟩ := log_eq hm
  apply pow_cmp
  calc 2 ^ (52 + e) = 2 ^ 52 * 2 ^ e := Nat.pow_add ..
    _ ≤ k * 2 ^ e := Nat.mul_le_mul_right _ (by omega)
    _ = m * 2 ^ p := h.symm
    _ < 2 ^ (m.log2 + 1) * 2 ^ p := Nat.mul_lt_mul_of_pos_right h2 (Nat.two_pow_pos _)
    _ = 2 ^ (m.log2 + 1 + p) := (Nat.pow_add ..).symm

/-- A number that the format has is written as it is. -/
theorem nearest_exact (neg : Bool) (m p r : Nat) (hr : r < 9218868437227405312) (hm : m ≠ 0) (h : m * 2 ^ p = mg r) :
    double.nearest neg m (-1074 + (p : Int)) = double.word neg r := by
  obtain ⟨e, k, hre, hk, hke⟩ := rung_split r
  have hmg := mg_at e k (by omega) hke
  rw [← hre] at hmg
  rw [hmg] at h
  have hk0 : k ≠ 0 := by
    intro hz; rw [hz, Nat.zero_mul] at h
    exact (Nat.mul_ne_zero hm (Nat.pos_iff_ne_zero.1 (Nat.two_pow_pos p))) h
  have hl1 := log_of hm h hk
  have hlast : max (-1074 + (p : Int) + (m.log2 : Int) - (52 : Nat)) (-1074) = -1074 + (e : Int) := by
    rcases hke with h2 | h2
    · have := log_of' hm h h2
      omega
    · omega
  unfold Format.nearest
  rw [if_neg hm, fmt_frac, fmt_least, fmt_bin, fmt_inf]
  dsimp only
  rw [hlast]
  have t1 : (-1074 + (p : Int) - (-1074 + (e : Int))).toNat = p - e := by omega
  have t2 : (-1074 + (e : Int) - (-1074 + (p : Int))).toNat = e - p := by omega
  have t3 : (-1074 + (e : Int) - (-1074)).toNat = e := by omega
  rw [t1, t2, t3]
  have hcut : Toward.even.cut neg (m <<< (p - e)) (e - p) = k := by
    rcases Nat.le_total e p with hep | hep
    · rw [show e - p = 0 by omega, cut_none, shiftL]
      have : m * 2 ^ (p - e) * 2 ^ e = k * 2 ^ e := by rw [Nat.mul_assoc, ← Nat.pow_add, show p - e + e = p by omega, h]
      exact Nat.eq_of_mul_eq_mul_right (Nat.two_pow_pos e) this
    · rw [show p - e = 0 by omega, shiftL, Nat.pow_zero, Nat.mul_one]
      have : m * 2 ^ p = (k * 2 ^ (e - p)) * 2 ^ p := by rw [Nat.mul_assoc, ← Nat.pow_add, show e - p + p = e by omega, h]
      rw [Nat.eq_of_mul_eq_mul_right (Nat.two_pow_pos p) this]
      exact cut_exact _ _ _ _ hk0
  rw [hcut, ← hre, Nat.min_eq_left (by omega)]

/-! ### The rung of a whole number -/
def halfE (n g : Nat) : Nat := n / g + (decide (g < 2 * (n % g)) || (g == 2 * (n % g) && n / g % 2 == 1)).toNat
theorem half_lo (n g : Nat) : n / g ≤ halfE n g := by unfold halfE; omega
theorem half_hi (n g : Nat) : halfE n g ≤ n / g + 1 := by
  unfold halfE
  have : ∀ b : Bool, b.toNat ≤ 1 := fun b => by cases b <;> decide
  have := this (decide (g < 2 * (n % g)) || (g == 2 * (n % g) && n / g % 2 == 1))
  omega
theorem half_mono {m n g : Nat} (h : m ≤ n) : halfE m g ≤ halfE n g := by
  have hq : m / g ≤ n / g := Nat.div_le_div_right h
  rcases Nat.lt_or_ge (m / g) (n / g) with k | k
  · have := half_hi m g; have := half_lo n g; omega
  · have e : m / g = n / g := by omega
    have hr : m % g ≤ n % g := by
      have h1 := Nat.div_add_mod m g
      have h2 := Nat.div_add_mod n g
      rw [e] at h1; omega
    unfold halfE
    rw [e]
    apply Nat.add_le_add_left
    by_cases c1 : g < 2 * (n % g)
    · rw [decide_eq_true c1]
      have : ∀ b : Bool, b.toNat ≤ 1 := fun b => by cases b <;> decide
      exact this _
    · rw [decide_eq_false c1, decide_eq_false (show ¬ g < 2 * (m % g) by omega), Bool.false_or, Bool.false_or]
      by_cases c2 : g = 2 * (m % g)
      · have c3 : g = 2 * (n % g) := by omega
        rw [beq_iff_eq.2 c2, beq_iff_eq.2 c3]; exact Nat.le_refl _
      · rw [beq_eq_false_iff_ne.2 c2]; simp

def keptN (n : Nat) : Nat := if n.log2 ≤ 52 then n * 2 ^ (52 - n.log2) else halfE n (2 ^ (n.log2 - 52))
def rungN (n : Nat) : Nat := if n = 0 then 0 else (n.log2 + 1022) * 4503599627370496 + keptN n

theorem kept_lo (n : Nat) (h0 : n ≠ 0) : 4503599627370496 ≤ keptN n := by
  have ⟨h1, _⟩ := log_eq h0
  unfold keptN
  split
  · calc 4503599627370496 = 2 ^ (n.log2 + (52 - n.log2)) := by rw [show n.log2 + (52 - n.log2) = 52 by omega]
      _ = 2 ^ n.log2 * 2 ^ (52 - n.log2) := Nat.pow_add ..
      _ ≤ n * 2 ^ (52 - n.log2) := Nat.mul_le_mul_right _ h1
  · refine Nat.le_trans ?_ (half_lo _ _)
    rw [Nat.le_div_iff_mul_le (Nat.two_pow_pos _)]
    calc 4503599627370496 * 2 ^ (n.log2 - 52) = 2 ^ (52 + (n.log2 - 52)) := (Nat.pow_add 2 52 _).symm
      _ = 2 ^ n.log2 := by rw [show 52 + (n.log2 - 52) = n.log2 by omega]
      _ ≤ n := h1
theorem kept_hi (n : Nat) (h0 : n ≠ 0) : keptN n ≤ 9007199254740992 := by
  have ⟨_, h2⟩ := log_eq h0
  unfold keptN
  split
  · calc n * 2 ^ (52 - n.log2) ≤ 2 ^ (n.log2 + 1) * 2 ^ (52 - n.log2) := Nat.mul_le_mul_right _ (by omega)
      _ = 2 ^ (n.log2 + 1 + (52 - n.log2)) := (Nat.pow_add ..).symm
      _ = 9007199254740992 := by rw [show n.log2 + 1 + (52 - n.log2) = 53 by omega]
  · refine Nat.le_trans (half_hi _ _) ?_
    have : n / 2 ^ (n.log2 - 52) < 9007199254740992 := by
      rw [Nat.div_lt_iff_lt_mul (Nat.two_pow_pos _)]
      calc n < 2 ^ (n.log2 + 1) := h2
        _ = 2 ^ (53 + (n.log2 - 52)) := by rw [show 53 + (n.log2 - 52) = n.log2 + 1 by omega]
        _ = 9007199254740992 * 2 ^ (n.log2 - 52) := Nat.pow_add 2 53 _
    omega

theorem rungN_mono {m n : Nat} (h : m ≤ n) : rungN m ≤ rungN n := by
  unfold rungN
  by_cases h0 : m = 0
  · rw [if_pos h0]; exact Nat.zero_le _
  · have h0' : n ≠ 0 := by omega
    rw [if_neg h0, if_neg h0']
    have ⟨a1, a2⟩ := log_eq h0
    have ⟨b1, b2⟩ := log_eq h0'
    have hl : m.log2 < n.log2 + 1 := pow_cmp (by omega)
    rcases Nat.lt_or_ge m.log2 n.log2 with k | k
    · have := kept_hi m h0
      have := kept_lo n h0'
      omega
    · have e : m.log2 = n.log2 := by omega
      have : keptN m ≤ keptN n := by
        unfold keptN
        rw [e]
        split
        · exact Nat.mul_le_mul_right _ h
        · exact half_mono h
      rw [e]; omega

theorem rungN_lt (n : Nat) (h : n.log2 < 64) : rungN n < 9218868437227405312 := by
  unfold rungN
  split
  · omega
  · have := kept_hi n (by assumption); omega

theorem cut_half (neg : Bool) (n d : Nat) (h : d ≤ n.log2 + 2) : Toward.even.cut neg n d = halfE n (2 ^ d) := by
  unfold Toward.cut halfE
  rw [Nat.min_eq_left h, shiftL, Nat.one_mul]
theorem nearest_int (neg : Bool) (n : Nat) (hn : n.log2 < 64) : double.nearest neg n 0 = double.word neg (rungN n) := by
  by_cases h0 : n = 0
  · subst h0; unfold Format.nearest rungN; rw [if_pos rfl, if_pos rfl]
  have hlt := rungN_lt n hn
  have hr : rungN n = (n.log2 + 1022) * 4503599627370496 + keptN n := by unfold rungN; rw [if_neg h0]
  unfold Format.nearest
  rw [if_neg h0, fmt_frac, fmt_least, fmt_bin, fmt_inf]
  dsimp only
  have hlast : max ((0 : Int) + (n.log2 : Int) - (52 : Nat)) (-1074) = (n.log2 : Int) - 52 := by omega
  rw [hlast]
  have t1 : ((0 : Int) - ((n.log2 : Int) - 52)).toNat = 52 - n.log2 := by omega
  have t2 : ((n.log2 : Int) - 52 - 0).toNat = n.log2 - 52 := by omega
  have t3 : ((n.log2 : Int) - 52 - (-1074)).toNat = n.log2 + 1022 := by omega
  rw [t1, t2, t3]
  have hcut : Toward.even.cut neg (n <<< (52 - n.log2)) (n.log2 - 52) = keptN n := by
    unfold keptN
    split
    · rename_i hle
      rw [show n.log2 - 52 = 0 by omega, cut_none, shiftL]
    · rename_i hle
      rw [show 52 - n.log2 = 0 by omega, shiftL, Nat.pow_zero, Nat.mul_one]
      exact cut_half _ _ _ (by omega)
  rw [hcut, ← hr, Nat.min_eq_left (by omega)]


set_option exponentiation.threshold 2000 in
theorem rungN_exact (n : Nat) (h : n ≤ 9007199254740992) : mg (rungN n) = n * 2 ^ 1074 := by
  by_cases h0 : n = 0
  · subst h0; unfold rungN; rw [if_pos rfl, mg_zero, Nat.zero_mul]
  have hlg : n.log2 < 54 := (Nat.log2_lt h0).2 (by omega)
  have hr : rungN n = (n.log2 + 1022) * 4503599627370496 + keptN n := by unfold rungN; rw [if_neg h0]
  rw [hr, mg_at _ _ (kept_hi n h0) (.inl (kept_lo n h0))]
  have hk : keptN n * 2 ^ (n.log2 + 1022) = n * 2 ^ 1074 := by
    unfold keptN
    split
    · have e : 52 - n.log2 + (n.log2 + 1022) = 1074 := by omega
      rw [Nat.mul_assoc, ← Nat.pow_add, e]
    · have h53 : n.log2 = 53 := by omega
      have ⟨a1, _⟩ := log_eq h0
      rw [h53] at a1
      have hn : n = 9007199254740992 := by omega
      have : halfE n (2 ^ (n.log2 - 52)) = 4503599627370496 := by rw [h53, hn]; decide +kernel
      rw [this, h53, hn, show (53 + 1022) = 1 + 1074 by rfl, Nat.pow_add, ← Nat.mul_assoc]
  exact hk
end Go.Proofs.Ytghekcjmkgajcaa
