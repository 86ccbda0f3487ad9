/- reals.of, Canon, Less, Equal, Neg, Order's parts, and the reference's, walked. -/
import Derived.Test.YtghekcjmkgajcaaProg
import Derived.Test.YtghekcjmkgajcaaPure
import Derived.WalkKit
import Derived.WalkLawsBesides
import Derived.KernelRfl
import Derived.Lib.Hide
namespace Go.Proofs.Ytghekcjmkgajcaa
open Go.RowKit

theorem run_frombits (a : Nat) (w : World) : (callFunc 35 #[.int .u64 a]).run Try.prog w = .ok (.value (.float .f64 a)) w := by
  have h := fun (n : Int) (w : World) => (show (callFunc 35 #[.int .u64 n]).run Try.prog w = .ok (.value (.float .f64 n.toNat)) w by kernel_rfl)
  exact h a w
theorem run_bits (a : Nat) (w : World) : (callFunc 36 #[.float .f64 a]).run Try.prog w = .ok (.value (.int .u64 a)) w := by
  have h := fun (n : Nat) (w : World) => (show (callFunc 36 #[.float .f64 n]).run Try.prog w = .ok (.value (.int .u64 n)) w by kernel_rfl)
  exact h a w

def canonV (a : Nat) : Nat := if isNan a then 9221120237041090560 else a
def flip (a : Nat) : Nat := if a < 9223372036854775808 then a + 9223372036854775808 else a - 9223372036854775808
def lessV (a b : Nat) : Bool := FloatKind.f64.format.order a b == some .lt
def equalV (a b : Nat) : Bool := FloatKind.f64.format.order a b == some .eq
def negV (a : Nat) : Nat := if isNan a then 9221120237041090560 else flip a

theorem band (a : Nat) (h : a < 18446744073709551616) : bits .and .u64 a 9223372036854775807 = (rung a : Int) := by
  have := bits_mask .u64 64 (by decide) (fun n h0 h1 => by rw [IntKind.wrap_u64]; omega) 63 (by decide) (a : Int) (by omega) (by omega)
  have e : ((2 : Int) ^ 63 - 1) = 9223372036854775807 := by decide
  rw [e] at this
  rw [this]; unfold rung; omega
theorem xor_top (x : Nat) (h : x < 9223372036854775808) : x ^^^ 9223372036854775808 = 9223372036854775808 + x := by
  have e63 : (9223372036854775808 : Nat) = 2 ^ 63 := by decide
  rw [e63] at h ⊢
  apply Nat.eq_of_testBit_eq
  intro i
  rw [Nat.testBit_xor]
  rcases Nat.lt_trichotomy i 63 with k | k | k
  · rw [Nat.testBit_two_pow_add_gt k, Nat.testBit_two_pow_of_ne (by omega)]; simp
  · subst k; rw [Nat.testBit_two_pow_add_eq, Nat.testBit_two_pow_self]; simp
  · have h1 : x < 2 ^ i := Nat.lt_trans h (Nat.pow_lt_pow_right (by omega) k)
    have h2 : 2 ^ 63 + x < 2 ^ i := Nat.lt_of_lt_of_le (show 2 ^ 63 + x < 2 ^ 64 by omega) (Nat.pow_le_pow_right (by omega) k)
    rw [Nat.testBit_lt_two_pow h1, Nat.testBit_lt_two_pow h2, Nat.testBit_two_pow_of_ne (by omega)]; rfl
theorem bxor (a : Nat) (h : a < 18446744073709551616) : bits .xor .u64 a 9223372036854775808 = (flip a : Int) := by
  have h1 := bits_xor_u64_nat a 9223372036854775808 h (by omega)
  have e : ((9223372036854775808 : Nat) : Int) = 9223372036854775808 := rfl
  rw [e] at h1
  rw [h1]
  congr 1
  unfold flip
  by_cases hl : a < 9223372036854775808
  · rw [if_pos hl, xor_top a hl]; omega
  · rw [if_neg hl]
    obtain ⟨x, rfl⟩ : ∃ x, a = 9223372036854775808 + x := ⟨a - 9223372036854775808, by omega⟩
    rw [← xor_top x (by omega), Nat.xor_assoc, Nat.xor_self, Nat.xor_zero, xor_top x (by omega)]; omega
theorem flip_lt (a : Nat) (h : a < 18446744073709551616) : flip a < 18446744073709551616 := by unfold flip; split <;> omega
theorem canon_lt (a : Nat) (h : a < 18446744073709551616) : canonV a < 18446744073709551616 := by unfold canonV; split <;> omega
theorem neg_lt (a : Nat) (h : a < 18446744073709551616) : negV a < 18446744073709551616 := by unfold negV; split; omega; exact flip_lt a h
theorem order_self (a : Nat) : (FloatKind.f64.format.order a a != some Ordering.eq) = isNan a := by
  show (Ieee.double.order a a != some Ordering.eq) = isNan a
  rw [order_eq]
  cases h : isNan a
  · have : compare (key a) (key a) = .eq := by simp [compare, compareOfLessAndEq]
    rw [this]; rfl
  · rfl

def Ret (v : Value) (w : World) (e : Ending) (w' : World) : Prop := e = .returned v ∧ w = w'

theorem of_any (a : Nat) (w : World) : Calls Try.prog 25 #[.int .u64 a] w (Ret (.float .f64 a) w) := by
  have h := run_frombits a
  go_enter Try.func25, Try.ntmps25
  go_wp2
  go_ret
  exact ⟨rfl, rfl⟩
theorem reff_any (a : Nat) (w : World) : Calls Try.prog 31 #[.int .u64 a] w (Ret (.float .f64 a) w) := by
  have h := run_frombits a
  go_enter Try.func31, Try.ntmps31
  go_wp2
  go_ret
  exact ⟨rfl, rfl⟩
theorem canon_any (a : Nat) (w : World) : Calls Try.prog 8 #[.int .u64 a] w (Ret (.int .u64 (canonV a : Nat)) w) := by
  have h := run_frombits a
  have hn := order_self a
  unfold canonV
  cases hc : isNan a
  all_goals
    rw [hc] at hn
    clear hc
    go_enter Try.func8, Try.ntmps8
    go_wp2
    go_ret
    exact ⟨rfl, rfl⟩
theorem number_any (a : Nat) (ha : a < 18446744073709551616) (w : World) : Calls Try.prog 9 #[.int .u64 a] w (Ret (.bool (!isNan a)) w) := by
  have h := band a ha
  have hn : (!isNan a) = decide ((rung a : Int) ≤ 9218868437227405312) := by unfold isNan; rw [Bool.eq_iff_iff]; simp; omega
  have HN := Lib.hid hn
  clear hn
  go_enter Try.func9, Try.ntmps9
  go_wp2
  go_ret
  rw [HN.out]
  exact ⟨rfl, rfl⟩
theorem refcanon_any (a : Nat) (ha : a < 18446744073709551616) (w : World) : Calls Try.prog 16 #[.int .u64 a] w (Ret (.int .u64 (canonV a : Nat)) w) := by
  have h := band a ha
  unfold canonV
  cases hc : isNan a
  · have hr : ¬ (9218868437227405312 : Int) < (rung a : Int) := by unfold isNan at hc; simp at hc; omega
    clear hc
    go_enter Try.func16, Try.ntmps16
    go_wp2
    go_ret
    exact ⟨rfl, rfl⟩
  · have hr : (9218868437227405312 : Int) < (rung a : Int) := by unfold isNan at hc; simp at hc; omega
    clear hc
    go_enter Try.func16, Try.ntmps16
    go_wp2
    go_ret
    exact ⟨rfl, rfl⟩
theorem less_any (a b : Nat) (w : World) : Calls Try.prog 10 #[.int .u64 a, .int .u64 b] w (Ret (.bool (lessV a b)) w) := by
  have h1 := run_frombits a
  have h2 := run_frombits b
  go_enter Try.func10, Try.ntmps10
  go_wp2
  go_ret
  exact ⟨rfl, rfl⟩
theorem equal_any (a b : Nat) (w : World) : Calls Try.prog 11 #[.int .u64 a, .int .u64 b] w (Ret (.bool (equalV a b)) w) := by
  have h1 := run_frombits a
  have h2 := run_frombits b
  go_enter Try.func11, Try.ntmps11
  go_wp2
  go_ret
  exact ⟨rfl, rfl⟩
theorem refless_any (a b : Nat) (w : World) : Calls Try.prog 17 #[.int .u64 a, .int .u64 b] w (Ret (.bool (lessV a b)) w) := by
  have h1 := run_frombits a
  have h2 := run_frombits b
  go_enter Try.func17, Try.ntmps17
  go_wp2
  go_ret
  exact ⟨rfl, rfl⟩
theorem refequal_any (a b : Nat) (w : World) : Calls Try.prog 18 #[.int .u64 a, .int .u64 b] w (Ret (.bool (equalV a b)) w) := by
  have h1 := run_frombits a
  have h2 := run_frombits b
  go_enter Try.func18, Try.ntmps18
  go_wp2
  go_ret
  exact ⟨rfl, rfl⟩
/-- Canon and the turned sign: NaN just if it was one. -/
theorem nan_flip (a : Nat) (h : a < 18446744073709551616) : isNan (flip a) = isNan a := by
  unfold isNan flip rung
  congr 1
  split <;> simp <;> omega
theorem canon_not (a : Nat) (h : isNan a = false) : canonV a = a := by unfold canonV; rw [h]; rfl
theorem canon_nan (a : Nat) (h : isNan a = true) : canonV a = 9221120237041090560 := by unfold canonV; rw [h]; rfl
theorem nan_is (a : Nat) (h : isNan a = false) : ¬ a = 9221120237041090560 := by intro e; subst e; revert h; decide +kernel
theorem neg_any (a : Nat) (ha : a < 18446744073709551616) (w : World) : Calls Try.prog 14 #[.int .u64 a] w (Ret (.int .u64 (negV a : Nat)) w) := by
  have hx := bxor a ha
  unfold negV
  cases hc : isNan a
  · have h1 := canon_any a
    rw [canon_not a hc] at h1
    have hne : ((a : Int) == 9221120237041090560) = false := beq_eq_false_iff_ne.2 (by have := nan_is a hc; omega)
    have H1 := Lib.hid h1
    clear hc h1
    go_enter Try.func14, Try.ntmps14
    go_wp2_with fail
    refine (H1.out _).mono ?_
    rintro e w' ⟨rfl, rfl⟩
    go_wp2_with fail
    go_ret
    exact ⟨rfl, rfl⟩
  · have h1 := canon_any a
    rw [canon_nan a hc] at h1
    have H1 := Lib.hid h1
    clear hc h1
    go_enter Try.func14, Try.ntmps14
    go_wp2_with fail
    refine (H1.out _).mono ?_
    rintro e w' ⟨rfl, rfl⟩
    go_wp2_with fail
    go_ret
    exact ⟨rfl, rfl⟩
theorem refneg_any (a : Nat) (ha : a < 18446744073709551616) (w : World) : Calls Try.prog 15 #[.int .u64 a] w (Ret (.int .u64 (negV a : Nat)) w) := by
  have hx := bxor a ha
  have h1 := refcanon_any (flip a) (flip_lt a ha)
  have e : canonV (flip a) = negV a := by unfold canonV negV; rw [nan_flip a ha]
  rw [e] at h1
  have H1 := Lib.hid h1
  clear h1 e
  go_enter Try.func15, Try.ntmps15
  go_wp2_with fail
  refine (H1.out _).mono ?_
  rintro e w' ⟨rfl, rfl⟩
  go_wp2_with fail
  go_ret
  exact ⟨rfl, rfl⟩
end Go.Proofs.Ytghekcjmkgajcaa
