/- awake, RealsDo, RealsOrder, walked. -/
import Derived.Test.YtghekcjmkgajcaaOrderW
namespace Go.Proofs.Ytghekcjmkgajcaa
open Go.RowKit
attribute [local irreducible] ByteArray.extract ByteArray.toList

set_option maxRecDepth 100000 in
theorem awake_yes (w : World) : Calls Try.prog 6 #[] w (RetB (.bool true) w) := by
  have hb := Below.refl w.heap.size w
  have he : equalV 9223372036854775808 0 = true := by decide +kernel
  have ho : orderV 9223372036854775808 0 = -1 := by decide +kernel
  have hf : canonV (ofIntV 1) = 4607182418800017408 := by decide +kernel
  have hE := Lib.hid he
  have hO := Lib.hid ho
  have hF := Lib.hid hf
  clear he ho hf
  go_enter Try.func6, Try.ntmps6
  go_wp2_with fail
  refine (ret_from hb (does_yes ⟨#[43]⟩ 4607182418800017408 4607182418800017408 4611686018427387904 _ (by decide +kernel))).mono ?_
  clear hb
  rintro e w1 ⟨rfl, hb⟩
  go_wp2_with fail
  refine (ret_from hb (does_yes ⟨#[47]⟩ 4607182418800017408 9223372036854775808 18442240474082181120 _ (by decide +kernel))).mono ?_
  clear hb
  rintro e w1 ⟨rfl, hb⟩
  go_wp2_with fail
  refine (ret_from hb (does_yes ⟨#[47]⟩ 0 0 9221120237041090560 _ (by decide +kernel))).mono ?_
  clear hb
  rintro e w1 ⟨rfl, hb⟩
  go_wp2_with fail
  refine (equal_any 9223372036854775808 0 _).mono ?_
  rintro e w' ⟨rfl, rfl⟩
  rw [hE.out]
  go_wp2_with fail
  refine (ret_from hb (order_any 9223372036854775808 0 (by decide) (by decide) _)).mono ?_
  clear hb
  rintro e w1 ⟨rfl, hb⟩
  rw [hO.out]
  go_wp2_with fail
  refine (ofint_any 1 _).mono ?_
  rintro e w' ⟨rfl, rfl⟩
  rw [hF.out]
  go_wp2_with fail
  go_ret
  exact ⟨rfl, hb⟩

theorem beq_of {x y : Int} (h : x = y) : (x == y) = true := by simp [h]
theorem bne_of {x y : Int} (h : x = y) : (x != y) = false := by simp [h]
theorem below_drewN (w : World) (n : Nat) : Below w.heap.size w (w.drewN n) := (Only.drewN (fun _ => False) w n).below (Nat.le_refl _) (fun _ h => h.elim)

set_option maxRecDepth 100000 in
set_option maxHeartbeats 800000 in
theorem do_walk (s : ByteArray) (a b : Nat) (ha : a < 18446744073709551616) (hb0 : b < 18446744073709551616) (w : World) : Calls Try.prog 4 #[.string s, .int .u64 a, .int .u64 b] w (RetB (.bool true) w) := by
  have H := Lib.hid (do_any s a b)
  have hN := Lib.hid (neg_any a ha)
  have hN' := Lib.hid (refneg_any a ha)
  have hC := Lib.hid (canon_any a)
  have hC' := Lib.hid (refcanon_any a ha)
  have hO := Lib.hid (order_any a b ha hb0)
  have hO' := Lib.hid (reforder_any a b ha hb0)
  have e1 := beq_of (rfl : ((doV s a b).1 : Int) = ((doV s a b).1 : Int))
  have e2 := beq_of (rfl : (doV s a b).2 = (doV s a b).2)
  have e3 := beq_of (rfl : ((negV a : Nat) : Int) = ((negV a : Nat) : Int))
  have e4 := beq_of (rfl : ((canonV a : Nat) : Int) = ((canonV a : Nat) : Int))
  have e5 := beq_of (rfl : orderV a b = orderV a b)
  have e6 : (lessV a b == lessV a b) = true := by simp
  have e7 : (equalV a b == equalV a b) = true := by simp
  clear ha hb0
  have hb := Below.refl w.heap.size w
  go_enter Try.func4, Try.ntmps4
  go_wp2_with fail
  refine (H.out _).1.mono ?_
  rintro e w1 ⟨rfl, n1, rfl⟩
  go_wp2_with fail
  refine (H.out _).2.mono ?_
  rintro e w1 ⟨rfl, n2, rfl⟩
  have hb := below_drewN w (n1 + n2)
  go_wp2_with fail
  refine (hN.out _).mono ?_
  rintro e w' ⟨rfl, rfl⟩
  go_wp2_with fail
  refine (hN'.out _).mono ?_
  rintro e w' ⟨rfl, rfl⟩
  go_wp2_with fail
  refine (hC.out _).mono ?_
  rintro e w' ⟨rfl, rfl⟩
  go_wp2_with fail
  refine (hC'.out _).mono ?_
  rintro e w' ⟨rfl, rfl⟩
  go_wp2_with fail
  refine (less_any a b _).mono ?_
  rintro e w' ⟨rfl, rfl⟩
  go_wp2_with fail
  refine (refless_any a b _).mono ?_
  rintro e w' ⟨rfl, rfl⟩
  go_wp2_with fail
  refine (equal_any a b _).mono ?_
  rintro e w' ⟨rfl, rfl⟩
  go_wp2_with fail
  refine (refequal_any a b _).mono ?_
  rintro e w' ⟨rfl, rfl⟩
  go_wp2_with fail
  refine (ret_from hb (hO.out _)).mono ?_
  clear hb
  rintro e w1 ⟨rfl, hb⟩
  go_wp2_with fail
  refine (hO'.out _).mono ?_
  rintro e w' ⟨rfl, rfl⟩
  go_wp2_with fail
  refine (ret_from hb (awake_yes _)).mono ?_
  clear hb
  rintro e w1 ⟨rfl, hb⟩
  go_wp2_with fail
  go_ret
  exact ⟨rfl, hb⟩

/-! ### RealsOrder -/
theorem cmp_cases (x y : Int) : (x < y ∧ cmpV x y = -1) ∨ (x = y ∧ cmpV x y = 0) ∨ (y < x ∧ cmpV x y = 1) := by
  unfold cmpV
  rcases Int.lt_trichotomy x y with h | h | h
  · exact .inl ⟨h, if_pos h⟩
  · exact .inr (.inl ⟨h, by rw [if_neg (by omega), if_neg (by omega)]⟩)
  · exact .inr (.inr ⟨h, by rw [if_neg (by omega), if_pos h]⟩)
/-- What the law asks of the three orders, by the ranks. -/
theorem order_bd (a b : Nat) : -1 ≤ orderV a b ∧ orderV a b ≤ 1 := by
  unfold orderV; rcases cmp_cases (rankV a) (rankV b) with h | h | h <;> omega
theorem order_anti (a b : Nat) : orderV a b = -orderV b a := by
  unfold orderV; rcases cmp_cases (rankV a) (rankV b) with h | h | h <;> rcases cmp_cases (rankV b) (rankV a) with k | k | k <;> omega
theorem rank_inj (a b : Nat) (ha : a < 18446744073709551616) (hb : b < 18446744073709551616) : rankV a = rankV b ↔ canonV a = canonV b := by
  have h1 := canon_lt a ha
  have h2 := canon_lt b hb
  unfold rankV
  generalize canonV a = x at *
  generalize canonV b = y at *
  constructor
  · intro h
    split at h <;> split at h <;> omega
  · intro h; subst h; rfl
theorem order_zero (a b : Nat) (ha : a < 18446744073709551616) (hb : b < 18446744073709551616) : orderV a b = 0 ↔ canonV a = canonV b := by
  rw [← rank_inj a b ha hb]
  unfold orderV; rcases cmp_cases (rankV a) (rankV b) with h | h | h <;> omega
theorem order_trans (a b c : Nat) (h1 : orderV a b < 0) (h2 : orderV b c < 0) : orderV a c < 0 := by
  unfold orderV at *
  rcases cmp_cases (rankV a) (rankV b) with h | h | h <;> rcases cmp_cases (rankV b) (rankV c) with k | k | k <;> rcases cmp_cases (rankV a) (rankV c) with l | l | l <;> omega
/-- The rank of what is no NaN, and its key. -/
theorem rank_num (a : Nat) (ha : a < 18446744073709551616) (hn : isNan a = false) : (rung a = 0 ∧ key a = 0 ∧ (rankV a = 0 ∨ rankV a = -1)) ∨ (0 < rung a ∧ 0 < key a ∧ rankV a = key a) ∨ (0 < rung a ∧ key a < 0 ∧ rankV a = key a - 1) := by
  have hc := canon_not a hn
  unfold rankV
  rw [hc]
  rcases Nat.lt_or_ge a 9223372036854775808 with h | h
  · have hk := key_pos a h
    have hr : rung a = a := by unfold rung; exact Nat.mod_eq_of_lt h
    rw [if_neg (by omega), hr, hk]
    rcases Nat.eq_zero_or_pos a with h0 | h0
    · left; omega
    · right; left; omega
  · have hk := key_neg a h ha
    have hr : rung a = a - 9223372036854775808 := by unfold rung; omega
    rw [if_pos h, hr, hk]
    rcases Nat.eq_zero_or_pos (a - 9223372036854775808) with h0 | h0
    · left; omega
    · right; right; omega
theorem rank_nan (a : Nat) (hn : isNan a = true) : rankV a = 9221120237041090560 := by
  unfold rankV; rw [canon_nan a hn]; rfl
theorem rank_le (a : Nat) (ha : a < 18446744073709551616) (hn : isNan a = false) : rankV a < 9221120237041090560 := by
  unfold rankV; rw [canon_not a hn]
  rcases canon_cases a ha with ⟨_, h⟩ | ⟨_, _, h⟩
  · rw [hn] at h; cases h
  · split <;> omega
end Go.Proofs.Ytghekcjmkgajcaa
