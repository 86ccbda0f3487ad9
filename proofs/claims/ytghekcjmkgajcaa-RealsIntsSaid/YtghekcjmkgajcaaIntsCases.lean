/- RealsInts, walked: its cases one by one. -/
import Derived.Test.YtghekcjmkgajcaaIntsW
namespace Go.Proofs.Ytghekcjmkgajcaa
open Go.RowKit
attribute [local irreducible] ByteArray.extract ByteArray.toList
attribute [local irreducible] orderV lessV equalV doV wordI
theorem abs_a (m : Int) (h0 : -9223372036854775808 ≤ m) (h1 : m ≤ 9223372036854775807) : (m / 274877906944).natAbs ≤ 67108864 ∧ (m / 1024).natAbs ≤ 9007199254740992 := by omega
theorem mul_a (a b : Int) (ha : a.natAbs ≤ 67108864) (hb : b.natAbs ≤ 67108864) : -9223372036854775808 ≤ a * b ∧ a * b ≤ 9223372036854775807 := by
  have hm : (a * b).natAbs ≤ 67108864 * 67108864 := by rw [Int.natAbs_mul]; exact Nat.mul_le_mul ha hb
  omega
set_option maxRecDepth 100000 in
set_option maxHeartbeats 800000 in
theorem ints_l0 (m n : Int) (hm0 : -9223372036854775808 ≤ m) (hm1 : m ≤ 9223372036854775807) (hn0 : -9223372036854775808 ≤ n) (hn1 : n ≤ 9223372036854775807) (hl : m < n) (z : (m / 274877906944) = 0) (w : World) : Calls Try.prog 5 #[.int .i64 m, .int .i64 n] w (RetB (.bool true) w) := by
  have hb := Below.refl w.heap.size w
  have tl : decide (m < n) = true := decide_eq_true hl
  have tz : ((m / 274877906944) != 0) = false := bne_of z
  have LE := Lib.hid (less_w (m / 274877906944) (n / 274877906944) (abs_a m hm0 hm1).1 (abs_a n hn0 hn1).1)
  have TA := Lib.hid (to_yes (m / 274877906944) (Nat.le_trans (abs_a m hm0 hm1).1 (by decide)))
  have TC := Lib.hid (to_yes (m / 1024) (abs_a m hm0 hm1).2)
  have OR := Lib.hid (order_w m n hm0 hm1 hn0 hn1 hl)
  clear z hl
  go_enter Try.func5, Try.ntmps5
  go_wp2_with fail
  refine (ret_from hb (awake_yes _)).mono ?_
  clear hb
  rintro e w1 ⟨rfl, hb⟩
  go_wp2_with fail
  refine (ofint_w m (by omega) (by omega) _).mono ?_
  rintro e w' ⟨rfl, rfl⟩
  go_wp2_with fail
  refine (ofint_w n (by omega) (by omega) _).mono ?_
  rintro e w' ⟨rfl, rfl⟩
  go_wp2_with fail
  refine (ret_from hb (order_any _ _ (wordI_lt m (log_abs m hm0 hm1)) (wordI_lt n (log_abs n hn0 hn1)) _)).mono ?_
  clear hb
  rintro e w1 ⟨rfl, hb⟩
  have OR' := OR.out
  go_wp2_with fail
  refine (ofint_w (m / 274877906944) (by omega) (by omega) _).mono ?_
  rintro e w' ⟨rfl, rfl⟩
  go_wp2_with fail
  refine (ofint_w (n / 274877906944) (by omega) (by omega) _).mono ?_
  rintro e w' ⟨rfl, rfl⟩
  go_wp2_with fail
  refine (TA.out _).mono ?_
  rintro e w' ⟨rfl, rfl⟩
  go_wp2_with fail
  refine (ofint_w (m / 1024) (by omega) (by omega) _).mono ?_
  rintro e w' ⟨rfl, rfl⟩
  go_wp2_with fail
  refine (TC.out _).mono ?_
  rintro e w' ⟨rfl, rfl⟩
  go_wp2_with fail
  refine (less_any _ _ _).mono ?_
  rintro e w' ⟨rfl, rfl⟩
  rw [LE.out.1]
  have tt := beq_self_eq_true (decide ((m / 274877906944) < (n / 274877906944)))
  go_wp2_with fail
  refine (equal_any _ _ _).mono ?_
  rintro e w' ⟨rfl, rfl⟩
  rw [LE.out.2]
  have tu := beq_self_eq_true ((m / 274877906944) == (n / 274877906944))
  go_wp2_with fail
  go_ret
  exact ⟨rfl, hb⟩
set_option maxRecDepth 100000 in
set_option maxHeartbeats 800000 in
theorem ints_l1 (m n : Int) (hm0 : -9223372036854775808 ≤ m) (hm1 : m ≤ 9223372036854775807) (hn0 : -9223372036854775808 ≤ n) (hn1 : n ≤ 9223372036854775807) (hl : m < n) (z : (m / 274877906944) ≠ 0) (z' : (n / 274877906944) = 0) (w : World) : Calls Try.prog 5 #[.int .i64 m, .int .i64 n] w (RetB (.bool true) w) := by
  have hb := Below.refl w.heap.size w
  have tl : decide (m < n) = true := decide_eq_true hl
  have tz : ((m / 274877906944) != 0) = true := bne_iff_ne.2 z
  have tz' : ((n / 274877906944) != 0) = false := bne_of z'
  have LE := Lib.hid (less_w (m / 274877906944) (n / 274877906944) (abs_a m hm0 hm1).1 (abs_a n hn0 hn1).1)
  have TA := Lib.hid (to_yes (m / 274877906944) (Nat.le_trans (abs_a m hm0 hm1).1 (by decide)))
  have TC := Lib.hid (to_yes (m / 1024) (abs_a m hm0 hm1).2)
  have OR := Lib.hid (order_w m n hm0 hm1 hn0 hn1 hl)
  clear z hl z'
  go_enter Try.func5, Try.ntmps5
  go_wp2_with fail
  refine (ret_from hb (awake_yes _)).mono ?_
  clear hb
  rintro e w1 ⟨rfl, hb⟩
  go_wp2_with fail
  refine (ofint_w m (by omega) (by omega) _).mono ?_
  rintro e w' ⟨rfl, rfl⟩
  go_wp2_with fail
  refine (ofint_w n (by omega) (by omega) _).mono ?_
  rintro e w' ⟨rfl, rfl⟩
  go_wp2_with fail
  refine (ret_from hb (order_any _ _ (wordI_lt m (log_abs m hm0 hm1)) (wordI_lt n (log_abs n hn0 hn1)) _)).mono ?_
  clear hb
  rintro e w1 ⟨rfl, hb⟩
  have OR' := OR.out
  go_wp2_with fail
  refine (ofint_w (m / 274877906944) (by omega) (by omega) _).mono ?_
  rintro e w' ⟨rfl, rfl⟩
  go_wp2_with fail
  refine (ofint_w (n / 274877906944) (by omega) (by omega) _).mono ?_
  rintro e w' ⟨rfl, rfl⟩
  go_wp2_with fail
  refine (TA.out _).mono ?_
  rintro e w' ⟨rfl, rfl⟩
  go_wp2_with fail
  refine (ofint_w (m / 1024) (by omega) (by omega) _).mono ?_
  rintro e w' ⟨rfl, rfl⟩
  go_wp2_with fail
  refine (TC.out _).mono ?_
  rintro e w' ⟨rfl, rfl⟩
  go_wp2_with fail
  refine (less_any _ _ _).mono ?_
  rintro e w' ⟨rfl, rfl⟩
  rw [LE.out.1]
  have tt := beq_self_eq_true (decide ((m / 274877906944) < (n / 274877906944)))
  go_wp2_with fail
  refine (equal_any _ _ _).mono ?_
  rintro e w' ⟨rfl, rfl⟩
  rw [LE.out.2]
  have tu := beq_self_eq_true ((m / 274877906944) == (n / 274877906944))
  go_wp2_with fail
  go_ret
  exact ⟨rfl, hb⟩
set_option maxRecDepth 100000 in
set_option maxHeartbeats 800000 in
theorem ints_l2 (m n : Int) (hm0 : -9223372036854775808 ≤ m) (hm1 : m ≤ 9223372036854775807) (hn0 : -9223372036854775808 ≤ n) (hn1 : n ≤ 9223372036854775807) (hl : m < n) (z : (m / 274877906944) ≠ 0) (z' : (n / 274877906944) ≠ 0) (w : World) : Calls Try.prog 5 #[.int .i64 m, .int .i64 n] w (RetB (.bool true) w) := by
  have hb := Below.refl w.heap.size w
  have tl : decide (m < n) = true := decide_eq_true hl
  have tz : ((m / 274877906944) != 0) = true := bne_iff_ne.2 z
  have tz' : ((n / 274877906944) != 0) = true := bne_iff_ne.2 z'
  have LE := Lib.hid (less_w (m / 274877906944) (n / 274877906944) (abs_a m hm0 hm1).1 (abs_a n hn0 hn1).1)
  have TA := Lib.hid (to_yes (m / 274877906944) (Nat.le_trans (abs_a m hm0 hm1).1 (by decide)))
  have TC := Lib.hid (to_yes (m / 1024) (abs_a m hm0 hm1).2)
  have OR := Lib.hid (order_w m n hm0 hm1 hn0 hn1 hl)
  have DA := Lib.hid (does_add (m / 274877906944) (n / 274877906944) (abs_a m hm0 hm1).1 (abs_a n hn0 hn1).1 z z')
  have DS := Lib.hid (does_sub (m / 274877906944) (n / 274877906944) (abs_a m hm0 hm1).1 (abs_a n hn0 hn1).1 z z')
  have DM := Lib.hid (does_mul (m / 274877906944) (n / 274877906944) (abs_a m hm0 hm1).1 (abs_a n hn0 hn1).1 z z')
  have ⟨q0, q1⟩ := mul_a (m / 274877906944) (n / 274877906944) (abs_a m hm0 hm1).1 (abs_a n hn0 hn1).1
  have p0 : -9223372036854775808 ≤ (m / 274877906944) + (n / 274877906944) := by omega
  have p1 : (m / 274877906944) + (n / 274877906944) ≤ 9223372036854775807 := by omega
  have r0 : -9223372036854775808 ≤ (m / 274877906944) - (n / 274877906944) := by omega
  have r1 : (m / 274877906944) - (n / 274877906944) ≤ 9223372036854775807 := by omega
  clear z hl z'
  go_enter Try.func5, Try.ntmps5
  go_wp2_with fail
  refine (ret_from hb (awake_yes _)).mono ?_
  clear hb
  rintro e w1 ⟨rfl, hb⟩
  go_wp2_with fail
  refine (ofint_w m (by omega) (by omega) _).mono ?_
  rintro e w' ⟨rfl, rfl⟩
  go_wp2_with fail
  refine (ofint_w n (by omega) (by omega) _).mono ?_
  rintro e w' ⟨rfl, rfl⟩
  go_wp2_with fail
  refine (ret_from hb (order_any _ _ (wordI_lt m (log_abs m hm0 hm1)) (wordI_lt n (log_abs n hn0 hn1)) _)).mono ?_
  clear hb
  rintro e w1 ⟨rfl, hb⟩
  have OR' := OR.out
  go_wp2_with fail
  refine (ofint_w (m / 274877906944) (by omega) (by omega) _).mono ?_
  rintro e w' ⟨rfl, rfl⟩
  go_wp2_with fail
  refine (ofint_w (n / 274877906944) (by omega) (by omega) _).mono ?_
  rintro e w' ⟨rfl, rfl⟩
  go_wp2_with fail
  refine (TA.out _).mono ?_
  rintro e w' ⟨rfl, rfl⟩
  go_wp2_with fail
  refine (ofint_w (m / 1024) (by omega) (by omega) _).mono ?_
  rintro e w' ⟨rfl, rfl⟩
  go_wp2_with fail
  refine (TC.out _).mono ?_
  rintro e w' ⟨rfl, rfl⟩
  go_wp2_with fail
  refine (ofint_w ((m / 274877906944) + (n / 274877906944)) (by omega) (by omega) _).mono ?_
  rintro e w' ⟨rfl, rfl⟩
  go_wp2_with fail
  refine (ret_from hb (does_yes ⟨#[43]⟩ _ _ _ _ DA.out)).mono ?_
  clear hb
  rintro e w1 ⟨rfl, hb⟩
  go_wp2_with fail
  refine (ofint_w ((m / 274877906944) - (n / 274877906944)) (by omega) (by omega) _).mono ?_
  rintro e w' ⟨rfl, rfl⟩
  go_wp2_with fail
  refine (ret_from hb (does_yes ⟨#[45]⟩ _ _ _ _ DS.out)).mono ?_
  clear hb
  rintro e w1 ⟨rfl, hb⟩
  go_wp2_with fail
  refine (ofint_w ((m / 274877906944) * (n / 274877906944)) q0 q1 _).mono ?_
  rintro e w' ⟨rfl, rfl⟩
  go_wp2_with fail
  refine (ret_from hb (does_yes ⟨#[42]⟩ _ _ _ _ DM.out)).mono ?_
  clear hb
  rintro e w1 ⟨rfl, hb⟩
  go_wp2_with fail
  refine (less_any _ _ _).mono ?_
  rintro e w' ⟨rfl, rfl⟩
  rw [LE.out.1]
  have tt := beq_self_eq_true (decide ((m / 274877906944) < (n / 274877906944)))
  go_wp2_with fail
  refine (equal_any _ _ _).mono ?_
  rintro e w' ⟨rfl, rfl⟩
  rw [LE.out.2]
  have tu := beq_self_eq_true ((m / 274877906944) == (n / 274877906944))
  go_wp2_with fail
  go_ret
  exact ⟨rfl, hb⟩
set_option maxRecDepth 100000 in
set_option maxHeartbeats 800000 in
theorem ints_g0 (m n : Int) (hm0 : -9223372036854775808 ≤ m) (hm1 : m ≤ 9223372036854775807) (hn0 : -9223372036854775808 ≤ n) (hn1 : n ≤ 9223372036854775807) (hl : ¬ m < n) (z : (m / 274877906944) = 0) (w : World) : Calls Try.prog 5 #[.int .i64 m, .int .i64 n] w (RetB (.bool true) w) := by
  have hb := Below.refl w.heap.size w
  have tl : decide (m < n) = false := decide_eq_false hl
  have tz : ((m / 274877906944) != 0) = false := bne_of z
  have LE := Lib.hid (less_w (m / 274877906944) (n / 274877906944) (abs_a m hm0 hm1).1 (abs_a n hn0 hn1).1)
  have TA := Lib.hid (to_yes (m / 274877906944) (Nat.le_trans (abs_a m hm0 hm1).1 (by decide)))
  have TC := Lib.hid (to_yes (m / 1024) (abs_a m hm0 hm1).2)
  clear z hl
  go_enter Try.func5, Try.ntmps5
  go_wp2_with fail
  refine (ret_from hb (awake_yes _)).mono ?_
  clear hb
  rintro e w1 ⟨rfl, hb⟩
  go_wp2_with fail
  refine (ofint_w (m / 274877906944) (by omega) (by omega) _).mono ?_
  rintro e w' ⟨rfl, rfl⟩
  go_wp2_with fail
  refine (ofint_w (n / 274877906944) (by omega) (by omega) _).mono ?_
  rintro e w' ⟨rfl, rfl⟩
  go_wp2_with fail
  refine (TA.out _).mono ?_
  rintro e w' ⟨rfl, rfl⟩
  go_wp2_with fail
  refine (ofint_w (m / 1024) (by omega) (by omega) _).mono ?_
  rintro e w' ⟨rfl, rfl⟩
  go_wp2_with fail
  refine (TC.out _).mono ?_
  rintro e w' ⟨rfl, rfl⟩
  go_wp2_with fail
  refine (less_any _ _ _).mono ?_
  rintro e w' ⟨rfl, rfl⟩
  rw [LE.out.1]
  have tt := beq_self_eq_true (decide ((m / 274877906944) < (n / 274877906944)))
  go_wp2_with fail
  refine (equal_any _ _ _).mono ?_
  rintro e w' ⟨rfl, rfl⟩
  rw [LE.out.2]
  have tu := beq_self_eq_true ((m / 274877906944) == (n / 274877906944))
  go_wp2_with fail
  go_ret
  exact ⟨rfl, hb⟩
set_option maxRecDepth 100000 in
set_option maxHeartbeats 800000 in
theorem ints_g1 (m n : Int) (hm0 : -9223372036854775808 ≤ m) (hm1 : m ≤ 9223372036854775807) (hn0 : -9223372036854775808 ≤ n) (hn1 : n ≤ 9223372036854775807) (hl : ¬ m < n) (z : (m / 274877906944) ≠ 0) (z' : (n / 274877906944) = 0) (w : World) : Calls Try.prog 5 #[.int .i64 m, .int .i64 n] w (RetB (.bool true) w) := by
  have hb := Below.refl w.heap.size w
  have tl : decide (m < n) = false := decide_eq_false hl
  have tz : ((m / 274877906944) != 0) = true := bne_iff_ne.2 z
  have tz' : ((n / 274877906944) != 0) = false := bne_of z'
  have LE := Lib.hid (less_w (m / 274877906944) (n / 274877906944) (abs_a m hm0 hm1).1 (abs_a n hn0 hn1).1)
  have TA := Lib.hid (to_yes (m / 274877906944) (Nat.le_trans (abs_a m hm0 hm1).1 (by decide)))
  have TC := Lib.hid (to_yes (m / 1024) (abs_a m hm0 hm1).2)
  clear z hl z'
  go_enter Try.func5, Try.ntmps5
  go_wp2_with fail
  refine (ret_from hb (awake_yes _)).mono ?_
  clear hb
  rintro e w1 ⟨rfl, hb⟩
  go_wp2_with fail
  refine (ofint_w (m / 274877906944) (by omega) (by omega) _).mono ?_
  rintro e w' ⟨rfl, rfl⟩
  go_wp2_with fail
  refine (ofint_w (n / 274877906944) (by omega) (by omega) _).mono ?_
  rintro e w' ⟨rfl, rfl⟩
  go_wp2_with fail
  refine (TA.out _).mono ?_
  rintro e w' ⟨rfl, rfl⟩
  go_wp2_with fail
  refine (ofint_w (m / 1024) (by omega) (by omega) _).mono ?_
  rintro e w' ⟨rfl, rfl⟩
  go_wp2_with fail
  refine (TC.out _).mono ?_
  rintro e w' ⟨rfl, rfl⟩
  go_wp2_with fail
  refine (less_any _ _ _).mono ?_
  rintro e w' ⟨rfl, rfl⟩
  rw [LE.out.1]
  have tt := beq_self_eq_true (decide ((m / 274877906944) < (n / 274877906944)))
  go_wp2_with fail
  refine (equal_any _ _ _).mono ?_
  rintro e w' ⟨rfl, rfl⟩
  rw [LE.out.2]
  have tu := beq_self_eq_true ((m / 274877906944) == (n / 274877906944))
  go_wp2_with fail
  go_ret
  exact ⟨rfl, hb⟩
set_option maxRecDepth 100000 in
set_option maxHeartbeats 800000 in
theorem ints_g2 (m n : Int) (hm0 : -9223372036854775808 ≤ m) (hm1 : m ≤ 9223372036854775807) (hn0 : -9223372036854775808 ≤ n) (hn1 : n ≤ 9223372036854775807) (hl : ¬ m < n) (z : (m / 274877906944) ≠ 0) (z' : (n / 274877906944) ≠ 0) (w : World) : Calls Try.prog 5 #[.int .i64 m, .int .i64 n] w (RetB (.bool true) w) := by
  have hb := Below.refl w.heap.size w
  have tl : decide (m < n) = false := decide_eq_false hl
  have tz : ((m / 274877906944) != 0) = true := bne_iff_ne.2 z
  have tz' : ((n / 274877906944) != 0) = true := bne_iff_ne.2 z'
  have LE := Lib.hid (less_w (m / 274877906944) (n / 274877906944) (abs_a m hm0 hm1).1 (abs_a n hn0 hn1).1)
  have TA := Lib.hid (to_yes (m / 274877906944) (Nat.le_trans (abs_a m hm0 hm1).1 (by decide)))
  have TC := Lib.hid (to_yes (m / 1024) (abs_a m hm0 hm1).2)
  have DA := Lib.hid (does_add (m / 274877906944) (n / 274877906944) (abs_a m hm0 hm1).1 (abs_a n hn0 hn1).1 z z')
  have DS := Lib.hid (does_sub (m / 274877906944) (n / 274877906944) (abs_a m hm0 hm1).1 (abs_a n hn0 hn1).1 z z')
  have DM := Lib.hid (does_mul (m / 274877906944) (n / 274877906944) (abs_a m hm0 hm1).1 (abs_a n hn0 hn1).1 z z')
  have ⟨q0, q1⟩ := mul_a (m / 274877906944) (n / 274877906944) (abs_a m hm0 hm1).1 (abs_a n hn0 hn1).1
  have p0 : -9223372036854775808 ≤ (m / 274877906944) + (n / 274877906944) := by omega
  have p1 : (m / 274877906944) + (n / 274877906944) ≤ 9223372036854775807 := by omega
  have r0 : -9223372036854775808 ≤ (m / 274877906944) - (n / 274877906944) := by omega
  have r1 : (m / 274877906944) - (n / 274877906944) ≤ 9223372036854775807 := by omega
  clear z hl z'
  go_enter Try.func5, Try.ntmps5
  go_wp2_with fail
  refine (ret_from hb (awake_yes _)).mono ?_
  clear hb
  rintro e w1 ⟨rfl, hb⟩
  go_wp2_with fail
  refine (ofint_w (m / 274877906944) (by omega) (by omega) _).mono ?_
  rintro e w' ⟨rfl, rfl⟩
  go_wp2_with fail
  refine (ofint_w (n / 274877906944) (by omega) (by omega) _).mono ?_
  rintro e w' ⟨rfl, rfl⟩
  go_wp2_with fail
  refine (TA.out _).mono ?_
  rintro e w' ⟨rfl, rfl⟩
  go_wp2_with fail
  refine (ofint_w (m / 1024) (by omega) (by omega) _).mono ?_
  rintro e w' ⟨rfl, rfl⟩
  go_wp2_with fail
  refine (TC.out _).mono ?_
  rintro e w' ⟨rfl, rfl⟩
  go_wp2_with fail
  refine (ofint_w ((m / 274877906944) + (n / 274877906944)) (by omega) (by omega) _).mono ?_
  rintro e w' ⟨rfl, rfl⟩
  go_wp2_with fail
  refine (ret_from hb (does_yes ⟨#[43]⟩ _ _ _ _ DA.out)).mono ?_
  clear hb
  rintro e w1 ⟨rfl, hb⟩
  go_wp2_with fail
  refine (ofint_w ((m / 274877906944) - (n / 274877906944)) (by omega) (by omega) _).mono ?_
  rintro e w' ⟨rfl, rfl⟩
  go_wp2_with fail
  refine (ret_from hb (does_yes ⟨#[45]⟩ _ _ _ _ DS.out)).mono ?_
  clear hb
  rintro e w1 ⟨rfl, hb⟩
  go_wp2_with fail
  refine (ofint_w ((m / 274877906944) * (n / 274877906944)) q0 q1 _).mono ?_
  rintro e w' ⟨rfl, rfl⟩
  go_wp2_with fail
  refine (ret_from hb (does_yes ⟨#[42]⟩ _ _ _ _ DM.out)).mono ?_
  clear hb
  rintro e w1 ⟨rfl, hb⟩
  go_wp2_with fail
  refine (less_any _ _ _).mono ?_
  rintro e w' ⟨rfl, rfl⟩
  rw [LE.out.1]
  have tt := beq_self_eq_true (decide ((m / 274877906944) < (n / 274877906944)))
  go_wp2_with fail
  refine (equal_any _ _ _).mono ?_
  rintro e w' ⟨rfl, rfl⟩
  rw [LE.out.2]
  have tu := beq_self_eq_true ((m / 274877906944) == (n / 274877906944))
  go_wp2_with fail
  go_ret
  exact ⟨rfl, hb⟩
theorem ints_walk (m n : Int) (hm0 : -9223372036854775808 ≤ m) (hm1 : m ≤ 9223372036854775807) (hn0 : -9223372036854775808 ≤ n) (hn1 : n ≤ 9223372036854775807) (w : World) : Calls Try.prog 5 #[.int .i64 m, .int .i64 n] w (RetB (.bool true) w) := by
  by_cases hl : m < n <;> by_cases z : (m / 274877906944) = 0
  · exact ints_l0 m n hm0 hm1 hn0 hn1 hl z w
  · by_cases z' : (n / 274877906944) = 0
    · exact ints_l1 m n hm0 hm1 hn0 hn1 hl z z' w
    · exact ints_l2 m n hm0 hm1 hn0 hn1 hl z z' w
  · exact ints_g0 m n hm0 hm1 hn0 hn1 hl z w
  · by_cases z' : (n / 274877906944) = 0
    · exact ints_g1 m n hm0 hm1 hn0 hn1 hl z z' w
    · exact ints_g2 m n hm0 hm1 hn0 hn1 hl z z' w
end Go.Proofs.Ytghekcjmkgajcaa

