/- The six laws of layer 2, walked: each returns true. -/
import Derived.Test.YtcdnmkcnagkkhaaKnown
namespace Go.Proofs.Ytcdnmkcnagkkhaa
open Go.RowKit
attribute [local irreducible] ByteArray.extract ByteArray.toList

theorem add_comm' (a b : Int) : addV a b = addV b a := by unfold addV; rw [Int.add_comm]
theorem mul_comm' (a b : Int) : mulV a b = mulV b a := by unfold mulV; rw [Int.mul_comm]
theorem w64_mod (x : Int) : (wrap64 x) % 18446744073709551616 = x % 18446744073709551616 := by unfold wrap64; omega
theorem w64_of_mod {x y : Int} (h : x % 18446744073709551616 = y % 18446744073709551616) : wrap64 x = wrap64 y := by unfold wrap64; omega
theorem add_assoc' (a b c : Int) : addV (addV a b) c = addV a (addV b c) := by unfold addV; apply w64_of_mod; unfold wrap64; omega
theorem mul_assoc' (a b c : Int) : mulV (mulV a b) c = mulV a (mulV b c) := by
  unfold mulV; apply w64_of_mod
  rw [Int.mul_emod, w64_mod, ← Int.mul_emod, Int.mul_assoc, Int.mul_emod a (wrap64 _), w64_mod, ← Int.mul_emod]
theorem distrib' (a b c : Int) : mulV a (addV b c) = addV (mulV a b) (mulV a c) := by
  unfold mulV addV; apply w64_of_mod
  rw [Int.mul_emod, w64_mod, ← Int.mul_emod, Int.add_emod, w64_mod, w64_mod, ← Int.add_emod, Int.mul_add]
theorem back' (a b : Int) (h1 : -9223372036854775808 ≤ a) (h2 : a ≤ 9223372036854775807) : subV (addV a b) b = a := by unfold subV addV wrap64; omega
theorem neg' (a : Int) : wrap64 (-a) = subV 0 a := by unfold subV; rw [Int.zero_sub]
theorem take' (a b : Int) : addV a (wrap64 (-b)) = subV a b := by unfold addV subV wrap64; omega
theorem one' (a : Int) (h1 : -9223372036854775808 ≤ a) (h2 : a ≤ 9223372036854775807) : mulV a 1 = a := by unfold mulV; rw [Int.mul_one]; unfold wrap64; omega
theorem zero' (a : Int) (h1 : -9223372036854775808 ≤ a) (h2 : a ≤ 9223372036854775807) : addV a 0 = a := by unfold addV wrap64; omega
theorem none' (a : Int) : mulV a 0 = 0 := by unfold mulV; rw [Int.mul_zero]; unfold wrap64; omega
theorem bne_of {x y : Int} (h : x = y) : (x != y) = false := by simp [h]
theorem beq_of {x y : Int} (h : x = y) : (x == y) = true := by simp [h]

set_option maxHeartbeats 3200000 in
set_option maxRecDepth 100000 in
theorem ring_walk (a b c : Int) (ha : -9223372036854775808 ≤ a) (ha' : a ≤ 9223372036854775807) (w : World) : Calls Try.prog 6 #[.int .i64 a, .int .i64 b, .int .i64 c] w (Yes w) := by
  have hb := Below.refl w.heap.size w
  have e1 := bne_of (add_comm' a b)
  have e2 := bne_of (mul_comm' a b)
  have e3 := bne_of (add_assoc' a b c)
  have e4 := bne_of (mul_assoc' a b c)
  have e5 := bne_of (distrib' a b c)
  have e6 := bne_of (back' a b ha ha')
  have e7 := bne_of (neg' a)
  have e8 := bne_of (take' a b)
  have e9 := beq_of (one' a ha ha')
  have e10 := beq_of (zero' a ha ha')
  have e11 := beq_of (none' a)
  go_enter Try.func6, Try.ntmps6
  go_wp2_with fail
  refine (yes_from hb (known_yes _)).mono ?_
  clear hb
  rintro e w1 ⟨rfl, hb⟩
  go_wp2_with fail
  refine (int_from hb (op_add a b _)).mono ?_
  clear hb
  rintro e w1 ⟨rfl, hb⟩
  go_wp2_with fail
  refine (int_from hb (op_add b a _)).mono ?_
  clear hb
  rintro e w1 ⟨rfl, hb⟩
  go_wp2_with fail
  refine (int_from hb (op_mul a b _)).mono ?_
  clear hb
  rintro e w1 ⟨rfl, hb⟩
  go_wp2_with fail
  refine (int_from hb (op_mul b a _)).mono ?_
  clear hb
  rintro e w1 ⟨rfl, hb⟩
  go_wp2_with fail
  refine (int_from hb (op_add a b _)).mono ?_
  clear hb
  rintro e w1 ⟨rfl, hb⟩
  go_wp2_with fail
  refine (int_from hb (op_add (addV a b) c _)).mono ?_
  clear hb
  rintro e w1 ⟨rfl, hb⟩
  go_wp2_with fail
  refine (int_from hb (op_add b c _)).mono ?_
  clear hb
  rintro e w1 ⟨rfl, hb⟩
  go_wp2_with fail
  refine (int_from hb (op_add a (addV b c) _)).mono ?_
  clear hb
  rintro e w1 ⟨rfl, hb⟩
  go_wp2_with fail
  refine (int_from hb (op_mul a b _)).mono ?_
  clear hb
  rintro e w1 ⟨rfl, hb⟩
  go_wp2_with fail
  refine (int_from hb (op_mul (mulV a b) c _)).mono ?_
  clear hb
  rintro e w1 ⟨rfl, hb⟩
  go_wp2_with fail
  refine (int_from hb (op_mul b c _)).mono ?_
  clear hb
  rintro e w1 ⟨rfl, hb⟩
  go_wp2_with fail
  refine (int_from hb (op_mul a (mulV b c) _)).mono ?_
  clear hb
  rintro e w1 ⟨rfl, hb⟩
  go_wp2_with fail
  refine (int_from hb (op_add b c _)).mono ?_
  clear hb
  rintro e w1 ⟨rfl, hb⟩
  go_wp2_with fail
  refine (int_from hb (op_mul a (addV b c) _)).mono ?_
  clear hb
  rintro e w1 ⟨rfl, hb⟩
  go_wp2_with fail
  refine (int_from hb (op_mul a b _)).mono ?_
  clear hb
  rintro e w1 ⟨rfl, hb⟩
  go_wp2_with fail
  refine (int_from hb (op_mul a c _)).mono ?_
  clear hb
  rintro e w1 ⟨rfl, hb⟩
  go_wp2_with fail
  refine (int_from hb (op_add (mulV a b) (mulV a c) _)).mono ?_
  clear hb
  rintro e w1 ⟨rfl, hb⟩
  go_wp2_with fail
  refine (int_from hb (op_add a b _)).mono ?_
  clear hb
  rintro e w1 ⟨rfl, hb⟩
  go_wp2_with fail
  refine (int_from hb (op_sub (addV a b) b _)).mono ?_
  clear hb
  rintro e w1 ⟨rfl, hb⟩
  go_wp2_with fail
  refine (neg_any a _).mono ?_
  rintro e w1 ⟨rfl, rfl⟩
  go_wp2_with fail
  refine (int_from hb (op_sub 0 a _)).mono ?_
  clear hb
  rintro e w1 ⟨rfl, hb⟩
  go_wp2_with fail
  refine (neg_any b _).mono ?_
  rintro e w1 ⟨rfl, rfl⟩
  go_wp2_with fail
  refine (int_from hb (op_add a (wrap64 (-b)) _)).mono ?_
  clear hb
  rintro e w1 ⟨rfl, hb⟩
  go_wp2_with fail
  refine (int_from hb (op_sub a b _)).mono ?_
  clear hb
  rintro e w1 ⟨rfl, hb⟩
  go_wp2_with fail
  refine (int_from hb (op_mul a 1 _)).mono ?_
  clear hb
  rintro e w1 ⟨rfl, hb⟩
  go_wp2_with fail
  refine (int_from hb (op_add a 0 _)).mono ?_
  clear hb
  rintro e w1 ⟨rfl, hb⟩
  go_wp2_with fail
  refine (int_from hb (op_mul a 0 _)).mono ?_
  clear hb
  rintro e w1 ⟨rfl, hb⟩
  go_wp2_with fail
  go_ret
  exact ⟨rfl, hb⟩

theorem do_walk (s : ByteArray) (a b : Int) (ha : -9223372036854775808 ≤ a) (ha' : a ≤ 9223372036854775807) (hb0 : -9223372036854775808 ≤ b) (hb' : b ≤ 9223372036854775807) (w : World) : Calls Try.prog 4 #[.string s, .int .i64 a, .int .i64 b] w (Yes w) := by
  have hb := Below.refl w.heap.size w
  by_cases hs : 10 < s.size
  · have hs' : (10 : Int) < s.size := by omega
    go_enter Try.func4, Try.ntmps4
    go_wp2_with fail
    refine (yes_from hb (awake_yes _)).mono ?_
    clear hb
    rintro e w1 ⟨rfl, hb⟩
    go_wp2_with fail
    go_ret
    exact ⟨rfl, hb⟩
  · have hs' : ¬ (10 : Int) < s.size := by omega
    have e1 := beq_of (rfl : (doV s a b).1 = (doV s a b).1)
    have e2 := beq_of (rfl : (doV s a b).2 = (doV s a b).2)
    have e3 := beq_of (rfl : wrap64 (-a) = wrap64 (-a))
    go_enter Try.func4, Try.ntmps4
    go_wp2_with fail
    refine (two_from hb (do_any s a b _)).mono ?_
    clear hb
    rintro e w1 ⟨rfl, hb⟩
    go_wp2_with fail
    refine (two_from hb (refdo_any s a b _ ha ha' hb0 hb')).mono ?_
    clear hb
    rintro e w1 ⟨rfl, hb⟩
    go_wp2_with fail
    refine (neg_any a _).mono ?_
    rintro e w1 ⟨rfl, rfl⟩
    go_wp2_with fail
    refine (refneg_any a _).mono ?_
    rintro e w1 ⟨rfl, rfl⟩
    go_wp2_with fail
    refine (yes_from hb (awake_yes _)).mono ?_
    clear hb
    rintro e w1 ⟨rfl, hb⟩
    go_wp2_with fail
    go_ret
    exact ⟨rfl, hb⟩

theorem texts_walk (n : Int) (s : ByteArray) (hn : -9223372036854775808 ≤ n) (hn' : n ≤ 9223372036854775807) (hsz : s.size ≤ 140737488351232) (w : World) : Calls Try.prog 3 #[.int .i64 n, .string s] w (Yes w) := by
  have hb := Below.refl w.heap.size w
  by_cases hs : 80 < s.size
  · have hs' : (80 : Int) < s.size := by omega
    go_enter Try.func3, Try.ntmps3
    go_wp2_with fail
    refine (yes_from hb (awake_yes _)).mono ?_
    clear hb
    rintro e w1 ⟨rfl, hb⟩
    go_wp2_with fail
    go_ret
    exact ⟨rfl, hb⟩
  · have hs' : ¬ (80 : Int) < s.size := by omega
    have e1 := beq_of (rfl : (readV s.data.toList).1 = (readV s.data.toList).1)
    have e2 := beq_of (rfl : (readV s.data.toList).2 = (readV s.data.toList).2)
    have e3 : ((sOf (textL n)).toList == (sOf (textL n)).toList) = true := by simp
    go_enter Try.func3, Try.ntmps3
    go_wp2_with fail
    refine (read_any s _ hsz).mono ?_
    rintro e w1 ⟨rfl, rfl⟩
    go_wp2_with fail
    refine (refread_any s _ hsz).mono ?_
    rintro e w1 ⟨rfl, rfl⟩
    go_wp2_with fail
    refine (text_from hb (text_any n _ hn hn')).mono ?_
    clear hb
    rintro e w1 ⟨rfl, hb⟩
    go_wp2_with fail
    refine (text_from hb (reftext_any n _ hn hn')).mono ?_
    clear hb
    rintro e w1 ⟨rfl, hb⟩
    go_wp2_with fail
    refine (yes_from hb (awake_yes _)).mono ?_
    clear hb
    rintro e w1 ⟨rfl, hb⟩
    go_wp2_with fail
    go_ret
    exact ⟨rfl, hb⟩
end Go.Proofs.Ytcdnmkcnagkkhaa
