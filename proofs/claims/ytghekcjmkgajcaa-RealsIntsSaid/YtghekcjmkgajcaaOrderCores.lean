/- RealsOrder, walked. -/
import Derived.Test.YtghekcjmkgajcaaLaws
namespace Go.Proofs.Ytghekcjmkgajcaa
open Go.RowKit

/-- What the law's tests come to, by the numbers alone. -/
structure Facts (n n' : Int) (zc : Bool) (na nb la lb eq : Bool) (ra rb : Int) : Prop where
  bd : n = -1 ∨ n = 0 ∨ n = 1
  anti : n = -n'
  canon : ((n == 0) != zc) = false
  nan : (na && nb) = false → la = false ∧ eq = false ∧ (na == decide (n < 0)) = true
  same : na = true → nb = true → eq = true → la = false ∧ lb = false ∧ (n = 0 ∨ (ra = 0 ∧ rb = 0))
  less : na = true → nb = true → eq = false → (la == decide (n < 0)) = true ∧ (lb == decide (0 < n)) = true

theorem facts (a b : Nat) (ha : a < 18446744073709551616) (hb : b < 18446744073709551616) :
    Facts (orderV a b) (orderV b a) (((canonV a : Nat) : Int) == ((canonV b : Nat) : Int)) (!isNan a) (!isNan b) (lessV a b) (lessV b a) (equalV a b) (rung a) (rung b) := by
  have h1 := order_bd a b
  have h2 := order_anti a b
  have h3 := order_zero a b ha hb
  refine ⟨by omega, h2, ?_, ?_, ?_, ?_⟩
  · by_cases h : orderV a b = 0
    · have := h3.1 h; rw [h, this]; simp
    · have h' : ¬ canonV a = canonV b := fun k => h (h3.2 k)
      have e1 : (orderV a b == 0) = false := beq_eq_false_iff_ne.2 h
      have e2 : (((canonV a : Nat) : Int) == ((canonV b : Nat) : Int)) = false := beq_eq_false_iff_ne.2 (by omega)
      rw [e1, e2]; rfl
  · intro h
    rw [less_key, equal_key]
    cases hna : isNan a <;> cases hnb : isNan b <;> simp [hna, hnb] at h ⊢
    · have r1 := rank_le a ha hna
      have r2 := rank_nan b hnb
      unfold orderV; rcases cmp_cases (rankV a) (rankV b) with k | k | k <;> omega
    · have r1 := rank_nan a hna
      have r2 := rank_le b hb hnb
      unfold orderV; rcases cmp_cases (rankV a) (rankV b) with k | k | k <;> omega
    · have r1 := rank_nan a hna
      have r2 := rank_nan b hnb
      unfold orderV; rcases cmp_cases (rankV a) (rankV b) with k | k | k <;> omega
  · intro hna hnb he
    have hna' : isNan a = false := by simpa using hna
    have hnb' : isNan b = false := by simpa using hnb
    rw [equal_key, hna', hnb'] at he
    simp at he
    rw [less_key, less_key, hna', hnb']
    refine ⟨by simp; omega, by simp; omega, ?_⟩
    have r1 := rank_num a ha hna'
    have r2 := rank_num b hb hnb'
    unfold orderV; rcases cmp_cases (rankV a) (rankV b) with k | k | k <;> omega
  · intro hna hnb he
    have hna' : isNan a = false := by simpa using hna
    have hnb' : isNan b = false := by simpa using hnb
    rw [equal_key, hna', hnb'] at he
    simp at he
    rw [less_key, less_key, hna', hnb']
    have r1 := rank_num a ha hna'
    have r2 := rank_num b hb hnb'
    simp only [Bool.not_false, Bool.true_and, beq_iff_eq, decide_eq_decide]
    unfold orderV; rcases cmp_cases (rankV a) (rankV b) with k | k | k <;> omega

set_option maxRecDepth 100000 in
set_option maxHeartbeats 1600000 in
theorem core0 (a b c : Nat) (w : World) (x y : Int)
    (hab : Hid (∀ w, Calls Try.prog 7 #[.int .u64 a, .int .u64 b] w (RetB (.int .i64 0) w)))
    (hba : Hid (∀ w, Calls Try.prog 7 #[.int .u64 b, .int .u64 a] w (RetB (.int .i64 0) w)))
    (hca : Hid (∀ w, Calls Try.prog 8 #[.int .u64 a] w (Ret (.int .u64 x) w)))
    (hcb : Hid (∀ w, Calls Try.prog 8 #[.int .u64 b] w (Ret (.int .u64 y) w)))
    (hnx : Hid (∀ w, Calls Try.prog 9 #[.int .u64 a] w (Ret (.bool false) w)))
    (heq : Hid (∀ w, Calls Try.prog 11 #[.int .u64 a, .int .u64 b] w (Ret (.bool false) w)))
    (hla : Hid (∀ w, Calls Try.prog 10 #[.int .u64 a, .int .u64 b] w (Ret (.bool false) w)))
    (hxy : (x == y) = true) :
    Calls Try.prog 3 #[.int .u64 a, .int .u64 b, .int .u64 c] w (RetB (.bool true) w) := by
  have hb := Below.refl w.heap.size w
  go_enter Try.func3, Try.ntmps3
  go_wp2_with (first | (go_at_call 6; refine (ret_from hb (awake_yes _)).mono ?_; clear hb; rintro e w1 ⟨rfl, hb⟩) | (go_at_call 7; (with_reducible refine (ret_from hb (hab.out _)).mono ?_); clear hb; rintro e w1 ⟨rfl, hb⟩) | (go_at_call 7; (with_reducible refine (ret_from hb (hba.out _)).mono ?_); clear hb; rintro e w1 ⟨rfl, hb⟩) | (go_at_call 8; (with_reducible refine (hca.out _).mono ?_); rintro e w' ⟨rfl, rfl⟩) | (go_at_call 8; (with_reducible refine (hcb.out _).mono ?_); rintro e w' ⟨rfl, rfl⟩) | (go_at_call 9; (with_reducible refine (hnx.out _).mono ?_); rintro e w' ⟨rfl, rfl⟩) | (go_at_call 11; (with_reducible refine (heq.out _).mono ?_); rintro e w' ⟨rfl, rfl⟩) | (go_at_call 10; (with_reducible refine (hla.out _).mono ?_); rintro e w' ⟨rfl, rfl⟩))
  go_ret
  exact ⟨rfl, hb⟩
set_option maxRecDepth 100000 in
set_option maxHeartbeats 1600000 in
theorem core1 (a b c : Nat) (w : World) (x y : Int)
    (hab : Hid (∀ w, Calls Try.prog 7 #[.int .u64 a, .int .u64 b] w (RetB (.int .i64 0) w)))
    (hba : Hid (∀ w, Calls Try.prog 7 #[.int .u64 b, .int .u64 a] w (RetB (.int .i64 0) w)))
    (hca : Hid (∀ w, Calls Try.prog 8 #[.int .u64 a] w (Ret (.int .u64 x) w)))
    (hcb : Hid (∀ w, Calls Try.prog 8 #[.int .u64 b] w (Ret (.int .u64 y) w)))
    (hnx : Hid (∀ w, Calls Try.prog 9 #[.int .u64 a] w (Ret (.bool false) w)))
    (heq : Hid (∀ w, Calls Try.prog 11 #[.int .u64 a, .int .u64 b] w (Ret (.bool false) w)))
    (hla : Hid (∀ w, Calls Try.prog 10 #[.int .u64 a, .int .u64 b] w (Ret (.bool false) w)))
    (hxy : (x == y) = true) :
    Calls Try.prog 3 #[.int .u64 a, .int .u64 b, .int .u64 c] w (RetB (.bool true) w) := by
  have hb := Below.refl w.heap.size w
  go_enter Try.func3, Try.ntmps3
  go_wp2_with (first | (go_at_call 6; refine (ret_from hb (awake_yes _)).mono ?_; clear hb; rintro e w1 ⟨rfl, hb⟩) | (go_at_call 7; (with_reducible refine (ret_from hb (hab.out _)).mono ?_); clear hb; rintro e w1 ⟨rfl, hb⟩) | (go_at_call 7; (with_reducible refine (ret_from hb (hba.out _)).mono ?_); clear hb; rintro e w1 ⟨rfl, hb⟩) | (go_at_call 8; (with_reducible refine (hca.out _).mono ?_); rintro e w' ⟨rfl, rfl⟩) | (go_at_call 8; (with_reducible refine (hcb.out _).mono ?_); rintro e w' ⟨rfl, rfl⟩) | (go_at_call 9; (with_reducible refine (hnx.out _).mono ?_); rintro e w' ⟨rfl, rfl⟩) | (go_at_call 11; (with_reducible refine (heq.out _).mono ?_); rintro e w' ⟨rfl, rfl⟩) | (go_at_call 10; (with_reducible refine (hla.out _).mono ?_); rintro e w' ⟨rfl, rfl⟩))
  go_ret
  exact ⟨rfl, hb⟩
set_option maxRecDepth 100000 in
set_option maxHeartbeats 1600000 in
theorem core2 (a b c : Nat) (w : World) (x y : Int)
    (hab : Hid (∀ w, Calls Try.prog 7 #[.int .u64 a, .int .u64 b] w (RetB (.int .i64 0) w)))
    (hba : Hid (∀ w, Calls Try.prog 7 #[.int .u64 b, .int .u64 a] w (RetB (.int .i64 0) w)))
    (hca : Hid (∀ w, Calls Try.prog 8 #[.int .u64 a] w (Ret (.int .u64 x) w)))
    (hcb : Hid (∀ w, Calls Try.prog 8 #[.int .u64 b] w (Ret (.int .u64 y) w)))
    (hnx : Hid (∀ w, Calls Try.prog 9 #[.int .u64 a] w (Ret (.bool true) w)))
    (hny : Hid (∀ w, Calls Try.prog 9 #[.int .u64 b] w (Ret (.bool true) w)))
    (heq : Hid (∀ w, Calls Try.prog 11 #[.int .u64 a, .int .u64 b] w (Ret (.bool true) w)))
    (hla : Hid (∀ w, Calls Try.prog 10 #[.int .u64 a, .int .u64 b] w (Ret (.bool false) w)))
    (hlb : Hid (∀ w, Calls Try.prog 10 #[.int .u64 b, .int .u64 a] w (Ret (.bool false) w)))
    (hxy : (x == y) = true) :
    Calls Try.prog 3 #[.int .u64 a, .int .u64 b, .int .u64 c] w (RetB (.bool true) w) := by
  have hb := Below.refl w.heap.size w
  go_enter Try.func3, Try.ntmps3
  go_wp2_with (first | (go_at_call 6; refine (ret_from hb (awake_yes _)).mono ?_; clear hb; rintro e w1 ⟨rfl, hb⟩) | (go_at_call 7; (with_reducible refine (ret_from hb (hab.out _)).mono ?_); clear hb; rintro e w1 ⟨rfl, hb⟩) | (go_at_call 7; (with_reducible refine (ret_from hb (hba.out _)).mono ?_); clear hb; rintro e w1 ⟨rfl, hb⟩) | (go_at_call 8; (with_reducible refine (hca.out _).mono ?_); rintro e w' ⟨rfl, rfl⟩) | (go_at_call 8; (with_reducible refine (hcb.out _).mono ?_); rintro e w' ⟨rfl, rfl⟩) | (go_at_call 9; (with_reducible refine (hnx.out _).mono ?_); rintro e w' ⟨rfl, rfl⟩) | (go_at_call 9; (with_reducible refine (hny.out _).mono ?_); rintro e w' ⟨rfl, rfl⟩) | (go_at_call 11; (with_reducible refine (heq.out _).mono ?_); rintro e w' ⟨rfl, rfl⟩) | (go_at_call 10; (with_reducible refine (hla.out _).mono ?_); rintro e w' ⟨rfl, rfl⟩) | (go_at_call 10; (with_reducible refine (hlb.out _).mono ?_); rintro e w' ⟨rfl, rfl⟩))
  go_ret
  exact ⟨rfl, hb⟩
set_option maxRecDepth 100000 in
set_option maxHeartbeats 1600000 in
theorem core3 (a b c : Nat) (w : World) (x y : Int)
    (hab : Hid (∀ w, Calls Try.prog 7 #[.int .u64 a, .int .u64 b] w (RetB (.int .i64 0) w)))
    (hba : Hid (∀ w, Calls Try.prog 7 #[.int .u64 b, .int .u64 a] w (RetB (.int .i64 0) w)))
    (hca : Hid (∀ w, Calls Try.prog 8 #[.int .u64 a] w (Ret (.int .u64 x) w)))
    (hcb : Hid (∀ w, Calls Try.prog 8 #[.int .u64 b] w (Ret (.int .u64 y) w)))
    (hnx : Hid (∀ w, Calls Try.prog 9 #[.int .u64 a] w (Ret (.bool true) w)))
    (hny : Hid (∀ w, Calls Try.prog 9 #[.int .u64 b] w (Ret (.bool true) w)))
    (heq : Hid (∀ w, Calls Try.prog 11 #[.int .u64 a, .int .u64 b] w (Ret (.bool false) w)))
    (hla : Hid (∀ w, Calls Try.prog 10 #[.int .u64 a, .int .u64 b] w (Ret (.bool false) w)))
    (hlb : Hid (∀ w, Calls Try.prog 10 #[.int .u64 b, .int .u64 a] w (Ret (.bool false) w)))
    (hxy : (x == y) = true) :
    Calls Try.prog 3 #[.int .u64 a, .int .u64 b, .int .u64 c] w (RetB (.bool true) w) := by
  have hb := Below.refl w.heap.size w
  go_enter Try.func3, Try.ntmps3
  go_wp2_with (first | (go_at_call 6; refine (ret_from hb (awake_yes _)).mono ?_; clear hb; rintro e w1 ⟨rfl, hb⟩) | (go_at_call 7; (with_reducible refine (ret_from hb (hab.out _)).mono ?_); clear hb; rintro e w1 ⟨rfl, hb⟩) | (go_at_call 7; (with_reducible refine (ret_from hb (hba.out _)).mono ?_); clear hb; rintro e w1 ⟨rfl, hb⟩) | (go_at_call 8; (with_reducible refine (hca.out _).mono ?_); rintro e w' ⟨rfl, rfl⟩) | (go_at_call 8; (with_reducible refine (hcb.out _).mono ?_); rintro e w' ⟨rfl, rfl⟩) | (go_at_call 9; (with_reducible refine (hnx.out _).mono ?_); rintro e w' ⟨rfl, rfl⟩) | (go_at_call 9; (with_reducible refine (hny.out _).mono ?_); rintro e w' ⟨rfl, rfl⟩) | (go_at_call 11; (with_reducible refine (heq.out _).mono ?_); rintro e w' ⟨rfl, rfl⟩) | (go_at_call 10; (with_reducible refine (hla.out _).mono ?_); rintro e w' ⟨rfl, rfl⟩) | (go_at_call 10; (with_reducible refine (hlb.out _).mono ?_); rintro e w' ⟨rfl, rfl⟩))
  go_ret
  exact ⟨rfl, hb⟩
set_option maxRecDepth 100000 in
set_option maxHeartbeats 1600000 in
theorem core4 (a b c : Nat) (w : World) (x y : Int)
    (hab : Hid (∀ w, Calls Try.prog 7 #[.int .u64 a, .int .u64 b] w (RetB (.int .i64 1) w)))
    (hba : Hid (∀ w, Calls Try.prog 7 #[.int .u64 b, .int .u64 a] w (RetB (.int .i64 (-1)) w)))
    (hca : Hid (∀ w, Calls Try.prog 8 #[.int .u64 a] w (Ret (.int .u64 x) w)))
    (hcb : Hid (∀ w, Calls Try.prog 8 #[.int .u64 b] w (Ret (.int .u64 y) w)))
    (hnx : Hid (∀ w, Calls Try.prog 9 #[.int .u64 a] w (Ret (.bool false) w)))
    (heq : Hid (∀ w, Calls Try.prog 11 #[.int .u64 a, .int .u64 b] w (Ret (.bool false) w)))
    (hla : Hid (∀ w, Calls Try.prog 10 #[.int .u64 a, .int .u64 b] w (Ret (.bool false) w)))
    (hxy : (x == y) = false) :
    Calls Try.prog 3 #[.int .u64 a, .int .u64 b, .int .u64 c] w (RetB (.bool true) w) := by
  have hb := Below.refl w.heap.size w
  go_enter Try.func3, Try.ntmps3
  go_wp2_with (first | (go_at_call 6; refine (ret_from hb (awake_yes _)).mono ?_; clear hb; rintro e w1 ⟨rfl, hb⟩) | (go_at_call 7; (with_reducible refine (ret_from hb (hab.out _)).mono ?_); clear hb; rintro e w1 ⟨rfl, hb⟩) | (go_at_call 7; (with_reducible refine (ret_from hb (hba.out _)).mono ?_); clear hb; rintro e w1 ⟨rfl, hb⟩) | (go_at_call 8; (with_reducible refine (hca.out _).mono ?_); rintro e w' ⟨rfl, rfl⟩) | (go_at_call 8; (with_reducible refine (hcb.out _).mono ?_); rintro e w' ⟨rfl, rfl⟩) | (go_at_call 9; (with_reducible refine (hnx.out _).mono ?_); rintro e w' ⟨rfl, rfl⟩) | (go_at_call 11; (with_reducible refine (heq.out _).mono ?_); rintro e w' ⟨rfl, rfl⟩) | (go_at_call 10; (with_reducible refine (hla.out _).mono ?_); rintro e w' ⟨rfl, rfl⟩))
  go_ret
  exact ⟨rfl, hb⟩
set_option maxRecDepth 100000 in
set_option maxHeartbeats 1600000 in
theorem core5 (a b c : Nat) (w : World) (x y : Int)
    (hab : Hid (∀ w, Calls Try.prog 7 #[.int .u64 a, .int .u64 b] w (RetB (.int .i64 1) w)))
    (hba : Hid (∀ w, Calls Try.prog 7 #[.int .u64 b, .int .u64 a] w (RetB (.int .i64 (-1)) w)))
    (hca : Hid (∀ w, Calls Try.prog 8 #[.int .u64 a] w (Ret (.int .u64 x) w)))
    (hcb : Hid (∀ w, Calls Try.prog 8 #[.int .u64 b] w (Ret (.int .u64 y) w)))
    (hnx : Hid (∀ w, Calls Try.prog 9 #[.int .u64 a] w (Ret (.bool false) w)))
    (heq : Hid (∀ w, Calls Try.prog 11 #[.int .u64 a, .int .u64 b] w (Ret (.bool false) w)))
    (hla : Hid (∀ w, Calls Try.prog 10 #[.int .u64 a, .int .u64 b] w (Ret (.bool false) w)))
    (hxy : (x == y) = false) :
    Calls Try.prog 3 #[.int .u64 a, .int .u64 b, .int .u64 c] w (RetB (.bool true) w) := by
  have hb := Below.refl w.heap.size w
  go_enter Try.func3, Try.ntmps3
  go_wp2_with (first | (go_at_call 6; refine (ret_from hb (awake_yes _)).mono ?_; clear hb; rintro e w1 ⟨rfl, hb⟩) | (go_at_call 7; (with_reducible refine (ret_from hb (hab.out _)).mono ?_); clear hb; rintro e w1 ⟨rfl, hb⟩) | (go_at_call 7; (with_reducible refine (ret_from hb (hba.out _)).mono ?_); clear hb; rintro e w1 ⟨rfl, hb⟩) | (go_at_call 8; (with_reducible refine (hca.out _).mono ?_); rintro e w' ⟨rfl, rfl⟩) | (go_at_call 8; (with_reducible refine (hcb.out _).mono ?_); rintro e w' ⟨rfl, rfl⟩) | (go_at_call 9; (with_reducible refine (hnx.out _).mono ?_); rintro e w' ⟨rfl, rfl⟩) | (go_at_call 11; (with_reducible refine (heq.out _).mono ?_); rintro e w' ⟨rfl, rfl⟩) | (go_at_call 10; (with_reducible refine (hla.out _).mono ?_); rintro e w' ⟨rfl, rfl⟩))
  go_ret
  exact ⟨rfl, hb⟩
set_option maxRecDepth 100000 in
set_option maxHeartbeats 1600000 in
theorem core6 (a b c : Nat) (w : World) (x y : Int)
    (hab : Hid (∀ w, Calls Try.prog 7 #[.int .u64 a, .int .u64 b] w (RetB (.int .i64 1) w)))
    (hba : Hid (∀ w, Calls Try.prog 7 #[.int .u64 b, .int .u64 a] w (RetB (.int .i64 (-1)) w)))
    (hca : Hid (∀ w, Calls Try.prog 8 #[.int .u64 a] w (Ret (.int .u64 x) w)))
    (hcb : Hid (∀ w, Calls Try.prog 8 #[.int .u64 b] w (Ret (.int .u64 y) w)))
    (hnx : Hid (∀ w, Calls Try.prog 9 #[.int .u64 a] w (Ret (.bool true) w)))
    (hny : Hid (∀ w, Calls Try.prog 9 #[.int .u64 b] w (Ret (.bool true) w)))
    (heq : Hid (∀ w, Calls Try.prog 11 #[.int .u64 a, .int .u64 b] w (Ret (.bool true) w)))
    (hla : Hid (∀ w, Calls Try.prog 10 #[.int .u64 a, .int .u64 b] w (Ret (.bool false) w)))
    (hlb : Hid (∀ w, Calls Try.prog 10 #[.int .u64 b, .int .u64 a] w (Ret (.bool false) w)))
    (hxy : (x == y) = false)
    (hra : bits .and .u64 a 9223372036854775807 = 0)
    (hrb : bits .and .u64 b 9223372036854775807 = 0) :
    Calls Try.prog 3 #[.int .u64 a, .int .u64 b, .int .u64 c] w (RetB (.bool true) w) := by
  have hb := Below.refl w.heap.size w
  go_enter Try.func3, Try.ntmps3
  go_wp2_with (first | (go_at_call 6; refine (ret_from hb (awake_yes _)).mono ?_; clear hb; rintro e w1 ⟨rfl, hb⟩) | (go_at_call 7; (with_reducible refine (ret_from hb (hab.out _)).mono ?_); clear hb; rintro e w1 ⟨rfl, hb⟩) | (go_at_call 7; (with_reducible refine (ret_from hb (hba.out _)).mono ?_); clear hb; rintro e w1 ⟨rfl, hb⟩) | (go_at_call 8; (with_reducible refine (hca.out _).mono ?_); rintro e w' ⟨rfl, rfl⟩) | (go_at_call 8; (with_reducible refine (hcb.out _).mono ?_); rintro e w' ⟨rfl, rfl⟩) | (go_at_call 9; (with_reducible refine (hnx.out _).mono ?_); rintro e w' ⟨rfl, rfl⟩) | (go_at_call 9; (with_reducible refine (hny.out _).mono ?_); rintro e w' ⟨rfl, rfl⟩) | (go_at_call 11; (with_reducible refine (heq.out _).mono ?_); rintro e w' ⟨rfl, rfl⟩) | (go_at_call 10; (with_reducible refine (hla.out _).mono ?_); rintro e w' ⟨rfl, rfl⟩) | (go_at_call 10; (with_reducible refine (hlb.out _).mono ?_); rintro e w' ⟨rfl, rfl⟩))
  go_ret
  exact ⟨rfl, hb⟩
set_option maxRecDepth 100000 in
set_option maxHeartbeats 1600000 in
theorem core7 (a b c : Nat) (w : World) (x y : Int)
    (hab : Hid (∀ w, Calls Try.prog 7 #[.int .u64 a, .int .u64 b] w (RetB (.int .i64 1) w)))
    (hba : Hid (∀ w, Calls Try.prog 7 #[.int .u64 b, .int .u64 a] w (RetB (.int .i64 (-1)) w)))
    (hca : Hid (∀ w, Calls Try.prog 8 #[.int .u64 a] w (Ret (.int .u64 x) w)))
    (hcb : Hid (∀ w, Calls Try.prog 8 #[.int .u64 b] w (Ret (.int .u64 y) w)))
    (hnx : Hid (∀ w, Calls Try.prog 9 #[.int .u64 a] w (Ret (.bool true) w)))
    (hny : Hid (∀ w, Calls Try.prog 9 #[.int .u64 b] w (Ret (.bool true) w)))
    (heq : Hid (∀ w, Calls Try.prog 11 #[.int .u64 a, .int .u64 b] w (Ret (.bool false) w)))
    (hla : Hid (∀ w, Calls Try.prog 10 #[.int .u64 a, .int .u64 b] w (Ret (.bool false) w)))
    (hlb : Hid (∀ w, Calls Try.prog 10 #[.int .u64 b, .int .u64 a] w (Ret (.bool true) w)))
    (hxy : (x == y) = false) :
    Calls Try.prog 3 #[.int .u64 a, .int .u64 b, .int .u64 c] w (RetB (.bool true) w) := by
  have hb := Below.refl w.heap.size w
  go_enter Try.func3, Try.ntmps3
  go_wp2_with (first | (go_at_call 6; refine (ret_from hb (awake_yes _)).mono ?_; clear hb; rintro e w1 ⟨rfl, hb⟩) | (go_at_call 7; (with_reducible refine (ret_from hb (hab.out _)).mono ?_); clear hb; rintro e w1 ⟨rfl, hb⟩) | (go_at_call 7; (with_reducible refine (ret_from hb (hba.out _)).mono ?_); clear hb; rintro e w1 ⟨rfl, hb⟩) | (go_at_call 8; (with_reducible refine (hca.out _).mono ?_); rintro e w' ⟨rfl, rfl⟩) | (go_at_call 8; (with_reducible refine (hcb.out _).mono ?_); rintro e w' ⟨rfl, rfl⟩) | (go_at_call 9; (with_reducible refine (hnx.out _).mono ?_); rintro e w' ⟨rfl, rfl⟩) | (go_at_call 9; (with_reducible refine (hny.out _).mono ?_); rintro e w' ⟨rfl, rfl⟩) | (go_at_call 11; (with_reducible refine (heq.out _).mono ?_); rintro e w' ⟨rfl, rfl⟩) | (go_at_call 10; (with_reducible refine (hla.out _).mono ?_); rintro e w' ⟨rfl, rfl⟩) | (go_at_call 10; (with_reducible refine (hlb.out _).mono ?_); rintro e w' ⟨rfl, rfl⟩))
  go_ret
  exact ⟨rfl, hb⟩
set_option maxRecDepth 100000 in
set_option maxHeartbeats 1600000 in
theorem core8 (a b c : Nat) (w : World) (x y : Int) (m : Int)
    (hab : Hid (∀ w, Calls Try.prog 7 #[.int .u64 a, .int .u64 b] w (RetB (.int .i64 (-1)) w)))
    (hba : Hid (∀ w, Calls Try.prog 7 #[.int .u64 b, .int .u64 a] w (RetB (.int .i64 1) w)))
    (hbc : Hid (∀ w, Calls Try.prog 7 #[.int .u64 b, .int .u64 c] w (RetB (.int .i64 m) w)))
    (hca : Hid (∀ w, Calls Try.prog 8 #[.int .u64 a] w (Ret (.int .u64 x) w)))
    (hcb : Hid (∀ w, Calls Try.prog 8 #[.int .u64 b] w (Ret (.int .u64 y) w)))
    (hnx : Hid (∀ w, Calls Try.prog 9 #[.int .u64 a] w (Ret (.bool true) w)))
    (hny : Hid (∀ w, Calls Try.prog 9 #[.int .u64 b] w (Ret (.bool false) w)))
    (heq : Hid (∀ w, Calls Try.prog 11 #[.int .u64 a, .int .u64 b] w (Ret (.bool false) w)))
    (hla : Hid (∀ w, Calls Try.prog 10 #[.int .u64 a, .int .u64 b] w (Ret (.bool false) w)))
    (hxy : (x == y) = false)
    (hm : ¬ m < 0) :
    Calls Try.prog 3 #[.int .u64 a, .int .u64 b, .int .u64 c] w (RetB (.bool true) w) := by
  have hb := Below.refl w.heap.size w
  go_enter Try.func3, Try.ntmps3
  go_wp2_with (first | (go_at_call 6; refine (ret_from hb (awake_yes _)).mono ?_; clear hb; rintro e w1 ⟨rfl, hb⟩) | (go_at_call 7; (with_reducible refine (ret_from hb (hab.out _)).mono ?_); clear hb; rintro e w1 ⟨rfl, hb⟩) | (go_at_call 7; (with_reducible refine (ret_from hb (hba.out _)).mono ?_); clear hb; rintro e w1 ⟨rfl, hb⟩) | (go_at_call 7; (with_reducible refine (ret_from hb (hbc.out _)).mono ?_); clear hb; rintro e w1 ⟨rfl, hb⟩) | (go_at_call 8; (with_reducible refine (hca.out _).mono ?_); rintro e w' ⟨rfl, rfl⟩) | (go_at_call 8; (with_reducible refine (hcb.out _).mono ?_); rintro e w' ⟨rfl, rfl⟩) | (go_at_call 9; (with_reducible refine (hnx.out _).mono ?_); rintro e w' ⟨rfl, rfl⟩) | (go_at_call 9; (with_reducible refine (hny.out _).mono ?_); rintro e w' ⟨rfl, rfl⟩) | (go_at_call 11; (with_reducible refine (heq.out _).mono ?_); rintro e w' ⟨rfl, rfl⟩) | (go_at_call 10; (with_reducible refine (hla.out _).mono ?_); rintro e w' ⟨rfl, rfl⟩))
  go_ret
  exact ⟨rfl, hb⟩
set_option maxRecDepth 100000 in
set_option maxHeartbeats 1600000 in
theorem core9 (a b c : Nat) (w : World) (x y : Int) (m : Int)
    (hab : Hid (∀ w, Calls Try.prog 7 #[.int .u64 a, .int .u64 b] w (RetB (.int .i64 (-1)) w)))
    (hba : Hid (∀ w, Calls Try.prog 7 #[.int .u64 b, .int .u64 a] w (RetB (.int .i64 1) w)))
    (hbc : Hid (∀ w, Calls Try.prog 7 #[.int .u64 b, .int .u64 c] w (RetB (.int .i64 m) w)))
    (hca : Hid (∀ w, Calls Try.prog 8 #[.int .u64 a] w (Ret (.int .u64 x) w)))
    (hcb : Hid (∀ w, Calls Try.prog 8 #[.int .u64 b] w (Ret (.int .u64 y) w)))
    (hnx : Hid (∀ w, Calls Try.prog 9 #[.int .u64 a] w (Ret (.bool true) w)))
    (hny : Hid (∀ w, Calls Try.prog 9 #[.int .u64 b] w (Ret (.bool true) w)))
    (heq : Hid (∀ w, Calls Try.prog 11 #[.int .u64 a, .int .u64 b] w (Ret (.bool true) w)))
    (hla : Hid (∀ w, Calls Try.prog 10 #[.int .u64 a, .int .u64 b] w (Ret (.bool false) w)))
    (hlb : Hid (∀ w, Calls Try.prog 10 #[.int .u64 b, .int .u64 a] w (Ret (.bool false) w)))
    (hxy : (x == y) = false)
    (hm : ¬ m < 0)
    (hra : bits .and .u64 a 9223372036854775807 = 0)
    (hrb : bits .and .u64 b 9223372036854775807 = 0) :
    Calls Try.prog 3 #[.int .u64 a, .int .u64 b, .int .u64 c] w (RetB (.bool true) w) := by
  have hb := Below.refl w.heap.size w
  go_enter Try.func3, Try.ntmps3
  go_wp2_with (first | (go_at_call 6; refine (ret_from hb (awake_yes _)).mono ?_; clear hb; rintro e w1 ⟨rfl, hb⟩) | (go_at_call 7; (with_reducible refine (ret_from hb (hab.out _)).mono ?_); clear hb; rintro e w1 ⟨rfl, hb⟩) | (go_at_call 7; (with_reducible refine (ret_from hb (hba.out _)).mono ?_); clear hb; rintro e w1 ⟨rfl, hb⟩) | (go_at_call 7; (with_reducible refine (ret_from hb (hbc.out _)).mono ?_); clear hb; rintro e w1 ⟨rfl, hb⟩) | (go_at_call 8; (with_reducible refine (hca.out _).mono ?_); rintro e w' ⟨rfl, rfl⟩) | (go_at_call 8; (with_reducible refine (hcb.out _).mono ?_); rintro e w' ⟨rfl, rfl⟩) | (go_at_call 9; (with_reducible refine (hnx.out _).mono ?_); rintro e w' ⟨rfl, rfl⟩) | (go_at_call 9; (with_reducible refine (hny.out _).mono ?_); rintro e w' ⟨rfl, rfl⟩) | (go_at_call 11; (with_reducible refine (heq.out _).mono ?_); rintro e w' ⟨rfl, rfl⟩) | (go_at_call 10; (with_reducible refine (hla.out _).mono ?_); rintro e w' ⟨rfl, rfl⟩) | (go_at_call 10; (with_reducible refine (hlb.out _).mono ?_); rintro e w' ⟨rfl, rfl⟩))
  go_ret
  exact ⟨rfl, hb⟩
set_option maxRecDepth 100000 in
set_option maxHeartbeats 1600000 in
theorem core10 (a b c : Nat) (w : World) (x y : Int) (m : Int)
    (hab : Hid (∀ w, Calls Try.prog 7 #[.int .u64 a, .int .u64 b] w (RetB (.int .i64 (-1)) w)))
    (hba : Hid (∀ w, Calls Try.prog 7 #[.int .u64 b, .int .u64 a] w (RetB (.int .i64 1) w)))
    (hbc : Hid (∀ w, Calls Try.prog 7 #[.int .u64 b, .int .u64 c] w (RetB (.int .i64 m) w)))
    (hca : Hid (∀ w, Calls Try.prog 8 #[.int .u64 a] w (Ret (.int .u64 x) w)))
    (hcb : Hid (∀ w, Calls Try.prog 8 #[.int .u64 b] w (Ret (.int .u64 y) w)))
    (hnx : Hid (∀ w, Calls Try.prog 9 #[.int .u64 a] w (Ret (.bool true) w)))
    (hny : Hid (∀ w, Calls Try.prog 9 #[.int .u64 b] w (Ret (.bool true) w)))
    (heq : Hid (∀ w, Calls Try.prog 11 #[.int .u64 a, .int .u64 b] w (Ret (.bool false) w)))
    (hla : Hid (∀ w, Calls Try.prog 10 #[.int .u64 a, .int .u64 b] w (Ret (.bool true) w)))
    (hlb : Hid (∀ w, Calls Try.prog 10 #[.int .u64 b, .int .u64 a] w (Ret (.bool false) w)))
    (hxy : (x == y) = false)
    (hm : ¬ m < 0) :
    Calls Try.prog 3 #[.int .u64 a, .int .u64 b, .int .u64 c] w (RetB (.bool true) w) := by
  have hb := Below.refl w.heap.size w
  go_enter Try.func3, Try.ntmps3
  go_wp2_with (first | (go_at_call 6; refine (ret_from hb (awake_yes _)).mono ?_; clear hb; rintro e w1 ⟨rfl, hb⟩) | (go_at_call 7; (with_reducible refine (ret_from hb (hab.out _)).mono ?_); clear hb; rintro e w1 ⟨rfl, hb⟩) | (go_at_call 7; (with_reducible refine (ret_from hb (hba.out _)).mono ?_); clear hb; rintro e w1 ⟨rfl, hb⟩) | (go_at_call 7; (with_reducible refine (ret_from hb (hbc.out _)).mono ?_); clear hb; rintro e w1 ⟨rfl, hb⟩) | (go_at_call 8; (with_reducible refine (hca.out _).mono ?_); rintro e w' ⟨rfl, rfl⟩) | (go_at_call 8; (with_reducible refine (hcb.out _).mono ?_); rintro e w' ⟨rfl, rfl⟩) | (go_at_call 9; (with_reducible refine (hnx.out _).mono ?_); rintro e w' ⟨rfl, rfl⟩) | (go_at_call 9; (with_reducible refine (hny.out _).mono ?_); rintro e w' ⟨rfl, rfl⟩) | (go_at_call 11; (with_reducible refine (heq.out _).mono ?_); rintro e w' ⟨rfl, rfl⟩) | (go_at_call 10; (with_reducible refine (hla.out _).mono ?_); rintro e w' ⟨rfl, rfl⟩) | (go_at_call 10; (with_reducible refine (hlb.out _).mono ?_); rintro e w' ⟨rfl, rfl⟩))
  go_ret
  exact ⟨rfl, hb⟩
set_option maxRecDepth 100000 in
set_option maxHeartbeats 1600000 in
theorem core11 (a b c : Nat) (w : World) (x y : Int) (m : Int) (p : Int)
    (hab : Hid (∀ w, Calls Try.prog 7 #[.int .u64 a, .int .u64 b] w (RetB (.int .i64 (-1)) w)))
    (hba : Hid (∀ w, Calls Try.prog 7 #[.int .u64 b, .int .u64 a] w (RetB (.int .i64 1) w)))
    (hbc : Hid (∀ w, Calls Try.prog 7 #[.int .u64 b, .int .u64 c] w (RetB (.int .i64 m) w)))
    (hac : Hid (∀ w, Calls Try.prog 7 #[.int .u64 a, .int .u64 c] w (RetB (.int .i64 p) w)))
    (hca : Hid (∀ w, Calls Try.prog 8 #[.int .u64 a] w (Ret (.int .u64 x) w)))
    (hcb : Hid (∀ w, Calls Try.prog 8 #[.int .u64 b] w (Ret (.int .u64 y) w)))
    (hnx : Hid (∀ w, Calls Try.prog 9 #[.int .u64 a] w (Ret (.bool true) w)))
    (hny : Hid (∀ w, Calls Try.prog 9 #[.int .u64 b] w (Ret (.bool false) w)))
    (heq : Hid (∀ w, Calls Try.prog 11 #[.int .u64 a, .int .u64 b] w (Ret (.bool false) w)))
    (hla : Hid (∀ w, Calls Try.prog 10 #[.int .u64 a, .int .u64 b] w (Ret (.bool false) w)))
    (hxy : (x == y) = false)
    (hm : m < 0)
    (hp : p < 0) :
    Calls Try.prog 3 #[.int .u64 a, .int .u64 b, .int .u64 c] w (RetB (.bool true) w) := by
  have hb := Below.refl w.heap.size w
  go_enter Try.func3, Try.ntmps3
  go_wp2_with (first | (go_at_call 6; refine (ret_from hb (awake_yes _)).mono ?_; clear hb; rintro e w1 ⟨rfl, hb⟩) | (go_at_call 7; (with_reducible refine (ret_from hb (hab.out _)).mono ?_); clear hb; rintro e w1 ⟨rfl, hb⟩) | (go_at_call 7; (with_reducible refine (ret_from hb (hba.out _)).mono ?_); clear hb; rintro e w1 ⟨rfl, hb⟩) | (go_at_call 7; (with_reducible refine (ret_from hb (hbc.out _)).mono ?_); clear hb; rintro e w1 ⟨rfl, hb⟩) | (go_at_call 7; (with_reducible refine (ret_from hb (hac.out _)).mono ?_); clear hb; rintro e w1 ⟨rfl, hb⟩) | (go_at_call 8; (with_reducible refine (hca.out _).mono ?_); rintro e w' ⟨rfl, rfl⟩) | (go_at_call 8; (with_reducible refine (hcb.out _).mono ?_); rintro e w' ⟨rfl, rfl⟩) | (go_at_call 9; (with_reducible refine (hnx.out _).mono ?_); rintro e w' ⟨rfl, rfl⟩) | (go_at_call 9; (with_reducible refine (hny.out _).mono ?_); rintro e w' ⟨rfl, rfl⟩) | (go_at_call 11; (with_reducible refine (heq.out _).mono ?_); rintro e w' ⟨rfl, rfl⟩) | (go_at_call 10; (with_reducible refine (hla.out _).mono ?_); rintro e w' ⟨rfl, rfl⟩))
  go_ret
  exact ⟨rfl, hb⟩
set_option maxRecDepth 100000 in
set_option maxHeartbeats 1600000 in
theorem core12 (a b c : Nat) (w : World) (x y : Int) (m : Int) (p : Int)
    (hab : Hid (∀ w, Calls Try.prog 7 #[.int .u64 a, .int .u64 b] w (RetB (.int .i64 (-1)) w)))
    (hba : Hid (∀ w, Calls Try.prog 7 #[.int .u64 b, .int .u64 a] w (RetB (.int .i64 1) w)))
    (hbc : Hid (∀ w, Calls Try.prog 7 #[.int .u64 b, .int .u64 c] w (RetB (.int .i64 m) w)))
    (hac : Hid (∀ w, Calls Try.prog 7 #[.int .u64 a, .int .u64 c] w (RetB (.int .i64 p) w)))
    (hca : Hid (∀ w, Calls Try.prog 8 #[.int .u64 a] w (Ret (.int .u64 x) w)))
    (hcb : Hid (∀ w, Calls Try.prog 8 #[.int .u64 b] w (Ret (.int .u64 y) w)))
    (hnx : Hid (∀ w, Calls Try.prog 9 #[.int .u64 a] w (Ret (.bool true) w)))
    (hny : Hid (∀ w, Calls Try.prog 9 #[.int .u64 b] w (Ret (.bool true) w)))
    (heq : Hid (∀ w, Calls Try.prog 11 #[.int .u64 a, .int .u64 b] w (Ret (.bool true) w)))
    (hla : Hid (∀ w, Calls Try.prog 10 #[.int .u64 a, .int .u64 b] w (Ret (.bool false) w)))
    (hlb : Hid (∀ w, Calls Try.prog 10 #[.int .u64 b, .int .u64 a] w (Ret (.bool false) w)))
    (hxy : (x == y) = false)
    (hm : m < 0)
    (hp : p < 0)
    (hra : bits .and .u64 a 9223372036854775807 = 0)
    (hrb : bits .and .u64 b 9223372036854775807 = 0) :
    Calls Try.prog 3 #[.int .u64 a, .int .u64 b, .int .u64 c] w (RetB (.bool true) w) := by
  have hb := Below.refl w.heap.size w
  go_enter Try.func3, Try.ntmps3
  go_wp2_with (first | (go_at_call 6; refine (ret_from hb (awake_yes _)).mono ?_; clear hb; rintro e w1 ⟨rfl, hb⟩) | (go_at_call 7; (with_reducible refine (ret_from hb (hab.out _)).mono ?_); clear hb; rintro e w1 ⟨rfl, hb⟩) | (go_at_call 7; (with_reducible refine (ret_from hb (hba.out _)).mono ?_); clear hb; rintro e w1 ⟨rfl, hb⟩) | (go_at_call 7; (with_reducible refine (ret_from hb (hbc.out _)).mono ?_); clear hb; rintro e w1 ⟨rfl, hb⟩) | (go_at_call 7; (with_reducible refine (ret_from hb (hac.out _)).mono ?_); clear hb; rintro e w1 ⟨rfl, hb⟩) | (go_at_call 8; (with_reducible refine (hca.out _).mono ?_); rintro e w' ⟨rfl, rfl⟩) | (go_at_call 8; (with_reducible refine (hcb.out _).mono ?_); rintro e w' ⟨rfl, rfl⟩) | (go_at_call 9; (with_reducible refine (hnx.out _).mono ?_); rintro e w' ⟨rfl, rfl⟩) | (go_at_call 9; (with_reducible refine (hny.out _).mono ?_); rintro e w' ⟨rfl, rfl⟩) | (go_at_call 11; (with_reducible refine (heq.out _).mono ?_); rintro e w' ⟨rfl, rfl⟩) | (go_at_call 10; (with_reducible refine (hla.out _).mono ?_); rintro e w' ⟨rfl, rfl⟩) | (go_at_call 10; (with_reducible refine (hlb.out _).mono ?_); rintro e w' ⟨rfl, rfl⟩))
  go_ret
  exact ⟨rfl, hb⟩
set_option maxRecDepth 100000 in
set_option maxHeartbeats 1600000 in
theorem core13 (a b c : Nat) (w : World) (x y : Int) (m : Int) (p : Int)
    (hab : Hid (∀ w, Calls Try.prog 7 #[.int .u64 a, .int .u64 b] w (RetB (.int .i64 (-1)) w)))
    (hba : Hid (∀ w, Calls Try.prog 7 #[.int .u64 b, .int .u64 a] w (RetB (.int .i64 1) w)))
    (hbc : Hid (∀ w, Calls Try.prog 7 #[.int .u64 b, .int .u64 c] w (RetB (.int .i64 m) w)))
    (hac : Hid (∀ w, Calls Try.prog 7 #[.int .u64 a, .int .u64 c] w (RetB (.int .i64 p) w)))
    (hca : Hid (∀ w, Calls Try.prog 8 #[.int .u64 a] w (Ret (.int .u64 x) w)))
    (hcb : Hid (∀ w, Calls Try.prog 8 #[.int .u64 b] w (Ret (.int .u64 y) w)))
    (hnx : Hid (∀ w, Calls Try.prog 9 #[.int .u64 a] w (Ret (.bool true) w)))
    (hny : Hid (∀ w, Calls Try.prog 9 #[.int .u64 b] w (Ret (.bool true) w)))
    (heq : Hid (∀ w, Calls Try.prog 11 #[.int .u64 a, .int .u64 b] w (Ret (.bool false) w)))
    (hla : Hid (∀ w, Calls Try.prog 10 #[.int .u64 a, .int .u64 b] w (Ret (.bool true) w)))
    (hlb : Hid (∀ w, Calls Try.prog 10 #[.int .u64 b, .int .u64 a] w (Ret (.bool false) w)))
    (hxy : (x == y) = false)
    (hm : m < 0)
    (hp : p < 0) :
    Calls Try.prog 3 #[.int .u64 a, .int .u64 b, .int .u64 c] w (RetB (.bool true) w) := by
  have hb := Below.refl w.heap.size w
  go_enter Try.func3, Try.ntmps3
  go_wp2_with (first | (go_at_call 6; refine (ret_from hb (awake_yes _)).mono ?_; clear hb; rintro e w1 ⟨rfl, hb⟩) | (go_at_call 7; (with_reducible refine (ret_from hb (hab.out _)).mono ?_); clear hb; rintro e w1 ⟨rfl, hb⟩) | (go_at_call 7; (with_reducible refine (ret_from hb (hba.out _)).mono ?_); clear hb; rintro e w1 ⟨rfl, hb⟩) | (go_at_call 7; (with_reducible refine (ret_from hb (hbc.out _)).mono ?_); clear hb; rintro e w1 ⟨rfl, hb⟩) | (go_at_call 7; (with_reducible refine (ret_from hb (hac.out _)).mono ?_); clear hb; rintro e w1 ⟨rfl, hb⟩) | (go_at_call 8; (with_reducible refine (hca.out _).mono ?_); rintro e w' ⟨rfl, rfl⟩) | (go_at_call 8; (with_reducible refine (hcb.out _).mono ?_); rintro e w' ⟨rfl, rfl⟩) | (go_at_call 9; (with_reducible refine (hnx.out _).mono ?_); rintro e w' ⟨rfl, rfl⟩) | (go_at_call 9; (with_reducible refine (hny.out _).mono ?_); rintro e w' ⟨rfl, rfl⟩) | (go_at_call 11; (with_reducible refine (heq.out _).mono ?_); rintro e w' ⟨rfl, rfl⟩) | (go_at_call 10; (with_reducible refine (hla.out _).mono ?_); rintro e w' ⟨rfl, rfl⟩) | (go_at_call 10; (with_reducible refine (hlb.out _).mono ?_); rintro e w' ⟨rfl, rfl⟩))
  go_ret
  exact ⟨rfl, hb⟩

theorem order_walk (a b c : Nat) (ha : a < 18446744073709551616) (hb : b < 18446744073709551616) (hc : c < 18446744073709551616) (w : World) : Calls Try.prog 3 #[.int .u64 a, .int .u64 b, .int .u64 c] w (RetB (.bool true) w) := by
  obtain ⟨hbd, hanti, hcan, hnan, hsame, hless⟩ := facts a b ha hb
  have hT := order_trans a b c
  have hab := order_any a b ha hb
  have hba := order_any b a hb ha
  have hbc := order_any b c hb hc
  have hac := order_any a c ha hc
  have hca := Lib.hid (canon_any a)
  have hcb := Lib.hid (canon_any b)
  have hnx := number_any a ha
  have hny := number_any b hb
  have heq := equal_any a b
  have hla := less_any a b
  have hlb := less_any b a
  have hra := band a ha
  have hrb := band b hb
  clear ha hb hc
  generalize (canonV a : Int) = x at *
  generalize (canonV b : Int) = y at *
  generalize orderV a b = n at *
  generalize orderV b a = n' at *
  generalize orderV b c = m at *
  generalize orderV a c = p at *
  generalize (!isNan a) = na at *
  generalize (!isNan b) = nb at *
  generalize lessV a b = la at *
  generalize lessV b a = lb at *
  generalize equalV a b = eq at *
  generalize (rung a : Int) = ra at *
  generalize (rung b : Int) = rb at *
  rcases hbd with rfl | rfl | rfl
  · obtain rfl : n' = 1 := by omega
    have hxy : (x == y) = false := by cases h : (x == y) <;> simp [h] at hcan ⊢
    by_cases hm : m < 0
    · have hp := hT (by omega) hm
      cases na
      · have := (hnan (by simp)).2.2; simp at this
      · cases nb
        · obtain ⟨rfl, rfl, _⟩ := hnan rfl
          exact core11 a b c w _ _ _ _ hab hba hbc hac hca hcb hnx hny heq hla hxy hm hp
        · cases eq
          · obtain ⟨h1, h2⟩ := hless rfl rfl rfl
            obtain rfl : la = true := by simpa using h1
            obtain rfl : lb = false := by simpa using h2
            exact core13 a b c w _ _ _ _ hab hba hbc hac hca hcb hnx hny heq hla hlb hxy hm hp
          · obtain ⟨rfl, rfl, h⟩ := hsame rfl rfl rfl
            obtain ⟨rfl, rfl⟩ : ra = 0 ∧ rb = 0 := by omega
            exact core12 a b c w _ _ _ _ hab hba hbc hac hca hcb hnx hny heq hla hlb hxy hm hp hra hrb
    · cases na
      · have := (hnan (by simp)).2.2; simp at this
      · cases nb
        · obtain ⟨rfl, rfl, _⟩ := hnan rfl
          exact core8 a b c w _ _ _ hab hba hbc hca hcb hnx hny heq hla hxy hm
        · cases eq
          · obtain ⟨h1, h2⟩ := hless rfl rfl rfl
            obtain rfl : la = true := by simpa using h1
            obtain rfl : lb = false := by simpa using h2
            exact core10 a b c w _ _ _ hab hba hbc hca hcb hnx hny heq hla hlb hxy hm
          · obtain ⟨rfl, rfl, h⟩ := hsame rfl rfl rfl
            obtain ⟨rfl, rfl⟩ : ra = 0 ∧ rb = 0 := by omega
            exact core9 a b c w _ _ _ hab hba hbc hca hcb hnx hny heq hla hlb hxy hm hra hrb
  · obtain rfl : n' = 0 := by omega
    have hxy : (x == y) = true := by cases h : (x == y) <;> simp [h] at hcan ⊢
    cases na
    · obtain ⟨rfl, rfl, _⟩ := hnan rfl
      cases nb
      · exact core0 a b c w _ _ hab hba hca hcb hnx heq hla hxy
      · exact core1 a b c w _ _ hab hba hca hcb hnx heq hla hxy
    · cases nb
      · have := (hnan rfl).2.2; simp at this
      · cases eq
        · obtain ⟨h1, h2⟩ := hless rfl rfl rfl
          obtain rfl : la = false := by simpa using h1
          obtain rfl : lb = false := by simpa using h2
          exact core3 a b c w _ _ hab hba hca hcb hnx hny heq hla hlb hxy
        · obtain ⟨rfl, rfl, h⟩ := hsame rfl rfl rfl
          exact core2 a b c w _ _ hab hba hca hcb hnx hny heq hla hlb hxy
  · obtain rfl : n' = -1 := by omega
    have hxy : (x == y) = false := by cases h : (x == y) <;> simp [h] at hcan ⊢
    cases na
    · obtain ⟨rfl, rfl, _⟩ := hnan rfl
      cases nb
      · exact core4 a b c w _ _ hab hba hca hcb hnx heq hla hxy
      · exact core5 a b c w _ _ hab hba hca hcb hnx heq hla hxy
    · cases nb
      · have := (hnan rfl).2.2; simp at this
      · cases eq
        · obtain ⟨h1, h2⟩ := hless rfl rfl rfl
          obtain rfl : la = false := by simpa using h1
          obtain rfl : lb = true := by simpa using h2
          exact core7 a b c w _ _ hab hba hca hcb hnx hny heq hla hlb hxy
        · obtain ⟨rfl, rfl, h⟩ := hsame rfl rfl rfl
          obtain ⟨rfl, rfl⟩ : ra = 0 ∧ rb = 0 := by omega
          exact core6 a b c w _ _ hab hba hca hcb hnx hny heq hla hlb hxy hra hrb
end Go.Proofs.Ytghekcjmkgajcaa
