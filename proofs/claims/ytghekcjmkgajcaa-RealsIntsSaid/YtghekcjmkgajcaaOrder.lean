/- reals.Order and the reference's. -/
import Derived.Test.YtghekcjmkgajcaaDoW
namespace Go.Proofs.Ytghekcjmkgajcaa
open Go.RowKit

def signV (x y : Bool) : Int := if x && !y then 1 else if y && !x then -1 else 0
def firstV (x y z : Int) : Int := if x ≠ 0 then x else if y ≠ 0 then y else z
theorem sign_bd (x y : Bool) : -1 ≤ signV x y ∧ signV x y ≤ 1 := by cases x <;> cases y <;> decide

theorem sign_any (x y : Bool) (w : World) : Calls Try.prog 24 #[.bool x, .bool y] w (Ret (.int .i64 (signV x y)) w) := by
  cases x <;> cases y
  all_goals
    go_enter Try.func24, Try.ntmps24
    go_wp2
    go_ret
    exact ⟨rfl, rfl⟩

theorem first_any (x y z : Int) (b : Nat) (w : World) (h0 : w.cell? ⟨b, 0, none⟩ = some (.int .i64 x)) (h1 : w.cell? ⟨b, 1, none⟩ = some (.int .i64 y)) (h2 : w.cell? ⟨b, 2, none⟩ = some (.int .i64 z)) :
    Calls Try.prog 23 #[.slice (some ⟨b, 0, none⟩) 3 3] w (Ret (.int .i64 (firstV x y z)) w) := by
  have hE : Hid ((x ≠ 0 → firstV x y z = x) ∧ (x = 0 → y ≠ 0 → firstV x y z = y) ∧ (x = 0 → y = 0 → firstV x y z = z)) := by
    refine ⟨fun h => ?_, fun h k => ?_, fun h k => ?_⟩
    · unfold firstV; rw [if_pos h]
    · unfold firstV; rw [if_neg (by simp [h]), if_pos k]
    · unfold firstV; rw [if_neg (by simp [h]), if_neg (by simp [k])]
  have hx : (x != 0) = true ∨ (x != 0) = false := by cases (x != 0) <;> simp
  have hy : (y != 0) = true ∨ (y != 0) = false := by cases (y != 0) <;> simp
  have hz : (z != 0) = true ∨ (z != 0) = false := by cases (z != 0) <;> simp
  rcases hx with hx | hx
  · go_enter Try.func23, Try.ntmps23
    go_wp2
    refine wp_loop_rounds 1 ?_
    rw [rounds_succ]
    go_wp2_with (rw [rounds_succ])
    go_ret
    exact ⟨by rw [hE.out.1 (by simpa using hx)]; rfl, rfl⟩
  · rcases hy with hy | hy
    · go_enter Try.func23, Try.ntmps23
      go_wp2
      refine wp_loop_rounds 2 ?_
      rw [rounds_succ]
      go_wp2_with (rw [rounds_succ])
      go_ret
      exact ⟨by rw [hE.out.2.1 (by simpa using hx) (by simpa using hy)]; rfl, rfl⟩
    · rcases hz with hz | hz
      · go_enter Try.func23, Try.ntmps23
        go_wp2
        refine wp_loop_rounds 3 ?_
        rw [rounds_succ]
        go_wp2_with (rw [rounds_succ])
        go_ret
        exact ⟨by rw [hE.out.2.2 (by simpa using hx) (by simpa using hy)]; rfl, rfl⟩
      · go_enter Try.func23, Try.ntmps23
        go_wp2
        refine wp_loop_rounds 4 ?_
        rw [rounds_succ]
        go_wp2_with (rw [rounds_succ])
        go_ret
        exact ⟨by rw [hE.out.2.2 (by simpa using hx) (by simpa using hy), show z = 0 by simpa using hz]; rfl, rfl⟩

/-- A number by which reals are in order. -/
def rankV (a : Nat) : Int := if 9223372036854775808 ≤ canonV a then -((canonV a : Int) - 9223372036854775808) - 1 else canonV a
def cmpV (x y : Int) : Int := if x < y then -1 else if y < x then 1 else 0
def orderV (a b : Nat) : Int := cmpV (rankV a) (rankV b)
def rawV (a b : Nat) : Int := firstV (signV ((a : Int) == 9221120237041090560) ((b : Int) == 9221120237041090560)) (signV (lessV b a) (lessV a b))
    (wrap64 (wrap64 (-(signV ((a : Int) == 9223372036854775808) ((b : Int) == 9223372036854775808))) * signV (equalV a b) false))

theorem less_key (a b : Nat) : lessV a b = (!isNan a && !isNan b && decide (key a < key b)) := by
  unfold lessV
  show (Ieee.double.order a b == some .lt) = _
  rw [order_eq]
  cases isNan a <;> cases isNan b <;> simp [compare, compareOfLessAndEq]
  by_cases h : key a < key b
  · simp [h]
  · simp [h]; split <;> simp
theorem equal_key (a b : Nat) : equalV a b = (!isNan a && !isNan b && decide (key a = key b)) := by
  unfold equalV
  show (Ieee.double.order a b == some .eq) = _
  rw [order_eq]
  cases isNan a <;> cases isNan b <;> simp [compare, compareOfLessAndEq]
  by_cases h : key a < key b
  · have : ¬ key a = key b := by omega
    simp [h, this]
  · by_cases h2 : key a = key b
    · simp [h2]
    · simp [h, h2]

/-- The key, by the bits, for what is no NaN. -/
theorem key_pos (a : Nat) (h : a < 9223372036854775808) : key a = a := by
  unfold key negB rung
  rw [Nat.div_eq_of_lt h, Nat.mod_eq_of_lt h]; rfl
theorem key_neg (a : Nat) (h : 9223372036854775808 ≤ a) (h2 : a < 18446744073709551616) : key a = -((a : Int) - 9223372036854775808) := by
  have e1 : a / 9223372036854775808 = 1 := by omega
  have e2 : a % 9223372036854775808 = a - 9223372036854775808 := by omega
  unfold key negB rung
  rw [e1, e2]; simp; omega
theorem isNan_pos (a : Nat) (h : a < 9223372036854775808) : isNan a = decide (9218868437227405312 < a) := by unfold isNan rung; rw [Nat.mod_eq_of_lt h]
theorem isNan_neg (a : Nat) (h : 9223372036854775808 ≤ a) (h2 : a < 18446744073709551616) : isNan a = decide (9218868437227405312 < a - 9223372036854775808) := by
  unfold isNan rung; rw [show a % 9223372036854775808 = a - 9223372036854775808 by omega]

/-- What is no NaN's bits, made canonical, is either the one NaN or a number. -/
theorem canon_cases (a : Nat) (h : a < 18446744073709551616) : (canonV a = 9221120237041090560 ∧ isNan a = true) ∨ (canonV a = a ∧ isNan a = false ∧ (a < 9223372036854775808 ∧ a ≤ 9218868437227405312 ∨ 9223372036854775808 ≤ a ∧ a ≤ 18442240474082181120)) := by
  cases hn : isNan a
  · refine .inr ⟨canon_not a hn, rfl, ?_⟩
    rcases Nat.lt_or_ge a 9223372036854775808 with k | k
    · rw [isNan_pos a k] at hn; simp at hn; exact .inl ⟨k, hn⟩
    · rw [isNan_neg a k h] at hn; simp at hn; exact .inr ⟨k, by omega⟩
  · exact .inl ⟨canon_nan a hn, rfl⟩

theorem wrap_small (x : Int) (h : -2 ≤ x ∧ x ≤ 2) : wrap64 x = x := by unfold wrap64; omega

theorem raw_order (a b : Nat) (ha : a < 18446744073709551616) (hb : b < 18446744073709551616) : rawV (canonV a) (canonV b) = orderV a b := by
  have hnn : isNan 9221120237041090560 = true := by decide +kernel
  unfold rawV orderV rankV
  rw [less_key, less_key, equal_key]
  rcases canon_cases a ha with ⟨ca, na⟩ | ⟨ca, na, ra⟩ <;> rcases canon_cases b hb with ⟨cb, nb⟩ | ⟨cb, nb, rb⟩
  · rw [ca, cb, hnn]; decide +kernel
  · rw [ca, cb, hnn, nb]
    have e1 : ((b : Int) == 9221120237041090560) = false := beq_eq_false_iff_ne.2 (by omega)
    have e0 : (((9221120237041090560 : Nat) : Int) == 9221120237041090560) = true := by decide
    rw [e1, e0]
    have : signV true false = 1 := by decide
    rw [this]
    unfold firstV cmpV
    rw [if_pos (by decide)]
    rcases rb with rb | rb
    · rw [if_neg (show ¬ 9223372036854775808 ≤ 9221120237041090560 by omega), if_neg (show ¬ 9223372036854775808 ≤ b by omega), if_neg (by omega), if_pos (by omega)]
    · rw [if_neg (show ¬ 9223372036854775808 ≤ 9221120237041090560 by omega), if_pos (show 9223372036854775808 ≤ b by omega), if_neg (by omega), if_pos (by omega)]
  · rw [ca, cb, hnn, na]
    have e1 : ((a : Int) == 9221120237041090560) = false := beq_eq_false_iff_ne.2 (by omega)
    have e0 : (((9221120237041090560 : Nat) : Int) == 9221120237041090560) = true := by decide
    rw [e1, e0]
    have : signV false true = -1 := by decide
    rw [this]
    unfold firstV cmpV
    rw [if_pos (by decide)]
    rcases ra with ra | ra
    · rw [if_neg (show ¬ 9223372036854775808 ≤ a by omega), if_neg (show ¬ 9223372036854775808 ≤ 9221120237041090560 by omega), if_pos (by omega)]
    · rw [if_pos (show 9223372036854775808 ≤ a by omega), if_neg (show ¬ 9223372036854775808 ≤ 9221120237041090560 by omega), if_pos (by omega)]
  · rw [ca, cb, na, nb]
    have e1 : ((a : Int) == 9221120237041090560) = false := beq_eq_false_iff_ne.2 (by omega)
    have e2 : ((b : Int) == 9221120237041090560) = false := beq_eq_false_iff_ne.2 (by omega)
    rw [e1, e2]
    simp only [Bool.not_false, Bool.true_and]
    have s0 : signV false false = 0 := by decide
    rw [s0]
    unfold firstV
    rw [if_neg (by decide)]
    have hka : (a < 9223372036854775808 ∧ key a = a) ∨ (9223372036854775808 ≤ a ∧ key a = -((a : Int) - 9223372036854775808)) := by
      rcases ra with ra | ra
      · exact .inl ⟨ra.1, key_pos a ra.1⟩
      · exact .inr ⟨ra.1, key_neg a ra.1 ha⟩
    have hkb : (b < 9223372036854775808 ∧ key b = b) ∨ (9223372036854775808 ≤ b ∧ key b = -((b : Int) - 9223372036854775808)) := by
      rcases rb with rb | rb
      · exact .inl ⟨rb.1, key_pos b rb.1⟩
      · exact .inr ⟨rb.1, key_neg b rb.1 hb⟩
    generalize key a = x at *
    generalize key b = y at *
    have hrank : ∀ c : Nat, ∀ k : Int, (c < 9223372036854775808 ∧ k = c) ∨ (9223372036854775808 ≤ c ∧ k = -((c : Int) - 9223372036854775808)) → (if 9223372036854775808 ≤ c then -((c : Int) - 9223372036854775808) - 1 else (c : Int)) = if c < 9223372036854775808 then k else k - 1 := by
      intro c k h
      rcases h with ⟨h1, h2⟩ | ⟨h1, h2⟩
      · rw [if_neg (by omega), if_pos h1, h2]
      · rw [if_pos h1, if_neg (by omega), h2]
    rw [hrank a x hka, hrank b y hkb]
    rcases Int.lt_trichotomy x y with hxy | hxy | hxy
    · rw [decide_eq_false (show ¬ y < x by omega), decide_eq_true hxy]
      have : signV false true = -1 := by decide
      rw [this, if_pos (by decide)]
      unfold cmpV
      rw [if_pos]
      split <;> split <;> omega
    · subst hxy
      rw [decide_eq_false (show ¬ x < x by omega), decide_eq_true rfl, s0, if_neg (by decide)]
      have s1 : signV true false = 1 := by decide
      rw [s1]
      by_cases ea : a = 9223372036854775808
      · by_cases eb : b = 9223372036854775808
        · subst ea; subst eb; unfold cmpV; simp; decide +kernel
        · have hb' : b < 9223372036854775808 := by omega
          have e3 : ((a : Int) == 9223372036854775808) = true := by rw [beq_iff_eq]; omega
          have e4 : ((b : Int) == 9223372036854775808) = false := beq_eq_false_iff_ne.2 (by omega)
          rw [e3, e4, s1]
          unfold cmpV
          rw [if_neg (show ¬ a < 9223372036854775808 by omega), if_pos hb', if_pos (by omega)]
          decide +kernel
      · have e3 : ((a : Int) == 9223372036854775808) = false := beq_eq_false_iff_ne.2 (by omega)
        by_cases eb : b = 9223372036854775808
        · have ha' : a < 9223372036854775808 := by omega
          have e4 : ((b : Int) == 9223372036854775808) = true := by rw [beq_iff_eq]; omega
          have : signV false true = -1 := by decide
          rw [e3, e4, this]
          unfold cmpV
          rw [if_pos ha', if_neg (show ¬ b < 9223372036854775808 by omega), if_neg (by omega), if_pos (by omega)]
          decide +kernel
        · have e4 : ((b : Int) == 9223372036854775808) = false := beq_eq_false_iff_ne.2 (by omega)
          rw [e3, e4, s0]
          unfold cmpV
          rw [if_neg, if_neg]
          · decide +kernel
          · split <;> split <;> omega
          · split <;> split <;> omega
    · rw [decide_eq_true hxy, decide_eq_false (show ¬ x < y by omega)]
      have : signV true false = 1 := by decide
      rw [this, if_pos (by decide)]
      unfold cmpV
      rw [if_neg, if_pos]
      · split <;> split <;> omega
      · split <;> split <;> omega
end Go.Proofs.Ytghekcjmkgajcaa
