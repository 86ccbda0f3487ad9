/- OfInt, ToInt, RealsInts, walked. -/
import Derived.Test.YtghekcjmkgajcaaOrderCores
import Derived.Test.YtghekcjmkgajcaaExact2
import Derived.Laws.FloatArith
namespace Go.Proofs.Ytghekcjmkgajcaa
open Go.RowKit
attribute [local irreducible] ByteArray.extract ByteArray.toList

theorem ofInt_word (n : Int) (h0 : -9223372036854775808 ≤ n) (h1 : n ≤ 9223372036854775807) : canonV (ofIntV n) = wordI n := by
  have hl := log_abs n h0 h1
  have : ofIntV n = wordI n := nearest_wordI n hl
  rw [this, canon_not _ (wordI_num n hl)]
theorem ofint_w (n : Int) (h0 : -9223372036854775808 ≤ n) (h1 : n ≤ 9223372036854775807) (w : World) : Calls Try.prog 20 #[.int .i64 n] w (Ret (.int .u64 (wordI n : Nat)) w) := by
  rw [← ofInt_word n h0 h1]; exact ofint_any n w

theorem run_trunc (a : Nat) (d : Ieee.Datum) (h : FloatKind.f64.decode a = d) (s : Bool) (m : Nat) (i : Int) (hd : d = .number s m i) (w : World) :
    (callFunc 38 #[.float .f64 a]).run Try.prog w = .ok (.value (.float .f64 (FloatKind.f64.encode (d.integral .zero)))) w := by
  have hrow : ∀ (a : Nat) (w : World), (callFunc 38 #[.float .f64 a]).run Try.prog w = (do pure (Next.value (← Extern.MathFloor.toIntegral "math.archTrunc" .zero #[.float .f64 a]))).run Try.prog w := fun a w => by kernel_rfl
  rw [hrow]
  have hI : Extern.MathFloor.toIntegral "math.archTrunc" .zero #[.float .f64 a] = pure (.float .f64 (FloatKind.f64.encode (d.integral .zero))) := by
    subst hd
    show ((match FloatKind.f64.decode a with
      | .nan s t => if FloatKind.f64.format.quiet t = t then pure (.float .f64 a) else do
        let kept ← choose (.extern "math.Floor,Ceil,Trunc,RoundToEven.signallingNaN kept" 2)
        pure (.float .f64 (if kept == 1 then a else FloatKind.f64.encode (.nan s (FloatKind.f64.format.quiet t))))
      | d => pure (.float .f64 (FloatKind.f64.encode (d.integral .zero)))) : Sem Value) = _
    rw [h]
  rw [hI]
  rfl

theorem trunc_w (a : Int) (h : a.natAbs ≤ 9007199254740992) (w : World) : Calls Try.prog 37 #[.float .f64 (wordI a)] w (Ret (.float .f64 (wordI a)) w) := by
  have hl := log_abs a (by omega) (by omega)
  have hD := read_wordI a h hl
  have hw := whole_exact hD
  obtain ⟨m, p, hr, _⟩ := hD
  have ht := run_trunc (wordI a) _ rfl _ _ _ hr
  have he : FloatKind.f64.encode ((FloatKind.f64.decode (wordI a)).integral .zero) = wordI a := by
    show Ieee.double.write ((Ieee.double.read (wordI a)).integral .zero) = wordI a
    rw [hw]; exact nearest_wordI a hl
  rw [he] at ht
  clear hw hr he
  go_enter Try.func37, Try.ntmps37
  go_wp2
  go_ret
  exact ⟨rfl, rfl⟩

theorem toint_w (a : Int) (h : a.natAbs ≤ 9007199254740992) (w : World) : Calls Try.prog 34 #[.int .u64 (wordI a : Nat)] w (Ret (.tuple #[.int .i64 a, .int .i64 0]) w) := by
  have hl := log_abs a (by omega) (by omega)
  have hf := Lib.hid (run_frombits (wordI a))
  have hk := wordI_key a hl
  have hb := rungN_hi h
  have hn := wordI_num a hl
  have k1 : key 14114281232179134464 = -4890909195324358656 := by decide +kernel
  have k2 : key 4890909195324358656 = 4890909195324358656 := by decide +kernel
  have o1 : FloatKind.f64.format.order (wordI a) 14114281232179134464 = some .gt := by
    show Ieee.double.order _ _ = _
    rw [order_eq, hn, show isNan 14114281232179134464 = false by decide +kernel, if_neg (by decide), k1, cmp_gt]
    rw [hk]; split <;> omega
  have o2 : FloatKind.f64.format.order (wordI a) 4890909195324358656 = some .lt := by
    show Ieee.double.order _ _ = _
    rw [order_eq, hn, show isNan 4890909195324358656 = false by decide +kernel, if_neg (by decide), k2, cmp_lt]
    rw [hk]; split <;> omega
  have hc := fun w => run_convert_float_int (P := Try.prog) w 40 3 .f64 .i64 (wordI a) a (by kernel_rfl) (by kernel_rfl) (by
    unfold floatToIntVal
    rw [show (FloatKind.f64.decode (wordI a)).toInt .zero = some a from toInt_exact (read_wordI a h hl)]
    dsimp only
    rw [if_pos ⟨show (-9223372036854775808 : Int) ≤ a by omega, show a ≤ (9223372036854775807 : Int) by omega⟩])
  have e1 : (FloatKind.f64.format.order (wordI a) 14114281232179134464 == some .gt || FloatKind.f64.format.order (wordI a) 14114281232179134464 == some .eq) = true := by rw [o1]; decide
  have e2 : (FloatKind.f64.format.order (wordI a) 4890909195324358656 == some .lt) = true := by rw [o2]; decide
  clear o1 o2 k1 k2 hn hb hk hl
  go_enter Try.func34, Try.ntmps34
  go_wp2_with fail
  refine (of_any _ _).mono ?_
  rintro e w' ⟨rfl, rfl⟩
  go_wp2_with fail
  refine (trunc_w a h _).mono ?_
  rintro e w' ⟨rfl, rfl⟩
  go_wp2_with fail
  go_ret2
  exact ⟨rfl, rfl⟩

theorem to_yes (a : Int) (h : a.natAbs ≤ 9007199254740992) (w : World) : Calls Try.prog 21 #[.int .u64 (wordI a : Nat), .int .i64 a, .int .i64 0] w (Ret (.bool true) w) := by
  have e1 : (a == a) = true := beq_self_eq_true a
  go_enter Try.func21, Try.ntmps21
  go_wp2_with fail
  refine (toint_w a h _).mono ?_
  rintro e w' ⟨rfl, rfl⟩
  go_wp2_with fail
  go_ret
  exact ⟨rfl, rfl⟩

theorem does_add (a b : Int) (ha : a.natAbs ≤ 67108864) (hb : b.natAbs ≤ 67108864) (h0 : a ≠ 0) (h1 : b ≠ 0) : doV ⟨#[43]⟩ (wordI a) (wordI b) = (wordI (a + b), 0) := by
  have la := log_abs a (by omega) (by omega)
  have lb := log_abs b (by omega) (by omega)
  have lc := log_abs (a + b) (by omega) (by omega)
  have : arith .add (wordI a) (wordI b) = some (wordI (a + b)) := sum_exact (read_wordI a (by omega) la) (read_wordI b (by omega) lb) (by omega)
  unfold doV; rw [if_pos rfl, this]
  show (canonV _, (0 : Int)) = _
  rw [canon_not _ (wordI_num _ lc)]
theorem does_sub (a b : Int) (ha : a.natAbs ≤ 67108864) (hb : b.natAbs ≤ 67108864) (h0 : a ≠ 0) (h1 : b ≠ 0) : doV ⟨#[45]⟩ (wordI a) (wordI b) = (wordI (a - b), 0) := by
  have la := log_abs a (by omega) (by omega)
  have lb := log_abs b (by omega) (by omega)
  have lc := log_abs (a - b) (by omega) (by omega)
  have : arith .sub (wordI a) (wordI b) = some (wordI (a - b)) := by
    rw [Int.sub_eq_add_neg]
    exact sum_exact (read_wordI a (by omega) la) (opp_isD (read_wordI b (by omega) lb) h1) (by omega)
  unfold doV; rw [if_neg (by decide), if_pos rfl, this]
  show (canonV _, (0 : Int)) = _
  rw [canon_not _ (wordI_num _ lc)]
theorem does_mul (a b : Int) (ha : a.natAbs ≤ 67108864) (hb : b.natAbs ≤ 67108864) (h0 : a ≠ 0) (h1 : b ≠ 0) : doV ⟨#[42]⟩ (wordI a) (wordI b) = (wordI (a * b), 0) := by
  have la := log_abs a (by omega) (by omega)
  have lb := log_abs b (by omega) (by omega)
  have hm : (a * b).natAbs ≤ 67108864 * 67108864 := by rw [Int.natAbs_mul]; exact Nat.mul_le_mul ha hb
  have lc := log_abs (a * b) (by omega) (by omega)
  have : arith .mul (wordI a) (wordI b) = some (wordI (a * b)) := prod_exact (read_wordI a (by omega) la) (read_wordI b (by omega) lb) h0 h1 (by omega)
  unfold doV; rw [if_neg (by decide), if_neg (by decide), if_pos rfl, this]
  show (canonV _, (0 : Int)) = _
  rw [canon_not _ (wordI_num _ lc)]
theorem less_w (a b : Int) (ha : a.natAbs ≤ 67108864) (hb : b.natAbs ≤ 67108864) : lessV (wordI a) (wordI b) = decide (a < b) ∧ equalV (wordI a) (wordI b) = (a == b) := by
  have la := log_abs a (by omega) (by omega)
  have lb := log_abs b (by omega) (by omega)
  have ho : FloatKind.f64.format.order (wordI a) (wordI b) = some (compare (key (wordI a)) (key (wordI b))) := by
    show Ieee.double.order _ _ = _
    rw [order_eq, wordI_num a la, wordI_num b lb, if_neg (by decide)]
  unfold lessV equalV
  rw [ho]
  rcases Int.lt_trichotomy a b with h | h | h
  · rw [cmp_lt (key_inj (by omega) (by omega) h), decide_eq_true h, beq_eq_false_iff_ne.2 (show a ≠ b by omega)]; decide
  · subst h
    rw [show compare (key (wordI a)) (key (wordI a)) = .eq by simp [compare, compareOfLessAndEq], decide_eq_false (by omega), show (a == a) = true from beq_self_eq_true a]; exact ⟨rfl, rfl⟩
  · rw [cmp_gt (key_inj (by omega) (by omega) h), decide_eq_false (show ¬ a < b by omega), beq_eq_false_iff_ne.2 (show a ≠ b by omega)]; decide
theorem order_w (m n : Int) (hm0 : -9223372036854775808 ≤ m) (hm1 : m ≤ 9223372036854775807) (hn0 : -9223372036854775808 ≤ n) (hn1 : n ≤ 9223372036854775807) (h : m < n) : decide (orderV (wordI m) (wordI n) > 0) = false := by
  have la := log_abs m hm0 hm1
  have lb := log_abs n hn0 hn1
  have hk := key_mono (Int.le_of_lt h) la lb
  have r1 := rank_num _ (wordI_lt m la) (wordI_num m la)
  have r2 := rank_num _ (wordI_lt n lb) (wordI_num n lb)
  have nz : ∀ n : Int, n.natAbs.log2 < 64 → rung (wordI n) = 0 → rankV (wordI n) = 0 := by
    intro n hl hr
    rw [wordI_rung n hl] at hr
    have : n = 0 := by
      by_cases k : n = 0
      · exact k
      · have := rungN_pos (show n.natAbs ≠ 0 by omega); omega
    subst this
    decide +kernel
  have nz1 := nz m la
  have nz2 := nz n lb
  apply decide_eq_false
  unfold orderV
  rcases cmp_cases (rankV (wordI m)) (rankV (wordI n)) with k | k | k
  · omega
  · omega
  · exfalso
    rcases r1 with ⟨a1, a2, _⟩ | ⟨a1, a2, a3⟩ | ⟨a1, a2, a3⟩ <;> rcases r2 with ⟨b1, b2, _⟩ | ⟨b1, b2, b3⟩ | ⟨b1, b2, b3⟩
    · have := nz1 a1; have := nz2 b1; omega
    · have := nz1 a1; omega
    · have := nz1 a1; omega
    · have := nz2 b1; omega
    · omega
    · omega
    · have := nz2 b1; omega
    · omega
    · omega

end Go.Proofs.Ytghekcjmkgajcaa
