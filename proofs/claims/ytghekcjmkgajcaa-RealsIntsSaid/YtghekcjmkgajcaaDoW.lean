/- What the four operations come to, NaNs and all. -/
import Derived.Test.YtghekcjmkgajcaaBasic
import Derived.Laws.FloatBits
import Derived.Test.YtghekcjmkgajcaaMaps
namespace Go.Proofs.Ytghekcjmkgajcaa
open Go.RowKit

/-- What an operation may hand back: the number; or any NaN. -/
def Comes (o : Option Nat) (z : Nat) : Prop := z < 18446744073709551616 ∧ match o with | some r => z = r | none => isNan z = true
/-- .. and what it is then, made the one NaN. -/
def resV (o : Option Nat) : Nat := match o with | some r => canonV r | none => 9221120237041090560
theorem canon_comes {o : Option Nat} {z : Nat} (h : Comes o z) : canonV z = resV o := by
  unfold Comes at h
  cases o with
  | some r => rw [h.2]; rfl
  | none => exact canon_nan z h.2

def arith (op : BinOp) (a b : Nat) : Option Nat := match op with | .add => FloatKind.f64.format.add a b | .sub => FloatKind.f64.format.sub a b | .mul => FloatKind.f64.format.mul a b | _ => FloatKind.f64.format.div a b

theorem arith_lt {op : BinOp} {a b r : Nat} (h : arith op a b = some r) : r < 18446744073709551616 := by
  have hw : (2 : Nat) ^ FloatKind.f64.format.width = 18446744073709551616 := by decide +kernel
  rw [← hw]
  unfold arith at h
  cases op <;> exact Ieee.Format.map_write_lt _ h

theorem nan_num (s u : Nat) (h2 : s < 2) (h1 : u < 4503599627370495) : isNan (s * 9223372036854775808 + 9218868437227405312 + 1 + u) = true ∧ s * 9223372036854775808 + 9218868437227405312 + 1 + u < 18446744073709551616 := by
  unfold isNan rung
  rw [decide_eq_true_iff]
  exact ⟨by omega, by omega⟩
theorem nan_cut (x y t : Nat) : isNan ((Question.nanBits .f64 x y).cut t) = true ∧ (Question.nanBits .f64 x y).cut t < 18446744073709551616 :=
  nan_num (t % 2) (t / 2 % (2 ^ 52 - 1)) (Nat.mod_lt _ (by decide)) (Nat.mod_lt _ (by decide))

theorem run_arith (op : BinOp) (hop : op = .add ∨ op = .sub ∨ op = .mul ∨ op = .quo) (t : TypeId) (a b : Nat) (w : World) :
    ∃ z n, (binOp op t (.float .f64 a) (.float .f64 b)).run Try.prog w = .ok (.float .f64 z) (w.drewN n) ∧ Comes (arith op a b) z := by
  cases h : arith op a b with
  | some r =>
    refine ⟨r, 0, ?_, arith_lt h, rfl⟩
    have hf : floatBits op .f64 a b = some r := by
      rcases hop with rfl | rfl | rfl | rfl <;> exact h
    exact run_float_arith (P := Try.prog) (w := w) op t .f64 a b r hf
  | none =>
    refine ⟨(Question.nanBits .f64 a b).cut (w.tape w.drawn (.nanBits .f64 a b)), 1, ?_, (nan_cut _ _ _).2, (nan_cut _ _ _).1⟩
    rcases hop with rfl | rfl | rfl | rfl
    · have h' : FloatKind.f64.format.add a b = none := h
      simp [binOp, Op.floatArith, h', Sem.run, choose, Question.forced, World.drewN, Result.andThen]
    · have h' : FloatKind.f64.format.sub a b = none := h
      simp [binOp, Op.floatArith, h', Sem.run, choose, Question.forced, World.drewN, Result.andThen]
    · have h' : FloatKind.f64.format.mul a b = none := h
      simp [binOp, Op.floatArith, h', Sem.run, choose, Question.forced, World.drewN, Result.andThen]
    · have h' : FloatKind.f64.format.div a b = none := h
      simp [binOp, Op.floatArith, h', Sem.run, choose, Question.forced, World.drewN, Result.andThen]

def RetF (o : Option Nat) (w : World) (e : Ending) (w' : World) : Prop := ∃ z n, e = .returned (.float .f64 z) ∧ Comes o z ∧ w' = w.drewN n
theorem fl_add (a b : Nat) (w : World) : Calls Try.prog 26 #[.float .f64 a, .float .f64 b] w (RetF (arith .add a b) w) := by
  obtain ⟨z, n, hr, hc⟩ := run_arith .add (by simp) 40 a b w
  have HC := Lib.hid hc
  clear hc
  go_enter Try.func26, Try.ntmps26
  go_wp2
  go_ret
  exact ⟨z, n, rfl, HC.out, rfl⟩
theorem fl_sub (a b : Nat) (w : World) : Calls Try.prog 27 #[.float .f64 a, .float .f64 b] w (RetF (arith .sub a b) w) := by
  obtain ⟨z, n, hr, hc⟩ := run_arith .sub (by simp) 40 a b w
  have HC := Lib.hid hc
  clear hc
  go_enter Try.func27, Try.ntmps27
  go_wp2
  go_ret
  exact ⟨z, n, rfl, HC.out, rfl⟩
theorem fl_mul (a b : Nat) (w : World) : Calls Try.prog 28 #[.float .f64 a, .float .f64 b] w (RetF (arith .mul a b) w) := by
  obtain ⟨z, n, hr, hc⟩ := run_arith .mul (by simp) 40 a b w
  have HC := Lib.hid hc
  clear hc
  go_enter Try.func28, Try.ntmps28
  go_wp2
  go_ret
  exact ⟨z, n, rfl, HC.out, rfl⟩
theorem fl_quo (a b : Nat) (w : World) : Calls Try.prog 29 #[.float .f64 a, .float .f64 b] w (RetF (arith .quo a b) w) := by
  obtain ⟨z, n, hr, hc⟩ := run_arith .quo (by simp) 40 a b w
  have HC := Lib.hid hc
  clear hc
  go_enter Try.func29, Try.ntmps29
  go_wp2
  go_ret
  exact ⟨z, n, rfl, HC.out, rfl⟩
theorem bits_any (z : Nat) (w : World) : Calls Try.prog 30 #[.float .f64 z] w (Ret (.int .u64 (canonV z : Nat)) w) := by
  have h := run_bits z
  go_enter Try.func30, Try.ntmps30
  go_wp2_with fail
  refine (canon_any z _).mono ?_
  rintro e w' ⟨rfl, rfl⟩
  go_wp2_with fail
  go_ret
  exact ⟨rfl, rfl⟩
theorem refbits_any (z : Nat) (hz : z < 18446744073709551616) (w : World) : Calls Try.prog 32 #[.float .f64 z] w (Ret (.int .u64 (canonV z : Nat)) w) := by
  have h := run_bits z
  go_enter Try.func32, Try.ntmps32
  go_wp2_with fail
  refine (refcanon_any z hz _).mono ?_
  rintro e w' ⟨rfl, rfl⟩
  go_wp2_with fail
  go_ret
  exact ⟨rfl, rfl⟩

def doV (s : ByteArray) (a b : Nat) : Nat × Int :=
  if s = ⟨#[43]⟩ then (resV (arith .add a b), 0) else if s = ⟨#[45]⟩ then (resV (arith .sub a b), 0) else if s = ⟨#[42]⟩ then (resV (arith .mul a b), 0) else
  if s = ⟨#[47]⟩ then (resV (arith .quo a b), 0) else (0, 2)
def RetD (p : Nat × Int) (w : World) (e : Ending) (w' : World) : Prop := e = .returned (.tuple #[.int .u64 (p.1 : Nat), .int .i64 p.2]) ∧ ∃ n, w' = w.drewN n

theorem do_add (a b : Nat) (w : World) : Calls Try.prog 12 #[.string ⟨#[43]⟩, .int .u64 a, .int .u64 b] w (RetD (resV (arith .add a b), 0) w) := by
  have ha := run_frombits a
  have hb := run_frombits b
  have hf := Lib.hid (fl_add a b)
  go_enter Try.func12, Try.ntmps12
  go_wp2_with (first | (go_at_call 25; go_in))
  refine (hf.out _).mono ?_
  rintro e w' ⟨z, n, rfl, hc, rfl⟩
  have HC := Lib.hid (canon_comes hc)
  clear hc
  go_wp2_with fail
  refine (bits_any z _).mono ?_
  rintro e w' ⟨rfl, rfl⟩
  rw [HC.out]
  go_wp2_with fail
  go_ret2
  exact ⟨rfl, n, rfl⟩
theorem refdo_add (a b : Nat) (w : World) : Calls Try.prog 13 #[.string ⟨#[43]⟩, .int .u64 a, .int .u64 b] w (RetD (resV (arith .add a b), 0) w) := by
  have ha := run_frombits a
  have hb := run_frombits b
  obtain ⟨z, n, hr, hc⟩ := run_arith .add (by simp) 40 a b w
  have hz := hc.1
  have HC := Lib.hid (canon_comes hc)
  clear hc
  go_enter Try.func13, Try.ntmps13
  go_wp2_with (first | (go_at_call 31; go_in))
  refine (refbits_any z hz _).mono ?_
  rintro e w' ⟨rfl, rfl⟩
  rw [HC.out]
  go_wp2_with fail
  go_ret2
  exact ⟨rfl, n, rfl⟩

theorem do_sub (a b : Nat) (w : World) : Calls Try.prog 12 #[.string ⟨#[45]⟩, .int .u64 a, .int .u64 b] w (RetD (resV (arith .sub a b), 0) w) := by
  have ha := run_frombits a
  have hb := run_frombits b
  have hf := Lib.hid (fl_sub a b)
  go_enter Try.func12, Try.ntmps12
  go_wp2_with (first | (go_at_call 25; go_in))
  refine (hf.out _).mono ?_
  rintro e w' ⟨z, n, rfl, hc, rfl⟩
  have HC := Lib.hid (canon_comes hc)
  clear hc
  go_wp2_with fail
  refine (bits_any z _).mono ?_
  rintro e w' ⟨rfl, rfl⟩
  rw [HC.out]
  go_wp2_with fail
  go_ret2
  exact ⟨rfl, n, rfl⟩
theorem refdo_sub (a b : Nat) (w : World) : Calls Try.prog 13 #[.string ⟨#[45]⟩, .int .u64 a, .int .u64 b] w (RetD (resV (arith .sub a b), 0) w) := by
  have ha := run_frombits a
  have hb := run_frombits b
  obtain ⟨z, n, hr, hc⟩ := run_arith .sub (by simp) 40 a b w
  have hz := hc.1
  have HC := Lib.hid (canon_comes hc)
  clear hc
  go_enter Try.func13, Try.ntmps13
  go_wp2_with (first | (go_at_call 31; go_in))
  refine (refbits_any z hz _).mono ?_
  rintro e w' ⟨rfl, rfl⟩
  rw [HC.out]
  go_wp2_with fail
  go_ret2
  exact ⟨rfl, n, rfl⟩

theorem do_mul (a b : Nat) (w : World) : Calls Try.prog 12 #[.string ⟨#[42]⟩, .int .u64 a, .int .u64 b] w (RetD (resV (arith .mul a b), 0) w) := by
  have ha := run_frombits a
  have hb := run_frombits b
  have hf := Lib.hid (fl_mul a b)
  go_enter Try.func12, Try.ntmps12
  go_wp2_with (first | (go_at_call 25; go_in))
  refine (hf.out _).mono ?_
  rintro e w' ⟨z, n, rfl, hc, rfl⟩
  have HC := Lib.hid (canon_comes hc)
  clear hc
  go_wp2_with fail
  refine (bits_any z _).mono ?_
  rintro e w' ⟨rfl, rfl⟩
  rw [HC.out]
  go_wp2_with fail
  go_ret2
  exact ⟨rfl, n, rfl⟩
theorem refdo_mul (a b : Nat) (w : World) : Calls Try.prog 13 #[.string ⟨#[42]⟩, .int .u64 a, .int .u64 b] w (RetD (resV (arith .mul a b), 0) w) := by
  have ha := run_frombits a
  have hb := run_frombits b
  obtain ⟨z, n, hr, hc⟩ := run_arith .mul (by simp) 40 a b w
  have hz := hc.1
  have HC := Lib.hid (canon_comes hc)
  clear hc
  go_enter Try.func13, Try.ntmps13
  go_wp2_with (first | (go_at_call 31; go_in))
  refine (refbits_any z hz _).mono ?_
  rintro e w' ⟨rfl, rfl⟩
  rw [HC.out]
  go_wp2_with fail
  go_ret2
  exact ⟨rfl, n, rfl⟩

theorem do_quo (a b : Nat) (w : World) : Calls Try.prog 12 #[.string ⟨#[47]⟩, .int .u64 a, .int .u64 b] w (RetD (resV (arith .quo a b), 0) w) := by
  have ha := run_frombits a
  have hb := run_frombits b
  have hf := Lib.hid (fl_quo a b)
  go_enter Try.func12, Try.ntmps12
  go_wp2_with (first | (go_at_call 25; go_in))
  refine (hf.out _).mono ?_
  rintro e w' ⟨z, n, rfl, hc, rfl⟩
  have HC := Lib.hid (canon_comes hc)
  clear hc
  go_wp2_with fail
  refine (bits_any z _).mono ?_
  rintro e w' ⟨rfl, rfl⟩
  rw [HC.out]
  go_wp2_with fail
  go_ret2
  exact ⟨rfl, n, rfl⟩
theorem refdo_quo (a b : Nat) (w : World) : Calls Try.prog 13 #[.string ⟨#[47]⟩, .int .u64 a, .int .u64 b] w (RetD (resV (arith .quo a b), 0) w) := by
  have ha := run_frombits a
  have hb := run_frombits b
  obtain ⟨z, n, hr, hc⟩ := run_arith .quo (by simp) 40 a b w
  have hz := hc.1
  have HC := Lib.hid (canon_comes hc)
  clear hc
  go_enter Try.func13, Try.ntmps13
  go_wp2_with (first | (go_at_call 31; go_in))
  refine (refbits_any z hz _).mono ?_
  rintro e w' ⟨rfl, rfl⟩
  rw [HC.out]
  go_wp2_with fail
  go_ret2
  exact ⟨rfl, n, rfl⟩

theorem do_none (s : ByteArray) (h1 : (s.toList == [43]) = false) (h2 : (s.toList == [45]) = false) (h3 : (s.toList == [42]) = false) (h4 : (s.toList == [47]) = false) (a b : Nat) (w : World) :
    Calls Try.prog 12 #[.string s, .int .u64 a, .int .u64 b] w (RetD (0, 2) w) := by
  go_enter Try.func12, Try.ntmps12
  go_wp2_with fail
  go_ret2
  exact ⟨rfl, 0, rfl⟩
theorem refdo_none (s : ByteArray) (h1 : (s.toList == [43]) = false) (h2 : (s.toList == [45]) = false) (h3 : (s.toList == [42]) = false) (h4 : (s.toList == [47]) = false) (a b : Nat) (w : World) :
    Calls Try.prog 13 #[.string s, .int .u64 a, .int .u64 b] w (RetD (0, 2) w) := by
  have ha := run_frombits a
  have hb := run_frombits b
  go_enter Try.func13, Try.ntmps13
  go_wp2
  go_ret2
  exact ⟨rfl, 0, rfl⟩
theorem do_any (s : ByteArray) (a b : Nat) (w : World) : Calls Try.prog 12 #[.string s, .int .u64 a, .int .u64 b] w (RetD (doV s a b) w) ∧ Calls Try.prog 13 #[.string s, .int .u64 a, .int .u64 b] w (RetD (doV s a b) w) := by
  unfold doV
  by_cases h1 : s = ⟨#[43]⟩
  · subst h1; rw [if_pos rfl]; exact ⟨do_add a b w, refdo_add a b w⟩
  · rw [if_neg h1]
    by_cases h2 : s = ⟨#[45]⟩
    · subst h2; rw [if_pos rfl]; exact ⟨do_sub a b w, refdo_sub a b w⟩
    · rw [if_neg h2]
      by_cases h3 : s = ⟨#[42]⟩
      · subst h3; rw [if_pos rfl]; exact ⟨do_mul a b w, refdo_mul a b w⟩
      · rw [if_neg h3]
        by_cases h4 : s = ⟨#[47]⟩
        · subst h4; rw [if_pos rfl]; exact ⟨do_quo a b w, refdo_quo a b w⟩
        · rw [if_neg h4]
          exact ⟨do_none s (ba_list_ne h1) (ba_list_ne h2) (ba_list_ne h3) (ba_list_ne h4) a b w, refdo_none s (ba_list_ne h1) (ba_list_ne h2) (ba_list_ne h3) (ba_list_ne h4) a b w⟩
end Go.Proofs.Ytghekcjmkgajcaa
