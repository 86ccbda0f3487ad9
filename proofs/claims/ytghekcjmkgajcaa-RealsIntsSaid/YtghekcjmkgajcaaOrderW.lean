/- reals.Order and the reference's, walked. -/
import Derived.Test.YtghekcjmkgajcaaOrder
import Derived.Test.YtghekcjmkgajcaaRange
import Derived.Deep.RegionWith
namespace Go.Proofs.Ytghekcjmkgajcaa
open Go.RowKit

def RetB (v : Value) (w : World) (e : Ending) (w' : World) : Prop := e = .returned v ∧ Below w.heap.size w w'
theorem ret_from {f : FuncId} {args : Array Value} {v : Value} {w0 w1 : World} (hb : Below w0.heap.size w0 w1) (c : Calls Try.prog f args w1 (RetB v w1)) : Calls Try.prog f args w1 (RetB v w0) :=
  c.mono fun _ _ h => ⟨h.1, hb.trans (h.2.mono hb.size)⟩

theorem row3 (w : World) (x y z : Int) : (w.alloc (.cells #[.int .i64 x, .int .i64 y, .int .i64 z] 3)).cell? ⟨w.heap.size, 0, none⟩ = some (.int .i64 x) ∧ (w.alloc (.cells #[.int .i64 x, .int .i64 y, .int .i64 z] 3)).cell? ⟨w.heap.size, 1, none⟩ = some (.int .i64 y) ∧ (w.alloc (.cells #[.int .i64 x, .int .i64 y, .int .i64 z] 3)).cell? ⟨w.heap.size, 2, none⟩ = some (.int .i64 z) := by
  have h := World.alloc_heap_new w (.cells #[.int .i64 x, .int .i64 y, .int .i64 z] 3)
  refine ⟨?_, ?_, ?_⟩ <;> (unfold World.cell?; rw [h]; rfl)

set_option maxHeartbeats 800000 in
theorem order_any (a b : Nat) (ha : a < 18446744073709551616) (hb : b < 18446744073709551616) (w : World) : Calls Try.prog 7 #[.int .u64 a, .int .u64 b] w (RetB (.int .i64 (orderV a b)) w) := by
  have HO := Lib.hid (raw_order a b ha hb)
  have h1 := Lib.hid (canon_any a)
  have h2 := Lib.hid (canon_any b)
  unfold rawV at HO
  generalize canonV a = x at *
  generalize canonV b = y at *
  have b1 := sign_bd ((x : Int) == 9221120237041090560) ((y : Int) == 9221120237041090560)
  have b2 := sign_bd (lessV y x) (lessV x y)
  have b3 := sign_bd ((x : Int) == 9223372036854775808) ((y : Int) == 9223372036854775808)
  have b4 := sign_bd (equalV x y) false
  have hs1 := Lib.hid (sign_any ((x : Int) == 9221120237041090560) ((y : Int) == 9221120237041090560))
  have hs2 := Lib.hid (sign_any (lessV y x) (lessV x y))
  have hs3 := Lib.hid (sign_any ((x : Int) == 9223372036854775808) ((y : Int) == 9223372036854775808))
  have hs4 := Lib.hid (sign_any (equalV x y) false)
  generalize signV ((x : Int) == 9221120237041090560) ((y : Int) == 9221120237041090560) = s1 at *
  generalize signV (lessV y x) (lessV x y) = s2 at *
  generalize signV ((x : Int) == 9223372036854775808) ((y : Int) == 9223372036854775808) = s3 at *
  generalize signV (equalV x y) false = s4 at *
  go_enter Try.func7, Try.ntmps7
  go_wp2_with fail
  refine (h1.out _).mono ?_
  rintro e w' ⟨rfl, rfl⟩
  go_wp2_with fail
  refine (h2.out _).mono ?_
  rintro e w' ⟨rfl, rfl⟩
  go_wp2_with fail
  refine (hs1.out _).mono ?_
  rintro e w' ⟨rfl, rfl⟩
  go_wp2_with fail
  refine (less_any y x _).mono ?_
  rintro e w' ⟨rfl, rfl⟩
  go_wp2_with fail
  refine (less_any x y _).mono ?_
  rintro e w' ⟨rfl, rfl⟩
  go_wp2_with fail
  refine (hs2.out _).mono ?_
  rintro e w' ⟨rfl, rfl⟩
  go_wp2_with fail
  refine (hs3.out _).mono ?_
  rintro e w' ⟨rfl, rfl⟩
  go_wp2_with fail
  refine (equal_any x y _).mono ?_
  rintro e w' ⟨rfl, rfl⟩
  go_wp2_with fail
  refine (hs4.out _).mono ?_
  rintro e w' ⟨rfl, rfl⟩
  go_wp2_with fail
  refine (first_any _ _ _ _ _ (row3 _ _ _ _).1 (row3 _ _ _ _).2.1 (row3 _ _ _ _).2.2).mono ?_
  rintro e w' ⟨rfl, rfl⟩
  have he : firstV s1 s2 (wrap64 (-s3 * s4)) = orderV a b := by rw [← HO.out, wrap_small (-s3) (by omega)]
  rw [he]
  go_wp2_with fail
  go_ret
  exact ⟨rfl, (Below.refl _ _).alloc (Nat.le_refl _) _⟩

theorem rank_any (a : Nat) (ha : a < 18446744073709551616) (w : World) : Calls Try.prog 33 #[.int .u64 a] w (Ret (.int .i64 (rankV a)) w) := by
  have h1 := Lib.hid (refcanon_any a ha)
  have hlt := canon_lt a ha
  unfold rankV
  generalize canonV a = x at *
  by_cases hx : 9223372036854775808 ≤ x
  · rw [if_pos hx]
    have hx' : (9223372036854775808 : Int) ≤ x := by omega
    have hl' : (x : Int) ≤ 18446744073709551615 := by omega
    clear hx hlt ha
    go_enter Try.func33, Try.ntmps33
    go_wp2_with fail
    refine (h1.out _).mono ?_
    rintro e w' ⟨rfl, rfl⟩
    go_wp2_with fail
    go_ret
    exact ⟨rfl, rfl⟩
  · rw [if_neg hx]
    have hx' : decide ((9223372036854775808 : Int) ≤ x) = false := decide_eq_false (by omega)
    have hl' : (x : Int) ≤ 9223372036854775807 := by omega
    clear hx hlt ha
    go_enter Try.func33, Try.ntmps33
    go_wp2_with fail
    refine (h1.out _).mono ?_
    rintro e w' ⟨rfl, rfl⟩
    go_wp2_with fail
    go_ret
    exact ⟨rfl, rfl⟩
theorem reforder_any (a b : Nat) (ha : a < 18446744073709551616) (hb : b < 18446744073709551616) (w : World) : Calls Try.prog 19 #[.int .u64 a, .int .u64 b] w (Ret (.int .i64 (orderV a b)) w) := by
  have h1 := Lib.hid (rank_any a ha)
  have h2 := Lib.hid (rank_any b hb)
  unfold orderV
  generalize rankV a = x at *
  generalize rankV b = y at *
  have hE : Hid ((x < y → cmpV x y = -1) ∧ (y < x → cmpV x y = 1) ∧ (x = y → cmpV x y = 0)) := by
    unfold cmpV
    exact ⟨fun h => if_pos h, fun h => by rw [if_neg (by omega), if_pos h], fun h => by rw [if_neg (by omega), if_neg (by omega)]⟩
  rcases Int.lt_trichotomy x y with h | h | h
  · rw [hE.out.1 h]
    go_enter Try.func19, Try.ntmps19
    go_wp2_with (first | (go_at_call_of 33 (Value.int IntKind.u64 a); refine (h1.out _).mono ?_; rintro e w' ⟨rfl, rfl⟩) | (go_at_call_of 33 (Value.int IntKind.u64 b); refine (h2.out _).mono ?_; rintro e w' ⟨rfl, rfl⟩))
    go_ret
    exact ⟨rfl, rfl⟩
  · rw [hE.out.2.2 h]
    have n1 : ¬ x < y := by omega
    have n2 : ¬ y < x := by omega
    clear h
    go_enter Try.func19, Try.ntmps19
    go_wp2_with (first | (go_at_call_of 33 (Value.int IntKind.u64 a); refine (h1.out _).mono ?_; rintro e w' ⟨rfl, rfl⟩) | (go_at_call_of 33 (Value.int IntKind.u64 b); refine (h2.out _).mono ?_; rintro e w' ⟨rfl, rfl⟩))
    go_ret
    exact ⟨rfl, rfl⟩
  · rw [hE.out.2.1 h]
    have n1 : ¬ x < y := by omega
    go_enter Try.func19, Try.ntmps19
    go_wp2_with (first | (go_at_call_of 33 (Value.int IntKind.u64 a); refine (h1.out _).mono ?_; rintro e w' ⟨rfl, rfl⟩) | (go_at_call_of 33 (Value.int IntKind.u64 b); refine (h2.out _).mono ?_; rintro e w' ⟨rfl, rfl⟩))
    go_ret
    exact ⟨rfl, rfl⟩

theorem does_yes (s : ByteArray) (a b x : Nat) (w : World) (h : doV s a b = (x, 0)) : Calls Try.prog 22 #[.string s, .int .u64 a, .int .u64 b, .int .u64 x] w (RetB (.bool true) w) := by
  have H := Lib.hid h
  clear h
  have h1 : ((x : Int) == x) = true := by simp
  go_enter Try.func22, Try.ntmps22
  go_wp2_with fail
  refine (do_any s a b _).1.mono ?_
  rw [H.out]
  rintro e w1 ⟨rfl, n, rfl⟩
  go_wp2_with fail
  go_ret
  exact ⟨rfl, (Only.drewN (fun _ => False) w n).below (Nat.le_refl _) (fun _ h => h.elim)⟩

def ofIntV (n : Int) : Nat := FloatKind.f64.nearest n
theorem ofint_any (n : Int) (w : World) : Calls Try.prog 20 #[.int .i64 n] w (Ret (.int .u64 (canonV (ofIntV n) : Nat)) w) := by
  go_enter Try.func20, Try.ntmps20
  go_wp2_with fail
  refine (bits_any _ _).mono ?_
  rintro e w1 ⟨rfl, rfl⟩
  go_wp2_with fail
  go_ret
  exact ⟨rfl, rfl⟩
end Go.Proofs.Ytghekcjmkgajcaa
