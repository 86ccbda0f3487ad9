/- What the reference's Do, far and Neg come to. -/
import Derived.Test.YtcdnmkcnagkkhaaDo
namespace Go.Proofs.Ytcdnmkcnagkkhaa
open Go.RowKit

theorem neg_any (a : Int) (w : World) : Calls Try.prog 16 #[.int .i64 a] w fun e w' => e = .returned (.int .i64 (wrap64 (-a))) ∧ w = w' := by
  go_enter Try.func16, Try.ntmps16
  go_wp2
  go_ret
  exact ⟨rfl, rfl⟩
theorem u64_wrap (x : Int) : IntKind.u64.wrap x = x % 18446744073709551616 := by simp [IntKind.wrap, IntKind.bits, IntKind.signed]
theorem neg_same (a : Int) : wrap64 (IntKind.u64.wrap (-(IntKind.u64.wrap a))) = wrap64 (-a) := by
  rw [u64_wrap, u64_wrap]; unfold wrap64; omega
theorem refneg_any (a : Int) (w : World) : Calls Try.prog 17 #[.int .i64 a] w fun e w' => e = .returned (.int .i64 (wrap64 (-a))) ∧ w = w' := by
  go_enter Try.func17, Try.ntmps17
  go_wp2
  go_ret
  exact ⟨by rw [← neg_same]; rfl, rfl⟩
theorem far_neg (a : Int) (w : World) (h : a < 0) (h1 : -9223372036854775808 ≤ a) : Calls Try.prog 23 #[.int .i64 a] w fun e w' => e = .returned (.int .u64 (-a)) ∧ w = w' := by
  go_enter Try.func23, Try.ntmps23
  go_wp2
  go_ret
  exact ⟨by
    show Ending.returned (.int .u64 (IntKind.u64.wrap (-(IntKind.u64.wrap a)))) = _
    rw [u64_wrap, u64_wrap]; congr 2; omega, rfl⟩
theorem far_pos (a : Int) (w : World) (h : 0 ≤ a) (h1 : a ≤ 9223372036854775807) : Calls Try.prog 23 #[.int .i64 a] w fun e w' => e = .returned (.int .u64 a) ∧ w = w' := by
  have h' : ¬ a < 0 := by omega
  go_enter Try.func23, Try.ntmps23
  go_wp2
  go_ret
  exact ⟨rfl, rfl⟩

def Ret2 (p : Int × Int) (w : World) (e : Ending) (w' : World) : Prop := e = .returned (.tuple #[.int .i64 p.1, .int .i64 p.2]) ∧ w = w'
theorem ret2 {x y : Int} {p : Int × Int} {w : World} (h : (x, y) = p) : Ret2 p w (.returned (.tuple #[.int .i64 x, .int .i64 y])) w := by subst h; exact ⟨rfl, rfl⟩

theorem add_same (a b : Int) : wrap64 (IntKind.u64.wrap (IntKind.u64.wrap a + IntKind.u64.wrap b)) = wrap64 (a + b) := by
  rw [u64_wrap, u64_wrap, u64_wrap]; unfold wrap64; omega
theorem sub_same (a b : Int) : wrap64 (IntKind.u64.wrap (IntKind.u64.wrap a - IntKind.u64.wrap b)) = wrap64 (a - b) := by
  rw [u64_wrap, u64_wrap, u64_wrap]; unfold wrap64; omega
theorem mul_same (a b : Int) : wrap64 (IntKind.u64.wrap (IntKind.u64.wrap a * IntKind.u64.wrap b)) = wrap64 (a * b) := by
  have e : (IntKind.u64.wrap (IntKind.u64.wrap a * IntKind.u64.wrap b)) % 18446744073709551616 = (a * b) % 18446744073709551616 := by
    rw [u64_wrap, u64_wrap, u64_wrap, Int.emod_emod_of_dvd _ (Int.dvd_refl _), ← Int.mul_emod]
  unfold wrap64; omega

theorem refdo_add (a b : Int) (w : World) : Calls Try.prog 15 #[.string ⟨#[43]⟩, .int .i64 a, .int .i64 b] w (Ret2 (wrap64 (a + b), 0) w) := by
  go_enter Try.func15, Try.ntmps15
  go_wp2
  go_ret2
  exact ret2 (by rw [← add_same])
theorem refdo_sub (a b : Int) (w : World) : Calls Try.prog 15 #[.string ⟨#[45]⟩, .int .i64 a, .int .i64 b] w (Ret2 (wrap64 (a - b), 0) w) := by
  go_enter Try.func15, Try.ntmps15
  go_wp2
  go_ret2
  exact ret2 (by rw [← sub_same])
theorem refdo_mul (a b : Int) (w : World) : Calls Try.prog 15 #[.string ⟨#[42]⟩, .int .i64 a, .int .i64 b] w (Ret2 (wrap64 (a * b), 0) w) := by
  go_enter Try.func15, Try.ntmps15
  go_wp2
  go_ret2
  exact ret2 (by rw [← mul_same])
theorem refdo_quo0 (a : Int) (w : World) : Calls Try.prog 15 #[.string ⟨#[47]⟩, .int .i64 a, .int .i64 0] w (Ret2 (0, 3) w) := by
  go_enter Try.func15, Try.ntmps15
  go_wp2
  go_ret2
  exact ret2 rfl
theorem refdo_rem0 (a : Int) (w : World) : Calls Try.prog 15 #[.string ⟨#[37]⟩, .int .i64 a, .int .i64 0] w (Ret2 (0, 3) w) := by
  go_enter Try.func15, Try.ntmps15
  go_wp2
  go_ret2
  exact ret2 rfl
theorem refdo_none (s : ByteArray) (h1 : s ≠ ⟨#[43]⟩) (h2 : s ≠ ⟨#[45]⟩) (h3 : s ≠ ⟨#[42]⟩) (h4 : s ≠ ⟨#[47]⟩) (h5 : s ≠ ⟨#[37]⟩) (a b : Int) (w : World) :
    Calls Try.prog 15 #[.string s, .int .i64 a, .int .i64 b] w (Ret2 (0, 2) w) := by
  have n1 := ba_list_ne h1
  have n2 := ba_list_ne h2
  have n3 := ba_list_ne h3
  have n4 := ba_list_ne h4
  have n5 := ba_list_ne h5
  clear h1 h2 h3 h4 h5
  go_enter Try.func15, Try.ntmps15
  go_wp2
  go_ret2
  exact ret2 rfl
end Go.Proofs.Ytcdnmkcnagkkhaa
