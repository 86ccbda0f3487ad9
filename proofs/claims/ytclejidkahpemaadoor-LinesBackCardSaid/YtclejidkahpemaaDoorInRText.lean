/- The reference's Text. -/
import Derived.Test.YtclejidkahpemaaDoorInText
import Derived.Laws.BytesArg
namespace Go.Proofs.YtclejidkahpemaaDoor
open Go.RowKit
attribute [local irreducible] ByteArray.extract ByteArray.toList

theorem u64_wrap (x : Int) : IntKind.u64.wrap x = x % 18446744073709551616 := by simp [IntKind.wrap, IntKind.bits, IntKind.signed]
theorem far_neg (a : Int) (w : World) (h : a < 0) (h1 : -9223372036854775808 ≤ a) : Calls Tryd.prog 51 #[.int .i64 a] w fun e w' => e = .returned (.int .u64 (-a)) ∧ w = w' := by
  go_enter Tryd.func51, Tryd.ntmps51
  go_wp2
  go_ret
  exact ⟨by
    show Ending.returned (.int .u64 (IntKind.u64.wrap (-(IntKind.u64.wrap a)))) = _
    rw [u64_wrap, u64_wrap]; congr 2; omega, rfl⟩
theorem far_pos (a : Int) (w : World) (h : 0 ≤ a) (h1 : a ≤ 9223372036854775807) : Calls Tryd.prog 51 #[.int .i64 a] w fun e w' => e = .returned (.int .u64 a) ∧ w = w' := by
  have h' : ¬ a < 0 := by omega
  go_enter Tryd.func51, Tryd.ntmps51
  go_wp2
  go_ret
  exact ⟨rfl, rfl⟩

def RetS (m : Nat) (w : World) (e : Ending) (w' : World) : Prop := e = .returned (.string (sOf (decs m))) ∧ Below w.heap.size w w'

theorem refdigits_one (m : Nat) (h : m < 10) (w : World) : Calls Tryd.prog 50 #[.int .u64 m] w (RetS m w) := by
  have hd := Lib.hid (decs_lt h)
  have hm : ¬ (9 : Int) < m := by omega
  have hcv := run_convert_bytes_arg (P := Tryd.prog) (w.alloc (.cells #[.int .u8 (48 + (m : Int))] 5)) 88 5 Tryd.underlying88 Tryd.underlying5 w.heap.size 0 1 1 [48 + (m : Int)] rfl (fun i hi => by
    obtain rfl : i = 0 := by omega
    exact (cell_new1 w _ 5).1) 9 Tryd.underlying9
  go_enter Tryd.func50, Tryd.ntmps50
  go_wp2
  go_ret
  refine ⟨?_, (Below.refl _ _).alloc (Nat.le_refl _) _⟩
  rw [hd.out]
  rfl
theorem decs_small (m : Nat) (h : m < 18446744073709551616) : (decs m).length ≤ 20 := decs_len m 20 (by omega) (by omega)
theorem refdigits_any (m : Nat) (h : m < 18446744073709551616) : ∀ w, Calls Tryd.prog 50 #[.int .u64 m] w (RetS m w) := by
  induction m using Nat.strongRecOn with
  | _ m ih =>
    intro w
    by_cases h10 : m < 10
    · exact refdigits_one m h10 w
    · have hd := Lib.hid (decs_ge h10)
      have h1 := Lib.hid (ih (m / 10) (by omega) (by omega))
      have h2 := Lib.hid (decs_lt (n := m % 10) (by omega))
      have h3 := Lib.hid (refdigits_one (m % 10) (by omega))
      have hl1 : (sOf (decs (m / 10))).size ≤ 20 := by rw [sOf_size]; exact decs_small _ (by omega)
      have hl2 : (sOf (decs (m % 10))).size ≤ 20 := by rw [sOf_size]; exact decs_small _ (by omega)
      have hsum : ¬ 9223372036854775807 < (sOf (decs (m / 10))).size + (sOf (decs (m % 10))).size := by omega
      have hgt : (9 : Int) < m := by omega
      clear ih
      go_enter Tryd.func50, Tryd.ntmps50
      go_wp2_with fail
      refine (h1.out _).mono ?_
      rintro e w1 ⟨rfl, hb1⟩
      go_wp2_with fail
      refine (h3.out _).mono ?_
      rintro e w2 ⟨rfl, hb2⟩
      go_wp2_with fail
      go_ret
      refine ⟨?_, hb1.trans (hb2.mono hb1.size)⟩
      rw [hd.out]
      show Ending.returned (.string (sOf (decs (m / 10)) ++ sOf (decs (m % 10)))) = _
      rw [sOf_app, h2.out]

theorem reftext_any (n : Int) (w : World) (h0 : -9223372036854775808 ≤ n) (h1 : n ≤ 9223372036854775807) : Calls Tryd.prog 41 #[.int .i64 n] w (RetT n w) := by
  rcases Int.lt_or_le n 0 with hn | hn
  · have hT : Hid (sOf (textL n) = sOf [45] ++ sOf (decs n.natAbs)) := by
      show sOf (textL n) = _
      rw [sOf_app]; unfold textL; rw [if_pos hn]; rfl
    have hab : -n = ((n.natAbs : Nat) : Int) := by omega
    have hf := far_neg n w hn h0
    rw [hab] at hf
    have HF := Lib.hid hf
    have hd := Lib.hid (refdigits_any n.natAbs (by omega))
    have hl : (sOf (decs n.natAbs)).size ≤ 20 := by rw [sOf_size]; exact decs_small _ (by omega)
    have hsum : ¬ 9223372036854775807 < 1 + (sOf (decs n.natAbs)).size := by omega
    clear hf hab
    go_enter Tryd.func41, Tryd.ntmps41
    go_wp2_with fail
    refine HF.out.mono ?_
    rintro e w1 ⟨rfl, rfl⟩
    go_wp2_with fail
    refine (hd.out _).mono ?_
    rintro e w2 ⟨rfl, hb2⟩
    go_wp2_with fail
    go_ret
    exact ⟨by rw [hT.out]; rfl, hb2⟩
  · have hT : Hid (sOf (textL n) = sOf (decs n.natAbs)) := by
      show sOf (textL n) = _
      unfold textL; rw [if_neg (by omega)]
    have hab : n = ((n.natAbs : Nat) : Int) := by omega
    have hf := far_pos n w hn h1
    have hf2 : Calls Tryd.prog 51 #[.int .i64 n] w fun e w' => e = .returned (.int .u64 ((n.natAbs : Nat) : Int)) ∧ w = w' := by rw [← hab]; exact hf
    have HF := Lib.hid hf2
    have hd := Lib.hid (refdigits_any n.natAbs (by omega))
    clear hf hf2 hab
    go_enter Tryd.func41, Tryd.ntmps41
    go_wp2_with fail
    refine HF.out.mono ?_
    rintro e w1 ⟨rfl, rfl⟩
    go_wp2_with fail
    refine (hd.out _).mono ?_
    rintro e w2 ⟨rfl, hb2⟩
    go_wp2_with fail
    go_ret
    exact ⟨by rw [hT.out]; rfl, hb2⟩
end Go.Proofs.YtclejidkahpemaaDoor
