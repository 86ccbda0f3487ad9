/- The reference's quotient and remainder, by the signs. -/
import Derived.Test.YtcdnmkcnagkkhaaRefDo
import Derived.Deep.QuietTactic
import Derived.BigQuiet
import Derived.Deep.RegionWith
namespace Go.Proofs.Ytcdnmkcnagkkhaa
open Go.RowKit
/-- Two numbers; nothing but draws behind it. -/
def RetD (p : Int × Int) (w : World) (e : Ending) (w' : World) : Prop := e = .returned (.tuple #[.int .i64 p.1, .int .i64 p.2]) ∧ ∃ n, w' = w.drewN n
theorem retD {x y : Int} {p : Int × Int} {w : World} {n : Nat} (h : (x, y) = p) : RetD p w (.returned (.tuple #[.int .i64 x, .int .i64 y])) (w.drewN n) := by subst h; exact ⟨rfl, n, rfl⟩

theorem wu (q : Int) : wrap64 (IntKind.u64.wrap q) = wrap64 q := by rw [u64_wrap]; unfold wrap64; omega
theorem wun (q : Int) : wrap64 (IntKind.u64.wrap (-IntKind.u64.wrap (-q))) = wrap64 q := by rw [u64_wrap, u64_wrap]; unfold wrap64; omega
theorem w64_in (n : Int) (h1 : -9223372036854775808 ≤ n) (h2 : n ≤ 9223372036854775807) : wrap64 n = n := by unfold wrap64; omega
theorem tmod_pos (a b : Int) (h : 0 ≤ a) : 0 ≤ a.tmod b ∧ a.tmod b ≤ a := by
  have h1 := Int.tmod_nonneg b h
  have h2 : (a.tmod b).natAbs = a.natAbs % b.natAbs := Int.natAbs_tmod a b
  have h3 := Nat.mod_le a.natAbs b.natAbs
  omega
theorem tmod_neg (a b : Int) (h : a < 0) : a ≤ a.tmod b ∧ a.tmod b ≤ 0 := by
  have h1 := tmod_pos (-a) b (by omega)
  rw [Int.neg_tmod] at h1
  omega
theorem quo_nn (a b : Int) (_ : a < 0) : (wrap64 (IntKind.u64.wrap (a.tdiv b)), (0 : Int)) = (wrap64 (a.tdiv b), 0) := by rw [wu]
theorem quo_np (a b : Int) (_ : a < 0) : (wrap64 (IntKind.u64.wrap (-IntKind.u64.wrap (-a.tdiv b))), (0 : Int)) = (wrap64 (a.tdiv b), 0) := by rw [wun]
theorem quo_pn (a b : Int) (_ : 0 ≤ a) : (wrap64 (IntKind.u64.wrap (-IntKind.u64.wrap (-a.tdiv b))), (0 : Int)) = (wrap64 (a.tdiv b), 0) := by rw [wun]
theorem quo_pp (a b : Int) (h : 0 ≤ a) : (wrap64 (a / b), (0 : Int)) = (wrap64 (a.tdiv b), 0) := by rw [Int.tdiv_eq_ediv_of_nonneg h]
theorem rem_nn (a b : Int) (h : a < 0) (h1 : -9223372036854775808 ≤ a) : (wrap64 (IntKind.u64.wrap (a.tmod b)), (0 : Int)) = (a.tmod b, 0) := by
  have := tmod_neg a b h
  rw [wu, w64_in _ (by omega) (by omega)]
theorem rem_np (a b : Int) (h : a < 0) (h1 : -9223372036854775808 ≤ a) : (wrap64 (IntKind.u64.wrap (a.tmod b)), (0 : Int)) = (a.tmod b, 0) := rem_nn a b h h1
theorem rem_pp (a b : Int) (h : 0 ≤ a) (h1 : a ≤ 9223372036854775807) : (wrap64 (a % b), (0 : Int)) = (a.tmod b, 0) := by
  have := tmod_pos a b h
  rw [← Int.tmod_eq_emod_of_nonneg h, w64_in _ (by omega) (by omega)]
theorem rem_pn (a b : Int) (h : 0 ≤ a) (h1 : a ≤ 9223372036854775807) : (wrap64 (a % b), (0 : Int)) = (a.tmod b, 0) := rem_pp a b h h1

theorem refdo_quo_nn (a b : Int) (w : World) (ha : a < 0) (ha1 : -9223372036854775808 ≤ a) (hb : b < 0) (hb1 : -9223372036854775808 ≤ b) : Calls Try.prog 15 #[.string ⟨#[47]⟩, .int .i64 a, .int .i64 b] w (RetD (wrap64 (a.tdiv b), 0) w) := by
  have hb0 : (b == 0) = false := by simp; omega
  have hy : 1 ≤ -b := by omega
  have hx : 0 ≤ -a := by omega
  have da : decide (a < 0) = true := by simp; omega
  have db : decide (b < 0) = true := by simp; omega
  go_enter Try.func15, Try.ntmps15
  go_wp2_with fail
  go_quiet ((first | (go_at_call_of 23 (Value.int IntKind.i64 a); exact Calls.quiet_of_same ((far_neg a _ ha ha1).mono fun _ _ h => ⟨h.1, h.2.symm⟩)) | (go_at_call_of 23 (Value.int IntKind.i64 b); exact Calls.quiet_of_same ((far_neg b _ hb hb1).mono fun _ _ h => ⟨h.1, h.2.symm⟩))))
  go_wp2
  go_ret2
  refine retD ?_
  exact quo_nn a b ha

theorem refdo_quo_np (a b : Int) (w : World) (ha : a < 0) (ha1 : -9223372036854775808 ≤ a) (hb : 0 < b) (hb1 : b ≤ 9223372036854775807) : Calls Try.prog 15 #[.string ⟨#[47]⟩, .int .i64 a, .int .i64 b] w (RetD (wrap64 (a.tdiv b), 0) w) := by
  have hb0 : (b == 0) = false := by simp; omega
  have hy : 1 ≤ b := by omega
  have hx : 0 ≤ -a := by omega
  have da : decide (a < 0) = true := by simp; omega
  have db : decide (b < 0) = false := by simp; omega
  go_enter Try.func15, Try.ntmps15
  go_wp2_with fail
  go_quiet ((first | (go_at_call_of 23 (Value.int IntKind.i64 a); exact Calls.quiet_of_same ((far_neg a _ ha ha1).mono fun _ _ h => ⟨h.1, h.2.symm⟩)) | (go_at_call_of 23 (Value.int IntKind.i64 b); exact Calls.quiet_of_same ((far_pos b _ (by omega) hb1).mono fun _ _ h => ⟨h.1, h.2.symm⟩))))
  go_wp2
  go_ret2
  refine retD ?_
  exact quo_np a b ha

theorem refdo_quo_pn (a b : Int) (w : World) (ha : 0 ≤ a) (ha1 : a ≤ 9223372036854775807) (hb : b < 0) (hb1 : -9223372036854775808 ≤ b) : Calls Try.prog 15 #[.string ⟨#[47]⟩, .int .i64 a, .int .i64 b] w (RetD (wrap64 (a.tdiv b), 0) w) := by
  have hb0 : (b == 0) = false := by simp; omega
  have hy : 1 ≤ -b := by omega
  have hx : 0 ≤ a := by omega
  have da : decide (a < 0) = false := by simp; omega
  have db : decide (b < 0) = true := by simp; omega
  go_enter Try.func15, Try.ntmps15
  go_wp2_with fail
  go_quiet ((first | (go_at_call_of 23 (Value.int IntKind.i64 a); exact Calls.quiet_of_same ((far_pos a _ ha ha1).mono fun _ _ h => ⟨h.1, h.2.symm⟩)) | (go_at_call_of 23 (Value.int IntKind.i64 b); exact Calls.quiet_of_same ((far_neg b _ hb hb1).mono fun _ _ h => ⟨h.1, h.2.symm⟩))))
  go_wp2
  go_ret2
  refine retD ?_
  exact quo_pn a b ha

theorem refdo_quo_pp (a b : Int) (w : World) (ha : 0 ≤ a) (ha1 : a ≤ 9223372036854775807) (hb : 0 < b) (hb1 : b ≤ 9223372036854775807) : Calls Try.prog 15 #[.string ⟨#[47]⟩, .int .i64 a, .int .i64 b] w (RetD (wrap64 (a.tdiv b), 0) w) := by
  have hb0 : (b == 0) = false := by simp; omega
  have hy : 1 ≤ b := by omega
  have hx : 0 ≤ a := by omega
  have da : decide (a < 0) = false := by simp; omega
  have db : decide (b < 0) = false := by simp; omega
  go_enter Try.func15, Try.ntmps15
  go_wp2_with fail
  go_quiet ((first | (go_at_call_of 23 (Value.int IntKind.i64 a); exact Calls.quiet_of_same ((far_pos a _ ha ha1).mono fun _ _ h => ⟨h.1, h.2.symm⟩)) | (go_at_call_of 23 (Value.int IntKind.i64 b); exact Calls.quiet_of_same ((far_pos b _ (by omega) hb1).mono fun _ _ h => ⟨h.1, h.2.symm⟩))))
  go_wp2
  go_ret2
  refine retD ?_
  exact quo_pp a b ha

theorem refdo_rem_nn (a b : Int) (w : World) (ha : a < 0) (ha1 : -9223372036854775808 ≤ a) (hb : b < 0) (hb1 : -9223372036854775808 ≤ b) : Calls Try.prog 15 #[.string ⟨#[37]⟩, .int .i64 a, .int .i64 b] w (RetD (a.tmod b, 0) w) := by
  have hb0 : (b == 0) = false := by simp; omega
  have hy : 1 ≤ -b := by omega
  have hx : 0 ≤ -a := by omega
  have da : decide (a < 0) = true := by simp; omega
  have db : decide (b < 0) = true := by simp; omega
  go_enter Try.func15, Try.ntmps15
  go_wp2_with fail
  go_quiet ((first | (go_at_call_of 23 (Value.int IntKind.i64 a); exact Calls.quiet_of_same ((far_neg a _ ha ha1).mono fun _ _ h => ⟨h.1, h.2.symm⟩)) | (go_at_call_of 23 (Value.int IntKind.i64 b); exact Calls.quiet_of_same ((far_neg b _ hb hb1).mono fun _ _ h => ⟨h.1, h.2.symm⟩))))
  go_wp2
  go_ret2
  refine retD ?_
  exact rem_nn a b ha ha1

theorem refdo_rem_np (a b : Int) (w : World) (ha : a < 0) (ha1 : -9223372036854775808 ≤ a) (hb : 0 < b) (hb1 : b ≤ 9223372036854775807) : Calls Try.prog 15 #[.string ⟨#[37]⟩, .int .i64 a, .int .i64 b] w (RetD (a.tmod b, 0) w) := by
  have hb0 : (b == 0) = false := by simp; omega
  have hy : 1 ≤ b := by omega
  have hx : 0 ≤ -a := by omega
  have da : decide (a < 0) = true := by simp; omega
  have db : decide (b < 0) = false := by simp; omega
  go_enter Try.func15, Try.ntmps15
  go_wp2_with fail
  go_quiet ((first | (go_at_call_of 23 (Value.int IntKind.i64 a); exact Calls.quiet_of_same ((far_neg a _ ha ha1).mono fun _ _ h => ⟨h.1, h.2.symm⟩)) | (go_at_call_of 23 (Value.int IntKind.i64 b); exact Calls.quiet_of_same ((far_pos b _ (by omega) hb1).mono fun _ _ h => ⟨h.1, h.2.symm⟩))))
  go_wp2
  go_ret2
  refine retD ?_
  exact rem_np a b ha ha1

theorem refdo_rem_pn (a b : Int) (w : World) (ha : 0 ≤ a) (ha1 : a ≤ 9223372036854775807) (hb : b < 0) (hb1 : -9223372036854775808 ≤ b) : Calls Try.prog 15 #[.string ⟨#[37]⟩, .int .i64 a, .int .i64 b] w (RetD (a.tmod b, 0) w) := by
  have hb0 : (b == 0) = false := by simp; omega
  have hy : 1 ≤ -b := by omega
  have hx : 0 ≤ a := by omega
  have da : decide (a < 0) = false := by simp; omega
  have db : decide (b < 0) = true := by simp; omega
  go_enter Try.func15, Try.ntmps15
  go_wp2_with fail
  go_quiet ((first | (go_at_call_of 23 (Value.int IntKind.i64 a); exact Calls.quiet_of_same ((far_pos a _ ha ha1).mono fun _ _ h => ⟨h.1, h.2.symm⟩)) | (go_at_call_of 23 (Value.int IntKind.i64 b); exact Calls.quiet_of_same ((far_neg b _ hb hb1).mono fun _ _ h => ⟨h.1, h.2.symm⟩))))
  go_wp2
  go_ret2
  refine retD ?_
  exact rem_pn a b ha ha1

theorem refdo_rem_pp (a b : Int) (w : World) (ha : 0 ≤ a) (ha1 : a ≤ 9223372036854775807) (hb : 0 < b) (hb1 : b ≤ 9223372036854775807) : Calls Try.prog 15 #[.string ⟨#[37]⟩, .int .i64 a, .int .i64 b] w (RetD (a.tmod b, 0) w) := by
  have hb0 : (b == 0) = false := by simp; omega
  have hy : 1 ≤ b := by omega
  have hx : 0 ≤ a := by omega
  have da : decide (a < 0) = false := by simp; omega
  have db : decide (b < 0) = false := by simp; omega
  go_enter Try.func15, Try.ntmps15
  go_wp2_with fail
  go_quiet ((first | (go_at_call_of 23 (Value.int IntKind.i64 a); exact Calls.quiet_of_same ((far_pos a _ ha ha1).mono fun _ _ h => ⟨h.1, h.2.symm⟩)) | (go_at_call_of 23 (Value.int IntKind.i64 b); exact Calls.quiet_of_same ((far_pos b _ (by omega) hb1).mono fun _ _ h => ⟨h.1, h.2.symm⟩))))
  go_wp2
  go_ret2
  refine retD ?_
  exact rem_pp a b ha ha1


theorem below_drewN (w : World) (n : Nat) : Below w.heap.size w (w.drewN n) := ⟨rfl, rfl, rfl, Nat.le_refl _, fun _ _ => rfl⟩
theorem refdo_any (s : ByteArray) (a b : Int) (w : World) (ha : -9223372036854775808 ≤ a) (ha' : a ≤ 9223372036854775807) (hb : -9223372036854775808 ≤ b) (hb' : b ≤ 9223372036854775807) :
    Calls Try.prog 15 #[.string s, .int .i64 a, .int .i64 b] w (Res2 (doV s a b) w) := by
  have same : ∀ p e w', Ret2 p w e w' → Res2 p w e w' := fun p e w' h => ⟨h.1, by rw [← h.2]; exact Below.refl _ _⟩
  have drawn : ∀ p e w', RetD p w e w' → Res2 p w e w' := fun p e w' h => ⟨h.1, by obtain ⟨n, hn⟩ := h.2; rw [hn]; exact below_drewN w n⟩
  unfold doV
  by_cases h1 : s = ⟨#[43]⟩
  · subst h1; rw [if_pos rfl]; exact (refdo_add a b w).mono (same _)
  · rw [if_neg h1]
    by_cases h2 : s = ⟨#[45]⟩
    · subst h2; rw [if_pos rfl]; exact (refdo_sub a b w).mono (same _)
    · rw [if_neg h2]
      by_cases h3 : s = ⟨#[42]⟩
      · subst h3; rw [if_pos rfl]; exact (refdo_mul a b w).mono (same _)
      · rw [if_neg h3]
        by_cases h4 : s = ⟨#[47]⟩
        · subst h4; rw [if_pos rfl]
          by_cases hb0 : b = 0
          · subst hb0; rw [if_pos rfl]; exact (refdo_quo0 a w).mono (same _)
          · rw [if_neg hb0]
            rcases Int.lt_or_le a 0 with la | la <;> rcases Int.lt_or_le b 0 with lb | lb
            · exact (refdo_quo_nn a b w la ha lb hb).mono (drawn _)
            · exact (refdo_quo_np a b w la ha (by omega) hb').mono (drawn _)
            · exact (refdo_quo_pn a b w la ha' lb hb).mono (drawn _)
            · exact (refdo_quo_pp a b w la ha' (by omega) hb').mono (drawn _)
        · rw [if_neg h4]
          by_cases h5 : s = ⟨#[37]⟩
          · subst h5; rw [if_pos rfl]
            by_cases hb0 : b = 0
            · subst hb0; rw [if_pos rfl]; exact (refdo_rem0 a w).mono (same _)
            · rw [if_neg hb0]
              rcases Int.lt_or_le a 0 with la | la <;> rcases Int.lt_or_le b 0 with lb | lb
              · exact (refdo_rem_nn a b w la ha lb hb).mono (drawn _)
              · exact (refdo_rem_np a b w la ha (by omega) hb').mono (drawn _)
              · exact (refdo_rem_pn a b w la ha' lb hb).mono (drawn _)
              · exact (refdo_rem_pp a b w la ha' (by omega) hb').mono (drawn _)
          · rw [if_neg h5]; exact (refdo_none s h1 h2 h3 h4 h5 a b w).mono (same _)

end Go.Proofs.Ytcdnmkcnagkkhaa
