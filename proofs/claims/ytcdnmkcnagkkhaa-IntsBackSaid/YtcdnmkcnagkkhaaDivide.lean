/- IntsDivide and IntsBack, walked. -/
import Derived.Test.YtcdnmkcnagkkhaaWalks
namespace Go.Proofs.Ytcdnmkcnagkkhaa
open Go.RowKit
attribute [local irreducible] ByteArray.extract ByteArray.toList

theorem doV_quo (a b : Int) (hb : ¬ b = 0) : doV ⟨#[47]⟩ a b = (wrap64 (a.tdiv b), 0) := by
  unfold doV; rw [if_neg (by decide), if_neg (by decide), if_neg (by decide), if_pos rfl, if_neg hb]
theorem doV_rem (a b : Int) (hb : ¬ b = 0) : doV ⟨#[37]⟩ a b = (a.tmod b, 0) := by
  unfold doV; rw [if_neg (by decide), if_neg (by decide), if_neg (by decide), if_neg (by decide), if_pos rfl, if_neg hb]
theorem doV_quo0 (a : Int) : doV ⟨#[47]⟩ a 0 = (0, 3) := by
  unfold doV; rw [if_neg (by decide), if_neg (by decide), if_neg (by decide), if_pos rfl, if_pos rfl]
theorem doV_rem0 (a : Int) : doV ⟨#[37]⟩ a 0 = (0, 3) := by
  unfold doV; rw [if_neg (by decide), if_neg (by decide), if_neg (by decide), if_neg (by decide), if_pos rfl, if_pos rfl]

theorem divide_zero (a : Int) (w : World) : Calls Try.prog 7 #[.int .i64 a, .int .i64 0] w (Yes w) := by
  have hb := Below.refl w.heap.size w
  have h1 := Lib.hid (doV_quo0 a)
  have h2 := Lib.hid (doV_rem0 a)
  go_enter Try.func7, Try.ntmps7
  go_wp2_with fail
  refine (yes_from hb (known_yes _)).mono ?_
  clear hb
  rintro e w1 ⟨rfl, hb⟩
  go_wp2_with fail
  refine (two_from hb (do_any _ a 0 _)).mono ?_
  clear hb
  rw [h1.out]
  rintro e w1 ⟨rfl, hb⟩
  go_wp2_with fail
  refine (two_from hb (do_any _ a 0 _)).mono ?_
  clear hb
  rw [h2.out]
  rintro e w1 ⟨rfl, hb⟩
  go_wp2_with fail
  go_ret
  exact ⟨rfl, hb⟩

theorem whole (a b : Int) (ha : -9223372036854775808 ≤ a) (ha' : a ≤ 9223372036854775807) : addV (mulV (wrap64 (a.tdiv b)) b) (a.tmod b) = a := by
  have h := Int.tdiv_mul_add_tmod a b
  have e : addV (mulV (wrap64 (a.tdiv b)) b) (a.tmod b) = wrap64 (a.tdiv b * b + a.tmod b) := by
    unfold addV mulV; apply w64_of_mod
    rw [Int.add_emod, w64_mod, Int.mul_emod, w64_mod, ← Int.mul_emod, ← Int.add_emod]
  rw [e, h, w64_in _ ha ha']
theorem rem_near (a b : Int) (hb : ¬ b = 0) : (b < 0 → b < a.tmod b ∧ a.tmod b < -b) ∧ (0 < b → -b < a.tmod b ∧ a.tmod b < b) := by
  have h2 : (a.tmod b).natAbs = a.natAbs % b.natAbs := Int.natAbs_tmod a b
  have h3 := Nat.mod_lt a.natAbs (show 0 < b.natAbs by omega)
  omega

set_option maxHeartbeats 1600000 in
theorem divide_walk (a b : Int) (ha : -9223372036854775808 ≤ a) (ha' : a ≤ 9223372036854775807) (hb0 : -9223372036854775808 ≤ b) (hb' : b ≤ 9223372036854775807) (hbz : ¬ b = 0) (w : World) : Calls Try.prog 7 #[.int .i64 a, .int .i64 b] w (Yes w) := by
  have hb := Below.refl w.heap.size w
  have h1 := Lib.hid (doV_quo a b hbz)
  have h2 := Lib.hid (doV_rem a b hbz)
  have hwh := bne_of (whole a b ha ha')
  have hnear := rem_near a b hbz
  have hsign : a.tmod b = 0 ∨ (a.tmod b < 0 ∧ a < 0) ∨ (0 < a.tmod b ∧ 0 ≤ a) := by
    rcases Int.lt_or_le a 0 with h | h
    · have := tmod_neg a b h; omega
    · have := tmod_pos a b h; omega
  have hbz' : (b == 0) = false := by simpa using hbz
  generalize a.tmod b = r at *
  generalize wrap64 (a.tdiv b) = q at *
  have hlow : (b = -9223372036854775808 ∧ -9223372036854775808 < r) ∨ (-9223372036854775808 < b ∧ b < 0 ∧ b < r ∧ r < -b) ∨ (0 < b ∧ -b < r ∧ r < b) := by omega
  have H0 := Lib.hid hsign
  have H1 := Lib.hid hlow
  clear hsign hlow hnear hbz
  have hs : ((r != 0) = false ∧ decide (r < 0) = false ∧ decide (a < 0) = decide (a < 0)) ∨ ((r != 0) = true ∧ decide (r < 0) = true ∧ decide (a < 0) = true) ∨ ((r != 0) = true ∧ decide (r < 0) = false ∧ decide (a < 0) = false) := by
    rcases H0.out with h | h | h
    · exact .inl ⟨by simp [h], by simp [h], rfl⟩
    · exact .inr (.inl ⟨by simp; omega, decide_eq_true h.1, decide_eq_true h.2⟩)
    · exact .inr (.inr ⟨by simp; omega, decide_eq_false (by omega), decide_eq_false (by omega)⟩)
  have hrl : b = -9223372036854775808 → (r != -9223372036854775808) = true := by
    intro e; simp; have := H1.out; omega
  have HL := Lib.hid hrl
  clear hrl
  rcases H1.out with ⟨rfl, h⟩ | ⟨hl1, hl2, hl3, hl4⟩ | ⟨hl1, hl2, hl3⟩
  all_goals
    try have hrl := HL.out rfl
    rcases hs with ⟨hs, hs2, _⟩ | ⟨hs, hs2, hs3⟩ | ⟨hs, hs2, hs3⟩
    all_goals
      go_enter Try.func7, Try.ntmps7
      go_wp2_with fail
      refine (yes_from hb (known_yes _)).mono ?_
      clear hb
      rintro e w1 ⟨rfl, hb⟩
      go_wp2_with fail
      refine (two_from hb (do_any _ a _ _)).mono ?_
      clear hb
      rw [h1.out]
      rintro e w1 ⟨rfl, hb⟩
      go_wp2_with fail
      refine (two_from hb (do_any _ a _ _)).mono ?_
      clear hb
      rw [h2.out]
      rintro e w1 ⟨rfl, hb⟩
      go_wp2_with fail
      refine (int_from hb (op_mul q _ _)).mono ?_
      clear hb
      rintro e w1 ⟨rfl, hb⟩
      go_wp2_with fail
      refine (int_from hb (op_add _ r _)).mono ?_
      clear hb
      rintro e w1 ⟨rfl, hb⟩
      go_wp2_with fail
      all_goals
        go_ret
        exact ⟨rfl, hb⟩

theorem divide_any (a b : Int) (ha : -9223372036854775808 ≤ a) (ha' : a ≤ 9223372036854775807) (hb0 : -9223372036854775808 ≤ b) (hb' : b ≤ 9223372036854775807) (w : World) : Calls Try.prog 7 #[.int .i64 a, .int .i64 b] w (Yes w) := by
  by_cases h : b = 0
  · subst h; exact divide_zero a w
  · exact divide_walk a b ha ha' hb0 hb' h w
theorem sOf_list (l : List UInt8) : (sOf l).data.toList = l := by unfold sOf; simp
theorem sOf_of (s : ByteArray) : sOf s.data.toList = s := by unfold sOf; rcases s with ⟨⟨l⟩⟩; rfl

set_option maxHeartbeats 1600000 in
theorem back_walk (n : Int) (s : ByteArray) (hn : -9223372036854775808 ≤ n) (hn' : n ≤ 9223372036854775807) (hsz : s.size ≤ 140737488351232) (w : World) : Calls Try.prog 8 #[.int .i64 n, .string s] w (Yes w) := by
  have hb := Below.refl w.heap.size w
  have hrd := Lib.hid (show readV (sOf (textL n)).data.toList = (n, 0) by rw [sOf_list]; exact read_text n hn hn')
  have hts : (sOf (textL n)).size ≤ 140737488351232 := by
    rw [sOf_size]; unfold textL
    split
    · have := decs_len n.natAbs 20 (by omega) (by omega); simp; omega
    · have := decs_len n.natAbs 20 (by omega) (by omega); omega
  by_cases hs : 40 < s.size
  · have hs' : (40 : Int) < s.size := by omega
    go_enter Try.func8, Try.ntmps8
    go_wp2_with fail
    refine (yes_from hb (known_yes _)).mono ?_
    clear hb
    rintro e w1 ⟨rfl, hb⟩
    go_wp2_with fail
    go_ret
    exact ⟨rfl, hb⟩
  · have hs' : ¬ (40 : Int) < s.size := by omega
    have hcase : (∃ x, readV s.data.toList = (x, 0) ∧ -9223372036854775808 ≤ x ∧ x ≤ 9223372036854775807 ∧ sOf (textL x) = s) ∨ readV s.data.toList = (0, 5) ∨ readV s.data.toList = (0, 3) := by
      by_cases h : (readV s.data.toList).2 = 0
      · obtain ⟨h1, h2, h3⟩ := text_read _ h
        exact .inl ⟨_, by rw [← h], h2, h3, by rw [h1, sOf_of]⟩
      · obtain ⟨h1, h2 | h2⟩ := readV_err _ h
        · exact .inr (.inl (by rw [← h1, ← h2]))
        · exact .inr (.inr (by rw [← h1, ← h2]))
    rcases hcase with ⟨x, hx, hx1, hx2, hx3⟩ | hx | hx
    · have HX := Lib.hid hx
      have HS := Lib.hid hx3
      clear hx hx3
      have hself : (s.toList == s.toList) = true := by simp
      go_enter Try.func8, Try.ntmps8
      go_wp2_with fail
      refine (yes_from hb (known_yes _)).mono ?_
      clear hb
      rintro e w1 ⟨rfl, hb⟩
      go_wp2_with fail
      refine (read_any s _ hsz).mono ?_
      rintro e w2 ⟨rfl, rfl⟩
      rw [HX.out]
      go_wp2_with fail
      refine (text_from hb (text_any x _ hx1 hx2)).mono ?_
      clear hb
      rintro e w1 ⟨rfl, hb⟩
      rw [HS.out]
      go_wp2_with fail
      refine (text_from hb (text_any n _ hn hn')).mono ?_
      clear hb
      rintro e w1 ⟨rfl, hb⟩
      go_wp2_with fail
      refine (yes_from hb (reads_yes _ _ _ _ hts hrd.out)).mono ?_
      clear hb
      rintro e w1 ⟨rfl, hb⟩
      go_wp2_with fail
      go_ret
      exact ⟨rfl, hb⟩
    all_goals
      have HX := Lib.hid hx
      clear hx
      go_enter Try.func8, Try.ntmps8
      go_wp2_with fail
      refine (yes_from hb (known_yes _)).mono ?_
      clear hb
      rintro e w1 ⟨rfl, hb⟩
      go_wp2_with fail
      refine (read_any s _ hsz).mono ?_
      rintro e w2 ⟨rfl, rfl⟩
      rw [HX.out]
      go_wp2_with fail
      refine (text_from hb (text_any n _ hn hn')).mono ?_
      clear hb
      rintro e w1 ⟨rfl, hb⟩
      go_wp2_with fail
      refine (yes_from hb (reads_yes _ _ _ _ hts hrd.out)).mono ?_
      clear hb
      rintro e w1 ⟨rfl, hb⟩
      go_wp2_with fail
      go_ret
      exact ⟨rfl, hb⟩
end Go.Proofs.Ytcdnmkcnagkkhaa
