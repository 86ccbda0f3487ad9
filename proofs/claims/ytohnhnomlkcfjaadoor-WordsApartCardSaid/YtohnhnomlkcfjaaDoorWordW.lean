/- words.word, the long way. -/
import Derived.Test.YtohnhnomlkcfjaaDoorWord
namespace Go.Proofs.YtohnhnomlkcfjaaDoor
open Go.RowKit
attribute [local irreducible] ByteArray.extract ByteArray.toList
set_option maxHeartbeats 1600000 in
/-- The long way: a text of 1 to 20 bytes that begins rightly. -/
theorem word_loop37 (s : ByteArray) (h1 : 1 ≤ s.size) (h2 : s.size ≤ 20) (hf : smallV (byteAt s 0) = true) (w : World) : Calls Tryd.prog 36 #[.string s, .func (.func 37) #[] #[]] w (RetB (.bool (allV s)) w) := by
  have e1 : (s.toList == []) = false := by
    rw [beq_eq_false_iff_ne, ba_toList]; intro e
    have : s.data.toList.length = 0 := by rw [e]; rfl
    rw [Array.length_toList] at this
    have : s.size = 0 := this
    omega
  have c0 := small_any (byteAt s 0)
  rw [hf, byteAt_eq (show 0 < s.size by omega)] at c0
  have C0 := Lib.hid c0
  clear c0 hf
  obtain ⟨r0, r1, r2⟩ := row3f w 53 (.func (.func 37) #[] #[]) (.func (.func 41) #[] #[]) (.func (.func 47) #[] #[])
  have hB : Below w.heap.size w (w.alloc (.cells #[Value.func (Fn.func 37) #[] #[], Value.func (Fn.func 41) #[] #[], Value.func (Fn.func 47) #[] #[]] 53)) := (Below.refl _ _).alloc (Nat.le_refl _) _
  generalize hw1 : w.alloc (.cells #[Value.func (Fn.func 37) #[] #[], Value.func (Fn.func 41) #[] #[], Value.func (Fn.func 47) #[] #[]] 53) = w1 at r0 r1 r2 hB
  go_enter Tryd.func36, Tryd.ntmps36
  go_wp2_with fail
  refine (C0.out _).mono ?_
  rintro e w' ⟨rfl, rfl⟩
  have h2' : ¬ (20 : Int) < (s.size : Int) := by omega
  go_wp2_with fail
  clear hw1 e1 C0
  go_loopw [24] (fun v wr => ∃ i n : Nat, v = .int .i64 i ∧ i ≤ s.size ∧ AllBy s i ∧ wr = w'.drewN n) (fun v wr => match v with | .int _ q => s.size - q.toNat | _ => 0)
  case atStart => exact ⟨0, 0, rfl, Nat.zero_le _, fun _ h => absurd h (Nat.not_lt_zero _), rfl⟩
  case round =>
    obtain ⟨i, n, rfl, hi, hA, rfl⟩ := hrel
    rcases Nat.lt_or_ge i s.size with hlt | hge
    · have hl' : (i : Int) < (s.size : Int) := by omega
      have c37 := small_any (byteAt s i)
      have c41 := great_any (byteAt s i)
      have c47 := digit_any (byteAt s i)
      have hal : alnumV (byteAt s i) = (smallV (byteAt s i) || greatV (byteAt s i) || digitV (byteAt s i)) := rfl
      have HA := Lib.hid hA
      clear hA
      rcases k0 : smallV (byteAt s i)
      · rcases k1 : greatV (byteAt s i)
        · rcases k2 : digitV (byteAt s i)
          · skip
            rw [k0, k1, k2] at hal
            rw [k0, byteAt_eq hlt] at c37
            rw [k1, byteAt_eq hlt] at c41
            rw [k2, byteAt_eq hlt] at c47
            have C37 := Lib.hid c37
            have C41 := Lib.hid c41
            have C47 := Lib.hid c47
            clear c37 c41 c47
            have AL := Lib.hid hal
            clear hal k0 k1 k2
            go_wp2
            go_quiet (first | (go_at_call 37; exact (C37.out _).mono fun _ _ h => ⟨h.1, _, h.2⟩) | (go_at_call 41; exact (C41.out _).mono fun _ _ h => ⟨h.1, _, h.2⟩) | (go_at_call 47; exact (C47.out _).mono fun _ _ h => ⟨h.1, _, h.2⟩))
            go_wp2
            go_ret
            exact ⟨by rw [all_false hlt AL.out]; rfl, only_drewN_below _ _ _ _ (only_drewN_below _ _ _ _ hB)⟩
          · skip
            rw [k0, k1, k2] at hal
            rw [k0, byteAt_eq hlt] at c37
            rw [k1, byteAt_eq hlt] at c41
            rw [k2, byteAt_eq hlt] at c47
            have C37 := Lib.hid c37
            have C41 := Lib.hid c41
            have C47 := Lib.hid c47
            clear c37 c41 c47
            have AL := Lib.hid hal
            clear hal k0 k1 k2
            go_wp2
            go_quiet (first | (go_at_call 37; exact (C37.out _).mono fun _ _ h => ⟨h.1, _, h.2⟩) | (go_at_call 41; exact (C41.out _).mono fun _ _ h => ⟨h.1, _, h.2⟩) | (go_at_call 47; exact (C47.out _).mono fun _ _ h => ⟨h.1, _, h.2⟩))
            go_wp2
            refine ⟨⟨i + 1, _, by rw [Int.natCast_add]; rfl, by omega, allBy_succ HA.out (by rw [AL.out]; simp), rfl⟩, ?_⟩
            show s.size - (((i : Int) + 1).toNat) < s.size - ((i : Int).toNat)
            omega
        · skip
          rw [k0, k1] at hal
          rw [k0, byteAt_eq hlt] at c37
          rw [k1, byteAt_eq hlt] at c41
          have C37 := Lib.hid c37
          have C41 := Lib.hid c41
          clear c37 c41 c47
          have AL := Lib.hid hal
          clear hal k0 k1
          go_wp2
          go_quiet (first | (go_at_call 37; exact (C37.out _).mono fun _ _ h => ⟨h.1, _, h.2⟩) | (go_at_call 41; exact (C41.out _).mono fun _ _ h => ⟨h.1, _, h.2⟩))
          go_wp2
          refine ⟨⟨i + 1, _, by rw [Int.natCast_add]; rfl, by omega, allBy_succ HA.out (by rw [AL.out]; simp), rfl⟩, ?_⟩
          show s.size - (((i : Int) + 1).toNat) < s.size - ((i : Int).toNat)
          omega
      · skip
        rw [k0] at hal
        rw [k0, byteAt_eq hlt] at c37
        have C37 := Lib.hid c37
        clear c37 c41 c47
        have AL := Lib.hid hal
        clear hal k0
        go_wp2
        go_quiet (first | (go_at_call 37; exact (C37.out _).mono fun _ _ h => ⟨h.1, _, h.2⟩))
        go_wp2
        refine ⟨⟨i + 1, _, by rw [Int.natCast_add]; rfl, by omega, allBy_succ HA.out (by rw [AL.out]; simp), rfl⟩, ?_⟩
        show s.size - (((i : Int) + 1).toNat) < s.size - ((i : Int).toNat)
        omega
    · obtain rfl : i = s.size := by omega
      have hl' : ¬ (s.size : Int) < (s.size : Int) := by omega
      have HA := Lib.hid (all_true hA)
      clear hA
      go_wp2
      go_ret
      exact ⟨by rw [HA.out]; rfl, only_drewN_below _ _ _ _ hB⟩
set_option maxHeartbeats 1600000 in
/-- The long way: a text of 1 to 20 bytes that begins rightly. -/
theorem word_loop41 (s : ByteArray) (h1 : 1 ≤ s.size) (h2 : s.size ≤ 20) (hf : greatV (byteAt s 0) = true) (w : World) : Calls Tryd.prog 36 #[.string s, .func (.func 41) #[] #[]] w (RetB (.bool (allV s)) w) := by
  have e1 : (s.toList == []) = false := by
    rw [beq_eq_false_iff_ne, ba_toList]; intro e
    have : s.data.toList.length = 0 := by rw [e]; rfl
    rw [Array.length_toList] at this
    have : s.size = 0 := this
    omega
  have c0 := great_any (byteAt s 0)
  rw [hf, byteAt_eq (show 0 < s.size by omega)] at c0
  have C0 := Lib.hid c0
  clear c0 hf
  obtain ⟨r0, r1, r2⟩ := row3f w 53 (.func (.func 37) #[] #[]) (.func (.func 41) #[] #[]) (.func (.func 47) #[] #[])
  have hB : Below w.heap.size w (w.alloc (.cells #[Value.func (Fn.func 37) #[] #[], Value.func (Fn.func 41) #[] #[], Value.func (Fn.func 47) #[] #[]] 53)) := (Below.refl _ _).alloc (Nat.le_refl _) _
  generalize hw1 : w.alloc (.cells #[Value.func (Fn.func 37) #[] #[], Value.func (Fn.func 41) #[] #[], Value.func (Fn.func 47) #[] #[]] 53) = w1 at r0 r1 r2 hB
  go_enter Tryd.func36, Tryd.ntmps36
  go_wp2_with fail
  refine (C0.out _).mono ?_
  rintro e w' ⟨rfl, rfl⟩
  have h2' : ¬ (20 : Int) < (s.size : Int) := by omega
  go_wp2_with fail
  clear hw1 e1 C0
  go_loopw [24] (fun v wr => ∃ i n : Nat, v = .int .i64 i ∧ i ≤ s.size ∧ AllBy s i ∧ wr = w'.drewN n) (fun v wr => match v with | .int _ q => s.size - q.toNat | _ => 0)
  case atStart => exact ⟨0, 0, rfl, Nat.zero_le _, fun _ h => absurd h (Nat.not_lt_zero _), rfl⟩
  case round =>
    obtain ⟨i, n, rfl, hi, hA, rfl⟩ := hrel
    rcases Nat.lt_or_ge i s.size with hlt | hge
    · have hl' : (i : Int) < (s.size : Int) := by omega
      have c37 := small_any (byteAt s i)
      have c41 := great_any (byteAt s i)
      have c47 := digit_any (byteAt s i)
      have hal : alnumV (byteAt s i) = (smallV (byteAt s i) || greatV (byteAt s i) || digitV (byteAt s i)) := rfl
      have HA := Lib.hid hA
      clear hA
      rcases k0 : smallV (byteAt s i)
      · rcases k1 : greatV (byteAt s i)
        · rcases k2 : digitV (byteAt s i)
          · skip
            rw [k0, k1, k2] at hal
            rw [k0, byteAt_eq hlt] at c37
            rw [k1, byteAt_eq hlt] at c41
            rw [k2, byteAt_eq hlt] at c47
            have C37 := Lib.hid c37
            have C41 := Lib.hid c41
            have C47 := Lib.hid c47
            clear c37 c41 c47
            have AL := Lib.hid hal
            clear hal k0 k1 k2
            go_wp2
            go_quiet (first | (go_at_call 37; exact (C37.out _).mono fun _ _ h => ⟨h.1, _, h.2⟩) | (go_at_call 41; exact (C41.out _).mono fun _ _ h => ⟨h.1, _, h.2⟩) | (go_at_call 47; exact (C47.out _).mono fun _ _ h => ⟨h.1, _, h.2⟩))
            go_wp2
            go_ret
            exact ⟨by rw [all_false hlt AL.out]; rfl, only_drewN_below _ _ _ _ (only_drewN_below _ _ _ _ hB)⟩
          · skip
            rw [k0, k1, k2] at hal
            rw [k0, byteAt_eq hlt] at c37
            rw [k1, byteAt_eq hlt] at c41
            rw [k2, byteAt_eq hlt] at c47
            have C37 := Lib.hid c37
            have C41 := Lib.hid c41
            have C47 := Lib.hid c47
            clear c37 c41 c47
            have AL := Lib.hid hal
            clear hal k0 k1 k2
            go_wp2
            go_quiet (first | (go_at_call 37; exact (C37.out _).mono fun _ _ h => ⟨h.1, _, h.2⟩) | (go_at_call 41; exact (C41.out _).mono fun _ _ h => ⟨h.1, _, h.2⟩) | (go_at_call 47; exact (C47.out _).mono fun _ _ h => ⟨h.1, _, h.2⟩))
            go_wp2
            refine ⟨⟨i + 1, _, by rw [Int.natCast_add]; rfl, by omega, allBy_succ HA.out (by rw [AL.out]; simp), rfl⟩, ?_⟩
            show s.size - (((i : Int) + 1).toNat) < s.size - ((i : Int).toNat)
            omega
        · skip
          rw [k0, k1] at hal
          rw [k0, byteAt_eq hlt] at c37
          rw [k1, byteAt_eq hlt] at c41
          have C37 := Lib.hid c37
          have C41 := Lib.hid c41
          clear c37 c41 c47
          have AL := Lib.hid hal
          clear hal k0 k1
          go_wp2
          go_quiet (first | (go_at_call 37; exact (C37.out _).mono fun _ _ h => ⟨h.1, _, h.2⟩) | (go_at_call 41; exact (C41.out _).mono fun _ _ h => ⟨h.1, _, h.2⟩))
          go_wp2
          refine ⟨⟨i + 1, _, by rw [Int.natCast_add]; rfl, by omega, allBy_succ HA.out (by rw [AL.out]; simp), rfl⟩, ?_⟩
          show s.size - (((i : Int) + 1).toNat) < s.size - ((i : Int).toNat)
          omega
      · skip
        rw [k0] at hal
        rw [k0, byteAt_eq hlt] at c37
        have C37 := Lib.hid c37
        clear c37 c41 c47
        have AL := Lib.hid hal
        clear hal k0
        go_wp2
        go_quiet (first | (go_at_call 37; exact (C37.out _).mono fun _ _ h => ⟨h.1, _, h.2⟩))
        go_wp2
        refine ⟨⟨i + 1, _, by rw [Int.natCast_add]; rfl, by omega, allBy_succ HA.out (by rw [AL.out]; simp), rfl⟩, ?_⟩
        show s.size - (((i : Int) + 1).toNat) < s.size - ((i : Int).toNat)
        omega
    · obtain rfl : i = s.size := by omega
      have hl' : ¬ (s.size : Int) < (s.size : Int) := by omega
      have HA := Lib.hid (all_true hA)
      clear hA
      go_wp2
      go_ret
      exact ⟨by rw [HA.out]; rfl, only_drewN_below _ _ _ _ hB⟩
end Go.Proofs.YtohnhnomlkcfjaaDoor
