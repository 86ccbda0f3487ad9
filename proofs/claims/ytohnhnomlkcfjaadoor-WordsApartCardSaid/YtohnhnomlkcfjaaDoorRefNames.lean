/- The reference's word, Name, Class, Kind, Type; Pick; tags, of; the law's own look-up; SameTexts, OverTexts. -/
import Derived.Test.YtohnhnomlkcfjaaDoorNames
namespace Go.Proofs.YtohnhnomlkcfjaaDoor
open Go.RowKit
attribute [local irreducible] ByteArray.extract ByteArray.toList

def fitV (s : ByteArray) : Bool := decide (1 ≤ s.size) && decide (s.size ≤ 20) && allV s
theorem word_fit (s : ByteArray) (f : Nat → Bool) : wordV s f = (fitV s && f (byteAt s 0)) := by
  unfold wordV fitV
  cases decide (1 ≤ s.size) <;> cases decide (s.size ≤ 20) <;> cases f (byteAt s 0) <;> cases allV s <;> rfl
theorem digit_dec (c : Nat) : digitV c = (!decide ((c : Int) < 48) && !decide ((57 : Int) < (c : Int))) := by
  unfold digitV
  rw [Bool.eq_iff_iff]; simp; omega

set_option maxHeartbeats 1600000 in
theorem refword_loop (s : ByteArray) (h1 : 1 ≤ s.size) (h2 : s.size ≤ 20) (w : World) : Calls Tryd.prog 38 #[.string s] w (RetQ (.bool (allV s)) w) := by
  have h1' : ¬ (s.size : Int) < 1 := by omega
  have h2' : ¬ (20 : Int) < (s.size : Int) := by omega
  go_enter Tryd.func38, Tryd.ntmps38
  go_wp2_with fail
  go_loop [3] (fun v => ∃ i : Nat, v = .int .i64 i ∧ i ≤ s.size ∧ AllBy s i) (fun v => match v with | .int _ q => s.size - q.toNat | _ => 0)
  case atStart => exact ⟨0, rfl, Nat.zero_le _, fun _ h => absurd h (Nat.not_lt_zero _)⟩
  case round =>
    obtain ⟨i, rfl, hi, hA⟩ := hrel
    rcases Nat.lt_or_ge i s.size with hlt | hge
    · have hl' : (i : Int) < (s.size : Int) := by omega
      have c39 := refsmall_any (byteAt s i)
      have c42 := refgreat_any (byteAt s i)
      have hal : alnumV (byteAt s i) = (smallV (byteAt s i) || greatV (byteAt s i) || digitV (byteAt s i)) := rfl
      have hd := digit_dec (byteAt s i)
      have HA := Lib.hid hA
      clear hA
      rcases k0 : smallV (byteAt s i)
      · rcases k1 : greatV (byteAt s i)
        · by_cases q1 : (byteAt s i : Int) < 48
          · have AL : Hid (alnumV (byteAt s i) = false) := by rw [hal, k0, k1, hd, decide_eq_true q1]; rfl
            rw [k0, byteAt_eq hlt] at c39
            rw [k1, byteAt_eq hlt] at c42
            rw [byteAt_eq hlt] at q1
            have C39 := Lib.hid c39
            have C42 := Lib.hid c42
            clear c39 c42 hal hd k0 k1
            go_wp2_with (first | (go_at_call 39; refine (C39.out _).mono ?_; rintro e w' ⟨rfl, rfl⟩) | (go_at_call 42; refine (C42.out _).mono ?_; rintro e w' ⟨rfl, rfl⟩))
            go_ret
            exact ⟨by rw [all_false hlt AL.out]; rfl, rfl⟩
          · by_cases q2 : (57 : Int) < (byteAt s i : Int)
            · have AL : Hid (alnumV (byteAt s i) = false) := by rw [hal, k0, k1, hd, decide_eq_true q2, decide_eq_false q1]; rfl
              rw [k0, byteAt_eq hlt] at c39
              rw [k1, byteAt_eq hlt] at c42
              rw [byteAt_eq hlt] at q1 q2
              have C39 := Lib.hid c39
              have C42 := Lib.hid c42
              clear c39 c42 hal hd k0 k1
              go_wp2_with (first | (go_at_call 39; refine (C39.out _).mono ?_; rintro e w' ⟨rfl, rfl⟩) | (go_at_call 42; refine (C42.out _).mono ?_; rintro e w' ⟨rfl, rfl⟩))
              go_ret
              exact ⟨by rw [all_false hlt AL.out]; rfl, rfl⟩
            · have AL : Hid (alnumV (byteAt s i) = true) := by rw [hal, k0, k1, hd, decide_eq_false q2, decide_eq_false q1]; rfl
              rw [k0, byteAt_eq hlt] at c39
              rw [k1, byteAt_eq hlt] at c42
              rw [byteAt_eq hlt] at q1 q2
              have C39 := Lib.hid c39
              have C42 := Lib.hid c42
              clear c39 c42 hal hd k0 k1
              go_wp2_with (first | (go_at_call 39; refine (C39.out _).mono ?_; rintro e w' ⟨rfl, rfl⟩) | (go_at_call 42; refine (C42.out _).mono ?_; rintro e w' ⟨rfl, rfl⟩))
              refine ⟨⟨i + 1, by rw [Int.natCast_add]; rfl, by omega, allBy_succ HA.out AL.out⟩, ?_⟩
              show s.size - (((i : Int) + 1).toNat) < s.size - ((i : Int).toNat)
              omega
        · have AL : Hid (alnumV (byteAt s i) = true) := by rw [hal, k0, k1]; rfl
          rw [k0, byteAt_eq hlt] at c39
          rw [k1, byteAt_eq hlt] at c42
          have C39 := Lib.hid c39
          have C42 := Lib.hid c42
          clear c39 c42 hal hd k0 k1
          go_wp2_with (first | (go_at_call 39; refine (C39.out _).mono ?_; rintro e w' ⟨rfl, rfl⟩) | (go_at_call 42; refine (C42.out _).mono ?_; rintro e w' ⟨rfl, rfl⟩))
          refine ⟨⟨i + 1, by rw [Int.natCast_add]; rfl, by omega, allBy_succ HA.out AL.out⟩, ?_⟩
          show s.size - (((i : Int) + 1).toNat) < s.size - ((i : Int).toNat)
          omega
      · have AL : Hid (alnumV (byteAt s i) = true) := by rw [hal, k0]; rfl
        rw [k0, byteAt_eq hlt] at c39
        have C39 := Lib.hid c39
        clear c39 c42 hal hd k0
        go_wp2_with (first | (go_at_call 39; refine (C39.out _).mono ?_; rintro e w' ⟨rfl, rfl⟩))
        refine ⟨⟨i + 1, by rw [Int.natCast_add]; rfl, by omega, allBy_succ HA.out AL.out⟩, ?_⟩
        show s.size - (((i : Int) + 1).toNat) < s.size - ((i : Int).toNat)
        omega
    · obtain rfl : i = s.size := by omega
      have hl' : ¬ (s.size : Int) < (s.size : Int) := by omega
      have HA := Lib.hid (all_true hA)
      clear hA
      go_wp2
      go_ret
      exact ⟨by rw [HA.out]; rfl, rfl⟩
theorem refword_any (s : ByteArray) (w : World) : Calls Tryd.prog 38 #[.string s] w (RetQ (.bool (fitV s)) w) := by
  unfold fitV
  by_cases h0 : 1 ≤ s.size
  · by_cases h2 : s.size ≤ 20
    · rw [decide_eq_true h0, decide_eq_true h2]
      exact refword_loop s h0 h2 w
    · rw [decide_eq_false h2, Bool.and_false, Bool.false_and]
      have h1' : ¬ (s.size : Int) < 1 := by omega
      have h2' : (20 : Int) < (s.size : Int) := by omega
      go_enter Tryd.func38, Tryd.ntmps38
      go_wp2
      go_ret
      exact ⟨rfl, rfl⟩
  · rw [decide_eq_false h0, Bool.false_and, Bool.false_and]
    have h1' : (s.size : Int) < 1 := by omega
    go_enter Tryd.func38, Tryd.ntmps38
    go_wp2
    go_ret
    exact ⟨rfl, rfl⟩
theorem refclass_any (s : ByteArray) (w : World) : Calls Tryd.prog 20 #[.string s] w (RetQ (.bool (classV s)) w) := by
  have H := Lib.hid (refword_any s)
  unfold classV
  rw [word_fit]
  cases hf : fitV s
  · rw [hf] at H
    rw [Bool.false_and]
    go_enter Tryd.func20, Tryd.ntmps20
    go_wp2_with fail
    refine (H.out _).mono ?_
    rintro e w' ⟨rfl, rfl⟩
    go_wp2_with fail
    go_ret
    exact ⟨rfl, rfl⟩
  · rw [hf] at H
    rw [Bool.true_and]
    have h1 : 0 < s.size := by
      unfold fitV at hf
      by_cases h : 1 ≤ s.size
      · exact h
      · rw [decide_eq_false h] at hf; cases hf
    have c := refgreat_any (byteAt s 0)
    generalize hg : greatV (byteAt s 0) = g at c ⊢
    rw [byteAt_eq h1] at c
    have C := Lib.hid c
    clear c hf hg
    go_enter Tryd.func20, Tryd.ntmps20
    go_wp2_with fail
    refine (H.out _).mono ?_
    rintro e w' ⟨rfl, rfl⟩
    go_wp2_with fail
    refine (C.out _).mono ?_
    rintro e w' ⟨rfl, rfl⟩
    go_wp2_with fail
    go_ret
    exact ⟨rfl, rfl⟩
theorem refname_any (s : ByteArray) (w : World) : Calls Tryd.prog 18 #[.string s] w (RetB (.bool (nameV s)) w) := by
  have H := Lib.hid (refword_any s)
  unfold nameV
  rw [word_fit]
  cases hf : fitV s
  · rw [hf] at H
    rw [Bool.false_and, Bool.false_and]
    go_enter Tryd.func18, Tryd.ntmps18
    go_wp2_with fail
    refine (H.out _).mono ?_
    rintro e w' ⟨rfl, rfl⟩
    go_wp2_with fail
    go_ret
    exact ⟨rfl, Below.refl _ _⟩
  · rw [hf] at H
    rw [Bool.true_and]
    have h1 : 0 < s.size := by
      unfold fitV at hf
      by_cases h : 1 ≤ s.size
      · exact h
      · rw [decide_eq_false h] at hf; cases hf
    have c := refsmall_any (byteAt s 0)
    cases hg : smallV (byteAt s 0)
    · rw [hg, byteAt_eq h1] at c
      have C := Lib.hid c
      clear c hf hg
      rw [Bool.false_and]
      go_enter Tryd.func18, Tryd.ntmps18
      go_wp2_with fail
      refine (H.out _).mono ?_
      rintro e w' ⟨rfl, rfl⟩
      go_wp2_with fail
      refine (C.out _).mono ?_
      rintro e w' ⟨rfl, rfl⟩
      go_wp2_with fail
      go_ret
      exact ⟨rfl, Below.refl _ _⟩
    · rw [hg, byteAt_eq h1] at c
      have C := Lib.hid c
      clear c hf hg
      rw [Bool.true_and]
      go_enter Tryd.func18, Tryd.ntmps18
      go_wp2_with fail
      refine (H.out _).mono ?_
      rintro e w' ⟨rfl, rfl⟩
      go_wp2_with fail
      refine (C.out _).mono ?_
      rintro e w' ⟨rfl, rfl⟩
      go_wp2_with fail
      refine (refreserved_s _).mono ?_
      rintro e w1 ⟨g, cap, rfl, hg, hx, _, hb⟩
      have HI := Lib.hid (in_any g cap resW s w1 hx (by decide))
      clear hx
      go_wp2_with fail
      refine HI.out.mono ?_
      rintro e w' ⟨rfl, rfl⟩
      go_wp2_with fail
      go_ret
      exact ⟨rfl, hb⟩
theorem refkind_any (s : ByteArray) (w : World) : Calls Tryd.prog 24 #[.string s] w (RetB (.int .i64 (kindV s)) w) := by
  have C := Lib.hid (refclass_any s)
  have hB0 := base_has s
  unfold kindV
  cases hB : baseB s
  · rw [hB] at hB0
    by_cases hq : s = ⟨#[63]⟩
    · have e := tl_eq s [63] hq
      rw [beq_flip'] at e
      rw [if_neg (by decide), if_pos hq]
      clear hq
      go_enter Tryd.func24, Tryd.ntmps24
      go_wp2_with fail
      refine (refbases_s _).mono ?_
      rintro e w1 ⟨g, cap, rfl, hg, hx, _, hb⟩
      have HI := in_any g cap baseW s w1 hx (by decide)
      rw [hB0] at HI
      have HI := Lib.hid HI
      clear hx
      go_wp2_with fail
      refine HI.out.mono ?_
      rintro e w' ⟨rfl, rfl⟩
      go_wp2_with fail
      go_ret
      exact ⟨rfl, hb⟩
    · have e := tl_ne s [63] hq
      rw [beq_flip'] at e
      rw [if_neg (by decide), if_neg hq]
      clear hq
      cases hC : classV s
      all_goals
        rw [hC] at C
        go_enter Tryd.func24, Tryd.ntmps24
        go_wp2_with fail
        refine (refbases_s _).mono ?_
        rintro e w1 ⟨g, cap, rfl, hg, hx, _, hb⟩
        have HI := in_any g cap baseW s w1 hx (by decide)
        rw [hB0] at HI
        have HI := Lib.hid HI
        clear hx
        go_wp2_with fail
        refine HI.out.mono ?_
        rintro e w' ⟨rfl, rfl⟩
        go_wp2_with fail
        refine (C.out _).mono ?_
        rintro e w' ⟨rfl, rfl⟩
        go_wp2_with fail
        go_ret
        exact ⟨rfl, hb⟩
  · rw [hB] at hB0
    rw [if_pos rfl]
    go_enter Tryd.func24, Tryd.ntmps24
    go_wp2_with fail
    refine (refbases_s _).mono ?_
    rintro e w1 ⟨g, cap, rfl, hg, hx, _, hb⟩
    have HI := in_any g cap baseW s w1 hx (by decide)
    rw [hB0] at HI
    have HI := Lib.hid HI
    clear hx
    go_wp2_with fail
    refine HI.out.mono ?_
    rintro e w' ⟨rfl, rfl⟩
    go_wp2_with fail
    go_ret
    exact ⟨rfl, hb⟩
theorem kind_bd (s : ByteArray) : 0 ≤ kindV s ∧ kindV s ≤ 3 := by unfold kindV; repeat' split <;> omega
theorem reftype_any (s : ByteArray) (w : World) : Calls Tryd.prog 22 #[.string s] w (RetB (.bool (typeV s)) w) := by
  have H := Lib.hid (refkind_any s)
  have ht : typeV s = decide (0 < kindV s) := by
    have := kind_bd s
    unfold typeV
    rw [Bool.eq_iff_iff, bne_iff_ne, decide_eq_true_iff]; omega
  rw [ht]
  clear ht
  go_enter Tryd.func22, Tryd.ntmps22
  go_wp2_with fail
  refine (H.out _).mono ?_
  rintro e w' ⟨rfl, hb⟩
  go_wp2_with fail
  go_ret
  exact ⟨rfl, hb⟩
end Go.Proofs.YtohnhnomlkcfjaaDoor
