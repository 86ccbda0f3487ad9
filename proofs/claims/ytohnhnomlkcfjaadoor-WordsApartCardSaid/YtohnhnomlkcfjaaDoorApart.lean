/- Pick; a text and one byte more. -/
import Derived.Test.YtohnhnomlkcfjaaDoorSame
namespace Go.Proofs.YtohnhnomlkcfjaaDoor
open Go.RowKit
attribute [local irreducible] ByteArray.extract ByteArray.toList

theorem pick_26 (n : Int) (w : World) : Calls Tryd.prog 32 #[.int .i64 n, .int .i64 26] w fun e w' => ∃ p : Nat, p < 26 ∧ e = .returned (.int .i64 p) ∧ w = w' := by
  have hb : -26 < n.tmod 26 ∧ n.tmod 26 < 26 := ⟨by have := Int.lt_tmod_of_pos n (show (0 : Int) < 26 by decide); omega, Int.tmod_lt_of_pos n (by decide)⟩
  by_cases h : n.tmod 26 < 0
  · obtain ⟨p, hp⟩ : ∃ p : Nat, n.tmod 26 + 26 = p := ⟨(n.tmod 26 + 26).toNat, by omega⟩
    have hh : decide (n.tmod 26 < 0) = true := decide_eq_true h
    have HP := Lib.hid hp
    go_enter Tryd.func32, Tryd.ntmps32
    go_wp2_with fail
    go_ret
    exact ⟨p, by have := HP.out; omega, by rw [← HP.out]; rfl, rfl⟩
  · obtain ⟨p, hp⟩ : ∃ p : Nat, n.tmod 26 = p := ⟨(n.tmod 26).toNat, by omega⟩
    have hh : decide (n.tmod 26 < 0) = false := decide_eq_false h
    have HP := Lib.hid hp
    go_enter Tryd.func32, Tryd.ntmps32
    go_wp2_with fail
    go_ret
    exact ⟨p, by have := HP.out; omega, by rw [← HP.out]; rfl, rfl⟩

/-- A text and one byte more. -/
def moreS (s : ByteArray) (c : UInt8) : ByteArray := s ++ ⟨#[c]⟩
theorem more_size (s : ByteArray) (c : UInt8) : (moreS s c).size = s.size + 1 := by
  unfold moreS; rw [ByteArray.size_append]; rfl
theorem more_at (s : ByteArray) (c : UInt8) (i : Nat) (h : i < s.size) : byteAt (moreS s c) i = byteAt s i := by
  unfold moreS byteAt
  rw [ByteArray.data_append]
  have h' : i < s.data.size := h
  simp only [Array.getD_eq_getD_getElem?]
  rw [Array.getElem?_append_left h']
theorem more_last (s : ByteArray) (c : UInt8) : byteAt (moreS s c) s.size = c.toNat := by
  unfold moreS byteAt
  rw [ByteArray.data_append]
  simp only [Array.getD_eq_getD_getElem?]
  show ((s.data ++ #[c])[s.data.size]?.getD 0).toNat = c.toNat
  rw [Array.getElem?_append_right (Nat.le_refl _)]
  simp
theorem more_all (s : ByteArray) (c : UInt8) (hc : alnumV c.toNat = true) : allV (moreS s c) = allV s := by
  unfold allV
  rw [more_size, List.range_succ, List.all_append]
  simp only [List.all_cons, List.all_nil, more_last, hc, Bool.and_true]
  rw [Bool.eq_iff_iff, List.all_eq_true, List.all_eq_true]
  exact ⟨fun h x hx => by have := h x hx; rwa [more_at s c x (List.mem_range.1 hx)] at this, fun h x hx => by rw [more_at s c x (List.mem_range.1 hx)]; exact h x hx⟩
theorem more_word (s : ByteArray) (c : UInt8) (hc : alnumV c.toNat = true) (f : Nat → Bool) (h : wordV s f = true) : wordV (moreS s c) f = decide (s.size < 20) := by
  rw [word_fit] at h ⊢
  unfold fitV at h ⊢
  simp only [Bool.and_eq_true, decide_eq_true_eq] at h
  obtain ⟨⟨⟨h1, h2⟩, h3⟩, h4⟩ := h
  rw [more_all s c hc, h3, more_size, more_at s c 0 (by omega), h4]
  rw [decide_eq_true (show 1 ≤ s.size + 1 by omega), Bool.and_true, Bool.and_true, Bool.true_and]
  exact decide_eq_decide.2 (by omega)
theorem class_kind (s : ByteArray) (h : classV s = true) : baseB s = false ∧ ¬ s = ⟨#[63]⟩ ∧ hasV resW s = false ∧ wordV s smallV = false := by
  have hg : greatV (byteAt s 0) = true := by
    unfold classV at h; rw [word_fit, Bool.and_eq_true] at h; exact h.2
  have hs : smallV (byteAt s 0) = false := by
    unfold greatV at hg; unfold smallV
    simp only [Bool.and_eq_true, decide_eq_true_eq] at hg
    rw [decide_eq_false (show ¬ 97 ≤ byteAt s 0 by omega), Bool.false_and]
  have hw : wordV s smallV = false := by rw [word_fit, hs, Bool.and_false]
  have hr : hasV resW s = false := by
    cases hh : hasV resW s
    · rfl
    · have hm := (has_iff resW s).1 hh
      have : (resW.all fun x => smallV (byteAt x 0)) = true := by decide +kernel
      have := List.all_eq_true.1 this s hm
      rw [hs] at this; cases this
  refine ⟨?_, ?_, hr, hw⟩
  · cases hh : baseB s
    · rfl
    · rw [← base_has] at hh
      have hm := (has_iff baseW s).1 hh
      have : (baseW.all fun x => smallV (byteAt x 0)) = true := by decide +kernel
      have := List.all_eq_true.1 this s hm
      rw [hs] at this; cases this
  · intro e; rw [e] at hg; revert hg; decide +kernel
theorem name_kind (s : ByteArray) (h : nameV s = true) : kindV s = 0 := by
  unfold nameV at h
  rw [Bool.and_eq_true, Bool.not_eq_true'] at h
  have hb : baseB s = false := by
    cases hh : baseB s
    · rfl
    · rw [← base_has] at hh
      have hm := (has_iff baseW s).1 hh
      have : (baseW.all fun x => resW.any fun y => y.data == x.data) = true := by decide +kernel
      have := List.all_eq_true.1 this s hm
      rw [← has_data, h.2] at this; cases this
  have hc : classV s = false := by
    cases hh : classV s
    · rfl
    · have := (class_kind s hh).2.2.2; rw [h.1] at this; cases this
  have hq : ¬ s = ⟨#[63]⟩ := by
    intro e; have := h.1; rw [e] at this; revert this; decide +kernel
  unfold kindV; rw [hb, hc, if_neg (by decide), if_neg hq, if_neg (by decide)]
theorem class_kind3 (s : ByteArray) : (kindV s == 3) = classV s := by
  unfold kindV
  cases hc : classV s
  · cases hb : baseB s
    · rw [if_neg (by decide)]
      by_cases hq : s = ⟨#[63]⟩
      · rw [if_pos hq]; decide
      · rw [if_neg hq]; decide
    · rw [if_pos rfl]; decide
  · obtain ⟨h1, h2, _⟩ := class_kind s hc
    rw [h1, if_neg (by decide), if_neg h2]; decide
theorem less_size (s : ByteArray) (k : Nat) (h : k ≤ s.size) : (s.extract 0 k).size = k := by
  rw [ByteArray.size_extract]; omega
theorem less_at (s : ByteArray) (k i : Nat) (hk : k ≤ s.size) (h : i < k) : byteAt (s.extract 0 k) i = byteAt s i := by
  have h1 : i < (s.extract 0 k).size := by rw [less_size s k hk]; exact h
  rw [byteAt_eq h1, byteAt_eq (show i < s.size by omega), ByteArray.getElem_extract]
  simp
theorem less_word (s : ByteArray) (k : Nat) (hk : k ≤ s.size) (h0 : 1 ≤ k) (f : Nat → Bool) (h : wordV s f = true) : wordV (s.extract 0 k) f = true := by
  rw [word_fit] at h ⊢
  unfold fitV at h ⊢
  simp only [Bool.and_eq_true, decide_eq_true_eq] at h ⊢
  obtain ⟨⟨⟨h1, h2⟩, h3⟩, h4⟩ := h
  rw [less_size s k hk, less_at s k 0 hk (by omega)]
  refine ⟨⟨⟨h0, by omega⟩, ?_⟩, h4⟩
  unfold allV at h3 ⊢
  rw [less_size s k hk, List.all_eq_true]
  intro x hx
  have hx := List.mem_range.1 hx
  rw [less_at s k x hk hx]
  exact List.all_eq_true.1 h3 x (List.mem_range.2 (by omega))
end Go.Proofs.YtohnhnomlkcfjaaDoor
