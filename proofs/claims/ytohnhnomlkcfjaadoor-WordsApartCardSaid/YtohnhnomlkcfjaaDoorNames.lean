/- words.Name, Class, Kind, Type, Base, and the reference's, walked. -/
import Derived.Test.YtohnhnomlkcfjaaDoorWordW
namespace Go.Proofs.YtohnhnomlkcfjaaDoor
open Go.RowKit
attribute [local irreducible] ByteArray.extract ByteArray.toList

theorem beq_flip' {a b : List UInt8} : (a == b) = (b == a) := by
  rw [Bool.eq_iff_iff, beq_iff_eq, beq_iff_eq]; exact eq_comm
theorem empty_eq {s : ByteArray} (h : s.size = 0) : (s.toList == []) = true := by
  rw [beq_iff_eq, ba_toList]
  exact List.eq_nil_of_length_eq_zero (by rw [Array.length_toList]; exact h)
theorem empty_ne {s : ByteArray} (h : s.size ≠ 0) : (s.toList == []) = false := by
  rw [beq_eq_false_iff_ne, ba_toList]; intro e
  have : s.data.toList.length = 0 := by rw [e]; rfl
  rw [Array.length_toList] at this
  exact h this
theorem word37 (s : ByteArray) (w : World) : Calls Tryd.prog 36 #[.string s, .func (.func 37) #[] #[]] w (RetB (.bool (wordV s smallV)) w) := by
  unfold wordV
  by_cases h0 : s.size = 0
  · have e := empty_eq h0
    rw [show decide (1 ≤ s.size) = false from decide_eq_false (by omega), Bool.false_and, Bool.false_and, Bool.false_and]
    clear h0
    go_enter Tryd.func36, Tryd.ntmps36
    go_wp2_with fail
    go_ret
    exact ⟨rfl, (Below.refl _ _).alloc (Nat.le_refl _) _⟩
  · rw [show decide (1 ≤ s.size) = true from decide_eq_true (by omega), Bool.true_and]
    by_cases h2 : s.size ≤ 20
    · rw [decide_eq_true h2, Bool.true_and]
      cases hf : smallV (byteAt s 0)
      · rw [Bool.false_and]
        have e := empty_ne h0
        have c := small_any (byteAt s 0)
        rw [hf, byteAt_eq (show 0 < s.size by omega)] at c
        have C := Lib.hid c
        have h1 : 0 < s.size := by omega
        have h2' : ¬ (20 : Int) < (s.size : Int) := by omega
        clear c hf
        go_enter Tryd.func36, Tryd.ntmps36
        go_wp2_with fail
        refine (C.out _).mono ?_
        rintro e w' ⟨rfl, rfl⟩
        go_wp2_with fail
        go_ret
        exact ⟨rfl, (Below.refl _ _).alloc (Nat.le_refl _) _⟩
      · rw [Bool.true_and]
        exact word_loop37 s (by omega) h2 hf w
    · rw [decide_eq_false h2, Bool.false_and, Bool.false_and]
      have e := empty_ne h0
      have h2' : (20 : Int) < (s.size : Int) := by omega
      clear h0 h2
      go_enter Tryd.func36, Tryd.ntmps36
      go_wp2_with fail
      go_ret
      exact ⟨rfl, (Below.refl _ _).alloc (Nat.le_refl _) _⟩
theorem word41 (s : ByteArray) (w : World) : Calls Tryd.prog 36 #[.string s, .func (.func 41) #[] #[]] w (RetB (.bool (wordV s greatV)) w) := by
  unfold wordV
  by_cases h0 : s.size = 0
  · have e := empty_eq h0
    rw [show decide (1 ≤ s.size) = false from decide_eq_false (by omega), Bool.false_and, Bool.false_and, Bool.false_and]
    clear h0
    go_enter Tryd.func36, Tryd.ntmps36
    go_wp2_with fail
    go_ret
    exact ⟨rfl, (Below.refl _ _).alloc (Nat.le_refl _) _⟩
  · rw [show decide (1 ≤ s.size) = true from decide_eq_true (by omega), Bool.true_and]
    by_cases h2 : s.size ≤ 20
    · rw [decide_eq_true h2, Bool.true_and]
      cases hf : greatV (byteAt s 0)
      · rw [Bool.false_and]
        have e := empty_ne h0
        have c := great_any (byteAt s 0)
        rw [hf, byteAt_eq (show 0 < s.size by omega)] at c
        have C := Lib.hid c
        have h1 : 0 < s.size := by omega
        have h2' : ¬ (20 : Int) < (s.size : Int) := by omega
        clear c hf
        go_enter Tryd.func36, Tryd.ntmps36
        go_wp2_with fail
        refine (C.out _).mono ?_
        rintro e w' ⟨rfl, rfl⟩
        go_wp2_with fail
        go_ret
        exact ⟨rfl, (Below.refl _ _).alloc (Nat.le_refl _) _⟩
      · rw [Bool.true_and]
        exact word_loop41 s (by omega) h2 hf w
    · rw [decide_eq_false h2, Bool.false_and, Bool.false_and]
      have e := empty_ne h0
      have h2' : (20 : Int) < (s.size : Int) := by omega
      clear h0 h2
      go_enter Tryd.func36, Tryd.ntmps36
      go_wp2_with fail
      go_ret
      exact ⟨rfl, (Below.refl _ _).alloc (Nat.le_refl _) _⟩

def baseB (s : ByteArray) : Bool := decide ((tagV s).2 = 0)
def classV (s : ByteArray) : Bool := wordV s greatV
def nameV (s : ByteArray) : Bool := wordV s smallV && !hasV resW s
def kindV (s : ByteArray) : Int := if baseB s then 1 else if s = ⟨#[63]⟩ then 2 else if classV s then 3 else 0
def typeV (s : ByteArray) : Bool := kindV s != 0

theorem has_iff (xs : List ByteArray) (s : ByteArray) : hasV xs s = true ↔ s ∈ xs := by
  unfold hasV
  rw [List.any_eq_true]
  constructor
  · rintro ⟨x, hx, he⟩
    rw [beq_iff_eq, ba_toList, ba_toList] at he
    have : x = s := ByteArray.ext (by simpa using congrArg List.toArray he)
    rwa [← this]
  · intro h; exact ⟨s, h, beq_self_eq_true _⟩
theorem base_has (s : ByteArray) : hasV baseW s = baseB s := by
  rw [Bool.eq_iff_iff, has_iff]
  unfold baseB tagV baseW
  rw [decide_eq_true_iff]
  simp only [List.mem_cons, List.not_mem_nil, or_false]
  repeat' split
  all_goals simp_all

theorem ret_from {f : FuncId} {args : Array Value} {v : Value} {w0 w1 : World} (hb : Below w0.heap.size w0 w1) (c : Calls Tryd.prog f args w1 (RetB v w1)) : Calls Tryd.prog f args w1 (RetB v w0) :=
  c.mono fun _ _ h => ⟨h.1, hb.trans (h.2.mono hb.size)⟩
theorem spaces_from {w0 w1 : World} (h : Spaces w0) (hb : Below w0.heap.size w0 w1) : Spaces w1 := spaces_below h hb (spaces_pos h)

theorem class_any (s : ByteArray) (w : World) : Calls Tryd.prog 19 #[.string s] w (RetB (.bool (classV s)) w) := by
  have H := Lib.hid (word41 s)
  go_enter Tryd.func19, Tryd.ntmps19
  go_wp2_with fail
  refine (H.out _).mono ?_
  rintro e w' ⟨rfl, hb⟩
  go_wp2_with fail
  go_ret
  exact ⟨rfl, hb⟩
theorem name_any (s : ByteArray) (w : World) (hsp : Spaces w) : Calls Tryd.prog 17 #[.string s] w (RetB (.bool (nameV s)) w) := by
  have H := Lib.hid (word37 s)
  have K := Lib.hid (key_any s)
  have HS := Lib.hid hsp
  clear hsp
  unfold nameV
  cases hw : wordV s smallV
  · rw [hw] at H
    rw [Bool.false_and]
    go_enter Tryd.func17, Tryd.ntmps17
    go_wp2_with fail
    refine (H.out _).mono ?_
    rintro e w' ⟨rfl, hb⟩
    go_wp2_with fail
    go_ret
    exact ⟨rfl, hb⟩
  · rw [hw] at H
    rw [Bool.true_and]
    go_enter Tryd.func17, Tryd.ntmps17
    go_wp2_with fail
    refine (H.out _).mono ?_
    rintro e w' ⟨rfl, hb⟩
    go_wp2_with fail
    refine (ret_from hb (K.out _ (spaces_from HS.out hb))).mono ?_
    clear hb
    rintro e w' ⟨rfl, hb⟩
    go_wp2_with fail
    go_ret
    exact ⟨rfl, hb⟩
theorem base_any (s : ByteArray) (w : World) : Calls Tryd.prog 25 #[.string s] w (RetB (.bool (baseB s)) w) := by
  have H := Lib.hid (tag_any s)
  have hd : ((tagV s).2 == 0) = baseB s := by rw [Bool.eq_iff_iff, beq_iff_eq]; unfold baseB; rw [decide_eq_true_iff]
  have HD := Lib.hid hd
  clear hd
  go_enter Tryd.func25, Tryd.ntmps25
  go_wp2_with fail
  refine (H.out _).mono ?_
  rintro e w' ⟨rfl, hb⟩
  go_wp2_with fail
  go_ret
  exact ⟨by rw [← HD.out]; rfl, hb⟩
theorem kind_any (s : ByteArray) (w : World) : Calls Tryd.prog 23 #[.string s] w (RetB (.int .i64 (kindV s)) w) := by
  have B := Lib.hid (base_any s)
  have C := Lib.hid (class_any s)
  unfold kindV
  cases hB : baseB s
  · rw [hB] at B
    by_cases hq : s = ⟨#[63]⟩
    · have e := tl_eq s [63] hq
      rw [beq_flip'] at e
      rw [if_neg (by decide), if_pos hq]
      clear hq
      go_enter Tryd.func23, Tryd.ntmps23
      go_wp2_with fail
      refine (B.out _).mono ?_
      rintro e w' ⟨rfl, hb⟩
      go_wp2_with fail
      go_ret
      exact ⟨rfl, hb⟩
    · have e := tl_ne s [63] hq
      rw [beq_flip'] at e
      rw [if_neg (by decide), if_neg hq]
      clear hq
      cases hC : classV s
      all_goals
        rw [hC] at C
        go_enter Tryd.func23, Tryd.ntmps23
        go_wp2_with fail
        refine (B.out _).mono ?_
        rintro e w' ⟨rfl, hb⟩
        go_wp2_with fail
        refine (ret_from hb (C.out _)).mono ?_
        clear hb
        rintro e w' ⟨rfl, hb⟩
        go_wp2_with fail
        go_ret
        exact ⟨rfl, hb⟩
  · rw [hB] at B
    rw [if_pos rfl]
    go_enter Tryd.func23, Tryd.ntmps23
    go_wp2_with fail
    refine (B.out _).mono ?_
    rintro e w' ⟨rfl, hb⟩
    go_wp2_with fail
    go_ret
    exact ⟨rfl, hb⟩
theorem type_any (s : ByteArray) (w : World) : Calls Tryd.prog 21 #[.string s] w (RetB (.bool (typeV s)) w) := by
  have H := Lib.hid (kind_any s)
  unfold typeV
  go_enter Tryd.func21, Tryd.ntmps21
  go_wp2_with fail
  refine (H.out _).mono ?_
  rintro e w' ⟨rfl, hb⟩
  go_wp2_with fail
  go_ret
  exact ⟨rfl, hb⟩
end Go.Proofs.YtohnhnomlkcfjaaDoor
