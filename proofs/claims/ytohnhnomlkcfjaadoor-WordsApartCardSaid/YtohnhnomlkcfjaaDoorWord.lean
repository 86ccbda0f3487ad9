/- words.word, Name, Class, and the reference's word, walked. -/
import Derived.Test.YtohnhnomlkcfjaaDoorTags
import Derived.Deep.RegionWith
import Derived.Deep.QuietTactic
import Derived.BigQuiet
namespace Go.Proofs.YtohnhnomlkcfjaaDoor
open Go.RowKit
attribute [local irreducible] ByteArray.extract ByteArray.toList

def smallV (c : Nat) : Bool := decide (97 ≤ c) && decide (c ≤ 122)
def greatV (c : Nat) : Bool := decide (65 ≤ c) && decide (c ≤ 90)
def digitV (c : Nat) : Bool := decide (48 ≤ c) && decide (c ≤ 57)
def alnumV (c : Nat) : Bool := smallV c || greatV c || digitV c
def byteAt (s : ByteArray) (i : Nat) : Nat := (s.data.getD i 0).toNat
def allV (s : ByteArray) : Bool := (List.range s.size).all fun i => alnumV (byteAt s i)
def wordV (s : ByteArray) (f : Nat → Bool) : Bool := decide (1 ≤ s.size) && decide (s.size ≤ 20) && f (byteAt s 0) && allV s
def RetQ (v : Value) (w : World) (e : Ending) (w' : World) : Prop := e = .returned v ∧ w' = w

theorem byteAt_eq {s : ByteArray} {i : Nat} (h : i < s.size) : byteAt s i = (s[i]'h).toNat := by
  unfold byteAt
  have h' : i < s.data.size := h
  rw [Array.getD, dif_pos h']; rfl
def AllBy (s : ByteArray) (i : Nat) : Prop := ∀ j, j < i → alnumV (byteAt s j) = true
theorem allBy_succ {s : ByteArray} {i : Nat} (h : AllBy s i) (ha : alnumV (byteAt s i) = true) : AllBy s (i + 1) := fun j hj => by
  rcases Nat.lt_or_ge j i with k | k
  · exact h j k
  · obtain rfl : j = i := by omega
    exact ha
theorem all_true {s : ByteArray} (h : AllBy s s.size) : allV s = true := by
  unfold allV; rw [List.all_eq_true]; intro i hi; exact h i (List.mem_range.1 hi)
theorem all_false {s : ByteArray} {i : Nat} (hi : i < s.size) (h : alnumV (byteAt s i) = false) : allV s = false := by
  unfold allV; rw [List.all_eq_false]; exact ⟨i, List.mem_range.2 hi, by rw [h]; decide⟩

theorem small_any (c : Nat) (w : World) : Calls Tryd.prog 37 #[.int .u8 c] w (RetQ (.bool (smallV c)) w) := by
  unfold smallV
  by_cases h : 97 ≤ c <;> by_cases k : c ≤ 122
  all_goals
    have h' : decide ((97 : Int) ≤ (c : Int)) = decide (97 ≤ c) := by rw [Bool.eq_iff_iff, decide_eq_true_iff, decide_eq_true_iff]; omega
    have k' : decide ((c : Int) ≤ 122) = decide (c ≤ 122) := by rw [Bool.eq_iff_iff, decide_eq_true_iff, decide_eq_true_iff]; omega
    simp only [h, k, decide_true, decide_false] at h' k' ⊢
    clear h k
    go_enter Tryd.func37, Tryd.ntmps37
    go_wp2
    go_ret
    exact ⟨rfl, rfl⟩
theorem great_any (c : Nat) (w : World) : Calls Tryd.prog 41 #[.int .u8 c] w (RetQ (.bool (greatV c)) w) := by
  unfold greatV
  by_cases h : 65 ≤ c <;> by_cases k : c ≤ 90
  all_goals
    have h' : decide ((65 : Int) ≤ (c : Int)) = decide (65 ≤ c) := by rw [Bool.eq_iff_iff, decide_eq_true_iff, decide_eq_true_iff]; omega
    have k' : decide ((c : Int) ≤ 90) = decide (c ≤ 90) := by rw [Bool.eq_iff_iff, decide_eq_true_iff, decide_eq_true_iff]; omega
    simp only [h, k, decide_true, decide_false] at h' k' ⊢
    clear h k
    go_enter Tryd.func41, Tryd.ntmps41
    go_wp2
    go_ret
    exact ⟨rfl, rfl⟩
theorem digit_any (c : Nat) (w : World) : Calls Tryd.prog 47 #[.int .u8 c] w (RetQ (.bool (digitV c)) w) := by
  unfold digitV
  by_cases h : 48 ≤ c <;> by_cases k : c ≤ 57
  all_goals
    have h' : decide ((48 : Int) ≤ (c : Int)) = decide (48 ≤ c) := by rw [Bool.eq_iff_iff, decide_eq_true_iff, decide_eq_true_iff]; omega
    have k' : decide ((c : Int) ≤ 57) = decide (c ≤ 57) := by rw [Bool.eq_iff_iff, decide_eq_true_iff, decide_eq_true_iff]; omega
    simp only [h, k, decide_true, decide_false] at h' k' ⊢
    clear h k
    go_enter Tryd.func47, Tryd.ntmps47
    go_wp2
    go_ret
    exact ⟨rfl, rfl⟩
theorem refsmall_any (c : Nat) (w : World) : Calls Tryd.prog 39 #[.int .u8 c] w (RetQ (.bool (smallV c)) w) := by
  unfold smallV
  by_cases h : 97 ≤ c <;> by_cases k : c ≤ 122
  all_goals
    have h' : decide ((97 : Int) ≤ (c : Int)) = decide (97 ≤ c) := by rw [Bool.eq_iff_iff, decide_eq_true_iff, decide_eq_true_iff]; omega
    have k' : decide ((c : Int) ≤ 122) = decide (c ≤ 122) := by rw [Bool.eq_iff_iff, decide_eq_true_iff, decide_eq_true_iff]; omega
    simp only [h, k, decide_true, decide_false] at h' k' ⊢
    clear h k
    go_enter Tryd.func39, Tryd.ntmps39
    go_wp2
    go_ret
    exact ⟨rfl, rfl⟩
theorem refgreat_any (c : Nat) (w : World) : Calls Tryd.prog 42 #[.int .u8 c] w (RetQ (.bool (greatV c)) w) := by
  unfold greatV
  by_cases h : 65 ≤ c <;> by_cases k : c ≤ 90
  all_goals
    have h' : decide ((65 : Int) ≤ (c : Int)) = decide (65 ≤ c) := by rw [Bool.eq_iff_iff, decide_eq_true_iff, decide_eq_true_iff]; omega
    have k' : decide ((c : Int) ≤ 90) = decide (c ≤ 90) := by rw [Bool.eq_iff_iff, decide_eq_true_iff, decide_eq_true_iff]; omega
    simp only [h, k, decide_true, decide_false] at h' k' ⊢
    clear h k
    go_enter Tryd.func42, Tryd.ntmps42
    go_wp2
    go_ret
    exact ⟨rfl, rfl⟩

theorem only_drewN_below (w0 w : World) (n k : Nat) (h : Below n w0 w) : Below n w0 (w.drewN k) := h.trans (by
  exact ⟨rfl, rfl, rfl, Nat.le_refl _, fun _ _ => rfl⟩)

theorem row3f (w : World) (t : TypeId) (x y z : Value) : (w.alloc (.cells #[x, y, z] t)).cell? ⟨w.heap.size, 0, none⟩ = some x ∧ (w.alloc (.cells #[x, y, z] t)).cell? ⟨w.heap.size, 1, none⟩ = some y ∧ (w.alloc (.cells #[x, y, z] t)).cell? ⟨w.heap.size, 2, none⟩ = some z := by
  have h := World.alloc_heap_new w (.cells #[x, y, z] t)
  refine ⟨?_, ?_, ?_⟩ <;> (unfold World.cell?; rw [h]; rfl)

end Go.Proofs.YtohnhnomlkcfjaaDoor
