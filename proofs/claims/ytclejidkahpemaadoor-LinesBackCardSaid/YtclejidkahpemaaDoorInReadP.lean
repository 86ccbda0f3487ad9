/- What ints.Read and its reference come to. -/
import Derived.Test.YtclejidkahpemaaDoorProg
import Derived.Test.YtclejidkahpemaaDoorMaps
import Derived.Test.YtclejidkahpemaaDoorInPure
namespace Go.Proofs.YtclejidkahpemaaDoor
open Go.RowKit

def RInv (most : Nat) (l : List UInt8) (k : Nat) (nv : Int) (g : Bool) : Prop :=
  0 ≤ nv ∧ nv < 18446744073709551616 ∧ (l.take k).all isDig = true ∧ (g = false → nv = valL 0 (l.take k) ∧ valL 0 (l.take k) ≤ most) ∧ (g = true → most < valL 0 (l.take k))

theorem rinv_zero (most : Nat) (l : List UInt8) : RInv most l 0 0 false := by
  have e : valL 0 (l.take 0) = 0 := by rw [List.take_zero]; rfl
  refine ⟨by omega, by omega, by rw [List.take_zero]; rfl, fun _ => ⟨by rw [e]; rfl, by rw [e]; exact Nat.zero_le _⟩, fun h => by cases h⟩

theorem u64w (x : Int) : IntKind.u64.wrap x = x % 18446744073709551616 := by simp [IntKind.wrap, IntKind.bits, IntKind.signed]

theorem rinv_step {most : Nat} (hm : 9 ≤ most) (hm2 : most ≤ 9223372036854775808) {l : List UInt8} {k : Nat} {nv : Int} {g : Bool} (hI : RInv most l k nv g) {c : UInt8} (hc : l[k]? = some c) (h1 : 48 ≤ c.toNat) (h2 : c.toNat ≤ 57) :
    RInv most l (k + 1) (IntKind.u64.wrap (IntKind.u64.wrap (10 * nv) + ((c.toNat : Int) - 48))) (g || decide (((most : Int) - ((c.toNat : Int) - 48)) / 10 < nv)) := by
  obtain ⟨hn0, hn1, hd, hf, ht⟩ := hI
  have htake : l.take (k + 1) = l.take k ++ [c] := by rw [List.take_add_one, hc]; rfl
  refine ⟨by rw [u64w]; omega, by rw [u64w]; omega, ?_, ?_, ?_⟩
  · rw [htake, List.all_append, hd]; simp [isDig, h1, h2]
  · rw [htake, valL_snoc]
    intro h
    simp only [Bool.or_eq_false_iff, decide_eq_false_iff_not] at h
    obtain ⟨e1, e2⟩ := hf h.1
    generalize valL 0 (l.take k) = V at *
    subst e1
    rw [u64w, u64w]
    have := h.2
    exact ⟨by omega, by omega⟩
  · rw [htake, valL_snoc]
    intro h
    cases g with
    | true => have := ht rfl; omega
    | false =>
      simp only [Bool.false_or, decide_eq_true_eq] at h
      obtain ⟨e1, e2⟩ := hf rfl
      generalize valL 0 (l.take k) = V at *
      subst e1
      omega

def RetR (l : List UInt8) (w : World) (e : Ending) (w' : World) : Prop := e = .returned (.tuple #[.int .i64 (readV l).1, .int .i64 (readV l).2]) ∧ w = w'
theorem retR {x y : Int} {l : List UInt8} {w : World} (h : (x, y) = readV l) : RetR l w (.returned (.tuple #[.int .i64 x, .int .i64 y])) w := by
  unfold RetR; rw [← h]; exact ⟨rfl, rfl⟩

theorem get_list (s : ByteArray) (k : Nat) (h : k < s.size) : s.data.toList[k]? = some s[k] := by
  have hl : k < s.data.toList.length := by rw [Array.length_toList]; exact h
  rw [List.getElem?_eq_getElem hl]; rfl
theorem len_list (s : ByteArray) : s.data.toList.length = s.size := by rw [Array.length_toList]; rfl

/-- A byte that is no digit: no number. -/
theorem bad_at {l : List UInt8} {k : Nat} {c : UInt8} (hc : (digsOf l)[k]? = some c) (h : isDig c = false) : badForm l = true := by
  have hm : c ∈ digsOf l := List.mem_of_getElem? hc
  have : (digsOf l).all isDig = false := by rw [List.all_eq_false]; exact ⟨c, hm, by rw [h]; simp⟩
  unfold badForm; rw [this]; simp
theorem readV_bad {l : List UInt8} (h : badForm l = true) : readV l = (0, 5) := by unfold readV; rw [if_pos h]
theorem readV_far {l : List UInt8} (h : badForm l = false) (h2 : mostOf l < valL 0 (digsOf l)) : readV l = (0, 3) := by unfold readV; rw [if_neg (by simp [h]), if_pos h2]
theorem readV_neg {l : List UInt8} (h : badForm l = false) (h2 : ¬ mostOf l < valL 0 (digsOf l)) (h3 : l.head? = some 45) : readV l = (-(valL 0 (digsOf l) : Int), 0) := by unfold readV; rw [if_neg (by simp [h]), if_neg h2, if_pos h3]
theorem readV_pos {l : List UInt8} (h : badForm l = false) (h2 : ¬ mostOf l < valL 0 (digsOf l)) (h3 : ¬ l.head? = some 45) : readV l = ((valL 0 (digsOf l) : Int), 0) := by unfold readV; rw [if_neg (by simp [h]), if_neg h2, if_neg h3]

/-! ### What stands ahead of the digits -/
/-- No '-', and no nought ahead of more. -/
structure Plain (s : ByteArray) : Prop where
  h0 : 0 < s.size
  h45 : s.data.toList.head? ≠ some 45
  h48 : ¬ (s.data.toList.head? = some 48 ∧ 1 < s.size)
theorem Plain.digs {s : ByteArray} (h : Plain s) : digsOf s.data.toList = s.data.toList := by unfold digsOf; rw [if_neg h.h45]
theorem Plain.most {s : ByteArray} (h : Plain s) : mostOf s.data.toList = 9223372036854775807 := by unfold mostOf; rw [if_neg h.h45]
theorem Plain.fine {s : ByteArray} (h : Plain s) (hd : s.data.toList.all isDig = true) : badForm s.data.toList = false := by
  unfold badForm
  rw [h.digs, hd]
  have h1 : s.data.toList.isEmpty = false := by
    have := h.h0; rw [← len_list] at this
    cases hl : s.data.toList with
    | nil => rw [hl] at this; simp at this
    | cons _ _ => rfl
  have h2 : (s.data.toList.head? == some 48 && decide (1 < s.data.toList.length)) = false := by
    rw [len_list]
    by_cases e : s.data.toList.head? = some 48
    · have : ¬ 1 < s.size := fun hh => h.h48 ⟨e, hh⟩
      simp [this]
    · have : (s.data.toList.head? == some 48) = false := by simpa using e
      rw [this]; rfl
  rw [h1, h2]; rfl
theorem Plain.end_ok {s : ByteArray} (h : Plain s) {nv : Int} (hI : RInv 9223372036854775807 s.data.toList s.size nv false) : (wrap64 nv, 0) = readV s.data.toList := by
  obtain ⟨_, _, hd, hf, _⟩ := hI
  have ht : s.data.toList.take s.size = s.data.toList := by rw [← len_list, List.take_length]
  rw [ht] at hd hf
  obtain ⟨e1, e2⟩ := hf rfl
  rw [readV_pos (h.fine hd) (by rw [h.most, h.digs]; omega) h.h45, h.digs, e1]
  generalize valL 0 s.data.toList = V at *
  congr 1
  unfold wrap64; omega
theorem Plain.end_far {s : ByteArray} (h : Plain s) {nv : Int} (hI : RInv 9223372036854775807 s.data.toList s.size nv true) : (0, 3) = readV s.data.toList := by
  obtain ⟨_, _, hd, _, hf⟩ := hI
  have ht : s.data.toList.take s.size = s.data.toList := by rw [← len_list, List.take_length]
  rw [ht] at hd hf
  rw [readV_far (h.fine hd) (by rw [h.most, h.digs]; exact hf rfl)]
theorem Plain.bad {s : ByteArray} (h : Plain s) {k : Nat} (hk : k < s.size) (hc : isDig s[k] = false) : (0, 5) = readV s.data.toList := by
  rw [readV_bad (bad_at (k := k) (by rw [h.digs]; exact get_list s k hk) hc)]

/-- A '-' ahead of digits d. -/
structure Minus (s d : ByteArray) : Prop where
  hd : d.data.toList = s.data.toList.tail
  h45 : s.data.toList.head? = some 45
  h0 : 0 < d.size
  h48 : d.data.toList.head? ≠ some 48
theorem Minus.digs {s d : ByteArray} (h : Minus s d) : digsOf s.data.toList = d.data.toList := by unfold digsOf; rw [if_pos h.h45, h.hd]
theorem Minus.most {s d : ByteArray} (h : Minus s d) : mostOf s.data.toList = 9223372036854775808 := by unfold mostOf; rw [if_pos h.h45]
theorem Minus.fine {s d : ByteArray} (h : Minus s d) (hd : d.data.toList.all isDig = true) : badForm s.data.toList = false := by
  unfold badForm
  rw [h.digs, hd]
  have h1 : d.data.toList.isEmpty = false := by
    have := h.h0; rw [← len_list] at this
    cases hl : d.data.toList with
    | nil => rw [hl] at this; simp at this
    | cons _ _ => rfl
  have : (d.data.toList.head? == some 48) = false := by simpa using h.h48
  rw [h1, this]; rfl
theorem Minus.end_ok {s d : ByteArray} (h : Minus s d) {nv : Int} (hI : RInv 9223372036854775808 d.data.toList d.size nv false) : (wrap64 (IntKind.u64.wrap (-nv)), 0) = readV s.data.toList := by
  obtain ⟨_, _, hd, hf, _⟩ := hI
  have ht : d.data.toList.take d.size = d.data.toList := by rw [← len_list, List.take_length]
  rw [ht] at hd hf
  obtain ⟨e1, e2⟩ := hf rfl
  rw [readV_neg (h.fine hd) (by rw [h.most, h.digs]; omega) h.h45, h.digs, e1]
  generalize valL 0 d.data.toList = V at *
  congr 1
  rw [u64w]; unfold wrap64; omega
theorem Minus.end_far {s d : ByteArray} (h : Minus s d) {nv : Int} (hI : RInv 9223372036854775808 d.data.toList d.size nv true) : (0, 3) = readV s.data.toList := by
  obtain ⟨_, _, hd, _, hf⟩ := hI
  have ht : d.data.toList.take d.size = d.data.toList := by rw [← len_list, List.take_length]
  rw [ht] at hd hf
  rw [readV_far (h.fine hd) (by rw [h.most, h.digs]; exact hf rfl)]
theorem Minus.bad {s d : ByteArray} (h : Minus s d) {k : Nat} (hk : k < d.size) (hc : isDig d[k] = false) : (0, 5) = readV s.data.toList := by
  rw [readV_bad (bad_at (k := k) (by rw [h.digs]; exact get_list d k hk) hc)]
theorem notdig_lo {c : UInt8} (h : c.toNat < 48) : isDig c = false := by simp [isDig]; omega
theorem notdig_hi {c : UInt8} (h : 57 < c.toNat) : isDig c = false := by simp [isDig]; omega
end Go.Proofs.YtclejidkahpemaaDoor
