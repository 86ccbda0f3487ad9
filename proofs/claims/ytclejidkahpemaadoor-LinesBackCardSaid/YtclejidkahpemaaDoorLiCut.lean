/- strings.Cut and strings.Index at a text of one byte. -/
import Derived.Test.YtclejidkahpemaaDoorLiParts
import Derived.Test.YtclejidkahpemaaDoorCells
import Derived.Lib.Strings
import Derived.Lib.Slices
import Derived.Lib.Walk
import Derived.Lib.Bytealg
import Derived.Deep.QuietTactic
import Derived.BigQuiet
import Derived.OwnWalk
namespace Go.Proofs.YtclejidkahpemaaDoor
open Go.RowKit
set_option linter.unusedVariables false
set_option linter.unusedSimpArgs false
attribute [local irreducible] ByteArray.extract ByteArray.toList
attribute [local go_sem] Oper.semAt_some run_store_func run_store_nilFunc
/-- Where a byte stands first; -1: nowhere. -/
def ixB (l : List UInt8) (c : UInt8) : Int := if (l.takeWhile fun x => x != c).length < l.length then ((l.takeWhile fun x => x != c).length : Int) else -1
theorem indexByte_eq (l : List UInt8) (c : UInt8) : Lib.indexByte l c = ixB l c := by
  induction l with
  | nil => rfl
  | cons x l ih =>
    unfold Lib.indexByte
    rw [ih]
    unfold ixB
    by_cases h : x = c
    · subst h
      rw [if_pos (by simp), List.takeWhile_cons_of_neg (by simp)]
      simp
    · rw [if_neg (by simpa using h), List.takeWhile_cons_of_pos (by simpa using h), List.length_cons, List.length_cons]
      by_cases h2 : (l.takeWhile fun x => x != c).length < l.length
      · rw [if_pos h2, if_neg (by simp), if_pos (by omega)]; omega
      · rw [if_neg h2, if_pos (by simp), if_neg (by omega)]
theorem ixB_lo (l : List UInt8) (c : UInt8) : -1 ≤ ixB l c ∧ ixB l c ≤ l.length := by
  have := (List.takeWhile_sublist (fun x => x != c) (l := l)).length_le
  unfold ixB
  split <;> omega
theorem sOf_take (s : List UInt8) (j : Nat) : (sOf s).extract 0 j = sOf (s.take j) := by
  apply ByteArray.ext
  rw [ByteArray.data_extract]
  unfold sOf
  simp
theorem sOf_drop (s : List UInt8) (j k : Nat) (hk : s.length ≤ k) : (sOf s).extract j k = sOf (s.drop j) := by
  apply ByteArray.ext
  rw [ByteArray.data_extract]
  unfold sOf
  apply Array.ext'
  simp
  rw [List.take_of_length_le (by rw [List.length_drop]; omega)]
set_option maxRecDepth 100000 in
theorem ib_any (s : List UInt8) (c : UInt8) (w : World) : Calls Tryd.prog 59 #[.string (sOf s), .int .u8 c.toNat] w (RetQ (.int .i64 (ixB s c)) w) := by
  have he : Lib.indexByte (sOf s).data.toList ((c.toNat : Int).toNat.toUInt8) = ixB s c := by rw [indexByte_eq, sOf_list]; simp
  have HE := Lib.hid he
  clear he
  go_enter Tryd.func59, Tryd.ntmps59
  go_wp2
  rw [run_callFunc_extern Tryd.func65 (by kernel_rfl) (by kernel_rfl) (by kernel_rfl) (e := Extern.BytealgIndexByte.indexByte) (by kernel_rfl), Lib.run_indexByteString, HE.out]
  simp only [Result.andThen]
  rw [Oper.upon_value]
  go_wp2
  go_ret
  exact ⟨rfl, rfl⟩
set_option maxRecDepth 100000 in
theorem ix_any (s : List UInt8) (c : UInt8) (w : World) : Calls Tryd.prog 53 #[.string (sOf s), .string ⟨#[c]⟩] w (RetQ (.int .i64 (ixB s c)) w) := by
  have HB := Lib.hid (ib_any s c)
  have hz : (([c] : List UInt8) == (sOf s).toList) = true → ixB s c = 0 := fun h => by
    rw [sOf_toList, beq_iff_eq] at h
    subst h
    simp [ixB]
  have HZ := Lib.hid hz
  clear hz
  have hne : (([c] : List UInt8) == (sOf s).toList) = true ∨ (([c] : List UInt8) == (sOf s).toList) = false := by cases ([c] : List UInt8) == (sOf s).toList <;> simp
  rcases hne with hne | hne
  · have HE := Lib.hid (HZ.out hne)
    rw [HE.out]
    clear HB HZ
    go_enter Tryd.func53, Tryd.ntmps53
    go_wp2_with fail
    go_ret
    exact ⟨rfl, rfl⟩
  · clear HZ
    go_enter Tryd.func53, Tryd.ntmps53
    go_wp2_with fail
    refine (HB.out _).mono ?_
    rintro e w1 ⟨rfl, rfl⟩
    go_wp2_with fail
    go_ret
    exact ⟨rfl, rfl⟩
theorem six_any (s : List UInt8) (c : UInt8) (w : World) : Calls Tryd.prog 55 #[.string (sOf s), .string ⟨#[c]⟩] w (RetQ (.int .i64 (ixB s c)) w) := by
  have HB := Lib.hid (ix_any s c)
  go_enter Tryd.func55, Tryd.ntmps55
  go_wp2_with fail
  refine (HB.out _).mono ?_
  rintro e w1 ⟨rfl, rfl⟩
  go_wp2_with fail
  go_ret
  exact ⟨rfl, rfl⟩
def cutL (s : List UInt8) (c : UInt8) : List UInt8 := s.takeWhile fun x => x != c
def cutR (s : List UInt8) (c : UInt8) : Value := .tuple #[.string (sOf (cutL s c)), .string (sOf (s.drop ((cutL s c).length + 1))), .bool (decide ((cutL s c).length < s.length))]
theorem take_cut (s : List UInt8) (c : UInt8) : s.take (cutL s c).length = cutL s c := by
  have := List.takeWhile_prefix (fun x => x != c) (l := s)
  exact (List.prefix_iff_eq_take.1 this).symm
theorem cut_all {s : List UInt8} {c : UInt8} (h : ¬ (cutL s c).length < s.length) : cutL s c = s ∧ s.drop ((cutL s c).length + 1) = [] := by
  have h2 : (cutL s c).length ≤ s.length := (List.takeWhile_sublist _).length_le
  have h3 := take_cut s c
  have h4 : (cutL s c).length = s.length := by omega
  rw [h4, List.take_length] at h3
  exact ⟨h3.symm, by rw [h4]; simp⟩
set_option maxRecDepth 100000 in
set_option maxHeartbeats 800000 in
theorem lcut_any (s : List UInt8) (c : UInt8) (hs : s.length ≤ 140737488351232) (w : World) : Calls Tryd.prog 43 #[.string (sOf s), .string ⟨#[c]⟩] w fun e w' => e = .returned (cutR s c) ∧ Below w.heap.size w w' := by
  have HI := Lib.hid (ix_any s c)
  by_cases h : (cutL s c).length < s.length
  · have hi : ixB s c = ((cutL s c).length : Int) := if_pos h
    have HR : Hid (cutR s c = .tuple #[.string ((sOf s).extract 0 (cutL s c).length), .string ((sOf s).extract ((cutL s c).length + 1) (sOf s).size), .bool true]) := by
      refine Lib.hid ?_
      unfold cutR
      rw [sOf_take, sOf_drop _ _ _ (by rw [sOf_size]; exact Nat.le_refl _), take_cut, decide_eq_true h]
    rw [HR.out]
    rw [hi] at HI
    generalize (cutL s c).length = j at *
    have hsz : (sOf s).size = s.length := sOf_size s
    rw [← hsz] at h hs
    generalize sOf s = b at *
    have hw : IntKind.i64.wrap ((j : Int) + 1) = (j : Int) + 1 := IntWalk.i64_in _ (by omega)
    have h1 : (j : Int) ≤ (b.size : Int) := by omega
    have h2 : (j : Int) + 1 ≤ (b.size : Int) := by omega
    clear hi HR hsz
    go_enter Tryd.func43, Tryd.ntmps43
    go_wp2_with fail
    refine (HI.out _).mono ?_
    rintro e w1 ⟨rfl, rfl⟩
    go_wp2_with fail
    go_quiet (fail)
    go_wp2_with fail
    go_ret3
    exact ⟨rfl, below_drewN _ _⟩
  · have hi : ixB s c = -1 := if_neg h
    have HR : Hid (cutR s c = .tuple #[.string (sOf s), .string ⟨#[]⟩, .bool false]) := by
      refine Lib.hid ?_
      obtain ⟨h1, h2⟩ := cut_all h
      unfold cutR
      rw [h2, h1, decide_eq_false (by omega)]
      rfl
    rw [HR.out]
    rw [hi] at HI
    clear h hi HR
    go_enter Tryd.func43, Tryd.ntmps43
    go_wp2_with fail
    refine (HI.out _).mono ?_
    rintro e w1 ⟨rfl, rfl⟩
    go_wp2_with fail
    go_ret3
    exact ⟨rfl, Below.refl _ _⟩
theorem cut_any (s : List UInt8) (c : UInt8) (hs : s.length ≤ 140737488351232) (w : World) : Calls Tryd.prog 30 #[.string (sOf s), .string ⟨#[c]⟩] w fun e w' => e = .returned (cutR s c) ∧ Below w.heap.size w w' := by
  have HB := Lib.hid (lcut_any s c hs w)
  unfold cutR at *
  go_enter Tryd.func30, Tryd.ntmps30
  go_wp2_with fail
  refine HB.out.mono ?_
  rintro e w1 ⟨rfl, hb⟩
  have HZ := Lib.hid hb
  clear hb
  go_wp2_with fail
  go_ret3
  exact ⟨rfl, HZ.out⟩
end Go.Proofs.YtclejidkahpemaaDoor
