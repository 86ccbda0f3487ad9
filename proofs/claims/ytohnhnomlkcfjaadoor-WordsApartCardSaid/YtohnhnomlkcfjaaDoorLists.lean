/- Looking a text up in a list of texts: in, slices.Index, slices.Contains, SameTexts, OverTexts, and the literal lists. -/
import Derived.Test.YtohnhnomlkcfjaaDoorReserved
import Derived.Laws.Rows
namespace Go.Proofs.YtohnhnomlkcfjaaDoor
open Go.RowKit
attribute [local irreducible] ByteArray.extract ByteArray.toList

/-- A slice that holds just these texts. -/
def Texts (W : World) (g : Nat) (xs : List ByteArray) : Prop := ∀ (j : Nat) (hj : j < xs.length), W.cell? ⟨g, j, none⟩ = some (.string xs[j])
def Ret (v : Value) (w : World) (e : Ending) (w' : World) : Prop := e = .returned v ∧ w = w'
/-- Where a text stands in a list, from a place on. -/
def hasV (xs : List ByteArray) (s : ByteArray) : Bool := xs.any fun x => x.toList == s.toList
def NotBy (xs : List ByteArray) (s : ByteArray) (i : Nat) : Prop := ∀ (j : Nat) (hj : j < xs.length), j < i → (xs[j].toList == s.toList) = false
theorem notBy_zero (xs : List ByteArray) (s : ByteArray) : NotBy xs s 0 := fun _ _ h => absurd h (Nat.not_lt_zero _)
theorem notBy_succ {xs : List ByteArray} {s : ByteArray} {i : Nat} (hi : i < xs.length) (h : NotBy xs s i) (he : (xs[i].toList == s.toList) = false) : NotBy xs s (i + 1) := fun j hj hlt => by
  rcases Nat.lt_or_ge j i with k | k
  · exact h j hj k
  · obtain rfl : j = i := by omega
    exact he
theorem has_false {xs : List ByteArray} {s : ByteArray} (h : NotBy xs s xs.length) : hasV xs s = false := by
  unfold hasV
  rw [List.any_eq_false]
  intro x hx
  obtain ⟨j, hj, rfl⟩ := List.getElem_of_mem hx
  simp [h j hj hj]
theorem has_true {xs : List ByteArray} {s : ByteArray} {i : Nat} (hi : i < xs.length) (h : (xs[i].toList == s.toList) = true) : hasV xs s = true := by
  unfold hasV
  rw [List.any_eq_true]
  exact ⟨_, List.getElem_mem hi, h⟩
theorem beq_flip (a b : ByteArray) : (a.toList == b.toList) = (b.toList == a.toList) := by
  rw [Bool.eq_iff_iff, beq_iff_eq, beq_iff_eq]; exact eq_comm

theorem in_any (g cap : Nat) (xs : List ByteArray) (s : ByteArray) (w : World) (hx : Texts w g xs) (hl : xs.length ≤ 100) :
    Calls Tryd.prog 40 #[.slice (some ⟨g, 0, none⟩) xs.length cap, .string s] w (Ret (.bool (hasV xs s)) w) := by
  go_enter Tryd.func40, Tryd.ntmps40
  go_wp2
  go_loop [5] (fun v => ∃ i : Nat, v = .int .i64 i ∧ i ≤ xs.length ∧ NotBy xs s i) (fun v => match v with | .int _ q => xs.length - q.toNat | _ => 0)
  case atStart => exact ⟨0, rfl, Nat.zero_le _, notBy_zero _ _⟩
  case round =>
    obtain ⟨i, rfl, hi, hn⟩ := hrel
    rcases Nat.lt_or_ge i xs.length with hlt | hge
    · have hc := hx i hlt
      have hn' := Lib.hid hn
      have hl' : (i : Int) < (xs.length : Int) := by omega
      clear hn
      rcases hb : (xs[i].toList == s.toList)
      · have Hb := Lib.hid hb
        go_wp2
        refine ⟨⟨i + 1, by rw [Int.natCast_add]; rfl, by omega, notBy_succ hlt hn'.out Hb.out⟩, ?_⟩
        show xs.length - (((i : Int) + 1).toNat) < xs.length - ((i : Int).toNat)
        omega
      · have Hb := Lib.hid (has_true hlt hb)
        go_wp2
        go_ret
        exact ⟨by rw [Hb.out]; rfl, rfl⟩
    · obtain rfl : i = xs.length := by omega
      have Hb := Lib.hid (has_false hn)
      have hl' : ¬ (xs.length : Int) < (xs.length : Int) := by omega
      clear hn
      go_wp2
      go_ret
      exact ⟨by rw [Hb.out]; rfl, rfl⟩

theorem index_any (g cap : Nat) (xs : List ByteArray) (s : ByteArray) (w : World) (hx : Texts w g xs) (hl : xs.length ≤ 100) :
    Calls Tryd.prog 48 #[.slice (some ⟨g, 0, none⟩) xs.length cap, .string s] w fun e w' => ∃ n : Int, e = .returned (.int .i64 n) ∧ w = w' ∧ decide (0 ≤ n) = hasV xs s := by
  go_enter Tryd.func48, Tryd.ntmps48
  go_wp2
  go_loop [8] (fun v => ∃ i : Nat, v = .int .i64 i ∧ i ≤ xs.length ∧ NotBy xs s i) (fun v => match v with | .int _ q => xs.length - q.toNat | _ => 0)
  case atStart => exact ⟨0, rfl, Nat.zero_le _, notBy_zero _ _⟩
  case round =>
    obtain ⟨i, rfl, hi, hn⟩ := hrel
    rcases Nat.lt_or_ge i xs.length with hlt | hge
    · have hc := hx i hlt
      have hn' := Lib.hid hn
      have hl' : (i : Int) < (xs.length : Int) := by omega
      clear hn
      rcases hb : (xs[i].toList == s.toList)
      · have Hb := Lib.hid hb
        rw [beq_flip] at hb
        go_wp2
        refine ⟨⟨i + 1, by rw [Int.natCast_add]; rfl, by omega, notBy_succ hlt hn'.out Hb.out⟩, ?_⟩
        show xs.length - (((i : Int) + 1).toNat) < xs.length - ((i : Int).toNat)
        omega
      · have Hb := Lib.hid (has_true hlt hb)
        rw [beq_flip] at hb
        go_wp2
        go_ret
        exact ⟨i, rfl, rfl, by rw [Hb.out]; exact decide_eq_true (by omega)⟩
    · obtain rfl : i = xs.length := by omega
      have Hb := Lib.hid (has_false hn)
      have hl' : ¬ (xs.length : Int) < (xs.length : Int) := by omega
      clear hn
      go_wp2
      go_ret
      exact ⟨-1, rfl, rfl, by rw [Hb.out]; decide⟩
theorem contains_any (g cap : Nat) (xs : List ByteArray) (s : ByteArray) (w : World) (hx : Texts w g xs) (hl : xs.length ≤ 100) :
    Calls Tryd.prog 43 #[.slice (some ⟨g, 0, none⟩) xs.length cap, .string s] w (Ret (.bool (hasV xs s)) w) := by
  have H := Lib.hid (index_any g cap xs s w hx hl)
  clear hx
  go_enter Tryd.func43, Tryd.ntmps43
  go_wp2_with fail
  refine H.out.mono ?_
  rintro e w' ⟨n, rfl, rfl, hn⟩
  go_wp2_with fail
  go_ret
  exact ⟨by rw [← hn]; rfl, rfl⟩
/-- A new slice of texts. -/
def RetS (xs : List ByteArray) (w : World) (e : Ending) (w' : World) : Prop := ∃ g cap, e = .returned (.slice (some ⟨g, 0, none⟩) xs.length cap) ∧ w.heap.size ≤ g ∧ Texts w' g xs ∧ (∀ j, j < xs.length → w'.frozen? ⟨g, j, none⟩ = false) ∧ Below w.heap.size w w'
theorem reserved_s (w : World) (hsp : Spaces w) : Calls Tryd.prog 13 #[] w (RetS resW w) := by
  refine (reserved_any w hsp).mono ?_
  rintro e w' ⟨g, cap, rfl, hg, ho, hb⟩
  refine ⟨g, cap, rfl, hg, fun j hj => ?_, fun j hj => ?_, hb⟩
  · obtain ⟨u, hu, hc⟩ := own_cell ho j hj
    rw [hc]
    unfold resV at hu
    rw [List.getElem?_map, List.getElem?_eq_getElem hj] at hu
    exact hu.symm
  · rcases ho.2 with ⟨h, _⟩ | ⟨g', cap', cur, h, _, hh, _⟩
    · cases h
    · injection h with h1 h2 h3
      injection h1 with h1
      injection h1 with h1
      subst h1
      simp [World.frozen?, hh]
theorem texts_new (w : World) (xs : List ByteArray) (t : TypeId) : Texts (w.alloc (.cells (xs.map Value.string).toArray t)) w.heap.size xs := by
  intro j hj
  have h := World.alloc_heap_new w (.cells (xs.map Value.string).toArray t)
  rw [cell_of_row _ _ _ _ _ _ h]
  simp [List.getElem?_eq_getElem hj]
theorem frozen_new (w : World) (cs : Array Value) (t : TypeId) (j : Nat) : (w.alloc (.cells cs t)).frozen? ⟨w.heap.size, j, none⟩ = false := by
  unfold World.frozen?; rw [World.alloc_heap_new w (.cells cs t)]; simp
theorem refreserved_s (w : World) : Calls Tryd.prog 15 #[] w (RetS resW w) := by
  go_enter Tryd.func15, Tryd.ntmps15
  go_wp2
  go_ret
  exact ⟨w.heap.size, 24, rfl, Nat.le_refl _, texts_new w resW 9, fun j _ => frozen_new w _ 9 j, (Below.refl _ _).alloc (Nat.le_refl _) _⟩
/-- The base types. -/
def baseW : List ByteArray := [⟨#[105, 110, 116]⟩, ⟨#[114, 101, 97, 108]⟩, ⟨#[98, 111, 111, 108]⟩, ⟨#[115, 116, 114]⟩, ⟨#[117, 110, 105, 116]⟩]
theorem refbases_s (w : World) : Calls Tryd.prog 34 #[] w (RetS baseW w) := by
  go_enter Tryd.func34, Tryd.ntmps34
  go_wp2
  go_ret
  exact ⟨w.heap.size, 5, rfl, Nat.le_refl _, texts_new w baseW 9, fun j _ => frozen_new w _ 9 j, (Below.refl _ _).alloc (Nat.le_refl _) _⟩
def RetB (v : Value) (w : World) (e : Ending) (w' : World) : Prop := e = .returned v ∧ Below w.heap.size w w'
theorem bases_any (w : World) : Calls Tryd.prog 33 #[] w (RetB (.agg #[.string ⟨#[105, 110, 116]⟩, .string ⟨#[114, 101, 97, 108]⟩, .string ⟨#[98, 111, 111, 108]⟩, .string ⟨#[115, 116, 114]⟩, .string ⟨#[117, 110, 105, 116]⟩]) w) := by
  go_enter Tryd.func33, Tryd.ntmps33
  go_wp2
  refine bodyPost_ret (results_cell_row rfl _ _ w.heap.size 39 _ (0, 0) _ rfl (World.alloc_heap_new w _) Tryd.underlying39 rfl (by kernel_rfl)) rfl ?_
  exact ⟨rfl, (Below.refl _ _).alloc (Nat.le_refl _) _⟩
theorem key_any (s : ByteArray) (w : World) (hsp : Spaces w) : Calls Tryd.prog 27 #[.string s] w (RetB (.bool (hasV resW s)) w) := by
  go_enter Tryd.func27, Tryd.ntmps27
  go_wp2_with fail
  refine (reserved_s w hsp).mono ?_
  rintro e w1 ⟨g, cap, rfl, hg, hx, _, hb⟩
  have H := Lib.hid (contains_any g cap resW s w1 hx (by decide))
  clear hx
  go_wp2_with fail
  refine H.out.mono ?_
  rintro e w' ⟨rfl, rfl⟩
  go_wp2_with fail
  go_ret
  exact ⟨rfl, hb⟩
theorem refkey_any (s : ByteArray) (w : World) : Calls Tryd.prog 28 #[.string s] w (RetB (.bool (hasV resW s)) w) := by
  go_enter Tryd.func28, Tryd.ntmps28
  go_wp2_with fail
  refine (refreserved_s w).mono ?_
  rintro e w1 ⟨g, cap, rfl, hg, hx, _, hb⟩
  have H := Lib.hid (in_any g cap resW s w1 hx (by decide))
  clear hx
  go_wp2_with fail
  refine H.out.mono ?_
  rintro e w' ⟨rfl, rfl⟩
  go_wp2_with fail
  go_ret
  exact ⟨rfl, hb⟩
theorem refbase_any (s : ByteArray) (w : World) : Calls Tryd.prog 26 #[.string s] w (RetB (.bool (hasV baseW s)) w) := by
  go_enter Tryd.func26, Tryd.ntmps26
  go_wp2_with fail
  refine (refbases_s w).mono ?_
  rintro e w1 ⟨g, cap, rfl, hg, hx, _, hb⟩
  have H := Lib.hid (in_any g cap baseW s w1 hx (by decide))
  clear hx
  go_wp2_with fail
  refine H.out.mono ?_
  rintro e w' ⟨rfl, rfl⟩
  go_wp2_with fail
  go_ret
  exact ⟨rfl, hb⟩

/-- What a base type's tag is. -/
def tagV (s : ByteArray) : Int × Int :=
  if s = ⟨#[105, 110, 116]⟩ then (1, 0) else if s = ⟨#[114, 101, 97, 108]⟩ then (2, 0) else if s = ⟨#[98, 111, 111, 108]⟩ then (3, 0) else if s = ⟨#[115, 116, 114]⟩ then (4, 0) else if s = ⟨#[117, 110, 105, 116]⟩ then (5, 0) else (0, 7)
theorem tl_eq (s : ByteArray) (l : List UInt8) (h : s = ⟨l.toArray⟩) : (l == s.toList) = true := by
  rw [h, ba_toList]; simp
theorem tl_ne (s : ByteArray) (l : List UInt8) (h : ¬ s = ⟨l.toArray⟩) : (l == s.toList) = false := by
  rw [beq_eq_false_iff_ne]
  intro e
  rw [ba_toList] at e
  apply h
  apply ByteArray.ext
  have := congrArg List.toArray e
  simpa using this.symm
def RetT (v : Int × Int) (w : World) (e : Ending) (w' : World) : Prop := e = .returned (.tuple #[.int .i64 v.1, .int .i64 v.2]) ∧ Below w.heap.size w w'
end Go.Proofs.YtohnhnomlkcfjaaDoor
