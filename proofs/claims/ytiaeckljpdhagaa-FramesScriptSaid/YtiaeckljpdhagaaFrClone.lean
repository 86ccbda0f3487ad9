/- slices.Clone at []api.Layer, []*call, []api.Value. Printed by gen_clone.py. -/
import Derived.Test.YtiaeckljpdhagaaSep
import Derived.Test.YtiaeckljpdhagaaPlan
import Derived.Test.YtiaeckljpdhagaaProg
import Derived.Deep.Onto
import Derived.Laws.ResultCell
import Derived.IntWalk
import Derived.BigQuiet
import Derived.Lib.SliceRun
namespace Go.Proofs.Ytiaeckljpdhagaa
open Go.RowKit
attribute [local go_sem] Oper.semAt_some run_store_func run_store_nilFunc
/-- A new row of the call's own. -/
def RetRow (e : TypeId) (size n : Nat) (xs : List Value) (w : World) (en : Ending) (w' : World) : Prop := ∃ A c, en = .returned (.slice A n c) ∧ w'.ownsRow w.heap.size e size (.slice A n c) n xs ∧ Below w.heap.size w w'
theorem own_empty (w : World) (e : TypeId) (size : Nat) : (w.alloc (.cells #[] e)).ownsRow w.heap.size e size (.slice (some ⟨w.heap.size, 0, none⟩) 0 0) 0 [] :=
  ⟨by simp, .inr ⟨w.heap.size, 0, #[], rfl, Nat.le_refl _, World.alloc_heap_new w _, Nat.le_refl _, by simp [maxLen], by simp, by simp⟩⟩
theorem own_form {w : World} {base : Nat} {e : TypeId} {size n : Nat} {v : Value} {xs : List Value} (h : w.ownsRow base e size v n xs) : ∃ A c, v = .slice A n c ∧ n ≤ c := by
  rcases h.2 with ⟨rfl, rfl⟩ | ⟨g, c, cur, rfl, _, _, hc, _⟩
  · exact ⟨none, 0, rfl, Nat.le_refl _⟩
  · exact ⟨_, c, rfl, hc⟩
theorem infoL : (Try.prog.info? 104).map (fun i => (i.zero, i.size, i.bytes)) = some (some (.agg #[.bool false, .string ⟨#[]⟩, .int .i64 0]), 3, 32) := by kernel_rfl
theorem cloneL_nil (c n : Nat) (w : World) : Calls Try.prog 68 #[.slice none n c] w fun e w' => e = .returned (.slice none 0 0) ∧ w = w' := by
  have hq := fun (w : World) (a : Option Addr) (n c : Nat) => Lib.run_eql_slice_nil (P := Try.prog) w 28 104 a n c 0 0 Try.underlying28
  go_enter Try.func68, Try.ntmps68
  go_wp2
  go_ret
  exact ⟨rfl, rfl⟩
set_option maxHeartbeats 800000 in
theorem cloneL_some (a : Addr) (n c : Nat) (xs : List Value) (w : World) (hx : Reads w w.heap.size 3 (some a) n xs) (h1 : ∀ u ∈ xs, u.oneCell' = true) (hl : n ≤ 1000000) :
    Calls Try.prog 68 #[.slice (some a) n c] w (RetRow 104 3 n xs w) := by
  have hq := fun (w : World) (a : Option Addr) (n c : Nat) => Lib.run_eql_slice_nil (P := Try.prog) w 28 104 a n c 0 0 Try.underlying28
  have Hx := Lib.hid hx
  clear hx
  obtain ⟨i0, hi0, hz0, hz1, hz2⟩ := info_parts infoL
  go_enter Try.func68, Try.ntmps68
  have hown0 : (w.alloc (.cells #[] 104)).ownsRow w.heap.size 104 3 (.slice (some ⟨w.heap.size, 0, none⟩) 0 0) 0 [] := own_empty w 104 3
  have hx1 := Lib.hid (Hx.out.alloc (Nat.le_refl _) (.cells #[] 104))
  clear Hx
  go_wp2_with (at_builtin; refine wpList_append_any _ rfl (.tmp 5) (.tmp 6) _ rfl w.heap.size 104 i0 _ 3 32 Try.underlying28 hi0 hz0 hz1 hz2 rfl (by decide) (.slice (some ⟨w.heap.size, 0, none⟩) 0 0) 0 [] rfl hown0 w.heap.size (some a) n c xs rfl hx1.out h1 (by simp only [maxLen]; omega) (by omega) (by simp) ?_; intro v' w1 hown' hgrow hat; rw [Nat.zero_add, List.nil_append] at hown'; obtain ⟨A', c', rfl, _⟩ := own_form hown')
  go_ret
  refine ⟨A', c', rfl, hown', ?_⟩
  exact ((Below.refl _ _).alloc (Nat.le_refl _) _).grown hgrow (by simp) (by simp [Value.ownBlock])
theorem cloneL_any (A : Option Addr) (n c : Nat) (xs : List Value) (w : World) (hx : Reads w w.heap.size 3 A n xs) (h1 : ∀ u ∈ xs, u.oneCell' = true) (hl : n ≤ 1000000) :
    Calls Try.prog 68 #[.slice A n c] w (RetRow 104 3 n xs w) := by
  cases A with
  | some a => exact cloneL_some a n c xs w hx h1 hl
  | none =>
    have hn : n = 0 := by
      rcases Nat.eq_zero_or_pos n with h | h
      · exact h
      · obtain ⟨ad, h, _⟩ := hx.2 h; cases h
    subst hn
    obtain rfl := List.eq_nil_of_length_eq_zero (by simpa using hx.1)
    refine (cloneL_nil c _ w).mono ?_
    rintro e w' ⟨rfl, rfl⟩
    exact ⟨none, 0, rfl, World.ownsRow_nil _ _ _ _, Below.refl _ _⟩
theorem infoC : (Try.prog.info? 78).map (fun i => (i.zero, i.size, i.bytes)) = some (some (.pointer none), 1, 8) := by kernel_rfl
theorem cloneC_nil (c n : Nat) (w : World) : Calls Try.prog 69 #[.slice none n c] w fun e w' => e = .returned (.slice none 0 0) ∧ w = w' := by
  have hq := fun (w : World) (a : Option Addr) (n c : Nat) => Lib.run_eql_slice_nil (P := Try.prog) w 67 78 a n c 0 0 Try.underlying67
  go_enter Try.func69, Try.ntmps69
  go_wp2
  go_ret
  exact ⟨rfl, rfl⟩
set_option maxHeartbeats 800000 in
theorem cloneC_some (a : Addr) (n c : Nat) (xs : List Value) (w : World) (hx : Reads w w.heap.size 1 (some a) n xs) (h1 : ∀ u ∈ xs, u.oneCell' = true) (hl : n ≤ 1000000) :
    Calls Try.prog 69 #[.slice (some a) n c] w (RetRow 78 1 n xs w) := by
  have hq := fun (w : World) (a : Option Addr) (n c : Nat) => Lib.run_eql_slice_nil (P := Try.prog) w 67 78 a n c 0 0 Try.underlying67
  have Hx := Lib.hid hx
  clear hx
  obtain ⟨i0, hi0, hz0, hz1, hz2⟩ := info_parts infoC
  go_enter Try.func69, Try.ntmps69
  have hown0 : (w.alloc (.cells #[] 78)).ownsRow w.heap.size 78 1 (.slice (some ⟨w.heap.size, 0, none⟩) 0 0) 0 [] := own_empty w 78 1
  have hx1 := Lib.hid (Hx.out.alloc (Nat.le_refl _) (.cells #[] 78))
  clear Hx
  go_wp2_with (at_builtin; refine wpList_append_any _ rfl (.tmp 5) (.tmp 6) _ rfl w.heap.size 78 i0 _ 1 8 Try.underlying67 hi0 hz0 hz1 hz2 rfl (by decide) (.slice (some ⟨w.heap.size, 0, none⟩) 0 0) 0 [] rfl hown0 w.heap.size (some a) n c xs rfl hx1.out h1 (by simp only [maxLen]; omega) (by omega) (by simp) ?_; intro v' w1 hown' hgrow hat; rw [Nat.zero_add, List.nil_append] at hown'; obtain ⟨A', c', rfl, _⟩ := own_form hown')
  go_ret
  refine ⟨A', c', rfl, hown', ?_⟩
  exact ((Below.refl _ _).alloc (Nat.le_refl _) _).grown hgrow (by simp) (by simp [Value.ownBlock])
theorem cloneC_any (A : Option Addr) (n c : Nat) (xs : List Value) (w : World) (hx : Reads w w.heap.size 1 A n xs) (h1 : ∀ u ∈ xs, u.oneCell' = true) (hl : n ≤ 1000000) :
    Calls Try.prog 69 #[.slice A n c] w (RetRow 78 1 n xs w) := by
  cases A with
  | some a => exact cloneC_some a n c xs w hx h1 hl
  | none =>
    have hn : n = 0 := by
      rcases Nat.eq_zero_or_pos n with h | h
      · exact h
      · obtain ⟨ad, h, _⟩ := hx.2 h; cases h
    subst hn
    obtain rfl := List.eq_nil_of_length_eq_zero (by simpa using hx.1)
    refine (cloneC_nil c _ w).mono ?_
    rintro e w' ⟨rfl, rfl⟩
    exact ⟨none, 0, rfl, World.ownsRow_nil _ _ _ _, Below.refl _ _⟩
theorem infoV : (Try.prog.info? 30).map (fun i => (i.zero, i.size, i.bytes)) = some (some (.agg #[.int .i64 0, .int .i64 0, .int .u64 0, .string ⟨#[]⟩, .slice none 0 0]), 5, 64) := by kernel_rfl
theorem cloneV_nil (c n : Nat) (w : World) : Calls Try.prog 70 #[.slice none n c] w fun e w' => e = .returned (.slice none 0 0) ∧ w = w' := by
  have hq := fun (w : World) (a : Option Addr) (n c : Nat) => Lib.run_eql_slice_nil (P := Try.prog) w 31 30 a n c 0 0 Try.underlying31
  go_enter Try.func70, Try.ntmps70
  go_wp2
  go_ret
  exact ⟨rfl, rfl⟩
set_option maxHeartbeats 800000 in
theorem cloneV_some (a : Addr) (n c : Nat) (xs : List Value) (w : World) (hx : Reads w w.heap.size 5 (some a) n xs) (h1 : ∀ u ∈ xs, u.oneCell' = true) (hl : n ≤ 1000000) :
    Calls Try.prog 70 #[.slice (some a) n c] w (RetRow 30 5 n xs w) := by
  have hq := fun (w : World) (a : Option Addr) (n c : Nat) => Lib.run_eql_slice_nil (P := Try.prog) w 31 30 a n c 0 0 Try.underlying31
  have Hx := Lib.hid hx
  clear hx
  obtain ⟨i0, hi0, hz0, hz1, hz2⟩ := info_parts infoV
  go_enter Try.func70, Try.ntmps70
  have hown0 : (w.alloc (.cells #[] 30)).ownsRow w.heap.size 30 5 (.slice (some ⟨w.heap.size, 0, none⟩) 0 0) 0 [] := own_empty w 30 5
  have hx1 := Lib.hid (Hx.out.alloc (Nat.le_refl _) (.cells #[] 30))
  clear Hx
  go_wp2_with (at_builtin; refine wpList_append_any _ rfl (.tmp 5) (.tmp 6) _ rfl w.heap.size 30 i0 _ 5 64 Try.underlying31 hi0 hz0 hz1 hz2 rfl (by decide) (.slice (some ⟨w.heap.size, 0, none⟩) 0 0) 0 [] rfl hown0 w.heap.size (some a) n c xs rfl hx1.out h1 (by simp only [maxLen]; omega) (by omega) (by simp) ?_; intro v' w1 hown' hgrow hat; rw [Nat.zero_add, List.nil_append] at hown'; obtain ⟨A', c', rfl, _⟩ := own_form hown')
  go_ret
  refine ⟨A', c', rfl, hown', ?_⟩
  exact ((Below.refl _ _).alloc (Nat.le_refl _) _).grown hgrow (by simp) (by simp [Value.ownBlock])
theorem cloneV_any (A : Option Addr) (n c : Nat) (xs : List Value) (w : World) (hx : Reads w w.heap.size 5 A n xs) (h1 : ∀ u ∈ xs, u.oneCell' = true) (hl : n ≤ 1000000) :
    Calls Try.prog 70 #[.slice A n c] w (RetRow 30 5 n xs w) := by
  cases A with
  | some a => exact cloneV_some a n c xs w hx h1 hl
  | none =>
    have hn : n = 0 := by
      rcases Nat.eq_zero_or_pos n with h | h
      · exact h
      · obtain ⟨ad, h, _⟩ := hx.2 h; cases h
    subst hn
    obtain rfl := List.eq_nil_of_length_eq_zero (by simpa using hx.1)
    refine (cloneV_nil c _ w).mono ?_
    rintro e w' ⟨rfl, rfl⟩
    exact ⟨none, 0, rfl, World.ownsRow_nil _ _ _ _, Below.refl _ _⟩
end Go.Proofs.Ytiaeckljpdhagaa
