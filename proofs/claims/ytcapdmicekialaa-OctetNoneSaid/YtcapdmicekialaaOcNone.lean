/- Writers and readers that nobody made. -/
import Derived.Test.YtcapdmicekialaaOcKnown
namespace Go.Proofs.Ytcapdmicekialaa
open Go.RowKit
attribute [local go_sem] Oper.semAt_some run_store_func run_store_nilFunc
/-- A pointer to nothing, or to one that nobody made (its mark is cell k). -/
inductive Unmade (k : Nat) (W : World) : Value → Prop
  | nil : Unmade k W (.pointer none)
  | raw (p : Nat) (h : W.cell? ⟨p, k, none⟩ = some (.bool false)) : Unmade k W (.pointer (some ⟨p, 0, none⟩))
theorem Unmade.below {k : Nat} {W W' : World} {v : Value} (h : Unmade k W v) (hb : Below W.heap.size W W') : Unmade k W' v := by
  cases h with
  | nil => exact .nil
  | raw p hc => exact .raw p ((hb.cell (p := ⟨p, k, none⟩) (lt_of_cell hc)).trans hc)
theorem wnone_yes (v : Value) (W : World) (h : Unmade 3 W v) : Calls Try.prog 47 #[v] W fun e W' => e = .returned (.bool true) ∧ W = W' := by
  cases h with
  | nil =>
    go_enter Try.func47, Try.ntmps47
    go_wp2
    go_ret
    exact ⟨rfl, rfl⟩
  | raw p hc =>
    go_enter Try.func47, Try.ntmps47
    go_wp2
    go_ret
    exact ⟨rfl, rfl⟩
theorem rnone_yes (v : Value) (W : World) (h : Unmade 4 W v) : Calls Try.prog 49 #[v] W fun e W' => e = .returned (.bool true) ∧ W = W' := by
  cases h with
  | nil =>
    go_enter Try.func49, Try.ntmps49
    go_wp2
    go_ret
    exact ⟨rfl, rfl⟩
  | raw p hc =>
    go_enter Try.func49, Try.ntmps49
    go_wp2
    go_ret
    exact ⟨rfl, rfl⟩
theorem write_unmade (v x : Value) (may : Bool) (W : World) (h : Unmade 3 W v) : Calls Try.prog 43 #[v, .bool may, x] W fun e W' => e = .returned (.int .i64 1) ∧ W = W' := by
  have HN := Lib.hid (wnone_yes v W h)
  clear h
  go_enter Try.func43, Try.ntmps43
  go_wp2_with fail
  refine HN.out.mono ?_
  rintro e w' ⟨rfl, rfl⟩
  go_wp2_with fail
  go_ret
  exact ⟨rfl, rfl⟩
theorem num_unmade (v : Value) (n : Int) (W : World) (h : Unmade 3 W v) : Calls Try.prog 15 #[v, .int .i64 n] W (RetBw (.int .i64 1) W) := by
  obtain ⟨h0, h1⟩ := wrap_range n
  obtain ⟨m, hm⟩ := Int.eq_ofNat_of_zero_le h0
  have hlt : m < 18446744073709551616 := by omega
  clear h0 h1
  go_enter Try.func15, Try.ntmps15
  go_wp2_with fail
  refine (number_any m hlt W).mono ?_
  rintro e w1 ⟨A, c, rfl, _, hb⟩
  have HP := Lib.hid (write_unmade v (.slice A (grp m).length c) (decide (0 ≤ n)) w1 (h.below hb))
  clear hm
  go_wp2_with fail
  refine HP.out.mono ?_
  rintro e w2 ⟨rfl, rfl⟩
  go_wp2_with fail
  go_ret
  exact ⟨rfl, hb⟩
set_option maxHeartbeats 800000 in
theorem whole_unmade (v : Value) (n : Int) (W : World) (h : Unmade 3 W v) (h0 : -9223372036854775808 ≤ n) (h1 : n ≤ 9223372036854775807) : Calls Try.prog 17 #[v, .int .i64 n] W (RetBw (.int .i64 1) W) := by
  by_cases ha : -4611686018427387904 ≤ n
  · by_cases hb : n < 4611686018427387904
    · obtain ⟨hx, hm⟩ := zz_bits n ha hb
      generalize zz n = m at *
      go_enter Try.func17, Try.ntmps17
      go_wp2_with fail
      refine (number_any m hm W).mono ?_
      rintro e w1 ⟨A, c, rfl, _, hb⟩
      have HP := Lib.hid (write_unmade v (.slice A (grp m).length c) true w1 (h.below hb))
      clear hx
      go_wp2_with fail
      refine HP.out.mono ?_
      rintro e w2 ⟨rfl, rfl⟩
      go_wp2_with fail
      go_ret
      exact ⟨rfl, hb⟩
    · have hd : decide (n < 4611686018427387904) = false := decide_eq_false hb
      obtain ⟨m, hx, hm⟩ := xor_wide (IntKind.u64.wrap (wrap64 (n * 2))) (n / 9223372036854775808) (wrap_range _).1 (wrap_range _).2 (by omega) (by omega)
      go_enter Try.func17, Try.ntmps17
      go_wp2_with fail
      refine (number_any m hm W).mono ?_
      rintro e w1 ⟨A, c, rfl, _, hb⟩
      have HP := Lib.hid (write_unmade v (.slice A (grp m).length c) false w1 (h.below hb))
      clear hx
      go_wp2_with fail
      refine HP.out.mono ?_
      rintro e w2 ⟨rfl, rfl⟩
      go_wp2_with fail
      go_ret
      exact ⟨rfl, hb⟩
  · have hd : decide (-4611686018427387904 ≤ n) = false := decide_eq_false ha
    obtain ⟨m, hx, hm⟩ := xor_wide (IntKind.u64.wrap (wrap64 (n * 2))) (IntKind.u64.wrap (n / 9223372036854775808)) (wrap_range _).1 (wrap_range _).2 (wrap_range _).1 (wrap_range _).2
    go_enter Try.func17, Try.ntmps17
    go_wp2_with fail
    refine (number_any m hm W).mono ?_
    rintro e w1 ⟨A, c, rfl, _, hb⟩
    have HP := Lib.hid (write_unmade v (.slice A (grp m).length c) false w1 (h.below hb))
    clear hx
    go_wp2_with fail
    refine HP.out.mono ?_
    rintro e w2 ⟨rfl, rfl⟩
    go_wp2_with fail
    go_ret
    exact ⟨rfl, hb⟩
theorem word_unmade (v : Value) (s : ByteArray) (W : World) (h : Unmade 3 W v) : Calls Try.prog 19 #[v, .string s] W fun e W' => e = .returned (.int .i64 1) ∧ W = W' := by
  have HN := Lib.hid (wnone_yes v W h)
  clear h
  go_enter Try.func19, Try.ntmps19
  go_wp2_with fail
  refine HN.out.mono ?_
  rintro e w' ⟨rfl, rfl⟩
  go_wp2_with fail
  go_ret
  exact ⟨rfl, rfl⟩
theorem bytes_unmade (v : Value) (W : World) (h : Unmade 3 W v) : Calls Try.prog 21 #[v] W fun e W' => e = .returned (.tuple #[.slice none 0 0, .int .i64 1]) ∧ W = W' := by
  have HN := Lib.hid (wnone_yes v W h)
  clear h
  go_enter Try.func21, Try.ntmps21
  go_wp2_with fail
  refine HN.out.mono ?_
  rintro e w' ⟨rfl, rfl⟩
  go_wp2_with fail
  go_ret2
  exact ⟨rfl, rfl⟩
theorem rnum_unmade (v : Value) (W : World) (h : Unmade 4 W v) : Calls Try.prog 25 #[v] W fun e W' => e = .returned (.int .i64 0) ∧ W = W' := by
  have HN := Lib.hid (rnone_yes v W h)
  clear h
  go_enter_defers Try.func25, Try.ntmps25
  go_wp2_with fail
  refine HN.out.mono ?_
  rintro e w' ⟨rfl, rfl⟩
  go_wp2_with fail
  exact ⟨_, results_tmp rfl _ _ _, rfl, rfl⟩
theorem rwhole_unmade (v : Value) (W : World) (h : Unmade 4 W v) : Calls Try.prog 26 #[v] W fun e W' => e = .returned (.int .i64 0) ∧ W = W' := by
  have HN := Lib.hid (rnone_yes v W h)
  clear h
  go_enter_defers Try.func26, Try.ntmps26
  go_wp2_with fail
  refine HN.out.mono ?_
  rintro e w' ⟨rfl, rfl⟩
  go_wp2_with fail
  exact ⟨_, results_tmp rfl _ _ _, rfl, rfl⟩
theorem rword_unmade (v : Value) (n : Int) (W : World) (h : Unmade 4 W v) : Calls Try.prog 27 #[v, .int .i64 n] W fun e W' => e = .returned (.string ⟨#[]⟩) ∧ W = W' := by
  have HN := Lib.hid (rnone_yes v W h)
  clear h
  go_enter_defers Try.func27, Try.ntmps27
  go_wp2_with fail
  refine HN.out.mono ?_
  rintro e w' ⟨rfl, rfl⟩
  go_wp2_with fail
  exact ⟨_, results_tmp rfl _ _ _, rfl, rfl⟩
theorem rrest_unmade (v : Value) (W : World) (h : Unmade 4 W v) : Calls Try.prog 28 #[v] W fun e W' => e = .returned (.int .i64 0) ∧ W = W' := by
  have HN := Lib.hid (rnone_yes v W h)
  clear h
  go_enter Try.func28, Try.ntmps28
  go_wp2_with fail
  refine HN.out.mono ?_
  rintro e w' ⟨rfl, rfl⟩
  go_wp2_with fail
  go_ret
  exact ⟨rfl, rfl⟩
theorem rend_unmade (v : Value) (W : World) (h : Unmade 4 W v) : Calls Try.prog 29 #[v] W (RetBw (.agg #[.int .i64 1, .int .i64 0]) W) := by
  have HN := Lib.hid (rnone_yes v _ (h.below ((Below.refl _ _).alloc (Nat.le_refl _) (.cells #[.int .i64 0, .int .i64 0] 47))))
  clear h
  go_enter Try.func29, Try.ntmps29
  go_wp2_with fail
  refine HN.out.mono ?_
  rintro e w' ⟨rfl, rfl⟩
  go_wp2_with fail
  refine bodyPost_ret (results_cell_row rfl _ _ W.heap.size 47 #[.int .i64 1, .int .i64 0] (0, 0) _ rfl (World.alloc_heap_new W _) Try.underlying47 rfl (by kernel_rfl)) rfl ?_
  exact ⟨rfl, (Below.refl _ _).alloc (Nat.le_refl _) _⟩
end Go.Proofs.Ytcapdmicekialaa
