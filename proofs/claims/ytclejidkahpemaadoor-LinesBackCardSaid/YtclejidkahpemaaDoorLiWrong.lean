/- lines.form.wrong. Printed by mkwrong.py. -/
import Derived.Test.YtclejidkahpemaaDoorLiBytes
import Derived.Test.YtclejidkahpemaaDoorScopeIn
namespace Go.Proofs.YtclejidkahpemaaDoor
open Go.RowKit
set_option linter.unusedVariables false
set_option linter.unusedSimpArgs false
attribute [local irreducible] ByteArray.extract ByteArray.toList
attribute [local go_sem] Oper.semAt_some run_store_func run_store_nilFunc
theorem enters_let : ∀ args w, (callFunc 52 args).run Tryd.prog w = .ok (.enter 52 args) w := enters_fn Tryd.func52 (by kernel_rfl) rfl
/-- So far all bytes may stand there. -/
def okTo (k : Nat) (s : ByteArray) (i : Nat) : Prop := ∀ j, j < i → mayL k (s.data.toList.getD j 0) = true
theorem badAt_of {k : Nat} {l : List UInt8} {i : Nat} (hi : i < l.length) (h : ∀ j, j < i → mayL k (l.getD j 0) = true) (hb : mayL k (l.getD i 0) = false) : badAt k l = i := by
  induction l generalizing i with
  | nil => simp at hi
  | cons c l ih =>
    unfold badAt
    cases i with
    | zero =>
      have : mayL k c = false := hb
      rw [List.takeWhile_cons_of_neg (by simp [this])]; rfl
    | succ i =>
      have h0 : mayL k c = true := h 0 (by omega)
      rw [List.takeWhile_cons_of_pos h0, List.length_cons]
      have := ih (i := i) (by simpa using hi) (fun j hj => h (j + 1) (by omega)) hb
      unfold badAt at this
      rw [this]
theorem badAt_all {k : Nat} {l : List UInt8} (h : ∀ j, j < l.length → mayL k (l.getD j 0) = true) : badAt k l = l.length := by
  induction l with
  | nil => rfl
  | cons c l ih =>
    unfold badAt
    have h0 : mayL k c = true := h 0 (by simp)
    rw [List.takeWhile_cons_of_pos h0, List.length_cons, List.length_cons]
    have := ih (fun j hj => h (j + 1) (by simpa using hj))
    unfold badAt at this
    rw [this]
set_option maxRecDepth 100000 in
set_option maxHeartbeats 1600000 in
theorem wrong_1 (s : ByteArray) (hs : s.size ≤ 140737488351232) (w : World) : Calls Tryd.prog 26 #[.agg #[.bool true, .func (.func 33) #[] #[], .func (.func 34) #[] #[]], .string s] w fun e w' => e = .returned (.int .i64 (badAt 1 s.data.toList)) ∧ Below w.heap.size w w' := by
  refine (callsIn_wide (n := 3)).1 ?_
  refine callsIn_of_wp_marks Tryd.func26 rfl trivial ?_
  simp only [Tryd.ntmps26, List.size_toArray, List.length_cons, List.length_nil, Nat.reduceAdd, Nat.reduceSub, Array.replicate_succ, Array.replicate_zero, List.push_toArray, List.append_toArray, List.nil_append, List.cons_append]
  obtain ⟨w1, hw1⟩ : ∃ w1, w1 = ((w.alloc (.cells #[.bool true, .func (.func 33) #[] #[], .func (.func 34) #[] #[]] 47)).alloc (.cells #[.int .i64 s.size] 3)).alloc (.cells #[.string s] 9) := ⟨_, rfl⟩
  have hs1 : w1.heap.size = w.heap.size + 3 := by rw [hw1]; simp
  have hbf : Blk w1 w.heap.size 47 #[.bool true, .func (.func 33) #[] #[], .func (.func 34) #[] #[]] := by rw [hw1]; exact ((Blk.new w 47 _).alloc _).alloc _
  have hbx : Boxed w1 (w.heap.size + 1) 3 (.int .i64 s.size) := by
    rw [hw1]
    have := (Boxed.new (w.alloc (.cells #[.bool true, .func (.func 33) #[] #[], .func (.func 34) #[] #[]] 47)) 3 (.int .i64 s.size)).alloc (.cells #[.string s] 9)
    simpa using this
  have hbc : w1.cell? ⟨w.heap.size + 2, 0, none⟩ = some (.string s) := by
    rw [hw1]
    have := (cell_new1 ((w.alloc (.cells #[.bool true, .func (.func 33) #[] #[], .func (.func 34) #[] #[]] 47)).alloc (.cells #[.int .i64 s.size] 3)) (.string s) 9).1
    simpa using this
  have hB1 : Below w.heap.size w w1 := by rw [hw1]; exact (((Below.refl _ _).alloc (Nat.le_refl _) _).alloc (by simp) _).alloc (by simp; omega) _
  have Hd := Lib.hid (letters_iter s hs (w.heap.size + 2) w1 hbc)
  have HK := Lib.hid (And.intro hbf (And.intro hbx hB1))
  have HW1 := Lib.hid hw1
  clear hbf hbx hbc hB1 hw1
  gi_wp2
  refine wpIn_scope_straight ?_
  gi_wp2
  refine wpIn_label ?_
  gi_wp2_with ((refine ⟨trivial, ?_⟩; gi_at_call 42); refine (callsIn_wide.2 (letters_any _ _)).mono ?_; rintro e w' ⟨rfl, rfl⟩)
  change Code.wpIn _ _ _ _ _ _ (((w.alloc (.cells #[.bool true, .func (.func 33) #[] #[], .func (.func 34) #[] #[]] 47)).alloc (.cells #[.int .i64 s.size] 3)).alloc (.cells #[.string s] 9))
  rw [← HW1.out]
  refine wp_range (w := w1) (gf := 52) (lb := #[.pointer (some ⟨w.heap.size + 2, 0, none⟩)]) rfl enters_let
    Hd.out (by rintro b (h | rfl); exact h.elim; omega) (fun _ => rfl)
    (fun i W => okTo 1 s i ∧ Blk W w.heap.size 47 #[.bool true, .func (.func 33) #[] #[], .func (.func 34) #[] #[]] ∧ Boxed W (w.heap.size + 1) 3 (.int .i64 s.size) ∧ Below w.heap.size w W ∧ w.heap.size + 3 ≤ W.heap.size)
    (fun c i W => c = .exit 0 ∧ ∃ j, badAt 1 s.data.toList = j ∧ Boxed W (w.heap.size + 1) 3 (.int .i64 j) ∧ Below w.heap.size w W ∧ w.heap.size + 3 ≤ W.heap.size) ?hI ?hIx ?h0 ?round ?done ?stop
  case hI =>
    rintro i A B ⟨hk, hb, hx, hB, hz⟩ ho
    rw [hs1] at ho
    refine ⟨hk, (ho.block _ (by omega) (by rintro (h | h | h); exact h.elim; all_goals omega)).trans hb, box_only ho hx (by rintro (h | h | h); exact h.elim; all_goals omega), hB.trans (ho.below hB.size (by rintro b (h | h | h); exact h.elim; all_goals omega)), by have := ho.size; omega⟩
  case hIx =>
    rintro c i A B ⟨rfl, j, hj, hx, hB, hz⟩ ho
    rw [hs1] at ho
    exact ⟨rfl, j, hj, box_only ho hx (by rintro (h | h | h); exact h.elim; all_goals omega), hB.trans (ho.below hB.size (by rintro b (h | h | h); exact h.elim; all_goals omega)), by have := ho.size; omega⟩
  case h0 => exact ⟨fun j hj => absurd hj (Nat.not_lt_zero j), HK.out.1, HK.out.2.1, HK.out.2.2, by omega⟩
  case round =>
    rintro l i hi W rfl hlt ⟨hk, hb, hx, hB, hz⟩
    rw [hs1] at hlt
    rw [List.length_range] at hi
    obtain ⟨cb, hcb⟩ : ∃ c, c = s.data.toList.getD i 0 := ⟨_, rfl⟩
    unfold letE
    rw [List.getElem_range, ← hcb]
    have HCb := Lib.hid hcb
    clear hcb
    gi_wp2
    refine ⟨Kept.refl _ _ _ _, ⟨hk, hb, hx, hB, hz⟩, ?_⟩
    clear hlt hk hb hx hB hz
    rintro W2 hlt ⟨hk, hb, hx, hB, hz⟩
    rw [hs1] at hlt
    have c1 := hb.cell 1
    simp at c1
    have hx0 := hx.cell
    have hxf := hx.frozen
    have HR := Lib.hid (And.intro hk (And.intro hb (And.intro hx (And.intro hB hz))))
    have HC := Lib.hid (fun l n => CallsIn.inRound l ((callsIn_wide (n := n)).2 (clr_any cb W2)))
    clear hk hb hx hB hz
    cases hm : mayL 1 cb with
    | true =>
      have HM := Lib.hid (by rw [← HCb.out]; exact hm : mayL 1 (s.data.toList.getD i 0) = true)
      have hm' : mayL 1 cb = true := hm
      rw [hm'] at HC
      clear hm hm'
      gi_wp2_with ((refine ⟨trivial, ?_⟩); refine (HC.out _ _).mono ?_; rintro e w' ⟨rfl, rfl⟩)
      refine ⟨Kept.refl _ _ _ _, ?_, HR.out.2.1, HR.out.2.2.1, HR.out.2.2.2.1, HR.out.2.2.2.2⟩
      intro j hj
      rcases Nat.lt_succ_iff_lt_or_eq.1 hj with h | rfl
      · exact HR.out.1 j h
      · exact HM.out
    | false =>
      have HM := Lib.hid (by rw [← HCb.out]; exact hm : mayL 1 (s.data.toList.getD i 0) = false)
      have hm' : mayL 1 cb = false := hm
      rw [hm'] at HC
      clear hm hm'
      gi_wp2_with ((refine ⟨trivial, ?_⟩); refine (HC.out _ _).mono ?_; rintro e w' ⟨rfl, rfl⟩)
      have hO := Only.setCell (S := (· = w.heap.size + 1)) W2 ⟨w.heap.size + 1, 0, none⟩ (.int .i64 i) rfl
      refine ⟨Kept.of_only hO (fun b hb => ?_), rfl, i, badAt_of (by rw [len_list]; exact hi) HR.out.1 HM.out, HR.out.2.2.1.set _, HR.out.2.2.2.1.trans (hO.below HR.out.2.2.2.1.size (fun b hb => by omega)), by have := hO.size; omega⟩
      rw [hs1] at hb
      rcases hb with h | h | h | h
      · exact h.elim
      all_goals exact ⟨by omega, by omega⟩
  case done =>
    rintro W ⟨hk, hb, hx, hB, hz⟩ hlt hD
    have hx0 := hx.cell
    rw [hs1] at hD hlt
    rw [hs1]
    rw [List.length_range] at hk
    gi_wp2
    refine leaves_mark hD (leaves_nil (results_tmp rfl _ _ _) ⟨?_, below_putObj hB (by omega) (by omega) _⟩)
    show Ending.returned (.int .i64 s.size) = _
    rw [badAt_all (l := s.data.toList) (by rw [len_list]; exact hk), len_list]
  case stop =>
    rintro c i W hi ⟨rfl, j, hj, hx, hB, hz⟩ hlt hD
    have hx0 := hx.cell
    rw [hs1] at hD hlt
    rw [hs1]
    gi_wp2
    refine leaves_mark hD (leaves_nil (results_tmp rfl _ _ _) ⟨?_, below_putObj hB (by omega) (by omega) _⟩)
    rw [hj]
    rfl
set_option maxRecDepth 100000 in
set_option maxHeartbeats 1600000 in
theorem wrong_2 (s : ByteArray) (hs : s.size ≤ 140737488351232) (w : World) : Calls Tryd.prog 26 #[.agg #[.bool true, .func (.func 35) #[] #[], .func (.func 36) #[] #[]], .string s] w fun e w' => e = .returned (.int .i64 (badAt 2 s.data.toList)) ∧ Below w.heap.size w w' := by
  refine (callsIn_wide (n := 3)).1 ?_
  refine callsIn_of_wp_marks Tryd.func26 rfl trivial ?_
  simp only [Tryd.ntmps26, List.size_toArray, List.length_cons, List.length_nil, Nat.reduceAdd, Nat.reduceSub, Array.replicate_succ, Array.replicate_zero, List.push_toArray, List.append_toArray, List.nil_append, List.cons_append]
  obtain ⟨w1, hw1⟩ : ∃ w1, w1 = ((w.alloc (.cells #[.bool true, .func (.func 35) #[] #[], .func (.func 36) #[] #[]] 47)).alloc (.cells #[.int .i64 s.size] 3)).alloc (.cells #[.string s] 9) := ⟨_, rfl⟩
  have hs1 : w1.heap.size = w.heap.size + 3 := by rw [hw1]; simp
  have hbf : Blk w1 w.heap.size 47 #[.bool true, .func (.func 35) #[] #[], .func (.func 36) #[] #[]] := by rw [hw1]; exact ((Blk.new w 47 _).alloc _).alloc _
  have hbx : Boxed w1 (w.heap.size + 1) 3 (.int .i64 s.size) := by
    rw [hw1]
    have := (Boxed.new (w.alloc (.cells #[.bool true, .func (.func 35) #[] #[], .func (.func 36) #[] #[]] 47)) 3 (.int .i64 s.size)).alloc (.cells #[.string s] 9)
    simpa using this
  have hbc : w1.cell? ⟨w.heap.size + 2, 0, none⟩ = some (.string s) := by
    rw [hw1]
    have := (cell_new1 ((w.alloc (.cells #[.bool true, .func (.func 35) #[] #[], .func (.func 36) #[] #[]] 47)).alloc (.cells #[.int .i64 s.size] 3)) (.string s) 9).1
    simpa using this
  have hB1 : Below w.heap.size w w1 := by rw [hw1]; exact (((Below.refl _ _).alloc (Nat.le_refl _) _).alloc (by simp) _).alloc (by simp; omega) _
  have Hd := Lib.hid (letters_iter s hs (w.heap.size + 2) w1 hbc)
  have HK := Lib.hid (And.intro hbf (And.intro hbx hB1))
  have HW1 := Lib.hid hw1
  clear hbf hbx hbc hB1 hw1
  gi_wp2
  refine wpIn_scope_straight ?_
  gi_wp2
  refine wpIn_label ?_
  gi_wp2_with ((refine ⟨trivial, ?_⟩; gi_at_call 42); refine (callsIn_wide.2 (letters_any _ _)).mono ?_; rintro e w' ⟨rfl, rfl⟩)
  change Code.wpIn _ _ _ _ _ _ (((w.alloc (.cells #[.bool true, .func (.func 35) #[] #[], .func (.func 36) #[] #[]] 47)).alloc (.cells #[.int .i64 s.size] 3)).alloc (.cells #[.string s] 9))
  rw [← HW1.out]
  refine wp_range (w := w1) (gf := 52) (lb := #[.pointer (some ⟨w.heap.size + 2, 0, none⟩)]) rfl enters_let
    Hd.out (by rintro b (h | rfl); exact h.elim; omega) (fun _ => rfl)
    (fun i W => okTo 2 s i ∧ Blk W w.heap.size 47 #[.bool true, .func (.func 35) #[] #[], .func (.func 36) #[] #[]] ∧ Boxed W (w.heap.size + 1) 3 (.int .i64 s.size) ∧ Below w.heap.size w W ∧ w.heap.size + 3 ≤ W.heap.size)
    (fun c i W => c = .exit 0 ∧ ∃ j, badAt 2 s.data.toList = j ∧ Boxed W (w.heap.size + 1) 3 (.int .i64 j) ∧ Below w.heap.size w W ∧ w.heap.size + 3 ≤ W.heap.size) ?hI ?hIx ?h0 ?round ?done ?stop
  case hI =>
    rintro i A B ⟨hk, hb, hx, hB, hz⟩ ho
    rw [hs1] at ho
    refine ⟨hk, (ho.block _ (by omega) (by rintro (h | h | h); exact h.elim; all_goals omega)).trans hb, box_only ho hx (by rintro (h | h | h); exact h.elim; all_goals omega), hB.trans (ho.below hB.size (by rintro b (h | h | h); exact h.elim; all_goals omega)), by have := ho.size; omega⟩
  case hIx =>
    rintro c i A B ⟨rfl, j, hj, hx, hB, hz⟩ ho
    rw [hs1] at ho
    exact ⟨rfl, j, hj, box_only ho hx (by rintro (h | h | h); exact h.elim; all_goals omega), hB.trans (ho.below hB.size (by rintro b (h | h | h); exact h.elim; all_goals omega)), by have := ho.size; omega⟩
  case h0 => exact ⟨fun j hj => absurd hj (Nat.not_lt_zero j), HK.out.1, HK.out.2.1, HK.out.2.2, by omega⟩
  case round =>
    rintro l i hi W rfl hlt ⟨hk, hb, hx, hB, hz⟩
    rw [hs1] at hlt
    rw [List.length_range] at hi
    obtain ⟨cb, hcb⟩ : ∃ c, c = s.data.toList.getD i 0 := ⟨_, rfl⟩
    unfold letE
    rw [List.getElem_range, ← hcb]
    have HCb := Lib.hid hcb
    clear hcb
    gi_wp2
    refine ⟨Kept.refl _ _ _ _, ⟨hk, hb, hx, hB, hz⟩, ?_⟩
    clear hlt hk hb hx hB hz
    rintro W2 hlt ⟨hk, hb, hx, hB, hz⟩
    rw [hs1] at hlt
    have c1 := hb.cell 1
    simp at c1
    have hx0 := hx.cell
    have hxf := hx.frozen
    have HR := Lib.hid (And.intro hk (And.intro hb (And.intro hx (And.intro hB hz))))
    have HC := Lib.hid (fun l n => CallsIn.inRound l ((callsIn_wide (n := n)).2 (fhx_any cb W2)))
    clear hk hb hx hB hz
    cases hm : mayL 2 cb with
    | true =>
      have HM := Lib.hid (by rw [← HCb.out]; exact hm : mayL 2 (s.data.toList.getD i 0) = true)
      have hm' : mayL 2 cb = true := hm
      rw [hm'] at HC
      clear hm hm'
      gi_wp2_with ((refine ⟨trivial, ?_⟩); refine (HC.out _ _).mono ?_; rintro e w' ⟨rfl, rfl⟩)
      refine ⟨Kept.refl _ _ _ _, ?_, HR.out.2.1, HR.out.2.2.1, HR.out.2.2.2.1, HR.out.2.2.2.2⟩
      intro j hj
      rcases Nat.lt_succ_iff_lt_or_eq.1 hj with h | rfl
      · exact HR.out.1 j h
      · exact HM.out
    | false =>
      have HM := Lib.hid (by rw [← HCb.out]; exact hm : mayL 2 (s.data.toList.getD i 0) = false)
      have hm' : mayL 2 cb = false := hm
      rw [hm'] at HC
      clear hm hm'
      gi_wp2_with ((refine ⟨trivial, ?_⟩); refine (HC.out _ _).mono ?_; rintro e w' ⟨rfl, rfl⟩)
      have hO := Only.setCell (S := (· = w.heap.size + 1)) W2 ⟨w.heap.size + 1, 0, none⟩ (.int .i64 i) rfl
      refine ⟨Kept.of_only hO (fun b hb => ?_), rfl, i, badAt_of (by rw [len_list]; exact hi) HR.out.1 HM.out, HR.out.2.2.1.set _, HR.out.2.2.2.1.trans (hO.below HR.out.2.2.2.1.size (fun b hb => by omega)), by have := hO.size; omega⟩
      rw [hs1] at hb
      rcases hb with h | h | h | h
      · exact h.elim
      all_goals exact ⟨by omega, by omega⟩
  case done =>
    rintro W ⟨hk, hb, hx, hB, hz⟩ hlt hD
    have hx0 := hx.cell
    rw [hs1] at hD hlt
    rw [hs1]
    rw [List.length_range] at hk
    gi_wp2
    refine leaves_mark hD (leaves_nil (results_tmp rfl _ _ _) ⟨?_, below_putObj hB (by omega) (by omega) _⟩)
    show Ending.returned (.int .i64 s.size) = _
    rw [badAt_all (l := s.data.toList) (by rw [len_list]; exact hk), len_list]
  case stop =>
    rintro c i W hi ⟨rfl, j, hj, hx, hB, hz⟩ hlt hD
    have hx0 := hx.cell
    rw [hs1] at hD hlt
    rw [hs1]
    gi_wp2
    refine leaves_mark hD (leaves_nil (results_tmp rfl _ _ _) ⟨?_, below_putObj hB (by omega) (by omega) _⟩)
    rw [hj]
    rfl
set_option maxRecDepth 100000 in
set_option maxHeartbeats 1600000 in
theorem wrong_3 (s : ByteArray) (hs : s.size ≤ 140737488351232) (w : World) : Calls Tryd.prog 26 #[.agg #[.bool true, .func (.func 37) #[] #[], .func (.func 38) #[] #[]], .string s] w fun e w' => e = .returned (.int .i64 (badAt 3 s.data.toList)) ∧ Below w.heap.size w w' := by
  refine (callsIn_wide (n := 3)).1 ?_
  refine callsIn_of_wp_marks Tryd.func26 rfl trivial ?_
  simp only [Tryd.ntmps26, List.size_toArray, List.length_cons, List.length_nil, Nat.reduceAdd, Nat.reduceSub, Array.replicate_succ, Array.replicate_zero, List.push_toArray, List.append_toArray, List.nil_append, List.cons_append]
  obtain ⟨w1, hw1⟩ : ∃ w1, w1 = ((w.alloc (.cells #[.bool true, .func (.func 37) #[] #[], .func (.func 38) #[] #[]] 47)).alloc (.cells #[.int .i64 s.size] 3)).alloc (.cells #[.string s] 9) := ⟨_, rfl⟩
  have hs1 : w1.heap.size = w.heap.size + 3 := by rw [hw1]; simp
  have hbf : Blk w1 w.heap.size 47 #[.bool true, .func (.func 37) #[] #[], .func (.func 38) #[] #[]] := by rw [hw1]; exact ((Blk.new w 47 _).alloc _).alloc _
  have hbx : Boxed w1 (w.heap.size + 1) 3 (.int .i64 s.size) := by
    rw [hw1]
    have := (Boxed.new (w.alloc (.cells #[.bool true, .func (.func 37) #[] #[], .func (.func 38) #[] #[]] 47)) 3 (.int .i64 s.size)).alloc (.cells #[.string s] 9)
    simpa using this
  have hbc : w1.cell? ⟨w.heap.size + 2, 0, none⟩ = some (.string s) := by
    rw [hw1]
    have := (cell_new1 ((w.alloc (.cells #[.bool true, .func (.func 37) #[] #[], .func (.func 38) #[] #[]] 47)).alloc (.cells #[.int .i64 s.size] 3)) (.string s) 9).1
    simpa using this
  have hB1 : Below w.heap.size w w1 := by rw [hw1]; exact (((Below.refl _ _).alloc (Nat.le_refl _) _).alloc (by simp) _).alloc (by simp; omega) _
  have Hd := Lib.hid (letters_iter s hs (w.heap.size + 2) w1 hbc)
  have HK := Lib.hid (And.intro hbf (And.intro hbx hB1))
  have HW1 := Lib.hid hw1
  clear hbf hbx hbc hB1 hw1
  gi_wp2
  refine wpIn_scope_straight ?_
  gi_wp2
  refine wpIn_label ?_
  gi_wp2_with ((refine ⟨trivial, ?_⟩; gi_at_call 42); refine (callsIn_wide.2 (letters_any _ _)).mono ?_; rintro e w' ⟨rfl, rfl⟩)
  change Code.wpIn _ _ _ _ _ _ (((w.alloc (.cells #[.bool true, .func (.func 37) #[] #[], .func (.func 38) #[] #[]] 47)).alloc (.cells #[.int .i64 s.size] 3)).alloc (.cells #[.string s] 9))
  rw [← HW1.out]
  refine wp_range (w := w1) (gf := 52) (lb := #[.pointer (some ⟨w.heap.size + 2, 0, none⟩)]) rfl enters_let
    Hd.out (by rintro b (h | rfl); exact h.elim; omega) (fun _ => rfl)
    (fun i W => okTo 3 s i ∧ Blk W w.heap.size 47 #[.bool true, .func (.func 37) #[] #[], .func (.func 38) #[] #[]] ∧ Boxed W (w.heap.size + 1) 3 (.int .i64 s.size) ∧ Below w.heap.size w W ∧ w.heap.size + 3 ≤ W.heap.size)
    (fun c i W => c = .exit 0 ∧ ∃ j, badAt 3 s.data.toList = j ∧ Boxed W (w.heap.size + 1) 3 (.int .i64 j) ∧ Below w.heap.size w W ∧ w.heap.size + 3 ≤ W.heap.size) ?hI ?hIx ?h0 ?round ?done ?stop
  case hI =>
    rintro i A B ⟨hk, hb, hx, hB, hz⟩ ho
    rw [hs1] at ho
    refine ⟨hk, (ho.block _ (by omega) (by rintro (h | h | h); exact h.elim; all_goals omega)).trans hb, box_only ho hx (by rintro (h | h | h); exact h.elim; all_goals omega), hB.trans (ho.below hB.size (by rintro b (h | h | h); exact h.elim; all_goals omega)), by have := ho.size; omega⟩
  case hIx =>
    rintro c i A B ⟨rfl, j, hj, hx, hB, hz⟩ ho
    rw [hs1] at ho
    exact ⟨rfl, j, hj, box_only ho hx (by rintro (h | h | h); exact h.elim; all_goals omega), hB.trans (ho.below hB.size (by rintro b (h | h | h); exact h.elim; all_goals omega)), by have := ho.size; omega⟩
  case h0 => exact ⟨fun j hj => absurd hj (Nat.not_lt_zero j), HK.out.1, HK.out.2.1, HK.out.2.2, by omega⟩
  case round =>
    rintro l i hi W rfl hlt ⟨hk, hb, hx, hB, hz⟩
    rw [hs1] at hlt
    rw [List.length_range] at hi
    obtain ⟨cb, hcb⟩ : ∃ c, c = s.data.toList.getD i 0 := ⟨_, rfl⟩
    unfold letE
    rw [List.getElem_range, ← hcb]
    have HCb := Lib.hid hcb
    clear hcb
    gi_wp2
    refine ⟨Kept.refl _ _ _ _, ⟨hk, hb, hx, hB, hz⟩, ?_⟩
    clear hlt hk hb hx hB hz
    rintro W2 hlt ⟨hk, hb, hx, hB, hz⟩
    rw [hs1] at hlt
    have c1 := hb.cell 1
    simp at c1
    have hx0 := hx.cell
    have hxf := hx.frozen
    have HR := Lib.hid (And.intro hk (And.intro hb (And.intro hx (And.intro hB hz))))
    have HC := Lib.hid (fun l n => CallsIn.inRound l ((callsIn_wide (n := n)).2 (dgt_any cb W2)))
    clear hk hb hx hB hz
    cases hm : mayL 3 cb with
    | true =>
      have HM := Lib.hid (by rw [← HCb.out]; exact hm : mayL 3 (s.data.toList.getD i 0) = true)
      have hm' : isDig cb = true := hm
      rw [hm'] at HC
      clear hm hm'
      gi_wp2_with ((refine ⟨trivial, ?_⟩); refine (HC.out _ _).mono ?_; rintro e w' ⟨rfl, rfl⟩)
      refine ⟨Kept.refl _ _ _ _, ?_, HR.out.2.1, HR.out.2.2.1, HR.out.2.2.2.1, HR.out.2.2.2.2⟩
      intro j hj
      rcases Nat.lt_succ_iff_lt_or_eq.1 hj with h | rfl
      · exact HR.out.1 j h
      · exact HM.out
    | false =>
      have HM := Lib.hid (by rw [← HCb.out]; exact hm : mayL 3 (s.data.toList.getD i 0) = false)
      have hm' : isDig cb = false := hm
      rw [hm'] at HC
      clear hm hm'
      gi_wp2_with ((refine ⟨trivial, ?_⟩); refine (HC.out _ _).mono ?_; rintro e w' ⟨rfl, rfl⟩)
      have hO := Only.setCell (S := (· = w.heap.size + 1)) W2 ⟨w.heap.size + 1, 0, none⟩ (.int .i64 i) rfl
      refine ⟨Kept.of_only hO (fun b hb => ?_), rfl, i, badAt_of (by rw [len_list]; exact hi) HR.out.1 HM.out, HR.out.2.2.1.set _, HR.out.2.2.2.1.trans (hO.below HR.out.2.2.2.1.size (fun b hb => by omega)), by have := hO.size; omega⟩
      rw [hs1] at hb
      rcases hb with h | h | h | h
      · exact h.elim
      all_goals exact ⟨by omega, by omega⟩
  case done =>
    rintro W ⟨hk, hb, hx, hB, hz⟩ hlt hD
    have hx0 := hx.cell
    rw [hs1] at hD hlt
    rw [hs1]
    rw [List.length_range] at hk
    gi_wp2
    refine leaves_mark hD (leaves_nil (results_tmp rfl _ _ _) ⟨?_, below_putObj hB (by omega) (by omega) _⟩)
    show Ending.returned (.int .i64 s.size) = _
    rw [badAt_all (l := s.data.toList) (by rw [len_list]; exact hk), len_list]
  case stop =>
    rintro c i W hi ⟨rfl, j, hj, hx, hB, hz⟩ hlt hD
    have hx0 := hx.cell
    rw [hs1] at hD hlt
    rw [hs1]
    gi_wp2
    refine leaves_mark hD (leaves_nil (results_tmp rfl _ _ _) ⟨?_, below_putObj hB (by omega) (by omega) _⟩)
    rw [hj]
    rfl
end Go.Proofs.YtclejidkahpemaaDoor
