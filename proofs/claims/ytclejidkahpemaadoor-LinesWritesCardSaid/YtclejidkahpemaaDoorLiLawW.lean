/- LinesWrites. -/
import Derived.Test.YtclejidkahpemaaDoorLiLaw
namespace Go.Proofs.YtclejidkahpemaaDoor
open Go.RowKit
set_option linter.unusedVariables false
set_option linter.unusedSimpArgs false
attribute [local irreducible] ByteArray.extract ByteArray.toList
attribute [local go_sem] Oper.semAt_some run_store_func run_store_nilFunc
def loLW (i : Nat) : Nat := [0, 0, 0, 0, 0, 0, 0, 0, 0, 0, 0, 0, 1, 2, 2, 2, 2, 3, 3].getD i 0
def upLW (i : Nat) : Nat := [0, 0, 0, 0, 0, 0, 0, 0, 0, 0, 1, 1, 2, 2, 2, 2, 3, 3, 3].getD i 0
set_option maxRecDepth 100000 in
set_option maxHeartbeats 3200000 in
theorem linesWrites_any (c : Cm) (h0 : -9223372036854775808 ≤ c.n) (h1 : c.n ≤ 9223372036854775807) (w : World) (hsp : Spaces w) : Calls Tryd.prog 3 #[cmV c] w fun e w' => e = .returned (.bool true) ∧ Below w.heap.size w w' := by
  have hb1 := (Below.refl w.heap.size w).alloc (Nat.le_refl _) (.cells (cmA c) 23)
  have hk := Blk.new w 23 (cmA c)
  have hS : ∀ W, Below w.heap.size w W → Spaces W := fun W hb => spaces_below hsp hb (spaces_pos hsp)
  have HS := Lib.hid hS
  have HK := Lib.hid (And.intro hk hb1)
  have hz : (sOf c.text).size = c.text.length := sOf_size _
  have hz2 : (sOf c.word).size = c.word.length := sOf_size _
  have HZ := Lib.hid (And.intro hz hz2)
  clear hS hk hb1 hz hz2 hsp
  have HA : Hid (∀ W, Below w.heap.size w W → Calls Tryd.prog 9 #[] W fun e w' => e = .returned (.bool true) ∧ Below W.heap.size W w') := Lib.hid fun W hb => awake_any W (HS.out W hb)
  by_cases hT : 4200 < (sOf c.text).size
  · have hT' : (4200 : Int) < ((sOf c.text).size : Int) := by omega
    unfold cmA at HK
    unfold cmV cmA
    go_enter Tryd.func3, Tryd.ntmps3
    go_wp2_with fail
    refine (HA.out _ HK.out.2).mono ?_
    rintro e w1 ⟨rfl, hb⟩
    have HB := Lib.hid (HK.out.2.trans (hb.mono HK.out.2.size))
    clear hb
    go_wp2_with fail
    go_ret
    exact ⟨rfl, HB.out⟩
  · by_cases hW : 100 < (sOf c.word).size
    · have hT' : ¬ (4200 : Int) < ((sOf c.text).size : Int) := by omega
      have hW' : (100 : Int) < ((sOf c.word).size : Int) := by omega
      unfold cmA at HK
      unfold cmV cmA
      go_enter Tryd.func3, Tryd.ntmps3
      go_wp2_with fail
      refine (HA.out _ HK.out.2).mono ?_
      rintro e w1 ⟨rfl, hb⟩
      have HB := Lib.hid (HK.out.2.trans (hb.mono HK.out.2.size))
      clear hb
      go_wp2_with fail
      go_ret
      exact ⟨rfl, HB.out⟩
    · have hT' : ¬ (4200 : Int) < ((sOf c.text).size : Int) := by omega
      have hW' : ¬ (100 : Int) < ((sOf c.word).size : Int) := by omega
      have ht : c.text.length ≤ 140737488351232 := by rw [← HZ.out.1]; omega
      have hw : c.word.length ≤ 140737488351232 := by rw [← HZ.out.2]; omega
      have HL : Hid (∀ W, Below w.heap.size w W → Calls Tryd.prog 10 #[cmV c] W (fun e w' => e = .returned (.tuple #[.string (sOf (lineL c).1), .int .i64 (lineL c).2]) ∧ Below W.heap.size W w')) := Lib.hid fun W hb => line_any c h0 h1 ht hw W (HS.out W hb)
      have HX : Hid (∀ W, Calls Tryd.prog 11 #[cmV c] W (fun e w' => e = .returned (.tuple #[.string (sOf (lineL c).1), .int .i64 (lineL c).2]) ∧ Below W.heap.size W w')) := Lib.hid fun W => xline_any c h0 h1 ht hw W
      have HC : Hid (∀ W, Below w.heap.size w W → Calls Tryd.prog 12 #[cmV c] W (fun e w' => e = .returned (.int .i64 (checkL c)) ∧ Below W.heap.size W w')) := Lib.hid fun W hb => check_any c h0 h1 ht W (HS.out W hb)
      have HCX : Hid (∀ W, Calls Tryd.prog 13 #[cmV c] W (RetK c W)) := Lib.hid fun W => xcheck_any c h0 h1 ht W
      unfold RetK at HCX
      clear ht hw h0 h1
      generalize lineL c = x at *
      generalize checkL c = k at *
      obtain ⟨t, e0⟩ := x
      have hse : ((sOf t).toList == (sOf t).toList) = true := beq_self_eq_true _
      unfold cmA at HK
      unfold cmV cmA at HL HX HC HCX
      unfold cmV cmA
      go_enter Tryd.func3, Tryd.ntmps3
      go_wp2_with fail
      refine (HL.out _ HK.out.2).mono ?_
      rintro e w1 ⟨rfl, hb⟩
      have HB1 := Lib.hid (And.intro (HK.out.1.below hb HK.out.1.lt) (HK.out.2.trans (hb.mono HK.out.2.size)))
      have c0 := HB1.out.1.cell 0
      have c1 := HB1.out.1.cell 1
      have c2 := HB1.out.1.cell 2
      simp at c0 c1 c2
      clear hb
      go_wp2_with fail
      refine (HX.out _).mono ?_
      rintro e w2 ⟨rfl, hb⟩
      have HB2 := Lib.hid (And.intro (HB1.out.1.below hb HB1.out.1.lt).drew (HB1.out.2.trans (hb.mono HB1.out.2.size)).drew)
      have d0 := HB2.out.1.cell 0
      have d1 := HB2.out.1.cell 1
      have d2 := HB2.out.1.cell 2
      simp at d0 d1 d2
      clear hb c0 c1 c2
      go_wp2_with fail
      refine wp_region_text [10, 12, 16] loLW upLW (by kernel_rfl) (by kernel_rfl) (by kernel_rfl) (by kernel_rfl) (by kernel_rfl) ?_
      repeat (first | (refine wpTx_now (by rfl) (by rfl) (by rfl) (fun K hK => ?_); go_simp; refine hK _ ?_; clear hK K))
      refine wpTx_eff (by rfl) (fun K hK => ?_)
      go_simp
      refine (HC.out _ HB2.out.2).mono ?_
      rintro e w3 ⟨rfl, hb⟩
      have HB3 := Lib.hid (And.intro (HB2.out.1.below hb HB2.out.1.lt) (HB2.out.2.trans (hb.mono HB2.out.2.size)))
      have e0' := HB3.out.1.cell 0
      have e1 := HB3.out.1.cell 1
      have e2 := HB3.out.1.cell 2
      simp at e0' e1 e2
      clear hb
      refine ⟨_, rfl, hK _ _ (by simp [lateOK]) ?_⟩
      clear hK K
      repeat (first | (refine wpTx_now (by rfl) (by rfl) (by rfl) (fun K hK => ?_); go_simp; refine hK _ ?_; clear hK K) | (refine wpTx_late _ (by rfl) (by rfl) rfl (fun K hK => ?_); simp only [loLW, upLW, Nat.reduceAdd, List.getD_cons_zero, List.getD_cons_succ, List.drop_zero, List.drop_succ_cons, List.drop_nil, List.nil_append, List.cons_append]; go_simp; refine hK _ _ ?_; clear hK K) | (refine wpTx_ws _ (by rfl) (by rfl) rfl (fun K hK => ?_); simp only [loLW, upLW, Nat.reduceAdd, List.getD_cons_zero, List.getD_cons_succ, List.drop_zero, List.drop_succ_cons, List.drop_nil, List.nil_append, List.cons_append]; go_simp; refine hK _ ?_; clear hK K))
      refine wpTx_eff (by rfl) (fun K hK => ?_)
      go_simp
      refine (HCX.out _).mono ?_
      rintro e w4 ⟨rfl, hb⟩
      have HB4 := Lib.hid (And.intro (HB3.out.1.below hb HB3.out.1.lt) (HB3.out.2.trans (hb.mono HB3.out.2.size)))
      clear hb
      refine ⟨_, rfl, hK _ _ (by repeat (first | exact lateOK_nil | refine lateOK_skip (by rfl) ?_ | refine lateOK_cons (by go_simp) ?_)) ?_⟩
      clear hK K
      repeat (first | (refine wpTx_now (by rfl) (by rfl) (by rfl) (fun K hK => ?_); go_simp; refine hK _ ?_; clear hK K) | (refine wpTx_late _ (by rfl) (by rfl) rfl (fun K hK => ?_); simp only [loLW, upLW, Nat.reduceAdd, List.getD_cons_zero, List.getD_cons_succ, List.drop_zero, List.drop_succ_cons, List.drop_nil, List.nil_append, List.cons_append]; go_simp; refine hK _ _ ?_; clear hK K) | (refine wpTx_ws _ (by rfl) (by rfl) rfl (fun K hK => ?_); simp only [loLW, upLW, Nat.reduceAdd, List.getD_cons_zero, List.getD_cons_succ, List.drop_zero, List.drop_succ_cons, List.drop_nil, List.nil_append, List.cons_append]; go_simp; refine hK _ ?_; clear hK K))
      refine wpTx_eff (by rfl) (fun K hK => ?_)
      go_simp
      refine (HA.out _ HB4.out.2).mono ?_
      rintro e w5 ⟨rfl, hb⟩
      have HB5 := Lib.hid (HB4.out.2.trans (hb.mono HB4.out.2.size))
      clear hb
      refine ⟨_, rfl, hK _ _ (by repeat (first | exact lateOK_nil | refine lateOK_skip (by rfl) ?_ | refine lateOK_cons (by go_simp) ?_)) ?_⟩
      clear hK K
      repeat (first | (refine wpTx_now (by rfl) (by rfl) (by rfl) (fun K hK => ?_); go_simp; refine hK _ ?_; clear hK K) | (refine wpTx_late _ (by rfl) (by rfl) rfl (fun K hK => ?_); simp only [loLW, upLW, Nat.reduceAdd, List.getD_cons_zero, List.getD_cons_succ, List.drop_zero, List.drop_succ_cons, List.drop_nil, List.nil_append, List.cons_append]; go_simp; refine hK _ _ ?_; clear hK K) | (refine wpTx_ws _ (by rfl) (by rfl) rfl (fun K hK => ?_); simp only [loLW, upLW, Nat.reduceAdd, List.getD_cons_zero, List.getD_cons_succ, List.drop_zero, List.drop_succ_cons, List.drop_nil, List.nil_append, List.cons_append]; go_simp; refine hK _ ?_; clear hK K))
      refine wpTx_nil ?_
      go_wp2_with fail
      go_ret
      exact ⟨rfl, HB5.out⟩
end Go.Proofs.YtclejidkahpemaaDoor
