/- lines.Check, Line. Printed by mkcheck.py. -/
import Derived.Test.YtclejidkahpemaaDoorLiParts
import Derived.Test.YtclejidkahpemaaDoorFront
import Derived.Test.YtclejidkahpemaaDoorCells
import Derived.Deep.CutRange
namespace Go.Proofs.YtclejidkahpemaaDoor
open Go.RowKit
set_option linter.unusedVariables false
set_option linter.unusedSimpArgs false
attribute [local irreducible] ByteArray.extract ByteArray.toList
attribute [local go_sem] Oper.semAt_some run_store_func run_store_nilFunc
theorem badAt_le (k : Nat) (l : List UInt8) : badAt k l ≤ l.length := by unfold badAt; exact (List.takeWhile_sublist _).length_le
theorem badAt_lt (k : Nat) (l : List UInt8) : badAt k l < l.length ↔ l.all (mayL k) = false := by
  induction l with
  | nil => simp [badAt]
  | cons c l ih =>
    unfold badAt
    cases h : mayL k c with
    | true =>
      rw [List.takeWhile_cons_of_pos h, List.all_cons, h, Bool.true_and, List.length_cons, List.length_cons, Nat.add_lt_add_iff_right]
      exact ih
    | false =>
      rw [List.takeWhile_cons_of_neg (by simp [h]), List.all_cons, h]
      simp
theorem text_len (n : Int) (h0 : -9223372036854775808 ≤ n) (h1 : n ≤ 9223372036854775807) : (textL n).length ≤ 21 := by
  have := decs_small n.natAbs (by omega)
  unfold textL
  split
  · simp; omega
  · omega
theorem check0 {c : Cm} (h : kindL c.word = 0) : checkL c = 2 := by unfold checkL; rw [if_pos (.inl h)]
theorem check4 {c : Cm} (h : kindL c.word = 4) : checkL c = if c.text = [] ∧ c.n = 0 then 0 else 2 := by
  unfold checkL
  rw [h]
  by_cases h1 : c.text = [] <;> by_cases h2 : c.n = 0 <;> simp [h1, h2]
theorem check12 {c : Cm} {k : Nat} (h : kindL c.word = k) (hk : k = 1 ∨ k = 2) : checkL c = if c.text.all (mayL k) = true ∧ fitsL k c.text = true ∧ c.n = 0 then 0 else 2 := by
  unfold checkL restL
  rw [h]
  rcases hk with rfl | rfl
  · by_cases h1 : c.text.all (mayL 1) = true <;> by_cases h2 : c.n = 0 <;> simp [h1, h2]
  · by_cases h1 : c.text.all (mayL 2) = true <;> by_cases h2 : c.n = 0 <;> simp [h1, h2]
theorem check3 {c : Cm} (h : kindL c.word = 3) : checkL c = if (textL c.n).all (mayL 3) = true ∧ fitsL 3 (textL c.n) = true ∧ c.text = [] then 0 else 2 := by
  unfold checkL restL
  rw [h]
  by_cases h1 : (textL c.n).all (mayL 3) = true <;> by_cases h2 : c.text = [] <;> simp [h1, h2]
def loC1 (i : Nat) : Nat := [0, 0, 0, 1, 1, 1, 1, 1, 2, 3].getD i 0
def upC1 (i : Nat) : Nat := [1, 2, 2, 2, 2, 2, 3, 2, 3, 3].getD i 0
def loC2 (i : Nat) : Nat := [0, 1, 0, 0, 2, 2, 2, 2, 2, 3].getD i 0
def upC2 (i : Nat) : Nat := [1, 2, 2, 2, 2, 2, 2, 3, 3, 3].getD i 0
def formA : Nat → Array Value
  | 1 => #[.bool true, .func (.func 33) #[] #[], .func (.func 34) #[] #[]]
  | 2 => #[.bool true, .func (.func 35) #[] #[], .func (.func 36) #[] #[]]
  | 3 => #[.bool true, .func (.func 37) #[] #[], .func (.func 38) #[] #[]]
  | _ => #[.bool false, .nilFunc, .nilFunc]
/-- Where forms was asked. -/
def Asked (k p : Nat) (c : Cm) (w wx : World) : Prop := Blk wx p 47 (formA k) ∧ Blk wx w.heap.size 23 (cmA c) ∧ Below w.heap.size w wx
set_option maxRecDepth 100000 in
set_option maxHeartbeats 3200000 in
theorem check_0 (c : Cm) (hk : kindL c.word = 0) (h0 : -9223372036854775808 ≤ c.n) (h1 : c.n ≤ 9223372036854775807) (hs : c.text.length ≤ 140737488351232) (w : World) (hsp : Spaces w) : Calls Tryd.prog 12 #[cmV c] w fun e w' => e = .returned (.int .i64 (checkL c)) ∧ Below w.heap.size w w' := by
  have hb1 := Below.refl w.heap.size w |>.alloc (Nat.le_refl _) (.cells (cmA c) 23)
  have HF := Lib.hid (forms_any ((w.alloc (.cells (cmA c) 23)).drew) (spaces_below hsp hb1.drew (spaces_pos hsp)))
  have HF2 := Lib.hid (forms_any (((w.alloc (.cells (cmA c) 23)).alloc (.cells #[.bool false, .nilFunc, .nilFunc] 47)).drew) (spaces_below hsp (hb1.alloc (by simp) (.cells #[.bool false, .nilFunc, .nilFunc] 47)).drew (spaces_pos hsp)))
  have HB1 := Lib.hid hb1
  have hlk : ∀ (W : World) (r : Nat), W.heap[r]? = some (.map (esA 15) 15) → (Instr.lookup _ (.map (some r)) (.string (sOf c.word)) true).run Tryd.prog W = .ok (.tuple #[.agg #[.bool false, .nilFunc, .nilFunc], .bool false]) W := fun W r hb => by
    have := look_kind (sOf c.word) hb true
    rw [sOf_list, hk] at this
    exact this
  have HLk := Lib.hid hlk
  have HH := Lib.hid (And.intro hk (And.intro h0 (And.intro h1 hs)))
  obtain ⟨wd, t, n⟩ := c
  simp only at HLk HH
  unfold cmA at HF HF2 HB1
  simp only at HF HF2 HB1
  unfold cmV cmA
  simp only
  clear hb1 hk h0 h1 hs hsp hlk
  go_enter Tryd.func12, Tryd.ntmps12
  go_upto_region 1 with fail
  go_cut [3, 4] from 7 (fun v3 v4 wx => ∃ p3, v3 = .pointer (some ⟨p3, 0, none⟩) ∧ v4 = .bool false ∧ Asked 0 p3 ⟨wd, t, n⟩ w wx)
  case first =>
    refine wp_region_front 0 7 (by kernel_rfl) (by decide) (by decide) (by kernel_rfl) (text_any (lo := loC1) (up := upC1) [0, 7, 8] (by kernel_rfl) (by kernel_rfl) (by kernel_rfl) (by kernel_rfl) ?_) (text_any (lo := loC2) (up := upC2) [0, 1, 8] (by kernel_rfl) (by kernel_rfl) (by kernel_rfl) (by kernel_rfl) ?_)
    · simp only [trR, trO, frontP, frontS, List.length_cons, List.length_nil, Nat.reduceAdd, List.range, List.range.loop, List.map_cons, List.map_nil, List.getD_cons_zero, List.getD_cons_succ, Nat.reduceEqDiff, Nat.reduceLT, Nat.reduceLeDiff, if_true, if_false, reduceIte, List.map_toArray, List.push_toArray, List.append_toArray, List.cons_append, List.nil_append]
      refine wpTx_eff (by rfl) (fun K hK => ?_)
      go_simp
      refine HF.out.mono ?_
      rintro e w1 ⟨r, rfl, hmap, hb, hr⟩
      have hbx := (Blk.new w 23 #[.string (sOf wd), .string (sOf t), .int .i64 n]).drew
      have hb2 := hbx.below hb hbx.lt
      have c0 := hb2.cell 0
      simp at c0
      have hlk := HLk.out w1 r hmap
      have hlk2 := HLk.out (w1.alloc (.cells #[.bool false, .nilFunc, .nilFunc] 47)) r ((Below.heap_alloc _ _ _ (Array.getElem?_eq_some_iff.1 hmap).1).trans hmap)
      have c02 := cell_alloc c0 (.cells #[.bool false, .nilFunc, .nilFunc] 47)
      refine ⟨_, rfl, hK _ _ (by simp [lateOK]) ?_⟩
      clear hK K
      repeat (first | (refine wpTx_now (by rfl) (by rfl) (by rfl) (fun K hK => ?_); go_simp; refine hK _ ?_; clear hK K) | (refine wpTx_late _ (by rfl) (by rfl) rfl (fun K hK => ?_); simp only [loC1, loC2, Nat.reduceAdd, List.getD_cons_zero, List.getD_cons_succ, List.drop_zero, List.drop_succ_cons, List.drop_nil, List.nil_append, List.cons_append]; go_simp; refine hK _ _ ?_; clear hK K) | (refine wpTx_ws _ (by rfl) (by rfl) rfl (fun K hK => ?_); simp only [loC1, loC2, Nat.reduceAdd, List.getD_cons_zero, List.getD_cons_succ, List.drop_zero, List.drop_succ_cons, List.drop_nil, List.nil_append, List.cons_append]; go_simp; refine hK _ ?_; clear hK K))
      refine wpTx_eff (by rfl) (fun K hK => ?_)
      go_simp
      refine hK _ _ (by repeat (first | exact lateOK_nil | refine lateOK_skip (by rfl) ?_ | refine lateOK_cons (by go_simp) ?_)) ?_
      clear hK K
      refine wpTx_eff (by rfl) (fun K hK => ?_)
      go_simp
      refine hK _ _ (by repeat (first | exact lateOK_nil | refine lateOK_skip (by rfl) ?_ | refine lateOK_cons (by go_simp) ?_)) ?_
      clear hK K
      repeat (first | (refine wpTx_now (by rfl) (by rfl) (by rfl) (fun K hK => ?_); go_simp; refine hK _ ?_; clear hK K) | (refine wpTx_late _ (by rfl) (by rfl) rfl (fun K hK => ?_); simp only [loC1, loC2, Nat.reduceAdd, List.getD_cons_zero, List.getD_cons_succ, List.drop_zero, List.drop_succ_cons, List.drop_nil, List.nil_append, List.cons_append]; go_simp; refine hK _ _ ?_; clear hK K) | (refine wpTx_ws _ (by rfl) (by rfl) rfl (fun K hK => ?_); simp only [loC1, loC2, Nat.reduceAdd, List.getD_cons_zero, List.getD_cons_succ, List.drop_zero, List.drop_succ_cons, List.drop_nil, List.nil_append, List.cons_append]; go_simp; refine hK _ ?_; clear hK K))
      refine wpTx_nil ?_
      go_wp2_with fail
      go_meet
      case rel =>
        have hbw := HB1.out.drew.trans (hb.mono HB1.out.size)
        exact ⟨w1.heap.size, rfl, rfl, Blk.new w1 _ _, hb2.alloc _, hbw.alloc hbw.size _⟩
    · simp only [trR, trO, frontP, frontS, List.length_cons, List.length_nil, Nat.reduceAdd, List.range, List.range.loop, List.map_cons, List.map_nil, List.getD_cons_zero, List.getD_cons_succ, Nat.reduceEqDiff, Nat.reduceLT, Nat.reduceLeDiff, if_true, if_false, reduceIte, List.map_toArray, List.push_toArray, List.append_toArray, List.cons_append, List.nil_append]
      refine wpTx_eff (by rfl) (fun K hK => ?_)
      go_simp
      refine hK _ _ (by repeat (first | exact lateOK_nil | refine lateOK_skip (by rfl) ?_ | refine lateOK_cons (by go_simp) ?_)) ?_
      clear hK K
      refine wpTx_eff (by rfl) (fun K hK => ?_)
      go_simp
      refine HF2.out.mono ?_
      rintro e w1 ⟨r, rfl, hmap, hb, hr⟩
      have hbx := ((Blk.new w 23 #[.string (sOf wd), .string (sOf t), .int .i64 n]).alloc (.cells #[.bool false, .nilFunc, .nilFunc] 47)).drew
      have hb2 := hbx.below hb hbx.lt
      have hbf := (Blk.new (w.alloc (.cells #[.string (sOf wd), .string (sOf t), .int .i64 n] 23)) 47 #[.bool false, .nilFunc, .nilFunc]).drew
      have hbf2 := hbf.below hb hbf.lt
      rw [World.size_alloc] at hbf2
      have c0 := hb2.cell 0
      have g0 := hbf2.cell 0
      have g1 := hbf2.cell 1
      have g2 := hbf2.cell 2
      have k0 := hbf2.frozen 0
      have k1 := hbf2.frozen 1
      have k2 := hbf2.frozen 2
      simp at c0 g0 g1 g2
      have hlk := HLk.out w1 r hmap
      refine ⟨_, rfl, hK _ _ (by repeat (first | exact lateOK_nil | refine lateOK_skip (by rfl) ?_ | refine lateOK_cons (by go_simp) ?_)) ?_⟩
      clear hK K
      repeat (first | (refine wpTx_now (by rfl) (by rfl) (by rfl) (fun K hK => ?_); go_simp; refine hK _ ?_; clear hK K) | (refine wpTx_late _ (by rfl) (by rfl) rfl (fun K hK => ?_); simp only [loC1, loC2, Nat.reduceAdd, List.getD_cons_zero, List.getD_cons_succ, List.drop_zero, List.drop_succ_cons, List.drop_nil, List.nil_append, List.cons_append]; go_simp; refine hK _ _ ?_; clear hK K) | (refine wpTx_ws _ (by rfl) (by rfl) rfl (fun K hK => ?_); simp only [loC1, loC2, Nat.reduceAdd, List.getD_cons_zero, List.getD_cons_succ, List.drop_zero, List.drop_succ_cons, List.drop_nil, List.nil_append, List.cons_append]; go_simp; refine hK _ ?_; clear hK K))
      refine wpTx_eff (by rfl) (fun K hK => ?_)
      go_simp
      refine hK _ _ (by repeat (first | exact lateOK_nil | refine lateOK_skip (by rfl) ?_ | refine lateOK_cons (by go_simp) ?_)) ?_
      clear hK K
      repeat (first | (refine wpTx_now (by rfl) (by rfl) (by rfl) (fun K hK => ?_); go_simp; refine hK _ ?_; clear hK K) | (refine wpTx_late _ (by rfl) (by rfl) rfl (fun K hK => ?_); simp only [loC1, loC2, Nat.reduceAdd, List.getD_cons_zero, List.getD_cons_succ, List.drop_zero, List.drop_succ_cons, List.drop_nil, List.nil_append, List.cons_append]; go_simp; refine hK _ _ ?_; clear hK K) | (refine wpTx_ws _ (by rfl) (by rfl) rfl (fun K hK => ?_); simp only [loC1, loC2, Nat.reduceAdd, List.getD_cons_zero, List.getD_cons_succ, List.drop_zero, List.drop_succ_cons, List.drop_nil, List.nil_append, List.cons_append]; go_simp; refine hK _ ?_; clear hK K))
      refine wpTx_nil ?_
      go_wp2_with fail
      go_meet
      case rel =>
        have hbw := (HB1.out.alloc HB1.out.size (.cells #[.bool false, .nilFunc, .nilFunc] 47)).drew.trans (hb.mono (HB1.out.alloc HB1.out.size _).size)
        refine ⟨w.heap.size + 1, rfl, rfl, ((hbf2.set_ 0 _).set_ 1 _).set_ 2 _, ((hb2.far (by show _ ≠ w.heap.size + 1; omega) _).far (by show _ ≠ w.heap.size + 1; omega) _).far (by show _ ≠ w.heap.size + 1; omega) _, ((hbw.setCell (p := ⟨w.heap.size + 1, 0, none⟩) (by show _ ≤ w.heap.size + 1; omega) _).setCell (p := ⟨w.heap.size + 1, 1, none⟩) (by show _ ≤ w.heap.size + 1; omega) _).setCell (p := ⟨w.heap.size + 1, 2, none⟩) (by show _ ≤ w.heap.size + 1; omega) _⟩
  case rest =>
    obtain ⟨p3, rfl, rfl, ha⟩ := hcut
    have HA := Lib.hid ha
    have HA' := Lib.hid ha.2.1.lt
    clear ha HF HF2 HLk HB1
    go_wp2_with fail
    go_ret
    exact ⟨by rw [check0 (c := ⟨wd, t, n⟩) HH.out.1]; rfl, HA.out.2.2⟩
set_option maxRecDepth 100000 in
set_option maxHeartbeats 3200000 in
theorem check_4 (c : Cm) (hk : kindL c.word = 4) (h0 : -9223372036854775808 ≤ c.n) (h1 : c.n ≤ 9223372036854775807) (hs : c.text.length ≤ 140737488351232) (w : World) (hsp : Spaces w) : Calls Tryd.prog 12 #[cmV c] w fun e w' => e = .returned (.int .i64 (checkL c)) ∧ Below w.heap.size w w' := by
  have hb1 := Below.refl w.heap.size w |>.alloc (Nat.le_refl _) (.cells (cmA c) 23)
  have HF := Lib.hid (forms_any ((w.alloc (.cells (cmA c) 23)).drew) (spaces_below hsp hb1.drew (spaces_pos hsp)))
  have HF2 := Lib.hid (forms_any (((w.alloc (.cells (cmA c) 23)).alloc (.cells #[.bool false, .nilFunc, .nilFunc] 47)).drew) (spaces_below hsp (hb1.alloc (by simp) (.cells #[.bool false, .nilFunc, .nilFunc] 47)).drew (spaces_pos hsp)))
  have HB1 := Lib.hid hb1
  have hlk : ∀ (W : World) (r : Nat), W.heap[r]? = some (.map (esA 15) 15) → (Instr.lookup _ (.map (some r)) (.string (sOf c.word)) true).run Tryd.prog W = .ok (.tuple #[.agg #[.bool false, .nilFunc, .nilFunc], .bool true]) W := fun W r hb => by
    have := look_kind (sOf c.word) hb true
    rw [sOf_list, hk] at this
    exact this
  have HLk := Lib.hid hlk
  have HH := Lib.hid (And.intro hk (And.intro h0 (And.intro h1 hs)))
  obtain ⟨wd, t, n⟩ := c
  simp only at HLk HH
  unfold cmA at HF HF2 HB1
  simp only at HF HF2 HB1
  unfold cmV cmA
  simp only
  clear hb1 hk h0 h1 hs hsp hlk
  go_enter Tryd.func12, Tryd.ntmps12
  go_upto_region 1 with fail
  go_cut [3, 4] from 7 (fun v3 v4 wx => ∃ p3, v3 = .pointer (some ⟨p3, 0, none⟩) ∧ v4 = .bool true ∧ Asked 4 p3 ⟨wd, t, n⟩ w wx)
  case first =>
    refine wp_region_front 0 7 (by kernel_rfl) (by decide) (by decide) (by kernel_rfl) (text_any (lo := loC1) (up := upC1) [0, 7, 8] (by kernel_rfl) (by kernel_rfl) (by kernel_rfl) (by kernel_rfl) ?_) (text_any (lo := loC2) (up := upC2) [0, 1, 8] (by kernel_rfl) (by kernel_rfl) (by kernel_rfl) (by kernel_rfl) ?_)
    · simp only [trR, trO, frontP, frontS, List.length_cons, List.length_nil, Nat.reduceAdd, List.range, List.range.loop, List.map_cons, List.map_nil, List.getD_cons_zero, List.getD_cons_succ, Nat.reduceEqDiff, Nat.reduceLT, Nat.reduceLeDiff, if_true, if_false, reduceIte, List.map_toArray, List.push_toArray, List.append_toArray, List.cons_append, List.nil_append]
      refine wpTx_eff (by rfl) (fun K hK => ?_)
      go_simp
      refine HF.out.mono ?_
      rintro e w1 ⟨r, rfl, hmap, hb, hr⟩
      have hbx := (Blk.new w 23 #[.string (sOf wd), .string (sOf t), .int .i64 n]).drew
      have hb2 := hbx.below hb hbx.lt
      have c0 := hb2.cell 0
      simp at c0
      have hlk := HLk.out w1 r hmap
      have hlk2 := HLk.out (w1.alloc (.cells #[.bool false, .nilFunc, .nilFunc] 47)) r ((Below.heap_alloc _ _ _ (Array.getElem?_eq_some_iff.1 hmap).1).trans hmap)
      have c02 := cell_alloc c0 (.cells #[.bool false, .nilFunc, .nilFunc] 47)
      refine ⟨_, rfl, hK _ _ (by simp [lateOK]) ?_⟩
      clear hK K
      repeat (first | (refine wpTx_now (by rfl) (by rfl) (by rfl) (fun K hK => ?_); go_simp; refine hK _ ?_; clear hK K) | (refine wpTx_late _ (by rfl) (by rfl) rfl (fun K hK => ?_); simp only [loC1, loC2, Nat.reduceAdd, List.getD_cons_zero, List.getD_cons_succ, List.drop_zero, List.drop_succ_cons, List.drop_nil, List.nil_append, List.cons_append]; go_simp; refine hK _ _ ?_; clear hK K) | (refine wpTx_ws _ (by rfl) (by rfl) rfl (fun K hK => ?_); simp only [loC1, loC2, Nat.reduceAdd, List.getD_cons_zero, List.getD_cons_succ, List.drop_zero, List.drop_succ_cons, List.drop_nil, List.nil_append, List.cons_append]; go_simp; refine hK _ ?_; clear hK K))
      refine wpTx_eff (by rfl) (fun K hK => ?_)
      go_simp
      refine hK _ _ (by repeat (first | exact lateOK_nil | refine lateOK_skip (by rfl) ?_ | refine lateOK_cons (by go_simp) ?_)) ?_
      clear hK K
      refine wpTx_eff (by rfl) (fun K hK => ?_)
      go_simp
      refine hK _ _ (by repeat (first | exact lateOK_nil | refine lateOK_skip (by rfl) ?_ | refine lateOK_cons (by go_simp) ?_)) ?_
      clear hK K
      repeat (first | (refine wpTx_now (by rfl) (by rfl) (by rfl) (fun K hK => ?_); go_simp; refine hK _ ?_; clear hK K) | (refine wpTx_late _ (by rfl) (by rfl) rfl (fun K hK => ?_); simp only [loC1, loC2, Nat.reduceAdd, List.getD_cons_zero, List.getD_cons_succ, List.drop_zero, List.drop_succ_cons, List.drop_nil, List.nil_append, List.cons_append]; go_simp; refine hK _ _ ?_; clear hK K) | (refine wpTx_ws _ (by rfl) (by rfl) rfl (fun K hK => ?_); simp only [loC1, loC2, Nat.reduceAdd, List.getD_cons_zero, List.getD_cons_succ, List.drop_zero, List.drop_succ_cons, List.drop_nil, List.nil_append, List.cons_append]; go_simp; refine hK _ ?_; clear hK K))
      refine wpTx_nil ?_
      go_wp2_with fail
      go_meet
      case rel =>
        have hbw := HB1.out.drew.trans (hb.mono HB1.out.size)
        exact ⟨w1.heap.size, rfl, rfl, Blk.new w1 _ _, hb2.alloc _, hbw.alloc hbw.size _⟩
    · simp only [trR, trO, frontP, frontS, List.length_cons, List.length_nil, Nat.reduceAdd, List.range, List.range.loop, List.map_cons, List.map_nil, List.getD_cons_zero, List.getD_cons_succ, Nat.reduceEqDiff, Nat.reduceLT, Nat.reduceLeDiff, if_true, if_false, reduceIte, List.map_toArray, List.push_toArray, List.append_toArray, List.cons_append, List.nil_append]
      refine wpTx_eff (by rfl) (fun K hK => ?_)
      go_simp
      refine hK _ _ (by repeat (first | exact lateOK_nil | refine lateOK_skip (by rfl) ?_ | refine lateOK_cons (by go_simp) ?_)) ?_
      clear hK K
      refine wpTx_eff (by rfl) (fun K hK => ?_)
      go_simp
      refine HF2.out.mono ?_
      rintro e w1 ⟨r, rfl, hmap, hb, hr⟩
      have hbx := ((Blk.new w 23 #[.string (sOf wd), .string (sOf t), .int .i64 n]).alloc (.cells #[.bool false, .nilFunc, .nilFunc] 47)).drew
      have hb2 := hbx.below hb hbx.lt
      have hbf := (Blk.new (w.alloc (.cells #[.string (sOf wd), .string (sOf t), .int .i64 n] 23)) 47 #[.bool false, .nilFunc, .nilFunc]).drew
      have hbf2 := hbf.below hb hbf.lt
      rw [World.size_alloc] at hbf2
      have c0 := hb2.cell 0
      have g0 := hbf2.cell 0
      have g1 := hbf2.cell 1
      have g2 := hbf2.cell 2
      have k0 := hbf2.frozen 0
      have k1 := hbf2.frozen 1
      have k2 := hbf2.frozen 2
      simp at c0 g0 g1 g2
      have hlk := HLk.out w1 r hmap
      refine ⟨_, rfl, hK _ _ (by repeat (first | exact lateOK_nil | refine lateOK_skip (by rfl) ?_ | refine lateOK_cons (by go_simp) ?_)) ?_⟩
      clear hK K
      repeat (first | (refine wpTx_now (by rfl) (by rfl) (by rfl) (fun K hK => ?_); go_simp; refine hK _ ?_; clear hK K) | (refine wpTx_late _ (by rfl) (by rfl) rfl (fun K hK => ?_); simp only [loC1, loC2, Nat.reduceAdd, List.getD_cons_zero, List.getD_cons_succ, List.drop_zero, List.drop_succ_cons, List.drop_nil, List.nil_append, List.cons_append]; go_simp; refine hK _ _ ?_; clear hK K) | (refine wpTx_ws _ (by rfl) (by rfl) rfl (fun K hK => ?_); simp only [loC1, loC2, Nat.reduceAdd, List.getD_cons_zero, List.getD_cons_succ, List.drop_zero, List.drop_succ_cons, List.drop_nil, List.nil_append, List.cons_append]; go_simp; refine hK _ ?_; clear hK K))
      refine wpTx_eff (by rfl) (fun K hK => ?_)
      go_simp
      refine hK _ _ (by repeat (first | exact lateOK_nil | refine lateOK_skip (by rfl) ?_ | refine lateOK_cons (by go_simp) ?_)) ?_
      clear hK K
      repeat (first | (refine wpTx_now (by rfl) (by rfl) (by rfl) (fun K hK => ?_); go_simp; refine hK _ ?_; clear hK K) | (refine wpTx_late _ (by rfl) (by rfl) rfl (fun K hK => ?_); simp only [loC1, loC2, Nat.reduceAdd, List.getD_cons_zero, List.getD_cons_succ, List.drop_zero, List.drop_succ_cons, List.drop_nil, List.nil_append, List.cons_append]; go_simp; refine hK _ _ ?_; clear hK K) | (refine wpTx_ws _ (by rfl) (by rfl) rfl (fun K hK => ?_); simp only [loC1, loC2, Nat.reduceAdd, List.getD_cons_zero, List.getD_cons_succ, List.drop_zero, List.drop_succ_cons, List.drop_nil, List.nil_append, List.cons_append]; go_simp; refine hK _ ?_; clear hK K))
      refine wpTx_nil ?_
      go_wp2_with fail
      go_meet
      case rel =>
        have hbw := (HB1.out.alloc HB1.out.size (.cells #[.bool false, .nilFunc, .nilFunc] 47)).drew.trans (hb.mono (HB1.out.alloc HB1.out.size _).size)
        refine ⟨w.heap.size + 1, rfl, rfl, ((hbf2.set_ 0 _).set_ 1 _).set_ 2 _, ((hb2.far (by show _ ≠ w.heap.size + 1; omega) _).far (by show _ ≠ w.heap.size + 1; omega) _).far (by show _ ≠ w.heap.size + 1; omega) _, ((hbw.setCell (p := ⟨w.heap.size + 1, 0, none⟩) (by show _ ≤ w.heap.size + 1; omega) _).setCell (p := ⟨w.heap.size + 1, 1, none⟩) (by show _ ≤ w.heap.size + 1; omega) _).setCell (p := ⟨w.heap.size + 1, 2, none⟩) (by show _ ≤ w.heap.size + 1; omega) _⟩
  case rest =>
    obtain ⟨p3, rfl, rfl, ha⟩ := hcut
    have HA := Lib.hid ha
    have HA' := Lib.hid ha.2.1.lt
    clear ha HF HF2 HLk HB1
    obtain ⟨hbf, hbc, hbw⟩ := HA.out
    have hb5 := hbw.alloc hbw.size (.cells #[.string (sOf wd), .string ⟨#[]⟩, .int .i64 0] 23)
    have k3 := hbf.alloc (.cells #[.string (sOf wd), .string ⟨#[]⟩, .int .i64 0] 23)
    have k1 := hbc.alloc (.cells #[.string (sOf wd), .string ⟨#[]⟩, .int .i64 0] 23)
    have k5 := Blk.new wc 23 #[.string (sOf wd), .string ⟨#[]⟩, .int .i64 0]
    have HR := Lib.hid (rest_any ⟨wd, t, n⟩ HH.out.2.1 HH.out.2.2.1 (wc.alloc (.cells #[.string (sOf wd), .string ⟨#[]⟩, .int .i64 0] 23)))
    rw [show restL ⟨wd, t, n⟩ = t by unfold restL; rw [HH.out.1]; rfl] at HR
    unfold cmV cmA at HR
    have HK := Lib.hid (And.intro k3 (And.intro k1 (And.intro k5 hb5)))
    have a0 := k3.cell 0
    have a1 := k3.cell 1
    have a2 := k3.cell 2
    simp [formA, cmA] at a0 a1 a2
    have c0 := k1.cell 0
    have c1 := k1.cell 1
    have c2 := k1.cell 2
    simp [formA, cmA] at c0 c1 c2
    have b0 := hbc.cell 0
    simp [cmA] at b0
    clear hbf hbc hbw hb5 k3 k1 k5 HA
    go_wp2_with fail
    refine HR.out.mono ?_
    rintro e w5 ⟨rfl, hb⟩
    clear a0 a1 a2 c0 c1 c2 b0 HR
    obtain ⟨k3, k1, k5, hbw⟩ := HK.out
    have k3 := k3.below hb k3.lt
    have k1 := k1.below hb k1.lt
    have k5 := k5.below hb k5.lt
    have hbw := hbw.trans (hb.mono hbw.size)
    have a0 := k3.cell 0
    have a1 := k3.cell 1
    have a2 := k3.cell 2
    simp [formA, cmA] at a0 a1 a2
    have c0 := k1.cell 0
    have c1 := k1.cell 1
    have c2 := k1.cell 2
    simp [formA, cmA] at c0 c1 c2
    have e0 := k5.cell 0
    have e1 := k5.cell 1
    have e2 := k5.cell 2
    simp [formA, cmA] at e0 e1 e2
    clear HK hb
    have HB := Lib.hid hbw
    have hc4 := check4 (c := ⟨wd, t, n⟩) HH.out.1
    simp only at hc4
    have HC4 := Lib.hid hc4
    clear hc4 hbw k3 k1 k5 HH
    by_cases ht : t = []
    · subst ht
      rw [show sOf [] = ⟨#[]⟩ from rfl] at *
      by_cases hn : n = 0
      · subst hn
        go_wp2_with fail
        go_ret
        exact ⟨by rw [HC4.out]; rfl, HB.out⟩
      · have hn1 : ((0 : Int) == n) = false := by simpa using fun h => hn h.symm
        go_wp2_with fail
        go_ret
        exact ⟨by rw [HC4.out, if_neg (fun h => hn h.2)]; rfl, HB.out⟩
    · have ht1 : (([] : List UInt8) == (sOf t).toList) = false := by rw [sOf_toList]; simpa using fun h => ht h
      go_wp2_with fail
      go_ret
      exact ⟨by rw [HC4.out, if_neg (fun h => ht h.1)]; rfl, HB.out⟩
set_option maxRecDepth 100000 in
set_option maxHeartbeats 3200000 in
theorem check_1 (c : Cm) (hk : kindL c.word = 1) (h0 : -9223372036854775808 ≤ c.n) (h1 : c.n ≤ 9223372036854775807) (hs : c.text.length ≤ 140737488351232) (w : World) (hsp : Spaces w) : Calls Tryd.prog 12 #[cmV c] w fun e w' => e = .returned (.int .i64 (checkL c)) ∧ Below w.heap.size w w' := by
  have hb1 := Below.refl w.heap.size w |>.alloc (Nat.le_refl _) (.cells (cmA c) 23)
  have HF := Lib.hid (forms_any ((w.alloc (.cells (cmA c) 23)).drew) (spaces_below hsp hb1.drew (spaces_pos hsp)))
  have HF2 := Lib.hid (forms_any (((w.alloc (.cells (cmA c) 23)).alloc (.cells #[.bool false, .nilFunc, .nilFunc] 47)).drew) (spaces_below hsp (hb1.alloc (by simp) (.cells #[.bool false, .nilFunc, .nilFunc] 47)).drew (spaces_pos hsp)))
  have HB1 := Lib.hid hb1
  have hlk : ∀ (W : World) (r : Nat), W.heap[r]? = some (.map (esA 15) 15) → (Instr.lookup _ (.map (some r)) (.string (sOf c.word)) true).run Tryd.prog W = .ok (.tuple #[.agg #[.bool true, .func (.func 33) #[] #[], .func (.func 34) #[] #[]], .bool true]) W := fun W r hb => by
    have := look_kind (sOf c.word) hb true
    rw [sOf_list, hk] at this
    exact this
  have HLk := Lib.hid hlk
  have HH := Lib.hid (And.intro hk (And.intro h0 (And.intro h1 hs)))
  obtain ⟨wd, t, n⟩ := c
  simp only at HLk HH
  unfold cmA at HF HF2 HB1
  simp only at HF HF2 HB1
  unfold cmV cmA
  simp only
  clear hb1 hk h0 h1 hs hsp hlk
  go_enter Tryd.func12, Tryd.ntmps12
  go_upto_region 1 with fail
  go_cut [3, 4] from 7 (fun v3 v4 wx => ∃ p3, v3 = .pointer (some ⟨p3, 0, none⟩) ∧ v4 = .bool true ∧ Asked 1 p3 ⟨wd, t, n⟩ w wx)
  case first =>
    refine wp_region_front 0 7 (by kernel_rfl) (by decide) (by decide) (by kernel_rfl) (text_any (lo := loC1) (up := upC1) [0, 7, 8] (by kernel_rfl) (by kernel_rfl) (by kernel_rfl) (by kernel_rfl) ?_) (text_any (lo := loC2) (up := upC2) [0, 1, 8] (by kernel_rfl) (by kernel_rfl) (by kernel_rfl) (by kernel_rfl) ?_)
    · simp only [trR, trO, frontP, frontS, List.length_cons, List.length_nil, Nat.reduceAdd, List.range, List.range.loop, List.map_cons, List.map_nil, List.getD_cons_zero, List.getD_cons_succ, Nat.reduceEqDiff, Nat.reduceLT, Nat.reduceLeDiff, if_true, if_false, reduceIte, List.map_toArray, List.push_toArray, List.append_toArray, List.cons_append, List.nil_append]
      refine wpTx_eff (by rfl) (fun K hK => ?_)
      go_simp
      refine HF.out.mono ?_
      rintro e w1 ⟨r, rfl, hmap, hb, hr⟩
      have hbx := (Blk.new w 23 #[.string (sOf wd), .string (sOf t), .int .i64 n]).drew
      have hb2 := hbx.below hb hbx.lt
      have c0 := hb2.cell 0
      simp at c0
      have hlk := HLk.out w1 r hmap
      have hlk2 := HLk.out (w1.alloc (.cells #[.bool false, .nilFunc, .nilFunc] 47)) r ((Below.heap_alloc _ _ _ (Array.getElem?_eq_some_iff.1 hmap).1).trans hmap)
      have c02 := cell_alloc c0 (.cells #[.bool false, .nilFunc, .nilFunc] 47)
      refine ⟨_, rfl, hK _ _ (by simp [lateOK]) ?_⟩
      clear hK K
      repeat (first | (refine wpTx_now (by rfl) (by rfl) (by rfl) (fun K hK => ?_); go_simp; refine hK _ ?_; clear hK K) | (refine wpTx_late _ (by rfl) (by rfl) rfl (fun K hK => ?_); simp only [loC1, loC2, Nat.reduceAdd, List.getD_cons_zero, List.getD_cons_succ, List.drop_zero, List.drop_succ_cons, List.drop_nil, List.nil_append, List.cons_append]; go_simp; refine hK _ _ ?_; clear hK K) | (refine wpTx_ws _ (by rfl) (by rfl) rfl (fun K hK => ?_); simp only [loC1, loC2, Nat.reduceAdd, List.getD_cons_zero, List.getD_cons_succ, List.drop_zero, List.drop_succ_cons, List.drop_nil, List.nil_append, List.cons_append]; go_simp; refine hK _ ?_; clear hK K))
      refine wpTx_eff (by rfl) (fun K hK => ?_)
      go_simp
      refine hK _ _ (by repeat (first | exact lateOK_nil | refine lateOK_skip (by rfl) ?_ | refine lateOK_cons (by go_simp) ?_)) ?_
      clear hK K
      refine wpTx_eff (by rfl) (fun K hK => ?_)
      go_simp
      refine hK _ _ (by repeat (first | exact lateOK_nil | refine lateOK_skip (by rfl) ?_ | refine lateOK_cons (by go_simp) ?_)) ?_
      clear hK K
      repeat (first | (refine wpTx_now (by rfl) (by rfl) (by rfl) (fun K hK => ?_); go_simp; refine hK _ ?_; clear hK K) | (refine wpTx_late _ (by rfl) (by rfl) rfl (fun K hK => ?_); simp only [loC1, loC2, Nat.reduceAdd, List.getD_cons_zero, List.getD_cons_succ, List.drop_zero, List.drop_succ_cons, List.drop_nil, List.nil_append, List.cons_append]; go_simp; refine hK _ _ ?_; clear hK K) | (refine wpTx_ws _ (by rfl) (by rfl) rfl (fun K hK => ?_); simp only [loC1, loC2, Nat.reduceAdd, List.getD_cons_zero, List.getD_cons_succ, List.drop_zero, List.drop_succ_cons, List.drop_nil, List.nil_append, List.cons_append]; go_simp; refine hK _ ?_; clear hK K))
      refine wpTx_nil ?_
      go_wp2_with fail
      go_meet
      case rel =>
        have hbw := HB1.out.drew.trans (hb.mono HB1.out.size)
        exact ⟨w1.heap.size, rfl, rfl, Blk.new w1 _ _, hb2.alloc _, hbw.alloc hbw.size _⟩
    · simp only [trR, trO, frontP, frontS, List.length_cons, List.length_nil, Nat.reduceAdd, List.range, List.range.loop, List.map_cons, List.map_nil, List.getD_cons_zero, List.getD_cons_succ, Nat.reduceEqDiff, Nat.reduceLT, Nat.reduceLeDiff, if_true, if_false, reduceIte, List.map_toArray, List.push_toArray, List.append_toArray, List.cons_append, List.nil_append]
      refine wpTx_eff (by rfl) (fun K hK => ?_)
      go_simp
      refine hK _ _ (by repeat (first | exact lateOK_nil | refine lateOK_skip (by rfl) ?_ | refine lateOK_cons (by go_simp) ?_)) ?_
      clear hK K
      refine wpTx_eff (by rfl) (fun K hK => ?_)
      go_simp
      refine HF2.out.mono ?_
      rintro e w1 ⟨r, rfl, hmap, hb, hr⟩
      have hbx := ((Blk.new w 23 #[.string (sOf wd), .string (sOf t), .int .i64 n]).alloc (.cells #[.bool false, .nilFunc, .nilFunc] 47)).drew
      have hb2 := hbx.below hb hbx.lt
      have hbf := (Blk.new (w.alloc (.cells #[.string (sOf wd), .string (sOf t), .int .i64 n] 23)) 47 #[.bool false, .nilFunc, .nilFunc]).drew
      have hbf2 := hbf.below hb hbf.lt
      rw [World.size_alloc] at hbf2
      have c0 := hb2.cell 0
      have g0 := hbf2.cell 0
      have g1 := hbf2.cell 1
      have g2 := hbf2.cell 2
      have k0 := hbf2.frozen 0
      have k1 := hbf2.frozen 1
      have k2 := hbf2.frozen 2
      simp at c0 g0 g1 g2
      have hlk := HLk.out w1 r hmap
      refine ⟨_, rfl, hK _ _ (by repeat (first | exact lateOK_nil | refine lateOK_skip (by rfl) ?_ | refine lateOK_cons (by go_simp) ?_)) ?_⟩
      clear hK K
      repeat (first | (refine wpTx_now (by rfl) (by rfl) (by rfl) (fun K hK => ?_); go_simp; refine hK _ ?_; clear hK K) | (refine wpTx_late _ (by rfl) (by rfl) rfl (fun K hK => ?_); simp only [loC1, loC2, Nat.reduceAdd, List.getD_cons_zero, List.getD_cons_succ, List.drop_zero, List.drop_succ_cons, List.drop_nil, List.nil_append, List.cons_append]; go_simp; refine hK _ _ ?_; clear hK K) | (refine wpTx_ws _ (by rfl) (by rfl) rfl (fun K hK => ?_); simp only [loC1, loC2, Nat.reduceAdd, List.getD_cons_zero, List.getD_cons_succ, List.drop_zero, List.drop_succ_cons, List.drop_nil, List.nil_append, List.cons_append]; go_simp; refine hK _ ?_; clear hK K))
      refine wpTx_eff (by rfl) (fun K hK => ?_)
      go_simp
      refine hK _ _ (by repeat (first | exact lateOK_nil | refine lateOK_skip (by rfl) ?_ | refine lateOK_cons (by go_simp) ?_)) ?_
      clear hK K
      repeat (first | (refine wpTx_now (by rfl) (by rfl) (by rfl) (fun K hK => ?_); go_simp; refine hK _ ?_; clear hK K) | (refine wpTx_late _ (by rfl) (by rfl) rfl (fun K hK => ?_); simp only [loC1, loC2, Nat.reduceAdd, List.getD_cons_zero, List.getD_cons_succ, List.drop_zero, List.drop_succ_cons, List.drop_nil, List.nil_append, List.cons_append]; go_simp; refine hK _ _ ?_; clear hK K) | (refine wpTx_ws _ (by rfl) (by rfl) rfl (fun K hK => ?_); simp only [loC1, loC2, Nat.reduceAdd, List.getD_cons_zero, List.getD_cons_succ, List.drop_zero, List.drop_succ_cons, List.drop_nil, List.nil_append, List.cons_append]; go_simp; refine hK _ ?_; clear hK K))
      refine wpTx_nil ?_
      go_wp2_with fail
      go_meet
      case rel =>
        have hbw := (HB1.out.alloc HB1.out.size (.cells #[.bool false, .nilFunc, .nilFunc] 47)).drew.trans (hb.mono (HB1.out.alloc HB1.out.size _).size)
        refine ⟨w.heap.size + 1, rfl, rfl, ((hbf2.set_ 0 _).set_ 1 _).set_ 2 _, ((hb2.far (by show _ ≠ w.heap.size + 1; omega) _).far (by show _ ≠ w.heap.size + 1; omega) _).far (by show _ ≠ w.heap.size + 1; omega) _, ((hbw.setCell (p := ⟨w.heap.size + 1, 0, none⟩) (by show _ ≤ w.heap.size + 1; omega) _).setCell (p := ⟨w.heap.size + 1, 1, none⟩) (by show _ ≤ w.heap.size + 1; omega) _).setCell (p := ⟨w.heap.size + 1, 2, none⟩) (by show _ ≤ w.heap.size + 1; omega) _⟩
  case rest =>
    obtain ⟨p3, rfl, rfl, ha⟩ := hcut
    have HA := Lib.hid ha
    have HA' := Lib.hid ha.2.1.lt
    clear ha HF HF2 HLk HB1
    obtain ⟨hbf, hbc, hbw⟩ := HA.out
    have hb5 := hbw.alloc hbw.size (.cells #[.string (sOf wd), .string ⟨#[]⟩, .int .i64 0] 23)
    have k3 := hbf.alloc (.cells #[.string (sOf wd), .string ⟨#[]⟩, .int .i64 0] 23)
    have k1 := hbc.alloc (.cells #[.string (sOf wd), .string ⟨#[]⟩, .int .i64 0] 23)
    have k5 := Blk.new wc 23 #[.string (sOf wd), .string ⟨#[]⟩, .int .i64 0]
    have HR := Lib.hid (rest_any ⟨wd, t, n⟩ HH.out.2.1 HH.out.2.2.1 (wc.alloc (.cells #[.string (sOf wd), .string ⟨#[]⟩, .int .i64 0] 23)))
    rw [show restL ⟨wd, t, n⟩ = t by unfold restL; rw [HH.out.1]; rfl] at HR
    unfold cmV cmA at HR
    have HK := Lib.hid (And.intro k3 (And.intro k1 (And.intro k5 hb5)))
    have a0 := k3.cell 0
    have a1 := k3.cell 1
    have a2 := k3.cell 2
    simp [formA, cmA] at a0 a1 a2
    have c0 := k1.cell 0
    have c1 := k1.cell 1
    have c2 := k1.cell 2
    simp [formA, cmA] at c0 c1 c2
    have b0 := hbc.cell 0
    simp [cmA] at b0
    clear hbf hbc hbw hb5 k3 k1 k5 HA
    go_wp2_with fail
    refine HR.out.mono ?_
    rintro e w5 ⟨rfl, hb⟩
    clear a0 a1 a2 c0 c1 c2 b0 HR
    obtain ⟨k3, k1, k5, hbw⟩ := HK.out
    have k3 := k3.below hb k3.lt
    have k1 := k1.below hb k1.lt
    have k5 := k5.below hb k5.lt
    have hbw := hbw.trans (hb.mono hbw.size)
    have a0 := k3.cell 0
    have a1 := k3.cell 1
    have a2 := k3.cell 2
    simp [formA, cmA] at a0 a1 a2
    have c0 := k1.cell 0
    have c1 := k1.cell 1
    have c2 := k1.cell 2
    simp [formA, cmA] at c0 c1 c2
    have e0 := k5.cell 0
    have e1 := k5.cell 1
    have e2 := k5.cell 2
    simp [formA, cmA] at e0 e1 e2
    clear HK hb
    have hsz : (sOf t).size ≤ 140737488351232 := by rw [sOf_size]; exact HH.out.2.2.2
    have HW := Lib.hid (wrong_1 (sOf t) hsz w5)
    rw [sOf_list] at HW
    have HLen := Lib.hid (sOf_size t)
    have HK := Lib.hid (And.intro k3 (And.intro k1 (And.intro k5 hbw)))
    clear k3 k1 k5 hbw
    have HBl := Lib.hid (badAt_lt 1 t)
    obtain ⟨bd, hbd⟩ : ∃ b, b = badAt 1 t := ⟨_, rfl⟩
    rw [← hbd] at HW HBl
    have hck := check12 (c := ⟨wd, t, n⟩) HH.out.1 (.inl rfl)
    simp only at hck
    have HCk := Lib.hid hck
    clear hbd hck
    by_cases hbad : bd < (sOf t).size
    · have hbad' : (bd : Int) < ((sOf t).size : Int) := by omega
      have hal : t.all (mayL 1) = false := HBl.out.1 (by rw [← HLen.out]; exact hbad)
      have HAl := Lib.hid hal
      clear hal
      go_wp2_with fail
      refine HW.out.mono ?_
      rintro e w6 ⟨rfl, hb⟩
      have HZ := Lib.hid (HK.out.2.2.2.trans (hb.mono HK.out.2.2.2.size))
      clear hb
      go_wp2_with fail
      go_ret
      exact ⟨by rw [HCk.out, if_neg (by rw [HAl.out]; simp)]; rfl, HZ.out⟩
    · have hbad' : ¬ (bd : Int) < ((sOf t).size : Int) := by omega
      have hal : t.all (mayL 1) = true := by
        cases h : t.all (mayL 1) with
        | true => rfl
        | false => exact absurd (HBl.out.2 h) (by rw [← HLen.out]; exact hbad)
      have HAl := Lib.hid hal
      clear hal
      go_wp2_with fail
      refine HW.out.mono ?_
      rintro e w6 ⟨rfl, hb⟩
      clear a0 a1 a2 c0 c1 c2 e0 e1 e2
      obtain ⟨k3, k1, k5, hbw⟩ := HK.out
      have k3 := k3.below hb k3.lt
      have k1 := k1.below hb k1.lt
      have k5 := k5.below hb k5.lt
      have hbw := hbw.trans (hb.mono hbw.size)
      have a0 := k3.cell 0
      have a1 := k3.cell 1
      have a2 := k3.cell 2
      simp [formA, cmA] at a0 a1 a2
      have HF := Lib.hid (ftext_any t (by rw [← HLen.out]; exact hsz) k5)
      have hlt5 := HA'.out
      have hmw := k5.lt
      have hst : Blk (w6.setCell ⟨wc.heap.size, 1, none⟩ (.string (sOf t))) wc.heap.size 23 #[.string (sOf wd), .string (sOf t), .int .i64 0] := k5.set_ 1 _
      have hs1 : Blk (w6.setCell ⟨wc.heap.size, 1, none⟩ (.string (sOf t))) w.heap.size 23 (cmA ⟨wd, t, n⟩) := k1.far (by show _ ≠ wc.heap.size; omega) _
      have HBz := Lib.hid (hbw.setCell (p := ⟨wc.heap.size, 1, none⟩) (by show _ ≤ wc.heap.size; omega) (.string (sOf t)))
      have c0 := hs1.cell 0
      have c1 := hs1.cell 1
      have c2 := hs1.cell 2
      simp [formA, cmA] at c0 c1 c2
      have e0 := hst.cell 0
      have e1 := hst.cell 1
      have e2 := hst.cell 2
      simp [formA, cmA] at e0 e1 e2
      clear HK hb k3 k1 k5 hbw hst hs1 hlt5 hmw hbad hsz
      cases hfit : fitsL 1 t with
      | false =>
        have HFt := Lib.hid hfit
        rw [hfit] at HF
        clear hfit
        go_wp2_with fail
        refine HF.out.mono ?_
        rintro e w7 ⟨rfl, rfl⟩
        go_wp2_with fail
        go_ret
        exact ⟨by rw [HCk.out, if_neg (by rw [HFt.out]; simp)]; rfl, HBz.out⟩
      | true =>
        have HFt := Lib.hid hfit
        rw [hfit] at HF
        clear hfit
        by_cases hne : n = 0
        · subst hne
          go_wp2_with fail
          refine HF.out.mono ?_
          rintro e w7 ⟨rfl, rfl⟩
          go_wp2_with fail
          go_ret
          exact ⟨by rw [HCk.out, if_pos ⟨HAl.out, HFt.out, by trivial⟩]; rfl, HBz.out⟩
        · have hne1 : ((0 : Int) == n) = false := by simpa using fun h => hne h.symm
          go_wp2_with fail
          refine HF.out.mono ?_
          rintro e w7 ⟨rfl, rfl⟩
          go_wp2_with fail
          go_ret
          exact ⟨by rw [HCk.out, if_neg (fun h => hne h.2.2)]; rfl, HBz.out⟩
set_option maxRecDepth 100000 in
set_option maxHeartbeats 3200000 in
theorem check_2 (c : Cm) (hk : kindL c.word = 2) (h0 : -9223372036854775808 ≤ c.n) (h1 : c.n ≤ 9223372036854775807) (hs : c.text.length ≤ 140737488351232) (w : World) (hsp : Spaces w) : Calls Tryd.prog 12 #[cmV c] w fun e w' => e = .returned (.int .i64 (checkL c)) ∧ Below w.heap.size w w' := by
  have hb1 := Below.refl w.heap.size w |>.alloc (Nat.le_refl _) (.cells (cmA c) 23)
  have HF := Lib.hid (forms_any ((w.alloc (.cells (cmA c) 23)).drew) (spaces_below hsp hb1.drew (spaces_pos hsp)))
  have HF2 := Lib.hid (forms_any (((w.alloc (.cells (cmA c) 23)).alloc (.cells #[.bool false, .nilFunc, .nilFunc] 47)).drew) (spaces_below hsp (hb1.alloc (by simp) (.cells #[.bool false, .nilFunc, .nilFunc] 47)).drew (spaces_pos hsp)))
  have HB1 := Lib.hid hb1
  have hlk : ∀ (W : World) (r : Nat), W.heap[r]? = some (.map (esA 15) 15) → (Instr.lookup _ (.map (some r)) (.string (sOf c.word)) true).run Tryd.prog W = .ok (.tuple #[.agg #[.bool true, .func (.func 35) #[] #[], .func (.func 36) #[] #[]], .bool true]) W := fun W r hb => by
    have := look_kind (sOf c.word) hb true
    rw [sOf_list, hk] at this
    exact this
  have HLk := Lib.hid hlk
  have HH := Lib.hid (And.intro hk (And.intro h0 (And.intro h1 hs)))
  obtain ⟨wd, t, n⟩ := c
  simp only at HLk HH
  unfold cmA at HF HF2 HB1
  simp only at HF HF2 HB1
  unfold cmV cmA
  simp only
  clear hb1 hk h0 h1 hs hsp hlk
  go_enter Tryd.func12, Tryd.ntmps12
  go_upto_region 1 with fail
  go_cut [3, 4] from 7 (fun v3 v4 wx => ∃ p3, v3 = .pointer (some ⟨p3, 0, none⟩) ∧ v4 = .bool true ∧ Asked 2 p3 ⟨wd, t, n⟩ w wx)
  case first =>
    refine wp_region_front 0 7 (by kernel_rfl) (by decide) (by decide) (by kernel_rfl) (text_any (lo := loC1) (up := upC1) [0, 7, 8] (by kernel_rfl) (by kernel_rfl) (by kernel_rfl) (by kernel_rfl) ?_) (text_any (lo := loC2) (up := upC2) [0, 1, 8] (by kernel_rfl) (by kernel_rfl) (by kernel_rfl) (by kernel_rfl) ?_)
    · simp only [trR, trO, frontP, frontS, List.length_cons, List.length_nil, Nat.reduceAdd, List.range, List.range.loop, List.map_cons, List.map_nil, List.getD_cons_zero, List.getD_cons_succ, Nat.reduceEqDiff, Nat.reduceLT, Nat.reduceLeDiff, if_true, if_false, reduceIte, List.map_toArray, List.push_toArray, List.append_toArray, List.cons_append, List.nil_append]
      refine wpTx_eff (by rfl) (fun K hK => ?_)
      go_simp
      refine HF.out.mono ?_
      rintro e w1 ⟨r, rfl, hmap, hb, hr⟩
      have hbx := (Blk.new w 23 #[.string (sOf wd), .string (sOf t), .int .i64 n]).drew
      have hb2 := hbx.below hb hbx.lt
      have c0 := hb2.cell 0
      simp at c0
      have hlk := HLk.out w1 r hmap
      have hlk2 := HLk.out (w1.alloc (.cells #[.bool false, .nilFunc, .nilFunc] 47)) r ((Below.heap_alloc _ _ _ (Array.getElem?_eq_some_iff.1 hmap).1).trans hmap)
      have c02 := cell_alloc c0 (.cells #[.bool false, .nilFunc, .nilFunc] 47)
      refine ⟨_, rfl, hK _ _ (by simp [lateOK]) ?_⟩
      clear hK K
      repeat (first | (refine wpTx_now (by rfl) (by rfl) (by rfl) (fun K hK => ?_); go_simp; refine hK _ ?_; clear hK K) | (refine wpTx_late _ (by rfl) (by rfl) rfl (fun K hK => ?_); simp only [loC1, loC2, Nat.reduceAdd, List.getD_cons_zero, List.getD_cons_succ, List.drop_zero, List.drop_succ_cons, List.drop_nil, List.nil_append, List.cons_append]; go_simp; refine hK _ _ ?_; clear hK K) | (refine wpTx_ws _ (by rfl) (by rfl) rfl (fun K hK => ?_); simp only [loC1, loC2, Nat.reduceAdd, List.getD_cons_zero, List.getD_cons_succ, List.drop_zero, List.drop_succ_cons, List.drop_nil, List.nil_append, List.cons_append]; go_simp; refine hK _ ?_; clear hK K))
      refine wpTx_eff (by rfl) (fun K hK => ?_)
      go_simp
      refine hK _ _ (by repeat (first | exact lateOK_nil | refine lateOK_skip (by rfl) ?_ | refine lateOK_cons (by go_simp) ?_)) ?_
      clear hK K
      refine wpTx_eff (by rfl) (fun K hK => ?_)
      go_simp
      refine hK _ _ (by repeat (first | exact lateOK_nil | refine lateOK_skip (by rfl) ?_ | refine lateOK_cons (by go_simp) ?_)) ?_
      clear hK K
      repeat (first | (refine wpTx_now (by rfl) (by rfl) (by rfl) (fun K hK => ?_); go_simp; refine hK _ ?_; clear hK K) | (refine wpTx_late _ (by rfl) (by rfl) rfl (fun K hK => ?_); simp only [loC1, loC2, Nat.reduceAdd, List.getD_cons_zero, List.getD_cons_succ, List.drop_zero, List.drop_succ_cons, List.drop_nil, List.nil_append, List.cons_append]; go_simp; refine hK _ _ ?_; clear hK K) | (refine wpTx_ws _ (by rfl) (by rfl) rfl (fun K hK => ?_); simp only [loC1, loC2, Nat.reduceAdd, List.getD_cons_zero, List.getD_cons_succ, List.drop_zero, List.drop_succ_cons, List.drop_nil, List.nil_append, List.cons_append]; go_simp; refine hK _ ?_; clear hK K))
      refine wpTx_nil ?_
      go_wp2_with fail
      go_meet
      case rel =>
        have hbw := HB1.out.drew.trans (hb.mono HB1.out.size)
        exact ⟨w1.heap.size, rfl, rfl, Blk.new w1 _ _, hb2.alloc _, hbw.alloc hbw.size _⟩
    · simp only [trR, trO, frontP, frontS, List.length_cons, List.length_nil, Nat.reduceAdd, List.range, List.range.loop, List.map_cons, List.map_nil, List.getD_cons_zero, List.getD_cons_succ, Nat.reduceEqDiff, Nat.reduceLT, Nat.reduceLeDiff, if_true, if_false, reduceIte, List.map_toArray, List.push_toArray, List.append_toArray, List.cons_append, List.nil_append]
      refine wpTx_eff (by rfl) (fun K hK => ?_)
      go_simp
      refine hK _ _ (by repeat (first | exact lateOK_nil | refine lateOK_skip (by rfl) ?_ | refine lateOK_cons (by go_simp) ?_)) ?_
      clear hK K
      refine wpTx_eff (by rfl) (fun K hK => ?_)
      go_simp
      refine HF2.out.mono ?_
      rintro e w1 ⟨r, rfl, hmap, hb, hr⟩
      have hbx := ((Blk.new w 23 #[.string (sOf wd), .string (sOf t), .int .i64 n]).alloc (.cells #[.bool false, .nilFunc, .nilFunc] 47)).drew
      have hb2 := hbx.below hb hbx.lt
      have hbf := (Blk.new (w.alloc (.cells #[.string (sOf wd), .string (sOf t), .int .i64 n] 23)) 47 #[.bool false, .nilFunc, .nilFunc]).drew
      have hbf2 := hbf.below hb hbf.lt
      rw [World.size_alloc] at hbf2
      have c0 := hb2.cell 0
      have g0 := hbf2.cell 0
      have g1 := hbf2.cell 1
      have g2 := hbf2.cell 2
      have k0 := hbf2.frozen 0
      have k1 := hbf2.frozen 1
      have k2 := hbf2.frozen 2
      simp at c0 g0 g1 g2
      have hlk := HLk.out w1 r hmap
      refine ⟨_, rfl, hK _ _ (by repeat (first | exact lateOK_nil | refine lateOK_skip (by rfl) ?_ | refine lateOK_cons (by go_simp) ?_)) ?_⟩
      clear hK K
      repeat (first | (refine wpTx_now (by rfl) (by rfl) (by rfl) (fun K hK => ?_); go_simp; refine hK _ ?_; clear hK K) | (refine wpTx_late _ (by rfl) (by rfl) rfl (fun K hK => ?_); simp only [loC1, loC2, Nat.reduceAdd, List.getD_cons_zero, List.getD_cons_succ, List.drop_zero, List.drop_succ_cons, List.drop_nil, List.nil_append, List.cons_append]; go_simp; refine hK _ _ ?_; clear hK K) | (refine wpTx_ws _ (by rfl) (by rfl) rfl (fun K hK => ?_); simp only [loC1, loC2, Nat.reduceAdd, List.getD_cons_zero, List.getD_cons_succ, List.drop_zero, List.drop_succ_cons, List.drop_nil, List.nil_append, List.cons_append]; go_simp; refine hK _ ?_; clear hK K))
      refine wpTx_eff (by rfl) (fun K hK => ?_)
      go_simp
      refine hK _ _ (by repeat (first | exact lateOK_nil | refine lateOK_skip (by rfl) ?_ | refine lateOK_cons (by go_simp) ?_)) ?_
      clear hK K
      repeat (first | (refine wpTx_now (by rfl) (by rfl) (by rfl) (fun K hK => ?_); go_simp; refine hK _ ?_; clear hK K) | (refine wpTx_late _ (by rfl) (by rfl) rfl (fun K hK => ?_); simp only [loC1, loC2, Nat.reduceAdd, List.getD_cons_zero, List.getD_cons_succ, List.drop_zero, List.drop_succ_cons, List.drop_nil, List.nil_append, List.cons_append]; go_simp; refine hK _ _ ?_; clear hK K) | (refine wpTx_ws _ (by rfl) (by rfl) rfl (fun K hK => ?_); simp only [loC1, loC2, Nat.reduceAdd, List.getD_cons_zero, List.getD_cons_succ, List.drop_zero, List.drop_succ_cons, List.drop_nil, List.nil_append, List.cons_append]; go_simp; refine hK _ ?_; clear hK K))
      refine wpTx_nil ?_
      go_wp2_with fail
      go_meet
      case rel =>
        have hbw := (HB1.out.alloc HB1.out.size (.cells #[.bool false, .nilFunc, .nilFunc] 47)).drew.trans (hb.mono (HB1.out.alloc HB1.out.size _).size)
        refine ⟨w.heap.size + 1, rfl, rfl, ((hbf2.set_ 0 _).set_ 1 _).set_ 2 _, ((hb2.far (by show _ ≠ w.heap.size + 1; omega) _).far (by show _ ≠ w.heap.size + 1; omega) _).far (by show _ ≠ w.heap.size + 1; omega) _, ((hbw.setCell (p := ⟨w.heap.size + 1, 0, none⟩) (by show _ ≤ w.heap.size + 1; omega) _).setCell (p := ⟨w.heap.size + 1, 1, none⟩) (by show _ ≤ w.heap.size + 1; omega) _).setCell (p := ⟨w.heap.size + 1, 2, none⟩) (by show _ ≤ w.heap.size + 1; omega) _⟩
  case rest =>
    obtain ⟨p3, rfl, rfl, ha⟩ := hcut
    have HA := Lib.hid ha
    have HA' := Lib.hid ha.2.1.lt
    clear ha HF HF2 HLk HB1
    obtain ⟨hbf, hbc, hbw⟩ := HA.out
    have hb5 := hbw.alloc hbw.size (.cells #[.string (sOf wd), .string ⟨#[]⟩, .int .i64 0] 23)
    have k3 := hbf.alloc (.cells #[.string (sOf wd), .string ⟨#[]⟩, .int .i64 0] 23)
    have k1 := hbc.alloc (.cells #[.string (sOf wd), .string ⟨#[]⟩, .int .i64 0] 23)
    have k5 := Blk.new wc 23 #[.string (sOf wd), .string ⟨#[]⟩, .int .i64 0]
    have HR := Lib.hid (rest_any ⟨wd, t, n⟩ HH.out.2.1 HH.out.2.2.1 (wc.alloc (.cells #[.string (sOf wd), .string ⟨#[]⟩, .int .i64 0] 23)))
    rw [show restL ⟨wd, t, n⟩ = t by unfold restL; rw [HH.out.1]; rfl] at HR
    unfold cmV cmA at HR
    have HK := Lib.hid (And.intro k3 (And.intro k1 (And.intro k5 hb5)))
    have a0 := k3.cell 0
    have a1 := k3.cell 1
    have a2 := k3.cell 2
    simp [formA, cmA] at a0 a1 a2
    have c0 := k1.cell 0
    have c1 := k1.cell 1
    have c2 := k1.cell 2
    simp [formA, cmA] at c0 c1 c2
    have b0 := hbc.cell 0
    simp [cmA] at b0
    clear hbf hbc hbw hb5 k3 k1 k5 HA
    go_wp2_with fail
    refine HR.out.mono ?_
    rintro e w5 ⟨rfl, hb⟩
    clear a0 a1 a2 c0 c1 c2 b0 HR
    obtain ⟨k3, k1, k5, hbw⟩ := HK.out
    have k3 := k3.below hb k3.lt
    have k1 := k1.below hb k1.lt
    have k5 := k5.below hb k5.lt
    have hbw := hbw.trans (hb.mono hbw.size)
    have a0 := k3.cell 0
    have a1 := k3.cell 1
    have a2 := k3.cell 2
    simp [formA, cmA] at a0 a1 a2
    have c0 := k1.cell 0
    have c1 := k1.cell 1
    have c2 := k1.cell 2
    simp [formA, cmA] at c0 c1 c2
    have e0 := k5.cell 0
    have e1 := k5.cell 1
    have e2 := k5.cell 2
    simp [formA, cmA] at e0 e1 e2
    clear HK hb
    have hsz : (sOf t).size ≤ 140737488351232 := by rw [sOf_size]; exact HH.out.2.2.2
    have HW := Lib.hid (wrong_2 (sOf t) hsz w5)
    rw [sOf_list] at HW
    have HLen := Lib.hid (sOf_size t)
    have HK := Lib.hid (And.intro k3 (And.intro k1 (And.intro k5 hbw)))
    clear k3 k1 k5 hbw
    have HBl := Lib.hid (badAt_lt 2 t)
    obtain ⟨bd, hbd⟩ : ∃ b, b = badAt 2 t := ⟨_, rfl⟩
    rw [← hbd] at HW HBl
    have hck := check12 (c := ⟨wd, t, n⟩) HH.out.1 (.inr rfl)
    simp only at hck
    have HCk := Lib.hid hck
    clear hbd hck
    by_cases hbad : bd < (sOf t).size
    · have hbad' : (bd : Int) < ((sOf t).size : Int) := by omega
      have hal : t.all (mayL 2) = false := HBl.out.1 (by rw [← HLen.out]; exact hbad)
      have HAl := Lib.hid hal
      clear hal
      go_wp2_with fail
      refine HW.out.mono ?_
      rintro e w6 ⟨rfl, hb⟩
      have HZ := Lib.hid (HK.out.2.2.2.trans (hb.mono HK.out.2.2.2.size))
      clear hb
      go_wp2_with fail
      go_ret
      exact ⟨by rw [HCk.out, if_neg (by rw [HAl.out]; simp)]; rfl, HZ.out⟩
    · have hbad' : ¬ (bd : Int) < ((sOf t).size : Int) := by omega
      have hal : t.all (mayL 2) = true := by
        cases h : t.all (mayL 2) with
        | true => rfl
        | false => exact absurd (HBl.out.2 h) (by rw [← HLen.out]; exact hbad)
      have HAl := Lib.hid hal
      clear hal
      go_wp2_with fail
      refine HW.out.mono ?_
      rintro e w6 ⟨rfl, hb⟩
      clear a0 a1 a2 c0 c1 c2 e0 e1 e2
      obtain ⟨k3, k1, k5, hbw⟩ := HK.out
      have k3 := k3.below hb k3.lt
      have k1 := k1.below hb k1.lt
      have k5 := k5.below hb k5.lt
      have hbw := hbw.trans (hb.mono hbw.size)
      have a0 := k3.cell 0
      have a1 := k3.cell 1
      have a2 := k3.cell 2
      simp [formA, cmA] at a0 a1 a2
      have HF := Lib.hid (fhex_any t (by rw [← HLen.out]; exact hsz) k5)
      have hlt5 := HA'.out
      have hmw := k5.lt
      have hst : Blk (w6.setCell ⟨wc.heap.size, 1, none⟩ (.string (sOf t))) wc.heap.size 23 #[.string (sOf wd), .string (sOf t), .int .i64 0] := k5.set_ 1 _
      have hs1 : Blk (w6.setCell ⟨wc.heap.size, 1, none⟩ (.string (sOf t))) w.heap.size 23 (cmA ⟨wd, t, n⟩) := k1.far (by show _ ≠ wc.heap.size; omega) _
      have HBz := Lib.hid (hbw.setCell (p := ⟨wc.heap.size, 1, none⟩) (by show _ ≤ wc.heap.size; omega) (.string (sOf t)))
      have c0 := hs1.cell 0
      have c1 := hs1.cell 1
      have c2 := hs1.cell 2
      simp [formA, cmA] at c0 c1 c2
      have e0 := hst.cell 0
      have e1 := hst.cell 1
      have e2 := hst.cell 2
      simp [formA, cmA] at e0 e1 e2
      clear HK hb k3 k1 k5 hbw hst hs1 hlt5 hmw hbad hsz
      cases hfit : fitsL 2 t with
      | false =>
        have HFt := Lib.hid hfit
        rw [hfit] at HF
        clear hfit
        go_wp2_with fail
        refine HF.out.mono ?_
        rintro e w7 ⟨rfl, rfl⟩
        go_wp2_with fail
        go_ret
        exact ⟨by rw [HCk.out, if_neg (by rw [HFt.out]; simp)]; rfl, HBz.out⟩
      | true =>
        have HFt := Lib.hid hfit
        rw [hfit] at HF
        clear hfit
        by_cases hne : n = 0
        · subst hne
          go_wp2_with fail
          refine HF.out.mono ?_
          rintro e w7 ⟨rfl, rfl⟩
          go_wp2_with fail
          go_ret
          exact ⟨by rw [HCk.out, if_pos ⟨HAl.out, HFt.out, by trivial⟩]; rfl, HBz.out⟩
        · have hne1 : ((0 : Int) == n) = false := by simpa using fun h => hne h.symm
          go_wp2_with fail
          refine HF.out.mono ?_
          rintro e w7 ⟨rfl, rfl⟩
          go_wp2_with fail
          go_ret
          exact ⟨by rw [HCk.out, if_neg (fun h => hne h.2.2)]; rfl, HBz.out⟩
set_option maxRecDepth 100000 in
set_option maxHeartbeats 3200000 in
theorem check_3 (c : Cm) (hk : kindL c.word = 3) (h0 : -9223372036854775808 ≤ c.n) (h1 : c.n ≤ 9223372036854775807) (hs : c.text.length ≤ 140737488351232) (w : World) (hsp : Spaces w) : Calls Tryd.prog 12 #[cmV c] w fun e w' => e = .returned (.int .i64 (checkL c)) ∧ Below w.heap.size w w' := by
  have hb1 := Below.refl w.heap.size w |>.alloc (Nat.le_refl _) (.cells (cmA c) 23)
  have HF := Lib.hid (forms_any ((w.alloc (.cells (cmA c) 23)).drew) (spaces_below hsp hb1.drew (spaces_pos hsp)))
  have HF2 := Lib.hid (forms_any (((w.alloc (.cells (cmA c) 23)).alloc (.cells #[.bool false, .nilFunc, .nilFunc] 47)).drew) (spaces_below hsp (hb1.alloc (by simp) (.cells #[.bool false, .nilFunc, .nilFunc] 47)).drew (spaces_pos hsp)))
  have HB1 := Lib.hid hb1
  have hlk : ∀ (W : World) (r : Nat), W.heap[r]? = some (.map (esA 15) 15) → (Instr.lookup _ (.map (some r)) (.string (sOf c.word)) true).run Tryd.prog W = .ok (.tuple #[.agg #[.bool true, .func (.func 37) #[] #[], .func (.func 38) #[] #[]], .bool true]) W := fun W r hb => by
    have := look_kind (sOf c.word) hb true
    rw [sOf_list, hk] at this
    exact this
  have HLk := Lib.hid hlk
  have HH := Lib.hid (And.intro hk (And.intro h0 (And.intro h1 hs)))
  obtain ⟨wd, t, n⟩ := c
  simp only at HLk HH
  unfold cmA at HF HF2 HB1
  simp only at HF HF2 HB1
  unfold cmV cmA
  simp only
  clear hb1 hk h0 h1 hs hsp hlk
  go_enter Tryd.func12, Tryd.ntmps12
  go_upto_region 1 with fail
  go_cut [3, 4] from 7 (fun v3 v4 wx => ∃ p3, v3 = .pointer (some ⟨p3, 0, none⟩) ∧ v4 = .bool true ∧ Asked 3 p3 ⟨wd, t, n⟩ w wx)
  case first =>
    refine wp_region_front 0 7 (by kernel_rfl) (by decide) (by decide) (by kernel_rfl) (text_any (lo := loC1) (up := upC1) [0, 7, 8] (by kernel_rfl) (by kernel_rfl) (by kernel_rfl) (by kernel_rfl) ?_) (text_any (lo := loC2) (up := upC2) [0, 1, 8] (by kernel_rfl) (by kernel_rfl) (by kernel_rfl) (by kernel_rfl) ?_)
    · simp only [trR, trO, frontP, frontS, List.length_cons, List.length_nil, Nat.reduceAdd, List.range, List.range.loop, List.map_cons, List.map_nil, List.getD_cons_zero, List.getD_cons_succ, Nat.reduceEqDiff, Nat.reduceLT, Nat.reduceLeDiff, if_true, if_false, reduceIte, List.map_toArray, List.push_toArray, List.append_toArray, List.cons_append, List.nil_append]
      refine wpTx_eff (by rfl) (fun K hK => ?_)
      go_simp
      refine HF.out.mono ?_
      rintro e w1 ⟨r, rfl, hmap, hb, hr⟩
      have hbx := (Blk.new w 23 #[.string (sOf wd), .string (sOf t), .int .i64 n]).drew
      have hb2 := hbx.below hb hbx.lt
      have c0 := hb2.cell 0
      simp at c0
      have hlk := HLk.out w1 r hmap
      have hlk2 := HLk.out (w1.alloc (.cells #[.bool false, .nilFunc, .nilFunc] 47)) r ((Below.heap_alloc _ _ _ (Array.getElem?_eq_some_iff.1 hmap).1).trans hmap)
      have c02 := cell_alloc c0 (.cells #[.bool false, .nilFunc, .nilFunc] 47)
      refine ⟨_, rfl, hK _ _ (by simp [lateOK]) ?_⟩
      clear hK K
      repeat (first | (refine wpTx_now (by rfl) (by rfl) (by rfl) (fun K hK => ?_); go_simp; refine hK _ ?_; clear hK K) | (refine wpTx_late _ (by rfl) (by rfl) rfl (fun K hK => ?_); simp only [loC1, loC2, Nat.reduceAdd, List.getD_cons_zero, List.getD_cons_succ, List.drop_zero, List.drop_succ_cons, List.drop_nil, List.nil_append, List.cons_append]; go_simp; refine hK _ _ ?_; clear hK K) | (refine wpTx_ws _ (by rfl) (by rfl) rfl (fun K hK => ?_); simp only [loC1, loC2, Nat.reduceAdd, List.getD_cons_zero, List.getD_cons_succ, List.drop_zero, List.drop_succ_cons, List.drop_nil, List.nil_append, List.cons_append]; go_simp; refine hK _ ?_; clear hK K))
      refine wpTx_eff (by rfl) (fun K hK => ?_)
      go_simp
      refine hK _ _ (by repeat (first | exact lateOK_nil | refine lateOK_skip (by rfl) ?_ | refine lateOK_cons (by go_simp) ?_)) ?_
      clear hK K
      refine wpTx_eff (by rfl) (fun K hK => ?_)
      go_simp
      refine hK _ _ (by repeat (first | exact lateOK_nil | refine lateOK_skip (by rfl) ?_ | refine lateOK_cons (by go_simp) ?_)) ?_
      clear hK K
      repeat (first | (refine wpTx_now (by rfl) (by rfl) (by rfl) (fun K hK => ?_); go_simp; refine hK _ ?_; clear hK K) | (refine wpTx_late _ (by rfl) (by rfl) rfl (fun K hK => ?_); simp only [loC1, loC2, Nat.reduceAdd, List.getD_cons_zero, List.getD_cons_succ, List.drop_zero, List.drop_succ_cons, List.drop_nil, List.nil_append, List.cons_append]; go_simp; refine hK _ _ ?_; clear hK K) | (refine wpTx_ws _ (by rfl) (by rfl) rfl (fun K hK => ?_); simp only [loC1, loC2, Nat.reduceAdd, List.getD_cons_zero, List.getD_cons_succ, List.drop_zero, List.drop_succ_cons, List.drop_nil, List.nil_append, List.cons_append]; go_simp; refine hK _ ?_; clear hK K))
      refine wpTx_nil ?_
      go_wp2_with fail
      go_meet
      case rel =>
        have hbw := HB1.out.drew.trans (hb.mono HB1.out.size)
        exact ⟨w1.heap.size, rfl, rfl, Blk.new w1 _ _, hb2.alloc _, hbw.alloc hbw.size _⟩
    · simp only [trR, trO, frontP, frontS, List.length_cons, List.length_nil, Nat.reduceAdd, List.range, List.range.loop, List.map_cons, List.map_nil, List.getD_cons_zero, List.getD_cons_succ, Nat.reduceEqDiff, Nat.reduceLT, Nat.reduceLeDiff, if_true, if_false, reduceIte, List.map_toArray, List.push_toArray, List.append_toArray, List.cons_append, List.nil_append]
      refine wpTx_eff (by rfl) (fun K hK => ?_)
      go_simp
      refine hK _ _ (by repeat (first | exact lateOK_nil | refine lateOK_skip (by rfl) ?_ | refine lateOK_cons (by go_simp) ?_)) ?_
      clear hK K
      refine wpTx_eff (by rfl) (fun K hK => ?_)
      go_simp
      refine HF2.out.mono ?_
      rintro e w1 ⟨r, rfl, hmap, hb, hr⟩
      have hbx := ((Blk.new w 23 #[.string (sOf wd), .string (sOf t), .int .i64 n]).alloc (.cells #[.bool false, .nilFunc, .nilFunc] 47)).drew
      have hb2 := hbx.below hb hbx.lt
      have hbf := (Blk.new (w.alloc (.cells #[.string (sOf wd), .string (sOf t), .int .i64 n] 23)) 47 #[.bool false, .nilFunc, .nilFunc]).drew
      have hbf2 := hbf.below hb hbf.lt
      rw [World.size_alloc] at hbf2
      have c0 := hb2.cell 0
      have g0 := hbf2.cell 0
      have g1 := hbf2.cell 1
      have g2 := hbf2.cell 2
      have k0 := hbf2.frozen 0
      have k1 := hbf2.frozen 1
      have k2 := hbf2.frozen 2
      simp at c0 g0 g1 g2
      have hlk := HLk.out w1 r hmap
      refine ⟨_, rfl, hK _ _ (by repeat (first | exact lateOK_nil | refine lateOK_skip (by rfl) ?_ | refine lateOK_cons (by go_simp) ?_)) ?_⟩
      clear hK K
      repeat (first | (refine wpTx_now (by rfl) (by rfl) (by rfl) (fun K hK => ?_); go_simp; refine hK _ ?_; clear hK K) | (refine wpTx_late _ (by rfl) (by rfl) rfl (fun K hK => ?_); simp only [loC1, loC2, Nat.reduceAdd, List.getD_cons_zero, List.getD_cons_succ, List.drop_zero, List.drop_succ_cons, List.drop_nil, List.nil_append, List.cons_append]; go_simp; refine hK _ _ ?_; clear hK K) | (refine wpTx_ws _ (by rfl) (by rfl) rfl (fun K hK => ?_); simp only [loC1, loC2, Nat.reduceAdd, List.getD_cons_zero, List.getD_cons_succ, List.drop_zero, List.drop_succ_cons, List.drop_nil, List.nil_append, List.cons_append]; go_simp; refine hK _ ?_; clear hK K))
      refine wpTx_eff (by rfl) (fun K hK => ?_)
      go_simp
      refine hK _ _ (by repeat (first | exact lateOK_nil | refine lateOK_skip (by rfl) ?_ | refine lateOK_cons (by go_simp) ?_)) ?_
      clear hK K
      repeat (first | (refine wpTx_now (by rfl) (by rfl) (by rfl) (fun K hK => ?_); go_simp; refine hK _ ?_; clear hK K) | (refine wpTx_late _ (by rfl) (by rfl) rfl (fun K hK => ?_); simp only [loC1, loC2, Nat.reduceAdd, List.getD_cons_zero, List.getD_cons_succ, List.drop_zero, List.drop_succ_cons, List.drop_nil, List.nil_append, List.cons_append]; go_simp; refine hK _ _ ?_; clear hK K) | (refine wpTx_ws _ (by rfl) (by rfl) rfl (fun K hK => ?_); simp only [loC1, loC2, Nat.reduceAdd, List.getD_cons_zero, List.getD_cons_succ, List.drop_zero, List.drop_succ_cons, List.drop_nil, List.nil_append, List.cons_append]; go_simp; refine hK _ ?_; clear hK K))
      refine wpTx_nil ?_
      go_wp2_with fail
      go_meet
      case rel =>
        have hbw := (HB1.out.alloc HB1.out.size (.cells #[.bool false, .nilFunc, .nilFunc] 47)).drew.trans (hb.mono (HB1.out.alloc HB1.out.size _).size)
        refine ⟨w.heap.size + 1, rfl, rfl, ((hbf2.set_ 0 _).set_ 1 _).set_ 2 _, ((hb2.far (by show _ ≠ w.heap.size + 1; omega) _).far (by show _ ≠ w.heap.size + 1; omega) _).far (by show _ ≠ w.heap.size + 1; omega) _, ((hbw.setCell (p := ⟨w.heap.size + 1, 0, none⟩) (by show _ ≤ w.heap.size + 1; omega) _).setCell (p := ⟨w.heap.size + 1, 1, none⟩) (by show _ ≤ w.heap.size + 1; omega) _).setCell (p := ⟨w.heap.size + 1, 2, none⟩) (by show _ ≤ w.heap.size + 1; omega) _⟩
  case rest =>
    obtain ⟨p3, rfl, rfl, ha⟩ := hcut
    have HA := Lib.hid ha
    have HA' := Lib.hid ha.2.1.lt
    clear ha HF HF2 HLk HB1
    obtain ⟨hbf, hbc, hbw⟩ := HA.out
    have hb5 := hbw.alloc hbw.size (.cells #[.string (sOf wd), .string ⟨#[]⟩, .int .i64 0] 23)
    have k3 := hbf.alloc (.cells #[.string (sOf wd), .string ⟨#[]⟩, .int .i64 0] 23)
    have k1 := hbc.alloc (.cells #[.string (sOf wd), .string ⟨#[]⟩, .int .i64 0] 23)
    have k5 := Blk.new wc 23 #[.string (sOf wd), .string ⟨#[]⟩, .int .i64 0]
    have HR := Lib.hid (rest_any ⟨wd, t, n⟩ HH.out.2.1 HH.out.2.2.1 (wc.alloc (.cells #[.string (sOf wd), .string ⟨#[]⟩, .int .i64 0] 23)))
    rw [show restL ⟨wd, t, n⟩ = (textL n) by unfold restL; rw [HH.out.1]; rfl] at HR
    unfold cmV cmA at HR
    have HK := Lib.hid (And.intro k3 (And.intro k1 (And.intro k5 hb5)))
    have a0 := k3.cell 0
    have a1 := k3.cell 1
    have a2 := k3.cell 2
    simp [formA, cmA] at a0 a1 a2
    have c0 := k1.cell 0
    have c1 := k1.cell 1
    have c2 := k1.cell 2
    simp [formA, cmA] at c0 c1 c2
    have b0 := hbc.cell 0
    simp [cmA] at b0
    clear hbf hbc hbw hb5 k3 k1 k5 HA
    go_wp2_with fail
    refine HR.out.mono ?_
    rintro e w5 ⟨rfl, hb⟩
    clear a0 a1 a2 c0 c1 c2 b0 HR
    obtain ⟨k3, k1, k5, hbw⟩ := HK.out
    have k3 := k3.below hb k3.lt
    have k1 := k1.below hb k1.lt
    have k5 := k5.below hb k5.lt
    have hbw := hbw.trans (hb.mono hbw.size)
    have a0 := k3.cell 0
    have a1 := k3.cell 1
    have a2 := k3.cell 2
    simp [formA, cmA] at a0 a1 a2
    have c0 := k1.cell 0
    have c1 := k1.cell 1
    have c2 := k1.cell 2
    simp [formA, cmA] at c0 c1 c2
    have e0 := k5.cell 0
    have e1 := k5.cell 1
    have e2 := k5.cell 2
    simp [formA, cmA] at e0 e1 e2
    clear HK hb
    have hsz : (sOf (textL n)).size ≤ 140737488351232 := by rw [sOf_size]; have := text_len n HH.out.2.1 HH.out.2.2.1; omega
    have HW := Lib.hid (wrong_3 (sOf (textL n)) hsz w5)
    rw [sOf_list] at HW
    have HLen := Lib.hid (sOf_size (textL n))
    have HK := Lib.hid (And.intro k3 (And.intro k1 (And.intro k5 hbw)))
    clear k3 k1 k5 hbw
    have HBl := Lib.hid (badAt_lt 3 (textL n))
    obtain ⟨bd, hbd⟩ : ∃ b, b = badAt 3 (textL n) := ⟨_, rfl⟩
    rw [← hbd] at HW HBl
    have hck := check3 (c := ⟨wd, t, n⟩) HH.out.1
    simp only at hck
    have HCk := Lib.hid hck
    clear hbd hck
    by_cases hbad : bd < (sOf (textL n)).size
    · have hbad' : (bd : Int) < ((sOf (textL n)).size : Int) := by omega
      have hal : (textL n).all (mayL 3) = false := HBl.out.1 (by rw [← HLen.out]; exact hbad)
      have HAl := Lib.hid hal
      clear hal
      go_wp2_with fail
      refine HW.out.mono ?_
      rintro e w6 ⟨rfl, hb⟩
      have HZ := Lib.hid (HK.out.2.2.2.trans (hb.mono HK.out.2.2.2.size))
      clear hb
      go_wp2_with fail
      go_ret
      exact ⟨by rw [HCk.out, if_neg (by rw [HAl.out]; simp)]; rfl, HZ.out⟩
    · have hbad' : ¬ (bd : Int) < ((sOf (textL n)).size : Int) := by omega
      have hal : (textL n).all (mayL 3) = true := by
        cases h : (textL n).all (mayL 3) with
        | true => rfl
        | false => exact absurd (HBl.out.2 h) (by rw [← HLen.out]; exact hbad)
      have HAl := Lib.hid hal
      clear hal
      go_wp2_with fail
      refine HW.out.mono ?_
      rintro e w6 ⟨rfl, hb⟩
      clear a0 a1 a2 c0 c1 c2 e0 e1 e2
      obtain ⟨k3, k1, k5, hbw⟩ := HK.out
      have k3 := k3.below hb k3.lt
      have k1 := k1.below hb k1.lt
      have k5 := k5.below hb k5.lt
      have hbw := hbw.trans (hb.mono hbw.size)
      have a0 := k3.cell 0
      have a1 := k3.cell 1
      have a2 := k3.cell 2
      simp [formA, cmA] at a0 a1 a2
      have HF := Lib.hid (fnum_any (textL n) (by rw [← HLen.out]; exact hsz) k5)
      rw [show (readV (textL n)).1 = n by rw [read_text n HH.out.2.1 HH.out.2.2.1]] at HF
      have hlt5 := HA'.out
      have hmw := k5.lt
      have hst : Blk (w6.setCell ⟨wc.heap.size, 2, none⟩ (.int .i64 n)) wc.heap.size 23 #[.string (sOf wd), .string ⟨#[]⟩, .int .i64 n] := k5.set_ 2 _
      have hs1 : Blk (w6.setCell ⟨wc.heap.size, 2, none⟩ (.int .i64 n)) w.heap.size 23 (cmA ⟨wd, t, n⟩) := k1.far (by show _ ≠ wc.heap.size; omega) _
      have HBz := Lib.hid (hbw.setCell (p := ⟨wc.heap.size, 2, none⟩) (by show _ ≤ wc.heap.size; omega) (.int .i64 n))
      have c0 := hs1.cell 0
      have c1 := hs1.cell 1
      have c2 := hs1.cell 2
      simp [formA, cmA] at c0 c1 c2
      have e0 := hst.cell 0
      have e1 := hst.cell 1
      have e2 := hst.cell 2
      simp [formA, cmA] at e0 e1 e2
      clear HK hb k3 k1 k5 hbw hst hs1 hlt5 hmw hbad hsz
      cases hfit : fitsL 3 (textL n) with
      | false =>
        have HFt := Lib.hid hfit
        rw [hfit] at HF
        clear hfit
        go_wp2_with fail
        refine HF.out.mono ?_
        rintro e w7 ⟨rfl, rfl⟩
        go_wp2_with fail
        go_ret
        exact ⟨by rw [HCk.out, if_neg (by rw [HFt.out]; simp)]; rfl, HBz.out⟩
      | true =>
        have HFt := Lib.hid hfit
        rw [hfit] at HF
        clear hfit
        by_cases hne : t = []
        · subst hne
          rw [show sOf [] = ⟨#[]⟩ from rfl] at *
          go_wp2_with fail
          refine HF.out.mono ?_
          rintro e w7 ⟨rfl, rfl⟩
          go_wp2_with fail
          go_ret
          exact ⟨by rw [HCk.out, if_pos ⟨HAl.out, HFt.out, by trivial⟩]; rfl, HBz.out⟩
        · have hne1 : (([] : List UInt8) == (sOf t).toList) = false := by rw [sOf_toList]; simpa using fun h => hne h
          go_wp2_with fail
          refine HF.out.mono ?_
          rintro e w7 ⟨rfl, rfl⟩
          go_wp2_with fail
          go_ret
          exact ⟨by rw [HCk.out, if_neg (fun h => hne h.2.2)]; rfl, HBz.out⟩
theorem check_any (c : Cm) (h0 : -9223372036854775808 ≤ c.n) (h1 : c.n ≤ 9223372036854775807) (hs : c.text.length ≤ 140737488351232) (w : World) (hsp : Spaces w) : Calls Tryd.prog 12 #[cmV c] w fun e w' => e = .returned (.int .i64 (checkL c)) ∧ Below w.heap.size w w' := by
  have hk := kind_le c.word
  have hc : kindL c.word = 0 ∨ kindL c.word = 1 ∨ kindL c.word = 2 ∨ kindL c.word = 3 ∨ kindL c.word = 4 := by omega
  rcases hc with h | h | h | h | h
  · exact check_0 c h h0 h1 hs w hsp
  · exact check_1 c h h0 h1 hs w hsp
  · exact check_2 c h h0 h1 hs w hsp
  · exact check_3 c h h0 h1 hs w hsp
  · exact check_4 c h h0 h1 hs w hsp
theorem check_02 (c : Cm) : checkL c = 0 ∨ checkL c = 2 := by
  unfold checkL
  repeat' split
  all_goals simp
theorem field_any (b : Bool) (x y : Value) (w : World) : (Instr.field 47 (.agg #[.bool b, x, y]) 0).run Tryd.prog w = .ok (.bool b) w := by kernel_rfl
def loL4 (i : Nat) : Nat := [0, 0, 0, 1, 1, 1].getD i 0
def upL4 (i : Nat) : Nat := [1, 1, 1, 1, 1, 1].getD i 0
def loL6 (i : Nat) : Nat := [0, 0, 0, 0, 0, 1, 1, 1].getD i 0
def upL6 (i : Nat) : Nat := [1, 1, 1, 0, 1, 1, 1, 1].getD i 0
set_option maxRecDepth 100000 in
set_option maxHeartbeats 3200000 in
theorem line_any (c : Cm) (h0 : -9223372036854775808 ≤ c.n) (h1 : c.n ≤ 9223372036854775807) (hs : c.text.length ≤ 140737488351232) (hw : c.word.length ≤ 140737488351232) (w : World) (hsp : Spaces w) : Calls Tryd.prog 10 #[cmV c] w fun e w' => e = .returned (.tuple #[.string (sOf (lineL c).1), .int .i64 (lineL c).2]) ∧ Below w.heap.size w w' := by
  have hb1 := Below.refl w.heap.size w |>.alloc (Nat.le_refl _) (.cells (cmA c) 23)
  have HC := Lib.hid (check_any c h0 h1 hs (w.alloc (.cells (cmA c) 23)) (spaces_below hsp hb1 (spaces_pos hsp)))
  have HF : Hid (∀ W, Below w.heap.size w W → Calls Tryd.prog 22 #[] W (RetForms W)) := Lib.hid fun W hb => forms_any W (spaces_below hsp hb (spaces_pos hsp))
  have HRe : Hid (∀ W, Calls Tryd.prog 23 #[cmV c] W (RetS' (restL c) W)) := Lib.hid fun W => rest_any c h0 h1 W
  have HB1 := Lib.hid hb1
  have hlk : ∀ (W : World) (r : Nat), W.heap[r]? = some (.map (esA 15) 15) → (Instr.lookup _ (.map (some r)) (.string (sOf c.word)) false).run Tryd.prog W = .ok (formK (kindL c.word)) W := fun W r hb => by
    have := look_kind (sOf c.word) hb false
    rw [sOf_list] at this
    exact this
  have HLk := Lib.hid hlk
  have hrl : (restL c).length ≤ 140737488351232 := by
    unfold restL
    split
    · have := text_len c.n h0 h1; omega
    · exact hs
  obtain ⟨res, hres⟩ : ∃ res, res = lineL c := ⟨_, rfl⟩
  rw [← hres]
  have hres : res = if checkL c ≠ 0 then ([], 2) else if kindL c.word = 4 then (c.word, 0) else (c.word ++ 32 :: restL c, 0) := hres
  rcases check_02 c with hck | hck
  · rw [if_neg (by rw [hck]; simp)] at hres
    have HRes := Lib.hid hres
    rw [hck] at HC
    have h40 : kindL c.word ≠ 0 := fun h => by rw [check0 h] at hck; cases hck
    have h4le := kind_le c.word
    generalize restL c = rl at *
    obtain ⟨wd, t, n⟩ := c
    simp only at HLk h40 h4le hw HRes
    unfold cmV cmA at HC HRe
    unfold cmA at HB1
    simp only at HC HB1 HRe
    unfold cmV cmA
    simp only
    clear hb1 hsp hlk hck hres h0 h1 hs
    go_enter Tryd.func10, Tryd.ntmps10
    go_wp2_with fail
    refine HC.out.mono ?_
    rintro e w1 ⟨rfl, hb⟩
    have hbx := (Blk.new w 23 #[.string (sOf wd), .string (sOf t), .int .i64 n])
    have hb2 := hbx.below hb hbx.lt
    have hbw := HB1.out.trans (hb.mono HB1.out.size)
    have HK := Lib.hid (And.intro hb2 hbw)
    have c0 := hb2.cell 0
    have c1 := hb2.cell 1
    have c2 := hb2.cell 2
    simp at c0 c1 c2
    have HF1 := Lib.hid (HF.out w1.drew hbw.drew)
    clear hbx hb2 hbw hb HF
    go_wp2_with fail
    refine wp_region_text [0] loL4 upL4 (by kernel_rfl) (by kernel_rfl) (by kernel_rfl) (by kernel_rfl) (by kernel_rfl) ?_
    refine wpTx_eff (by rfl) (fun K hK => ?_)
    go_simp
    refine HF1.out.mono ?_
    rintro e w2 ⟨r, rfl, hmap, hb, hr⟩
    have hb2 := HK.out.1.drew.below hb HK.out.1.drew.lt
    have hbw := HK.out.2.drew.trans (hb.mono HK.out.2.size)
    have d0 := hb2.cell 0
    have d1 := hb2.cell 1
    have d2 := hb2.cell 2
    simp at d0 d1 d2
    have hlk := HLk.out w2 r hmap
    have hfd := field_any
    refine ⟨_, rfl, hK _ _ (by simp [lateOK]) ?_⟩
    clear hK K hb hmap
    have HK2 := Lib.hid (And.intro hb2 hbw)
    have HR2 := Lib.hid (HRe.out w2.drew)
    by_cases h4 : kindL wd = 4
    · have HR4 : Hid (res = (wd, 0)) := Lib.hid (by rw [HRes.out, if_pos h4])
      rw [h4] at hlk
      simp only [formK] at hlk
      clear h4 HRe HR2 hb2 hbw hrl hw h40 h4le
      repeat (first | (refine wpTx_now (by rfl) (by rfl) (by rfl) (fun K hK => ?_); go_simp; refine hK _ ?_; clear hK K) | (refine wpTx_late _ (by rfl) (by rfl) rfl (fun K hK => ?_); simp only [loL4, Nat.reduceAdd, List.getD_cons_zero, List.getD_cons_succ, List.drop_zero, List.drop_succ_cons, List.drop_nil, List.nil_append, List.cons_append]; go_simp; refine hK _ _ ?_; clear hK K) | (refine wpTx_ws _ (by rfl) (by rfl) rfl (fun K hK => ?_); simp only [loL4, Nat.reduceAdd, List.getD_cons_zero, List.getD_cons_succ, List.drop_zero, List.drop_succ_cons, List.drop_nil, List.nil_append, List.cons_append]; go_simp; refine hK _ ?_; clear hK K))
      refine wpTx_nil ?_
      go_wp2_with fail
      go_ret2
      exact ⟨by rw [HR4.out]; rfl, HK2.out.2⟩
    · have HR4 : Hid (res = (wd ++ 32 :: rl, 0)) := Lib.hid (by rw [HRes.out, if_neg h4])
      replace hlk : (Instr.lookup 48 (.map (some r)) (.string (sOf wd)) false).run Tryd.prog w2 = .ok (formK (kindL wd)) w2 := hlk
      have hk123 : kindL wd = 1 ∨ kindL wd = 2 ∨ kindL wd = 3 := by omega
      have hsum1 : ¬ 9223372036854775807 < (sOf wd).size + 1 := by rw [sOf_size]; omega
      have hsum2 : ¬ 9223372036854775807 < (sOf wd ++ ⟨#[32]⟩).size + (sOf rl).size := by rw [show (⟨#[32]⟩ : ByteArray) = sOf [32] from rfl, sOf_app, sOf_size, sOf_size, List.length_append]; simp only [List.length_singleton]; omega
      have hsum3 : ¬ 9223372036854775807 < (sOf wd).size + 1 + (sOf rl).size := by rw [sOf_size, sOf_size]; omega
      have HSum := Lib.hid (sOf_app (wd ++ [32]) rl)
      have HSm1 := Lib.hid (sOf_app wd [32])
      have hff : ∃ a b, formK (kindL wd) = .agg #[.bool true, a, b] := by
        rcases hk123 with h | h | h <;> rw [h] <;> exact ⟨_, _, rfl⟩
      obtain ⟨fa, fb, hff⟩ := hff
      rw [hff] at hlk
      clear h4 hk123 hff hb2 hbw hrl hw h40 h4le HRe HLk
      repeat (first | (refine wpTx_now (by rfl) (by rfl) (by rfl) (fun K hK => ?_); go_simp; refine hK _ ?_; clear hK K) | (refine wpTx_late _ (by rfl) (by rfl) rfl (fun K hK => ?_); simp only [loL4, Nat.reduceAdd, List.getD_cons_zero, List.getD_cons_succ, List.drop_zero, List.drop_succ_cons, List.drop_nil, List.nil_append, List.cons_append]; go_simp; refine hK _ _ ?_; clear hK K) | (refine wpTx_ws _ (by rfl) (by rfl) rfl (fun K hK => ?_); simp only [loL4, Nat.reduceAdd, List.getD_cons_zero, List.getD_cons_succ, List.drop_zero, List.drop_succ_cons, List.drop_nil, List.nil_append, List.cons_append]; go_simp; refine hK _ ?_; clear hK K))
      refine wpTx_nil ?_
      go_wp2_with fail
      refine wp_region_text [4] loL6 upL6 (by kernel_rfl) (by kernel_rfl) (by kernel_rfl) (by kernel_rfl) (by kernel_rfl) ?_
      repeat (first | (refine wpTx_now (by rfl) (by rfl) (by rfl) (fun K hK => ?_); go_simp; refine hK _ ?_; clear hK K) | (refine wpTx_late [] (by rfl) (by rfl) (by rfl) (fun K hK => ?_); go_simp; refine hK _ _ ?_; clear hK K))
      refine wpTx_eff (by rfl) (fun K hK => ?_)
      go_simp
      refine HR2.out.mono ?_
      rintro e w3 ⟨rfl, hb⟩
      have hb3 := HK2.out.1.drew.below hb HK2.out.1.drew.lt
      have hbw := HK2.out.2.drew.trans (hb.mono HK2.out.2.size)
      have e0 := hb3.cell 0
      simp at e0
      have HZ := Lib.hid hbw
      refine ⟨_, rfl, hK _ _ (by repeat (first | exact lateOK_nil | refine lateOK_skip (by rfl) ?_ | refine lateOK_cons (by go_simp) ?_)) ?_⟩
      clear hK K hb hb3 hbw
      repeat (refine wpTx_now (by rfl) (by rfl) (by rfl) (fun K hK => ?_); go_simp; refine hK _ ?_; clear hK K)
      refine wpTx_nil ?_
      go_wp2_with fail
      go_ret2
      refine ⟨?_, HZ.out⟩
      rw [HR4.out]
      show Ending.returned (.tuple #[.string ((sOf wd ++ sOf [32]) ++ sOf rl), .int .i64 0]) = _
      rw [HSm1.out, HSum.out, List.append_assoc]
      rfl
  · rw [if_pos (by rw [hck]; decide)] at hres
    have HRes := Lib.hid hres
    rw [hck] at HC
    obtain ⟨wd, t, n⟩ := c
    unfold cmV cmA at HC
    unfold cmA at HB1
    simp only at HC HB1
    unfold cmV cmA
    simp only
    clear hb1 hsp hlk hck hres h0 h1 hs hw hrl
    go_enter Tryd.func10, Tryd.ntmps10
    go_wp2_with fail
    refine HC.out.mono ?_
    rintro e w1 ⟨rfl, hb⟩
    have HZ := Lib.hid (HB1.out.trans (hb.mono HB1.out.size))
    clear hb
    go_wp2_with fail
    go_ret2
    exact ⟨by rw [HRes.out]; rfl, HZ.out⟩
end Go.Proofs.YtclejidkahpemaaDoor
