/- LinesKnown. -/
import Derived.Test.YtclejidkahpemaaDoorLiLawR
namespace Go.Proofs.YtclejidkahpemaaDoor
open Go.RowKit
set_option linter.unusedVariables false
set_option linter.unusedSimpArgs false
attribute [local irreducible] ByteArray.extract ByteArray.toList
attribute [local go_sem] Oper.semAt_some run_store_func run_store_nilFunc
/-- What All answers to a closed text. -/
theorem all_true (s : List UInt8) (bs : ByteArray) (hbs : bs = sOf s) (hs : decide (s.length ≤ 1000000) = true) (l : List Cm) (f : Int × Int) (hl : allL s = (l, f)) (n : Nat) (hn : l.length = n) (w : World) (hsp : Spaces w) :
    Calls Tryd.prog 16 #[.string bs] w fun e w' => ∃ A c, e = .returned (.tuple #[.slice A n c, .agg #[.int .i64 f.1, .int .i64 f.2]]) ∧ RowAt w' A l ∧ Below w.heap.size w w' := by
  subst hbs hn
  refine (all_any s (of_decide_eq_true hs) w hsp).mono ?_
  rintro e w' ⟨A, c, rfl, hrow, hb⟩
  rw [hl] at hrow ⊢
  exact ⟨A, c, rfl, rowAt_own hrow, hb⟩
theorem rowAt_lit2 (w : World) (x y : Cm) : RowAt (w.alloc (.cells #[.string (sOf x.word), .string (sOf x.text), .int .i64 x.n, .string (sOf y.word), .string (sOf y.text), .int .i64 y.n] 23)) (some ⟨w.heap.size, 0, none⟩) [x, y] := by
  have h := Blk.new w 23 #[.string (sOf x.word), .string (sOf x.text), .int .i64 x.n, .string (sOf y.word), .string (sOf y.text), .int .i64 y.n]
  refine .inr ⟨_, 0, rfl, fun j u hu => ?_⟩
  rw [h.cell]
  rw [Nat.zero_add, ← hu, List.getElem?_toArray]
  rfl
set_option maxRecDepth 100000 in
set_option maxHeartbeats 3200000 in
theorem linesKnown_any (w : World) (hsp : Spaces w) : Calls Tryd.prog 5 #[] w fun e w' => e = .returned (.bool true) ∧ Below w.heap.size w w' := by
  have hS : ∀ W, Below w.heap.size w W → Spaces W := fun W hb => spaces_below hsp hb (spaces_pos hsp)
  have HS := Lib.hid hS
  have HB0 := Lib.hid (Below.refl w.heap.size w)
  have HA : Hid (∀ W, Below w.heap.size w W → Calls Tryd.prog 9 #[] W fun e w' => e = .returned (.bool true) ∧ Below W.heap.size W w') := Lib.hid fun W hb => awake_any W (HS.out W hb)
  clear hS hsp
  go_enter Tryd.func5, Tryd.ntmps5
  go_wp2_with fail
  refine (writes_true ⟨[108, 105, 110, 101], [], 0⟩ _ rfl (by decide) [108, 105, 110, 101, 32] _ rfl 0 (by decide +kernel) _ (HS.out _ HB0.out)).mono ?_
  rintro e w1 ⟨rfl, hb⟩
  have HB1 := Lib.hid (HB0.out.trans (hb.mono HB0.out.size))
  clear hb
  go_wp2_with fail
  refine (writes_true ⟨[99, 108, 101, 97, 114], [], 0⟩ _ rfl (by decide) [99, 108, 101, 97, 114] _ rfl 0 (by decide +kernel) _ (HS.out _ HB1.out)).mono ?_
  rintro e w2 ⟨rfl, hb⟩
  have HB2 := Lib.hid (HB1.out.trans (hb.mono HB1.out.size))
  clear hb
  go_wp2_with fail
  refine (writes_true ⟨[103, 111], [], 0⟩ _ rfl (by decide) [] _ rfl 2 (by decide +kernel) _ (HS.out _ HB2.out)).mono ?_
  rintro e w3 ⟨rfl, hb⟩
  have HB3 := Lib.hid (HB2.out.trans (hb.mono HB2.out.size))
  clear hb
  go_wp2_with fail
  refine (writes_true ⟨[108, 111, 97, 100], [48, 103], 0⟩ _ rfl (by decide) [] _ rfl 2 (by decide +kernel) _ (HS.out _ HB3.out)).mono ?_
  rintro e w4 ⟨rfl, hb⟩
  have HB4 := Lib.hid (HB3.out.trans (hb.mono HB3.out.size))
  clear hb
  go_wp2_with fail
  refine (fails_true [108, 105, 110, 101] _ rfl (by decide) 4 (by decide +kernel) _ (HS.out _ HB4.out)).mono ?_
  rintro e w5 ⟨rfl, hb⟩
  have HB5 := Lib.hid (HB4.out.trans (hb.mono HB4.out.size))
  clear hb
  go_wp2_with fail
  refine (fails_true [114, 117, 110, 32, 48, 55] _ rfl (by decide) 4 (by decide +kernel) _ (HS.out _ HB5.out)).mono ?_
  rintro e w6 ⟨rfl, hb⟩
  have HB6 := Lib.hid (HB5.out.trans (hb.mono HB5.out.size))
  clear hb
  go_wp2_with fail
  refine (fails_true [114, 117, 110, 32, 55, 120] _ rfl (by decide) 5 (by decide +kernel) _ (HS.out _ HB6.out)).mono ?_
  rintro e w7 ⟨rfl, hb⟩
  have HB7 := Lib.hid (HB6.out.trans (hb.mono HB6.out.size))
  clear hb
  go_wp2_with fail
  refine (fails_true [108, 111, 97, 100, 32, 97, 98, 99] _ rfl (by decide) 5 (by decide +kernel) _ (HS.out _ HB7.out)).mono ?_
  rintro e w8 ⟨rfl, hb⟩
  have HB8 := Lib.hid (HB7.out.trans (hb.mono HB7.out.size))
  clear hb
  go_wp2_with fail
  refine (fails_true [108, 111, 97, 100, 32, 97, 90] _ rfl (by decide) 6 (by decide +kernel) _ (HS.out _ HB8.out)).mono ?_
  rintro e w9 ⟨rfl, hb⟩
  have HB9 := Lib.hid (HB8.out.trans (hb.mono HB8.out.size))
  clear hb
  go_wp2_with fail
  refine (all_true [108, 105, 110, 101, 32, 97, 10, 10, 35, 32, 120, 10, 114, 117, 110, 32, 51, 10] _ rfl (by decide) [⟨[108, 105, 110, 101], [97], 0⟩, ⟨[114, 117, 110], [], 3⟩] (0, 0) (by decide +kernel) 2 rfl _ (HS.out _ HB9.out)).mono ?_
  rintro e v0 ⟨A0, c0, rfl, hrow, hb⟩
  have HV0 := Lib.hid (And.intro ((HB9.out.trans (hb.mono HB9.out.size)).alloc (HB9.out.trans (hb.mono HB9.out.size)).size (.cells #[.int .i64 0, .int .i64 0] 31)) (And.intro (rowAt_below hrow ((Below.refl _ _).alloc (Nat.le_refl _) (.cells #[.int .i64 0, .int .i64 0] 31))) (Blk.new v0 31 #[.int .i64 0, .int .i64 0])))
  clear hb hrow
  go_wp2_with fail
  refine (all_true [99, 108, 101, 97, 114, 10, 114, 117, 110] _ rfl (by decide) [] (5, 9) (by decide +kernel) 0 rfl _ (HS.out _ HV0.out.1)).mono ?_
  rintro e v1 ⟨A1, c1, rfl, hrow, hb⟩
  have HV1 := Lib.hid (And.intro ((HV0.out.1.trans (hb.mono HV0.out.1.size)).alloc (HV0.out.1.trans (hb.mono HV0.out.1.size)).size (.cells #[.int .i64 5, .int .i64 9] 31)) (And.intro (rowAt_below (rowAt_below HV0.out.2.1 hb) ((Below.refl _ _).alloc (Nat.le_refl _) (.cells #[.int .i64 5, .int .i64 9] 31))) (And.intro (((HV0.out.2.2).below hb (HV0.out.2.2).lt).alloc (.cells #[.int .i64 5, .int .i64 9] 31)) (Blk.new v1 31 #[.int .i64 5, .int .i64 9]))))
  clear hb hrow
  go_wp2_with fail
  refine (all_true [] _ rfl (by decide) [] (0, 0) (by decide +kernel) 0 rfl _ (HS.out _ HV1.out.1)).mono ?_
  rintro e v2 ⟨A2, c2, rfl, hrow, hb⟩
  have HV2 := Lib.hid (And.intro ((HV1.out.1.trans (hb.mono HV1.out.1.size)).alloc (HV1.out.1.trans (hb.mono HV1.out.1.size)).size (.cells #[.int .i64 0, .int .i64 0] 31)) (And.intro (rowAt_below (rowAt_below HV1.out.2.1 hb) ((Below.refl _ _).alloc (Nat.le_refl _) (.cells #[.int .i64 0, .int .i64 0] 31))) (And.intro (((HV1.out.2.2.1).below hb (HV1.out.2.2.1).lt).alloc (.cells #[.int .i64 0, .int .i64 0] 31)) (And.intro (((HV1.out.2.2.2).below hb (HV1.out.2.2.2).lt).alloc (.cells #[.int .i64 0, .int .i64 0] 31)) (Blk.new v2 31 #[.int .i64 0, .int .i64 0])))))
  clear hb hrow
  go_wp2_with fail
  refine (HA.out _ HV2.out.1).mono ?_
  rintro e w20 ⟨rfl, hb⟩
  have HE := Lib.hid (And.intro (HV2.out.1.trans (hb.mono HV2.out.1.size)) (And.intro (rowAt_below HV2.out.2.1 hb) (And.intro (HV2.out.2.2.1.below hb HV2.out.2.2.1.lt) (And.intro (HV2.out.2.2.2.1.below hb HV2.out.2.2.2.1.lt) (HV2.out.2.2.2.2.below hb HV2.out.2.2.2.2.lt)))))
  have x0 := HE.out.2.2.1.cell 0
  have x1 := HE.out.2.2.1.cell 1
  simp only [List.getElem?_toArray, List.getElem?_cons_zero, List.getElem?_cons_succ] at x0 x1
  clear hb
  go_wp2_with fail
  have hb1 : Below w20.heap.size w20 (w20.alloc (.cells #[.string (sOf [108, 105, 110, 101]), .string (sOf [97]), .int .i64 0, .string (sOf [114, 117, 110]), .string (sOf []), .int .i64 3] 23)) := (Below.refl _ _).alloc (Nat.le_refl _) _
  refine (same_any [⟨[108, 105, 110, 101], [97], 0⟩, ⟨[114, 117, 110], [], 3⟩] [⟨[108, 105, 110, 101], [97], 0⟩, ⟨[114, 117, 110], [], 3⟩] A0 _ c0 _ _ (by decide) (rowAt_below HE.out.2.1 hb1) (rowAt_lit2 w20 ⟨[108, 105, 110, 101], [97], 0⟩ ⟨[114, 117, 110], [], 3⟩)).mono ?_
  rintro e w21 ⟨rfl, n5, rfl⟩
  rw [decide_eq_true rfl]
  have HF := Lib.hid (And.intro (HE.out.1.trans (hb1.mono HE.out.1.size)) (And.intro (HE.out.2.2.2.1.alloc (.cells #[.string (sOf [108, 105, 110, 101]), .string (sOf [97]), .int .i64 0, .string (sOf [114, 117, 110]), .string (sOf []), .int .i64 3] 23)) (HE.out.2.2.2.2.alloc (.cells #[.string (sOf [108, 105, 110, 101]), .string (sOf [97]), .int .i64 0, .string (sOf [114, 117, 110]), .string (sOf []), .int .i64 3] 23))))
  have y0 := HF.out.2.1.cell 0
  have y1 := HF.out.2.1.cell 1
  have z0 := HF.out.2.2.cell 0
  have z1 := HF.out.2.2.cell 1
  simp only [List.getElem?_toArray, List.getElem?_cons_zero, List.getElem?_cons_succ] at y0 y1 z0 z1
  clear hb1
  go_wp2_with fail
  go_ret
  exact ⟨rfl, HF.out.1.trans ((below_drewN _ n5).mono HF.out.1.size)⟩
end Go.Proofs.YtclejidkahpemaaDoor
