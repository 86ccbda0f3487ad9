/- The law package's own functions. -/
import Derived.Test.YtclejidkahpemaaDoorLiAll
import Derived.Test.YtclejidkahpemaaDoorLiXAll
namespace Go.Proofs.YtclejidkahpemaaDoor
open Go.RowKit
set_option linter.unusedVariables false
set_option linter.unusedSimpArgs false
attribute [local irreducible] ByteArray.extract ByteArray.toList
attribute [local go_sem] Oper.semAt_some run_store_func run_store_nilFunc
set_option maxRecDepth 100000 in
set_option maxHeartbeats 1600000 in
theorem writes_any (c : Cm) (h0 : -9223372036854775808 ≤ c.n) (h1 : c.n ≤ 9223372036854775807) (hs : c.text.length ≤ 140737488351232) (hw : c.word.length ≤ 140737488351232) (want : List UInt8) (err : Int) (w : World) (hsp : Spaces w) :
    Calls Tryd.prog 19 #[cmV c, .string (sOf want), .int .i64 err] w fun e w' => e = .returned (.bool (decide (lineL c = (want, err)))) ∧ Below w.heap.size w w' := by
  have hb1 := (Below.refl w.heap.size w).alloc (Nat.le_refl _) (.cells (cmA c) 23)
  have HL := Lib.hid (line_any c h0 h1 hs hw (w.alloc (.cells (cmA c) 23)) (spaces_below hsp hb1 (spaces_pos hsp)))
  have HB := Lib.hid hb1
  clear hb1 hsp h0 h1 hs hw
  unfold cmV cmA at HL
  unfold cmA at HB
  generalize hx : lineL c = x at *
  obtain ⟨t, e0⟩ := x
  have hR : Hid (decide ((t, e0) = (want, err)) = (((sOf t).toList == (sOf want).toList) && (e0 == err))) := Lib.hid (by
    rw [sOf_toList, sOf_toList]
    by_cases ht : t = want <;> by_cases he : e0 = err <;> simp [ht, he])
  rw [hR.out]
  clear hR hx
  unfold cmV cmA
  go_enter Tryd.func19, Tryd.ntmps19
  go_wp2_with fail
  refine HL.out.mono ?_
  rintro e w2 ⟨rfl, hb⟩
  have HB2 := Lib.hid (HB.out.trans (hb.mono HB.out.size))
  clear hb
  cases ht : ((sOf t).toList == (sOf want).toList) with
  | false =>
    go_wp2_with fail
    go_ret
    exact ⟨by rw [ht]; rfl, HB2.out⟩
  | true =>
    go_wp2_with fail
    go_ret
    exact ⟨by rw [ht]; rfl, HB2.out⟩
set_option maxRecDepth 100000 in
set_option maxHeartbeats 1600000 in
theorem fails_any (s : List UInt8) (hs : s.length ≤ 140737488351232) (at' : Int) (w : World) (hsp : Spaces w) :
    Calls Tryd.prog 20 #[.string (sOf s), .int .i64 at'] w fun e w' => e = .returned (.bool (decide (parseL s = (noC, (5, at'))))) ∧ Below w.heap.size w w' := by
  have HP := Lib.hid (parse_any s hs w hsp)
  clear hsp hs
  unfold RetP at HP
  generalize hx : parseL s = x at *
  obtain ⟨c, f, a⟩ := x
  have hR : Hid (decide ((c, (f, a)) = (noC, ((5 : Int), at'))) = (((sOf c.word).toList == ([] : List UInt8)) && ((sOf c.text).toList == ([] : List UInt8)) && (c.n == 0) && ((f == 5) && (a == at')))) := Lib.hid (by
    obtain ⟨u, v, n⟩ := c
    rw [sOf_toList, sOf_toList]
    unfold noC
    simp only [Prod.mk.injEq, Cm.mk.injEq]
    by_cases h1 : u = [] <;> by_cases h2 : v = [] <;> by_cases h3 : n = 0 <;> by_cases h4 : f = 5 <;> by_cases h5 : a = at' <;> simp [h1, h2, h3, h4, h5])
  rw [hR.out]
  clear hR hx
  unfold cmV cmA flV at HP
  go_enter Tryd.func20, Tryd.ntmps20
  go_wp2_with fail
  refine HP.out.mono ?_
  rintro e w2 ⟨rfl, hb⟩
  have HB2 := Lib.hid hb
  clear hb
  go_wp2_with fail
  all_goals
    go_ret
    refine ⟨?_, (HB2.out.alloc HB2.out.size _).alloc (by have := HB2.out.size; simp only [World.size_alloc]; omega) _⟩
    show Ending.returned (.bool _) = _
    simp [*]
set_option maxRecDepth 100000 in
set_option maxHeartbeats 1600000 in
theorem reads_any (s : List UInt8) (hs : s.length ≤ 140737488351232) (want : Cm) (w : World) (hsp : Spaces w) :
    Calls Tryd.prog 21 #[.string (sOf s), cmV want] w fun e w' => e = .returned (.bool (decide (parseL s = (want, (0, 0))))) ∧ Below w.heap.size w w' := by
  have hb1 := (Below.refl w.heap.size w).alloc (Nat.le_refl _) (.cells (cmA want) 23)
  have HP := Lib.hid (parse_any s hs (w.alloc (.cells (cmA want) 23)) (spaces_below hsp hb1 (spaces_pos hsp)))
  have hk := Blk.new w 23 (cmA want)
  have HB := Lib.hid (And.intro hb1 hk)
  clear hsp hs hb1 hk
  unfold RetP at HP
  generalize hx : parseL s = x at *
  obtain ⟨c, f, a⟩ := x
  have hR : Hid (decide ((c, (f, a)) = (want, ((0 : Int), (0 : Int)))) = (((sOf c.word).toList == (sOf want.word).toList) && ((sOf c.text).toList == (sOf want.text).toList) && (c.n == want.n) && ((f == 0) && (a == 0)))) := Lib.hid (by
    obtain ⟨u, v, n⟩ := c
    obtain ⟨u', v', n'⟩ := want
    simp only [sOf_toList]
    simp only [Prod.mk.injEq, Cm.mk.injEq]
    by_cases h1 : u = u' <;> by_cases h2 : v = v' <;> by_cases h3 : n = n' <;> by_cases h4 : f = 0 <;> by_cases h5 : a = 0 <;> simp [h1, h2, h3, h4, h5])
  rw [hR.out]
  clear hR hx
  unfold cmV cmA flV at HP
  unfold cmA at HB
  unfold cmV cmA
  go_enter Tryd.func21, Tryd.ntmps21
  go_wp2_with fail
  refine HP.out.mono ?_
  rintro e w2 ⟨rfl, hb⟩
  have hk2 := HB.out.2.below hb HB.out.2.lt
  have HB2 := Lib.hid (HB.out.1.trans (hb.mono HB.out.1.size))
  have c0 : ∀ o o', ((w2.alloc o).alloc o').cell? ⟨w.heap.size, 0, none⟩ = some (.string (sOf want.word)) := fun o o' => ((hk2.alloc o).alloc o').cell 0
  have c1 : ∀ o o', ((w2.alloc o).alloc o').cell? ⟨w.heap.size, 1, none⟩ = some (.string (sOf want.text)) := fun o o' => ((hk2.alloc o).alloc o').cell 1
  have c2 : ∀ o o', ((w2.alloc o).alloc o').cell? ⟨w.heap.size, 2, none⟩ = some (.int .i64 want.n) := fun o o' => ((hk2.alloc o).alloc o').cell 2
  clear hb hk2
  go_wp2_with fail
  all_goals
    go_ret
    refine ⟨?_, (HB2.out.alloc HB2.out.size _).alloc (by have := HB2.out.size; simp only [World.size_alloc]; omega) _⟩
    show Ending.returned (.bool _) = _
    simp [*]
/-- A closed answer of writes. -/
theorem writes_true (c : Cm) (v : Value) (hv : v = cmV c) (hb : (decide (-9223372036854775808 ≤ c.n) && decide (c.n ≤ 9223372036854775807) && decide (c.text.length ≤ 140737488351232) && decide (c.word.length ≤ 140737488351232)) = true) (want : List UInt8) (bs : ByteArray) (hbs : bs = sOf want) (err : Int) (hl : lineL c = (want, err)) (w : World) (hsp : Spaces w) :
    Calls Tryd.prog 19 #[v, .string bs, .int .i64 err] w fun e w' => e = .returned (.bool true) ∧ Below w.heap.size w w' := by
  subst hv hbs
  simp only [Bool.and_eq_true, decide_eq_true_eq] at hb
  refine (writes_any c hb.1.1.1 hb.1.1.2 hb.1.2 hb.2 want err w hsp).mono ?_
  rintro e w' ⟨rfl, h⟩
  exact ⟨by rw [decide_eq_true hl], h⟩
theorem fails_true (s : List UInt8) (bs : ByteArray) (hbs : bs = sOf s) (hs : decide (s.length ≤ 140737488351232) = true) (at' : Int) (hl : parseL s = (noC, (5, at'))) (w : World) (hsp : Spaces w) :
    Calls Tryd.prog 20 #[.string bs, .int .i64 at'] w fun e w' => e = .returned (.bool true) ∧ Below w.heap.size w w' := by
  subst hbs
  refine (fails_any s (of_decide_eq_true hs) at' w hsp).mono ?_
  rintro e w' ⟨rfl, h⟩
  exact ⟨by rw [decide_eq_true hl], h⟩
theorem reads_true (s : List UInt8) (bs : ByteArray) (hbs : bs = sOf s) (hs : decide (s.length ≤ 140737488351232) = true) (c : Cm) (v : Value) (hv : v = cmV c) (hl : parseL s = (c, (0, 0))) (w : World) (hsp : Spaces w) :
    Calls Tryd.prog 21 #[.string bs, v] w fun e w' => e = .returned (.bool true) ∧ Below w.heap.size w w' := by
  subst hbs hv
  refine (reads_any s (of_decide_eq_true hs) c w hsp).mono ?_
  rintro e w' ⟨rfl, h⟩
  exact ⟨by rw [decide_eq_true hl], h⟩
set_option maxRecDepth 100000 in
set_option maxHeartbeats 1600000 in
theorem awake_any (w : World) (hsp : Spaces w) : Calls Tryd.prog 9 #[] w fun e w' => e = .returned (.bool true) ∧ Below w.heap.size w w' := by
  have hS : ∀ W, Below w.heap.size w W → Spaces W := fun W hb => spaces_below hsp hb (spaces_pos hsp)
  have HS := Lib.hid hS
  have HB0 := Lib.hid (Below.refl w.heap.size w)
  clear hS hsp
  go_enter Tryd.func9, Tryd.ntmps9
  go_wp2_with fail
  refine (writes_true ⟨[108, 105, 110, 101], [97, 32, 98], 0⟩ _ rfl (by decide) [108, 105, 110, 101, 32, 97, 32, 98] _ rfl _ (by decide +kernel) _ (HS.out _ HB0.out)).mono ?_
  rintro e w1 ⟨rfl, hb⟩
  have HB1 := Lib.hid (HB0.out.trans (hb.mono HB0.out.size))
  clear hb
  go_wp2_with fail
  refine (writes_true ⟨[114, 117, 110], [], 9⟩ _ rfl (by decide) [114, 117, 110, 32, 57] _ rfl _ (by decide +kernel) _ (HS.out _ HB1.out)).mono ?_
  rintro e w2 ⟨rfl, hb⟩
  have HB2 := Lib.hid (HB1.out.trans (hb.mono HB1.out.size))
  clear hb
  go_wp2_with fail
  refine (reads_true [105, 110, 112, 117, 116, 32, 55] _ rfl (by decide) ⟨[105, 110, 112, 117, 116], [55], 0⟩ _ rfl (by decide +kernel) _ (HS.out _ HB2.out)).mono ?_
  rintro e w3 ⟨rfl, hb⟩
  have HB3 := Lib.hid (HB2.out.trans (hb.mono HB2.out.size))
  clear hb
  go_wp2_with fail
  refine (fails_true [103, 111] _ rfl (by decide) _ (by decide +kernel) _ (HS.out _ HB3.out)).mono ?_
  rintro e w4 ⟨rfl, hb⟩
  have HB4 := Lib.hid (HB3.out.trans (hb.mono HB3.out.size))
  clear hb
  go_wp2_with fail
  refine (fails_true [99, 108, 101, 97, 114, 32, 120] _ rfl (by decide) _ (by decide +kernel) _ (HS.out _ HB4.out)).mono ?_
  rintro e w5 ⟨rfl, hb⟩
  have HB5 := Lib.hid (HB4.out.trans (hb.mono HB4.out.size))
  clear hb
  go_wp2_with fail
  go_ret
  exact ⟨rfl, HB5.out⟩
end Go.Proofs.YtclejidkahpemaaDoor
