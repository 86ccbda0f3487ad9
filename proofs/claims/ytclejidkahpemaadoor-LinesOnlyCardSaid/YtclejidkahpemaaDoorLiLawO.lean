/- LinesOnly. -/
import Derived.Test.YtclejidkahpemaaDoorLiLawK
import Derived.Test.YtclejidkahpemaaDoorLiPlain
namespace Go.Proofs.YtclejidkahpemaaDoor
open Go.RowKit
set_option linter.unusedVariables false
set_option linter.unusedSimpArgs false
attribute [local irreducible] ByteArray.extract ByteArray.toList
attribute [local go_sem] Oper.semAt_some run_store_func run_store_nilFunc
def BadP (s : List UInt8) (w : World) (e : Ending) (w' : World) : Prop := ∃ a : Int, 0 ≤ a ∧ a ≤ (sOf s).size ∧ e = .returned (.tuple #[.agg #[.string ⟨#[]⟩, .string ⟨#[]⟩, .int .i64 0], .agg #[.int .i64 5, .int .i64 a]]) ∧ Below w.heap.size w w'
set_option maxRecDepth 100000 in
set_option maxHeartbeats 3200000 in
theorem linesOnly_any (s : List UInt8) (w : World) (hsp : Spaces w) : Calls Tryd.prog 7 #[.string (sOf s)] w fun e w' => e = .returned (.bool true) ∧ Below w.heap.size w w' := by
  have hS : ∀ W, Below w.heap.size w W → Spaces W := fun W hb => spaces_below hsp hb (spaces_pos hsp)
  have HS := Lib.hid hS
  have HZ := Lib.hid (sOf_size s)
  have HK := Lib.hid (linesKnown_any w hsp)
  clear hS hsp
  by_cases hl : 1000 < (sOf s).size
  · go_enter Tryd.func7, Tryd.ntmps7
    go_wp2_with fail
    refine HK.out.mono ?_
    rintro e w1 ⟨rfl, hb⟩
    have HB := Lib.hid hb
    clear hb
    go_wp2_with fail
    go_ret
    exact ⟨rfl, HB.out⟩
  · have hs : s.length ≤ 1000 := by rw [← HZ.out]; omega
    by_cases hp : (parseL s).2.1 = 0
    · obtain ⟨h1, h2, h3, h4, h5, h6⟩ := only_ok s hp
      obtain ⟨c, hc⟩ : ∃ c, c = (parseL s).1 := ⟨_, rfl⟩
      rw [← hc] at h2 h3 h4 h5 h6
      have hpc : parseL s = (c, (0, 0)) := by rw [hc, ← h1]
      have HP : Hid (∀ W, Below w.heap.size w W → Calls Tryd.prog 14 #[.string (sOf s)] W (fun e w' => e = .returned (.tuple #[.agg #[.string (sOf c.word), .string (sOf c.text), .int .i64 c.n], .agg #[.int .i64 0, .int .i64 0]]) ∧ Below W.heap.size W w')) := Lib.hid fun W hb => by
        have := parse_any s (by omega) W (HS.out W hb)
        unfold RetP at this
        rw [hpc] at this
        exact this
      have HC : Hid (∀ W, Below w.heap.size w W → Calls Tryd.prog 12 #[.agg #[.string (sOf c.word), .string (sOf c.text), .int .i64 c.n]] W (fun e w' => e = .returned (.int .i64 0) ∧ Below W.heap.size W w')) := Lib.hid fun W hb => by
        have := check_any c (by omega) (by omega) (by omega) W (HS.out W hb)
        rw [h2] at this
        exact this
      have HW : Hid (∀ W, Below w.heap.size w W → Calls Tryd.prog 19 #[.agg #[.string (sOf c.word), .string (sOf c.text), .int .i64 c.n], .string (sOf s), .int .i64 0] W (fun e w' => e = .returned (.bool true) ∧ Below W.heap.size W w')) := Lib.hid fun W hb => by
        have := writes_any c (by omega) (by omega) (by omega) (by omega) s 0 W (HS.out W hb)
        rw [decide_eq_true h3] at this
        exact this
      clear h1 h2 h3 h4 h5 h6 hpc hc hp hs
      go_enter Tryd.func7, Tryd.ntmps7
      go_wp2_with fail
      refine HK.out.mono ?_
      rintro e w1 ⟨rfl, hb⟩
      have HB1 := Lib.hid hb
      clear hb
      go_wp2_with fail
      refine (HP.out _ HB1.out).mono ?_
      rintro e w2 ⟨rfl, hb⟩
      have hB2 := HB1.out.trans (hb.mono HB1.out.size)
      have HB2 := Lib.hid ((hB2.alloc hB2.size (.cells #[.string (sOf c.word), .string (sOf c.text), .int .i64 c.n] 23)).alloc (by have := hB2.size; simp only [World.size_alloc]; omega) (.cells #[.int .i64 0, .int .i64 0] 31))
      have HK2 := Lib.hid ((Blk.new w2 23 #[.string (sOf c.word), .string (sOf c.text), .int .i64 c.n]).alloc (.cells #[.int .i64 0, .int .i64 0] 31))
      clear hb hB2
      go_wp2_with fail
      refine (HC.out _ HB2.out).mono ?_
      rintro e w3 ⟨rfl, hb⟩
      have HB3 := Lib.hid (HB2.out.trans (hb.mono HB2.out.size))
      have hk3 := HK2.out.below hb HK2.out.lt
      have x0 := hk3.cell 0
      have x1 := hk3.cell 1
      have x2 := hk3.cell 2
      simp only [List.getElem?_toArray, List.getElem?_cons_zero, List.getElem?_cons_succ] at x0 x1 x2
      clear hb hk3
      go_wp2_with fail
      refine (HW.out _ HB3.out).mono ?_
      rintro e w4 ⟨rfl, hb⟩
      have HB4 := Lib.hid (HB3.out.trans (hb.mono HB3.out.size))
      clear hb
      go_wp2_with fail
      go_ret
      exact ⟨rfl, HB4.out⟩
    · obtain ⟨h1, h2⟩ := only_bad s (by omega) hp
      have h3 := parse_at s
      have HP : Hid (∀ W, Below w.heap.size w W → Calls Tryd.prog 14 #[.string (sOf s)] W (BadP s W)) := Lib.hid fun W hb => by
        refine (parse_any s (by omega) W (HS.out W hb)).mono ?_
        rintro e w' ⟨rfl, hb⟩
        refine ⟨(parseL s).2.2, h3.1, by rw [HZ.out]; exact h3.2, ?_, hb⟩
        unfold cmV cmA flV
        rw [h1, h2]; rfl
      clear h1 h2 h3 hp hs
      go_enter Tryd.func7, Tryd.ntmps7
      go_wp2_with fail
      refine HK.out.mono ?_
      rintro e w1 ⟨rfl, hb⟩
      have HB1 := Lib.hid hb
      clear hb
      go_wp2_with fail
      refine (HP.out _ HB1.out).mono ?_
      rintro e w2 ⟨a, ha0, ha1, rfl, hb⟩
      have hB2 := HB1.out.trans (hb.mono HB1.out.size)
      have HB2 := Lib.hid ((hB2.alloc hB2.size (.cells #[.string ⟨#[]⟩, .string ⟨#[]⟩, .int .i64 0] 23)).alloc (by have := hB2.size; simp only [World.size_alloc]; omega) (.cells #[.int .i64 5, .int .i64 a] 31))
      clear hb hB2
      go_wp2_with fail
      go_ret
      exact ⟨rfl, HB2.out⟩
theorem linesOnly_row (a : ByteArray) (w : World) (hsp : Spaces w) : Calls Tryd.prog 7 #[.string a] w fun e w' => e = .returned (.bool true) ∧ Below w.heap.size w w' := linesOnly_any a.data.toList w hsp
end Go.Proofs.YtclejidkahpemaaDoor
