/- LinesReads. -/
import Derived.Test.YtclejidkahpemaaDoorLiLaw
import Derived.Test.YtclejidkahpemaaDoorLiSame
import Derived.Test.YtclejidkahpemaaDoorRowSet
namespace Go.Proofs.YtclejidkahpemaaDoor
open Go.RowKit
set_option linter.unusedVariables false
set_option linter.unusedSimpArgs false
attribute [local irreducible] ByteArray.extract ByteArray.toList
attribute [local go_sem] Oper.semAt_some run_store_func run_store_nilFunc
theorem rowAt_own {w : World} {base c : Nat} {A : Option Addr} {l : List Cm} (h : w.ownsRow base 23 3 (.slice A l.length c) l.length (cmsV l)) : RowAt w A l := by
  cases l with
  | nil => exact .inl rfl
  | cons x l =>
    obtain ⟨g, rfl⟩ := row_addr h (by simp)
    exact .inr ⟨g, 0, rfl, fun j u hu => by rw [Nat.zero_add]; exact (row_cells h).2 j u hu⟩
theorem rowAt_below {w w' : World} {A : Option Addr} {l : List Cm} (h : RowAt w A l) (hb : Below w.heap.size w w') : RowAt w' A l := by
  rcases h with rfl | ⟨b, o, rfl, h⟩
  · exact .inl rfl
  · exact .inr ⟨b, o, rfl, fun j u hu => by rw [hb.cell (World.block_lt_of_cell? _ _ (h j u hu))]; exact h j u hu⟩
theorem allGo_len (ls : List (List UInt8)) : ∀ pos out, (allGo pos out ls).1.length ≤ out.length + ls.length := by
  induction ls with
  | nil => intro pos out; simp [allGo]
  | cons l ls ih =>
    intro pos out
    rw [allGo]
    split
    · split
      · simp
      · have := ih (pos + l.length + 1) (out ++ [(parseL l).1])
        simp only [List.length_append, List.length_cons, List.length_nil] at this ⊢; omega
    · have := ih (pos + l.length + 1) out
      simp only [List.length_cons]; omega
theorem all_len (s : List UInt8) : (allL s).1.length ≤ s.length + 1 := by
  have := allGo_len (splitN s) 0 []
  have := split_n s
  unfold allL
  simp at *; omega
def loLR (i : Nat) : Nat := [0, 0, 0, 0, 0, 0, 0, 0, 0, 0, 0, 0, 1, 1, 1, 1, 1, 1, 1, 1, 2, 2].getD i 0
def upLR (i : Nat) : Nat := [0, 0, 0, 0, 0, 0, 0, 0, 0, 0, 0, 1, 1, 1, 1, 1, 1, 1, 1, 2, 2, 2].getD i 0
set_option maxRecDepth 100000 in
set_option maxHeartbeats 3200000 in
theorem linesReads_any (s : List UInt8) (w : World) (hsp : Spaces w) : Calls Tryd.prog 4 #[.string (sOf s)] w fun e w' => e = .returned (.bool true) ∧ Below w.heap.size w w' := by
  have hS : ∀ W, Below w.heap.size w W → Spaces W := fun W hb => spaces_below hsp hb (spaces_pos hsp)
  have HS := Lib.hid hS
  have HB0 := Lib.hid (Below.refl w.heap.size w)
  have HZ := Lib.hid (sOf_size s)
  have HA : Hid (∀ W, Below w.heap.size w W → Calls Tryd.prog 9 #[] W fun e w' => e = .returned (.bool true) ∧ Below W.heap.size W w') := Lib.hid fun W hb => awake_any W (HS.out W hb)
  clear hS hsp
  by_cases h1 : (1000 < (sOf s).size ∧ (sOf s).size < 3990) ∨ 4200 < (sOf s).size
  · go_enter Tryd.func4, Tryd.ntmps4
    go_wp2_with fail
    all_goals
      first
      | (exfalso; omega)
      | (refine (HA.out _ HB0.out).mono ?_
         rintro e w1 ⟨rfl, hb⟩
         have HB1 := Lib.hid (HB0.out.trans (hb.mono HB0.out.size))
         clear hb
         go_wp2_with fail
         go_ret
         exact ⟨rfl, HB1.out⟩)
  · have hs : s.length ≤ 4200 := by rw [← HZ.out]; omega
    have HP := Lib.hid (parse_any s (by omega) w (HS.out _ HB0.out))
    have HXP : Hid (∀ W, Calls Tryd.prog _ #[.string (sOf s)] W (RetP s W)) := Lib.hid fun W => xparse_any s (by omega) W
    have HAl : Hid (∀ W, Below w.heap.size w W → Calls Tryd.prog _ #[.string (sOf s)] W (RetA s W)) := Lib.hid fun W hb => all_any s (by omega) W (HS.out _ hb)
    have HXA : Hid (∀ W, Calls Tryd.prog _ #[.string (sOf s)] W (RetA s W)) := Lib.hid fun W => xall_any s (by omega) W
    have HLn : Hid ((allL s).1.length ≤ 140737488351232) := Lib.hid (by have := all_len s; omega)
    clear hs
    unfold RetP at HP HXP
    unfold RetA at HAl HXA
    generalize parseL s = pr at *
    generalize allL s = al at *
    obtain ⟨c, f, a⟩ := pr
    obtain ⟨l, g, b⟩ := al
    unfold cmV cmA flV at HP HXP
    unfold flV at HAl HXA
    go_enter Tryd.func4, Tryd.ntmps4
    go_wp2_with fail
    all_goals first | (exfalso; omega) | skip
    all_goals
      refine HP.out.mono ?_
      rintro e w1 ⟨rfl, hb⟩
      have HB1 := Lib.hid (HB0.out.trans (hb.mono HB0.out.size))
      clear hb
      go_wp2_with fail
      have b1 : Below w.heap.size w ((w1.alloc (.cells #[.string (sOf c.word), .string (sOf c.text), .int .i64 c.n] 23)).alloc (.cells #[.int .i64 f, .int .i64 a] 31)) := (HB1.out.alloc HB1.out.size _).alloc (by have := HB1.out.size; simp only [World.size_alloc]; omega) _
      have k0 := (Blk.new w1 23 #[.string (sOf c.word), .string (sOf c.text), .int .i64 c.n]).alloc (.cells #[.int .i64 f, .int .i64 a] 31)
      have k1 := Blk.new (w1.alloc (.cells #[.string (sOf c.word), .string (sOf c.text), .int .i64 c.n] 23)) 31 #[.int .i64 f, .int .i64 a]
      rw [World.size_alloc] at k1
      have HB1' := Lib.hid (And.intro b1 (And.intro k0 k1))
      clear b1 k0 k1
      refine (HXP.out _).mono ?_
      rintro e w2 ⟨rfl, hb⟩
      have HB2 := Lib.hid (And.intro (HB1'.out.1.trans (hb.mono HB1'.out.1.size)) (And.intro (HB1'.out.2.1.below hb HB1'.out.2.1.lt) (HB1'.out.2.2.below hb HB1'.out.2.2.lt)))
      clear hb
      go_wp2_with fail
      have b2 : Below w.heap.size w ((w2.alloc (.cells #[.string (sOf c.word), .string (sOf c.text), .int .i64 c.n] 23)).alloc (.cells #[.int .i64 f, .int .i64 a] 31)) := (HB2.out.1.alloc HB2.out.1.size _).alloc (by have := HB2.out.1.size; simp only [World.size_alloc]; omega) _
      have k0 := (HB2.out.2.1.alloc (.cells #[.string (sOf c.word), .string (sOf c.text), .int .i64 c.n] 23)).alloc (.cells #[.int .i64 f, .int .i64 a] 31)
      have k1 := (HB2.out.2.2.alloc (.cells #[.string (sOf c.word), .string (sOf c.text), .int .i64 c.n] 23)).alloc (.cells #[.int .i64 f, .int .i64 a] 31)
      have j0 := (Blk.new w2 23 #[.string (sOf c.word), .string (sOf c.text), .int .i64 c.n]).alloc (.cells #[.int .i64 f, .int .i64 a] 31)
      have j1 := Blk.new (w2.alloc (.cells #[.string (sOf c.word), .string (sOf c.text), .int .i64 c.n] 23)) 31 #[.int .i64 f, .int .i64 a]
      rw [World.size_alloc] at j1
      have HB2' := Lib.hid (And.intro b2 (And.intro k0 (And.intro k1 (And.intro j0 j1))))
      clear b2 k0 k1 j0 j1
      refine (HAl.out _ HB2'.out.1).mono ?_
      rintro e w3 ⟨A3, c3, rfl, hrow, hb⟩
      have HB3 := Lib.hid (And.intro (HB2'.out.1.trans (hb.mono HB2'.out.1.size)) (And.intro (HB2'.out.2.1.below hb HB2'.out.2.1.lt) (And.intro (HB2'.out.2.2.1.below hb HB2'.out.2.2.1.lt) (And.intro (HB2'.out.2.2.2.1.below hb HB2'.out.2.2.2.1.lt) (And.intro (HB2'.out.2.2.2.2.below hb HB2'.out.2.2.2.2.lt) (rowAt_own hrow))))))
      clear hb hrow
      go_wp2_with fail
      have b3 : Below w.heap.size w (w3.alloc (.cells #[.int .i64 g, .int .i64 b] 31)) := HB3.out.1.alloc HB3.out.1.size _
      have hz3 : Below w3.heap.size w3 (w3.alloc (.cells #[.int .i64 g, .int .i64 b] 31)) := (Below.refl _ _).alloc (Nat.le_refl _) _
      have HB3' := Lib.hid (And.intro b3 (And.intro (HB3.out.2.1.alloc (.cells #[.int .i64 g, .int .i64 b] 31)) (And.intro (HB3.out.2.2.1.alloc (.cells #[.int .i64 g, .int .i64 b] 31)) (And.intro (HB3.out.2.2.2.1.alloc (.cells #[.int .i64 g, .int .i64 b] 31)) (And.intro (HB3.out.2.2.2.2.1.alloc (.cells #[.int .i64 g, .int .i64 b] 31)) (And.intro (rowAt_below HB3.out.2.2.2.2.2 hz3) (Blk.new w3 31 #[.int .i64 g, .int .i64 b])))))))
      clear b3 hz3
      refine (HXA.out _).mono ?_
      rintro e w4 ⟨A4, c4, rfl, hrow, hb⟩
      have HB4 := Lib.hid (And.intro (HB3'.out.1.trans (hb.mono HB3'.out.1.size)) (And.intro (HB3'.out.2.1.below hb HB3'.out.2.1.lt) (And.intro (HB3'.out.2.2.1.below hb HB3'.out.2.2.1.lt) (And.intro (HB3'.out.2.2.2.1.below hb HB3'.out.2.2.2.1.lt) (And.intro (HB3'.out.2.2.2.2.1.below hb HB3'.out.2.2.2.2.1.lt) (And.intro (rowAt_below HB3'.out.2.2.2.2.2.1 hb) (And.intro (HB3'.out.2.2.2.2.2.2.below hb HB3'.out.2.2.2.2.2.2.lt) (rowAt_own hrow))))))))
      clear hb hrow
      have x0 := fun o => (HB4.out.2.1.alloc o).cell 0
      have x1 := fun o => (HB4.out.2.1.alloc o).cell 1
      have x2 := fun o => (HB4.out.2.1.alloc o).cell 2
      have y0 := fun o => (HB4.out.2.2.1.alloc o).cell 0
      have y1 := fun o => (HB4.out.2.2.1.alloc o).cell 1
      have z0 := fun o => (HB4.out.2.2.2.1.alloc o).cell 0
      have z1 := fun o => (HB4.out.2.2.2.1.alloc o).cell 1
      have z2 := fun o => (HB4.out.2.2.2.1.alloc o).cell 2
      have u0 := fun o => (HB4.out.2.2.2.2.1.alloc o).cell 0
      have u1 := fun o => (HB4.out.2.2.2.2.1.alloc o).cell 1
      have v0 := fun o => (HB4.out.2.2.2.2.2.2.1.alloc o).cell 0
      have v1 := fun o => (HB4.out.2.2.2.2.2.2.1.alloc o).cell 1
      simp only [List.getElem?_toArray, List.getElem?_cons_zero, List.getElem?_cons_succ] at x0 x1 x2 y0 y1 z0 z1 z2 u0 u1 v0 v1
      go_wp2_with fail
      refine (same_any l l A3 A4 c3 c4 _ HLn.out (rowAt_below HB4.out.2.2.2.2.2.1 ((Below.refl _ _).alloc (Nat.le_refl _) _)) (rowAt_below HB4.out.2.2.2.2.2.2.2 ((Below.refl _ _).alloc (Nat.le_refl _) _))).mono ?_
      rintro e w5 ⟨rfl, n5, rfl⟩
      rw [decide_eq_true rfl]
      go_wp2_with fail
      have HB5 := Lib.hid ((HB4.out.1.alloc HB4.out.1.size (.cells #[.int .i64 g, .int .i64 b] 31)).trans ((below_drewN _ n5).mono (by have := HB4.out.1.size; simp only [World.size_alloc]; omega)))
      refine (HA.out _ HB5.out).mono ?_
      rintro e w6 ⟨rfl, hb⟩
      have HB6 := Lib.hid (HB5.out.trans (hb.mono HB5.out.size))
      clear hb
      go_wp2_with fail
      go_ret
      exact ⟨rfl, HB6.out⟩
theorem linesReads_row (a : ByteArray) (w : World) (hsp : Spaces w) : Calls Tryd.prog 4 #[.string a] w fun e w' => e = .returned (.bool true) ∧ Below w.heap.size w w' := linesReads_any a.data.toList w hsp
end Go.Proofs.YtclejidkahpemaaDoor
