/- LinesBack. -/
import Derived.Test.YtclejidkahpemaaDoorLiLawT
import Derived.Test.YtclejidkahpemaaDoorLiOpenR
namespace Go.Proofs.YtclejidkahpemaaDoor
open Go.RowKit
set_option linter.unusedVariables false
set_option linter.unusedSimpArgs false
attribute [local irreducible] ByteArray.extract ByteArray.toList
attribute [local go_sem] Oper.semAt_some run_store_func run_store_nilFunc
theorem textL_len (n : Int) (h0 : -9223372036854775808 ≤ n) (h1 : n ≤ 9223372036854775807) : (textL n).length ≤ 20 := by
  unfold textL
  have := decs_len n.natAbs 19 (by omega) (by omega)
  split
  · simp; omega
  · omega
theorem line_len (c : Cm) (hc : okC c) : (lineL c).1.length ≤ c.word.length + c.text.length + 22 := by
  have hr : (restL c).length ≤ c.text.length + 20 := by
    unfold restL
    have := textL_len c.n hc.1 hc.2
    split <;> omega
  unfold lineL
  split
  · simp
  · split
    · simp; omega
    · simp; omega
theorem back_snoc (l : List Cm) (c : Cm) : backT (l ++ [c]) = backT l ++ ((lineL c).1 ++ [10, 10]) := by unfold backT; simp
structure BackQ (l : List Cm) (i : Nat) : Prop where
  le : i ≤ l.length
  ok : ∀ c ∈ l.take i, checkL c = 0
  len : (backT (l.take i)).length ≤ i * 400
theorem back_zero (l : List Cm) : BackQ l 0 := ⟨Nat.zero_le _, by simp, by simp [backT]⟩
theorem back_step {l : List Cm} {i : Nat} (h : BackQ l i) (hi : i < l.length) (ht : l[i].text.length ≤ 200) (hw : l[i].word.length ≤ 100) (hc : okC l[i]) (hk : checkL l[i] = 0) :
    BackQ l (i + 1) ∧ backT (l.take (i + 1)) = backT (l.take i) ++ ((lineL l[i]).1 ++ [10, 10]) := by
  have e : l.take (i + 1) = l.take i ++ [l[i]] := List.take_succ_eq_append_getElem hi
  have hb : backT (l.take (i + 1)) = backT (l.take i) ++ ((lineL l[i]).1 ++ [10, 10]) := by rw [e, back_snoc]
  refine ⟨⟨hi, ?_, ?_⟩, hb⟩
  · rw [e]
    intro c hc
    rcases List.mem_append.1 hc with hc | hc
    · exact h.ok c hc
    · rw [List.mem_singleton.1 hc]; exact hk
  · rw [hb]
    have := line_len _ hc
    have := h.len
    simp only [List.length_append, List.length_cons, List.length_nil]
    omega
/-- The text so far. -/
def textB (l : List Cm) (i : Nat) : ByteArray := sOf (firstT ++ 10 :: backT (l.take i))
theorem textB_size {l : List Cm} {i : Nat} (h : BackQ l i) : (textB l i).size ≤ 8 + i * 400 := by
  unfold textB
  rw [sOf_size, List.length_append, List.length_cons]
  have := h.len
  have : firstT.length = 7 := rfl
  omega
theorem row_now {w : World} {A : Option Addr} {l : List Cm} (h : RowAt w A l) (i : Nat) (hi : i < l.length) : ∃ b o, A = some ⟨b, o, none⟩ := by
  rcases h with rfl | ⟨b, o, hA, _⟩
  · simp at hi
  · exact ⟨b, o, hA⟩
theorem row_cell {w : World} {b o : Nat} {l : List Cm} (h : RowAt w (some ⟨b, o, none⟩) l) (i : Nat) (hi : i < l.length) (c : Cm) (hc : c = l[i]) :
    w.cell? ⟨b, o + i * 3, none⟩ = some (.string (sOf c.word)) ∧ w.cell? ⟨b, o + i * 3 + 1, none⟩ = some (.string (sOf c.text)) ∧ w.cell? ⟨b, o + i * 3 + 2, none⟩ = some (.int .i64 c.n) := by
  rcases h with rfl | ⟨b', o', hA, h⟩
  · simp at hi
  · injection hA with hA
    injection hA with h1 h2
    subst h1 h2 hc
    exact row_at h i hi
set_option maxRecDepth 100000 in
set_option maxHeartbeats 3200000 in
theorem linesBack_any (l : List Cm) (A : Option Addr) (c : Nat) (w : World) (hsp : Spaces w) (hrow : RowAt w A l) (hok : ∀ z ∈ l, okC z) (hlc : l.length ≤ c) : Calls Tryd.prog 6 #[.slice A l.length c] w fun e w' => e = .returned (.bool true) ∧ Below w.heap.size w w' := by
  have hS : ∀ W, Below w.heap.size w W → Spaces W := fun W hb => spaces_below hsp hb (spaces_pos hsp)
  have HS := Lib.hid hS
  have HK := Lib.hid (linesKnown_any w hsp)
  have HR := Lib.hid hrow
  have HO := Lib.hid hok
  clear hS hsp hrow hok hlc
  by_cases hl : 30 < l.length
  · have hl' : (30 : Int) < (l.length : Int) := by omega
    go_enter Tryd.func6, Tryd.ntmps6
    go_wp2_with fail
    refine HK.out.mono ?_
    rintro e w1 ⟨rfl, hb⟩
    have HB := Lib.hid hb
    clear hb
    go_wp2_with fail
    go_ret
    exact ⟨rfl, HB.out⟩
  · have hl' : ¬ (30 : Int) < (l.length : Int) := by omega
    have hl30 : l.length ≤ 30 := by omega
    clear hl
    go_enter Tryd.func6, Tryd.ntmps6
    go_wp2_with fail
    refine HK.out.mono ?_
    rintro e w1 ⟨rfl, hb⟩
    have HB := Lib.hid (And.intro hb (rowAt_below HR.out hb))
    clear hb
    go_wp2_with fail
    go_loopw [4, 5] (fun t ix wr => ∃ i : Nat, BackQ l i ∧ ix = .int .i64 i ∧ t = .string (textB l i) ∧ RowAt wr A l ∧ Below w.heap.size w wr) (fun _ ix _ => l.length - (intOf ix).toNat)
    case atStart => exact ⟨0, back_zero l, rfl, rfl, HB.out.2, HB.out.1⟩
    case round =>
      obtain ⟨i, hQ, rfl, rfl, hrow, hB⟩ := hrel
      by_cases hlt : i < l.length
      · have hlt' : (i : Int) < (l.length : Int) := by omega
        obtain ⟨b, o, rfl⟩ := row_now hrow i hlt
        obtain ⟨x, hx⟩ : ∃ x, x = l[i] := ⟨_, rfl⟩
        obtain ⟨a0, a1, a2⟩ := row_cell hrow i hlt x hx
        have hox : okC x := by rw [hx]; exact HO.out _ (List.getElem_mem hlt)
        have HX := Lib.hid (And.intro hx (And.intro hQ (And.intro hrow (And.intro hB hox))))
        have HZ := Lib.hid (And.intro (sOf_size x.text) (sOf_size x.word))
        clear hx hQ hrow hB hox
        by_cases ht : 200 < (sOf x.text).size
        · have ht' : (200 : Int) < ((sOf x.text).size : Int) := by omega
          go_wp2_with fail
          go_ret
          exact ⟨rfl, HX.out.2.2.2.1⟩
        · by_cases hw : 100 < (sOf x.word).size
          · have ht' : ¬ (200 : Int) < ((sOf x.text).size : Int) := by omega
            have hw' : (100 : Int) < ((sOf x.word).size : Int) := by omega
            go_wp2_with fail
            go_ret
            exact ⟨rfl, HX.out.2.2.2.1⟩
          · have ht' : ¬ (200 : Int) < ((sOf x.text).size : Int) := by omega
            have hw' : ¬ (100 : Int) < ((sOf x.word).size : Int) := by omega
            have HT : Hid (x.text.length ≤ 200 ∧ x.word.length ≤ 100) := Lib.hid ⟨by rw [← HZ.out.1]; omega, by rw [← HZ.out.2]; omega⟩
            have hts := textB_size HX.out.2.1
            by_cases hk : checkL x = 0
            · obtain ⟨ln, hln⟩ : ∃ y, y = (lineL x).1 := ⟨_, rfl⟩
              have hlp : lineL x = (ln, 0) := by
                rw [hln]
                unfold lineL
                rw [if_neg (by simpa using hk)]
                split <;> rfl
              have HLn : Hid (Calls Tryd.prog 10 #[.agg #[.string (sOf x.word), .string (sOf x.text), .int .i64 x.n]] wr fun e w' => e = .returned (.tuple #[.string (sOf ln), .int .i64 0]) ∧ Below wr.heap.size wr w') := Lib.hid (by
                have := line_any x HX.out.2.2.2.2.1 HX.out.2.2.2.2.2 (by have := HT.out.1; omega) (by have := HT.out.2; omega) wr (HS.out wr HX.out.2.2.2.1)
                rw [hlp] at this
                exact this)
              have hlz : (sOf ln).size ≤ 322 := by
                rw [sOf_size, hln]
                have := line_len x HX.out.2.2.2.2
                have := HT.out
                omega
              have HRd : Hid (∀ W, Below w.heap.size w W → Calls Tryd.prog 21 #[.string (sOf ln), .agg #[.string (sOf x.word), .string (sOf x.text), .int .i64 x.n]] W fun e w' => e = .returned (.bool true) ∧ Below W.heap.size W w') := Lib.hid fun W hb => by
                have hp := (back_ok x HX.out.2.2.2.2.1 HX.out.2.2.2.2.2 hk).1
                rw [← hln] at hp
                have := reads_any ln (by rw [sOf_size] at hlz; omega) x W (HS.out W hb)
                rw [decide_eq_true hp] at this
                exact this
              have HN : Hid (BackQ l (i + 1) ∧ textB l (i + 1) = textB l i ++ sOf ln ++ ⟨#[10, 10]⟩) := Lib.hid (by
                have hx := HX.out.1
                subst hx
                obtain ⟨h1, h2⟩ := back_step HX.out.2.1 hlt HT.out.1 HT.out.2 HX.out.2.2.2.2 hk
                refine ⟨h1, ?_⟩
                unfold textB
                rw [h2, ← hln, show (⟨#[10, 10]⟩ : ByteArray) = sOf [10, 10] from rfl, sOf_app, sOf_app]
                simp)
              clear hln hlp hk
              go_wp2_with fail
              refine HLn.out.mono ?_
              rintro e w2 ⟨rfl, hb⟩
              have HB2 := Lib.hid (And.intro (HX.out.2.2.2.1.trans (hb.mono HX.out.2.2.2.1.size)) (rowAt_below HX.out.2.2.1 hb))
              obtain ⟨d0, d1, d2⟩ := row_cell HB2.out.2 i hlt x HX.out.1
              clear hb a0 a1 a2
              go_wp2_with fail
              refine (HRd.out _ HB2.out.1).mono ?_
              rintro e w3 ⟨rfl, hb⟩
              have HB3 := Lib.hid (And.intro (HB2.out.1.trans (hb.mono HB2.out.1.size)) (rowAt_below HB2.out.2 hb))
              clear hb d0 d1 d2
              go_wp2_with fail
              go_roundw
              case rel => exact ⟨i + 1, HN.out.1, by go_num, by rw [HN.out.2], HB3.out.2, HB3.out.1⟩
              case measure => simp [intOf]; omega
            · have hlp : lineL x = ([], 2) := by
                unfold lineL
                rw [if_pos (by simpa using hk)]
              have hk2 : checkL x = 2 := (check_or x).resolve_left hk
              have HLn : Hid (Calls Tryd.prog 10 #[.agg #[.string (sOf x.word), .string (sOf x.text), .int .i64 x.n]] wr fun e w' => e = .returned (.tuple #[.string ⟨#[]⟩, .int .i64 2]) ∧ Below wr.heap.size wr w') := Lib.hid (by
                have := line_any x HX.out.2.2.2.2.1 HX.out.2.2.2.2.2 (by have := HT.out.1; omega) (by have := HT.out.2; omega) wr (HS.out wr HX.out.2.2.2.1)
                rw [hlp] at this
                exact this)
              have HCk : Hid (∀ W, Below w.heap.size w W → Calls Tryd.prog 12 #[.agg #[.string (sOf x.word), .string (sOf x.text), .int .i64 x.n]] W fun e w' => e = .returned (.int .i64 2) ∧ Below W.heap.size W w') := Lib.hid fun W hb => by
                have := check_any x HX.out.2.2.2.2.1 HX.out.2.2.2.2.2 (by have := HT.out.1; omega) W (HS.out W hb)
                rw [hk2] at this
                exact this
              clear hlp hk hk2
              go_wp2_with fail
              refine HLn.out.mono ?_
              rintro e w2 ⟨rfl, hb⟩
              have HB2 := Lib.hid (And.intro (HX.out.2.2.2.1.trans (hb.mono HX.out.2.2.2.1.size)) (rowAt_below HX.out.2.2.1 hb))
              obtain ⟨d0, d1, d2⟩ := row_cell HB2.out.2 i hlt x HX.out.1
              clear hb a0 a1 a2
              go_wp2_with fail
              refine (HCk.out _ HB2.out.1).mono ?_
              rintro e w3 ⟨rfl, hb⟩
              have HB3 := Lib.hid (HB2.out.1.trans (hb.mono HB2.out.1.size))
              clear hb d0 d1 d2
              go_wp2_with fail
              go_ret
              exact ⟨rfl, HB3.out⟩
      · have hlt' : ¬ (i : Int) < (l.length : Int) := by omega
        have hi : i = l.length := by have := hQ.le; omega
        have HAl : Hid (Calls Tryd.prog 16 #[.string (textB l i)] wr (RetB l 0 0 wr)) := Lib.hid (by
          have hz := textB_size hQ
          unfold textB at hz
          rw [sOf_size] at hz
          refine all_at _ _ rfl (by omega) l 0 0 ?_ wr (HS.out wr hB)
          have := back_all (l.take i) fun z hz => ⟨hQ.ok z hz, HO.out z (List.mem_of_mem_take hz)⟩
          rw [this, hi, List.take_length])
        have HX := Lib.hid (And.intro hrow hB)
        clear hi hQ hrow hB
        go_wp2_with fail
        refine HAl.out.mono ?_
        rintro e v3 ⟨A3, c3, rfl, hr3, hb⟩
        have HV := Lib.hid (And.intro ((HX.out.2.trans (hb.mono HX.out.2.size)).alloc (HX.out.2.trans (hb.mono HX.out.2.size)).size (.cells #[.int .i64 0, .int .i64 0] 31)) (And.intro (rowAt_below hr3 ((Below.refl _ _).alloc (Nat.le_refl _) (.cells #[.int .i64 0, .int .i64 0] 31))) (rowAt_below (rowAt_below HX.out.1 hb) ((Below.refl _ _).alloc (Nat.le_refl _) (.cells #[.int .i64 0, .int .i64 0] 31)))))
        clear hb hr3
        go_wp2_with fail
        refine (same_any l l A3 A c3 c _ (by omega) HV.out.2.1 HV.out.2.2).mono ?_
        rintro e w7 ⟨rfl, n5, rfl⟩
        rw [decide_eq_true rfl]
        go_wp2_with fail
        go_ret
        exact ⟨rfl, HV.out.1.trans ((below_drewN _ n5).mono HV.out.1.size)⟩
end Go.Proofs.YtclejidkahpemaaDoor
