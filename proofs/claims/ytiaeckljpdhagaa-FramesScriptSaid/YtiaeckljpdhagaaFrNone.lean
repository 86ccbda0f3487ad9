/- The law FramesNone, walked. -/
import Derived.Test.YtiaeckljpdhagaaFrLong
import Derived.Test.YtiaeckljpdhagaaFrSeven
namespace Go.Proofs.Ytiaeckljpdhagaa
open Go.RowKit
set_option linter.unusedVariables false
set_option linter.unusedSimpArgs false
attribute [local go_sem] Oper.semAt_some run_store_func run_store_nilFunc
theorem longVal_ok {v : Val} (h : longVal v = false) : v.ok := by
  unfold longVal at h
  simp only [Bool.or_eq_false_iff, decide_eq_false_iff_not] at h
  show v.lay.length ≤ 1000000
  omega
/-- What an act that is not long is good for. -/
theorem act_ok {a : ActD} (h : longAct a = false) : a.v.1.ok ∧ (a.l.length ≤ 200 → a.l.length ≤ 10 ∧ ∀ y ∈ a.l, y.1.ok) := by
  unfold longAct at h
  simp only [Bool.or_eq_false_iff, decide_eq_false_iff_not] at h
  obtain ⟨h1, h2, h3⟩ := h
  refine ⟨longVal_ok h1, fun hl => ?_⟩
  have hl10 : a.l.length ≤ 10 := by omega
  refine ⟨hl10, fun y hy => longVal_ok ?_⟩
  rw [List.take_of_length_le hl10] at h3
  simpa using (List.any_eq_false.1 h3) y hy
theorem InCh.vis {W : World} {z : AV} (h : InCh W z) (hk : z.1.ok) : VIs W z.1 (z.1.go z.2) := by
  obtain ⟨A, c, e, hr, _⟩ := h
  exact ⟨A, c, by rw [e], hr, hk⟩
theorem one_reads (w : World) (e : TypeId) (size : Nat) (xs : List Value) (hs : xs.length = size) (A : Array Value) (hA : A.toList = xs) : Reads (w.alloc (.cells A e)) (w.alloc (.cells A e)).heap.size size (some ⟨w.heap.size, 0, none⟩) 1 xs :=
  (new_reads w e size xs hs A hA).more (by simp)
set_option maxRecDepth 100000 in
set_option maxHeartbeats 6400000 in
theorem none_row (z : ActD) (W : World) (hz : z.In W) :
    Calls Try.prog 6 #[.agg z.cs.toArray] W fun e w' => e = .returned (.bool true) ∧ Below W.heap.size W w' := by
  obtain ⟨kind, m, ⟨⟨tag, num, bits, s, lay⟩, ch⟩, l, ls⟩ := z
  obtain ⟨⟨A2, c2, h2, hr2, hm2⟩, A3, c3, h3, hr3, hq3, hm3⟩ := id hz
  dsimp only at h2 hr2 hm2 h3 hr3 hq3 hm3
  subst h2 h3
  have HZ := Lib.hid hz
  have H0 := (Lies.nil W).newBlk 58 #[.int .i64 kind, .int .i64 m, .int .i64 tag, .int .i64 num, .int .u64 bits, .string s, .slice A2 lay.length c2, .slice A3 l.length c3]
  have hsz : (W.alloc (.cells #[.int .i64 kind, .int .i64 m, .int .i64 tag, .int .i64 num, .int .u64 bits, .string s, .slice A2 lay.length c2, .slice A3 l.length c3] 58)).heap.size = W.heap.size + 1 := by simp
  have HLg := Lib.hid (long_any [⟨kind, m, (⟨tag, num, bits, s, lay⟩, .slice A2 lay.length c2), l, .slice A3 l.length c3⟩] (some ⟨W.heap.size + 1, 0, none⟩) 1 ((W.alloc (.cells #[.int .i64 kind, .int .i64 m, .int .i64 tag, .int .i64 num, .int .u64 bits, .string s, .slice A2 lay.length c2, .slice A3 l.length c3] 58)).alloc (.cells #[.int .i64 kind, .int .i64 m, .int .i64 tag, .int .i64 num, .int .u64 bits, .string s, .slice A2 lay.length c2, .slice A3 l.length c3] 58))
    (by
      have h := one_reads (W.alloc (.cells #[.int .i64 kind, .int .i64 m, .int .i64 tag, .int .i64 num, .int .u64 bits, .string s, .slice A2 lay.length c2, .slice A3 l.length c3] 58)) 58 8 (ActD.cs ⟨kind, m, (⟨tag, num, bits, s, lay⟩, .slice A2 lay.length c2), l, .slice A3 l.length c3⟩) rfl #[.int .i64 kind, .int .i64 m, .int .i64 tag, .int .i64 num, .int .u64 bits, .string s, .slice A2 lay.length c2, .slice A3 l.length c3] rfl
      rw [hsz] at h
      simpa using h)
    (fun z hz' => by
      simp at hz'
      subst hz'
      exact hz.below (((Below.refl _ W).alloc (Nat.le_refl _) _).alloc (by simp) _)) (by simp [maxLen]))
  have HH := Lib.hid (H0.alloc (.cells #[.int .i64 kind, .int .i64 m, .int .i64 tag, .int .i64 num, .int .u64 bits, .string s, .slice A2 lay.length c2, .slice A3 l.length c3] 58))
  clear H0 hsz hr2 hm2 hr3 hq3 hm3 hz
  have hcs : (ActD.cs ⟨kind, m, (⟨tag, num, bits, s, lay⟩, .slice A2 lay.length c2), l, .slice A3 l.length c3⟩).toArray = #[.int .i64 kind, .int .i64 m, .int .i64 tag, .int .i64 num, .int .u64 bits, .string s, .slice A2 lay.length c2, .slice A3 l.length c3] := rfl
  rw [hcs]
  clear hcs
  by_cases hlong : longActs [⟨kind, m, (⟨tag, num, bits, s, lay⟩, .slice A2 lay.length c2), l, .slice A3 l.length c3⟩] = true
  · rw [hlong] at HLg
    clear hlong
    go_enter Try.func6, Try.ntmps6
    go_wp2_with fail
    refine HLg.out.mono ?_
    rintro e w1 ⟨rfl, hb1⟩
    have HK := Lib.hid (awake_any (HH.out.calm hb1))
    clear hb1 HLg
    go_wp2_with fail
    refine HK.out.mono ?_
    rintro e w2 ⟨rfl, h⟩
    have HF := Lib.hid h
    clear h HK
    go_wp2_with fail
    go_ret
    exact ⟨rfl, HF.out.below⟩
  · have hlf : longActs [⟨kind, m, (⟨tag, num, bits, s, lay⟩, .slice A2 lay.length c2), l, .slice A3 l.length c3⟩] = false := by simpa using hlong
    rw [hlf] at HLg
    have hal : longAct ⟨kind, m, (⟨tag, num, bits, s, lay⟩, .slice A2 lay.length c2), l, .slice A3 l.length c3⟩ = false := by
      unfold longActs at hlf
      simpa using hlf
    have HOK := Lib.hid (act_ok hal)
    clear hlong hlf hal
    go_enter Try.func6, Try.ntmps6
    go_wp2_with fail
    refine HLg.out.mono ?_
    rintro e w1 ⟨rfl, hb1⟩
    have h1 := HH.out.calm hb1
    clear HLg HH
    -- the two frames
    have h2 := h1.newBlk 71 #[.slice none 0 0, .int .i64 0]
    have h3 := h2.newBlk 22 #[.pointer none, .pointer (some ⟨w1.heap.size, 0, none⟩)]
    have hs2 : (w1.alloc (.cells #[.slice none 0 0, .int .i64 0] 71)).heap.size = w1.heap.size + 1 := by simp
    rw [hs2] at h3
    have HH := Lib.hid h3
    clear h1 h2 h3 hb1 hs2
    go_wp2_with fail
    go_loopw [4] (fun ix wr => ∃ i : Nat, ix = .int .i64 i ∧ i ≤ 2 ∧ Lies W.heap.size W wr (sepT (blkT (w1.heap.size + 1) 22 #[.pointer none, .pointer (some ⟨w1.heap.size, 0, none⟩)]) (sepT (blkT w1.heap.size 71 #[.slice none 0 0, .int .i64 0]) (sepT (blkT W.heap.size 58 #[.int .i64 kind, .int .i64 m, .int .i64 tag, .int .i64 num, .int .u64 bits, .string s, .slice A2 lay.length c2, .slice A3 l.length c3]) empT)))) (fun ix _ => 2 - (intOf ix).toNat)
    case atStart => exact ⟨0, rfl, by decide, HH.out⟩
    case round =>
      obtain ⟨i, rfl, hi, hh⟩ := hrel
      clear HH
      by_cases hlt : i < 2
      · have hlt' : (i : Int) < 2 := by omega
        have hcase : ∃ pp T S, IsFail 1 pp T ∧ wr.cell? ⟨w1.heap.size + 1, i, none⟩ = some (.pointer pp) ∧ sepT (blkT (w1.heap.size + 1) 22 #[.pointer none, .pointer (some ⟨w1.heap.size, 0, none⟩)]) (sepT (blkT w1.heap.size 71 #[.slice none 0 0, .int .i64 0]) (sepT (blkT W.heap.size 58 #[.int .i64 kind, .int .i64 m, .int .i64 tag, .int .i64 num, .int .u64 bits, .string s, .slice A2 lay.length c2, .slice A3 l.length c3]) empT)) = sepT T (sepT (blkT W.heap.size 58 #[.int .i64 kind, .int .i64 m, .int .i64 tag, .int .i64 num, .int .u64 bits, .string s, .slice A2 lay.length c2, .slice A3 l.length c3]) S) := by
          rcases (show i = 0 ∨ i = 1 by omega) with rfl | rfl
          · refine ⟨none, empT, sepT (blkT (w1.heap.size + 1) 22 #[.pointer none, .pointer (some ⟨w1.heap.size, 0, none⟩)]) (blkT w1.heap.size 71 #[.slice none 0 0, .int .i64 0]), .nil, hh.blk.1.cell 0, ?_⟩
            rw [empT_sep, sep_empT]
            ac_rfl
          · refine ⟨some ⟨w1.heap.size, 0, none⟩, blkT w1.heap.size 71 #[.slice none 0 0, .int .i64 0], blkT (w1.heap.size + 1) 22 #[.pointer none, .pointer (some ⟨w1.heap.size, 0, none⟩)], .unmade _ _ _ _, hh.blk.1.cell 1, ?_⟩
            rw [sep_empT]
            ac_rfl
        obtain ⟨pp, T, S, hT, hcell, hwhole⟩ := hcase
        rw [hwhole] at hh
        have HW := Lib.hid hwhole
        have HH := Lib.hid hh
        have HT := Lib.hid hT
        have HA : Hid (∀ (w' : World) (S' : Thing), Lies W.heap.size W w' (sepT T (sepT (blkT W.heap.size 58 #[.int .i64 kind, .int .i64 m, .int .i64 tag, .int .i64 num, .int .u64 bits, .string s, .slice A2 lay.length c2, .slice A3 l.length c3]) S')) → w'.cell? ⟨W.heap.size, 0, none⟩ = some (.int .i64 kind) ∧ w'.cell? ⟨W.heap.size, 1, none⟩ = some (.int .i64 m) ∧ w'.cell? ⟨W.heap.size, 2, none⟩ = some (.int .i64 tag) ∧ w'.cell? ⟨W.heap.size, 2 + 1, none⟩ = some (.int .i64 num) ∧ w'.cell? ⟨W.heap.size, 2 + 2, none⟩ = some (.int .u64 bits) ∧ w'.cell? ⟨W.heap.size, 2 + 3, none⟩ = some (.string s) ∧ w'.cell? ⟨W.heap.size, 2 + 4, none⟩ = some (.slice A2 lay.length c2) ∧ w'.cell? ⟨W.heap.size, 7, none⟩ = some (.slice A3 l.length c3)) :=
          Lib.hid fun w' S' h => ⟨h.drop.blk.1.cell 0, h.drop.blk.1.cell 1, h.drop.blk.1.cell 2, h.drop.blk.1.cell 3, h.drop.blk.1.cell 4, h.drop.blk.1.cell 5, h.drop.blk.1.cell 6, h.drop.blk.1.cell 7⟩
        clear hh hT hwhole
        have HP := Lib.hid (pop_fail HT.out HH.out)
        clear HH
        go_wp2_with fail
        refine HP.out.mono ?_
        rintro e w2 ⟨rfl, h⟩
        have HH := Lib.hid ((h.newBlk 30 #[.int .i64 0, .int .i64 0, .int .u64 0, .string ⟨#[]⟩, .slice none 0 0]).turn (a' := sepT T (sepT (blkT W.heap.size 58 #[.int .i64 kind, .int .i64 m, .int .i64 tag, .int .i64 num, .int .u64 bits, .string s, .slice A2 lay.length c2, .slice A3 l.length c3]) (sepT (blkT w2.heap.size 30 #[.int .i64 0, .int .i64 0, .int .u64 0, .string ⟨#[]⟩, .slice none 0 0]) S))) (by ac_rfl))
        clear h HP
        have kk := HA.out _ _ HH.out
        obtain ⟨k0, k1, k2, k3, k4, k5, k6, k7⟩ := kk
        have HP := Lib.hid (take_fail HT.out m HH.out)
        clear HH k0 k2 k3 k4 k5 k6 k7
        go_wp2_with fail
        refine HP.out.mono ?_
        rintro e w3 ⟨rfl, h⟩
        have HH := Lib.hid h
        clear h HP k1
        have kk := HA.out _ _ HH.out
        obtain ⟨k0, k1, k2, k3, k4, k5, k6, k7⟩ := kk
        have HP := Lib.hid (local_fail HT.out m HH.out)
        clear HH k0 k2 k3 k4 k5 k6 k7
        go_wp2_with fail
        refine HP.out.mono ?_
        rintro e w4 ⟨rfl, h⟩
        have HH := Lib.hid ((h.newBlk 30 #[.int .i64 0, .int .i64 0, .int .u64 0, .string ⟨#[]⟩, .slice none 0 0]).turn (a' := sepT T (sepT (blkT W.heap.size 58 #[.int .i64 kind, .int .i64 m, .int .i64 tag, .int .i64 num, .int .u64 bits, .string s, .slice A2 lay.length c2, .slice A3 l.length c3]) (sepT (blkT w4.heap.size 30 #[.int .i64 0, .int .i64 0, .int .u64 0, .string ⟨#[]⟩, .slice none 0 0]) (sepT (blkT w2.heap.size 30 #[.int .i64 0, .int .i64 0, .int .u64 0, .string ⟨#[]⟩, .slice none 0 0]) S)))) (by ac_rfl))
        clear h HP k1
        have HP := Lib.hid (where_fail HT.out HH.out)
        clear HH
        go_wp2_with fail
        refine HP.out.mono ?_
        rintro e w5 ⟨rfl, h⟩
        have HH := Lib.hid h
        clear h HP
        have bx := HH.out.drop.drop.blk.1
        have by_ := HH.out.drop.drop.drop.blk.1
        have x0 := bx.cell 0
        have x1 := bx.cell 1
        have x2 := bx.cell 2
        have x3 := bx.cell 3
        have x4 := bx.cell 4
        have y0 := by_.cell 0
        have y1 := by_.cell 1
        have y2 := by_.cell 2
        have y3 := by_.cell 3
        have y4 := by_.cell 4
        simp at x0 x1 x2 x3 x4 y0 y1 y2 y3 y4
        have HP : Hid (Calls Try.prog 35 #[.agg #[.int .i64 0, .int .i64 0, .int .u64 0, .string ⟨#[]⟩, .slice none 0 0], .agg #[.int .i64 0, .int .i64 0, .int .u64 0, .string ⟨#[]⟩, .slice none 0 0]] w5 fun e w' => e = .returned (.bool true) ∧ Lies W.heap.size W w' (sepT T (sepT (blkT W.heap.size 58 #[.int .i64 kind, .int .i64 m, .int .i64 tag, .int .i64 num, .int .u64 bits, .string s, .slice A2 lay.length c2, .slice A3 l.length c3]) (sepT (blkT w4.heap.size 30 #[.int .i64 0, .int .i64 0, .int .u64 0, .string ⟨#[]⟩, .slice none 0 0]) (sepT (blkT w2.heap.size 30 #[.int .i64 0, .int .i64 0, .int .u64 0, .string ⟨#[]⟩, .slice none 0 0]) S))))) := Lib.hid ((sameV_all (v := Val.zero) (u := Val.zero) HH.out ⟨none, 0, rfl, Reads.none_, zero_ok⟩ ⟨none, 0, rfl, Reads.none_, zero_ok⟩).mono fun e w' h => ⟨by rw [h.1, decide_eq_true rfl], h.2⟩)
        clear HH bx by_
        go_wp2_with fail
        refine HP.out.mono ?_
        rintro e w6 ⟨rfl, h⟩
        have HH := Lib.hid h
        clear h HP x0 x1 x2 x3 x4 y0 y1 y2 y3 y4
        have y0 : w6.cell? ⟨w2.heap.size, 0, none⟩ = some (.int .i64 0) := HH.out.drop.drop.drop.blk.1.cell 0
        have kk := HA.out _ _ HH.out
        obtain ⟨k0, k1, k2, k3, k4, k5, k6, k7⟩ := kk
        have HP := Lib.hid (call_none HT.out m (.slice A3 l.length c3) HH.out)
        try simp only [Val.go] at HP
        clear HH
        go_wp2_with fail
        refine HP.out.mono ?_
        rintro e w7 ⟨rfl, h⟩
        have HH := Lib.hid h
        clear h HP k0 k1 k2 k3 k4 k5 k6 k7 y0
        have kk := HA.out _ _ HH.out
        obtain ⟨k0, k1, k2, k3, k4, k5, k6, k7⟩ := kk
        have HP := Lib.hid (return_fail HT.out HH.out)
        try simp only [Val.go] at HP
        clear HH
        go_wp2_with fail
        refine HP.out.mono ?_
        rintro e w8 ⟨rfl, h⟩
        have HH := Lib.hid h
        clear h HP k0 k1 k2 k3 k4 k5 k6 k7
        have kk := HA.out _ _ HH.out
        obtain ⟨k0, k1, k2, k3, k4, k5, k6, k7⟩ := kk
        have HP := Lib.hid (push_fail HT.out ⟨tag, num, bits, s, lay⟩ A2 c2 HH.out)
        try simp only [Val.go] at HP
        clear HH
        go_wp2_with fail
        refine HP.out.mono ?_
        rintro e w9 ⟨rfl, h⟩
        have HH := Lib.hid h
        clear h HP k0 k1 k2 k3 k4 k5 k6 k7
        have kk := HA.out _ _ HH.out
        obtain ⟨k0, k1, k2, k3, k4, k5, k6, k7⟩ := kk
        have HP := Lib.hid (set_fail HT.out m ⟨tag, num, bits, s, lay⟩ A2 c2 HH.out)
        try simp only [Val.go] at HP
        clear HH
        go_wp2_with fail
        refine HP.out.mono ?_
        rintro e w10 ⟨rfl, h⟩
        have HH := Lib.hid h
        clear h HP k0 k1 k2 k3 k4 k5 k6 k7
        have kk := HA.out _ _ HH.out
        obtain ⟨k0, k1, k2, k3, k4, k5, k6, k7⟩ := kk
        have HP := Lib.hid (jump_fail HT.out m HH.out)
        try simp only [Val.go] at HP
        clear HH
        go_wp2_with fail
        refine HP.out.mono ?_
        rintro e w11 ⟨rfl, h⟩
        have HH := Lib.hid h
        clear h HP k0 k1 k2 k3 k4 k5 k6 k7
        have kk := HA.out _ _ HH.out
        obtain ⟨k0, k1, k2, k3, k4, k5, k6, k7⟩ := kk
        have HP := Lib.hid (calls_none HT.out HH.out)
        try simp only [Val.go] at HP
        clear HH
        go_wp2_with fail
        refine HP.out.mono ?_
        rintro e w12 ⟨rfl, h⟩
        have HH := Lib.hid h
        clear h HP k0 k1 k2 k3 k4 k5 k6 k7
        have kk := HA.out _ _ HH.out
        obtain ⟨k0, k1, k2, k3, k4, k5, k6, k7⟩ := kk
        have HP := Lib.hid (height_fail HT.out HH.out)
        try simp only [Val.go] at HP
        clear HH
        go_wp2_with fail
        refine HP.out.mono ?_
        rintro e w13 ⟨rfl, h⟩
        have HH := Lib.hid h
        clear h HP k0 k1 k2 k3 k4 k5 k6 k7
        have kk := HA.out _ _ HH.out
        obtain ⟨k0, k1, k2, k3, k4, k5, k6, k7⟩ := kk
        have HP := Lib.hid (values_none HT.out HH.out)
        try simp only [Val.go] at HP
        clear HH
        go_wp2_with fail
        refine HP.out.mono ?_
        rintro e w14 ⟨rfl, h⟩
        have HH := Lib.hid h
        clear h HP k0 k1 k2 k3 k4 k5 k6 k7
        have kk := HA.out _ _ HH.out
        obtain ⟨k0, k1, k2, k3, k4, k5, k6, k7⟩ := kk
        go_wp2_with fail
        go_roundw
        case rel =>
          refine ⟨i + 1, by go_num, by omega, ?_⟩
          rw [HW.out]
          exact (HH.out.turn (a' := sepT (blkT w4.heap.size 30 #[.int .i64 0, .int .i64 0, .int .u64 0, .string ⟨#[]⟩, .slice none 0 0]) (sepT (blkT w2.heap.size 30 #[.int .i64 0, .int .i64 0, .int .u64 0, .string ⟨#[]⟩, .slice none 0 0]) (sepT T (sepT (blkT W.heap.size 58 #[.int .i64 kind, .int .i64 m, .int .i64 tag, .int .i64 num, .int .u64 bits, .string s, .slice A2 lay.length c2, .slice A3 l.length c3]) S)))) (by ac_rfl)).drop.drop
        case measure => simp [intOf]; omega
      · have hlt' : ¬ (i : Int) < 2 := by omega
        have HK := Lib.hid (awake_any hh)
        clear hh
        go_wp2_with fail
        refine HK.out.mono ?_
        rintro e w2 ⟨rfl, h⟩
        have HF := Lib.hid h
        clear h HK
        go_wp2_with fail
        go_ret
        exact ⟨rfl, HF.out.below⟩
section
open Go.ChangeShapes Go.WideShapes Go.ChangeAt
set_option maxRecDepth 100000 in
theorem open_act {H : Type} {enc : TypeId × Value → H} {W : World} {base : Nat} {v : Value} {d : DataW H} {p : List MemPlace} (hv : Value.okWide Try.prog W .any base 58 v)
    (h : DataW.Trod enc Try.prog W 0 (fun _ => true) true 58 v d p) : ∃ z : ActD, v = .agg z.cs.toArray ∧ z.In W := by
  obtain ⟨cs, rfl, hsz⟩ := okWide_struct Try.underlying58 hv
  obtain ⟨fuel, hf⟩ := h
  obtain ⟨z, hz, hi⟩ := rd_act hf
  have hz' : cs.toList = z.cs := hz
  exact ⟨z, by rw [← hz'], hi⟩
end
end Go.Proofs.Ytiaeckljpdhagaa
