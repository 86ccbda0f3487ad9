/- The document's Check and Line. Printed by mkx.py. -/
import Derived.Test.YtclejidkahpemaaDoorLiCheck
import Derived.Deep.CutBlock
namespace Go.Proofs.YtclejidkahpemaaDoor
open Go.RowKit
set_option linter.unusedVariables false
set_option linter.unusedSimpArgs false
attribute [local irreducible] ByteArray.extract ByteArray.toList
attribute [local go_sem] Oper.semAt_some run_store_func run_store_nilFunc
def RetK (c : Cm) (w : World) (e : Ending) (w' : World) : Prop := e = .returned (.int .i64 (checkL c)) ∧ Below w.heap.size w w'
theorem all_of_ok {k : Nat} {l : List UInt8} (h : ∀ j, j < l.length → mayL k (l.getD j 0) = true) : l.all (mayL k) = true := by
  rw [List.all_eq_true]
  intro x hx
  obtain ⟨j, hj, rfl⟩ := List.getElem_of_mem hx
  have := h j hj
  rw [List.getD_eq_getElem?_getD, List.getElem?_eq_getElem hj] at this
  exact this
theorem not_all_of {k : Nat} {l : List UInt8} {j : Nat} (hj : j < l.length) (h : mayL k (l.getD j 0) = false) : l.all (mayL k) = false := by
  rw [List.all_eq_false]
  refine ⟨l[j], List.getElem_mem hj, ?_⟩
  rw [List.getD_eq_getElem?_getD, List.getElem?_eq_getElem hj] at h
  simp only [Option.getD_some] at h
  rw [h]; simp
theorem check_good {c : Cm} {k : Nat} (h : kindL c.word = k) (hk : k = 1 ∨ k = 2 ∨ k = 3) (hg : (k = 3 → c.text = []) ∧ (k ≠ 3 → c.n = 0)) : checkL c = if (restL c).all (mayL k) = true ∧ fitsL k (restL c) = true then 0 else 2 := by
  unfold checkL
  rw [h, if_neg (by rcases hk with rfl | rfl | rfl <;> simp [hg.1, hg.2]), if_neg (by omega)]
  by_cases h1 : (restL c).all (mayL k) = true <;> simp [h1]
theorem rest_len (c : Cm) (h0 : -9223372036854775808 ≤ c.n) (h1 : c.n ≤ 9223372036854775807) (hs : c.text.length ≤ 140737488351232) : (restL c).length ≤ 140737488351232 := by
  unfold restL
  split
  · have := text_len c.n h0 h1; omega
  · exact hs
theorem fits_long {k : Nat} {l : List UInt8} (hk : k = 1 ∨ k = 2) (h : 4000 < l.length) : fitsL k l = false := by
  unfold fitsL
  rcases hk with rfl | rfl
  · rw [if_pos rfl]; simp; omega
  · rw [if_neg (by decide), if_pos rfl]; simp; omega
set_option maxRecDepth 100000 in
set_option maxHeartbeats 3200000 in
theorem xcheck_1 (c : Cm) (hk : kindL c.word = 1) (hn : c.n = 0) (h0 : -9223372036854775808 ≤ c.n) (h1 : c.n ≤ 9223372036854775807) (hs : c.text.length ≤ 140737488351232) (w : World) : Calls Tryd.prog 13 #[cmV c] w (RetK c w) := by
  have hb1 := Below.refl w.heap.size w |>.alloc (Nat.le_refl _) (.cells (cmA c) 23)
  have HK := Lib.hid (xkind_any c.word (w.alloc (.cells (cmA c) 23)))
  rw [hk] at HK
  have HRe := Lib.hid (xrest_any c h0 h1 (w.alloc (.cells (cmA c) 23)))
  have hrl : (restL c).length ≤ 140737488351232 := by
    exact rest_len c h0 h1 hs
  have hlong : 4000 < (restL c).length → fitsL 1 (restL c) = false := by
    intro h
    exact fits_long (.inl rfl) h
  have HLong := Lib.hid hlong
  have HCk := Lib.hid (check_good hk (by decide) ⟨fun h => (by cases h), fun _ => hn⟩)
  have HM : Hid (∀ ch W, Calls Tryd.prog 27 #[.int .i64 1, .int .u8 (UInt8.toNat ch)] W (RetQ (.bool (mayL 1 ch)) W)) := Lib.hid fun ch W => xmay_any 1 (by decide) ch W
  have HF : Hid (∀ W, Calls Tryd.prog 28 #[.int .i64 1, .string (sOf (restL c))] W (RetQ (.bool (fitsL 1 (restL c))) W)) := Lib.hid fun W => xfits_any 1 (by decide) (restL c) hrl W
  have HB1 := Lib.hid hb1
  generalize restL c = rl at *
  obtain ⟨wd, t, n⟩ := c
  unfold cmV cmA at HRe
  unfold cmA at HK HB1
  simp only at HK HB1 HRe hn
  unfold cmV cmA
  simp only
  have hsz : (sOf rl).size = rl.length := sOf_size rl
  have HSz := Lib.hid hsz
  have hbz : (sOf rl).size ≤ 140737488351232 := by omega
  subst hn
  skip
  clear hb1 hk h0 h1 hs hrl hlong hsz
  go_enter Tryd.func13, Tryd.ntmps13
  go_wp2_with fail
  refine HK.out.mono ?_
  rintro e w1 ⟨rfl, rfl⟩
  go_wp2_with fail
  refine HRe.out.mono ?_
  rintro e w2 ⟨rfl, hb⟩
  have HBw := Lib.hid (HB1.out.trans (hb.mono HB1.out.size))
  clear hb HB1 HRe HK
  go_upto_block 0 with fail
  go_cut [5] from 6 (fun v5 wx => wx = w2 ∧ ∃ i : Nat, okTo 1 (sOf rl) i ∧ (i = (sOf rl).size ∨ 4000 < i ∧ i ≤ (sOf rl).size))
  case first =>
    go_wp2_with fail
    go_loopw [5] (fun ix wr => wr = w2 ∧ ∃ i : Nat, ix = .int .i64 i ∧ okTo 1 (sOf rl) i ∧ i ≤ (sOf rl).size) (fun ix _ => (sOf rl).size - (intOf ix).toNat)
    case atStart => exact ⟨rfl, 0, rfl, fun j hj => absurd hj (Nat.not_lt_zero j), Nat.zero_le _⟩
    case round =>
      obtain ⟨rfl, i, rfl, hok, hi⟩ := hrel
      have HOk := Lib.hid hok
      clear hok
      by_cases hlt : i < (sOf rl).size
      · have hlt' : (i : Int) < ((sOf rl).size : Int) := by omega
        by_cases h4 : i ≤ 4000
        · have h4' : (i : Int) ≤ 4000 := by omega
          have hby := byte_at (sOf rl) i hlt
          have HBy := Lib.hid hby
          have HMi := Lib.hid (HM.out ((sOf rl)[i]) wr)
          cases hm : mayL 1 ((sOf rl)[i]) with
          | true =>
            rw [hm] at HMi
            have HMt := Lib.hid hm
            clear hm hby
            go_wp2_with fail
            refine HMi.out.mono ?_
            rintro e w3 ⟨rfl, rfl⟩
            go_wp2_with fail
            refine ⟨⟨by trivial, i + 1, by go_num, fun j hj => ?_, by omega⟩, by simp [intOf]; omega⟩
            rcases Nat.lt_succ_iff_lt_or_eq.1 hj with h | rfl
            · exact HOk.out j h
            · rw [HBy.out]; exact HMt.out
          | false =>
            rw [hm] at HMi
            have hna := not_all_of (k := 1) (l := rl) (j := i) (by rw [← HSz.out]; exact hlt) (by have := HBy.out; rw [sOf_list] at this; rw [this]; exact hm)
            have HNa := Lib.hid hna
            clear hm hby hna
            go_wp2_with fail
            refine HMi.out.mono ?_
            rintro e w3 ⟨rfl, rfl⟩
            go_wp2_with fail
            go_ret
            exact ⟨by rw [HCk.out, if_neg (by rw [HNa.out]; simp)]; rfl, HBw.out⟩
        · have h4' : ¬ (i : Int) ≤ 4000 := by omega
          go_wp2_with fail
          go_meet
          case rel => exact ⟨rfl, i, HOk.out, .inr ⟨by omega, hi⟩⟩
      · have hlt' : ¬ (i : Int) < ((sOf rl).size : Int) := by omega
        go_wp2_with fail
        go_meet
        case rel => exact ⟨rfl, i, HOk.out, .inl (by omega)⟩
  case rest =>
    obtain ⟨rfl, i, hok, hi⟩ := hcut
    have HOk := Lib.hid hok
    have HFi := Lib.hid (HF.out wc)
    clear hok
    cases hf : fitsL 1 rl with
    | true =>
      rw [hf] at HFi
      have hall : rl.all (mayL 1) = true := by
        refine all_of_ok fun j hj => ?_
        have : i = (sOf rl).size := by
          rcases hi with h | ⟨h, h2⟩
          · exact h
          · have := HLong.out (by have := HSz.out; omega)
            rw [hf] at this; cases this
        have := HOk.out j (by rw [this, HSz.out]; exact hj)
        rw [sOf_list] at this
        exact this
      have HAl := Lib.hid (And.intro hall hf)
      clear hall hf hi
      go_wp2_with fail
      refine HFi.out.mono ?_
      rintro e w3 ⟨rfl, rfl⟩
      go_wp2_with fail
      go_ret
      exact ⟨by rw [HCk.out, if_pos HAl.out]; rfl, HBw.out⟩
    | false =>
      rw [hf] at HFi
      have HAl := Lib.hid hf
      clear hf hi
      go_wp2_with fail
      refine HFi.out.mono ?_
      rintro e w3 ⟨rfl, rfl⟩
      go_wp2_with fail
      go_ret
      exact ⟨by rw [HCk.out, if_neg (by rw [HAl.out]; simp)]; rfl, HBw.out⟩
set_option maxRecDepth 100000 in
set_option maxHeartbeats 3200000 in
theorem xcheck_2 (c : Cm) (hk : kindL c.word = 2) (hn : c.n = 0) (h0 : -9223372036854775808 ≤ c.n) (h1 : c.n ≤ 9223372036854775807) (hs : c.text.length ≤ 140737488351232) (w : World) : Calls Tryd.prog 13 #[cmV c] w (RetK c w) := by
  have hb1 := Below.refl w.heap.size w |>.alloc (Nat.le_refl _) (.cells (cmA c) 23)
  have HK := Lib.hid (xkind_any c.word (w.alloc (.cells (cmA c) 23)))
  rw [hk] at HK
  have HRe := Lib.hid (xrest_any c h0 h1 (w.alloc (.cells (cmA c) 23)))
  have hrl : (restL c).length ≤ 140737488351232 := by
    exact rest_len c h0 h1 hs
  have hlong : 4000 < (restL c).length → fitsL 2 (restL c) = false := by
    intro h
    exact fits_long (.inr rfl) h
  have HLong := Lib.hid hlong
  have HCk := Lib.hid (check_good hk (by decide) ⟨fun h => (by cases h), fun _ => hn⟩)
  have HM : Hid (∀ ch W, Calls Tryd.prog 27 #[.int .i64 2, .int .u8 (UInt8.toNat ch)] W (RetQ (.bool (mayL 2 ch)) W)) := Lib.hid fun ch W => xmay_any 2 (by decide) ch W
  have HF : Hid (∀ W, Calls Tryd.prog 28 #[.int .i64 2, .string (sOf (restL c))] W (RetQ (.bool (fitsL 2 (restL c))) W)) := Lib.hid fun W => xfits_any 2 (by decide) (restL c) hrl W
  have HB1 := Lib.hid hb1
  generalize restL c = rl at *
  obtain ⟨wd, t, n⟩ := c
  unfold cmV cmA at HRe
  unfold cmA at HK HB1
  simp only at HK HB1 HRe hn
  unfold cmV cmA
  simp only
  have hsz : (sOf rl).size = rl.length := sOf_size rl
  have HSz := Lib.hid hsz
  have hbz : (sOf rl).size ≤ 140737488351232 := by omega
  subst hn
  skip
  clear hb1 hk h0 h1 hs hrl hlong hsz
  go_enter Tryd.func13, Tryd.ntmps13
  go_wp2_with fail
  refine HK.out.mono ?_
  rintro e w1 ⟨rfl, rfl⟩
  go_wp2_with fail
  refine HRe.out.mono ?_
  rintro e w2 ⟨rfl, hb⟩
  have HBw := Lib.hid (HB1.out.trans (hb.mono HB1.out.size))
  clear hb HB1 HRe HK
  go_upto_block 0 with fail
  go_cut [5] from 6 (fun v5 wx => wx = w2 ∧ ∃ i : Nat, okTo 2 (sOf rl) i ∧ (i = (sOf rl).size ∨ 4000 < i ∧ i ≤ (sOf rl).size))
  case first =>
    go_wp2_with fail
    go_loopw [5] (fun ix wr => wr = w2 ∧ ∃ i : Nat, ix = .int .i64 i ∧ okTo 2 (sOf rl) i ∧ i ≤ (sOf rl).size) (fun ix _ => (sOf rl).size - (intOf ix).toNat)
    case atStart => exact ⟨rfl, 0, rfl, fun j hj => absurd hj (Nat.not_lt_zero j), Nat.zero_le _⟩
    case round =>
      obtain ⟨rfl, i, rfl, hok, hi⟩ := hrel
      have HOk := Lib.hid hok
      clear hok
      by_cases hlt : i < (sOf rl).size
      · have hlt' : (i : Int) < ((sOf rl).size : Int) := by omega
        by_cases h4 : i ≤ 4000
        · have h4' : (i : Int) ≤ 4000 := by omega
          have hby := byte_at (sOf rl) i hlt
          have HBy := Lib.hid hby
          have HMi := Lib.hid (HM.out ((sOf rl)[i]) wr)
          cases hm : mayL 2 ((sOf rl)[i]) with
          | true =>
            rw [hm] at HMi
            have HMt := Lib.hid hm
            clear hm hby
            go_wp2_with fail
            refine HMi.out.mono ?_
            rintro e w3 ⟨rfl, rfl⟩
            go_wp2_with fail
            refine ⟨⟨by trivial, i + 1, by go_num, fun j hj => ?_, by omega⟩, by simp [intOf]; omega⟩
            rcases Nat.lt_succ_iff_lt_or_eq.1 hj with h | rfl
            · exact HOk.out j h
            · rw [HBy.out]; exact HMt.out
          | false =>
            rw [hm] at HMi
            have hna := not_all_of (k := 2) (l := rl) (j := i) (by rw [← HSz.out]; exact hlt) (by have := HBy.out; rw [sOf_list] at this; rw [this]; exact hm)
            have HNa := Lib.hid hna
            clear hm hby hna
            go_wp2_with fail
            refine HMi.out.mono ?_
            rintro e w3 ⟨rfl, rfl⟩
            go_wp2_with fail
            go_ret
            exact ⟨by rw [HCk.out, if_neg (by rw [HNa.out]; simp)]; rfl, HBw.out⟩
        · have h4' : ¬ (i : Int) ≤ 4000 := by omega
          go_wp2_with fail
          go_meet
          case rel => exact ⟨rfl, i, HOk.out, .inr ⟨by omega, hi⟩⟩
      · have hlt' : ¬ (i : Int) < ((sOf rl).size : Int) := by omega
        go_wp2_with fail
        go_meet
        case rel => exact ⟨rfl, i, HOk.out, .inl (by omega)⟩
  case rest =>
    obtain ⟨rfl, i, hok, hi⟩ := hcut
    have HOk := Lib.hid hok
    have HFi := Lib.hid (HF.out wc)
    clear hok
    cases hf : fitsL 2 rl with
    | true =>
      rw [hf] at HFi
      have hall : rl.all (mayL 2) = true := by
        refine all_of_ok fun j hj => ?_
        have : i = (sOf rl).size := by
          rcases hi with h | ⟨h, h2⟩
          · exact h
          · have := HLong.out (by have := HSz.out; omega)
            rw [hf] at this; cases this
        have := HOk.out j (by rw [this, HSz.out]; exact hj)
        rw [sOf_list] at this
        exact this
      have HAl := Lib.hid (And.intro hall hf)
      clear hall hf hi
      go_wp2_with fail
      refine HFi.out.mono ?_
      rintro e w3 ⟨rfl, rfl⟩
      go_wp2_with fail
      go_ret
      exact ⟨by rw [HCk.out, if_pos HAl.out]; rfl, HBw.out⟩
    | false =>
      rw [hf] at HFi
      have HAl := Lib.hid hf
      clear hf hi
      go_wp2_with fail
      refine HFi.out.mono ?_
      rintro e w3 ⟨rfl, rfl⟩
      go_wp2_with fail
      go_ret
      exact ⟨by rw [HCk.out, if_neg (by rw [HAl.out]; simp)]; rfl, HBw.out⟩
set_option maxRecDepth 100000 in
set_option maxHeartbeats 3200000 in
theorem xcheck_3 (c : Cm) (hk : kindL c.word = 3) (ht : c.text = []) (h0 : -9223372036854775808 ≤ c.n) (h1 : c.n ≤ 9223372036854775807) (hs : c.text.length ≤ 140737488351232) (w : World) : Calls Tryd.prog 13 #[cmV c] w (RetK c w) := by
  have hb1 := Below.refl w.heap.size w |>.alloc (Nat.le_refl _) (.cells (cmA c) 23)
  have HK := Lib.hid (xkind_any c.word (w.alloc (.cells (cmA c) 23)))
  rw [hk] at HK
  have HRe := Lib.hid (xrest_any c h0 h1 (w.alloc (.cells (cmA c) 23)))
  have hrl : (restL c).length ≤ 140737488351232 := by
    exact rest_len c h0 h1 hs
  have hlong : 4000 < (restL c).length → fitsL 3 (restL c) = false := by
    intro h
    unfold restL at h; rw [if_pos hk] at h
    have := text_len c.n h0 h1; omega
  have HLong := Lib.hid hlong
  have HCk := Lib.hid (check_good hk (by decide) ⟨fun _ => ht, fun h => absurd rfl h⟩)
  have HM : Hid (∀ ch W, Calls Tryd.prog 27 #[.int .i64 3, .int .u8 (UInt8.toNat ch)] W (RetQ (.bool (mayL 3 ch)) W)) := Lib.hid fun ch W => xmay_any 3 (by decide) ch W
  have HF : Hid (∀ W, Calls Tryd.prog 28 #[.int .i64 3, .string (sOf (restL c))] W (RetQ (.bool (fitsL 3 (restL c))) W)) := Lib.hid fun W => xfits_any 3 (by decide) (restL c) hrl W
  have HB1 := Lib.hid hb1
  generalize restL c = rl at *
  obtain ⟨wd, t, n⟩ := c
  unfold cmV cmA at HRe
  unfold cmA at HK HB1
  simp only at HK HB1 HRe ht
  unfold cmV cmA
  simp only
  have hsz : (sOf rl).size = rl.length := sOf_size rl
  have HSz := Lib.hid hsz
  have hbz : (sOf rl).size ≤ 140737488351232 := by omega
  subst ht
  rw [show sOf [] = ⟨#[]⟩ from rfl] at *
  clear hb1 hk h0 h1 hs hrl hlong hsz
  go_enter Tryd.func13, Tryd.ntmps13
  go_wp2_with fail
  refine HK.out.mono ?_
  rintro e w1 ⟨rfl, rfl⟩
  go_wp2_with fail
  refine HRe.out.mono ?_
  rintro e w2 ⟨rfl, hb⟩
  have HBw := Lib.hid (HB1.out.trans (hb.mono HB1.out.size))
  clear hb HB1 HRe HK
  go_upto_block 0 with fail
  go_cut [5] from 6 (fun v5 wx => wx = w2 ∧ ∃ i : Nat, okTo 3 (sOf rl) i ∧ (i = (sOf rl).size ∨ 4000 < i ∧ i ≤ (sOf rl).size))
  case first =>
    go_wp2_with fail
    go_loopw [5] (fun ix wr => wr = w2 ∧ ∃ i : Nat, ix = .int .i64 i ∧ okTo 3 (sOf rl) i ∧ i ≤ (sOf rl).size) (fun ix _ => (sOf rl).size - (intOf ix).toNat)
    case atStart => exact ⟨rfl, 0, rfl, fun j hj => absurd hj (Nat.not_lt_zero j), Nat.zero_le _⟩
    case round =>
      obtain ⟨rfl, i, rfl, hok, hi⟩ := hrel
      have HOk := Lib.hid hok
      clear hok
      by_cases hlt : i < (sOf rl).size
      · have hlt' : (i : Int) < ((sOf rl).size : Int) := by omega
        by_cases h4 : i ≤ 4000
        · have h4' : (i : Int) ≤ 4000 := by omega
          have hby := byte_at (sOf rl) i hlt
          have HBy := Lib.hid hby
          have HMi := Lib.hid (HM.out ((sOf rl)[i]) wr)
          cases hm : mayL 3 ((sOf rl)[i]) with
          | true =>
            rw [hm] at HMi
            have HMt := Lib.hid hm
            clear hm hby
            go_wp2_with fail
            refine HMi.out.mono ?_
            rintro e w3 ⟨rfl, rfl⟩
            go_wp2_with fail
            refine ⟨⟨by trivial, i + 1, by go_num, fun j hj => ?_, by omega⟩, by simp [intOf]; omega⟩
            rcases Nat.lt_succ_iff_lt_or_eq.1 hj with h | rfl
            · exact HOk.out j h
            · rw [HBy.out]; exact HMt.out
          | false =>
            rw [hm] at HMi
            have hna := not_all_of (k := 3) (l := rl) (j := i) (by rw [← HSz.out]; exact hlt) (by have := HBy.out; rw [sOf_list] at this; rw [this]; exact hm)
            have HNa := Lib.hid hna
            clear hm hby hna
            go_wp2_with fail
            refine HMi.out.mono ?_
            rintro e w3 ⟨rfl, rfl⟩
            go_wp2_with fail
            go_ret
            exact ⟨by rw [HCk.out, if_neg (by rw [HNa.out]; simp)]; rfl, HBw.out⟩
        · have h4' : ¬ (i : Int) ≤ 4000 := by omega
          go_wp2_with fail
          go_meet
          case rel => exact ⟨rfl, i, HOk.out, .inr ⟨by omega, hi⟩⟩
      · have hlt' : ¬ (i : Int) < ((sOf rl).size : Int) := by omega
        go_wp2_with fail
        go_meet
        case rel => exact ⟨rfl, i, HOk.out, .inl (by omega)⟩
  case rest =>
    obtain ⟨rfl, i, hok, hi⟩ := hcut
    have HOk := Lib.hid hok
    have HFi := Lib.hid (HF.out wc)
    clear hok
    cases hf : fitsL 3 rl with
    | true =>
      rw [hf] at HFi
      have hall : rl.all (mayL 3) = true := by
        refine all_of_ok fun j hj => ?_
        have : i = (sOf rl).size := by
          rcases hi with h | ⟨h, h2⟩
          · exact h
          · have := HLong.out (by have := HSz.out; omega)
            rw [hf] at this; cases this
        have := HOk.out j (by rw [this, HSz.out]; exact hj)
        rw [sOf_list] at this
        exact this
      have HAl := Lib.hid (And.intro hall hf)
      clear hall hf hi
      go_wp2_with fail
      refine HFi.out.mono ?_
      rintro e w3 ⟨rfl, rfl⟩
      go_wp2_with fail
      go_ret
      exact ⟨by rw [HCk.out, if_pos HAl.out]; rfl, HBw.out⟩
    | false =>
      rw [hf] at HFi
      have HAl := Lib.hid hf
      clear hf hi
      go_wp2_with fail
      refine HFi.out.mono ?_
      rintro e w3 ⟨rfl, rfl⟩
      go_wp2_with fail
      go_ret
      exact ⟨by rw [HCk.out, if_neg (by rw [HAl.out]; simp)]; rfl, HBw.out⟩
theorem checkbad {c : Cm} (h : kindL c.word = 0 ∨ (kindL c.word ≠ 3 ∧ c.n ≠ 0) ∨ ((kindL c.word = 3 ∨ kindL c.word = 4) ∧ c.text ≠ [])) : checkL c = 2 := if_pos h
set_option maxRecDepth 100000 in
set_option maxHeartbeats 3200000 in
theorem xcheck_rest (c : Cm) (hb : kindL c.word = 0 ∨ kindL c.word = 4 ∨ ((kindL c.word = 1 ∨ kindL c.word = 2) ∧ c.n ≠ 0) ∨ (kindL c.word = 3 ∧ c.text ≠ [])) (w : World) : Calls Tryd.prog 13 #[cmV c] w (RetK c w) := by
  have hb1 := Below.refl w.heap.size w |>.alloc (Nat.le_refl _) (.cells (cmA c) 23)
  have HK := Lib.hid (xkind_any c.word (w.alloc (.cells (cmA c) 23)))
  have HB1 := Lib.hid hb1
  have HE : Hid (checkL c = if kindL c.word = 4 ∧ c.n = 0 ∧ c.text = [] then 0 else 2) := by
    refine Lib.hid ?_
    by_cases h4 : kindL c.word = 4
    · rw [check4 h4]
      by_cases h1 : c.text = [] <;> by_cases h2 : c.n = 0 <;> simp [h1, h2, h4]
    · rw [if_neg (fun h => h4 h.1), checkbad]
      rcases hb with h | h | ⟨h, h2⟩ | ⟨h, h2⟩
      · exact .inl h
      · exact absurd h h4
      · exact .inr (.inl ⟨by omega, h2⟩)
      · exact .inr (.inr ⟨.inl h, h2⟩)
  obtain ⟨ck, hck⟩ : ∃ ck, ck = checkL c := ⟨_, rfl⟩
  unfold RetK
  rw [← hck] at HE ⊢
  clear hck
  obtain ⟨wd, t, n⟩ := c
  unfold cmA at HK HB1
  simp only at HK HB1 hb HE
  unfold cmV cmA
  simp only
  generalize kindL wd = k at *
  clear hb1
  have key : (k = 0) ∨ (k = 4 ∧ n ≠ 0) ∨ (k = 4 ∧ n = 0 ∧ t ≠ []) ∨ (k = 4 ∧ n = 0 ∧ t = []) ∨ (k = 1 ∧ n ≠ 0) ∨ (k = 2 ∧ n ≠ 0) ∨ (k = 3 ∧ t ≠ []) := by
    rcases hb with h | h | ⟨h | h, h2⟩ | ⟨h, h2⟩
    · exact .inl h
    · by_cases hn : n = 0 <;> by_cases ht : t = [] <;> simp [h, hn, ht]
    · simp [h, h2]
    · simp [h, h2]
    · simp [h, h2]
  clear hb
  rcases key with rfl | ⟨rfl, hn⟩ | ⟨rfl, rfl, ht⟩ | ⟨rfl, rfl, rfl⟩ | ⟨rfl, hn⟩ | ⟨rfl, hn⟩ | ⟨rfl, ht⟩
  · skip
    go_enter Tryd.func13, Tryd.ntmps13
    go_wp2_with fail
    refine HK.out.mono ?_
    rintro e w1 ⟨rfl, rfl⟩
    go_wp2_with fail
    go_ret
    exact ⟨by rw [HE.out]; rfl, HB1.out⟩
  · skip
    have hn' : (n == 0) = false := by simpa using hn
    go_enter Tryd.func13, Tryd.ntmps13
    go_wp2_with fail
    refine HK.out.mono ?_
    rintro e w1 ⟨rfl, rfl⟩
    go_wp2_with fail
    go_ret
    exact ⟨by rw [HE.out]; rw [if_neg (fun h => hn h.2.1)]; rfl, HB1.out⟩
  · skip
    have ht' : ((sOf t).toList == []) = false := by rw [sOf_toList]; simpa using ht
    go_enter Tryd.func13, Tryd.ntmps13
    go_wp2_with fail
    refine HK.out.mono ?_
    rintro e w1 ⟨rfl, rfl⟩
    go_wp2_with fail
    go_ret
    exact ⟨by rw [HE.out]; rw [if_neg (fun h => ht h.2.2)]; rfl, HB1.out⟩
  · skip
    rw [show sOf [] = ⟨#[]⟩ from rfl] at *
    go_enter Tryd.func13, Tryd.ntmps13
    go_wp2_with fail
    refine HK.out.mono ?_
    rintro e w1 ⟨rfl, rfl⟩
    go_wp2_with fail
    go_ret
    exact ⟨by rw [HE.out]; rfl, HB1.out⟩
  · skip
    have hn' : (n == 0) = false := by simpa using hn
    go_enter Tryd.func13, Tryd.ntmps13
    go_wp2_with fail
    refine HK.out.mono ?_
    rintro e w1 ⟨rfl, rfl⟩
    go_wp2_with fail
    go_ret
    exact ⟨by rw [HE.out]; rw [if_neg (fun h => hn h.2.1)]; rfl, HB1.out⟩
  · skip
    have hn' : (n == 0) = false := by simpa using hn
    go_enter Tryd.func13, Tryd.ntmps13
    go_wp2_with fail
    refine HK.out.mono ?_
    rintro e w1 ⟨rfl, rfl⟩
    go_wp2_with fail
    go_ret
    exact ⟨by rw [HE.out]; rw [if_neg (fun h => hn h.2.1)]; rfl, HB1.out⟩
  · skip
    have ht' : ((sOf t).toList == []) = false := by rw [sOf_toList]; simpa using ht
    go_enter Tryd.func13, Tryd.ntmps13
    go_wp2_with fail
    refine HK.out.mono ?_
    rintro e w1 ⟨rfl, rfl⟩
    go_wp2_with fail
    go_ret
    exact ⟨by rw [HE.out]; rw [if_neg (fun h => ht h.2.2)]; rfl, HB1.out⟩
theorem xcheck_any (c : Cm) (h0 : -9223372036854775808 ≤ c.n) (h1 : c.n ≤ 9223372036854775807) (hs : c.text.length ≤ 140737488351232) (w : World) : Calls Tryd.prog 13 #[cmV c] w (RetK c w) := by
  have hk := kind_le c.word
  have hc : kindL c.word = 0 ∨ kindL c.word = 1 ∨ kindL c.word = 2 ∨ kindL c.word = 3 ∨ kindL c.word = 4 := by omega
  rcases hc with h | h | h | h | h
  · exact xcheck_rest c (.inl h) w
  · by_cases hn : c.n = 0
    · exact xcheck_1 c h hn h0 h1 hs w
    · exact xcheck_rest c (.inr (.inr (.inl ⟨.inl h, hn⟩))) w
  · by_cases hn : c.n = 0
    · exact xcheck_2 c h hn h0 h1 hs w
    · exact xcheck_rest c (.inr (.inr (.inl ⟨.inr h, hn⟩))) w
  · by_cases ht : c.text = []
    · exact xcheck_3 c h ht h0 h1 hs w
    · exact xcheck_rest c (.inr (.inr (.inr ⟨h, ht⟩))) w
  · exact xcheck_rest c (.inr (.inl h)) w
def loX5 (i : Nat) : Nat := [0, 0, 0, 0, 0, 1, 1, 1].getD i 0
def upX5 (i : Nat) : Nat := [1, 1, 1, 0, 1, 1, 1, 1].getD i 0
set_option maxRecDepth 100000 in
set_option maxHeartbeats 3200000 in
theorem xline_any (c : Cm) (h0 : -9223372036854775808 ≤ c.n) (h1 : c.n ≤ 9223372036854775807) (hs : c.text.length ≤ 140737488351232) (hw : c.word.length ≤ 140737488351232) (w : World) : Calls Tryd.prog 11 #[cmV c] w fun e w' => e = .returned (.tuple #[.string (sOf (lineL c).1), .int .i64 (lineL c).2]) ∧ Below w.heap.size w w' := by
  have hb1 := Below.refl w.heap.size w |>.alloc (Nat.le_refl _) (.cells (cmA c) 23)
  have HC := Lib.hid (xcheck_any c h0 h1 hs (w.alloc (.cells (cmA c) 23)))
  have HRe : Hid (∀ W, Calls Tryd.prog 25 #[cmV c] W (RetS' (restL c) W)) := Lib.hid fun W => xrest_any c h0 h1 W
  have HK : Hid (∀ W, Calls Tryd.prog 24 #[.string (sOf c.word)] W (RetQ (.int .i64 (kindL c.word)) W)) := Lib.hid fun W => xkind_any c.word W
  have HB1 := Lib.hid hb1
  have hrl := rest_len c h0 h1 hs
  obtain ⟨res, hres⟩ : ∃ res, res = lineL c := ⟨_, rfl⟩
  rw [← hres]
  have hres : res = if checkL c ≠ 0 then ([], 2) else if kindL c.word = 4 then (c.word, 0) else (c.word ++ 32 :: restL c, 0) := hres
  unfold RetK at HC
  rcases check_02 c with hck | hck
  · rw [if_neg (by rw [hck]; simp)] at hres
    have HRes := Lib.hid hres
    rw [hck] at HC
    generalize restL c = rl at *
    obtain ⟨wd, t, n⟩ := c
    simp only at hw HK HRe HRes
    unfold cmV cmA at HC HRe
    unfold cmA at HB1
    simp only at HC HB1 HRe
    unfold cmV cmA
    simp only
    clear hb1 hck hres h0 h1 hs
    generalize kindL wd = k at *
    go_enter Tryd.func11, Tryd.ntmps11
    go_wp2_with fail
    refine HC.out.mono ?_
    rintro e w1 ⟨rfl, hb⟩
    have hbx := (Blk.new w 23 #[.string (sOf wd), .string (sOf t), .int .i64 n])
    have hb2 := hbx.below hb hbx.lt
    have hbw := HB1.out.trans (hb.mono HB1.out.size)
    have HKb := Lib.hid (And.intro hb2 hbw)
    have c0 := hb2.cell 0
    have c1 := hb2.cell 1
    have c2 := hb2.cell 2
    simp at c0 c1 c2
    clear hbx hb2 hbw hb
    by_cases h4 : k = 4
    · subst h4
      have HR4 : Hid (res = (wd, 0)) := Lib.hid (by rw [HRes.out, if_pos rfl])
      clear HRe hrl hw
      go_wp2_with fail
      refine (HK.out _).mono ?_
      rintro e w2 ⟨rfl, rfl⟩
      go_wp2_with fail
      go_ret2
      exact ⟨by rw [HR4.out]; rfl, HKb.out.2⟩
    · have HR4 : Hid (res = (wd ++ 32 :: rl, 0)) := Lib.hid (by rw [HRes.out, if_neg h4])
      have h4' : ((k : Int) == 4) = false := by simp; omega
      have hsum1 : ¬ 9223372036854775807 < (sOf wd).size + 1 := by rw [sOf_size]; omega
      have hsum3 : ¬ 9223372036854775807 < (sOf wd).size + 1 + (sOf rl).size := by rw [sOf_size, sOf_size]; omega
      have HSum := Lib.hid (sOf_app (wd ++ [32]) rl)
      have HSm1 := Lib.hid (sOf_app wd [32])
      clear h4 hrl hw
      go_wp2_with fail
      refine (HK.out _).mono ?_
      rintro e w2 ⟨rfl, rfl⟩
      have HR2 := Lib.hid (HRe.out w1.drew)
      go_wp2_with fail
      refine wp_region_text [4] loX5 upX5 (by kernel_rfl) (by kernel_rfl) (by kernel_rfl) (by kernel_rfl) (by kernel_rfl) ?_
      repeat (first | (refine wpTx_now (by rfl) (by rfl) (by rfl) (fun K hK => ?_); go_simp; refine hK _ ?_; clear hK K) | (refine wpTx_late [] (by rfl) (by rfl) (by rfl) (fun K hK => ?_); go_simp; refine hK _ _ ?_; clear hK K))
      refine wpTx_eff (by rfl) (fun K hK => ?_)
      go_simp
      refine HR2.out.mono ?_
      rintro e w3 ⟨rfl, hb⟩
      have hb3 := HKb.out.1.drew.below hb HKb.out.1.drew.lt
      have hbw := HKb.out.2.drew.trans (hb.mono HKb.out.2.size)
      have e0 := hb3.cell 0
      simp at e0
      have HZ := Lib.hid hbw
      refine ⟨_, rfl, hK _ _ (by repeat (first | exact lateOK_nil | refine lateOK_skip (by rfl) ?_ | refine lateOK_cons (by go_simp) ?_)) ?_⟩
      clear hK K hb hb3 hbw
      repeat (refine wpTx_now (by rfl) (by rfl) (by rfl) (fun K hK => ?_); go_simp; refine hK _ ?_; clear hK K)
      refine wpTx_nil ?_
      go_wp2_with fail
      go_ret2
      refine ⟨?_, HZ.out⟩
      rw [HR4.out]
      show Ending.returned (.tuple #[.string ((sOf wd ++ sOf [32]) ++ sOf rl), .int .i64 0]) = _
      rw [HSm1.out, HSum.out, List.append_assoc]
      rfl
  · rw [if_pos (by rw [hck]; decide)] at hres
    have HRes := Lib.hid hres
    rw [hck] at HC
    obtain ⟨wd, t, n⟩ := c
    unfold cmV cmA at HC
    unfold cmA at HB1
    simp only at HC HB1
    unfold cmV cmA
    simp only
    clear hb1 hck hres h0 h1 hs hw hrl
    go_enter Tryd.func11, Tryd.ntmps11
    go_wp2_with fail
    refine HC.out.mono ?_
    rintro e w1 ⟨rfl, hb⟩
    have HZ := Lib.hid (HB1.out.trans (hb.mono HB1.out.size))
    clear hb
    go_wp2_with fail
    go_ret2
    exact ⟨by rw [HRes.out]; rfl, HZ.out⟩
end Go.Proofs.YtclejidkahpemaaDoor
