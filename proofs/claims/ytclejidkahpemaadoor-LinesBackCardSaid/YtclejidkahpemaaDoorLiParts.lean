/- lines.rest, text, hex, number; the document's kind, rest, may, fits. Printed by mkparts.py. -/
import Derived.Test.YtclejidkahpemaaDoorLiWrong
import Derived.Test.YtclejidkahpemaaDoorInReadW2
import Derived.Test.YtclejidkahpemaaDoorInRRead
import Derived.Test.YtclejidkahpemaaDoorInRText
namespace Go.Proofs.YtclejidkahpemaaDoor
open Go.RowKit
set_option linter.unusedVariables false
set_option linter.unusedSimpArgs false
attribute [local irreducible] ByteArray.extract ByteArray.toList
attribute [local go_sem] Oper.semAt_some run_store_func run_store_nilFunc
/-- A command as a value. -/
def cmA (c : Cm) : Array Value := #[.string (sOf c.word), .string (sOf c.text), .int .i64 c.n]
abbrev cmV (c : Cm) : Value := .agg (cmA c)
theorem sOf_list (l : List UInt8) : (sOf l).data.toList = l := rfl
theorem sOf_of (s : ByteArray) : sOf s.data.toList = s := rfl
theorem sOf_toList (l : List UInt8) : (sOf l).toList = l := by rw [ba_toList]; rfl
theorem word_ne {w k : List UInt8} (h : w ≠ k) : ((sOf w).toList == k) = false := by rw [sOf_toList]; simpa using h
theorem kind_num {w : List UInt8} : kindL w = 3 ↔ w ∈ wsNum := by
  have hall : ∀ w ∈ wsNum, w ∉ wsText ∧ w ∉ wsHex := by decide
  unfold kindL
  by_cases h1 : w ∈ wsText
  · rw [if_pos h1]; exact ⟨fun h => by omega, fun h => absurd h1 (hall w h).1⟩
  · rw [if_neg h1]
    by_cases h2 : w ∈ wsHex
    · rw [if_pos h2]; exact ⟨fun h => by omega, fun h => absurd h2 (hall w h).2⟩
    · rw [if_neg h2]
      by_cases h3 : w ∈ wsNum
      · rw [if_pos h3]; exact ⟨fun _ => h3, fun _ => rfl⟩
      · rw [if_neg h3]; exact ⟨fun h => by split at h <;> omega, fun h => absurd h h3⟩
def RetS' (l : List UInt8) (w : World) (e : Ending) (w' : World) : Prop := e = .returned (.string (sOf l)) ∧ Below w.heap.size w w' 
set_option maxRecDepth 100000 in
theorem rest_any (c : Cm) (h0 : -9223372036854775808 ≤ c.n) (h1 : c.n ≤ 9223372036854775807) (w : World) : Calls Tryd.prog 23 #[cmV c] w (RetS' (restL c) w) := by
  obtain ⟨wd, t, n⟩ := c
  unfold restL cmV cmA
  simp only at h0 h1 ⊢
  have hb := Below.refl w.heap.size w |>.alloc (Nat.le_refl _) (.cells #[.string (sOf wd), .string (sOf t), .int .i64 n] 23)
  have HB := Lib.hid hb
  clear hb
  by_cases hk : kindL wd = 3
  · rw [if_pos hk]
    have HT := Lib.hid (itext_any n (w.alloc (.cells #[.string (sOf wd), .string (sOf t), .int .i64 n] 23)) h0 h1)
    have hm := kind_num.1 hk
    simp only [wsNum, List.mem_cons, List.not_mem_nil, or_false] at hm
    clear hk
    rcases hm with rfl | rfl | rfl | rfl
    all_goals
      unfold sOf at HT HB ⊢
      go_enter Tryd.func23, Tryd.ntmps23
      go_wp2_with fail
      refine HT.out.mono ?_
      rintro e w1 ⟨rfl, hb⟩
      have HZ := Lib.hid (HB.out.trans (hb.mono HB.out.size))
      clear hb
      go_wp2_with fail
      go_ret
      exact ⟨rfl, HZ.out⟩
  · rw [if_neg hk]
    have hm : wd ∉ wsNum := fun h => hk (kind_num.2 h)
    simp only [wsNum, List.mem_cons, List.not_mem_nil, or_false, not_or] at hm
    obtain ⟨e1, e2, e3, e4⟩ := hm
    have e1 := word_ne e1
    have e2 := word_ne e2
    have e3 := word_ne e3
    have e4 := word_ne e4
    generalize sOf wd = sw at *
    clear hk
    go_enter Tryd.func23, Tryd.ntmps23
    go_wp2_with fail
    go_ret
    exact ⟨rfl, HB.out⟩
section
variable {W : World} {p : Nat} {u0 u1 u2 : Value}
theorem ftext_any (s : List UInt8) (hs : s.length ≤ 140737488351232) (hb : Blk W p 23 #[u0, u1, u2]) : Calls Tryd.prog 34 #[.pointer (some ⟨p, 0, none⟩), .string (sOf s)] W fun e w' => e = .returned (.bool (fitsL 1 s)) ∧ W.setCell ⟨p, 1, none⟩ (.string (sOf s)) = w' := by
  have c1 := hb.cell 1
  have f1 := hb.frozen 1
  simp at c1
  have hsz : (sOf s).size = s.length := sOf_size s
  unfold fitsL
  rw [if_pos rfl]
  generalize sOf s = b at *
  generalize s.length = n at *
  subst hsz
  clear hb
  by_cases h : b.size ≤ 4000
  · have h' : (b.size : Int) ≤ 4000 := by omega
    go_enter Tryd.func34, Tryd.ntmps34
    go_wp2_with fail
    go_ret
    exact ⟨by simp [h], rfl⟩
  · have h' : ¬ (b.size : Int) ≤ 4000 := by omega
    go_enter Tryd.func34, Tryd.ntmps34
    go_wp2_with fail
    go_ret
    exact ⟨by simp [h], rfl⟩
theorem fhex_any (s : List UInt8) (hs : s.length ≤ 140737488351232) (hb : Blk W p 23 #[u0, u1, u2]) : Calls Tryd.prog 36 #[.pointer (some ⟨p, 0, none⟩), .string (sOf s)] W fun e w' => e = .returned (.bool (fitsL 2 s)) ∧ W.setCell ⟨p, 1, none⟩ (.string (sOf s)) = w' := by
  have c1 := hb.cell 1
  have f1 := hb.frozen 1
  simp at c1
  have hsz : (sOf s).size = s.length := sOf_size s
  unfold fitsL
  rw [if_neg (by decide), if_pos rfl]
  generalize sOf s = b at *
  generalize s.length = n at *
  subst hsz
  clear hb
  by_cases h : b.size ≤ 4000
  · have h' : (b.size : Int) ≤ 4000 := by omega
    have hm : Int.tmod (b.size : Int) 2 = ((b.size % 2 : Nat) : Int) := by rw [Int.tmod_eq_emod_of_nonneg (by omega)]; omega
    have hm2 : ((b.size % 2 : Nat) : Int) = 0 ∨ ((b.size % 2 : Nat) : Int) = 1 := by omega
    obtain ⟨r, hr⟩ : ∃ r, r = ((b.size % 2 : Nat) : Int) := ⟨_, rfl⟩
    rw [← hr] at hm hm2
    have HR := Lib.hid hr
    clear hr
    rcases hm2 with rfl | rfl
    · go_enter Tryd.func36, Tryd.ntmps36
      go_wp2_with fail
      go_ret
      exact ⟨by have := HR.out; simp [h]; omega, rfl⟩
    · go_enter Tryd.func36, Tryd.ntmps36
      go_wp2_with fail
      go_ret
      exact ⟨by have := HR.out; simp [h]; omega, rfl⟩
  · have h' : ¬ (b.size : Int) ≤ 4000 := by omega
    go_enter Tryd.func36, Tryd.ntmps36
    go_wp2_with fail
    go_ret
    exact ⟨by simp [h], rfl⟩
theorem fnum_any (s : List UInt8) (hs : s.length ≤ 140737488351232) (hb : Blk W p 23 #[u0, u1, u2]) : Calls Tryd.prog 38 #[.pointer (some ⟨p, 0, none⟩), .string (sOf s)] W fun e w' => e = .returned (.bool (fitsL 3 s)) ∧ W.setCell ⟨p, 2, none⟩ (.int .i64 (readV s).1) = w' := by
  have c1 := hb.cell 2
  have f1 := hb.frozen 2
  simp at c1
  have HR := Lib.hid (read_any (sOf s) W (by rw [sOf_size]; exact hs))
  rw [sOf_list] at HR
  unfold RetR at HR
  unfold fitsL
  rw [if_neg (by decide), if_neg (by decide)]
  generalize readV s = r at *
  obtain ⟨n, er⟩ := r
  simp only at HR ⊢
  clear hb
  by_cases h : er = 0
  · subst h
    by_cases h1 : 0 ≤ n
    · by_cases h2 : n ≤ 1000000
      · go_enter Tryd.func38, Tryd.ntmps38
        go_wp2_with fail
        refine HR.out.mono ?_
        rintro e w1 ⟨rfl, rfl⟩
        go_wp2_with fail
        go_ret
        exact ⟨by simp [h1, h2], rfl⟩
      · go_enter Tryd.func38, Tryd.ntmps38
        go_wp2_with fail
        refine HR.out.mono ?_
        rintro e w1 ⟨rfl, rfl⟩
        go_wp2_with fail
        go_ret
        exact ⟨by simp [h1, h2] <;> omega, rfl⟩
    · go_enter Tryd.func38, Tryd.ntmps38
      go_wp2_with fail
      refine HR.out.mono ?_
      rintro e w1 ⟨rfl, rfl⟩
      go_wp2_with fail
      go_ret
      exact ⟨by simp [h1] <;> omega, rfl⟩
  · have h' : (er == 0) = false := by simpa using h
    go_enter Tryd.func38, Tryd.ntmps38
    go_wp2_with fail
    refine HR.out.mono ?_
    rintro e w1 ⟨rfl, rfl⟩
    go_wp2_with fail
    go_ret
    exact ⟨by simp [h], rfl⟩
end
theorem kind_none {w : List UInt8} (h : w ∉ wsAll) : kindL w = 0 := by
  unfold wsAll at h
  simp only [List.mem_append, not_or] at h
  unfold kindL
  rw [if_neg h.1.1.1, if_neg h.1.1.2, if_neg h.1.2, if_neg h.2]
set_option maxRecDepth 100000 in
theorem xkind_any (l : List UInt8) (w : World) : Calls Tryd.prog 24 #[.string (sOf l)] w (RetQ (.int .i64 (kindL l)) w) := by
  by_cases h0 : l = [108, 105, 110, 101]
  · subst h0
    rw [show kindL [108, 105, 110, 101] = 1 by decide]
    unfold sOf
    go_enter Tryd.func24, Tryd.ntmps24
    go_wp2_with fail
    go_ret
    exact ⟨rfl, rfl⟩
  by_cases h1 : l = [105, 110, 112, 117, 116]
  · subst h1
    rw [show kindL [105, 110, 112, 117, 116] = 1 by decide]
    unfold sOf
    go_enter Tryd.func24, Tryd.ntmps24
    go_wp2_with fail
    go_ret
    exact ⟨rfl, rfl⟩
  by_cases h2 : l = [108, 111, 97, 100]
  · subst h2
    rw [show kindL [108, 111, 97, 100] = 2 by decide]
    unfold sOf
    go_enter Tryd.func24, Tryd.ntmps24
    go_wp2_with fail
    go_ret
    exact ⟨rfl, rfl⟩
  by_cases h3 : l = [104, 101, 97, 112]
  · subst h3
    rw [show kindL [104, 101, 97, 112] = 3 by decide]
    unfold sOf
    go_enter Tryd.func24, Tryd.ntmps24
    go_wp2_with fail
    go_ret
    exact ⟨rfl, rfl⟩
  by_cases h4 : l = [114, 117, 110]
  · subst h4
    rw [show kindL [114, 117, 110] = 3 by decide]
    unfold sOf
    go_enter Tryd.func24, Tryd.ntmps24
    go_wp2_with fail
    go_ret
    exact ⟨rfl, rfl⟩
  by_cases h5 : l = [109, 111, 100, 101, 108]
  · subst h5
    rw [show kindL [109, 111, 100, 101, 108] = 3 by decide]
    unfold sOf
    go_enter Tryd.func24, Tryd.ntmps24
    go_wp2_with fail
    go_ret
    exact ⟨rfl, rfl⟩
  by_cases h6 : l = [116, 114, 97, 99, 101]
  · subst h6
    rw [show kindL [116, 114, 97, 99, 101] = 3 by decide]
    unfold sOf
    go_enter Tryd.func24, Tryd.ntmps24
    go_wp2_with fail
    go_ret
    exact ⟨rfl, rfl⟩
  by_cases h7 : l = [99, 108, 101, 97, 114]
  · subst h7
    rw [show kindL [99, 108, 101, 97, 114] = 4 by decide]
    unfold sOf
    go_enter Tryd.func24, Tryd.ntmps24
    go_wp2_with fail
    go_ret
    exact ⟨rfl, rfl⟩
  by_cases h8 : l = [112, 97, 114, 115, 101]
  · subst h8
    rw [show kindL [112, 97, 114, 115, 101] = 4 by decide]
    unfold sOf
    go_enter Tryd.func24, Tryd.ntmps24
    go_wp2_with fail
    go_ret
    exact ⟨rfl, rfl⟩
  by_cases h9 : l = [101, 108, 97, 98]
  · subst h9
    rw [show kindL [101, 108, 97, 98] = 4 by decide]
    unfold sOf
    go_enter Tryd.func24, Tryd.ntmps24
    go_wp2_with fail
    go_ret
    exact ⟨rfl, rfl⟩
  by_cases h10 : l = [99, 111, 100, 101]
  · subst h10
    rw [show kindL [99, 111, 100, 101] = 4 by decide]
    unfold sOf
    go_enter Tryd.func24, Tryd.ntmps24
    go_wp2_with fail
    go_ret
    exact ⟨rfl, rfl⟩
  by_cases h11 : l = [118, 101, 114, 105, 102, 121]
  · subst h11
    rw [show kindL [118, 101, 114, 105, 102, 121] = 4 by decide]
    unfold sOf
    go_enter Tryd.func24, Tryd.ntmps24
    go_wp2_with fail
    go_ret
    exact ⟨rfl, rfl⟩
  by_cases h12 : l = [115, 105, 116, 101, 115]
  · subst h12
    rw [show kindL [115, 105, 116, 101, 115] = 4 by decide]
    unfold sOf
    go_enter Tryd.func24, Tryd.ntmps24
    go_wp2_with fail
    go_ret
    exact ⟨rfl, rfl⟩
  by_cases h13 : l = [115, 97, 118, 101]
  · subst h13
    rw [show kindL [115, 97, 118, 101] = 4 by decide]
    unfold sOf
    go_enter Tryd.func24, Tryd.ntmps24
    go_wp2_with fail
    go_ret
    exact ⟨rfl, rfl⟩
  by_cases h14 : l = [111, 117, 116]
  · subst h14
    rw [show kindL [111, 117, 116] = 4 by decide]
    unfold sOf
    go_enter Tryd.func24, Tryd.ntmps24
    go_wp2_with fail
    go_ret
    exact ⟨rfl, rfl⟩
  rw [kind_none (by unfold wsAll wsText wsHex wsNum wsBare; simp only [List.cons_append, List.nil_append, List.mem_cons, List.not_mem_nil, or_false, not_or]; exact ⟨h0, h1, h2, h3, h4, h5, h6, h7, h8, h9, h10, h11, h12, h13, h14⟩)]
  replace h0 := word_ne h0
  replace h1 := word_ne h1
  replace h2 := word_ne h2
  replace h3 := word_ne h3
  replace h4 := word_ne h4
  replace h5 := word_ne h5
  replace h6 := word_ne h6
  replace h7 := word_ne h7
  replace h8 := word_ne h8
  replace h9 := word_ne h9
  replace h10 := word_ne h10
  replace h11 := word_ne h11
  replace h12 := word_ne h12
  replace h13 := word_ne h13
  replace h14 := word_ne h14
  generalize sOf l = s at *
  go_enter Tryd.func24, Tryd.ntmps24
  go_wp2_with fail
  go_ret
  exact ⟨rfl, rfl⟩
set_option maxRecDepth 100000 in
theorem xrest_any (c : Cm) (h0 : -9223372036854775808 ≤ c.n) (h1 : c.n ≤ 9223372036854775807) (w : World) : Calls Tryd.prog 25 #[cmV c] w (RetS' (restL c) w) := by
  obtain ⟨wd, t, n⟩ := c
  unfold restL cmV cmA
  simp only at h0 h1 ⊢
  have hb := Below.refl w.heap.size w |>.alloc (Nat.le_refl _) (.cells #[.string (sOf wd), .string (sOf t), .int .i64 n] 23)
  have HB := Lib.hid hb
  have HK := Lib.hid (xkind_any wd (w.alloc (.cells #[.string (sOf wd), .string (sOf t), .int .i64 n] 23)))
  clear hb
  by_cases hk : kindL wd = 3
  · rw [if_pos hk]
    rw [hk] at HK
    have HT := Lib.hid (reftext_any n (w.alloc (.cells #[.string (sOf wd), .string (sOf t), .int .i64 n] 23)) h0 h1)
    clear hk
    go_enter Tryd.func25, Tryd.ntmps25
    go_wp2_with fail
    refine HK.out.mono ?_
    rintro e w1 ⟨rfl, rfl⟩
    go_wp2_with fail
    refine HT.out.mono ?_
    rintro e w1 ⟨rfl, hb⟩
    have HZ := Lib.hid (HB.out.trans (hb.mono HB.out.size))
    clear hb
    go_wp2_with fail
    go_ret
    exact ⟨rfl, HZ.out⟩
  · rw [if_neg hk]
    have hk' : ((kindL wd : Int) == 3) = false := by simp; omega
    generalize kindL wd = k at *
    go_enter Tryd.func25, Tryd.ntmps25
    go_wp2_with fail
    refine HK.out.mono ?_
    rintro e w1 ⟨rfl, rfl⟩
    go_wp2_with fail
    go_ret
    exact ⟨rfl, HB.out⟩
set_option maxRecDepth 100000 in
theorem xmay_any (k : Nat) (hk : k = 1 ∨ k = 2 ∨ k = 3) (c : UInt8) (w : World) : Calls Tryd.prog 27 #[.int .i64 k, .int .u8 c.toNat] w (RetQ (.bool (mayL k c)) w) := by
  have hr := u8_lt c
  unfold mayL isDig
  generalize c.toNat = n at *
  have e1 : decide ((48 : Int) ≤ (n : Int)) = decide (48 ≤ n) := by rw [Bool.eq_iff_iff, decide_eq_true_iff, decide_eq_true_iff]; omega
  have e2 : decide ((n : Int) ≤ 57) = decide (n ≤ 57) := by rw [Bool.eq_iff_iff, decide_eq_true_iff, decide_eq_true_iff]; omega
  have e3 : decide ((32 : Int) ≤ (n : Int)) = decide (32 ≤ n) := by rw [Bool.eq_iff_iff, decide_eq_true_iff, decide_eq_true_iff]; omega
  have e4 : decide ((n : Int) ≤ 126) = decide (n ≤ 126) := by rw [Bool.eq_iff_iff, decide_eq_true_iff, decide_eq_true_iff]; omega
  have e5 : decide ((97 : Int) ≤ (n : Int)) = decide (97 ≤ n) := by rw [Bool.eq_iff_iff, decide_eq_true_iff, decide_eq_true_iff]; omega
  have e6 : decide ((n : Int) ≤ 102) = decide (n ≤ 102) := by rw [Bool.eq_iff_iff, decide_eq_true_iff, decide_eq_true_iff]; omega
  generalize decide (48 ≤ n) = b1 at *
  generalize decide (n ≤ 57) = b2 at *
  generalize decide (32 ≤ n) = b3 at *
  generalize decide (n ≤ 126) = b4 at *
  generalize decide (97 ≤ n) = b5 at *
  generalize decide (n ≤ 102) = b6 at *
  rcases hk with rfl | rfl | rfl
  · cases b1 <;> cases b2 <;> cases b3 <;> cases b4
    all_goals
      simp only [decide_eq_true_eq, decide_eq_false_iff_not] at e1 e2 e3 e4
      clear e5 e6
      go_enter Tryd.func27, Tryd.ntmps27
      go_wp2_with fail
      go_ret
      exact ⟨rfl, rfl⟩
  · cases b1 <;> cases b2 <;> cases b5 <;> cases b6
    all_goals
      simp only [decide_eq_true_eq, decide_eq_false_iff_not] at e1 e2 e5 e6
      clear e3 e4
      go_enter Tryd.func27, Tryd.ntmps27
      go_wp2_with fail
      go_ret
      exact ⟨rfl, rfl⟩
  · cases b1 <;> cases b2
    all_goals
      simp only [decide_eq_true_eq, decide_eq_false_iff_not] at e1 e2
      clear e3 e4 e5 e6
      go_enter Tryd.func27, Tryd.ntmps27
      go_wp2_with fail
      go_ret
      exact ⟨rfl, rfl⟩
set_option maxRecDepth 100000 in
theorem xfits_any (k : Nat) (hk : k = 1 ∨ k = 2 ∨ k = 3) (s : List UInt8) (hs : s.length ≤ 140737488351232) (W : World) : Calls Tryd.prog 28 #[.int .i64 k, .string (sOf s)] W (RetQ (.bool (fitsL k s)) W) := by
  have hsz : (sOf s).size = s.length := sOf_size s
  have HR := Lib.hid (refread_any (sOf s) W (by rw [sOf_size]; exact hs))
  rw [sOf_list] at HR
  unfold RetR at HR
  unfold fitsL
  generalize sOf s = b at *
  generalize readV s = r at *
  generalize s.length = m at *
  subst hsz
  obtain ⟨n, er⟩ := r
  simp only at HR ⊢
  rcases hk with rfl | rfl | rfl
  · rw [if_pos rfl]
    by_cases h : b.size ≤ 4000
    · have h' : (b.size : Int) ≤ 4000 := by omega
      go_enter Tryd.func28, Tryd.ntmps28
      go_wp2_with fail
      go_ret
      exact ⟨by simp [h], rfl⟩
    · have h' : ¬ (b.size : Int) ≤ 4000 := by omega
      go_enter Tryd.func28, Tryd.ntmps28
      go_wp2_with fail
      go_ret
      exact ⟨by simp [h], rfl⟩
  · rw [if_neg (by decide), if_pos rfl]
    by_cases h : b.size ≤ 4000
    · have h' : (b.size : Int) ≤ 4000 := by omega
      have hm : Int.tmod (b.size : Int) 2 = ((b.size % 2 : Nat) : Int) := by rw [Int.tmod_eq_emod_of_nonneg (by omega)]; omega
      have hm2 : ((b.size % 2 : Nat) : Int) = 0 ∨ ((b.size % 2 : Nat) : Int) = 1 := by omega
      obtain ⟨r, hr⟩ : ∃ r, r = ((b.size % 2 : Nat) : Int) := ⟨_, rfl⟩
      rw [← hr] at hm hm2
      have HM := Lib.hid hr
      clear hr
      rcases hm2 with rfl | rfl
      · go_enter Tryd.func28, Tryd.ntmps28
        go_wp2_with fail
        go_ret
        exact ⟨by have := HM.out; simp [h]; omega, rfl⟩
      · go_enter Tryd.func28, Tryd.ntmps28
        go_wp2_with fail
        go_ret
        exact ⟨by have := HM.out; simp [h]; omega, rfl⟩
    · have h' : ¬ (b.size : Int) ≤ 4000 := by omega
      go_enter Tryd.func28, Tryd.ntmps28
      go_wp2_with fail
      go_ret
      exact ⟨by simp [h], rfl⟩
  · rw [if_neg (by decide), if_neg (by decide)]
    by_cases h : er = 0
    · subst h
      by_cases h1 : 0 ≤ n
      · by_cases h2 : n ≤ 1000000
        · go_enter Tryd.func28, Tryd.ntmps28
          go_wp2_with fail
          refine HR.out.mono ?_
          rintro e w1 ⟨rfl, rfl⟩
          go_wp2_with fail
          go_ret
          exact ⟨by simp [h1, h2], rfl⟩
        · go_enter Tryd.func28, Tryd.ntmps28
          go_wp2_with fail
          refine HR.out.mono ?_
          rintro e w1 ⟨rfl, rfl⟩
          go_wp2_with fail
          go_ret
          exact ⟨by simp [h1, h2] <;> omega, rfl⟩
      · go_enter Tryd.func28, Tryd.ntmps28
        go_wp2_with fail
        refine HR.out.mono ?_
        rintro e w1 ⟨rfl, rfl⟩
        go_wp2_with fail
        go_ret
        exact ⟨by simp [h1] <;> omega, rfl⟩
    · have h' : (er == 0) = false := by simpa using h
      go_enter Tryd.func28, Tryd.ntmps28
      go_wp2_with fail
      refine HR.out.mono ?_
      rintro e w1 ⟨rfl, rfl⟩
      go_wp2_with fail
      go_ret
      exact ⟨by simp [h], rfl⟩
end Go.Proofs.YtclejidkahpemaaDoor
