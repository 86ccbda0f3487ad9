/- The plain laws of scripts as lines: what is written is read, what is read is written, two parts. -/
import Derived.Test.YtclejidkahpemaaDoorLiPure
namespace Go.Proofs.YtclejidkahpemaaDoor
set_option linter.unusedVariables false
set_option linter.unusedSimpArgs false
theorem tw_self {α : Type} {p : α → Bool} {l : List α} : l.takeWhile p = l ↔ ∀ c ∈ l, p c = true := by
  constructor
  · intro h c hc
    induction l with
    | nil => simp at hc
    | cons x l ih =>
      by_cases hx : p x = true
      · rw [List.takeWhile_cons_of_pos hx] at h
        simp only [List.cons.injEq, true_and] at h
        rcases List.mem_cons.1 hc with rfl | hc
        · exact hx
        · exact ih h hc
      · rw [List.takeWhile_cons_of_neg hx] at h; cases h
  · intro h
    induction l with
    | nil => rfl
    | cons x l ih => rw [List.takeWhile_cons_of_pos (h x (by simp)), ih fun c hc => h c (by simp [hc])]
theorem allGo_cons (pos : Nat) (out : List Cm) (l : List UInt8) (ls : List (List UInt8)) : allGo pos out (l :: ls) = if told l then (if (parseL l).2.1 ≠ 0 then ([], ((parseL l).2.1, (parseL l).2.2 + pos)) else allGo (pos + l.length + 1) (out ++ [(parseL l).1]) ls) else allGo (pos + l.length + 1) out ls := by rw [allGo]
theorem kind_mem {w : List UInt8} (h : kindL w ≠ 0) : w ∈ wsAll := by
  unfold kindL at h
  unfold wsAll
  simp only [List.mem_append]
  by_cases h1 : w ∈ wsText
  · exact .inl (.inl (.inl h1))
  · by_cases h2 : w ∈ wsHex
    · exact .inl (.inl (.inr h2))
    · by_cases h3 : w ∈ wsNum
      · exact .inl (.inr h3)
      · by_cases h4 : w ∈ wsBare
        · exact .inr h4
        · simp [h1, h2, h3, h4] at h
theorem word_plain {w : List UInt8} (h : kindL w ≠ 0) : (∀ c ∈ w, c ≠ 32 ∧ c ≠ 10) ∧ w.head? ≠ some 35 := by
  have hall : ∀ w ∈ wsAll, (∀ c ∈ w, c ≠ 32 ∧ c ≠ 10) ∧ w.head? ≠ some 35 := by decide
  exact hall w (kind_mem h)
theorem wordOf_app {w : List UInt8} (h : ∀ c ∈ w, c ≠ 32) (r : List UInt8) : wordOf (w ++ 32 :: r) = w := by
  unfold wordOf
  rw [List.takeWhile_append_of_pos (by intro c hc; simpa using h c hc)]
  simp
theorem wordOf_self {w : List UInt8} (h : ∀ c ∈ w, c ≠ 32) : wordOf w = w := by
  unfold wordOf
  rw [tw_self]
  intro c hc; simpa using h c hc
theorem word_split (s : List UInt8) (h : (wordOf s).length ≠ s.length) : s = wordOf s ++ 32 :: s.drop ((wordOf s).length + 1) := by
  induction s with
  | nil => exact absurd rfl h
  | cons c s ih =>
    unfold wordOf at *
    by_cases hc : c = 32
    · subst hc; rw [List.takeWhile_cons_of_neg (by simp)]; simp
    · rw [List.takeWhile_cons_of_pos (by simpa using hc)] at h ⊢
      simp only [List.length_cons, List.drop_succ_cons, List.cons_append, List.cons.injEq, true_and] at h ⊢
      exact ih (by omega)
theorem word_whole (s : List UInt8) (h : (wordOf s).length = s.length) : wordOf s = s :=
  (List.takeWhile_prefix _).eq_of_length h
theorem bad_none {k : Nat} {s : List UInt8} : ¬ badAt k s < s.length ↔ s.all (mayL k) = true := by
  unfold badAt
  have hl : (s.takeWhile (mayL k)).length ≤ s.length := (List.takeWhile_sublist _).length_le
  constructor
  · intro h
    have : s.takeWhile (mayL k) = s := (List.takeWhile_prefix _).eq_of_length (by omega)
    rw [tw_self] at this
    rw [List.all_eq_true]; exact this
  · intro h
    have : s.takeWhile (mayL k) = s := by
      rw [tw_self]; exact List.all_eq_true.1 h
    rw [this]; omega
theorem check_or (c : Cm) : checkL c = 0 ∨ checkL c = 2 := by
  unfold checkL
  repeat' split
  all_goals simp
/-- What is read may be, and is written as it was. -/
theorem only_ok (s : List UInt8) (h : (parseL s).2.1 = 0) : (parseL s).2 = (0, 0) ∧ checkL (parseL s).1 = 0 ∧ lineL (parseL s).1 = (s, 0) ∧ (0 ≤ (parseL s).1.n ∧ (parseL s).1.n ≤ 1000000) ∧ (parseL s).1.text.length ≤ s.length ∧ (parseL s).1.word.length ≤ s.length := by
  have hwl : (wordOf s).length ≤ s.length := (List.takeWhile_sublist _).length_le
  unfold parseL at h ⊢
  by_cases h1 : 4100 < s.length
  · rw [if_pos h1] at h; simp at h
  rw [if_neg h1] at h ⊢
  by_cases h2 : kindL (wordOf s) = 0
  · rw [if_pos h2] at h; simp at h
  rw [if_neg h2] at h ⊢
  by_cases h3 : decide (kindL (wordOf s) = 4) ≠ decide ((wordOf s).length = s.length)
  · rw [if_pos h3] at h; simp at h
  rw [if_neg h3] at h ⊢
  have h3' : (kindL (wordOf s) = 4) ↔ ((wordOf s).length = s.length) := by
    simpa using h3
  by_cases h4 : kindL (wordOf s) = 4
  · rw [if_pos h4]
    have hw := word_whole s (h3'.1 h4)
    rw [hw] at h4
    have hc : checkL ⟨s, [], 0⟩ = 0 := by unfold checkL; simp [h4]
    rw [hw]
    refine ⟨rfl, hc, ?_, by simp, by simp, by simp⟩
    unfold lineL
    rw [if_neg (by simpa using hc), if_pos h4]
  rw [if_neg h4] at h ⊢
  have hsp := word_split s (fun e => h4 (h3'.2 e))
  have hk := kind_le (wordOf s)
  generalize hr : s.drop ((wordOf s).length + 1) = r at *
  generalize hw : wordOf s = u at *
  have hrl : r.length ≤ s.length := by rw [← hr, List.length_drop]; omega
  by_cases h5 : badAt (kindL u) r < r.length
  · rw [if_pos h5] at h; simp at h
  rw [if_neg h5] at h ⊢
  have hall := bad_none.1 h5
  by_cases h6 : fitsL (kindL u) r = false
  · rw [if_pos h6] at h; simp at h
  rw [if_neg h6] at h ⊢
  have hfit : fitsL (kindL u) r = true := by simpa using h6
  by_cases k3 : kindL u = 3
  · rw [if_pos k3, if_pos k3]
    rw [k3] at hfit hall
    have hf := hfit
    unfold fitsL at hf
    simp only [Nat.reduceEqDiff, if_false, Bool.and_eq_true, decide_eq_true_eq] at hf
    obtain ⟨⟨f1, f2⟩, f3⟩ := hf
    have ht := (text_read r f1).1
    have hrest : restL ⟨u, [], (readV r).1⟩ = r := by unfold restL; rw [if_pos k3]; exact ht
    have hc : checkL ⟨u, [], (readV r).1⟩ = 0 := by
      unfold checkL
      rw [hrest]
      simp only [k3]
      rw [if_neg (by simp), if_neg (by simp), if_pos (by rw [hall, hfit]; rfl)]
    refine ⟨rfl, hc, ?_, ⟨f2, f3⟩, by simp, hwl⟩
    unfold lineL
    rw [if_neg (by simpa using hc), if_neg h4, hrest, ← hsp]
  · rw [if_neg k3, if_neg k3]
    have hrest : restL ⟨u, r, 0⟩ = r := by unfold restL; rw [if_neg k3]
    have hc : checkL ⟨u, r, 0⟩ = 0 := by
      unfold checkL
      rw [hrest]
      simp only
      rw [if_neg (by simp [h2, k3, h4]), if_neg h4, if_pos (by rw [hall, hfit]; rfl)]
    refine ⟨rfl, hc, ?_, by simp, hrl, hwl⟩
    unfold lineL
    rw [if_neg (by simpa using hc), if_neg h4, hrest, ← hsp]
/-- What is none: no command, the fault of form. -/
theorem only_bad (s : List UInt8) (hs : s.length ≤ 4100) (h : (parseL s).2.1 ≠ 0) : (parseL s).1 = noC ∧ (parseL s).2.1 = 5 := by
  unfold parseL at h ⊢
  rw [if_neg (by omega)] at h ⊢
  split at h
  · rw [if_pos ‹_›]; exact ⟨rfl, rfl⟩
  rw [if_neg ‹_›]
  split at h
  · rw [if_pos ‹_›]; exact ⟨rfl, rfl⟩
  rw [if_neg ‹_›]
  split at h
  · exact absurd rfl h
  rw [if_neg ‹_›]
  split at h
  · rw [if_pos ‹_›]; exact ⟨rfl, rfl⟩
  rw [if_neg ‹_›]
  split at h
  · rw [if_pos ‹_›]; exact ⟨rfl, rfl⟩
  exact absurd rfl h
/-- What is written is read as it was. -/
theorem back_ok (c : Cm) (h0 : -9223372036854775808 ≤ c.n) (h1 : c.n ≤ 9223372036854775807) (h : checkL c = 0) : parseL (lineL c).1 = (c, (0, 0)) ∧ (∀ x ∈ (lineL c).1, x ≠ 10) ∧ told (lineL c).1 = true := by
  obtain ⟨u, t, n⟩ := c
  simp only at h0 h1
  have hln : (lineL ⟨u, t, n⟩).1 = if kindL u = 4 then u else u ++ 32 :: restL ⟨u, t, n⟩ := by
    unfold lineL
    rw [if_neg (by simpa using h)]
    by_cases h4 : kindL u = 4
    · simp [h4]
    · simp [h4]
  rw [hln]
  unfold checkL at h
  simp only at h
  by_cases c1 : kindL u = 0 ∨ (kindL u ≠ 3 ∧ n ≠ 0) ∨ ((kindL u = 3 ∨ kindL u = 4) ∧ t ≠ [])
  · rw [if_pos c1] at h; simp at h
  rw [if_neg c1] at h
  simp only [not_or, not_and, ne_eq, Decidable.not_not] at c1
  obtain ⟨k0, kn, kt⟩ := c1
  have hpl := word_plain k0
  have hlen := kind_len k0
  have h35 : ∀ r, told (u ++ r) = true := by
    intro r
    cases u with
    | nil => simp at hlen
    | cons x u => unfold told; simpa using hpl.2
  by_cases k4 : kindL u = 4
  · have ht := kt (.inr k4)
    have hn := kn (by omega)
    subst ht hn
    rw [if_pos k4]
    refine ⟨?_, fun x hx => (hpl.1 x hx).2, by simpa using h35 []⟩
    have hw : wordOf u = u := wordOf_self fun x hx => (hpl.1 x hx).1
    unfold parseL
    rw [hw, if_neg (by omega), if_neg k0, if_neg (by simp [k4]), if_pos k4]
  · rw [if_neg k4] at h ⊢
    have hk := kind_le u
    generalize hr : restL ⟨u, t, n⟩ = r at *
    have hw : wordOf (u ++ 32 :: r) = u := wordOf_app (fun x hx => (hpl.1 x hx).1) r
    have hd : (u ++ 32 :: r).drop (u.length + 1) = r := by simp
    by_cases hh : (r.all (mayL (kindL u)) && fitsL (kindL u) r) = true
    · rw [Bool.and_eq_true] at hh
      obtain ⟨hall, hfit⟩ := hh
      have hrl : r.length ≤ 4000 := by
        by_cases k3 : kindL u = 3
        · have hf := hfit
          unfold fitsL at hf
          rw [k3] at hf
          simp only [Nat.reduceEqDiff, if_false, Bool.and_eq_true, decide_eq_true_eq] at hf
          obtain ⟨⟨f1, f2⟩, f3⟩ := hf
          unfold restL at hr
          rw [if_pos k3] at hr
          simp only at hr
          rw [← hr, read_text n h0 h1] at f2 f3
          simp only at f2 f3
          rw [← hr]
          unfold textL
          rw [if_neg (by omega)]
          have := decs_len n.natAbs 7 (by omega) (by omega)
          omega
        · unfold fitsL at hfit
          split at hfit
          · simpa using hfit
          · split at hfit
            · simp at hfit; exact hfit.1
            · omega
      refine ⟨?_, ?_, h35 _⟩
      · unfold parseL
        rw [hw, hd, if_neg (by simp; omega), if_neg k0, if_neg (by simp [k4]), if_neg k4, if_neg (bad_none.2 hall), if_neg (by simp [hfit])]
        by_cases k3 : kindL u = 3
        · have ht := kt (.inl k3)
          subst ht
          unfold restL at hr
          rw [if_pos k3] at hr
          simp only at hr
          simp only [k3, if_true, ← hr, read_text n h0 h1]
        · have hn := kn k3
          subst hn
          unfold restL at hr
          rw [if_neg k3] at hr
          simp only at hr
          simp only [k3, if_false, ← hr]
      · intro x hx
        rw [List.mem_append, List.mem_cons] at hx
        rcases hx with hx | rfl | hx
        · exact (hpl.1 x hx).2
        · decide
        · have := List.all_eq_true.1 hall x hx
          rintro rfl
          revert this
          unfold mayL
          split
          · decide
          · split <;> decide
    · rw [if_neg hh] at h; simp at h

theorem splitN_no (a : List UInt8) (h : ∀ x ∈ a, x ≠ 10) : splitN a = [a] := by
  induction a with
  | nil => rfl
  | cons c a ih => exact splitN_cons (h c (by simp)) (ih fun x hx => h x (by simp [hx]))
theorem splitN_app (a b : List UInt8) : splitN (a ++ 10 :: b) = splitN a ++ splitN b := by
  induction a with
  | nil => rw [List.nil_append, splitN_nl]; rfl
  | cons c a ih =>
    by_cases h : c = 10
    · subst h
      rw [List.cons_append, splitN_nl, splitN_nl, ih]; rfl
    · cases ha : splitN a with
      | nil => exact absurd ha (splitN_ne a)
      | cons x t =>
        rw [splitN_cons h ha, List.cons_append]
        rw [ha] at ih
        rw [splitN_cons h (by simpa using ih)]
        rfl
def lenN (ls : List (List UInt8)) : Nat := (ls.map fun l => l.length + 1).sum
theorem lenN_split (a : List UInt8) : lenN (splitN a) = a.length + 1 := by
  induction a with
  | nil => rfl
  | cons c a ih =>
    by_cases h : c = 10
    · subst h
      rw [splitN_nl]
      unfold lenN at ih ⊢
      simp only [List.map_cons, List.sum_cons, ih, List.length_nil, List.length_cons]; omega
    · cases ha : splitN a with
      | nil => exact absurd ha (splitN_ne a)
      | cons x t =>
        rw [splitN_cons h ha]
        rw [ha] at ih
        unfold lenN at ih ⊢
        simp only [List.map_cons, List.sum_cons, List.length_cons] at ih ⊢; omega
theorem allGo_app (x y : List (List UInt8)) : ∀ pos out, allGo pos out (x ++ y) = if (allGo pos out x).2.1 ≠ 0 then allGo pos out x else allGo (pos + lenN x) (allGo pos out x).1 y := by
  induction x with
  | nil => intro pos out; simp [allGo, lenN]
  | cons l x ih =>
    intro pos out
    have hl : pos + lenN (l :: x) = pos + l.length + 1 + lenN x := by unfold lenN; simp; omega
    rw [List.cons_append, allGo_cons, allGo_cons, hl]
    by_cases ht : told l = true
    · simp only [ht, if_true]
      by_cases he : (parseL l).2.1 ≠ 0
      · simp only [he, if_true, ne_eq, not_false_eq_true]
      · simp only [he, if_false]; exact ih _ _
    · simp only [ht]; exact ih _ _
theorem allGo_fine (x : List (List UInt8)) : ∀ pos out, ((allGo pos out x).2.1 = 0 → (allGo pos out x).2 = (0, 0)) ∧ ((allGo pos out x).2.1 ≠ 0 → (allGo pos out x).1 = []) := by
  induction x with
  | nil => intro pos out; simp [allGo]
  | cons l x ih =>
    intro pos out
    rw [allGo_cons]
    by_cases ht : told l = true
    · simp only [ht, if_true]
      by_cases he : (parseL l).2.1 ≠ 0
      · rw [if_pos he]
        exact ⟨fun h => absurd h he, fun _ => rfl⟩
      · simp only [he, if_false]; exact ih _ _
    · simp only [ht]; exact ih _ _
theorem allGo_from (x : List (List UInt8)) : ∀ (pos : Nat) (p out : List Cm) (q : Nat), allGo (q + pos) (p ++ out) x = if (allGo pos out x).2.1 ≠ 0 then ([], ((allGo pos out x).2.1, (allGo pos out x).2.2 + q)) else (p ++ (allGo pos out x).1, (0, 0)) := by
  induction x with
  | nil => intro pos p out q; simp [allGo]
  | cons l x ih =>
    intro pos p out q
    have hq : q + pos + l.length + 1 = q + (pos + l.length + 1) := by omega
    rw [allGo_cons, allGo_cons]
    by_cases ht : told l = true
    · simp only [ht, if_true]
      by_cases he : (parseL l).2.1 ≠ 0
      · simp only [he, if_true, ne_eq, not_false_eq_true]
        simp only [Prod.mk.injEq, true_and]
        omega
      · simp only [he, if_false]
        rw [hq, List.append_assoc]; exact ih _ _ _ _
    · simp only [ht]
      rw [hq]; exact ih _ _ _ _
/-- A text of two parts. -/
theorem two_all (a b : List UInt8) : allL (a ++ 10 :: b) = if (allL a).2.1 ≠ 0 then ([], (allL a).2) else if (allL b).2.1 ≠ 0 then ([], ((allL b).2.1, (allL b).2.2 + ((a.length + 1 : Nat) : Int))) else ((allL a).1 ++ (allL b).1, (0, 0)) := by
  unfold allL
  rw [splitN_app, allGo_app, lenN_split]
  by_cases ha : (allGo 0 [] (splitN a)).2.1 ≠ 0
  · rw [if_pos ha, if_pos ha]
    have := (allGo_fine (splitN a) 0 []).2 ha
    exact Prod.ext this rfl
  · rw [if_neg ha, if_neg ha]
    have := allGo_from (splitN b) 0 (allGo 0 [] (splitN a)).1 [] (a.length + 1)
    rw [List.append_nil, Nat.add_zero] at this
    rw [Nat.zero_add, this]
theorem two_ok {a b : List UInt8} {m n : List Cm} (ha : allL a = (m, (0, 0))) (hb : allL b = (n, (0, 0))) : allL (a ++ 10 :: b) = (m ++ n, (0, 0)) := by
  rw [two_all, ha, hb]; simp
theorem all_fine (s : List UInt8) : ((allL s).2.1 = 0 → (allL s).2 = (0, 0)) ∧ ((allL s).2.1 ≠ 0 → (allL s).1 = []) := allGo_fine _ _ _
theorem all_line (c : Cm) (h0 : -9223372036854775808 ≤ c.n) (h1 : c.n ≤ 9223372036854775807) (h : checkL c = 0) : allL (lineL c).1 = ([c], (0, 0)) := by
  obtain ⟨hp, hn, ht⟩ := back_ok c h0 h1 h
  unfold allL
  rw [splitN_no _ hn]
  simp [allGo, ht, hp]
/-- The commands' lines, each with an empty one behind it. -/
def backT (l : List Cm) : List UInt8 := l.flatMap fun c => (lineL c).1 ++ [10, 10]
theorem back_rest (l : List Cm) (hl : ∀ c ∈ l, checkL c = 0 ∧ -9223372036854775808 ≤ c.n ∧ c.n ≤ 9223372036854775807) : allL (backT l) = (l, (0, 0)) := by
  induction l with
  | nil => rfl
  | cons c l ih =>
    have hc := hl c (by simp)
    have h := ih fun x hx => hl x (by simp [hx])
    have e : backT (c :: l) = (lineL c).1 ++ 10 :: ([] ++ 10 :: backT l) := by unfold backT; simp
    rw [e]
    have h2 : allL ([] ++ 10 :: backT l) = ([] ++ l, (0, 0)) := two_ok (a := []) rfl h
    exact two_ok (all_line c hc.2.1 hc.2.2 hc.1) (by simpa using h2)
def firstT : List UInt8 := [35, 32, 102, 105, 114, 115, 116]
theorem back_all (l : List Cm) (hl : ∀ c ∈ l, checkL c = 0 ∧ -9223372036854775808 ≤ c.n ∧ c.n ≤ 9223372036854775807) : allL (firstT ++ 10 :: backT l) = (l, (0, 0)) := by
  have h : allL firstT = ([], (0, 0)) := by decide +kernel
  exact two_ok h (back_rest l hl)
end Go.Proofs.YtclejidkahpemaaDoor
