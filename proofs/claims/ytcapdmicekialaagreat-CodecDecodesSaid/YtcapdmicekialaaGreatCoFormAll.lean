/- Merged by merge.py: CoPlain, CoForm. -/
import Derived.Test.YtcapdmicekialaaGreatCoRdAll
import Derived.Test.YtcapdmicekialaaGreatCoWrAll
import Derived.Test.YtcapdmicekialaaGreatOcOneP
/- What the codec writes is read as it was, and nothing else: plain. A form: how data are written, how read. -/
namespace Go.Proofs.YtcapdmicekialaaGreat
open Go.RowKit
set_option linter.unusedVariables false
set_option linter.unusedSimpArgs false
structure Fm (α : Type) where
  wr : CS → α → CS
  rd : List UInt8 → Rdr α
  enc : α → List UInt8
  wf : α → Prop
  lg : α → Bool
  w1 : ∀ st x, (wr st x).1.2 = 0 → st.1.2 = 0 ∧ (wr st x).1.1 = st.1.1 ++ enc x
  w2 : ∀ st x, st.1.2 = 0 → wf x → st.1.1.length + (enc x).length ≤ 1048576 → wr st x = ((st.1.1 ++ enc x, 0), st.2)
  w3 : ∀ st x, (wr st x).2 = (st.2 || lg x)
  w5 : ∀ st x, st.1.1.length ≤ 1048576 → (wr st x).1.1.length ≤ 1048576
  r1 : ∀ bs a e x rest, wf x → bs.drop a = enc x ++ rest → a ≤ bs.length → rd bs (a, 0, e) = .ok (x, (a + (enc x).length, 0, e))
  r2 : ∀ bs a e x more, wf x → enc x = bs.drop a ++ more → more ≠ [] → a ≤ bs.length → ∃ at_, rd bs (a, 0, e) = .error (13, at_)
  r3 : ∀ bs a e x s', a ≤ bs.length → rd bs (a, 0, e) = .ok (x, s') → wf x ∧ s' = (a + (enc x).length, 0, e) ∧ bs.drop a = enc x ++ bs.drop (a + (enc x).length) ∧ a + (enc x).length ≤ bs.length
  r4 : ∀ bs a e k at_, a ≤ bs.length → rd bs (a, 0, e) = .error (k, at_) → k ≠ 0 ∧ 0 ≤ at_ ∧ at_ ≤ (bs.length : Int)
theorem drop_next {bs xs ys : List UInt8} {a : Nat} (h : bs.drop a = xs ++ ys) (ha : a ≤ bs.length) : bs.drop (a + xs.length) = ys ∧ a + xs.length ≤ bs.length := by
  have hl : bs.length - a = xs.length + ys.length := by rw [← List.length_append, ← h, List.length_drop]
  exact ⟨by rw [← List.drop_drop, h, List.drop_left], by omega⟩
theorem rdGo_pre : ∀ (j i acc n : Nat) (p more : List UInt8), i + j = 8 → n < 128 ^ (j + 1) → grp n = p ++ more → more ≠ [] → (rdGo i acc p).1 = 13
  | j, i, acc, n, [], more, hij, hn, hg, hm => rfl
  | 0, i, acc, n, b :: p, more, hij, hn, hg, hm => by
    have hn : n < 128 := by simpa using hn
    rw [grp_lt hn, List.cons_append] at hg
    injection hg with h1 h2
    have := congrArg List.length h2
    simp at this
    exact absurd (List.length_eq_zero_iff.1 (show more.length = 0 by omega)) hm
  | j + 1, i, acc, n, b :: p, more, hij, hn, hg, hm => by
    by_cases hlt : n < 128
    · rw [grp_lt hlt, List.cons_append] at hg
      injection hg with h1 h2
      have := congrArg List.length h2
      simp at this
      exact absurd (List.length_eq_zero_iff.1 (show more.length = 0 by omega)) hm
    · rw [grp_ge hlt, List.cons_append] at hg
      injection hg with h1 h2
      rw [← h1, rdGo, ofNat_nat (by omega), if_neg (by omega), if_neg (by omega)]
      exact rdGo_pre j (i + 1) _ (n / 128) p more (by omega) (by rw [Nat.div_lt_iff_lt_mul (by decide)]; rw [Nat.pow_succ] at hn; exact hn) h2 hm
theorem numR_at {bs : List UInt8} {a : Nat} {e : Int} {r : Int × Nat × Nat} (h : rdGo 0 0 (bs.drop a) = r) : numR bs (a, 0, e) = if r.1 = 0 then .ok ((r.2.1, a), (a + r.2.2, 0, e)) else .error (r.1, (a : Int)) := by
  unfold numR
  rw [rNum_at h]
  by_cases h0 : r.1 = 0
  · simp [h0]
  · simp [h0]
theorem numR_r1 (bs : List UInt8) (a : Nat) (e : Int) (n : Nat) (rest : List UInt8) (hn : n < 9223372036854775808) (hd : bs.drop a = grp n ++ rest) : numR bs (a, 0, e) = .ok ((n, a), (a + (grp n).length, 0, e)) := by
  rw [numR_at (hd ▸ rd_grp n rest hn)]
  simp
theorem numR_r2 (bs : List UInt8) (a : Nat) (e : Int) (n : Nat) (more : List UInt8) (hn : n < 9223372036854775808) (hd : grp n = bs.drop a ++ more) (hm : more ≠ []) : numR bs (a, 0, e) = .error (13, (a : Int)) := by
  have h := rdGo_pre 8 0 0 n _ more rfl (Nat.lt_of_lt_of_le hn (by decide)) hd hm
  rw [numR_at rfl, if_neg (by rw [h]; decide), h]
theorem numR_r3 (bs : List UInt8) (a : Nat) (e : Int) (n at_ : Nat) (s' : RS) (ha : a ≤ bs.length) (h : numR bs (a, 0, e) = .ok ((n, at_), s')) :
    at_ = a ∧ n < 9223372036854775808 ∧ s' = (a + (grp n).length, 0, e) ∧ bs.drop a = grp n ++ bs.drop (a + (grp n).length) ∧ a + (grp n).length ≤ bs.length := by
  have hlt := rdGo_lt (bs.drop a) 0 0 (by decide) (by decide)
  rw [numR_at rfl] at h
  generalize hr : rdGo 0 0 (bs.drop a) = r at *
  obtain ⟨c, m, cnt⟩ := r
  simp only at h hlt
  by_cases h0 : c = 0
  · subst h0
    rw [if_pos rfl] at h
    injection h with h
    injection h with h1 h2
    injection h1 with h1 h3
    subst h1
    subst h3
    obtain ⟨k1, k2, k3⟩ := rd_inv hr
    have hg : (grp m).length = cnt := by rw [← k1, List.length_take]; omega
    rw [List.length_drop] at k3
    refine ⟨rfl, hlt, by rw [hg]; exact h2.symm, ?_, by omega⟩
    rw [hg, ← k1, ← List.drop_drop, List.take_append_drop]
  · rw [if_neg h0] at h; cases h
theorem numR_r4 (bs : List UInt8) (a : Nat) (e : Int) (k at_ : Int) (h : numR bs (a, 0, e) = .error (k, at_)) : k ≠ 0 ∧ at_ = a := by
  rw [numR_at rfl] at h
  by_cases h0 : (rdGo 0 0 (bs.drop a)).1 = 0
  · rw [if_pos h0] at h; cases h
  · rw [if_neg h0] at h
    injection h with h
    injection h with h1 h2
    exact ⟨h1 ▸ h0, h2.symm⟩
theorem wr1_st {bs xs : List UInt8} {bad : Int} {may : Bool} (h : (wr1 1048576 bs bad may xs).2 = 0) : bad = 0 ∧ may = true ∧ (wr1 1048576 bs bad may xs).1 = bs ++ xs := by
  by_cases hb : bad = 0
  · subst hb
    obtain ⟨h1, h2⟩ := wr1_ok h
    exact ⟨rfl, h1, by rw [h2]⟩
  · unfold wr1 at h
    rw [if_pos hb] at h
    exact absurd h hb
theorem wr1_len {bs xs : List UInt8} {bad : Int} {may : Bool} (h : bs.length ≤ 1048576) : (wr1 1048576 bs bad may xs).1.length ≤ 1048576 := by
  unfold wr1
  split
  · exact h
  · split
    · exact h
    · split
      · exact h
      · simp only [List.length_append]; omega
theorem wr1_fit {bs xs : List UInt8} (h : bs.length + xs.length ≤ 1048576) : wr1 1048576 bs 0 true xs = (bs ++ xs, 0) := by
  unfold wr1
  rw [if_neg (by decide), if_neg (by decide), if_neg (by omega)]
def n63 (n : Int) : Prop := 0 ≤ n ∧ n.toNat < 9223372036854775808
theorem cs_eq {a : List UInt8} {st : CS} {b : Int} (h : st.1 = (a, b)) {f : Bool} (h2 : st.2 = f) : st = ((a, b), f) := by
  obtain ⟨x, y⟩ := st
  simp only at h h2
  subst h h2
  rfl
/-- A number from 0 on. -/
def numF : Fm Int where
  wr := numC
  rd bs := (numR bs).bind fun n => Rdr.pure (n.1 : Int)
  enc n := grp n.toNat
  wf := n63
  lg _ := false
  w1 st x h := ⟨(wr1_st h).1, (wr1_st h).2.2⟩
  w2 st x h0 hw hl := by
    unfold numC wrNum
    rw [h0, decide_eq_true hw.1, wr1_fit hl]
  w3 st x := by simp [numC]
  w5 st x h := wr1_len h
  r1 bs a e x rest hw hd ha := by
    rw [bind_ok (numR_r1 bs a e x.toNat rest hw.2 hd)]
    show Except.ok (((x.toNat : Nat) : Int), _) = _
    rw [Int.toNat_of_nonneg hw.1]
  r2 bs a e x more hw hd hm ha := ⟨_, bind_err (numR_r2 bs a e x.toNat more hw.2 hd hm)⟩
  r3 bs a e x s' ha h := by
    rcases h1 : numR bs (a, 0, e) with f | ⟨⟨n, at_⟩, s1⟩
    · rw [bind_err h1] at h; cases h
    · rw [bind_ok h1] at h
      injection h with h
      injection h with h2 h3
      subst h2
      subst h3
      obtain ⟨_, k1, k2, k3, k4⟩ := numR_r3 bs a e n at_ s1 ha h1
      simp only [Int.toNat_natCast]
      exact ⟨⟨by omega, by simpa using k1⟩, k2, k3, k4⟩
  r4 bs a e k at_ ha h := by
    rcases h1 : numR bs (a, 0, e) with ⟨f1, f2⟩ | ⟨⟨n, at2⟩, s1⟩
    · rw [bind_err h1] at h
      injection h with h
      injection h with h2 h3
      subst h2
      subst h3
      obtain ⟨k1, k2⟩ := numR_r4 _ _ _ _ _ h1
      exact ⟨k1, by omega, by omega⟩
    · rw [bind_ok h1] at h; cases h
/-- A number that must be one. -/
def justF (want : Nat) (hw : want < 128) : Fm Unit where
  wr st _ := numC st want
  rd bs := justR bs want
  enc _ := grp want
  wf _ := True
  lg _ := false
  w1 st x h := by
    have h1 := wr1_st h
    rw [Int.toNat_natCast] at h1
    refine ⟨h1.1, ?_⟩
    show (wr1 _ _ _ _ _).1 = _
    rw [Int.toNat_natCast]; exact h1.2.2
  w2 st x h0 _ hl := by
    unfold numC wrNum
    rw [h0, decide_eq_true (Int.natCast_nonneg _), Int.toNat_natCast, wr1_fit hl]
  w3 st x := by simp [numC]
  w5 st x h := wr1_len h
  r1 bs a e x rest _ hd ha := by
    unfold justR
    rw [bind_ok (numR_r1 bs a e want rest (by omega) hd)]
    simp [mustR]
  r2 bs a e x more _ hd hm ha := ⟨_, by unfold justR; exact bind_err (numR_r2 bs a e want more (by omega) hd hm)⟩
  r3 bs a e x s' ha h := by
    unfold justR at h
    rcases h1 : numR bs (a, 0, e) with f | ⟨⟨n, at_⟩, s1⟩
    · rw [bind_err h1] at h; cases h
    · rw [bind_ok h1] at h
      obtain ⟨_, k1, k2, k3, k4⟩ := numR_r3 bs a e n at_ s1 ha h1
      by_cases hn : n = want
      · subst hn
        simp only [mustR, beq_self_eq_true, if_true] at h
        injection h with h
        injection h with _ h3
        subst h3
        exact ⟨trivial, k2, k3, k4⟩
      · simp only [mustR, show (n == want) = false by simpa using hn] at h
        cases h
  r4 bs a e k at_ ha h := by
    unfold justR at h
    rcases h1 : numR bs (a, 0, e) with ⟨f1, f2⟩ | ⟨⟨n, at2⟩, s1⟩
    · rw [bind_err h1] at h
      injection h with h
      injection h with h2 h3
      subst h2
      subst h3
      obtain ⟨k1, k2⟩ := numR_r4 _ _ _ _ _ h1
      exact ⟨k1, by omega, by omega⟩
    · rw [bind_ok h1] at h
      obtain ⟨k0, _⟩ := numR_r3 bs a e n at2 s1 ha h1
      subst k0
      by_cases hn : n = want
      · subst hn
        simp only [mustR, beq_self_eq_true, if_true] at h
        cases h
      · simp only [mustR, show (n == want) = false by simpa using hn] at h
        injection h with h
        injection h with h2 h3
        subst h2
        subst h3
        exact ⟨by decide, by omega, by omega⟩
/-- A text. -/
def wordF : Fm ByteArray where
  wr := wordC
  rd := wordR
  enc s := grp s.size ++ s.data.toList
  wf s := s.size ≤ 1000
  lg s := decide (1000 < s.size)
  w1 st x h := ⟨(wr1_st h).1, (wr1_st h).2.2⟩
  w2 st x h0 hw hl := by
    unfold wordC wrWord
    rw [h0, wr1_fit hl, decide_eq_false (by omega)]
    simp
  w3 st x := rfl
  w5 st x h := wr1_len h
  r1 bs a e x rest hw hd ha := by
    have hls : x.data.toList.length = x.size := by rw [Array.length_toList]; rfl
    rw [List.append_assoc] at hd
    have hr := rd_grp x.size (x.data.toList ++ rest) (by omega)
    obtain ⟨d1, d2⟩ := drop_next hd ha
    obtain ⟨d3, d4⟩ := drop_next d1 d2
    have hw2 : rWord bs (a, 0, e) 1000 = (x.data.toList, (a + (grp x.size).length + x.size, 0, e)) := by
      rw [rWord_at (hd ▸ hr), if_neg (show ¬ (0 : Int) ≠ 0 by decide), if_neg (by simp only; omega), if_neg (by simp only; omega)]
      simp only [d1]
      rw [← hls, List.take_left]
    unfold wordR
    rw [hw2, if_pos rfl]
    simp only [List.length_append, hls, Nat.add_assoc]
    rfl
  r2 bs a e x more hw hd hm ha := by
    have hls : x.data.toList.length = x.size := by rw [Array.length_toList]; rfl
    have key : (rWord bs (a, 0, e) 1000).2.2.1 = 13 := by
      rcases List.append_eq_append_iff.1 hd with ⟨c, h1, h2⟩ | ⟨c, h1, h2⟩
      · have hl := congrArg List.length h2
        rw [List.length_append, hls] at hl
        have hmp := List.length_pos_iff.2 hm
        have hr := rd_grp x.size c (by omega)
        have hbl : bs.length - a = (grp x.size).length + c.length := by rw [← List.length_drop, h1, List.length_append]
        rw [rWord_at (h1 ▸ hr), if_neg (show ¬ (0 : Int) ≠ 0 by decide), if_neg (by simp only; omega), if_pos (by simp only; omega)]
      · by_cases hc : c = []
        · subst hc
          rw [List.append_nil] at h1
          rw [List.nil_append] at h2
          have hr := rd_grp x.size [] (by omega)
          rw [List.append_nil, h1] at hr
          have hmp := List.length_pos_iff.2 hm
          have hbl : bs.length - a = (grp x.size).length := by rw [← List.length_drop, h1]
          rw [h2, hls] at hmp
          rw [rWord_at hr, if_neg (show ¬ (0 : Int) ≠ 0 by decide), if_neg (by simp only; omega), if_pos (by simp only; rw [← h1] at *; omega)]
        · have hr := rdGo_pre 8 0 0 x.size _ c rfl (Nat.lt_of_le_of_lt hw (by decide)) h1 hc
          rw [rWord_at rfl, if_pos (by rw [hr]; decide)]
          exact hr
    refine ⟨(rWord bs (a, 0, e) 1000).2.2.2, ?_⟩
    unfold wordR
    rw [if_neg (by rw [key]; decide)]
    rw [← key]
  r3 bs a e x s' ha h := by
    have hlt := rdGo_lt (bs.drop a) 0 0 (by decide) (by decide)
    unfold wordR at h
    rw [rWord_at rfl] at h
    generalize hr : rdGo 0 0 (bs.drop a) = r at *
    obtain ⟨c, n, cnt⟩ := r
    simp only at h hlt
    by_cases h0 : c = 0
    · subst h0
      rw [if_neg (show ¬ (0 : Int) ≠ 0 by decide)] at h
      by_cases hm : (1000 : Int) < (n : Int)
      · rw [if_pos hm] at h
        rw [if_neg (show ¬ (4 : Int) = 0 by decide)] at h; cases h
      · rw [if_neg hm] at h
        by_cases hl : bs.length < a + cnt + n
        · rw [if_pos hl] at h
          rw [if_neg (show ¬ (13 : Int) = 0 by decide)] at h; cases h
        · rw [if_neg hl] at h
          rw [if_pos rfl] at h
          injection h with h
          injection h with h2 h3
          obtain ⟨k1, k2, k3⟩ := rd_inv hr
          have hg : (grp n).length = cnt := by rw [← k1, List.length_take]; omega
          rw [List.length_drop] at k3
          have hs : x.size = n := by
            rw [← h2]
            show ((bs.drop (a + cnt)).take n).toArray.size = n
            rw [List.size_toArray, List.length_take, List.length_drop]; omega
          have hd : x.data.toList = (bs.drop (a + cnt)).take n := by rw [← h2]; rfl
          have hen : (grp x.size ++ x.data.toList).length = cnt + n := by
            rw [List.length_append, hs, hg, hd, List.length_take, List.length_drop]; omega
          refine ⟨by omega, by rw [hen, ← Nat.add_assoc]; exact h3.symm, ?_, by rw [hen]; omega⟩
          rw [hen, hs, hd, ← k1, List.append_assoc, ← Nat.add_assoc, ← List.drop_drop (i := n), List.take_append_drop, ← List.drop_drop, List.take_append_drop]
    · rw [if_pos h0] at h
      rw [if_neg h0] at h; cases h
  r4 bs a e k at_ ha h := by
    unfold wordR at h
    rw [rWord_at rfl] at h
    generalize hr : rdGo 0 0 (bs.drop a) = r at *
    obtain ⟨c, n, cnt⟩ := r
    simp only at h
    by_cases h0 : c = 0
    · subst h0
      rw [if_neg (show ¬ (0 : Int) ≠ 0 by decide)] at h
      by_cases hm : (1000 : Int) < (n : Int)
      · rw [if_pos hm, if_neg (show ¬ (4 : Int) = 0 by decide)] at h
        injection h with h
        injection h with h2 h3
        subst h2 h3
        exact ⟨by decide, by omega, by omega⟩
      · rw [if_neg hm] at h
        by_cases hl : bs.length < a + cnt + n
        · rw [if_pos hl, if_neg (show ¬ (13 : Int) = 0 by decide)] at h
          injection h with h
          injection h with h2 h3
          subst h2 h3
          exact ⟨by decide, by omega, by omega⟩
        · rw [if_neg hl, if_pos rfl] at h; cases h
    · rw [if_pos h0, if_neg h0] at h
      injection h with h
      injection h with h2 h3
      subst h2 h3
      exact ⟨h0, by omega, by omega⟩
/-- One behind the other. -/
def Fm.pair {α β : Type} (A : Fm α) (B : Fm β) : Fm (α × β) where
  wr st x := B.wr (A.wr st x.1) x.2
  rd bs := (A.rd bs).bind fun a => (B.rd bs).bind fun b => Rdr.pure (a, b)
  enc x := A.enc x.1 ++ B.enc x.2
  wf x := A.wf x.1 ∧ B.wf x.2
  lg x := A.lg x.1 || B.lg x.2
  w1 st x h := by
    obtain ⟨h1, h2⟩ := B.w1 _ _ h
    obtain ⟨h3, h4⟩ := A.w1 _ _ h1
    exact ⟨h3, by rw [h2, h4, List.append_assoc]⟩
  w2 st x h0 hw hl := by
    rw [List.length_append] at hl
    rw [A.w2 st x.1 h0 hw.1 (by omega), B.w2 _ x.2 rfl hw.2 (by simp only [List.length_append]; omega)]
    simp only [List.append_assoc]
  w3 st x := by rw [B.w3, A.w3, Bool.or_assoc]
  w5 st x h := B.w5 _ _ (A.w5 _ _ h)
  r1 bs a e x rest hw hd ha := by
    rw [List.append_assoc] at hd
    obtain ⟨d1, d2⟩ := drop_next hd ha
    rw [bind_ok (A.r1 bs a e x.1 _ hw.1 hd ha), bind_ok (B.r1 bs _ e x.2 rest hw.2 d1 d2)]
    rw [List.length_append, Nat.add_assoc]
    rfl
  r2 bs a e x more hw hd hm ha := by
    rcases List.append_eq_append_iff.1 hd with ⟨c, h1, h2⟩ | ⟨c, h1, h2⟩
    · obtain ⟨d1, d2⟩ := drop_next h1 ha
      obtain ⟨at_, h⟩ := B.r2 bs _ e x.2 more hw.2 (by rw [d1]; exact h2) hm d2
      exact ⟨at_, by rw [bind_ok (A.r1 bs a e x.1 c hw.1 h1 ha), bind_err h]⟩
    · by_cases hc : c = []
      · subst hc
        rw [List.append_nil] at h1
        rw [List.nil_append] at h2
        have h1' : bs.drop a = A.enc x.1 ++ [] := by rw [List.append_nil]; exact h1.symm
        obtain ⟨d1, d2⟩ := drop_next h1' ha
        obtain ⟨at_, h⟩ := B.r2 bs _ e x.2 more hw.2 (by rw [d1, List.nil_append]; exact h2.symm) hm d2
        exact ⟨at_, by rw [bind_ok (A.r1 bs a e x.1 [] hw.1 h1' ha), bind_err h]⟩
      · obtain ⟨at_, h⟩ := A.r2 bs a e x.1 c hw.1 h1 hc ha
        exact ⟨at_, bind_err h⟩
  r3 bs a e x s' ha h := by
    rcases h1 : A.rd bs (a, 0, e) with f | ⟨y, s1⟩
    · rw [bind_err h1] at h; cases h
    · rw [bind_ok h1] at h
      obtain ⟨a1, a2, a3, a4⟩ := A.r3 bs a e y s1 ha h1
      subst a2
      rcases h2 : B.rd bs (a + (A.enc y).length, 0, e) with f | ⟨z, s2⟩
      · rw [bind_err h2] at h; cases h
      · rw [bind_ok h2] at h
        injection h with h
        injection h with h3 h4
        subst h3
        subst h4
        obtain ⟨b1, b2, b3, b4⟩ := B.r3 bs _ e z s2 a4 h2
        simp only [List.length_append, ← Nat.add_assoc]
        refine ⟨⟨a1, b1⟩, b2, ?_, b4⟩
        rw [List.append_assoc, ← b3, ← a3]
  r4 bs a e k at_ ha h := by
    rcases h1 : A.rd bs (a, 0, e) with ⟨f1, f2⟩ | ⟨y, s1⟩
    · rw [bind_err h1] at h
      injection h with h
      injection h with h2 h3
      subst h2
      subst h3
      exact A.r4 _ _ _ _ _ ha h1
    · rw [bind_ok h1] at h
      obtain ⟨a1, a2, a3, a4⟩ := A.r3 bs a e y s1 ha h1
      subst a2
      rcases h2 : B.rd bs (a + (A.enc y).length, 0, e) with ⟨f1, f2⟩ | ⟨z, s2⟩
      · rw [bind_err h2] at h
        injection h with h
        injection h with h2' h3
        subst h2'
        subst h3
        exact B.r4 _ _ _ _ _ a4 h2
      · rw [bind_ok h2] at h; cases h
/-- The same data, otherwise named. -/
def Fm.iso {α β : Type} (A : Fm α) (f : α → β) (g : β → α) (hg : ∀ b, f (g b) = b) (hf : ∀ a, A.wf a → g (f a) = a) : Fm β where
  wr st b := A.wr st (g b)
  rd bs := (A.rd bs).bind fun a => Rdr.pure (f a)
  enc b := A.enc (g b)
  wf b := A.wf (g b)
  lg b := A.lg (g b)
  w1 st x h := A.w1 _ _ h
  w2 st x h0 hw hl := A.w2 _ _ h0 hw hl
  w3 st x := A.w3 _ _
  w5 st x h := A.w5 _ _ h
  r1 bs a e x rest hw hd ha := by
    rw [bind_ok (A.r1 bs a e (g x) rest hw hd ha), hg]; rfl
  r2 bs a e x more hw hd hm ha := by
    obtain ⟨at_, h⟩ := A.r2 bs a e (g x) more hw hd hm ha
    exact ⟨at_, bind_err h⟩
  r3 bs a e x s' ha h := by
    rcases h1 : A.rd bs (a, 0, e) with f | ⟨y, s1⟩
    · rw [bind_err h1] at h; cases h
    · rw [bind_ok h1] at h
      injection h with h
      injection h with h3 h4
      subst h3
      subst h4
      have h5 := A.r3 bs a e y s1 ha h1
      rw [hf y h5.1]
      exact h5
  r4 bs a e k at_ ha h := by
    rcases h1 : A.rd bs (a, 0, e) with ⟨f1, f2⟩ | ⟨y, s1⟩
    · rw [bind_err h1] at h
      injection h with h
      injection h with h2 h3
      subst h2
      subst h3
      exact A.r4 _ _ _ _ _ ha h1
    · rw [bind_ok h1] at h; cases h
section
variable {α : Type} (A : Fm α)
theorem fold_w1 : ∀ (l : List α) (st : CS), (l.foldl A.wr st).1.2 = 0 → st.1.2 = 0 ∧ (l.foldl A.wr st).1.1 = st.1.1 ++ l.flatMap A.enc
  | [], st, h => ⟨h, by simp⟩
  | x :: l, st, h => by
    obtain ⟨h1, h2⟩ := fold_w1 l _ h
    obtain ⟨h3, h4⟩ := A.w1 _ _ h1
    exact ⟨h3, by rw [List.foldl_cons, h2, h4, List.flatMap_cons, List.append_assoc]⟩
theorem fold_w2 : ∀ (l : List α) (st : CS), st.1.2 = 0 → (∀ x ∈ l, A.wf x) → st.1.1.length + (l.flatMap A.enc).length ≤ 1048576 → l.foldl A.wr st = ((st.1.1 ++ l.flatMap A.enc, 0), st.2)
  | [], st, h0, hw, hl => by
    obtain ⟨⟨a, b⟩, c⟩ := st
    simp only at h0
    subst h0
    simp
  | x :: l, st, h0, hw, hl => by
    rw [List.flatMap_cons, List.length_append] at hl
    rw [List.foldl_cons, A.w2 st x h0 (hw x (List.mem_cons_self ..)) (by omega), fold_w2 l _ rfl (fun y hy => hw y (List.mem_cons_of_mem _ hy)) (by simp only [List.length_append]; omega)]
    simp only [List.flatMap_cons, List.append_assoc]
theorem fold_w3 : ∀ (l : List α) (st : CS), (l.foldl A.wr st).2 = (st.2 || l.any A.lg)
  | [], st => by simp
  | x :: l, st => by rw [List.foldl_cons, fold_w3 l, A.w3, List.any_cons, Bool.or_assoc]
theorem fold_w5 : ∀ (l : List α) (st : CS), st.1.1.length ≤ 1048576 → (l.foldl A.wr st).1.1.length ≤ 1048576
  | [], st, h => h
  | x :: l, st, h => fold_w5 l _ (A.w5 st x h)
theorem times_r1 (bs : List UInt8) (e : Int) (rest : List UInt8) : ∀ (l acc : List α) (a : Nat), (∀ x ∈ l, A.wf x) → bs.drop a = l.flatMap A.enc ++ rest → a ≤ bs.length → timesR (A.rd bs) l.length acc (a, 0, e) = .ok (acc ++ l, (a + (l.flatMap A.enc).length, 0, e))
  | [], acc, a, hw, hd, ha => by simp [timesR, Rdr.pure]
  | x :: l, acc, a, hw, hd, ha => by
    rw [List.flatMap_cons, List.append_assoc] at hd
    obtain ⟨d1, d2⟩ := drop_next hd ha
    show Rdr.bind _ _ _ = _
    rw [bind_ok (A.r1 bs a e x _ (hw x (List.mem_cons_self ..)) hd ha), times_r1 bs e rest l (acc ++ [x]) _ (fun y hy => hw y (List.mem_cons_of_mem _ hy)) d1 d2]
    simp [Nat.add_assoc]
theorem times_r2 (bs : List UInt8) (e : Int) (more : List UInt8) (hm : more ≠ []) : ∀ (l acc : List α) (a : Nat), (∀ x ∈ l, A.wf x) → l.flatMap A.enc = bs.drop a ++ more → a ≤ bs.length → ∃ at_, timesR (A.rd bs) l.length acc (a, 0, e) = .error (13, at_)
  | [], acc, a, hw, hd, ha => by
    have := congrArg List.length hd
    simp at this
    have := List.length_pos_iff.2 hm
    omega
  | x :: l, acc, a, hw, hd, ha => by
    rw [List.flatMap_cons] at hd
    have hx := hw x (List.mem_cons_self ..)
    have hl : ∀ y ∈ l, A.wf y := fun y hy => hw y (List.mem_cons_of_mem _ hy)
    show ∃ at_, Rdr.bind _ _ _ = _
    rcases List.append_eq_append_iff.1 hd with ⟨c, h1, h2⟩ | ⟨c, h1, h2⟩
    · obtain ⟨d1, d2⟩ := drop_next h1 ha
      obtain ⟨at_, h⟩ := times_r2 bs e more hm l (acc ++ [x]) _ hl (by rw [d1]; exact h2) d2
      exact ⟨at_, by rw [bind_ok (A.r1 bs a e x c hx h1 ha), h]⟩
    · by_cases hc : c = []
      · subst hc
        rw [List.append_nil] at h1
        rw [List.nil_append] at h2
        have h1' : bs.drop a = A.enc x ++ [] := by rw [List.append_nil]; exact h1.symm
        obtain ⟨d1, d2⟩ := drop_next h1' ha
        obtain ⟨at_, h⟩ := times_r2 bs e more hm l (acc ++ [x]) _ hl (by rw [d1, List.nil_append]; exact h2.symm) d2
        exact ⟨at_, by rw [bind_ok (A.r1 bs a e x [] hx h1' ha), h]⟩
      · obtain ⟨at_, h⟩ := A.r2 bs a e x c hx h1 hc ha
        exact ⟨at_, bind_err h⟩
theorem times_r3 (bs : List UInt8) (e : Int) : ∀ (n : Nat) (acc l' : List α) (a : Nat) (s' : RS), a ≤ bs.length → timesR (A.rd bs) n acc (a, 0, e) = .ok (l', s') →
    ∃ l, l' = acc ++ l ∧ l.length = n ∧ (∀ x ∈ l, A.wf x) ∧ s' = (a + (l.flatMap A.enc).length, 0, e) ∧ bs.drop a = l.flatMap A.enc ++ bs.drop (a + (l.flatMap A.enc).length) ∧ a + (l.flatMap A.enc).length ≤ bs.length
  | 0, acc, l', a, s', ha, h => by
    change Except.ok (acc, (a, 0, e)) = _ at h
    injection h with h
    injection h with h1 h2
    exact ⟨[], (by simp [h1]), rfl, (fun x hx => (by cases hx)), h2.symm, (by simp), (by simpa using ha)⟩
  | n + 1, acc, l', a, s', ha, h => by
    change Rdr.bind _ _ _ = _ at h
    rcases h1 : A.rd bs (a, 0, e) with f | ⟨y, s1⟩
    · rw [bind_err h1] at h; cases h
    · rw [bind_ok h1] at h
      obtain ⟨a1, a2, a3, a4⟩ := A.r3 bs a e y s1 ha h1
      subst a2
      obtain ⟨l, b1, b2, b3, b4, b5, b6⟩ := times_r3 bs e n (acc ++ [y]) l' _ s' a4 h
      refine ⟨y :: l, by simp [b1], by simp [b2], fun x hx => ?_, ?_, ?_, ?_⟩
      · rcases List.mem_cons.1 hx with rfl | hx
        · exact a1
        · exact b3 x hx
      · rw [b4, List.flatMap_cons, List.length_append, Nat.add_assoc]
      · rw [List.flatMap_cons, List.length_append, ← Nat.add_assoc, List.append_assoc, ← b5, ← a3]
      · rw [List.flatMap_cons, List.length_append, ← Nat.add_assoc]; exact b6
theorem times_r4 (bs : List UInt8) (e : Int) : ∀ (n : Nat) (acc : List α) (a : Nat) (k at_ : Int), a ≤ bs.length → timesR (A.rd bs) n acc (a, 0, e) = .error (k, at_) → k ≠ 0 ∧ 0 ≤ at_ ∧ at_ ≤ (bs.length : Int)
  | 0, acc, a, k, at_, ha, h => by
    change Except.ok (acc, (a, 0, e)) = _ at h
    cases h
  | n + 1, acc, a, k, at_, ha, h => by
    change Rdr.bind _ _ _ = _ at h
    rcases h1 : A.rd bs (a, 0, e) with ⟨f1, f2⟩ | ⟨y, s1⟩
    · rw [bind_err h1] at h
      injection h with h
      injection h with h2 h3
      subst h2
      subst h3
      exact A.r4 _ _ _ _ _ ha h1
    · rw [bind_ok h1] at h
      obtain ⟨a1, a2, a3, a4⟩ := A.r3 bs a e y s1 ha h1
      subst a2
      exact times_r4 bs e n _ _ k at_ a4 h
end
/-- A list. -/
def Fm.list {α : Type} (A : Fm α) (most : Nat) (hmost : most ≤ 100000) : Fm (List α) where
  wr st l := putC A.wr st l
  rd bs := listR bs most (A.rd bs)
  enc l := grp l.length ++ l.flatMap A.enc
  wf l := l.length ≤ most ∧ ∀ x ∈ l, A.wf x
  lg l := l.any A.lg
  w1 st l h := by
    obtain ⟨h1, h2⟩ := fold_w1 A l _ h
    have h3 := numF.w1 st (l.length : Int) h1
    refine ⟨h3.1, ?_⟩
    unfold putC
    rw [h2]
    have h4 : (numC st (l.length : Int)).1.1 = st.1.1 ++ grp l.length := h3.2
    rw [h4, List.append_assoc]
  w2 st l h0 hw hl := by
    rw [List.length_append] at hl
    unfold putC
    have h1 : numC st (l.length : Int) = ((st.1.1 ++ grp l.length, 0), st.2) := numF.w2 st (l.length : Int) h0 ⟨by omega, by rw [Int.toNat_natCast]; have := hw.1; omega⟩ (by show _ + (grp ((l.length : Int)).toNat).length ≤ _; rw [Int.toNat_natCast]; omega)
    rw [h1, fold_w2 A l _ rfl hw.2 (by simp only [List.length_append]; omega)]
    simp only [List.append_assoc]
  w3 st l := by
    unfold putC
    rw [fold_w3 A l]
    rfl
  w5 st l h := fold_w5 A l _ (wr1_len h)
  r1 bs a e l rest hw hd ha := by
    have hn := hw.1
    rw [List.append_assoc] at hd
    obtain ⟨d1, d2⟩ := drop_next hd ha
    unfold listR
    rw [bind_ok (numR_r1 bs a e l.length _ (by omega) hd)]
    show Rdr.bind (mustR (decide (l.length ≤ most)) 12 _) _ _ = _
    rw [decide_eq_true hn]
    show timesR _ _ _ _ = _
    rw [times_r1 A bs e rest l [] _ hw.2 d1 d2]
    simp [Nat.add_assoc]
  r2 bs a e l more hw hd hm ha := by
    have hn := hw.1
    unfold listR
    have go : ∀ c, bs.drop a = grp l.length ++ c → l.flatMap A.enc = c ++ more → ∃ at_, ((numR bs).bind fun n => (mustR (decide (n.1 ≤ most)) 12 n.2).bind fun _ => timesR (A.rd bs) n.1 []) (a, 0, e) = .error (13, at_) := fun c h1 h2 => by
      obtain ⟨d1, d2⟩ := drop_next h1 ha
      obtain ⟨at_, h⟩ := times_r2 A bs e more hm l [] _ hw.2 (by rw [d1]; exact h2) d2
      refine ⟨at_, ?_⟩
      rw [bind_ok (numR_r1 bs a e l.length c (by omega) h1)]
      show Rdr.bind (mustR (decide (l.length ≤ most)) 12 _) _ _ = _
      rw [decide_eq_true hn]
      exact h
    rcases List.append_eq_append_iff.1 hd with ⟨c, h1, h2⟩ | ⟨c, h1, h2⟩
    · exact go c h1 h2
    · by_cases hc : c = []
      · subst hc
        rw [List.append_nil] at h1
        rw [List.nil_append] at h2
        exact go [] (by rw [List.append_nil]; exact h1.symm) (by rw [List.nil_append]; exact h2.symm)
      · exact ⟨_, bind_err (numR_r2 bs a e l.length c (by omega) h1 hc)⟩
  r3 bs a e l s' ha h := by
    unfold listR at h
    rcases h1 : numR bs (a, 0, e) with f | ⟨⟨n, at_⟩, s1⟩
    · rw [bind_err h1] at h; cases h
    · rw [bind_ok h1] at h
      obtain ⟨_, k1, k2, k3, k4⟩ := numR_r3 bs a e n at_ s1 ha h1
      subst k2
      change Rdr.bind (mustR (decide (n ≤ most)) 12 _) _ _ = _ at h
      by_cases hn : n ≤ most
      · rw [decide_eq_true hn] at h
        change timesR _ _ _ _ = _ at h
        obtain ⟨l2, b1, b2, b3, b4, b5, b6⟩ := times_r3 A bs e n [] l _ s' k4 h
        rw [List.nil_append] at b1
        subst b1
        subst b2
        refine ⟨⟨hn, b3⟩, ?_, ?_, ?_⟩
        · rw [b4, List.length_append, Nat.add_assoc]
        · rw [List.length_append, ← Nat.add_assoc, List.append_assoc, ← b5, ← k3]
        · rw [List.length_append, ← Nat.add_assoc]; exact b6
      · rw [decide_eq_false hn] at h
        change Except.error _ = _ at h
        cases h
  r4 bs a e k at_ ha h := by
    unfold listR at h
    rcases h1 : numR bs (a, 0, e) with ⟨f1, f2⟩ | ⟨⟨n, at2⟩, s1⟩
    · rw [bind_err h1] at h
      injection h with h
      injection h with h2 h3
      subst h2
      subst h3
      obtain ⟨k1, k2⟩ := numR_r4 _ _ _ _ _ h1
      exact ⟨k1, by omega, by omega⟩
    · rw [bind_ok h1] at h
      obtain ⟨k0, k1, k2, k3, k4⟩ := numR_r3 bs a e n at2 s1 ha h1
      subst k2
      subst k0
      change Rdr.bind (mustR (decide (n ≤ most)) 12 _) _ _ = _ at h
      by_cases hn : n ≤ most
      · rw [decide_eq_true hn] at h
        change timesR _ _ _ _ = _ at h
        exact times_r4 A bs e n [] _ k at_ k4 h
      · rw [decide_eq_false hn] at h
        change Except.error _ = _ at h
        injection h with h
        injection h with h2 h3
        subst h2
        subst h3
        exact ⟨by decide, by omega, by omega⟩
end Go.Proofs.YtcapdmicekialaaGreat
/- Modules: their form; what Encode and Decode tell of each other: plain. -/
namespace Go.Proofs.YtcapdmicekialaaGreat
open Go.RowKit
set_option linter.unusedVariables false
set_option linter.unusedSimpArgs false
theorem bind_assoc {α β γ : Type} (r : Rdr α) (f : α → Rdr β) (g : β → Rdr γ) : (r.bind f).bind g = r.bind fun a => (f a).bind g := by
  funext s
  unfold Rdr.bind
  rcases r s with e | ⟨a, s'⟩ <;> rfl
theorem pure_bind {α β : Type} (a : α) (f : α → Rdr β) : (Rdr.pure a).bind f = f a := rfl
/-- A sign. -/
def signF : Fm Bool where
  wr st b := numC st (if b then 1 else 0)
  rd bs := (numR bs).bind fun s => (mustR (decide (s.1 ≤ 1)) 5 s.2).bind fun _ => Rdr.pure (decide (s.1 = 1))
  enc b := grp (if b then 1 else 0)
  wf _ := True
  lg _ := false
  w1 st x h := by
    have h1 := wr1_st h
    refine ⟨h1.1, ?_⟩
    show (wr1 _ _ _ _ _).1 = _
    rw [h1.2.2]
    cases x <;> rfl
  w2 st x h0 _ hl := by
    unfold numC wrNum
    cases x
    · rw [h0, decide_eq_true (by decide)]; exact congrArg (·, st.2) (wr1_fit hl)
    · rw [h0, decide_eq_true (by decide)]; exact congrArg (·, st.2) (wr1_fit hl)
  w3 st x := by simp [numC]
  w5 st x h := wr1_len h
  r1 bs a e x rest _ hd ha := by
    rw [bind_ok (numR_r1 bs a e _ rest (by cases x <;> decide) hd)]
    cases x <;> rfl
  r2 bs a e x more _ hd hm ha := ⟨_, bind_err (numR_r2 bs a e _ more (by cases x <;> decide) hd hm)⟩
  r3 bs a e x s' ha h := by
    rcases h1 : numR bs (a, 0, e) with f | ⟨⟨n, at_⟩, s1⟩
    · rw [bind_err h1] at h; cases h
    · rw [bind_ok h1] at h
      obtain ⟨_, k1, k2, k3, k4⟩ := numR_r3 bs a e n at_ s1 ha h1
      change Rdr.bind (mustR (decide (n ≤ 1)) 5 _) _ _ = _ at h
      by_cases hn : n ≤ 1
      · rw [decide_eq_true hn] at h
        change Except.ok (decide (n = 1), s1) = _ at h
        injection h with h
        injection h with h2 h3
        subst h3
        have he : (if x = true then 1 else 0) = n := by
          rw [← h2]
          by_cases h0 : n = 1
          · simp [h0]
          · rw [decide_eq_false h0]; simp; omega
        rw [he]
        exact ⟨trivial, k2, k3, k4⟩
      · rw [decide_eq_false hn] at h
        change Except.error _ = _ at h
        cases h
  r4 bs a e k at_ ha h := by
    rcases h1 : numR bs (a, 0, e) with ⟨f1, f2⟩ | ⟨⟨n, at2⟩, s1⟩
    · rw [bind_err h1] at h
      injection h with h
      injection h with h2 h3
      subst h2
      subst h3
      obtain ⟨k1, k2⟩ := numR_r4 _ _ _ _ _ h1
      exact ⟨k1, by omega, by omega⟩
    · rw [bind_ok h1] at h
      obtain ⟨k0, k1, k2, k3, k4⟩ := numR_r3 bs a e n at2 s1 ha h1
      subst k0
      change Rdr.bind (mustR (decide (n ≤ 1)) 5 _) _ _ = _ at h
      by_cases hn : n ≤ 1
      · rw [decide_eq_true hn] at h
        change Except.ok _ = _ at h
        cases h
      · rw [decide_eq_false hn] at h
        change Except.error _ = _ at h
        injection h with h
        injection h with h2 h3
        subst h2
        subst h3
        exact ⟨by decide, by omega, by omega⟩
def opF : Fm Int := (signF.pair numF).iso (fun x => if x.1 then -1 - x.2 else x.2) (fun n => if n < 0 then (true, -1 - n) else (false, n))
  (fun n => by
    by_cases h : n < 0
    · simp [h]; omega
    · simp [h])
  (fun x hx => by
    obtain ⟨b, n⟩ := x
    have h0 : 0 ≤ n := hx.2.1
    cases b
    · have : ¬ n < 0 := by omega
      simp [this]
    · have : -1 - n < 0 := by omega
      simp [this]
      omega)
def vrF : Fm Vr := wordF.pair wordF
def sgF : Fm Sg := (wordF.pair ((vrF.list 8 (by decide)).pair wordF)).iso (fun x => ⟨x.1, x.2.1, x.2.2⟩) (fun s => (s.name, s.params, s.result)) (fun _ => rfl) (fun _ _ => rfl)
def clF : Fm Cl := (wordF.pair (wordF.pair ((vrF.list 20 (by decide)).pair (sgF.list 20 (by decide))))).iso (fun x => ⟨x.1, x.2.1, x.2.2.1, x.2.2.2⟩) (fun s => (s.name, s.super, s.fields, s.methods)) (fun _ => rfl) (fun _ _ => rfl)
def stF : Fm St := (numF.pair (wordF.pair wordF)).iso (fun x => ⟨x.1, x.2.1, x.2.2⟩) (fun s => (s.what, s.src, s.dst)) (fun _ => rfl) (fun _ _ => rfl)
def inF : Fm In := (numF.pair (opF.pair (opF.pair opF))).iso (fun x => ⟨x.1, x.2.1, x.2.2.1, x.2.2.2⟩) (fun s => (s.op, s.a, s.b, s.c)) (fun _ => rfl) (fun _ _ => rfl)
def fuF : Fm Fu := (wordF.pair (wordF.pair ((wordF.list 200 (by decide)).pair (inF.list 20000 (by decide))))).iso (fun x => ⟨x.1, x.2.1, x.2.2.1, x.2.2.2⟩) (fun s => (s.cls, s.name, s.locals, s.code)) (fun _ => rfl) (fun _ _ => rfl)
def mdF : Fm Md := ((justF 67 (by decide)).pair ((justF 1 (by decide)).pair ((clF.list 40 (by decide)).pair ((stF.list 5000 (by decide)).pair ((wordF.list 2000 (by decide)).pair (fuF.list 1000 (by decide))))))).iso
  (fun x => ⟨x.2.2.1, x.2.2.2.1, x.2.2.2.2.1, x.2.2.2.2.2⟩) (fun m => ((), (), m.table, m.sites, m.pool, m.funcs)) (fun _ => rfl) (fun _ _ => rfl)
theorem opF_rd (bs : List UInt8) : opF.rd bs = opR bs := by
  show ((((numR bs).bind fun s => (mustR (decide (s.1 ≤ 1)) 5 s.2).bind fun _ => Rdr.pure (decide (s.1 = 1))).bind fun a => ((numR bs).bind fun n => Rdr.pure (n.1 : Int)).bind fun b => Rdr.pure (a, b)).bind fun x => Rdr.pure (if x.1 then -1 - x.2 else x.2)) = _
  simp only [bind_assoc, pure_bind, decide_eq_true_eq]
  rfl
theorem opF_wr (st : CS) (n : Int) : opF.wr st n = opC st n := by
  unfold opC
  by_cases h : n < 0
  · show numC (numC st (if (if n < 0 then (true, -1 - n) else (false, n)).1 then 1 else 0)) (if n < 0 then (true, -1 - n) else (false, n)).2 = _
    simp only [if_pos h, if_true]
  · show numC (numC st (if (if n < 0 then (true, -1 - n) else (false, n)).1 then 1 else 0)) (if n < 0 then (true, -1 - n) else (false, n)).2 = _
    simp only [if_neg h]
    rfl
theorem sgF_rd (bs : List UInt8) : sgF.rd bs = sgR bs := by
  show (((wordR bs).bind fun a => ((listR bs 8 (vrF.rd bs)).bind fun l => (wordR bs).bind fun b => Rdr.pure (l, b)).bind fun b => Rdr.pure (a, b)).bind fun x => Rdr.pure (⟨x.1, x.2.1, x.2.2⟩ : Sg)) = _
  simp only [bind_assoc, pure_bind]
  rfl
theorem clF_rd (bs : List UInt8) : clF.rd bs = clR bs := by
  show (((wordR bs).bind fun a => ((wordR bs).bind fun c => ((listR bs 20 (vrF.rd bs)).bind fun l => (listR bs 20 (sgF.rd bs)).bind fun b => Rdr.pure (l, b)).bind fun b => Rdr.pure (c, b)).bind fun b => Rdr.pure (a, b)).bind fun x => Rdr.pure (⟨x.1, x.2.1, x.2.2.1, x.2.2.2⟩ : Cl)) = _
  rw [sgF_rd]
  simp only [bind_assoc, pure_bind]
  rfl
theorem stF_rd (bs : List UInt8) : stF.rd bs = stR bs := by
  show ((((numR bs).bind fun n => Rdr.pure (n.1 : Int)).bind fun a => ((wordR bs).bind fun l => (wordR bs).bind fun b => Rdr.pure (l, b)).bind fun b => Rdr.pure (a, b)).bind fun x => Rdr.pure (⟨x.1, x.2.1, x.2.2⟩ : St)) = _
  simp only [bind_assoc, pure_bind]
  rfl
theorem inF_rd (bs : List UInt8) : inF.rd bs = inR bs := by
  show ((((numR bs).bind fun n => Rdr.pure (n.1 : Int)).bind fun a => ((opF.rd bs).bind fun c => ((opF.rd bs).bind fun l => (opF.rd bs).bind fun b => Rdr.pure (l, b)).bind fun b => Rdr.pure (c, b)).bind fun b => Rdr.pure (a, b)).bind fun x => Rdr.pure (⟨x.1, x.2.1, x.2.2.1, x.2.2.2⟩ : In)) = _
  rw [opF_rd]
  simp only [bind_assoc, pure_bind]
  rfl
theorem fuF_rd (bs : List UInt8) : fuF.rd bs = fuR bs := by
  show (((wordR bs).bind fun a => ((wordR bs).bind fun c => ((listR bs 200 (wordR bs)).bind fun l => (listR bs 20000 (inF.rd bs)).bind fun b => Rdr.pure (l, b)).bind fun b => Rdr.pure (c, b)).bind fun b => Rdr.pure (a, b)).bind fun x => Rdr.pure (⟨x.1, x.2.1, x.2.2.1, x.2.2.2⟩ : Fu)) = _
  rw [inF_rd]
  simp only [bind_assoc, pure_bind]
  rfl
theorem mdF_rd (bs : List UInt8) : mdF.rd bs = mdR bs := by
  show (((justR bs 67).bind fun a => ((justR bs 1).bind fun a2 => ((listR bs 40 (clF.rd bs)).bind fun c => ((listR bs 5000 (stF.rd bs)).bind fun d => ((listR bs 2000 (wordR bs)).bind fun l => (listR bs 1000 (fuF.rd bs)).bind fun b => Rdr.pure (l, b)).bind fun b => Rdr.pure (d, b)).bind fun b => Rdr.pure (c, b)).bind fun b => Rdr.pure (a2, b)).bind fun b => Rdr.pure (a, b)).bind fun x => Rdr.pure (⟨x.2.2.1, x.2.2.2.1, x.2.2.2.2.1, x.2.2.2.2.2⟩ : Md)) = _
  rw [clF_rd, stF_rd, fuF_rd]
  simp only [bind_assoc, pure_bind]
  rfl
theorem inF_wr : inF.wr = inC := by
  funext st x
  show opF.wr (opF.wr (opF.wr (numC st x.op) x.a) x.b) x.c = _
  rw [opF_wr, opF_wr, opF_wr]
  rfl
theorem fuF_wr : fuF.wr = fuC := by
  funext st x
  show putC inF.wr _ _ = _
  rw [inF_wr]
  rfl
theorem mdF_wr (m : Md) : mdF.wr st0 m = mdC m := by
  show putC fuF.wr _ _ = _
  rw [fuF_wr]
  rfl
/-- The numbers of a module are of an int. -/
def NumsOk (m : Md) : Prop := (∀ x ∈ m.sites, iz x.what) ∧ ∀ f ∈ m.funcs, ∀ i ∈ f.code, iz i.op ∧ iz i.a ∧ iz i.b ∧ iz i.c
theorem all2_mem2 {β γ : Type} {P : β → γ → Prop} {Q : γ → Prop} (hq : ∀ x y, P x y → Q y) : ∀ {a : List β} {b : List γ}, all2 P a b → ∀ y ∈ b, Q y
  | [], [], _, y, hy => by cases hy
  | z :: a, x :: b, h, y, hy => by
    rcases List.mem_cons.1 hy with rfl | hy
    · exact hq _ _ h.1
    · exact all2_mem2 hq h.2 y hy
  | [], _ :: _, h, _, _ => h.elim
  | _ :: _, [], h, _, _ => h.elim
theorem sl_mem {α : Type} {K : Kind α} {S : World → Prop} {v : Value} {l : List α} {Q : α → Prop} (h : K.slS S v l) (hq : ∀ cs x, K.told S cs x → Q x) : ∀ x ∈ l, Q x := by
  obtain ⟨A, c, css, _, _, hf, _⟩ := h
  exact all2_mem2 hq hf
theorem nums_told {S : World → Prop} {cs : List Value} {m : Md} (h : mdK.told S cs m) : NumsOk m := by
  obtain ⟨t, s, p, f, rfl, h1, h2, h3, h4⟩ := h
  refine ⟨sl_mem h2 (fun cs x hx => hx.2.1), sl_mem h4 (fun cs x hx => ?_)⟩
  obtain ⟨ls, cd, rfl, _, _, _, h5⟩ := hx
  exact sl_mem h5 (fun cs y hy => hy.2)
theorem n63_of {n : Int} (h : iz n) (h0 : 0 ≤ n) : n63 n := by
  unfold iz at h
  unfold n63
  omega
theorem op_wf {n : Int} (h : iz n) : opF.wf n := by
  show True ∧ n63 (if n < 0 then (true, -1 - n) else (false, n)).2
  refine ⟨trivial, ?_⟩
  by_cases h0 : n < 0
  · simp only [if_pos h0]
    unfold iz at h
    unfold n63
    omega
  · simp only [if_neg h0]
    exact n63_of h (by omega)
theorem word_wf {s : ByteArray} (h : wordF.lg s = false) : wordF.wf s := by
  have : ¬ 1000 < s.size := of_decide_eq_false h
  show s.size ≤ 1000
  omega
theorem or_f {a b : Bool} (h : (a || b) = false) : a = false ∧ b = false := by
  cases a <;> cases b <;> simp_all
theorem any_f {α : Type} {l : List α} {p : α → Bool} (h : l.any p = false) : ∀ x ∈ l, p x = false := by
  intro x hx
  rw [List.any_eq_false] at h
  simpa using h x hx
theorem vr_wf {x : Vr} (h : vrF.lg x = false) : vrF.wf x := ⟨word_wf (or_f h).1, word_wf (or_f h).2⟩
theorem sg_wf {x : Sg} (h : sgF.lg x = false) (hm : manySg x = false) : sgF.wf x := by
  obtain ⟨h1, h2⟩ := or_f h
  obtain ⟨h3, h4⟩ := or_f h2
  have hm' : ¬ 8 < x.params.length := of_decide_eq_false hm
  exact ⟨word_wf h1, ⟨by show x.params.length ≤ 8; omega, fun y hy => vr_wf (any_f h3 y hy)⟩, word_wf h4⟩
theorem cl_wf {x : Cl} (h : clF.lg x = false) (hm : manyCl x = false) : clF.wf x := by
  obtain ⟨h1, h2⟩ := or_f h
  obtain ⟨h3, h4⟩ := or_f h2
  obtain ⟨h5, h6⟩ := or_f h4
  obtain ⟨m1, m2⟩ := or_f hm
  obtain ⟨m3, m4⟩ := or_f m1
  have m3' := of_decide_eq_false m3
  have m4' := of_decide_eq_false m4
  exact ⟨word_wf h1, word_wf h3, ⟨by show x.fields.length ≤ 20; omega, fun y hy => vr_wf (any_f h5 y hy)⟩, by show x.methods.length ≤ 20; omega, fun y hy => sg_wf (any_f h6 y hy) (any_f m2 y hy)⟩
theorem st_wf {x : St} (h : stF.lg x = false) (hb : belowSt x = false) (hi : iz x.what) : stF.wf x := by
  obtain ⟨h3, h4⟩ := or_f h
  have hb' := of_decide_eq_false hb
  exact ⟨n63_of hi (by show 0 ≤ x.what; omega), word_wf h3, word_wf h4⟩
theorem in_wf {x : In} (hb : belowIn x = false) (hi : iz x.op ∧ iz x.a ∧ iz x.b ∧ iz x.c) : inF.wf x := by
  have hb' := of_decide_eq_false hb
  exact ⟨n63_of hi.1 (by show 0 ≤ x.op; omega), op_wf hi.2.1, op_wf hi.2.2.1, op_wf hi.2.2.2⟩
theorem fu_wf {x : Fu} (h : fuF.lg x = false) (hm : manyFu x = false) (hb : belowFu x = false) (hi : ∀ i ∈ x.code, iz i.op ∧ iz i.a ∧ iz i.b ∧ iz i.c) : fuF.wf x := by
  obtain ⟨h1, h2⟩ := or_f h
  obtain ⟨h3, h4⟩ := or_f h2
  obtain ⟨h5, h6⟩ := or_f h4
  obtain ⟨m1, m2⟩ := or_f hm
  have m1' := of_decide_eq_false m1
  have m2' := of_decide_eq_false m2
  exact ⟨word_wf h1, word_wf h3, ⟨by show x.locals.length ≤ 200; omega, fun y hy => word_wf (any_f h5 y hy)⟩, by show x.code.length ≤ 20000; omega, fun y hy => in_wf (any_f hb y hy) (hi y hy)⟩
theorem md_wf {m : Md} (h : mdF.lg m = false) (hm : manyM m = false) (hb : belowM m = false) (hi : NumsOk m) : mdF.wf m := by
  obtain ⟨h1, h⟩ := or_f h
  obtain ⟨h2, h⟩ := or_f h
  obtain ⟨h3, h4⟩ := or_f h
  obtain ⟨m0, m5⟩ := or_f hm
  obtain ⟨m0, m4⟩ := or_f m0
  obtain ⟨m0, m3⟩ := or_f m0
  obtain ⟨m1, m2⟩ := or_f m0
  obtain ⟨m6, m7⟩ := or_f m5
  obtain ⟨b1, b2⟩ := or_f hb
  have m1' := of_decide_eq_false m1
  have m2' := of_decide_eq_false m2
  have m3' := of_decide_eq_false m3
  have m4' := of_decide_eq_false m4
  exact ⟨trivial, trivial, ⟨by show m.table.length ≤ 40; omega, fun y hy => cl_wf (any_f h1 y hy) (any_f m6 y hy)⟩, ⟨by show m.sites.length ≤ 5000; omega, fun y hy => st_wf (any_f h2 y hy) (any_f b1 y hy) (hi.1 y hy)⟩,
    ⟨by show m.pool.length ≤ 2000; omega, fun y hy => word_wf (any_f h3 y hy)⟩, by show m.funcs.length ≤ 1000; omega, fun y hy => fu_wf (any_f h4 y hy) (any_f m7 y hy) (any_f b2 y hy) (hi.2 y hy)⟩
/-- And back: what is well formed is not too many, nor below 0. -/
theorem sg_few {x : Sg} (h : sgF.wf x) : manySg x = false := decide_eq_false (by have : x.params.length ≤ 8 := h.2.1.1; omega)
theorem cl_few {x : Cl} (h : clF.wf x) : manyCl x = false := by
  have h1 : x.fields.length ≤ 20 := h.2.2.1.1
  have h2 : x.methods.length ≤ 20 := h.2.2.2.1
  unfold manyCl
  rw [decide_eq_false (by omega), decide_eq_false (by omega), List.any_eq_false.2 fun y hy => by rw [sg_few (h.2.2.2.2 y hy)]; decide]
  rfl
theorem fu_few {x : Fu} (h : fuF.wf x) : manyFu x = false := by
  have h1 : x.locals.length ≤ 200 := h.2.2.1.1
  have h2 : x.code.length ≤ 20000 := h.2.2.2.1
  unfold manyFu
  rw [decide_eq_false (by omega), decide_eq_false (by omega)]
  rfl
theorem md_few {m : Md} (h : mdF.wf m) : manyM m = false := by
  have h1 : m.table.length ≤ 40 := h.2.2.1.1
  have h2 : m.sites.length ≤ 5000 := h.2.2.2.1.1
  have h3 : m.pool.length ≤ 2000 := h.2.2.2.2.1.1
  have h4 : m.funcs.length ≤ 1000 := h.2.2.2.2.2.1
  unfold manyM
  rw [decide_eq_false (by omega), decide_eq_false (by omega), decide_eq_false (by omega), decide_eq_false (by omega), List.any_eq_false.2 fun y hy => by rw [cl_few (h.2.2.1.2 y hy)]; decide, List.any_eq_false.2 fun y hy => by rw [fu_few (h.2.2.2.2.2.2 y hy)]; decide]
  rfl
theorem fu_up {x : Fu} (h : fuF.wf x) : belowFu x = false := List.any_eq_false.2 fun y hy => by
  have h1 : 0 ≤ y.op := (h.2.2.2.2 y hy).1.1
  unfold belowIn
  rw [decide_eq_false (by omega)]; decide
theorem md_up {m : Md} (h : mdF.wf m) : belowM m = false := by
  unfold belowM
  rw [List.any_eq_false.2 fun y hy => ?_, List.any_eq_false.2 fun y hy => by rw [fu_up (h.2.2.2.2.2.2 y hy)]; decide]
  · rfl
  · have h1 : 0 ≤ y.what := (h.2.2.2.1.2 y hy).1.1
    unfold belowSt
    rw [decide_eq_false (by omega)]; decide
/-- What Encode tells, if it tells bytes. -/
theorem enc_ok {m : Md} (hi : NumsOk m) (h : (encM m).2 = 0) : mdF.wf m ∧ encM m = (mdF.enc m, 0) := by
  unfold encM at h ⊢
  by_cases g1 : manyM m = true
  · rw [if_pos g1] at h; exact absurd h (by decide)
  · rw [if_neg g1] at h ⊢
    by_cases g2 : belowM m = true
    · rw [if_pos g2] at h; exact absurd h (by decide)
    · rw [if_neg g2] at h ⊢
      by_cases g3 : (mdC m).2 = true
      · rw [if_pos g3] at h; exact absurd h (by decide)
      · rw [if_neg g3] at h ⊢
        by_cases g4 : (mdC m).1.2 ≠ 0
        · rw [if_pos g4] at h; exact absurd h (by decide)
        · rw [if_neg g4]
          have h5 := mdF.w1 st0 m (by rw [mdF_wr]; simpa using g4)
          have h6 := mdF.w3 st0 m
          rw [mdF_wr] at h5 h6
          have hlg : mdF.lg m = false := by
            rw [show st0.2 = false from rfl, Bool.false_or] at h6
            rw [← h6]; simpa using g3
          exact ⟨md_wf hlg (by simpa using g1) (by simpa using g2) hi, by rw [h5.2]; rfl⟩
theorem enc_no {m : Md} (h : ¬ (encM m).2 = 0) : (encM m).1 = [] ∧ ((encM m).2 = 12 ∨ (encM m).2 = 3 ∨ (encM m).2 = 4) := by
  unfold encM at h ⊢
  by_cases g1 : manyM m = true
  · rw [if_pos g1]; exact ⟨rfl, .inl rfl⟩
  · rw [if_neg g1] at h ⊢
    by_cases g2 : belowM m = true
    · rw [if_pos g2]; exact ⟨rfl, .inr (.inl rfl)⟩
    · rw [if_neg g2] at h ⊢
      by_cases g3 : (mdC m).2 = true
      · rw [if_pos g3]; exact ⟨rfl, .inr (.inr rfl)⟩
      · rw [if_neg g3] at h ⊢
        by_cases g4 : (mdC m).1.2 ≠ 0
        · rw [if_pos g4]; exact ⟨rfl, .inr (.inr rfl)⟩
        · rw [if_neg g4] at h
          exact absurd rfl h
theorem enc_wf {m : Md} (hw : mdF.wf m) (hl : (mdF.enc m).length ≤ 1048576) : encM m = (mdF.enc m, 0) := by
  have h := mdF.w2 st0 m rfl hw (by simpa [st0] using hl)
  rw [mdF_wr] at h
  unfold encM
  rw [md_few hw, md_up hw, h]
  simp [st0]
/-- What Decode tells of what was encoded; of more; of less. -/
theorem dec_back {m : Md} (hw : mdF.wf m) : decM (mdF.enc m) = (m, (0, 0)) := by
  have h := mdF.r1 (mdF.enc m) 0 0 m [] hw (by simp) (Nat.zero_le _)
  rw [mdF_rd] at h
  unfold decM
  rw [h]
  simp [rEnd]
theorem dec_more {m : Md} (hw : mdF.wf m) (b : UInt8) : decM (mdF.enc m ++ [b]) = (noMd, (4, ((mdF.enc m).length : Int))) := by
  have h := mdF.r1 (mdF.enc m ++ [b]) 0 0 m [b] hw (by simp) (Nat.zero_le _)
  rw [mdF_rd] at h
  unfold decM
  rw [h]
  simp [rEnd]
theorem dec_less {m : Md} (hw : mdF.wf m) (k : Nat) (hk : k < (mdF.enc m).length) : (decM ((mdF.enc m).take k)).2.1 = 13 := by
  obtain ⟨at_, h⟩ := mdF.r2 ((mdF.enc m).take k) 0 0 m ((mdF.enc m).drop k) hw (by simp) (by
    intro e
    have := congrArg List.length e
    rw [List.length_drop] at this
    simp at this
    omega) (Nat.zero_le _)
  rw [mdF_rd] at h
  unfold decM
  rw [h]
theorem dec_fine {bs : List UInt8} (h : (decM bs).2.1 = 0) : mdF.wf (decM bs).1 ∧ bs = mdF.enc (decM bs).1 ∧ (decM bs).2.2 = 0 := by
  unfold decM at h ⊢
  rcases h1 : mdR bs (0, 0, 0) with ⟨f1, f2⟩ | ⟨m, s⟩
  · rw [h1] at h
    have := mdF.r4 bs 0 0 f1 f2 (Nat.zero_le _) (by rw [mdF_rd]; exact h1)
    exact absurd h this.1
  · rw [h1] at h
    obtain ⟨k1, k2, k3, k4⟩ := mdF.r3 bs 0 0 m s (Nat.zero_le _) (by rw [mdF_rd]; exact h1)
    subst k2
    simp only at h ⊢
    by_cases he : rEnd bs (0 + (mdF.enc m).length, 0, 0) = (0, 0)
    · simp only [if_pos he]
      refine ⟨k1, ?_, trivial⟩
      unfold rEnd at he
      simp only [ne_eq, not_true_eq_false, if_false] at he
      by_cases hlt : 0 + (mdF.enc m).length < bs.length
      · rw [if_pos hlt] at he
        injection he with he _
        exact absurd he (by decide)
      · have h5 : bs.drop (0 + (mdF.enc m).length) = [] := List.drop_eq_nil_of_le (by omega)
        rw [h5, List.append_nil] at k3
        simpa using k3
    · simp only [if_neg he] at h
      unfold rEnd at h he
      simp only [ne_eq, not_true_eq_false, if_false] at h he
      by_cases hlt : 0 + (mdF.enc m).length < bs.length
      · rw [if_pos hlt] at h; exact absurd h (show ¬ (4 : Int) = 0 by decide)
      · rw [if_neg hlt] at he; exact absurd rfl he
theorem dec_fault_at {bs : List UInt8} (h : ¬ (decM bs).2.1 = 0) : (decM bs).1 = noMd ∧ 0 ≤ (decM bs).2.2 ∧ (decM bs).2.2 ≤ (bs.length : Int) := by
  unfold decM at h ⊢
  rcases h1 : mdR bs (0, 0, 0) with ⟨f1, f2⟩ | ⟨m, s⟩
  · have := mdF.r4 bs 0 0 f1 f2 (Nat.zero_le _) (by rw [mdF_rd]; exact h1)
    exact ⟨rfl, this.2⟩
  · rw [h1] at h
    obtain ⟨k1, k2, k3, k4⟩ := mdF.r3 bs 0 0 m s (Nat.zero_le _) (by rw [mdF_rd]; exact h1)
    subst k2
    simp only at h ⊢
    by_cases he : rEnd bs (0 + (mdF.enc m).length, 0, 0) = (0, 0)
    · simp only [if_pos he] at h; exact absurd trivial h
    · simp only [if_neg he] at h ⊢
      unfold rEnd at h he ⊢
      simp only [ne_eq, not_true_eq_false, if_false] at h he ⊢
      by_cases hlt : 0 + (mdF.enc m).length < bs.length
      · rw [if_pos hlt]
        exact ⟨trivial, by omega, by omega⟩
      · rw [if_neg hlt] at he; exact absurd rfl he
theorem enc_ne (m : Md) : mdF.enc m ≠ [] := by
  show grp 67 ++ _ ≠ []
  rw [grp_lt (by decide)]
  simp
theorem enc_len {m : Md} (hi : NumsOk m) (h : (encM m).2 = 0) : (mdF.enc m).length ≤ 1048576 := by
  obtain ⟨hw, he⟩ := enc_ok hi h
  have h5 := mdF.w5 st0 m (by simp [st0])
  rw [mdF_wr] at h5
  have h6 : (encM m).1.length ≤ 1048576 := by
    unfold encM
    split
    · simp
    · split
      · simp
      · split
        · simp
        · split
          · simp
          · exact h5
  rw [he] at h6
  exact h6
end Go.Proofs.YtcapdmicekialaaGreat
