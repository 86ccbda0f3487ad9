/- What is read of any bytes is written as these: plain. -/
import Derived.Test.YtcapdmicekialaaGreatOcBackP
namespace Go.Proofs.YtcapdmicekialaaGreat
open Go.RowKit

theorem rdGo_inv : ∀ (l : List UInt8) (i acc n cnt : Nat), rdGo i acc l = (0, n, cnt) → ∃ m, n = acc + m * 128 ^ i ∧ l.take (cnt - i) = grp m ∧ i < cnt ∧ cnt - i ≤ l.length ∧ (0 < i → 0 < m)
  | [], i, acc, n, cnt, h => by
    have := congrArg Prod.fst h
    exact absurd this (show ¬ (13 : Int) = 0 by decide)
  | b :: l, i, acc, n, cnt, h => by
    have hb := b.toNat_lt
    rw [rdGo] at h
    by_cases h9 : i = 9
    · rw [if_pos h9] at h
      exact absurd (congrArg Prod.fst h) (show ¬ (5 : Int) = 0 by decide)
    · rw [if_neg h9] at h
      by_cases hb1 : b.toNat < 128
      · rw [if_pos hb1] at h
        by_cases h0 : b.toNat = 0 ∧ 0 < i
        · rw [if_pos h0] at h
          exact absurd (congrArg Prod.fst h) (show ¬ (5 : Int) = 0 by decide)
        · rw [if_neg h0] at h
          simp only [Prod.mk.injEq, true_and] at h
          obtain ⟨rfl, rfl⟩ := h
          refine ⟨b.toNat, rfl, ?_, by omega, by simp, by omega⟩
          rw [show i + 1 - i = 1 by omega, grp_lt hb1]
          simp
      · rw [if_neg hb1] at h
        obtain ⟨m, h1, h2, h3, h4, h5⟩ := rdGo_inv l (i + 1) _ n cnt h
        have hm := h5 (by omega)
        refine ⟨(b.toNat - 128) + m * 128, ?_, ?_, by omega, by rw [List.length_cons]; omega, by omega⟩
        · rw [h1, Nat.pow_succ, Nat.add_mul, Nat.mul_assoc, Nat.mul_comm 128 (128 ^ i)]
          omega
        · rw [grp_ge (by omega), show cnt - i = (cnt - (i + 1)) + 1 by omega, List.take_succ_cons, h2]
          have e1 : (b.toNat - 128 + m * 128) / 128 = m := by omega
          have e2 : (b.toNat - 128 + m * 128) % 128 + 128 = b.toNat := by omega
          rw [e1, e2]
          simp
theorem rd_inv {l : List UInt8} {n cnt : Nat} (h : rdGo 0 0 l = (0, n, cnt)) : l.take cnt = grp n ∧ 1 ≤ cnt ∧ cnt ≤ l.length := by
  obtain ⟨m, h1, h2, h3, h4, _⟩ := rdGo_inv l 0 0 n cnt h
  rw [Nat.pow_zero, Nat.mul_one, Nat.zero_add] at h1
  subst h1
  exact ⟨h2, h3, h4⟩
theorem zz_unzz (n : Nat) (h : n < 9223372036854775808) : zz (unzz n) = n ∧ -4611686018427387904 ≤ unzz n ∧ unzz n < 4611686018427387904 := by
  unfold unzz zz
  by_cases hn : n % 2 = 1
  · rw [if_pos hn, if_pos (by omega)]; omega
  · rw [if_neg hn, if_neg (by omega)]; omega
/-- How reading and writing an item of any bytes end: a fault at their begin, or just these bytes again. -/
def OneSt (bs : List UInt8) (s : RS) (r : List UInt8 × Int) : Prop := (s.2.1 ≠ 0 ∧ s.2.2 = 0) ∨ (s.2.1 = 0 ∧ 1 ≤ s.1 ∧ s.1 ≤ bs.length ∧ r = (bs.take s.1, 0))
theorem one_num (bs : List UInt8) : OneSt bs (rNum bs (0, 0, 0)).2 (wrNum 200 [] 0 (rNum bs (0, 0, 0)).1) := by
  have hlt := rdGo_lt bs 0 0 (by decide) (by decide)
  rw [rNum_at (a := 0) (e := 0) (r := rdGo 0 0 bs) rfl]
  generalize hr : rdGo 0 0 bs = r at *
  obtain ⟨e, n, cnt⟩ := r
  by_cases he : e = 0
  · subst he
    obtain ⟨h1, h2, h3⟩ := rd_inv hr
    rw [if_pos rfl]
    simp only at hlt ⊢
    refine .inr ⟨rfl, by simp only; omega, by simp only; omega, ?_⟩
    have hg : (grp n).length = cnt := by rw [← h1, List.length_take]; omega
    have hg9 : (grp n).length ≤ 10 := grp_len n (by omega)
    unfold wrNum wr1
    rw [decide_eq_true (show (0 : Int) ≤ (n : Int) by omega), if_neg (by decide), if_neg (by decide), Int.toNat_natCast, if_neg (by simp only [List.length_nil]; omega), Nat.zero_add, h1, List.nil_append]
  · rw [if_neg he]
    exact .inl ⟨he, rfl⟩
theorem one_whole (bs : List UInt8) : OneSt bs (rWhole bs (0, 0, 0)).2 (wrWhole 200 [] 0 (rWhole bs (0, 0, 0)).1) := by
  have hlt := rdGo_lt bs 0 0 (by decide) (by decide)
  unfold rWhole
  rw [rNum_at (a := 0) (e := 0) (r := rdGo 0 0 bs) rfl]
  generalize hr : rdGo 0 0 bs = r at *
  obtain ⟨e, n, cnt⟩ := r
  by_cases he : e = 0
  · subst he
    obtain ⟨h1, h2, h3⟩ := rd_inv hr
    rw [if_pos rfl]
    simp only at hlt ⊢
    obtain ⟨z0, z1, z2⟩ := zz_unzz n hlt
    refine .inr ⟨rfl, by simp only; omega, by simp only; omega, ?_⟩
    have hg : (grp n).length = cnt := by rw [← h1, List.length_take]; omega
    have hg9 : (grp n).length ≤ 10 := grp_len n (by omega)
    unfold wrWhole wr1
    rw [decide_eq_true z1, decide_eq_true z2, if_neg (by decide), if_neg (by decide), z0, if_neg (by simp only [List.length_nil]; omega), Nat.zero_add, h1, List.nil_append]
  · rw [if_neg he]
    exact .inl ⟨he, rfl⟩
theorem one_word (bs : List UInt8) : OneSt bs (rWord bs (0, 0, 0) 60).2 (wrWord 200 [] 0 (strB (rWord bs (0, 0, 0) 60).1)) := by
  have hlt := rdGo_lt bs 0 0 (by decide) (by decide)
  rw [rWord_at (a := 0) (e := 0) (m := 60) (r := rdGo 0 0 bs) rfl]
  generalize hr : rdGo 0 0 bs = r at *
  obtain ⟨e, n, cnt⟩ := r
  by_cases he : e = 0
  · subst he
    obtain ⟨h1, h2, h3⟩ := rd_inv hr
    rw [if_neg (show ¬ (0 : Int) ≠ 0 by decide)]
    simp only at hlt ⊢
    by_cases hm : (60 : Int) < (n : Int)
    · rw [if_pos hm]; exact .inl ⟨by show (4 : Int) ≠ 0; decide, rfl⟩
    · rw [if_neg hm]
      by_cases hl : bs.length < 0 + cnt + n
      · rw [if_pos hl]; exact .inl ⟨by show (13 : Int) ≠ 0; decide, rfl⟩
      · rw [if_neg hl]
        refine .inr ⟨rfl, by simp only; omega, by simp only; omega, ?_⟩
        have hg : (grp n).length = cnt := by rw [← h1, List.length_take]; omega
        have hg9 : (grp n).length ≤ 10 := grp_len n (by omega)
        have hs : (strB ((bs.drop (0 + cnt)).take n)).size = n := by
          show ((bs.drop (0 + cnt)).take n).toArray.size = n
          rw [List.size_toArray, List.length_take, List.length_drop]; omega
        have hd : (strB ((bs.drop (0 + cnt)).take n)).data.toList = (bs.drop cnt).take n := by rw [Nat.zero_add]; rfl
        unfold wrWord wr1
        rw [hs, hd, if_neg (by decide), if_neg (by decide), if_neg (by simp only [List.length_nil, List.length_append, List.length_take, List.length_drop]; omega), ← h1, List.nil_append, Nat.zero_add, List.take_add]
  · rw [if_pos he]
    exact .inl ⟨he, rfl⟩
end Go.Proofs.YtcapdmicekialaaGreat
