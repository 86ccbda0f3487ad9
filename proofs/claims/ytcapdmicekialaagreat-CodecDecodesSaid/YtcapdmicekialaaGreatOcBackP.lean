/- What was written is read as it was: plain. -/
import Derived.Test.YtcapdmicekialaaGreatOcWrites
namespace Go.Proofs.YtcapdmicekialaaGreat
open Go.RowKit

theorem rdGo_grp : ∀ (j i acc n : Nat) (rest : List UInt8), i + j = 8 → n < 128 ^ (j + 1) → (i = 0 ∨ 0 < n) → rdGo i acc (grp n ++ rest) = (0, acc + n * 128 ^ i, i + (grp n).length)
  | 0, i, acc, n, rest, hij, hn, h0 => by
    have hn : n < 128 := by simpa using hn
    rw [grp_lt hn, List.singleton_append, rdGo, ofNat_nat (by omega), if_neg (by omega), if_pos hn, if_neg (by omega)]
    simp
  | j + 1, i, acc, n, rest, hij, hn, h0 => by
    by_cases hlt : n < 128
    · rw [grp_lt hlt, List.singleton_append, rdGo, ofNat_nat (by omega), if_neg (by omega), if_pos hlt, if_neg (by omega)]
      simp
    · rw [grp_ge hlt, List.cons_append, rdGo, ofNat_nat (by omega), if_neg (by omega), if_neg (by omega), rdGo_grp j (i + 1) _ (n / 128) rest (by omega) (by rw [Nat.div_lt_iff_lt_mul (by decide)]; rw [Nat.pow_succ] at hn; exact hn) (.inr (by omega))]
      rw [List.length_cons]
      have e : acc + (n % 128 + 128 - 128) * 128 ^ i + n / 128 * 128 ^ (i + 1) = acc + n * 128 ^ i := by
        rw [Nat.pow_succ, Nat.add_sub_cancel]
        have h := Nat.mod_add_div n 128
        have : n * 128 ^ i = (n % 128) * 128 ^ i + n / 128 * (128 ^ i * 128) := by
          conv => lhs; rw [← h]
          rw [Nat.add_mul, Nat.mul_comm (128 ^ i) 128, ← Nat.mul_assoc, Nat.mul_comm 128 (n / 128)]
        omega
      rw [e, show i + 1 + (grp (n / 128)).length = i + ((grp (n / 128)).length + 1) by omega]
theorem rdGo_cut : ∀ (j i acc n : Nat), i + j = 8 → n < 128 ^ (j + 1) → (rdGo i acc (grp n).dropLast).1 = 13
  | 0, i, acc, n, hij, hn => by
    have hn : n < 128 := by simpa using hn
    rw [grp_lt hn]; rfl
  | j + 1, i, acc, n, hij, hn => by
    by_cases hlt : n < 128
    · rw [grp_lt hlt]; rfl
    · have hne : grp (n / 128) ≠ [] := by
        intro h
        have := grp_pos (n / 128)
        rw [h] at this
        simp at this
      rw [grp_ge hlt, List.dropLast_cons_of_ne_nil hne, rdGo, ofNat_nat (by omega), if_neg (by omega), if_neg (by omega)]
      exact rdGo_cut j (i + 1) _ (n / 128) (by omega) (by rw [Nat.div_lt_iff_lt_mul (by decide)]; rw [Nat.pow_succ] at hn; exact hn)
theorem rd_grp (n : Nat) (rest : List UInt8) (h : n < 9223372036854775808) : rdGo 0 0 (grp n ++ rest) = (0, n, (grp n).length) := by
  rw [rdGo_grp 8 0 0 n rest rfl (Nat.lt_of_lt_of_le h (by decide)) (.inl rfl)]
  simp
theorem rd_cut (n : Nat) (h : n < 9223372036854775808) : (rdGo 0 0 (grp n).dropLast).1 = 13 := rdGo_cut 8 0 0 n rfl (Nat.lt_of_lt_of_le h (by decide))

/-- An item's bytes. -/
def encI (it : Item) : List UInt8 := if it.k = 0 then grp it.n.toNat else if it.k = 1 then grp (zz it.n) else if it.k = 2 then grp it.s.size ++ it.s.data.toList else []
/-- What a writer answers to an item. -/
def wrI (most : Int) (r : List UInt8 × Int) (it : Item) : List UInt8 × Int := if it.k = 0 then wrNum most r.1 r.2 it.n else if it.k = 1 then wrWhole most r.1 r.2 it.n else if it.k = 2 then wrWord most r.1 r.2 it.s else r
/-- May it be written at all? -/
def mayI (it : Item) : Prop := (it.k = 0 → 0 ≤ it.n) ∧ (it.k = 1 → -4611686018427387904 ≤ it.n ∧ it.n < 4611686018427387904)
theorem wr1_ok {most : Int} {bs : List UInt8} {may : Bool} {xs : List UInt8} (h : (wr1 most bs 0 may xs).2 = 0) : may = true ∧ wr1 most bs 0 may xs = (bs ++ xs, 0) := by
  unfold wr1 at *
  rw [if_neg (by decide)] at *
  cases may with
  | false => rw [if_pos rfl] at h; cases h
  | true =>
    rw [if_neg (by decide)] at *
    by_cases hl : most - bs.length < (xs.length : Int)
    · rw [if_pos hl] at h; cases h
    · rw [if_neg hl]; exact ⟨rfl, rfl⟩
theorem wrI_ok {most : Int} {bs : List UInt8} {it : Item} (h : (wrI most (bs, 0) it).2 = 0) : mayI it ∧ wrI most (bs, 0) it = (bs ++ encI it, 0) := by
  unfold wrI encI mayI at *
  by_cases h0 : it.k = 0
  · rw [if_pos h0] at *
    obtain ⟨h1, h2⟩ := wr1_ok h
    refine ⟨⟨fun _ => of_decide_eq_true h1, fun e => by omega⟩, ?_⟩
    rw [if_pos h0]; exact h2
  · rw [if_neg h0] at *
    rw [if_neg h0]
    by_cases h1 : it.k = 1
    · rw [if_pos h1] at *
      obtain ⟨h3, h2⟩ := wr1_ok h
      rw [Bool.and_eq_true, decide_eq_true_eq, decide_eq_true_eq] at h3
      refine ⟨⟨fun e => absurd e h0, fun _ => h3⟩, ?_⟩
      rw [if_pos h1]; exact h2
    · rw [if_neg h1] at *
      rw [if_neg h1]
      refine ⟨⟨fun e => absurd e h0, fun e => absurd e h1⟩, ?_⟩
      by_cases h2 : it.k = 2
      · rw [if_pos h2] at *
        rw [if_pos h2]; exact (wr1_ok h).2
      · rw [if_neg h2]
        rw [if_neg h2, List.append_nil]
theorem unzz_zz (n : Int) (h0 : -4611686018427387904 ≤ n) (h1 : n < 4611686018427387904) : unzz (zz n) = n ∧ zz n < 9223372036854775808 := by
  unfold unzz zz
  by_cases hn : n < 0
  · rw [if_pos hn]
    constructor
    · rw [if_pos (by omega)]; omega
    · omega
  · rw [if_neg hn]
    constructor
    · rw [if_neg (by omega)]; omega
    · omega
/-- What a reader makes of an item: the state behind it; whether just that item was read. -/
def rdI (bs : List UInt8) (s : RS) (it : Item) : Bool × RS :=
  if it.k = 0 then (decide (((rNum bs s).1 : Int) = it.n), (rNum bs s).2) else if it.k = 1 then (decide ((rWhole bs s).1 = it.n), (rWhole bs s).2)
  else if it.k = 2 then (decide ((rWord bs s it.s.size).1 = it.s.data.toList), (rWord bs s it.s.size).2) else (true, s)
theorem rdI_bad (bs : List UInt8) (s : RS) (it : Item) (h : s.2.1 ≠ 0) : (rdI bs s it).2 = s := by
  unfold rdI rWhole rNum rWord
  simp only [if_pos h]
  split
  · rfl
  · split
    · rfl
    · split <;> rfl
theorem encI0 {it : Item} (h : it.k = 0) : encI it = grp it.n.toNat := by unfold encI; rw [if_pos h]
theorem encI1 {it : Item} (h0 : ¬ it.k = 0) (h : it.k = 1) : encI it = grp (zz it.n) := by unfold encI; rw [if_neg h0, if_pos h]
theorem encI2 {it : Item} (h0 : ¬ it.k = 0) (h1 : ¬ it.k = 1) (h : it.k = 2) : encI it = grp it.s.size ++ it.s.data.toList := by unfold encI; rw [if_neg h0, if_neg h1, if_pos h]
theorem encI3 {it : Item} (h0 : ¬ it.k = 0) (h1 : ¬ it.k = 1) (h2 : ¬ it.k = 2) : encI it = [] := by unfold encI; rw [if_neg h0, if_neg h1, if_neg h2]
theorem rNum_at {bs : List UInt8} {a : Nat} {e : Int} {r : Int × Nat × Nat} (h : rdGo 0 0 (bs.drop a) = r) : rNum bs (a, 0, e) = if r.1 = 0 then (r.2.1, (a + r.2.2, 0, e)) else (0, (a, r.1, (a : Int))) := by
  unfold rNum; rw [if_neg (show ¬ (0 : Int) ≠ 0 by decide)]; simp only [h]
theorem rWord_at {bs : List UInt8} {a : Nat} {e m : Int} {r : Int × Nat × Nat} (h : rdGo 0 0 (bs.drop a) = r) : rWord bs (a, 0, e) m = if r.1 ≠ 0 then ([], (a, r.1, (a : Int))) else if m < r.2.1 then ([], (a, 4, (a : Int)))
    else if bs.length < a + r.2.2 + r.2.1 then ([], (a, 13, (a : Int))) else ((bs.drop (a + r.2.2)).take r.2.1, (a + r.2.2 + r.2.1, 0, e)) := by
  unfold rWord; rw [if_neg (show ¬ (0 : Int) ≠ 0 by decide)]; simp only [h]
theorem rdI0 {bs : List UInt8} {s : RS} {it : Item} (h : it.k = 0) : rdI bs s it = (decide (((rNum bs s).1 : Int) = it.n), (rNum bs s).2) := by unfold rdI; rw [if_pos h]
theorem rdI1 {bs : List UInt8} {s : RS} {it : Item} (h0 : ¬ it.k = 0) (h : it.k = 1) : rdI bs s it = (decide (unzz (rNum bs s).1 = it.n), (rNum bs s).2) := by unfold rdI rWhole; rw [if_neg h0, if_pos h]
theorem rdI2 {bs : List UInt8} {s : RS} {it : Item} (h0 : ¬ it.k = 0) (h1 : ¬ it.k = 1) (h : it.k = 2) : rdI bs s it = (decide ((rWord bs s it.s.size).1 = it.s.data.toList), (rWord bs s it.s.size).2) := by unfold rdI; rw [if_neg h0, if_neg h1, if_pos h]
theorem rdI3 {bs : List UInt8} {s : RS} {it : Item} (h0 : ¬ it.k = 0) (h1 : ¬ it.k = 1) (h2 : ¬ it.k = 2) : rdI bs s it = (true, s) := by unfold rdI; rw [if_neg h0, if_neg h1, if_neg h2]
theorem rdI_ok (bs : List UInt8) (a : Nat) (e : Int) (it : Item) (rest : List UInt8) (hn : it.n ≤ 9223372036854775807) (hs : it.s.size ≤ 100) (hm : mayI it) (hd : bs.drop a = encI it ++ rest) (ha : a ≤ bs.length) :
    rdI bs (a, 0, e) it = (true, (a + (encI it).length, 0, e)) := by
  have hlen : bs.length - a = (encI it).length + rest.length := by rw [← List.length_append, ← hd, List.length_drop]
  by_cases h0 : it.k = 0
  · rw [encI0 h0] at *
    have h := hm.1 h0
    have hr := rd_grp it.n.toNat rest (by omega)
    rw [rdI0 h0, rNum_at (hd ▸ hr), if_pos rfl]
    have e1 : decide (((it.n.toNat : Nat) : Int) = it.n) = true := decide_eq_true (by omega)
    simp only [e1]
  · by_cases h1 : it.k = 1
    · rw [encI1 h0 h1] at *
      obtain ⟨k0, k1⟩ := hm.2 h1
      obtain ⟨u0, u1⟩ := unzz_zz it.n k0 k1
      have hr := rd_grp (zz it.n) rest u1
      rw [rdI1 h0 h1, rNum_at (hd ▸ hr), if_pos rfl, u0]
      simp
    · by_cases h2 : it.k = 2
      · rw [encI2 h0 h1 h2] at *
        rw [List.append_assoc] at hd
        have hr := rd_grp it.s.size (it.s.data.toList ++ rest) (by omega)
        have hls : it.s.data.toList.length = it.s.size := by rw [Array.length_toList]; rfl
        rw [List.length_append, hls] at hlen
        rw [rdI2 h0 h1 h2, rWord_at (hd ▸ hr), if_neg (show ¬ (0 : Int) ≠ 0 by decide), if_neg (by simp only; omega), if_neg (by simp only; omega)]
        have e1 : (bs.drop (a + (grp it.s.size).length)).take it.s.size = it.s.data.toList := by
          rw [← List.drop_drop, hd, List.drop_left, ← hls, List.take_left]
        simp only [e1, List.length_append, hls]
        simp [Nat.add_assoc]
      · rw [encI3 h0 h1 h2, rdI3 h0 h1 h2]
        simp
theorem rdI_cut (bs : List UInt8) (a : Nat) (e : Int) (it : Item) (hn : it.n ≤ 9223372036854775807) (hs : it.s.size ≤ 100) (hm : mayI it) (hd : bs.drop a = (encI it).dropLast) (hne : encI it ≠ []) (ha : a ≤ bs.length) :
    (rdI bs (a, 0, e) it).2.2.1 = 13 := by
  have hlen : bs.length - a = (encI it).length - 1 := by rw [← List.length_drop, hd, List.length_dropLast]
  by_cases h0 : it.k = 0
  · rw [encI0 h0] at *
    have h := hm.1 h0
    have hr := rd_cut it.n.toNat (by omega)
    rw [← hd] at hr
    rw [rdI0 h0, rNum_at rfl, if_neg (by rw [hr]; decide)]
    exact hr
  · by_cases h1 : it.k = 1
    · rw [encI1 h0 h1] at *
      obtain ⟨k0, k1⟩ := hm.2 h1
      have hr := rd_cut (zz it.n) (unzz_zz it.n k0 k1).2
      rw [← hd] at hr
      rw [rdI1 h0 h1, rNum_at rfl, if_neg (by rw [hr]; decide)]
      exact hr
    · by_cases h2 : it.k = 2
      · rw [encI2 h0 h1 h2] at *
        have hls : it.s.data.toList.length = it.s.size := by rw [Array.length_toList]; rfl
        by_cases hz : it.s.data.toList = []
        · rw [hz, List.append_nil] at hd
          have hr := rd_cut it.s.size (by omega)
          rw [← hd] at hr
          rw [rdI2 h0 h1 h2, rWord_at rfl, if_pos (by rw [hr]; decide)]
          exact hr
        · rw [List.dropLast_append_of_ne_nil hz] at hd
          have hr := rd_grp it.s.size it.s.data.toList.dropLast (by omega)
          have hp : 0 < it.s.size := by rw [← hls]; exact List.length_pos_iff.2 hz
          rw [List.length_append, hls] at hlen
          rw [rdI2 h0 h1 h2, rWord_at (hd ▸ hr), if_neg (show ¬ (0 : Int) ≠ 0 by decide), if_neg (by simp only; omega), if_pos (by simp only; omega)]
      · exact absurd (encI3 h0 h1 h2) hne
end Go.Proofs.YtcapdmicekialaaGreat
