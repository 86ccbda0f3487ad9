/- Decimal digits of a number, and what a text is as a number: plain lists and integers, no Go. -/
import Derived.RowKit
namespace Go.Proofs.YtclejidkahpemaaDoor

/-- The decimal digits, the greatest first. -/
def decs (n : Nat) : List UInt8 := if n < 10 then [UInt8.ofNat (48 + n)] else decs (n / 10) ++ [UInt8.ofNat (48 + n % 10)]
termination_by n

def textL (n : Int) : List UInt8 := if n < 0 then 45 :: decs n.natAbs else decs n.natAbs

def isDig (c : UInt8) : Bool := 48 ≤ c.toNat && c.toNat ≤ 57

/-- The value of digits, on from a value. -/
def valL : Nat → List UInt8 → Nat
  | v, [] => v
  | v, c :: l => valL (10 * v + (c.toNat - 48)) l

/-- The digits of a text: behind a '-'. -/
def digsOf (l : List UInt8) : List UInt8 := if l.head? = some 45 then l.tail else l

def badForm (l : List UInt8) : Bool :=
  (digsOf l).isEmpty || ((digsOf l).head? == some 48 && decide (1 < l.length)) || !(digsOf l).all isDig

def mostOf (l : List UInt8) : Nat := if l.head? = some 45 then 9223372036854775808 else 9223372036854775807

def readV (l : List UInt8) : Int × Int :=
  if badForm l then (0, 5) else if mostOf l < valL 0 (digsOf l) then (0, 3) else
  if l.head? = some 45 then (-(valL 0 (digsOf l) : Int), 0) else ((valL 0 (digsOf l) : Int), 0)

theorem valL_mono (l : List UInt8) : ∀ v, v ≤ valL v l := by
  induction l with
  | nil => intro v; exact Nat.le_refl _
  | cons c l ih => intro v; exact Nat.le_trans (by omega) (ih (10 * v + (c.toNat - 48)))
theorem valL_snoc (l : List UInt8) (c : UInt8) : ∀ v, valL v (l ++ [c]) = 10 * valL v l + (c.toNat - 48) := by
  induction l with
  | nil => intro v; rfl
  | cons x l ih => intro v; exact ih _
theorem valL_le_append (l m : List UInt8) : ∀ v, valL v l ≤ valL v (l ++ m) := by
  induction l with
  | nil => intro v; exact valL_mono m v
  | cons x l ih => intro v; exact ih _
theorem valL_lt_mono (l : List UInt8) : ∀ u v, u ≤ v → valL u l ≤ valL v l := by
  induction l with
  | nil => intro u v h; exact h
  | cons c l ih => intro u v h; exact ih _ _ (by omega)

theorem decs_lt {n : Nat} (h : n < 10) : decs n = [UInt8.ofNat (48 + n)] := by rw [decs, if_pos h]
theorem decs_ge {n : Nat} (h : ¬ n < 10) : decs n = decs (n / 10) ++ [UInt8.ofNat (48 + n % 10)] := by rw [decs, if_neg h]
theorem ofNat_toNat {m : Nat} (h : m < 256) : (UInt8.ofNat m).toNat = m := by simp [UInt8.toNat_ofNat']; omega

theorem decs_val (n : Nat) : valL 0 (decs n) = n := by
  induction n using Nat.strongRecOn with
  | _ n ih =>
    by_cases h : n < 10
    · rw [decs_lt h]
      have e := ofNat_toNat (m := 48 + n) (by omega)
      show 10 * 0 + ((UInt8.ofNat (48 + n)).toNat - 48) = n
      rw [e]; omega
    · rw [decs_ge h, valL_snoc, ih _ (by omega), ofNat_toNat (by omega)]; omega
theorem decs_dig (n : Nat) : (decs n).all isDig = true := by
  induction n using Nat.strongRecOn with
  | _ n ih =>
    by_cases h : n < 10
    · rw [decs_lt h]; simp only [List.all_cons, List.all_nil, Bool.and_true, isDig]; rw [ofNat_toNat (by omega)]; simp; omega
    · rw [decs_ge h, List.all_append, ih _ (by omega)]; simp only [List.all_cons, List.all_nil, Bool.and_true, Bool.true_and, isDig]; rw [ofNat_toNat (by omega)]; simp; omega
theorem decs_ne (n : Nat) : decs n ≠ [] := by
  by_cases h : n < 10
  · rw [decs_lt h]; simp
  · rw [decs_ge h]; simp
theorem decs_head (n : Nat) (h : 0 < n) : ∃ c l, decs n = c :: l ∧ 49 ≤ c.toNat ∧ c.toNat ≤ 57 := by
  induction n using Nat.strongRecOn with
  | _ n ih =>
    by_cases h10 : n < 10
    · exact ⟨_, [], decs_lt h10, by rw [ofNat_toNat (by omega)]; omega, by rw [ofNat_toNat (by omega)]; omega⟩
    · obtain ⟨c, l, e, h1, h2⟩ := ih (n / 10) (by omega) (by omega)
      exact ⟨c, l ++ [UInt8.ofNat (48 + n % 10)], by rw [decs_ge h10, e]; rfl, h1, h2⟩
theorem decs_zero : decs 0 = [48] := by rw [decs_lt (by omega)]; rfl
theorem decs_len1 {n : Nat} (h : n < 10) : (decs n).length = 1 := by rw [decs_lt h]; rfl

theorem isDig_iff (c : UInt8) : isDig c = true ↔ 48 ≤ c.toNat ∧ c.toNat ≤ 57 := by simp [isDig]
theorem u8_eq {a b : UInt8} (h : a.toNat = b.toNat) : a = b := UInt8.toNat_inj.1 h

/-- Digits without a nought ahead are those of their value. -/
theorem val_decs (l : List UInt8) (hd : l.all isDig = true) (v : Nat) (hv : 0 < v) : decs (valL v l) = decs v ++ l := by
  induction l generalizing v with
  | nil => show decs v = decs v ++ []; rw [List.append_nil]
  | cons c l ih =>
    simp only [List.all_cons, Bool.and_eq_true] at hd
    have hc := (isDig_iff c).1 hd.1
    show decs (valL (10 * v + (c.toNat - 48)) l) = _
    rw [ih hd.2 _ (by omega), decs_ge (n := 10 * v + (c.toNat - 48)) (by omega)]
    have e1 : (10 * v + (c.toNat - 48)) / 10 = v := by omega
    have e2 : (10 * v + (c.toNat - 48)) % 10 = c.toNat - 48 := by omega
    rw [e1, e2]
    have e3 : UInt8.ofNat (48 + (c.toNat - 48)) = c := u8_eq (by rw [ofNat_toNat (by omega)]; omega)
    rw [e3]; simp
theorem valL_cons0 (c : UInt8) (l : List UInt8) : valL 0 (c :: l) = valL (c.toNat - 48) l := by
  show valL (10 * 0 + (c.toNat - 48)) l = _
  rw [Nat.mul_zero, Nat.zero_add]
theorem val_decs_cons (c : UInt8) (l : List UInt8) (hc : isDig c = true) (h0 : c ≠ 48 ∨ l = []) (hd : l.all isDig = true) : decs (valL 0 (c :: l)) = c :: l := by
  have hc' := (isDig_iff c).1 hc
  have e3 : UInt8.ofNat (48 + (c.toNat - 48)) = c := u8_eq (by rw [ofNat_toNat (by omega)]; omega)
  rw [valL_cons0]
  rcases h0 with h0 | rfl
  · have h1 : c.toNat ≠ 48 := fun h => h0 (u8_eq (by rw [h]; rfl))
    rw [val_decs l hd _ (by omega), decs_lt (n := c.toNat - 48) (by omega), e3]; rfl
  · show decs (c.toNat - 48) = [c]
    rw [decs_lt (by omega), e3]

theorem digs_minus (l : List UInt8) : digsOf (45 :: l) = l := rfl
theorem dig_not_minus {c : UInt8} {l : List UInt8} (h : 48 ≤ c.toNat) : (c :: l).head? ≠ some 45 := by
  simp; intro e; subst e; simp at h

theorem read_text (n : Int) (h1 : -9223372036854775808 ≤ n) (h2 : n ≤ 9223372036854775807) : readV (textL n) = (n, 0) := by
  unfold textL
  by_cases hn : n < 0
  · rw [if_pos hn]
    obtain ⟨c, l, e, hc1, hc2⟩ := decs_head n.natAbs (by omega)
    have hv := decs_val n.natAbs
    have hd := decs_dig n.natAbs
    have hb : badForm (45 :: decs n.natAbs) = false := by
      unfold badForm; rw [digs_minus, hd, e]; simp; intro h; subst h; simp at hc1
    unfold readV mostOf
    rw [hb, digs_minus, hv]
    simp; rw [if_neg (by omega)]; simp; omega
  · rw [if_neg hn]
    have hv := decs_val n.natAbs
    have hd := decs_dig n.natAbs
    obtain ⟨c, l, e, hc1, hc2⟩ : ∃ c l, decs n.natAbs = c :: l ∧ 48 ≤ c.toNat ∧ (c.toNat = 48 → l = []) := by
      by_cases h0 : n.natAbs = 0
      · rw [h0]; exact ⟨48, [], decs_zero, by simp, fun _ => rfl⟩
      · obtain ⟨c, l, e, h1, h2⟩ := decs_head n.natAbs (by omega)
        exact ⟨c, l, e, by omega, by omega⟩
    have hm := dig_not_minus (l := l) hc1
    rw [e] at hv hd ⊢
    have hdg : digsOf (c :: l) = c :: l := by unfold digsOf; rw [if_neg hm]
    have hb : badForm (c :: l) = false := by
      unfold badForm; rw [hdg, hd]; simp; intro h; subst h; exact hc2 rfl
    unfold readV mostOf
    rw [hb, hdg, hv, if_neg hm, if_neg hm]
    simp; rw [if_neg (by omega)]; simp; omega

theorem text_read (l : List UInt8) (h : (readV l).2 = 0) : textL (readV l).1 = l ∧ -9223372036854775808 ≤ (readV l).1 ∧ (readV l).1 ≤ 9223372036854775807 := by
  unfold readV at h ⊢
  by_cases hb : badForm l = true
  · rw [if_pos hb] at h; simp at h
  · rw [if_neg hb] at h ⊢
    by_cases hm : mostOf l < valL 0 (digsOf l)
    · rw [if_pos hm] at h; simp at h
    · rw [if_neg hm] at h ⊢
      have hb' : badForm l = false := by simpa using hb
      unfold badForm at hb'
      simp only [Bool.or_eq_false_iff, Bool.not_eq_false', List.isEmpty_eq_false_iff] at hb'
      obtain ⟨⟨hne, h48⟩, hdig⟩ := hb'
      by_cases hmin : l.head? = some 45
      · rw [if_pos hmin]
        cases l with
        | nil => simp at hmin
        | cons x t =>
          simp at hmin; subst hmin
          rw [digs_minus] at *
          cases t with
          | nil => exact absurd rfl hne
          | cons c t =>
            simp only [List.all_cons, Bool.and_eq_true] at hdig
            have hc' := (isDig_iff c).1 hdig.1
            have h0 : c ≠ 48 := by simpa using h48
            have h1 : c.toNat ≠ 48 := fun h => h0 (u8_eq (by rw [h]; rfl))
            have hval := val_decs_cons c t hdig.1 (.inl h0) hdig.2
            have hpos : 0 < valL 0 (c :: t) := by
              have := valL_mono t (c.toNat - 48); rw [valL_cons0]; omega
            have hmm : mostOf (45 :: c :: t) = 9223372036854775808 := rfl
            rw [hmm] at hm
            generalize hV : valL 0 (c :: t) = V at *
            refine ⟨?_, by omega, by omega⟩
            unfold textL
            rw [if_pos (by omega)]
            have : (-(V : Int)).natAbs = V := by omega
            rw [this, hval]
      · rw [if_neg hmin]
        have hdl : digsOf l = l := by unfold digsOf; rw [if_neg hmin]
        rw [hdl] at hm hne h48 hdig ⊢
        clear hdl
        cases l with
        | nil => exact absurd rfl hne
        | cons c t =>
          simp only [List.all_cons, Bool.and_eq_true] at hdig
          have h0 : c ≠ 48 ∨ t = [] := by
            by_cases h : c = 48
            · right; subst h; simpa using h48
            · exact .inl h
          have hval := val_decs_cons c t hdig.1 h0 hdig.2
          have hmm : mostOf (c :: t) = 9223372036854775807 := by unfold mostOf; rw [if_neg hmin]
          rw [hmm] at hm
          generalize hV : valL 0 (c :: t) = V at *
          refine ⟨?_, by simp <;> omega, by simp <;> omega⟩
          unfold textL
          rw [if_neg (by simp)]
          simpa using hval

theorem readV_err (l : List UInt8) : (readV l).2 ≠ 0 → (readV l).1 = 0 ∧ ((readV l).2 = 5 ∨ (readV l).2 = 3) := by
  unfold readV
  split
  · simp
  · split
    · simp
    · split <;> simp
theorem decs_len (n : Nat) : ∀ k, n < 10 ^ k → 0 < k → (decs n).length ≤ k := by
  induction n using Nat.strongRecOn with
  | _ n ih =>
    intro k hk h0
    by_cases h : n < 10
    · rw [decs_len1 h]; exact h0
    · rw [decs_ge h]
      obtain ⟨k, rfl⟩ : ∃ j, k = j + 1 := ⟨k - 1, by omega⟩
      rw [Nat.pow_succ] at hk
      have : 0 < k := by
        rcases Nat.eq_zero_or_pos k with rfl | hp
        · simp at hk; omega
        · exact hp
      have := ih (n / 10) (by omega) k (by omega) this
      simp; omega
end Go.Proofs.YtclejidkahpemaaDoor
