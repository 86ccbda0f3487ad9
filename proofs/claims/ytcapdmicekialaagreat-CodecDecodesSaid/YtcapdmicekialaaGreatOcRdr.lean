/- octet.Reader: NewReader, Num, Whole, Word, Rest, End. -/
import Derived.Test.YtcapdmicekialaaGreatOcKeep
namespace Go.Proofs.YtcapdmicekialaaGreat
open Go.RowKit
attribute [local go_sem] Oper.semAt_some run_store_func run_store_nilFunc

theorem rdGo_lt : ∀ (l : List UInt8) (i acc : Nat), i ≤ 9 → acc < 128 ^ i → (rdGo i acc l).2.1 < 9223372036854775808
  | [], _, _, _, _ => by show 0 < _; decide
  | b :: l, i, acc, hi, ha => by
    unfold rdGo
    by_cases h9 : i = 9
    · rw [if_pos h9]; decide
    · rw [if_neg h9]
      have hb := b.toNat_lt
      obtain ⟨_, hm⟩ := or_step i acc b.toNat (by omega) ha hb
      have h63 : 128 ^ (i + 1) ≤ (128 : Nat) ^ 9 := Nat.pow_le_pow_right (by decide) (by omega)
      have h9 : (128 : Nat) ^ 9 = 9223372036854775808 := by decide
      by_cases hb1 : b.toNat < 128
      · rw [if_pos hb1]
        by_cases h0 : b.toNat = 0 ∧ 0 < i
        · rw [if_pos h0]; decide
        · rw [if_neg h0]
          rw [Nat.mod_eq_of_lt hb1] at hm
          show acc + b.toNat * 128 ^ i < _
          omega
      · rw [if_neg hb1]
        rw [show b.toNat % 128 = b.toNat - 128 by omega] at hm
        exact rdGo_lt l (i + 1) _ (by omega) hm
/-- What a reader's state is: the place, the fault and its place. -/
abbrev RS := Nat × Int × Int
/-- What Num comes to. -/
def rNum (bs : List UInt8) (s : RS) : Nat × RS :=
  if s.2.1 ≠ 0 then (0, s) else if (rdGo 0 0 (bs.drop s.1)).1 = 0 then ((rdGo 0 0 (bs.drop s.1)).2.1, (s.1 + (rdGo 0 0 (bs.drop s.1)).2.2, s.2)) else (0, (s.1, (rdGo 0 0 (bs.drop s.1)).1, s.1))
def RStepN (p : Nat) (bs : List UInt8) (v : Value) (r : Nat × RS) (w : World) (e : Ending) (w' : World) : Prop := e = .returned (.int .i64 r.1) ∧ RdAt p bs r.2.1 r.2.2.1 r.2.2.2 v w w'
theorem rNum_lt (bs : List UInt8) (s : RS) : (rNum bs s).1 < 9223372036854775808 := by
  unfold rNum
  by_cases h1 : s.2.1 ≠ 0
  · rw [if_pos h1]; show 0 < _; decide
  · rw [if_neg h1]
    split
    · exact rdGo_lt _ 0 0 (by decide) (by decide)
    · show 0 < _; decide
set_option maxRecDepth 100000 in
set_option maxHeartbeats 1600000 in
theorem rdr_num (p : Nat) (bs : List UInt8) (at_ : Nat) (err eat : Int) (v : Value) (w : World) (h : Rd w p bs at_ err eat v) :
    Calls Tryz.prog 130 #[.pointer (some ⟨p, 0, none⟩)] w (RStepN p bs v (rNum bs (at_, err, eat)) w) := by
  have c1 := h.blk.cell 1
  have c2 := h.blk.cell 2
  have c4 := h.blk.cell 4
  simp at c1 c2 c4
  have hb := rdGo_lt (bs.drop at_) 0 0 (by decide) (by decide)
  by_cases he : err = 0
  · subst he
    have HN := Lib.hid (rdnum_any p bs at_ 0 eat v w h)
    by_cases hr : (rdGo 0 0 (bs.drop at_)).1 = 0
    · have HR : Hid (rNum bs (at_, 0, eat) = ((rdGo 0 0 (bs.drop at_)).2.1, (at_ + (rdGo 0 0 (bs.drop at_)).2.2, 0, eat))) := by unfold rNum; rw [if_neg (show ¬ (0 : Int) ≠ 0 by decide), if_pos hr]; exact rfl
      have Hr := Lib.hid hr
      have hwr : IntKind.i64.wrap ((rdGo 0 0 (bs.drop at_)).2.1 : Int) = ((rdGo 0 0 (bs.drop at_)).2.1 : Int) := IntWalk.i64_in _ (by omega)
      clear hr h
      generalize rdGo 0 0 (bs.drop at_) = r at *
      obtain ⟨r1, r2, r3⟩ := r
      simp only at hb hwr
      go_enter_defers Tryz.func130, Tryz.ntmps130
      go_wp2_with fail
      refine (rdnone_made p w c4).mono ?_
      rintro e w' ⟨rfl, rfl⟩
      go_wp2_with fail
      refine HN.out.mono ?_
      rintro e w1 ⟨h1, _⟩
      obtain ⟨rfl, h2⟩ := h1 Hr.out
      have H2 := Lib.hid h2
      clear h2 h1
      go_wp2_with fail
      refine leaves_cons (f := 131) (args := #[.pointer (some ⟨p, 0, none⟩), .int .i64 at_]) (by simp) (by simp [go_sem]) ?_
      refine (keep_idle p at_ w1).mono ?_
      rintro e u' w2 ⟨rfl, rfl, rfl⟩
      refine ⟨_, results_tmp rfl _ _ _, ?_⟩
      rw [HR.out]
      exact ⟨rfl, H2.out⟩
    · have HR : Hid (rNum bs (at_, 0, eat) = (0, (at_, (rdGo 0 0 (bs.drop at_)).1, (at_ : Int)))) := by unfold rNum; rw [if_neg (show ¬ (0 : Int) ≠ 0 by decide), if_neg hr]; exact rfl
      have Hr := Lib.hid hr
      have hle := h.le
      clear hr h
      generalize rdGo 0 0 (bs.drop at_) = r at *
      obtain ⟨r1, r2, r3⟩ := r
      go_enter_defers Tryz.func130, Tryz.ntmps130
      go_wp2_with fail
      refine (rdnone_made p w c4).mono ?_
      rintro e w' ⟨rfl, rfl⟩
      go_wp2_with fail
      refine HN.out.mono ?_
      rintro e w1 ⟨_, h1⟩
      obtain ⟨rfl, k, h2, h3⟩ := h1 Hr.out
      have H2 := Lib.hid h2
      clear h2 h1
      go_wp2_with fail
      refine leaves_cons (f := 131) (args := #[.pointer (some ⟨p, 0, none⟩), .int .i64 at_]) (by simp) (by simp [go_sem]) ?_
      refine (keep_panic p bs k at_ 0 eat r1 v [] w1 H2.out hle).mono ?_
      rintro e u' w2 ⟨rfl, rfl, h4, h5⟩
      refine ⟨_, results_tmp rfl _ _ _, ?_⟩
      rw [HR.out]
      exact ⟨rfl, h4, h3.trans h5⟩
  · have HR : Hid (rNum bs (at_, err, eat) = (0, (at_, err, eat))) := by unfold rNum; rw [if_pos he]; exact rfl
    have he' : (err != 0) = true := by simpa using he
    have H := Lib.hid h
    clear h hb
    go_enter_defers Tryz.func130, Tryz.ntmps130
    go_wp2_with fail
    refine (rdnone_made p w c4).mono ?_
    rintro e w' ⟨rfl, rfl⟩
    go_wp2_with fail
    refine ⟨_, results_tmp rfl _ _ _, ?_⟩
    rw [HR.out]
    exact ⟨rfl, H.out, Only.refl _ _⟩
end Go.Proofs.YtcapdmicekialaaGreat
