/- codec.writer: the thing; word, words, operand. -/
import Derived.Test.YtcapdmicekialaaCoMany
import Derived.Test.YtcapdmicekialaaOcThings
namespace Go.Proofs.Ytcapdmicekialaa
open Go.RowKit
set_option linter.unusedVariables false
set_option linter.unusedSimpArgs false
attribute [local go_sem] Oper.semAt_some run_store_func run_store_nilFunc
/-- A writer's state: bytes and error; was a text too long. -/
abbrev CS := (List UInt8 × Int) × Bool
def numC (st : CS) (n : Int) : CS := (wrNum 1048576 st.1.1 st.1.2 n, st.2)
def wordC (st : CS) (s : ByteArray) : CS := (wrWord 1048576 st.1.1 st.1.2 s, st.2 || decide (1000 < s.size))
def wordsC (st : CS) (l : List ByteArray) : CS := l.foldl wordC st
def opC (st : CS) (n : Int) : CS := if n < 0 then numC (numC st 1) (-1 - n) else numC (numC st 0) n
def cwT (p : Nat) (st : CS) : Thing := someT fun o => sepT (blkT p 90 #[.pointer (some ⟨o, 0, none⟩), .bool st.2]) (wrT o 1048576 st.1)
section
variable {N : Nat} {w0 W : World} {R M : Thing} {p : Nat} {st : CS}
theorem Lies.wnum {o : Nat} {most : Int} {r : List UInt8 × Int} (H : Lies N w0 W (sepT (wrT o most r) R)) (n : Int) (hn : iz n) :
    Calls Try.prog 15 #[.pointer (some ⟨o, 0, none⟩), .int .i64 n] W fun e W' => e = .returned (.int .i64 (wrNum most r.1 r.2 n).2) ∧ Lies N w0 W' (sepT (wrT o most (wrNum most r.1 r.2 n)) R) :=
  (Hold.wnum H.hold 0 rfl n hn.1 hn.2).mono fun e W' ⟨he, h⟩ => ⟨he, h.lies⟩
theorem Lies.wword {o : Nat} {most : Int} {r : List UInt8 × Int} (H : Lies N w0 W (sepT (wrT o most r) R)) (s : ByteArray) (hs : sz s) :
    Calls Try.prog 19 #[.pointer (some ⟨o, 0, none⟩), .string s] W fun e W' => e = .returned (.int .i64 (wrWord most r.1 r.2 s).2) ∧ Lies N w0 W' (sepT (wrT o most (wrWord most r.1 r.2 s)) R) :=
  (Hold.wword H.hold 0 rfl s hs).mono fun e W' ⟨he, h⟩ => ⟨he, h.lies⟩
theorem cw_out (H : Lies N w0 W (sepT (cwT p st) R)) : ∃ o, Lies N w0 W (sepT (blkT p 90 #[.pointer (some ⟨o, 0, none⟩), .bool st.2]) (sepT (wrT o 1048576 st.1) R)) := by
  obtain ⟨o, H⟩ := H.ex
  exact ⟨o, H.turn (by ac_rfl)⟩
theorem cw_in {o : Nat} (H : Lies N w0 W (sepT (blkT p 90 #[.pointer (some ⟨o, 0, none⟩), .bool st.2]) (sepT (wrT o 1048576 st.1) R))) : Lies N w0 W (sepT (cwT p st) R) :=
  Lies.intro o (H.turn (by ac_rfl))
/-- w.Num(n), through the embedded writer. -/
theorem cw_num (H : Lies N w0 W (sepT (cwT p st) R)) : ∃ o, W.cell? ⟨p, 0, none⟩ = some (.pointer (some ⟨o, 0, none⟩)) ∧ ∀ n, iz n → Calls Try.prog 15 #[.pointer (some ⟨o, 0, none⟩), .int .i64 n] W fun e W' => (∃ E, e = .returned (.int .i64 E)) ∧ Lies N w0 W' (sepT (cwT p (numC st n)) R) := by
  obtain ⟨o, h⟩ := cw_out H
  refine ⟨o, h.blk.1.cell 0, fun n hn => (Lies.wnum (h.turn (a' := sepT (wrT o 1048576 st.1) (sepT (blkT p 90 #[.pointer (some ⟨o, 0, none⟩), .bool st.2]) R)) (by ac_rfl)) n hn).mono ?_⟩
  rintro e W' ⟨he, h'⟩
  exact ⟨⟨_, he⟩, cw_in (st := numC st n) (h'.turn (by unfold numC; ac_rfl))⟩
set_option maxRecDepth 100000 in
theorem cword_any (s : ByteArray) (hs : sz s) (H : Lies N w0 W (sepT (cwT p st) R)) : Calls Try.prog 59 #[.pointer (some ⟨p, 0, none⟩), .string s] W fun e W' => e = .returned (.tuple #[]) ∧ Lies N w0 W' (sepT (cwT p (wordC st s)) R) := by
  obtain ⟨o, h⟩ := cw_out H
  have c0 := h.blk.1.cell 0
  have c1 := h.blk.1.cell 1
  simp at c0 c1
  have fz := h.blk.1.frozen 1
  have h2 := h.setBlk 1 (.bool (st.2 || decide (1000 < s.size)))
  have HW := Lib.hid (Lies.wword (h2.turn (a' := sepT (wrT o 1048576 st.1) (sepT (blkT p 90 #[.pointer (some ⟨o, 0, none⟩), .bool (st.2 || decide (1000 < s.size))]) R)) (by
    show sepT (blkT p 90 #[.pointer (some ⟨o, 0, none⟩), .bool (st.2 || decide (1000 < s.size))]) _ = _
    ac_rfl)) s hs)
  have HC : Hid (∀ W', Lies N w0 W' (sepT (wrT o 1048576 (wrWord 1048576 st.1.1 st.1.2 s)) (sepT (blkT p 90 #[.pointer (some ⟨o, 0, none⟩), .bool (st.2 || decide (1000 < s.size))]) R)) → Lies N w0 W' (sepT (cwT p (wordC st s)) R)) := Lib.hid fun W' h => cw_in (st := wordC st s) (h.turn (by unfold wordC; ac_rfl))
  clear H h h2 hs
  by_cases g : st.2 = true
  · have gb : (st.2 || decide (1000 < s.size)) = true := by rw [g]; rfl
    rw [gb] at HW HC
    rw [g] at c1
    clear g gb
    go_enter Try.func59, Try.ntmps59
    go_wp2_with fail
    refine HW.out.mono ?_
    rintro e w1 ⟨rfl, h⟩
    have HF := Lib.hid (HC.out _ h)
    clear h HW HC
    go_wp2_with fail
    go_end0
    exact ⟨rfl, HF.out⟩
  · have gf : st.2 = false := by simpa using g
    have gb : (st.2 || decide (1000 < s.size)) = decide ((1000 : Int) < (s.size : Int)) := by rw [gf, Bool.false_or]; exact decide_eq_decide.2 (by omega)
    rw [gb] at HW HC
    rw [gf] at c1
    clear g gf gb
    go_enter Try.func59, Try.ntmps59
    go_wp2_with fail
    refine HW.out.mono ?_
    rintro e w1 ⟨rfl, h⟩
    have HF := Lib.hid (HC.out _ h)
    clear h HW HC
    go_wp2_with fail
    go_end0
    exact ⟨rfl, HF.out⟩
set_option maxRecDepth 100000 in
theorem cwords_any (l : List ByteArray) (v : Value) (hM : txK.slS (At N w0 M) v l) (H : Lies N w0 W (sepT (cwT p st) (sepT M R))) : Calls Try.prog 91 #[.pointer (some ⟨p, 0, none⟩), v] W fun e W' => e = .returned (.tuple #[]) ∧ Lies N w0 W' (sepT (cwT p (wordsC st l)) (sepT M R)) := by
  obtain ⟨A, c, rfl, hlen⟩ := Kind.sl_form hM
  have HS := Lib.hid hM
  obtain ⟨n, hn⟩ : ∃ n, n = l.length := ⟨_, rfl⟩
  have HN := Lib.hid hn
  rw [← hn] at hlen ⊢
  have HH := Lib.hid H
  clear hM hn H
  go_enter Try.func91, Try.ntmps91
  go_wp2
  go_loopw [8] (fun ix wr => ∃ i : Nat, ix = .int .i64 i ∧ i ≤ n ∧ Lies N w0 wr (sepT (cwT p (wordsC st (l.take i))) (sepT M R))) (fun ix _ => n - (intOf ix).toNat)
  case atStart => exact ⟨0, rfl, Nat.zero_le _, HH.out⟩
  case round =>
    obtain ⟨i, rfl, hi, hh⟩ := hrel
    clear HH
    have HH := Lib.hid hh
    clear hh
    by_cases hlt : i < n
    · have hlt' : (i : Int) < (n : Int) := by omega
      have hlx : i < l.length := by have := HN.out; omega
      have hAt : At N w0 M wr := ⟨_, HH.out.turn (a' := sepT M (sepT (cwT p (wordsC st (l.take i))) R)) (by ac_rfl)⟩
      obtain ⟨b, off, c', cs, hv, ht, hat⟩ := Kind.sl_atS HS.out (by decide) hAt i hlx
      obtain rfl : A = some ⟨b, off, none⟩ := by injection hv
      obtain ⟨rfl, hsz⟩ := ht
      have e0 := hat wr hAt 0 _ rfl
      have HC := Lib.hid (cword_any l[i] hsz HH.out)
      have HE : Hid (wordC (wordsC st (l.take i)) l[i] = wordsC st (l.take (i + 1))) := Lib.hid (by unfold wordsC; rw [List.take_succ_eq_append_getElem hlx, List.foldl_append]; rfl)
      rw [HE.out] at HC
      rw [Nat.add_zero, show txK.size = 1 from rfl, Nat.mul_one] at e0
      clear hv hat hAt HH
      go_wp2_with fail
      refine HC.out.mono ?_
      rintro e w1 ⟨rfl, h⟩
      have HF := Lib.hid h
      clear h HC
      go_wp2_with fail
      go_roundw
      case rel => exact ⟨i + 1, by go_num, by omega, HF.out⟩
      case measure => simp [intOf]; omega
    · have hlt' : ¬ (i : Int) < (n : Int) := by omega
      have HF : Hid (Lies N w0 wr (sepT (cwT p (wordsC st l)) (sepT M R))) := Lib.hid (by have h := HH.out; rw [List.take_of_length_le (by have := HN.out; omega)] at h; exact h)
      clear HH
      go_wp2_with fail
      go_end0
      exact ⟨rfl, HF.out⟩
set_option maxRecDepth 100000 in
theorem cop_any (n : Int) (hn : iz n) (H : Lies N w0 W (sepT (cwT p st) R)) : Calls Try.prog 115 #[.pointer (some ⟨p, 0, none⟩), .int .i64 n] W fun e W' => e = .returned (.tuple #[]) ∧ Lies N w0 W' (sepT (cwT p (opC st n)) R) := by
  obtain ⟨o, c0, hc⟩ := cw_num H
  by_cases h0 : n < 0
  · have hw : IntKind.i64.wrap (-1 - n) = -1 - n := IntWalk.i64_in _ (by have := hn.1; omega)
    have HC := Lib.hid (hc 1 (by unfold iz; omega))
    have HE : Hid (opC st n = numC (numC st 1) (-1 - n)) := Lib.hid (if_pos h0)
    have HZ : Hid (iz (-1 - n)) := Lib.hid (by unfold iz at *; omega)
    rw [HE.out]
    clear H hc hn
    go_enter Try.func115, Try.ntmps115
    go_wp2_with fail
    refine HC.out.mono ?_
    rintro e w1 ⟨⟨E, rfl⟩, h⟩
    obtain ⟨o2, c02, hc2⟩ := cw_num h
    have HC2 := Lib.hid (hc2 _ HZ.out)
    clear h hc2 HC c0
    go_wp2_with fail
    refine HC2.out.mono ?_
    rintro e w2 ⟨⟨E2, rfl⟩, h⟩
    have HF := Lib.hid h
    clear h HC2
    go_wp2_with fail
    go_end0
    exact ⟨rfl, HF.out⟩
  · have HC := Lib.hid (hc 0 (by unfold iz; omega))
    have HE : Hid (opC st n = numC (numC st 0) n) := Lib.hid (if_neg h0)
    have HZ : Hid (iz n) := Lib.hid hn
    rw [HE.out]
    clear H hc hn
    go_enter Try.func115, Try.ntmps115
    go_wp2_with fail
    refine HC.out.mono ?_
    rintro e w1 ⟨⟨E, rfl⟩, h⟩
    obtain ⟨o2, c02, hc2⟩ := cw_num h
    have HC2 := Lib.hid (hc2 _ HZ.out)
    clear h hc2 HC c0
    go_wp2_with fail
    refine HC2.out.mono ?_
    rintro e w2 ⟨⟨E2, rfl⟩, h⟩
    have HF := Lib.hid h
    clear h HC2
    go_wp2_with fail
    go_end0
    exact ⟨rfl, HF.out⟩
end
end Go.Proofs.Ytcapdmicekialaa
