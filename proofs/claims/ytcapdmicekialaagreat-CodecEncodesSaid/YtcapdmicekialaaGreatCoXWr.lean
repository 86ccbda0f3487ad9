/- chaperonref22.writer: the thing; words, vars, operand. -/
import Derived.Test.YtcapdmicekialaaGreatCoXMany
import Derived.Test.YtcapdmicekialaaGreatCoWrAll
namespace Go.Proofs.YtcapdmicekialaaGreat
open Go.RowKit
set_option linter.unusedVariables false
set_option linter.unusedSimpArgs false
attribute [local go_sem] Oper.semAt_some run_store_func run_store_nilFunc
def xcT (p o : Nat) (st : CS) : Thing := sepT (blkT p 82 #[.pointer (some ⟨o, 0, none⟩), .bool st.2]) (rwT o 1048576 st.1)
section
variable {N : Nat} {w0 W : World} {R M : Thing} {p oo : Nat} {st : CS}
theorem xc_out (H : Lies N w0 W (sepT (xcT p oo st) R)) : Lies N w0 W (sepT (blkT p 82 #[.pointer (some ⟨oo, 0, none⟩), .bool st.2]) (sepT (rwT oo 1048576 st.1) R)) :=
  H.turn (by unfold xcT; ac_rfl)
theorem xc_in (H : Lies N w0 W (sepT (blkT p 82 #[.pointer (some ⟨oo, 0, none⟩), .bool st.2]) (sepT (rwT oo 1048576 st.1) R))) : Lies N w0 W (sepT (xcT p oo st) R) :=
  H.turn (by unfold xcT; ac_rfl)
theorem xc_num (H : Lies N w0 W (sepT (xcT p oo st) R)) : ∃ o, W.cell? ⟨p, 0, none⟩ = some (.pointer (some ⟨o, 0, none⟩)) ∧ ∀ n, iz n → Calls Tryz.prog 95 #[.pointer (some ⟨o, 0, none⟩), .int .i64 n] W fun e W' => (∃ E, e = .returned (.int .i64 E)) ∧ Lies N w0 W' (sepT (xcT p oo (numC st n)) R) := by
  have h := xc_out H
  refine ⟨oo, h.blk.1.cell 0, fun n hn => (Hold.xnum (h.turn (a' := sepT (rwT oo 1048576 st.1) (sepT (blkT p 82 #[.pointer (some ⟨oo, 0, none⟩), .bool st.2]) R)) (by ac_rfl)).hold 0 rfl n hn.1 hn.2).mono ?_⟩
  rintro e W' ⟨he, h'⟩
  exact ⟨⟨_, he⟩, xc_in (st := numC st n) (h'.lies.turn (by unfold numC; ac_rfl))⟩
/-- One text: the mark is set, then the text is written. -/
theorem xc_word (s : ByteArray) (hs : sz s) (H : Lies N w0 W (sepT (xcT p oo st) R)) : ∃ o, W.cell? ⟨p, 0, none⟩ = some (.pointer (some ⟨o, 0, none⟩)) ∧ W.cell? ⟨p, 1, none⟩ = some (.bool st.2) ∧ W.frozen? ⟨p, 1, none⟩ = false ∧ (∀ v, (W.setCell ⟨p, 1, none⟩ v).cell? ⟨p, 0, none⟩ = some (.pointer (some ⟨o, 0, none⟩))) ∧ (∀ v, ∃ X, Lies N w0 (W.setCell ⟨p, 1, none⟩ v) (sepT X R)) ∧
    Calls Tryz.prog 126 #[.pointer (some ⟨o, 0, none⟩), .string s] (W.setCell ⟨p, 1, none⟩ (.bool (st.2 || decide (1000 < s.size)))).drew fun e W' => (∃ E, e = .returned (.int .i64 E)) ∧ Lies N w0 W' (sepT (xcT p oo (wordC st s)) R) := by
  have h := xc_out H
  have h2 := h.setBlk 1 (.bool (st.2 || decide (1000 < s.size)))
  refine ⟨oo, h.blk.1.cell 0, h.blk.1.cell 1, h.blk.1.frozen 1, fun v => (h.setBlk 1 v).blk.1.cell 0, fun v => ⟨sepT (blkT p 82 (#[.pointer (some ⟨oo, 0, none⟩), .bool st.2].setIfInBounds 1 v)) (rwT oo 1048576 st.1), (h.setBlk 1 v).turn (by ac_rfl)⟩, ?_⟩
  refine (Hold.xword (h2.drew.turn (a' := sepT (rwT oo 1048576 st.1) (sepT (blkT p 82 #[.pointer (some ⟨oo, 0, none⟩), .bool (st.2 || decide (1000 < s.size))]) R)) (by
    show sepT (blkT p 82 #[.pointer (some ⟨oo, 0, none⟩), .bool (st.2 || decide (1000 < s.size))]) _ = _
    ac_rfl)).hold 0 rfl s hs).mono ?_
  rintro e W' ⟨he, h'⟩
  exact ⟨⟨_, he⟩, xc_in (st := wordC st s) (h'.lies.turn (by unfold wordC; ac_rfl))⟩
def loXw (i : Nat) : Nat := 0
def upXw (i : Nat) : Nat := if i = 8 then 1 else 0
set_option maxRecDepth 100000 in
set_option maxHeartbeats 1600000 in
theorem xwords_any (l : List ByteArray) (v : Value) (hM : txK.slS (At N w0 M) v l) (H : Lies N w0 W (sepT (xcT p oo st) (sepT M R))) : Calls Tryz.prog 96 #[.pointer (some ⟨p, 0, none⟩), v] W fun e W' => e = .returned (.tuple #[]) ∧ Lies N w0 W' (sepT (xcT p oo (wordsC st l)) (sepT M R)) := by
  obtain ⟨A, c, rfl, hlen⟩ := Kind.sl_form hM
  have HS := Lib.hid hM
  obtain ⟨n, hn⟩ : ∃ n, n = l.length := ⟨_, rfl⟩
  have HN := Lib.hid hn
  rw [← hn] at hlen ⊢
  have HH := Lib.hid H
  clear hM hn H
  go_enter Tryz.func96, Tryz.ntmps96
  go_wp2
  go_loopw [4] (fun ix wr => ∃ i : Nat, ix = .int .i64 i ∧ i ≤ n ∧ Lies N w0 wr (sepT (xcT p oo (wordsC st (l.take i))) (sepT M R))) (fun ix _ => n - (intOf ix).toNat)
  case atStart => exact ⟨0, rfl, Nat.zero_le _, HH.out⟩
  case round =>
    obtain ⟨i, rfl, hi, hh⟩ := hrel
    clear HH
    have HH := Lib.hid hh
    clear hh
    by_cases hlt : i < n
    · have hlt' : (i : Int) < (n : Int) := by omega
      have hlx : i < l.length := by have := HN.out; omega
      have hAt : At N w0 M wr := ⟨_, HH.out.turn (a' := sepT M (sepT (xcT p oo (wordsC st (l.take i))) R)) (by ac_rfl)⟩
      obtain ⟨b, off, c', cs, hv, ht, hat⟩ := Kind.sl_atS HS.out (by decide) hAt i hlx
      obtain rfl : A = some ⟨b, off, none⟩ := by injection hv
      obtain ⟨rfl, hsz⟩ := ht
      have e0 := hat wr hAt 0 _ rfl
      have HE : Hid (wordC (wordsC st (l.take i)) l[i] = wordsC st (l.take (i + 1))) := Lib.hid (by unfold wordsC; rw [List.take_succ_eq_append_getElem hlx, List.foldl_append]; rfl)
      obtain ⟨o, d0, d1, fz, d2, hX, hc⟩ := xc_word l[i] hsz HH.out
      rw [HE.out] at hc
      have e1 : ∀ u, (wr.setCell ⟨p, 1, none⟩ u).cell? ⟨b, off + i, none⟩ = some (.string l[i]) := fun u => by
        obtain ⟨X, hx⟩ := hX u
        have := hat _ ⟨_, hx.turn (a' := sepT M (sepT X R)) (by ac_rfl)⟩ 0 _ rfl
        rwa [Nat.add_zero, show txK.size = 1 from rfl, Nat.mul_one] at this
      rw [Nat.add_zero, show txK.size = 1 from rfl, Nat.mul_one] at e0
      clear hv hat hAt HH hsz hX
      generalize l[i] = s at *
      generalize hst : wordsC st (l.take i) = sx at *
      have HC := Lib.hid hc
      clear hc hst
      by_cases g : sx.2 = true
      · rw [g, Bool.true_or] at HC
        rw [g] at d1
        clear g
        go_wp2_with fail
        refine wp_region_text [8] loXw upXw (by kernel_rfl) (by kernel_rfl) (by kernel_rfl) (by kernel_rfl) (by kernel_rfl) ?_
        repeat (refine wpTx_now (by rfl) (by rfl) (by rfl) (fun K hK => ?_); go_simp; refine hK _ ?_; clear hK K)
        refine wpTx_eff (by rfl) (fun K hK => ?_)
        go_simp
        refine HC.out.mono ?_
        rintro e w1 ⟨⟨E, rfl⟩, h⟩
        have HF := Lib.hid h
        refine ⟨_, rfl, hK _ _ (by simp [lateOK]) ?_⟩
        clear hK K h HC e1 d2 d0 d1 e0
        refine wpTx_nil ?_
        go_wp2_with fail
        go_roundw
        case rel => exact ⟨i + 1, by go_num, by omega, HF.out⟩
        case measure => simp [intOf]; omega
      · have gf : sx.2 = false := by simpa using g
        have gb : (sx.2 || decide (1000 < s.size)) = decide ((1000 : Int) < (s.size : Int)) := by rw [gf, Bool.false_or]; exact decide_eq_decide.2 (by omega)
        rw [gb] at HC
        rw [gf] at d1
        clear g gf gb
        go_wp2_with fail
        refine wp_region_text [8] loXw upXw (by kernel_rfl) (by kernel_rfl) (by kernel_rfl) (by kernel_rfl) (by kernel_rfl) ?_
        repeat (refine wpTx_now (by rfl) (by rfl) (by rfl) (fun K hK => ?_); go_simp; refine hK _ ?_; clear hK K)
        refine wpTx_eff (by rfl) (fun K hK => ?_)
        go_simp
        refine HC.out.mono ?_
        rintro e w1 ⟨⟨E, rfl⟩, h⟩
        have HF := Lib.hid h
        refine ⟨_, rfl, hK _ _ (by simp [lateOK]) ?_⟩
        clear hK K h HC e1 d2 d0 d1 e0
        refine wpTx_nil ?_
        go_wp2_with fail
        go_roundw
        case rel => exact ⟨i + 1, by go_num, by omega, HF.out⟩
        case measure => simp [intOf]; omega
    · have hlt' : ¬ (i : Int) < (n : Int) := by omega
      have HF : Hid (Lies N w0 wr (sepT (xcT p oo (wordsC st l)) (sepT M R))) := Lib.hid (by have h := HH.out; rw [List.take_of_length_le (by have := HN.out; omega)] at h; exact h)
      clear HH
      go_wp2_with fail
      go_end0
      exact ⟨rfl, HF.out⟩
/-- w.words(s, t); w.words(s). -/
theorem xwords2 (b : Nat) (e : TypeId) (s t : ByteArray) (hs : sz s) (ht : sz t) (H : Lies N w0 W (sepT (xcT p oo st) (sepT (blkT b e #[.string s, .string t]) R))) : Calls Tryz.prog 96 #[.pointer (some ⟨p, 0, none⟩), .slice (some ⟨b, 0, none⟩) 2 2] W fun e W' => e = .returned (.tuple #[]) ∧ Lies N w0 W' (sepT (xcT p oo (wordsC st [s, t])) R) :=
  (xwords_any [s, t] _ (tx2 b e s t hs ht) H).mono fun e W' ⟨he, h⟩ => ⟨he, (h.turn (a' := sepT (blkT b _ #[.string s, .string t]) (sepT (xcT p oo (wordsC st [s, t])) R)) (by ac_rfl)).drop⟩
theorem tx1 (b : Nat) (e : TypeId) (s : ByteArray) (hs : sz s) : txK.slS (At N w0 (blkT b e #[.string s])) (.slice (some ⟨b, 0, none⟩) 1 1) [s] := by
  refine ⟨_, 1, [[.string s]], rfl, ?_, ⟨⟨rfl, hs⟩, trivial⟩, by simp⟩
  rintro W ⟨R, h⟩
  refine ⟨rfl, fun _ => ⟨_, rfl, h.blk.1.lt, fun j u hu => ?_⟩⟩
  rw [Addr.add_lit, Nat.zero_add, h.blk.1.cell j, ← hu]
  match j with
  | 0 => rfl
  | j + 1 => rfl
theorem xwords1 (b : Nat) (e : TypeId) (s : ByteArray) (hs : sz s) (H : Lies N w0 W (sepT (xcT p oo st) (sepT (blkT b e #[.string s]) R))) : Calls Tryz.prog 96 #[.pointer (some ⟨p, 0, none⟩), .slice (some ⟨b, 0, none⟩) 1 1] W fun e W' => e = .returned (.tuple #[]) ∧ Lies N w0 W' (sepT (xcT p oo (wordC st s)) R) :=
  (xwords_any [s] _ (tx1 b e s hs) H).mono fun e W' ⟨he, h⟩ => ⟨he, (h.turn (a' := sepT (blkT b _ #[.string s]) (sepT (xcT p oo (wordC st s)) R)) (by show sepT (xcT p oo (wordsC st [s])) _ = _; unfold wordsC; simp only [List.foldl_cons, List.foldl_nil]; ac_rfl)).drop⟩
set_option maxRecDepth 100000 in
theorem xop_any (n : Int) (hn : iz n) (H : Lies N w0 W (sepT (xcT p oo st) R)) : Calls Tryz.prog 98 #[.pointer (some ⟨p, 0, none⟩), .int .i64 n] W fun e W' => e = .returned (.tuple #[]) ∧ Lies N w0 W' (sepT (xcT p oo (opC st n)) R) := by
  by_cases h0 : n < 0
  · have HE : Hid (opC st n = numC (numC st 1) (-1 - n)) := Lib.hid (if_pos h0)
    rw [HE.out]
    obtain ⟨o, c0, hc⟩ := xc_num H
    have HC := Lib.hid (hc 1 (by unfold iz; decide))
    have hw : IntKind.i64.wrap (-1 - n) = -1 - n := IntWalk.i64_in _ (by unfold iz at hn; omega)
    have hi : iz (-1 - n) := by unfold iz at hn ⊢; omega
    have HI := Lib.hid hi
    clear H hc hi hn
    go_enter Tryz.func98, Tryz.ntmps98
    go_wp2_with fail
    refine HC.out.mono ?_
    rintro e w1 ⟨⟨E, rfl⟩, h⟩
    obtain ⟨o2, d0, hc⟩ := xc_num h
    have HC2 := Lib.hid (hc _ HI.out)
    clear h hc HC c0
    go_wp2_with fail
    refine HC2.out.mono ?_
    rintro e w2 ⟨⟨E2, rfl⟩, h⟩
    have HF := Lib.hid h
    clear h HC2 d0
    go_wp2_with fail
    refine bodyPost_ret (results_none rfl _ _ _) rfl ?_
    exact ⟨rfl, HF.out⟩
  · have HE : Hid (opC st n = numC (numC st 0) n) := Lib.hid (if_neg h0)
    rw [HE.out]
    obtain ⟨o, c0, hc⟩ := xc_num H
    have HC := Lib.hid (hc 0 (by unfold iz; decide))
    have HI := Lib.hid hn
    clear H hc hn
    go_enter Tryz.func98, Tryz.ntmps98
    go_wp2_with fail
    refine HC.out.mono ?_
    rintro e w1 ⟨⟨E, rfl⟩, h⟩
    obtain ⟨o2, d0, hc⟩ := xc_num h
    have HC2 := Lib.hid (hc _ HI.out)
    clear h hc HC c0
    go_wp2_with fail
    refine HC2.out.mono ?_
    rintro e w2 ⟨⟨E2, rfl⟩, h⟩
    have HF := Lib.hid h
    clear h HC2 d0
    go_wp2_with fail
    go_end0
    exact ⟨rfl, HF.out⟩
def loXv (i : Nat) : Nat := if i = 12 then 1 else 0
def upXv (i : Nat) : Nat := [1, 0, 0, 0, 0, 0, 0, 0, 0, 0, 0, 1, 2].getD i 0
set_option maxRecDepth 100000 in
set_option maxHeartbeats 1600000 in
theorem xvars_any (l : List Vr) (v : Value) (hM : vrK.slS (At N w0 M) v l) (H : Lies N w0 W (sepT (xcT p oo st) (sepT M R))) : Calls Tryz.prog 97 #[.pointer (some ⟨p, 0, none⟩), v] W fun e W' => e = .returned (.tuple #[]) ∧ Lies N w0 W' (sepT (xcT p oo (putC vrC st l)) (sepT M R)) := by
  obtain ⟨A, c, rfl, hlen⟩ := Kind.sl_form hM
  have HS := Lib.hid hM
  obtain ⟨o, c0, hc⟩ := xc_num H
  have HC := Lib.hid (hc (l.length : Int) (by unfold iz; omega))
  have HP : Hid (l.foldl vrC (numC st l.length) = putC vrC st l) := Lib.hid rfl
  obtain ⟨n, hn⟩ : ∃ n, n = l.length := ⟨_, rfl⟩
  have HN := Lib.hid hn
  rw [← hn] at hlen HC HP ⊢
  clear hM hn H hc
  go_enter Tryz.func97, Tryz.ntmps97
  go_wp2_with fail
  refine HC.out.mono ?_
  rintro e w1 ⟨⟨E, rfl⟩, h⟩
  have HH := Lib.hid h
  clear h HC c0
  go_wp2_with fail
  go_loopw [4] (fun ix wr => ∃ i : Nat, ix = .int .i64 i ∧ i ≤ n ∧ Lies N w0 wr (sepT (xcT p oo ((l.take i).foldl vrC (numC st n))) (sepT M R))) (fun ix _ => n - (intOf ix).toNat)
  case atStart => exact ⟨0, rfl, Nat.zero_le _, HH.out⟩
  case round =>
    obtain ⟨i, rfl, hi, hh⟩ := hrel
    clear HH
    have HH := Lib.hid hh
    clear hh
    by_cases hlt : i < n
    · have hlt' : (i : Int) < (n : Int) := by omega
      have hlx : i < l.length := by have := HN.out; omega
      have hAt : At N w0 M wr := ⟨_, HH.out.turn (a' := sepT M (sepT (xcT p oo ((l.take i).foldl vrC (numC st n))) R)) (by ac_rfl)⟩
      obtain ⟨b, off, c', cs, hv, ht, hat0⟩ := Kind.sl_atS HS.out (by decide) hAt i hlx
      obtain rfl : A = some ⟨b, off, none⟩ := by injection hv
      have hat := hat0 wr hAt
      have hput := put_take vrC (numC st n) l i hlx
      generalize l[i] = x at *
      obtain ⟨rfl, hz1, hz2⟩ := ht
      have e0 := hat 0 _ rfl
      have e1 := hat 1 _ rfl
      rw [show vrK.size = 2 from rfl] at e0 e1
      rw [Nat.add_zero] at e0
      have hc := xwords2 wr.heap.size 9 x.1 x.2 hz1 hz2 ((HH.out.newBlk 9 #[.string x.1, .string x.2]).drew.turn (a' := sepT (xcT p oo ((l.take i).foldl vrC (numC st n))) (sepT (blkT wr.heap.size 9 #[.string x.1, .string x.2]) (sepT M R))) (by ac_rfl))
      have hE : wordsC ((l.take i).foldl vrC (numC st n)) [x.1, x.2] = (l.take (i + 1)).foldl vrC (numC st n) := by rw [hput]; rfl
      rw [hE] at hc
      have HC := Lib.hid hc
      clear hat hat0 hv hAt hc hE hput HH hz1 hz2
      go_wp2_with fail
      refine wp_region_text [11, 12] loXv upXv (by kernel_rfl) (by kernel_rfl) (by kernel_rfl) (by kernel_rfl) (by kernel_rfl) ?_
      repeat (first | (refine wpTx_now (by rfl) (by rfl) (by rfl) (fun K hK => ?_); go_simp; refine hK _ ?_; clear hK K) | (refine wpTx_late [] (by rfl) (by rfl) (by rfl) (fun K hK => ?_); go_simp; refine hK _ _ ?_; clear hK K))
      refine wpTx_eff (by rfl) (fun K hK => ?_)
      go_simp
      refine hK _ _ ?_ ?_
      · repeat (first | exact lateOK_nil | refine lateOK_skip (by rfl) ?_ | refine lateOK_cons (by go_simp) ?_)
      clear hK K
      refine wpTx_eff (by rfl) (fun K hK => ?_)
      go_simp
      refine HC.out.mono ?_
      rintro e w2 ⟨rfl, h⟩
      have HF := Lib.hid h
      refine ⟨_, rfl, hK _ _ (by repeat (first | exact lateOK_nil | refine lateOK_skip (by rfl) ?_ | refine lateOK_cons (by go_simp) ?_)) ?_⟩
      clear hK K h HC e0 e1
      refine wpTx_nil ?_
      go_wp2_with fail
      go_roundw
      case rel => exact ⟨i + 1, by go_num, by omega, HF.out⟩
      case measure => simp [intOf]; omega
    · have hlt' : ¬ (i : Int) < (n : Int) := by omega
      have HF : Hid (Lies N w0 wr (sepT (xcT p oo (putC vrC st l)) (sepT M R))) := Lib.hid (by have h := HH.out; rw [List.take_of_length_le (by have := HN.out; omega), HP.out] at h; exact h)
      clear HH
      go_wp2_with fail
      go_end0
      exact ⟨rfl, HF.out⟩
end
end Go.Proofs.YtcapdmicekialaaGreat
