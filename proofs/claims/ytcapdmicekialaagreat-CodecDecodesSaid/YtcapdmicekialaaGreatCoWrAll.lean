/- Merged by merge.py: CoWr, CoPut, CoWr2, CoEnc. -/
import Derived.Test.YtcapdmicekialaaGreatCoMnAll
import Derived.Test.YtcapdmicekialaaGreatOcThings
/- codec.writer: the thing; word, words, operand. -/
namespace Go.Proofs.YtcapdmicekialaaGreat
open Go.RowKit
set_option linter.unusedVariables false
set_option linter.unusedSimpArgs false
attribute [local go_sem] Oper.semAt_some run_store_func run_store_nilFunc
/-- A writer's state: bytes and error; was a text too long. -/
abbrev CS := (List UInt8 × Int) × Bool
def numC (st : CS) (n : Int) : CS := (wrNum 1048576 st.1.1 st.1.2 n, st.2)
def wordC (st : CS) (s : ByteArray) : CS := (wrWord 1048576 st.1.1 st.1.2 s, st.2 || decide (1000 < s.size))
def wordsC (st : CS) (l : List ByteArray) : CS := l.foldl wordC st
def opC (st : CS) (n : Int) : CS := if n < 0 then numC (numC st 1) (-1 - n) else numC (numC st 0) n
def cwT (p : Nat) (st : CS) : Thing := someT fun o => sepT (blkT p 60 #[.pointer (some ⟨o, 0, none⟩), .bool st.2]) (wrT o 1048576 st.1)
section
variable {N : Nat} {w0 W : World} {R M : Thing} {p : Nat} {st : CS}
theorem Lies.wnum {o : Nat} {most : Int} {r : List UInt8 × Int} (H : Lies N w0 W (sepT (wrT o most r) R)) (n : Int) (hn : iz n) :
    Calls Tryz.prog 27 #[.pointer (some ⟨o, 0, none⟩), .int .i64 n] W fun e W' => e = .returned (.int .i64 (wrNum most r.1 r.2 n).2) ∧ Lies N w0 W' (sepT (wrT o most (wrNum most r.1 r.2 n)) R) :=
  (Hold.wnum H.hold 0 rfl n hn.1 hn.2).mono fun e W' ⟨he, h⟩ => ⟨he, h.lies⟩
theorem Lies.wword {o : Nat} {most : Int} {r : List UInt8 × Int} (H : Lies N w0 W (sepT (wrT o most r) R)) (s : ByteArray) (hs : sz s) :
    Calls Tryz.prog 90 #[.pointer (some ⟨o, 0, none⟩), .string s] W fun e W' => e = .returned (.int .i64 (wrWord most r.1 r.2 s).2) ∧ Lies N w0 W' (sepT (wrT o most (wrWord most r.1 r.2 s)) R) :=
  (Hold.wword H.hold 0 rfl s hs).mono fun e W' ⟨he, h⟩ => ⟨he, h.lies⟩
theorem cw_out (H : Lies N w0 W (sepT (cwT p st) R)) : ∃ o, Lies N w0 W (sepT (blkT p 60 #[.pointer (some ⟨o, 0, none⟩), .bool st.2]) (sepT (wrT o 1048576 st.1) R)) := by
  obtain ⟨o, H⟩ := H.ex
  exact ⟨o, H.turn (by ac_rfl)⟩
theorem cw_in {o : Nat} (H : Lies N w0 W (sepT (blkT p 60 #[.pointer (some ⟨o, 0, none⟩), .bool st.2]) (sepT (wrT o 1048576 st.1) R))) : Lies N w0 W (sepT (cwT p st) R) :=
  Lies.intro o (H.turn (by ac_rfl))
/-- w.Num(n), through the embedded writer. -/
theorem cw_num (H : Lies N w0 W (sepT (cwT p st) R)) : ∃ o, W.cell? ⟨p, 0, none⟩ = some (.pointer (some ⟨o, 0, none⟩)) ∧ ∀ n, iz n → Calls Tryz.prog 27 #[.pointer (some ⟨o, 0, none⟩), .int .i64 n] W fun e W' => (∃ E, e = .returned (.int .i64 E)) ∧ Lies N w0 W' (sepT (cwT p (numC st n)) R) := by
  obtain ⟨o, h⟩ := cw_out H
  refine ⟨o, h.blk.1.cell 0, fun n hn => (Lies.wnum (h.turn (a' := sepT (wrT o 1048576 st.1) (sepT (blkT p 60 #[.pointer (some ⟨o, 0, none⟩), .bool st.2]) R)) (by ac_rfl)) n hn).mono ?_⟩
  rintro e W' ⟨he, h'⟩
  exact ⟨⟨_, he⟩, cw_in (st := numC st n) (h'.turn (by unfold numC; ac_rfl))⟩
set_option maxRecDepth 100000 in
theorem cword_any (s : ByteArray) (hs : sz s) (H : Lies N w0 W (sepT (cwT p st) R)) : Calls Tryz.prog 33 #[.pointer (some ⟨p, 0, none⟩), .string s] W fun e W' => e = .returned (.tuple #[]) ∧ Lies N w0 W' (sepT (cwT p (wordC st s)) R) := by
  obtain ⟨o, h⟩ := cw_out H
  have c0 := h.blk.1.cell 0
  have c1 := h.blk.1.cell 1
  simp at c0 c1
  have fz := h.blk.1.frozen 1
  have h2 := h.setBlk 1 (.bool (st.2 || decide (1000 < s.size)))
  have HW := Lib.hid (Lies.wword (h2.turn (a' := sepT (wrT o 1048576 st.1) (sepT (blkT p 60 #[.pointer (some ⟨o, 0, none⟩), .bool (st.2 || decide (1000 < s.size))]) R)) (by
    show sepT (blkT p 60 #[.pointer (some ⟨o, 0, none⟩), .bool (st.2 || decide (1000 < s.size))]) _ = _
    ac_rfl)) s hs)
  have HC : Hid (∀ W', Lies N w0 W' (sepT (wrT o 1048576 (wrWord 1048576 st.1.1 st.1.2 s)) (sepT (blkT p 60 #[.pointer (some ⟨o, 0, none⟩), .bool (st.2 || decide (1000 < s.size))]) R)) → Lies N w0 W' (sepT (cwT p (wordC st s)) R)) := Lib.hid fun W' h => cw_in (st := wordC st s) (h.turn (by unfold wordC; ac_rfl))
  clear H h h2 hs
  by_cases g : st.2 = true
  · have gb : (st.2 || decide (1000 < s.size)) = true := by rw [g]; rfl
    rw [gb] at HW HC
    rw [g] at c1
    clear g gb
    go_enter Tryz.func33, Tryz.ntmps33
    go_wp2_with fail
    refine HW.out.mono ?_
    rintro e w1 ⟨rfl, h⟩
    have HF := Lib.hid (HC.out _ h)
    clear h HW HC
    go_wp2_with fail
    go_end0
    exact ⟨rfl, HF.out⟩
  · have gf : st.2 = false := by simpa using g
    have gb : (st.2 || decide (1000 < s.size)) = decide ((1000 : Int) < (s.size : Int)) := by rw [gf, Bool.false_or]; exact decide_eq_decide.2 (by omega)
    rw [gb] at HW HC
    rw [gf] at c1
    clear g gf gb
    go_enter Tryz.func33, Tryz.ntmps33
    go_wp2_with fail
    refine HW.out.mono ?_
    rintro e w1 ⟨rfl, h⟩
    have HF := Lib.hid (HC.out _ h)
    clear h HW HC
    go_wp2_with fail
    go_end0
    exact ⟨rfl, HF.out⟩
set_option maxRecDepth 100000 in
theorem cwords_any (l : List ByteArray) (v : Value) (hM : txK.slS (At N w0 M) v l) (H : Lies N w0 W (sepT (cwT p st) (sepT M R))) : Calls Tryz.prog 85 #[.pointer (some ⟨p, 0, none⟩), v] W fun e W' => e = .returned (.tuple #[]) ∧ Lies N w0 W' (sepT (cwT p (wordsC st l)) (sepT M R)) := by
  obtain ⟨A, c, rfl, hlen⟩ := Kind.sl_form hM
  have HS := Lib.hid hM
  obtain ⟨n, hn⟩ : ∃ n, n = l.length := ⟨_, rfl⟩
  have HN := Lib.hid hn
  rw [← hn] at hlen ⊢
  have HH := Lib.hid H
  clear hM hn H
  go_enter Tryz.func85, Tryz.ntmps85
  go_wp2
  go_loopw [8] (fun ix wr => ∃ i : Nat, ix = .int .i64 i ∧ i ≤ n ∧ Lies N w0 wr (sepT (cwT p (wordsC st (l.take i))) (sepT M R))) (fun ix _ => n - (intOf ix).toNat)
  case atStart => exact ⟨0, rfl, Nat.zero_le _, HH.out⟩
  case round =>
    obtain ⟨i, rfl, hi, hh⟩ := hrel
    clear HH
    have HH := Lib.hid hh
    clear hh
    by_cases hlt : i < n
    · have hlt' : (i : Int) < (n : Int) := by omega
      have hlx : i < l.length := by have := HN.out; omega
      have hAt : At N w0 M wr := ⟨_, HH.out.turn (a' := sepT M (sepT (cwT p (wordsC st (l.take i))) R)) (by ac_rfl)⟩
      obtain ⟨b, off, c', cs, hv, ht, hat⟩ := Kind.sl_atS HS.out (by decide) hAt i hlx
      obtain rfl : A = some ⟨b, off, none⟩ := by injection hv
      obtain ⟨rfl, hsz⟩ := ht
      have e0 := hat wr hAt 0 _ rfl
      have HC := Lib.hid (cword_any l[i] hsz HH.out)
      have HE : Hid (wordC (wordsC st (l.take i)) l[i] = wordsC st (l.take (i + 1))) := Lib.hid (by unfold wordsC; rw [List.take_succ_eq_append_getElem hlx, List.foldl_append]; rfl)
      rw [HE.out] at HC
      rw [Nat.add_zero, show txK.size = 1 from rfl, Nat.mul_one] at e0
      clear hv hat hAt HH
      go_wp2_with fail
      refine HC.out.mono ?_
      rintro e w1 ⟨rfl, h⟩
      have HF := Lib.hid h
      clear h HC
      go_wp2_with fail
      go_roundw
      case rel => exact ⟨i + 1, by go_num, by omega, HF.out⟩
      case measure => simp [intOf]; omega
    · have hlt' : ¬ (i : Int) < (n : Int) := by omega
      have HF : Hid (Lies N w0 wr (sepT (cwT p (wordsC st l)) (sepT M R))) := Lib.hid (by have h := HH.out; rw [List.take_of_length_le (by have := HN.out; omega)] at h; exact h)
      clear HH
      go_wp2_with fail
      go_end0
      exact ⟨rfl, HF.out⟩
set_option maxRecDepth 100000 in
theorem cop_any (n : Int) (hn : iz n) (H : Lies N w0 W (sepT (cwT p st) R)) : Calls Tryz.prog 123 #[.pointer (some ⟨p, 0, none⟩), .int .i64 n] W fun e W' => e = .returned (.tuple #[]) ∧ Lies N w0 W' (sepT (cwT p (opC st n)) R) := by
  obtain ⟨o, c0, hc⟩ := cw_num H
  by_cases h0 : n < 0
  · have hw : IntKind.i64.wrap (-1 - n) = -1 - n := IntWalk.i64_in _ (by have := hn.1; omega)
    have HC := Lib.hid (hc 1 (by unfold iz; omega))
    have HE : Hid (opC st n = numC (numC st 1) (-1 - n)) := Lib.hid (if_pos h0)
    have HZ : Hid (iz (-1 - n)) := Lib.hid (by unfold iz at *; omega)
    rw [HE.out]
    clear H hc hn
    go_enter Tryz.func123, Tryz.ntmps123
    go_wp2_with fail
    refine HC.out.mono ?_
    rintro e w1 ⟨⟨E, rfl⟩, h⟩
    obtain ⟨o2, c02, hc2⟩ := cw_num h
    have HC2 := Lib.hid (hc2 _ HZ.out)
    clear h hc2 HC c0
    go_wp2_with fail
    refine HC2.out.mono ?_
    rintro e w2 ⟨⟨E2, rfl⟩, h⟩
    have HF := Lib.hid h
    clear h HC2
    go_wp2_with fail
    go_end0
    exact ⟨rfl, HF.out⟩
  · have HC := Lib.hid (hc 0 (by unfold iz; omega))
    have HE : Hid (opC st n = numC (numC st 0) n) := Lib.hid (if_neg h0)
    have HZ : Hid (iz n) := Lib.hid hn
    rw [HE.out]
    clear H hc hn
    go_enter Tryz.func123, Tryz.ntmps123
    go_wp2_with fail
    refine HC.out.mono ?_
    rintro e w1 ⟨⟨E, rfl⟩, h⟩
    obtain ⟨o2, c02, hc2⟩ := cw_num h
    have HC2 := Lib.hid (hc2 _ HZ.out)
    clear h hc2 HC c0
    go_wp2_with fail
    refine HC2.out.mono ?_
    rintro e w2 ⟨⟨E2, rfl⟩, h⟩
    have HF := Lib.hid h
    clear h HC2
    go_wp2_with fail
    go_end0
    exact ⟨rfl, HF.out⟩
end
end Go.Proofs.YtcapdmicekialaaGreat
/- codec.put at seven types. Printed by gen_put.py. -/
namespace Go.Proofs.YtcapdmicekialaaGreat
open Go.RowKit
set_option linter.unusedVariables false
set_option linter.unusedSimpArgs false
attribute [local go_sem] Oper.semAt_some run_store_func run_store_nilFunc
def putC {α : Type} (one : CS → α → CS) (st : CS) (l : List α) : CS := l.foldl one (numC st l.length)
theorem put_take {α : Type} (one : CS → α → CS) (st : CS) (l : List α) (i : Nat) (hi : i < l.length) : (l.take (i + 1)).foldl one st = one ((l.take i).foldl one st) l[i] := by
  rw [List.take_succ_eq_append_getElem hi, List.foldl_append]; rfl
section
variable {N : Nat} {w0 W : World} {R M : Thing} {p : Nat} {st : CS}
set_option maxRecDepth 100000 in
set_option maxHeartbeats 800000 in
theorem putVr_any (fn : FuncId) (one : CS → Vr → CS) (he : ∀ args (w : World), (callFunc fn args).run Tryz.prog w = .ok (.enter fn args) w) (l : List Vr) (v : Value) (hM : vrK.slS (At N w0 M) v l)
    (hone : ∀ W' st' cs x, x ∈ l → vrK.told (At N w0 M) cs x → Lies N w0 W' (sepT (cwT p st') (sepT M R)) → Calls Tryz.prog fn #[.pointer (some ⟨p, 0, none⟩), .agg cs.toArray] W' fun e w' => e = .returned (.tuple #[]) ∧ Lies N w0 w' (sepT (cwT p (one st' x)) (sepT M R)))
    (H : Lies N w0 W (sepT (cwT p st) (sepT M R))) :
    Calls Tryz.prog 86 #[.pointer (some ⟨p, 0, none⟩), v, .func (.func fn) #[.pointer (some ⟨p, 0, none⟩)] #[]] W fun e W' => e = .returned (.tuple #[]) ∧ Lies N w0 W' (sepT (cwT p (putC one st l)) (sepT M R)) := by
  obtain ⟨A, c, rfl, hlen⟩ := Kind.sl_form hM
  have HS := Lib.hid hM
  have HO := Lib.hid hone
  obtain ⟨o, c0, hc⟩ := cw_num H
  have HC := Lib.hid (hc (l.length : Int) (by unfold iz; omega))
  have HP : Hid (l.foldl one (numC st l.length) = putC one st l) := Lib.hid rfl
  obtain ⟨n, hn⟩ : ∃ n, n = l.length := ⟨_, rfl⟩
  have HN := Lib.hid hn
  rw [← hn] at hlen HC HP ⊢
  clear hM hn H hone hc
  go_enter Tryz.func86, Tryz.ntmps86
  go_wp2_with fail
  refine HC.out.mono ?_
  rintro e w1 ⟨⟨E, rfl⟩, h⟩
  have HH := Lib.hid h
  clear h HC c0
  go_wp2_with fail
  go_loopw [17] (fun ix wr => ∃ i : Nat, ix = .int .i64 i ∧ i ≤ n ∧ Lies N w0 wr (sepT (cwT p ((l.take i).foldl one (numC st n))) (sepT M R))) (fun ix _ => n - (intOf ix).toNat)
  case atStart => exact ⟨0, rfl, Nat.zero_le _, HH.out⟩
  case round =>
    obtain ⟨i, rfl, hi, hh⟩ := hrel
    clear HH
    have HH := Lib.hid hh
    clear hh
    by_cases hlt : i < n
    · have hlt' : (i : Int) < (n : Int) := by omega
      have hlx : i < l.length := by have := HN.out; omega
      have hAt : At N w0 M wr := ⟨_, HH.out.turn (a' := sepT M (sepT (cwT p ((l.take i).foldl one (numC st n))) R)) (by ac_rfl)⟩
      obtain ⟨b, off, c', cs, hv, ht, hat0⟩ := Kind.sl_atS HS.out (by decide) hAt i hlx
      obtain rfl : A = some ⟨b, off, none⟩ := by injection hv
      have hat := hat0 wr hAt
      have HC1 := fun W' h => HO.out W' ((l.take i).foldl one (numC st n)) cs l[i] (List.getElem_mem hlx) ht h
      rw [← put_take one (numC st n) l i hlx] at HC1
      generalize l[i] = x at *
      obtain ⟨rfl, _⟩ := ht
      have hat : ∀ j u, (#[.string x.1, .string x.2].toList : List Value)[j]? = some u → wr.cell? ⟨b, off + i * 2 + j, none⟩ = some u := hat
      have e0 := hat 0 _ rfl
      have e1 := hat 1 _ rfl
      rw [Nat.add_zero] at e0
      have HC2 : Hid (∀ W', Lies N w0 W' (sepT (cwT p ((l.take i).foldl one (numC st n))) (sepT M R)) → Calls Tryz.prog fn #[.pointer (some ⟨p, 0, none⟩), .agg #[.string x.1, .string x.2]] W' fun e w' => e = .returned (.tuple #[]) ∧ Lies N w0 w' (sepT (cwT p ((l.take (i + 1)).foldl one (numC st n))) (sepT M R))) := Lib.hid HC1
      clear HC1 hat hat0 hv hAt
      go_wp2_with fail
      refine (HC2.out _ (HH.out.alloc _)).mono ?_
      rintro e w2 ⟨rfl, h⟩
      have HF := Lib.hid h
      clear h HC2 HH
      go_wp2_with fail
      go_roundw
      case rel => exact ⟨i + 1, by go_num, by omega, HF.out⟩
      case measure => simp [intOf]; omega
    · have hlt' : ¬ (i : Int) < (n : Int) := by omega
      have HF : Hid (Lies N w0 wr (sepT (cwT p (putC one st l)) (sepT M R))) := Lib.hid (by have h := HH.out; rw [List.take_of_length_le (by have := HN.out; omega), HP.out] at h; exact h)
      clear HH
      go_wp2_with fail
      go_end0
      exact ⟨rfl, HF.out⟩
set_option maxRecDepth 100000 in
set_option maxHeartbeats 800000 in
theorem putSg_any (fn : FuncId) (one : CS → Sg → CS) (he : ∀ args (w : World), (callFunc fn args).run Tryz.prog w = .ok (.enter fn args) w) (l : List Sg) (v : Value) (hM : sgK.slS (At N w0 M) v l)
    (hone : ∀ W' st' cs x, x ∈ l → sgK.told (At N w0 M) cs x → Lies N w0 W' (sepT (cwT p st') (sepT M R)) → Calls Tryz.prog fn #[.pointer (some ⟨p, 0, none⟩), .agg cs.toArray] W' fun e w' => e = .returned (.tuple #[]) ∧ Lies N w0 w' (sepT (cwT p (one st' x)) (sepT M R)))
    (H : Lies N w0 W (sepT (cwT p st) (sepT M R))) :
    Calls Tryz.prog 88 #[.pointer (some ⟨p, 0, none⟩), v, .func (.func fn) #[.pointer (some ⟨p, 0, none⟩)] #[]] W fun e W' => e = .returned (.tuple #[]) ∧ Lies N w0 W' (sepT (cwT p (putC one st l)) (sepT M R)) := by
  obtain ⟨A, c, rfl, hlen⟩ := Kind.sl_form hM
  have HS := Lib.hid hM
  have HO := Lib.hid hone
  obtain ⟨o, c0, hc⟩ := cw_num H
  have HC := Lib.hid (hc (l.length : Int) (by unfold iz; omega))
  have HP : Hid (l.foldl one (numC st l.length) = putC one st l) := Lib.hid rfl
  obtain ⟨n, hn⟩ : ∃ n, n = l.length := ⟨_, rfl⟩
  have HN := Lib.hid hn
  rw [← hn] at hlen HC HP ⊢
  clear hM hn H hone hc
  go_enter Tryz.func88, Tryz.ntmps88
  go_wp2_with fail
  refine HC.out.mono ?_
  rintro e w1 ⟨⟨E, rfl⟩, h⟩
  have HH := Lib.hid h
  clear h HC c0
  go_wp2_with fail
  go_loopw [17] (fun ix wr => ∃ i : Nat, ix = .int .i64 i ∧ i ≤ n ∧ Lies N w0 wr (sepT (cwT p ((l.take i).foldl one (numC st n))) (sepT M R))) (fun ix _ => n - (intOf ix).toNat)
  case atStart => exact ⟨0, rfl, Nat.zero_le _, HH.out⟩
  case round =>
    obtain ⟨i, rfl, hi, hh⟩ := hrel
    clear HH
    have HH := Lib.hid hh
    clear hh
    by_cases hlt : i < n
    · have hlt' : (i : Int) < (n : Int) := by omega
      have hlx : i < l.length := by have := HN.out; omega
      have hAt : At N w0 M wr := ⟨_, HH.out.turn (a' := sepT M (sepT (cwT p ((l.take i).foldl one (numC st n))) R)) (by ac_rfl)⟩
      obtain ⟨b, off, c', cs, hv, ht, hat0⟩ := Kind.sl_atS HS.out (by decide) hAt i hlx
      obtain rfl : A = some ⟨b, off, none⟩ := by injection hv
      have hat := hat0 wr hAt
      have HC1 := fun W' h => HO.out W' ((l.take i).foldl one (numC st n)) cs l[i] (List.getElem_mem hlx) ht h
      rw [← put_take one (numC st n) l i hlx] at HC1
      generalize l[i] = x at *
      obtain ⟨ps, rfl, _, _, h3⟩ := ht
      obtain ⟨A2, c2, rfl, _⟩ := Kind.sl_form h3
      have hat : ∀ j u, (#[.string x.name, .slice A2 x.params.length c2, .string x.result].toList : List Value)[j]? = some u → wr.cell? ⟨b, off + i * 3 + j, none⟩ = some u := hat
      have e0 := hat 0 _ rfl
      have e1 := hat 1 _ rfl
      have e2 := hat 2 _ rfl
      rw [Nat.add_zero] at e0
      have HC2 : Hid (∀ W', Lies N w0 W' (sepT (cwT p ((l.take i).foldl one (numC st n))) (sepT M R)) → Calls Tryz.prog fn #[.pointer (some ⟨p, 0, none⟩), .agg #[.string x.name, .slice A2 x.params.length c2, .string x.result]] W' fun e w' => e = .returned (.tuple #[]) ∧ Lies N w0 w' (sepT (cwT p ((l.take (i + 1)).foldl one (numC st n))) (sepT M R))) := Lib.hid HC1
      clear HC1 hat hat0 hv hAt
      go_wp2_with fail
      refine (HC2.out _ (HH.out.alloc _)).mono ?_
      rintro e w2 ⟨rfl, h⟩
      have HF := Lib.hid h
      clear h HC2 HH
      go_wp2_with fail
      go_roundw
      case rel => exact ⟨i + 1, by go_num, by omega, HF.out⟩
      case measure => simp [intOf]; omega
    · have hlt' : ¬ (i : Int) < (n : Int) := by omega
      have HF : Hid (Lies N w0 wr (sepT (cwT p (putC one st l)) (sepT M R))) := Lib.hid (by have h := HH.out; rw [List.take_of_length_le (by have := HN.out; omega), HP.out] at h; exact h)
      clear HH
      go_wp2_with fail
      go_end0
      exact ⟨rfl, HF.out⟩
set_option maxRecDepth 100000 in
set_option maxHeartbeats 800000 in
theorem putCl_any (fn : FuncId) (one : CS → Cl → CS) (he : ∀ args (w : World), (callFunc fn args).run Tryz.prog w = .ok (.enter fn args) w) (l : List Cl) (v : Value) (hM : clK.slS (At N w0 M) v l)
    (hone : ∀ W' st' cs x, x ∈ l → clK.told (At N w0 M) cs x → Lies N w0 W' (sepT (cwT p st') (sepT M R)) → Calls Tryz.prog fn #[.pointer (some ⟨p, 0, none⟩), .agg cs.toArray] W' fun e w' => e = .returned (.tuple #[]) ∧ Lies N w0 w' (sepT (cwT p (one st' x)) (sepT M R)))
    (H : Lies N w0 W (sepT (cwT p st) (sepT M R))) :
    Calls Tryz.prog 28 #[.pointer (some ⟨p, 0, none⟩), v, .func (.func fn) #[.pointer (some ⟨p, 0, none⟩)] #[]] W fun e W' => e = .returned (.tuple #[]) ∧ Lies N w0 W' (sepT (cwT p (putC one st l)) (sepT M R)) := by
  obtain ⟨A, c, rfl, hlen⟩ := Kind.sl_form hM
  have HS := Lib.hid hM
  have HO := Lib.hid hone
  obtain ⟨o, c0, hc⟩ := cw_num H
  have HC := Lib.hid (hc (l.length : Int) (by unfold iz; omega))
  have HP : Hid (l.foldl one (numC st l.length) = putC one st l) := Lib.hid rfl
  obtain ⟨n, hn⟩ : ∃ n, n = l.length := ⟨_, rfl⟩
  have HN := Lib.hid hn
  rw [← hn] at hlen HC HP ⊢
  clear hM hn H hone hc
  go_enter Tryz.func28, Tryz.ntmps28
  go_wp2_with fail
  refine HC.out.mono ?_
  rintro e w1 ⟨⟨E, rfl⟩, h⟩
  have HH := Lib.hid h
  clear h HC c0
  go_wp2_with fail
  go_loopw [17] (fun ix wr => ∃ i : Nat, ix = .int .i64 i ∧ i ≤ n ∧ Lies N w0 wr (sepT (cwT p ((l.take i).foldl one (numC st n))) (sepT M R))) (fun ix _ => n - (intOf ix).toNat)
  case atStart => exact ⟨0, rfl, Nat.zero_le _, HH.out⟩
  case round =>
    obtain ⟨i, rfl, hi, hh⟩ := hrel
    clear HH
    have HH := Lib.hid hh
    clear hh
    by_cases hlt : i < n
    · have hlt' : (i : Int) < (n : Int) := by omega
      have hlx : i < l.length := by have := HN.out; omega
      have hAt : At N w0 M wr := ⟨_, HH.out.turn (a' := sepT M (sepT (cwT p ((l.take i).foldl one (numC st n))) R)) (by ac_rfl)⟩
      obtain ⟨b, off, c', cs, hv, ht, hat0⟩ := Kind.sl_atS HS.out (by decide) hAt i hlx
      obtain rfl : A = some ⟨b, off, none⟩ := by injection hv
      have hat := hat0 wr hAt
      have HC1 := fun W' h => HO.out W' ((l.take i).foldl one (numC st n)) cs l[i] (List.getElem_mem hlx) ht h
      rw [← put_take one (numC st n) l i hlx] at HC1
      generalize l[i] = x at *
      obtain ⟨fs, ms, rfl, _, _, h3, h4⟩ := ht
      obtain ⟨A2, c2, rfl, _⟩ := Kind.sl_form h3
      obtain ⟨A3, c3, rfl, _⟩ := Kind.sl_form h4
      have hat : ∀ j u, (#[.string x.name, .string x.super, .slice A2 x.fields.length c2, .slice A3 x.methods.length c3].toList : List Value)[j]? = some u → wr.cell? ⟨b, off + i * 4 + j, none⟩ = some u := hat
      have e0 := hat 0 _ rfl
      have e1 := hat 1 _ rfl
      have e2 := hat 2 _ rfl
      have e3 := hat 3 _ rfl
      rw [Nat.add_zero] at e0
      have HC2 : Hid (∀ W', Lies N w0 W' (sepT (cwT p ((l.take i).foldl one (numC st n))) (sepT M R)) → Calls Tryz.prog fn #[.pointer (some ⟨p, 0, none⟩), .agg #[.string x.name, .string x.super, .slice A2 x.fields.length c2, .slice A3 x.methods.length c3]] W' fun e w' => e = .returned (.tuple #[]) ∧ Lies N w0 w' (sepT (cwT p ((l.take (i + 1)).foldl one (numC st n))) (sepT M R))) := Lib.hid HC1
      clear HC1 hat hat0 hv hAt
      go_wp2_with fail
      refine (HC2.out _ (HH.out.alloc _)).mono ?_
      rintro e w2 ⟨rfl, h⟩
      have HF := Lib.hid h
      clear h HC2 HH
      go_wp2_with fail
      go_roundw
      case rel => exact ⟨i + 1, by go_num, by omega, HF.out⟩
      case measure => simp [intOf]; omega
    · have hlt' : ¬ (i : Int) < (n : Int) := by omega
      have HF : Hid (Lies N w0 wr (sepT (cwT p (putC one st l)) (sepT M R))) := Lib.hid (by have h := HH.out; rw [List.take_of_length_le (by have := HN.out; omega), HP.out] at h; exact h)
      clear HH
      go_wp2_with fail
      go_end0
      exact ⟨rfl, HF.out⟩
set_option maxRecDepth 100000 in
set_option maxHeartbeats 800000 in
theorem putSt_any (fn : FuncId) (one : CS → St → CS) (he : ∀ args (w : World), (callFunc fn args).run Tryz.prog w = .ok (.enter fn args) w) (l : List St) (v : Value) (hM : stK.slS (At N w0 M) v l)
    (hone : ∀ W' st' cs x, x ∈ l → stK.told (At N w0 M) cs x → Lies N w0 W' (sepT (cwT p st') (sepT M R)) → Calls Tryz.prog fn #[.pointer (some ⟨p, 0, none⟩), .agg cs.toArray] W' fun e w' => e = .returned (.tuple #[]) ∧ Lies N w0 w' (sepT (cwT p (one st' x)) (sepT M R)))
    (H : Lies N w0 W (sepT (cwT p st) (sepT M R))) :
    Calls Tryz.prog 30 #[.pointer (some ⟨p, 0, none⟩), v, .func (.func fn) #[.pointer (some ⟨p, 0, none⟩)] #[]] W fun e W' => e = .returned (.tuple #[]) ∧ Lies N w0 W' (sepT (cwT p (putC one st l)) (sepT M R)) := by
  obtain ⟨A, c, rfl, hlen⟩ := Kind.sl_form hM
  have HS := Lib.hid hM
  have HO := Lib.hid hone
  obtain ⟨o, c0, hc⟩ := cw_num H
  have HC := Lib.hid (hc (l.length : Int) (by unfold iz; omega))
  have HP : Hid (l.foldl one (numC st l.length) = putC one st l) := Lib.hid rfl
  obtain ⟨n, hn⟩ : ∃ n, n = l.length := ⟨_, rfl⟩
  have HN := Lib.hid hn
  rw [← hn] at hlen HC HP ⊢
  clear hM hn H hone hc
  go_enter Tryz.func30, Tryz.ntmps30
  go_wp2_with fail
  refine HC.out.mono ?_
  rintro e w1 ⟨⟨E, rfl⟩, h⟩
  have HH := Lib.hid h
  clear h HC c0
  go_wp2_with fail
  go_loopw [17] (fun ix wr => ∃ i : Nat, ix = .int .i64 i ∧ i ≤ n ∧ Lies N w0 wr (sepT (cwT p ((l.take i).foldl one (numC st n))) (sepT M R))) (fun ix _ => n - (intOf ix).toNat)
  case atStart => exact ⟨0, rfl, Nat.zero_le _, HH.out⟩
  case round =>
    obtain ⟨i, rfl, hi, hh⟩ := hrel
    clear HH
    have HH := Lib.hid hh
    clear hh
    by_cases hlt : i < n
    · have hlt' : (i : Int) < (n : Int) := by omega
      have hlx : i < l.length := by have := HN.out; omega
      have hAt : At N w0 M wr := ⟨_, HH.out.turn (a' := sepT M (sepT (cwT p ((l.take i).foldl one (numC st n))) R)) (by ac_rfl)⟩
      obtain ⟨b, off, c', cs, hv, ht, hat0⟩ := Kind.sl_atS HS.out (by decide) hAt i hlx
      obtain rfl : A = some ⟨b, off, none⟩ := by injection hv
      have hat := hat0 wr hAt
      have HC1 := fun W' h => HO.out W' ((l.take i).foldl one (numC st n)) cs l[i] (List.getElem_mem hlx) ht h
      rw [← put_take one (numC st n) l i hlx] at HC1
      generalize l[i] = x at *
      obtain ⟨rfl, _⟩ := ht
      have hat : ∀ j u, (#[.int .i64 x.what, .string x.src, .string x.dst].toList : List Value)[j]? = some u → wr.cell? ⟨b, off + i * 3 + j, none⟩ = some u := hat
      have e0 := hat 0 _ rfl
      have e1 := hat 1 _ rfl
      have e2 := hat 2 _ rfl
      rw [Nat.add_zero] at e0
      have HC2 : Hid (∀ W', Lies N w0 W' (sepT (cwT p ((l.take i).foldl one (numC st n))) (sepT M R)) → Calls Tryz.prog fn #[.pointer (some ⟨p, 0, none⟩), .agg #[.int .i64 x.what, .string x.src, .string x.dst]] W' fun e w' => e = .returned (.tuple #[]) ∧ Lies N w0 w' (sepT (cwT p ((l.take (i + 1)).foldl one (numC st n))) (sepT M R))) := Lib.hid HC1
      clear HC1 hat hat0 hv hAt
      go_wp2_with fail
      refine (HC2.out _ (HH.out.alloc _)).mono ?_
      rintro e w2 ⟨rfl, h⟩
      have HF := Lib.hid h
      clear h HC2 HH
      go_wp2_with fail
      go_roundw
      case rel => exact ⟨i + 1, by go_num, by omega, HF.out⟩
      case measure => simp [intOf]; omega
    · have hlt' : ¬ (i : Int) < (n : Int) := by omega
      have HF : Hid (Lies N w0 wr (sepT (cwT p (putC one st l)) (sepT M R))) := Lib.hid (by have h := HH.out; rw [List.take_of_length_le (by have := HN.out; omega), HP.out] at h; exact h)
      clear HH
      go_wp2_with fail
      go_end0
      exact ⟨rfl, HF.out⟩
set_option maxRecDepth 100000 in
set_option maxHeartbeats 800000 in
theorem putIn_any (fn : FuncId) (one : CS → In → CS) (he : ∀ args (w : World), (callFunc fn args).run Tryz.prog w = .ok (.enter fn args) w) (l : List In) (v : Value) (hM : inK.slS (At N w0 M) v l)
    (hone : ∀ W' st' cs x, x ∈ l → inK.told (At N w0 M) cs x → Lies N w0 W' (sepT (cwT p st') (sepT M R)) → Calls Tryz.prog fn #[.pointer (some ⟨p, 0, none⟩), .agg cs.toArray] W' fun e w' => e = .returned (.tuple #[]) ∧ Lies N w0 w' (sepT (cwT p (one st' x)) (sepT M R)))
    (H : Lies N w0 W (sepT (cwT p st) (sepT M R))) :
    Calls Tryz.prog 91 #[.pointer (some ⟨p, 0, none⟩), v, .func (.func fn) #[.pointer (some ⟨p, 0, none⟩)] #[]] W fun e W' => e = .returned (.tuple #[]) ∧ Lies N w0 W' (sepT (cwT p (putC one st l)) (sepT M R)) := by
  obtain ⟨A, c, rfl, hlen⟩ := Kind.sl_form hM
  have HS := Lib.hid hM
  have HO := Lib.hid hone
  obtain ⟨o, c0, hc⟩ := cw_num H
  have HC := Lib.hid (hc (l.length : Int) (by unfold iz; omega))
  have HP : Hid (l.foldl one (numC st l.length) = putC one st l) := Lib.hid rfl
  obtain ⟨n, hn⟩ : ∃ n, n = l.length := ⟨_, rfl⟩
  have HN := Lib.hid hn
  rw [← hn] at hlen HC HP ⊢
  clear hM hn H hone hc
  go_enter Tryz.func91, Tryz.ntmps91
  go_wp2_with fail
  refine HC.out.mono ?_
  rintro e w1 ⟨⟨E, rfl⟩, h⟩
  have HH := Lib.hid h
  clear h HC c0
  go_wp2_with fail
  go_loopw [17] (fun ix wr => ∃ i : Nat, ix = .int .i64 i ∧ i ≤ n ∧ Lies N w0 wr (sepT (cwT p ((l.take i).foldl one (numC st n))) (sepT M R))) (fun ix _ => n - (intOf ix).toNat)
  case atStart => exact ⟨0, rfl, Nat.zero_le _, HH.out⟩
  case round =>
    obtain ⟨i, rfl, hi, hh⟩ := hrel
    clear HH
    have HH := Lib.hid hh
    clear hh
    by_cases hlt : i < n
    · have hlt' : (i : Int) < (n : Int) := by omega
      have hlx : i < l.length := by have := HN.out; omega
      have hAt : At N w0 M wr := ⟨_, HH.out.turn (a' := sepT M (sepT (cwT p ((l.take i).foldl one (numC st n))) R)) (by ac_rfl)⟩
      obtain ⟨b, off, c', cs, hv, ht, hat0⟩ := Kind.sl_atS HS.out (by decide) hAt i hlx
      obtain rfl : A = some ⟨b, off, none⟩ := by injection hv
      have hat := hat0 wr hAt
      have HC1 := fun W' h => HO.out W' ((l.take i).foldl one (numC st n)) cs l[i] (List.getElem_mem hlx) ht h
      rw [← put_take one (numC st n) l i hlx] at HC1
      generalize l[i] = x at *
      obtain ⟨rfl, _⟩ := ht
      have hat : ∀ j u, (#[.int .i64 x.op, .int .i64 x.a, .int .i64 x.b, .int .i64 x.c].toList : List Value)[j]? = some u → wr.cell? ⟨b, off + i * 4 + j, none⟩ = some u := hat
      have e0 := hat 0 _ rfl
      have e1 := hat 1 _ rfl
      have e2 := hat 2 _ rfl
      have e3 := hat 3 _ rfl
      rw [Nat.add_zero] at e0
      have HC2 : Hid (∀ W', Lies N w0 W' (sepT (cwT p ((l.take i).foldl one (numC st n))) (sepT M R)) → Calls Tryz.prog fn #[.pointer (some ⟨p, 0, none⟩), .agg #[.int .i64 x.op, .int .i64 x.a, .int .i64 x.b, .int .i64 x.c]] W' fun e w' => e = .returned (.tuple #[]) ∧ Lies N w0 w' (sepT (cwT p ((l.take (i + 1)).foldl one (numC st n))) (sepT M R))) := Lib.hid HC1
      clear HC1 hat hat0 hv hAt
      go_wp2_with fail
      refine (HC2.out _ (HH.out.alloc _)).mono ?_
      rintro e w2 ⟨rfl, h⟩
      have HF := Lib.hid h
      clear h HC2 HH
      go_wp2_with fail
      go_roundw
      case rel => exact ⟨i + 1, by go_num, by omega, HF.out⟩
      case measure => simp [intOf]; omega
    · have hlt' : ¬ (i : Int) < (n : Int) := by omega
      have HF : Hid (Lies N w0 wr (sepT (cwT p (putC one st l)) (sepT M R))) := Lib.hid (by have h := HH.out; rw [List.take_of_length_le (by have := HN.out; omega), HP.out] at h; exact h)
      clear HH
      go_wp2_with fail
      go_end0
      exact ⟨rfl, HF.out⟩
set_option maxRecDepth 100000 in
set_option maxHeartbeats 800000 in
theorem putFu_any (fn : FuncId) (one : CS → Fu → CS) (he : ∀ args (w : World), (callFunc fn args).run Tryz.prog w = .ok (.enter fn args) w) (l : List Fu) (v : Value) (hM : fuK.slS (At N w0 M) v l)
    (hone : ∀ W' st' cs x, x ∈ l → fuK.told (At N w0 M) cs x → Lies N w0 W' (sepT (cwT p st') (sepT M R)) → Calls Tryz.prog fn #[.pointer (some ⟨p, 0, none⟩), .agg cs.toArray] W' fun e w' => e = .returned (.tuple #[]) ∧ Lies N w0 w' (sepT (cwT p (one st' x)) (sepT M R)))
    (H : Lies N w0 W (sepT (cwT p st) (sepT M R))) :
    Calls Tryz.prog 34 #[.pointer (some ⟨p, 0, none⟩), v, .func (.func fn) #[.pointer (some ⟨p, 0, none⟩)] #[]] W fun e W' => e = .returned (.tuple #[]) ∧ Lies N w0 W' (sepT (cwT p (putC one st l)) (sepT M R)) := by
  obtain ⟨A, c, rfl, hlen⟩ := Kind.sl_form hM
  have HS := Lib.hid hM
  have HO := Lib.hid hone
  obtain ⟨o, c0, hc⟩ := cw_num H
  have HC := Lib.hid (hc (l.length : Int) (by unfold iz; omega))
  have HP : Hid (l.foldl one (numC st l.length) = putC one st l) := Lib.hid rfl
  obtain ⟨n, hn⟩ : ∃ n, n = l.length := ⟨_, rfl⟩
  have HN := Lib.hid hn
  rw [← hn] at hlen HC HP ⊢
  clear hM hn H hone hc
  go_enter Tryz.func34, Tryz.ntmps34
  go_wp2_with fail
  refine HC.out.mono ?_
  rintro e w1 ⟨⟨E, rfl⟩, h⟩
  have HH := Lib.hid h
  clear h HC c0
  go_wp2_with fail
  go_loopw [17] (fun ix wr => ∃ i : Nat, ix = .int .i64 i ∧ i ≤ n ∧ Lies N w0 wr (sepT (cwT p ((l.take i).foldl one (numC st n))) (sepT M R))) (fun ix _ => n - (intOf ix).toNat)
  case atStart => exact ⟨0, rfl, Nat.zero_le _, HH.out⟩
  case round =>
    obtain ⟨i, rfl, hi, hh⟩ := hrel
    clear HH
    have HH := Lib.hid hh
    clear hh
    by_cases hlt : i < n
    · have hlt' : (i : Int) < (n : Int) := by omega
      have hlx : i < l.length := by have := HN.out; omega
      have hAt : At N w0 M wr := ⟨_, HH.out.turn (a' := sepT M (sepT (cwT p ((l.take i).foldl one (numC st n))) R)) (by ac_rfl)⟩
      obtain ⟨b, off, c', cs, hv, ht, hat0⟩ := Kind.sl_atS HS.out (by decide) hAt i hlx
      obtain rfl : A = some ⟨b, off, none⟩ := by injection hv
      have hat := hat0 wr hAt
      have HC1 := fun W' h => HO.out W' ((l.take i).foldl one (numC st n)) cs l[i] (List.getElem_mem hlx) ht h
      rw [← put_take one (numC st n) l i hlx] at HC1
      generalize l[i] = x at *
      obtain ⟨ls, cd, rfl, _, _, h3, h4⟩ := ht
      obtain ⟨A2, c2, rfl, _⟩ := Kind.sl_form h3
      obtain ⟨A3, c3, rfl, _⟩ := Kind.sl_form h4
      have hat : ∀ j u, (#[.string x.cls, .string x.name, .slice A2 x.locals.length c2, .slice A3 x.code.length c3].toList : List Value)[j]? = some u → wr.cell? ⟨b, off + i * 4 + j, none⟩ = some u := hat
      have e0 := hat 0 _ rfl
      have e1 := hat 1 _ rfl
      have e2 := hat 2 _ rfl
      have e3 := hat 3 _ rfl
      rw [Nat.add_zero] at e0
      have HC2 : Hid (∀ W', Lies N w0 W' (sepT (cwT p ((l.take i).foldl one (numC st n))) (sepT M R)) → Calls Tryz.prog fn #[.pointer (some ⟨p, 0, none⟩), .agg #[.string x.cls, .string x.name, .slice A2 x.locals.length c2, .slice A3 x.code.length c3]] W' fun e w' => e = .returned (.tuple #[]) ∧ Lies N w0 w' (sepT (cwT p ((l.take (i + 1)).foldl one (numC st n))) (sepT M R))) := Lib.hid HC1
      clear HC1 hat hat0 hv hAt
      go_wp2_with fail
      refine (HC2.out _ (HH.out.alloc _)).mono ?_
      rintro e w2 ⟨rfl, h⟩
      have HF := Lib.hid h
      clear h HC2 HH
      go_wp2_with fail
      go_roundw
      case rel => exact ⟨i + 1, by go_num, by omega, HF.out⟩
      case measure => simp [intOf]; omega
    · have hlt' : ¬ (i : Int) < (n : Int) := by omega
      have HF : Hid (Lies N w0 wr (sepT (cwT p (putC one st l)) (sepT M R))) := Lib.hid (by have h := HH.out; rw [List.take_of_length_le (by have := HN.out; omega), HP.out] at h; exact h)
      clear HH
      go_wp2_with fail
      go_end0
      exact ⟨rfl, HF.out⟩
set_option maxRecDepth 100000 in
set_option maxHeartbeats 800000 in
theorem putTx_any (fn : FuncId) (one : CS → ByteArray → CS) (he : ∀ args (w : World), (callFunc fn args).run Tryz.prog w = .ok (.enter fn args) w) (l : List ByteArray) (v : Value) (hM : txK.slS (At N w0 M) v l)
    (hone : ∀ W' st' cs x, x ∈ l → txK.told (At N w0 M) cs x → Lies N w0 W' (sepT (cwT p st') (sepT M R)) → Calls Tryz.prog fn #[.pointer (some ⟨p, 0, none⟩), .string x] W' fun e w' => e = .returned (.tuple #[]) ∧ Lies N w0 w' (sepT (cwT p (one st' x)) (sepT M R)))
    (H : Lies N w0 W (sepT (cwT p st) (sepT M R))) :
    Calls Tryz.prog 32 #[.pointer (some ⟨p, 0, none⟩), v, .func (.func fn) #[.pointer (some ⟨p, 0, none⟩)] #[]] W fun e W' => e = .returned (.tuple #[]) ∧ Lies N w0 W' (sepT (cwT p (putC one st l)) (sepT M R)) := by
  obtain ⟨A, c, rfl, hlen⟩ := Kind.sl_form hM
  have HS := Lib.hid hM
  have HO := Lib.hid hone
  obtain ⟨o, c0, hc⟩ := cw_num H
  have HC := Lib.hid (hc (l.length : Int) (by unfold iz; omega))
  have HP : Hid (l.foldl one (numC st l.length) = putC one st l) := Lib.hid rfl
  obtain ⟨n, hn⟩ : ∃ n, n = l.length := ⟨_, rfl⟩
  have HN := Lib.hid hn
  rw [← hn] at hlen HC HP ⊢
  clear hM hn H hone hc
  go_enter Tryz.func32, Tryz.ntmps32
  go_wp2_with fail
  refine HC.out.mono ?_
  rintro e w1 ⟨⟨E, rfl⟩, h⟩
  have HH := Lib.hid h
  clear h HC c0
  go_wp2_with fail
  go_loopw [17] (fun ix wr => ∃ i : Nat, ix = .int .i64 i ∧ i ≤ n ∧ Lies N w0 wr (sepT (cwT p ((l.take i).foldl one (numC st n))) (sepT M R))) (fun ix _ => n - (intOf ix).toNat)
  case atStart => exact ⟨0, rfl, Nat.zero_le _, HH.out⟩
  case round =>
    obtain ⟨i, rfl, hi, hh⟩ := hrel
    clear HH
    have HH := Lib.hid hh
    clear hh
    by_cases hlt : i < n
    · have hlt' : (i : Int) < (n : Int) := by omega
      have hlx : i < l.length := by have := HN.out; omega
      have hAt : At N w0 M wr := ⟨_, HH.out.turn (a' := sepT M (sepT (cwT p ((l.take i).foldl one (numC st n))) R)) (by ac_rfl)⟩
      obtain ⟨b, off, c', cs, hv, ht, hat0⟩ := Kind.sl_atS HS.out (by decide) hAt i hlx
      obtain rfl : A = some ⟨b, off, none⟩ := by injection hv
      have hat := hat0 wr hAt
      have HC1 := fun W' h => HO.out W' ((l.take i).foldl one (numC st n)) cs l[i] (List.getElem_mem hlx) ht h
      rw [← put_take one (numC st n) l i hlx] at HC1
      generalize l[i] = x at *
      obtain ⟨rfl, _⟩ := ht
      have hat : ∀ j u, (#[.string x].toList : List Value)[j]? = some u → wr.cell? ⟨b, off + i * 1 + j, none⟩ = some u := hat
      have e0 := hat 0 _ rfl
      rw [Nat.add_zero] at e0
      rw [Nat.mul_one] at e0
      have HC2 : Hid (∀ W', Lies N w0 W' (sepT (cwT p ((l.take i).foldl one (numC st n))) (sepT M R)) → Calls Tryz.prog fn #[.pointer (some ⟨p, 0, none⟩), .string x] W' fun e w' => e = .returned (.tuple #[]) ∧ Lies N w0 w' (sepT (cwT p ((l.take (i + 1)).foldl one (numC st n))) (sepT M R))) := Lib.hid HC1
      clear HC1 hat hat0 hv hAt
      go_wp2_with fail
      refine (HC2.out _ HH.out).mono ?_
      rintro e w2 ⟨rfl, h⟩
      have HF := Lib.hid h
      clear h HC2 HH
      go_wp2_with fail
      go_roundw
      case rel => exact ⟨i + 1, by go_num, by omega, HF.out⟩
      case measure => simp [intOf]; omega
    · have hlt' : ¬ (i : Int) < (n : Int) := by omega
      have HF : Hid (Lies N w0 wr (sepT (cwT p (putC one st l)) (sepT M R))) := Lib.hid (by have h := HH.out; rw [List.take_of_length_le (by have := HN.out; omega), HP.out] at h; exact h)
      clear HH
      go_wp2_with fail
      go_end0
      exact ⟨rfl, HF.out⟩
end
end Go.Proofs.YtcapdmicekialaaGreat
/- codec.writer: variable, method, class, site, ins, function. -/
namespace Go.Proofs.YtcapdmicekialaaGreat
open Go.RowKit
set_option linter.unusedVariables false
set_option linter.unusedSimpArgs false
attribute [local go_sem] Oper.semAt_some run_store_func run_store_nilFunc
def vrC (st : CS) (x : Vr) : CS := wordsC st [x.1, x.2]
def sgC (st : CS) (x : Sg) : CS := wordC (putC vrC (wordC st x.name) x.params) x.result
def clC (st : CS) (x : Cl) : CS := putC sgC (putC vrC (wordsC st [x.name, x.super]) x.fields) x.methods
def stC (st : CS) (x : St) : CS := wordsC (numC st x.what) [x.src, x.dst]
def inC (st : CS) (x : In) : CS := opC (opC (opC (numC st x.op) x.a) x.b) x.c
def fuC (st : CS) (x : Fu) : CS := putC inC (putC wordC (wordsC st [x.cls, x.name]) x.locals) x.code
section
variable {N : Nat} {w0 W : World} {R M : Thing} {p : Nat} {st : CS}
theorem tx2 (b : Nat) (e : TypeId) (s t : ByteArray) (hs : sz s) (ht : sz t) : txK.slS (At N w0 (blkT b e #[.string s, .string t])) (.slice (some ⟨b, 0, none⟩) 2 2) [s, t] := by
  refine ⟨_, 2, [[.string s], [.string t]], rfl, ?_, ⟨⟨rfl, hs⟩, ⟨rfl, ht⟩, trivial⟩, by simp⟩
  rintro W ⟨R, h⟩
  refine ⟨rfl, fun _ => ⟨_, rfl, h.blk.1.lt, fun j u hu => ?_⟩⟩
  rw [Addr.add_lit, Nat.zero_add, h.blk.1.cell j, ← hu]
  match j with
  | 0 => rfl
  | 1 => rfl
  | j + 2 => rfl
/-- w.words(s, t). -/
theorem cwords2 (b : Nat) (e : TypeId) (s t : ByteArray) (hs : sz s) (ht : sz t) (H : Lies N w0 W (sepT (cwT p st) (sepT (blkT b e #[.string s, .string t]) R))) : Calls Tryz.prog 85 #[.pointer (some ⟨p, 0, none⟩), .slice (some ⟨b, 0, none⟩) 2 2] W fun e W' => e = .returned (.tuple #[]) ∧ Lies N w0 W' (sepT (cwT p (wordsC st [s, t])) R) :=
  (cwords_any [s, t] _ (tx2 b e s t hs ht) H).mono fun e W' ⟨he, h⟩ => ⟨he, (h.turn (a' := sepT (blkT b _ #[.string s, .string t]) (sepT (cwT p (wordsC st [s, t])) R)) (by ac_rfl)).drop⟩
set_option maxRecDepth 100000 in
theorem cvar_any {S : World → Prop} (cs : List Value) (x : Vr) (h : vrK.told S cs x) (H : Lies N w0 W (sepT (cwT p st) R)) : Calls Tryz.prog 87 #[.pointer (some ⟨p, 0, none⟩), .agg cs.toArray] W fun e W' => e = .returned (.tuple #[]) ∧ Lies N w0 W' (sepT (cwT p (vrC st x)) R) := by
  obtain ⟨rfl, h1, h2⟩ := h
  have hb := (H.alloc (.cells #[.string x.1, .string x.2] 140)).newBlk 9 #[.string x.1, .string x.2]
  have hsz : (W.alloc (.cells #[.string x.1, .string x.2] 140)).heap.size = W.heap.size + 1 := by simp
  rw [hsz] at hb
  have HC := Lib.hid (cwords2 _ _ _ _ h1 h2 (hb.turn (a' := sepT (cwT p st) (sepT (blkT (W.heap.size + 1) 9 #[.string x.1, .string x.2]) R)) (by ac_rfl)))
  clear H hb h1 h2 hsz
  show Calls Tryz.prog 87 #[.pointer (some ⟨p, 0, none⟩), .agg #[.string x.1, .string x.2]] W _
  go_enter Tryz.func87, Tryz.ntmps87
  go_wp2_with fail
  refine HC.out.mono ?_
  rintro e w1 ⟨rfl, h⟩
  have HF := Lib.hid h
  clear h HC
  go_wp2_with fail
  go_end0
  exact ⟨rfl, HF.out⟩
set_option maxRecDepth 100000 in
theorem csite_any {S : World → Prop} (cs : List Value) (x : St) (h : stK.told S cs x) (H : Lies N w0 W (sepT (cwT p st) R)) : Calls Tryz.prog 31 #[.pointer (some ⟨p, 0, none⟩), .agg cs.toArray] W fun e W' => e = .returned (.tuple #[]) ∧ Lies N w0 W' (sepT (cwT p (stC st x)) R) := by
  obtain ⟨rfl, h1, h2, h3⟩ := h
  have hb := (H.newBlk 70 #[.int .i64 x.what, .string x.src, .string x.dst]).turn (a' := sepT (cwT p st) (sepT (blkT W.heap.size 70 #[.int .i64 x.what, .string x.src, .string x.dst]) R)) (by ac_rfl)
  obtain ⟨o, c0, hc⟩ := cw_num hb.drew
  have HC := Lib.hid (hc x.what h1)
  have HZ := Lib.hid (And.intro h2 h3)
  have HN := Lib.hid (fun n => (cw_num (hb.drewN n)))
  clear H hb h1 h2 h3 hc
  show Calls Tryz.prog 31 #[.pointer (some ⟨p, 0, none⟩), .agg #[.int .i64 x.what, .string x.src, .string x.dst]] W _
  go_enter Tryz.func31, Tryz.ntmps31
  go_wp2_with fail
  refine wp_region_text [6] (fun _ => 0) (fun i => if i = 6 then 1 else 0) (by kernel_rfl) (by kernel_rfl) (by kernel_rfl) (by kernel_rfl) (by kernel_rfl) ?_
  repeat (refine wpTx_now (by rfl) (by rfl) (by rfl) (fun K hK => ?_); go_simp; refine hK _ ?_; clear hK K)
  refine wpTx_eff (by rfl) (fun K hK => ?_)
  go_simp
  refine HC.out.mono ?_
  rintro e w1 ⟨⟨E, rfl⟩, h⟩
  have hbl := (h.turn (a' := sepT (blkT W.heap.size 70 #[.int .i64 x.what, .string x.src, .string x.dst]) (sepT (cwT p (numC st x.what)) R)) (by ac_rfl))
  have d1 := hbl.blk.1.cell 1
  have d2 := hbl.blk.1.cell 2
  simp at d1 d2
  have HC2 := Lib.hid (cwords2 _ _ _ _ HZ.out.1 HZ.out.2 ((hbl.drop.newBlk 9 #[.string x.src, .string x.dst]).turn (a' := sepT (cwT p (numC st x.what)) (sepT (blkT w1.heap.size 9 #[.string x.src, .string x.dst]) R)) (by ac_rfl)))
  refine ⟨_, rfl, hK _ _ (by simp [lateOK]) ?_⟩
  clear hK K h hbl HC HN c0
  refine wpTx_nil ?_
  go_wp2_with fail
  refine HC2.out.mono ?_
  rintro e w2 ⟨rfl, h⟩
  have HF := Lib.hid h
  clear h HC2
  go_wp2_with fail
  go_end0
  exact ⟨rfl, HF.out⟩
set_option maxRecDepth 100000 in
set_option maxHeartbeats 800000 in
theorem cmeth_any (cs : List Value) (x : Sg) (h : sgK.told (At N w0 M) cs x) (H : Lies N w0 W (sepT (cwT p st) (sepT M R))) : Calls Tryz.prog 89 #[.pointer (some ⟨p, 0, none⟩), .agg cs.toArray] W fun e W' => e = .returned (.tuple #[]) ∧ Lies N w0 W' (sepT (cwT p (sgC st x)) (sepT M R)) := by
  obtain ⟨ps, rfl, h1, h2, h3⟩ := h
  obtain ⟨A, c, rfl, hl⟩ := Kind.sl_form h3
  have hb := (H.newBlk 120 #[.string x.name, .slice A x.params.length c, .string x.result]).turn (a' := sepT (cwT p st) (sepT M (sepT (blkT W.heap.size 120 #[.string x.name, .slice A x.params.length c, .string x.result]) R))) (by ac_rfl)
  have HC := Lib.hid (cword_any x.name h1 hb)
  have HS := Lib.hid h3
  have HZ := Lib.hid h2
  have hmf : ∀ fn first cap (w : World), (Instr.makeFunc fn first cap).run Tryz.prog w = .ok (.func fn first cap) w := fun _ _ _ _ => rfl
  clear H hb h1 h2 h3
  show Calls Tryz.prog 89 #[.pointer (some ⟨p, 0, none⟩), .agg #[.string x.name, .slice A x.params.length c, .string x.result]] W _
  go_enter Tryz.func89, Tryz.ntmps89
  go_wp2_with fail
  refine HC.out.mono ?_
  rintro e w1 ⟨rfl, h⟩
  have d1 := (h.turn (a' := sepT (blkT W.heap.size 120 #[.string x.name, .slice A x.params.length c, .string x.result]) (sepT (cwT p (wordC st x.name)) (sepT M R))) (by ac_rfl)).blk.1.cell 1
  simp at d1
  have HC2 := Lib.hid (putVr_any 87 vrC (fun _ _ => rfl) x.params _ HS.out (fun W' st' cs y _ hy h => cvar_any cs y hy h) h)
  clear h HC
  go_wp2_with fail
  refine HC2.out.mono ?_
  rintro e w2 ⟨rfl, h⟩
  have d2 := (h.turn (a' := sepT (blkT W.heap.size 120 #[.string x.name, .slice A x.params.length c, .string x.result]) (sepT (cwT p (putC vrC (wordC st x.name) x.params)) (sepT M R))) (by ac_rfl)).blk.1.cell 2
  simp at d2
  have HC3 := Lib.hid (cword_any x.result HZ.out h)
  clear h HC2 d1
  go_wp2_with fail
  refine HC3.out.mono ?_
  rintro e w3 ⟨rfl, h⟩
  have HF := Lib.hid ((h.turn (a' := sepT (blkT W.heap.size 120 #[.string x.name, .slice A x.params.length c, .string x.result]) (sepT (cwT p (sgC st x)) (sepT M R))) (by unfold sgC; ac_rfl)).drop)
  clear h HC3 d2
  go_wp2_with fail
  go_end0
  exact ⟨rfl, HF.out⟩
set_option maxRecDepth 100000 in
set_option maxHeartbeats 800000 in
theorem ccls_any (cs : List Value) (x : Cl) (h : clK.told (At N w0 M) cs x) (H : Lies N w0 W (sepT (cwT p st) (sepT M R))) : Calls Tryz.prog 29 #[.pointer (some ⟨p, 0, none⟩), .agg cs.toArray] W fun e W' => e = .returned (.tuple #[]) ∧ Lies N w0 W' (sepT (cwT p (clC st x)) (sepT M R)) := by
  obtain ⟨fs, ms, rfl, h1, h2, h3, h4⟩ := h
  obtain ⟨A, c, rfl, hl⟩ := Kind.sl_form h3
  obtain ⟨B, d, rfl, hl2⟩ := Kind.sl_form h4
  have hb := (H.newBlk 66 #[.string x.name, .string x.super, .slice A x.fields.length c, .slice B x.methods.length d]).newBlk 9 #[.string x.name, .string x.super]
  have hsz : (W.alloc (.cells #[.string x.name, .string x.super, .slice A x.fields.length c, .slice B x.methods.length d] 66)).heap.size = W.heap.size + 1 := by simp
  rw [hsz] at hb
  have HC := Lib.hid (cwords2 _ _ _ _ h1 h2 (hb.turn (a' := sepT (cwT p st) (sepT (blkT (W.heap.size + 1) 9 #[.string x.name, .string x.super]) (sepT M (sepT (blkT W.heap.size 66 #[.string x.name, .string x.super, .slice A x.fields.length c, .slice B x.methods.length d]) R)))) (by ac_rfl)))
  have HS := Lib.hid h3
  have HS2 := Lib.hid h4
  have hmf : ∀ fn first cap (w : World), (Instr.makeFunc fn first cap).run Tryz.prog w = .ok (.func fn first cap) w := fun _ _ _ _ => rfl
  clear H hb hsz h1 h2 h3 h4
  show Calls Tryz.prog 29 #[.pointer (some ⟨p, 0, none⟩), .agg #[.string x.name, .string x.super, .slice A x.fields.length c, .slice B x.methods.length d]] W _
  go_enter Tryz.func29, Tryz.ntmps29
  go_wp2_with fail
  refine HC.out.mono ?_
  rintro e w1 ⟨rfl, h⟩
  have d2 := (h.turn (a' := sepT (blkT W.heap.size 66 #[.string x.name, .string x.super, .slice A x.fields.length c, .slice B x.methods.length d]) (sepT (cwT p (wordsC st [x.name, x.super])) (sepT M R))) (by ac_rfl)).blk.1.cell 2
  simp at d2
  have HC2 := Lib.hid (putVr_any 87 vrC (fun _ _ => rfl) x.fields _ HS.out (fun W' st' cs y _ hy h => cvar_any cs y hy h) h)
  clear h HC
  go_wp2_with fail
  refine HC2.out.mono ?_
  rintro e w2 ⟨rfl, h⟩
  have d3 := (h.turn (a' := sepT (blkT W.heap.size 66 #[.string x.name, .string x.super, .slice A x.fields.length c, .slice B x.methods.length d]) (sepT (cwT p (putC vrC (wordsC st [x.name, x.super]) x.fields)) (sepT M R))) (by ac_rfl)).blk.1.cell 3
  simp at d3
  have HC3 := Lib.hid (putSg_any 89 sgC (fun _ _ => rfl) x.methods _ HS2.out (fun W' st' cs y _ hy h => cmeth_any cs y hy h) h)
  clear h HC2 d2
  go_wp2_with fail
  refine HC3.out.mono ?_
  rintro e w3 ⟨rfl, h⟩
  have HF := Lib.hid ((h.turn (a' := sepT (blkT W.heap.size 66 #[.string x.name, .string x.super, .slice A x.fields.length c, .slice B x.methods.length d]) (sepT (cwT p (clC st x)) (sepT M R))) (by unfold clC; ac_rfl)).drop)
  clear h HC3 d3
  go_wp2_with fail
  go_end0
  exact ⟨rfl, HF.out⟩
theorem aidx0 (a b c : Int) (w : World) : (Instr.index 174 (.agg #[.int .i64 a, .int .i64 b, .int .i64 c]) (.int .i64 0)).run Tryz.prog w = .ok (.int .i64 a) w := by kernel_rfl
theorem aidx1 (a b c : Int) (w : World) : (Instr.index 174 (.agg #[.int .i64 a, .int .i64 b, .int .i64 c]) (.int .i64 1)).run Tryz.prog w = .ok (.int .i64 b) w := by kernel_rfl
theorem aidx2 (a b c : Int) (w : World) : (Instr.index 174 (.agg #[.int .i64 a, .int .i64 b, .int .i64 c]) (.int .i64 2)).run Tryz.prog w = .ok (.int .i64 c) w := by kernel_rfl
set_option maxRecDepth 100000 in
set_option maxHeartbeats 1600000 in
theorem cins_any {S : World → Prop} (cs : List Value) (x : In) (h : inK.told S cs x) (H : Lies N w0 W (sepT (cwT p st) R)) : Calls Tryz.prog 92 #[.pointer (some ⟨p, 0, none⟩), .agg cs.toArray] W fun e W' => e = .returned (.tuple #[]) ∧ Lies N w0 W' (sepT (cwT p (inC st x)) R) := by
  obtain ⟨rfl, h1, h2, h3, h4⟩ := h
  obtain ⟨op, a, b, c⟩ := x
  have hb := (H.newBlk 117 #[.int .i64 op, .int .i64 a, .int .i64 b, .int .i64 c]).turn (a' := sepT (cwT p st) (sepT (blkT W.heap.size 117 #[.int .i64 op, .int .i64 a, .int .i64 b, .int .i64 c]) R)) (by ac_rfl)
  obtain ⟨o, c0, hc⟩ := cw_num hb.drew
  have HC := Lib.hid (hc op h1)
  have HZ := Lib.hid (And.intro h2 (And.intro h3 h4))
  clear H hb h1 h2 h3 h4 hc
  show Calls Tryz.prog 92 #[.pointer (some ⟨p, 0, none⟩), .agg #[.int .i64 op, .int .i64 a, .int .i64 b, .int .i64 c]] W _
  go_enter Tryz.func92, Tryz.ntmps92
  go_wp2_with fail
  refine wp_region_text [6] (fun _ => 0) (fun i => if i = 6 then 1 else 0) (by kernel_rfl) (by kernel_rfl) (by kernel_rfl) (by kernel_rfl) (by kernel_rfl) ?_
  repeat (refine wpTx_now (by rfl) (by rfl) (by rfl) (fun K hK => ?_); go_simp; refine hK _ ?_; clear hK K)
  refine wpTx_eff (by rfl) (fun K hK => ?_)
  go_simp
  refine HC.out.mono ?_
  rintro e w1 ⟨⟨E, rfl⟩, h⟩
  have hbl := (h.turn (a' := sepT (blkT W.heap.size 117 #[.int .i64 op, .int .i64 a, .int .i64 b, .int .i64 c]) (sepT (cwT p (numC st op)) R)) (by ac_rfl))
  have d1 := hbl.blk.1.cell 1
  have d2 := hbl.blk.1.cell 2
  have d3 := hbl.blk.1.cell 3
  simp at d1 d2 d3
  have HH := Lib.hid hbl.drop
  refine ⟨_, rfl, hK _ _ (by simp [lateOK]) ?_⟩
  clear hK K h hbl HC c0
  refine wpTx_nil ?_
  have x0 := aidx0
  have x1 := aidx1
  have x2 := aidx2
  go_wp2_with fail
  go_loopw [20] (fun ix wr => (ix = .int .i64 0 ∧ Lies N w0 wr (sepT (cwT p (numC st op)) R)) ∨ (ix = .int .i64 1 ∧ Lies N w0 wr (sepT (cwT p (opC (numC st op) a)) R)) ∨ (ix = .int .i64 2 ∧ Lies N w0 wr (sepT (cwT p (opC (opC (numC st op) a) b)) R)) ∨ (ix = .int .i64 3 ∧ Lies N w0 wr (sepT (cwT p (inC st ⟨op, a, b, c⟩)) R))) (fun ix _ => 3 - (intOf ix).toNat)
  case atStart => exact .inl ⟨rfl, HH.out⟩
  case round =>
    clear HH d1 d2 d3
    rcases hrel with ⟨rfl, hh⟩ | ⟨rfl, hh⟩ | ⟨rfl, hh⟩ | ⟨rfl, hh⟩
    · have HC := Lib.hid (cop_any a HZ.out.1 hh)
      clear hh
      go_wp2_with fail
      refine HC.out.mono ?_
      rintro e w2 ⟨rfl, h⟩
      have HF := Lib.hid h
      clear h HC
      go_wp2_with fail
      go_roundw
      case rel => exact .inr (.inl ⟨rfl, HF.out⟩)
      case measure => simp [intOf]
    · have HC := Lib.hid (cop_any b HZ.out.2.1 hh)
      clear hh
      go_wp2_with fail
      refine HC.out.mono ?_
      rintro e w2 ⟨rfl, h⟩
      have HF := Lib.hid h
      clear h HC
      go_wp2_with fail
      go_roundw
      case rel => exact .inr (.inr (.inl ⟨rfl, HF.out⟩))
      case measure => simp [intOf]
    · have HC := Lib.hid (cop_any c HZ.out.2.2 hh)
      clear hh
      go_wp2_with fail
      refine HC.out.mono ?_
      rintro e w2 ⟨rfl, h⟩
      have HF := Lib.hid h
      clear h HC
      go_wp2_with fail
      go_roundw
      case rel => exact .inr (.inr (.inr ⟨rfl, HF.out⟩))
      case measure => simp [intOf]
    · have HF := Lib.hid hh
      clear hh
      go_wp2_with fail
      go_end0
      exact ⟨rfl, HF.out⟩
set_option maxRecDepth 100000 in
set_option maxHeartbeats 800000 in
theorem cfun_any (cs : List Value) (x : Fu) (h : fuK.told (At N w0 M) cs x) (H : Lies N w0 W (sepT (cwT p st) (sepT M R))) : Calls Tryz.prog 35 #[.pointer (some ⟨p, 0, none⟩), .agg cs.toArray] W fun e W' => e = .returned (.tuple #[]) ∧ Lies N w0 W' (sepT (cwT p (fuC st x)) (sepT M R)) := by
  obtain ⟨fs, ms, rfl, h1, h2, h3, h4⟩ := h
  obtain ⟨A, c, rfl, hl⟩ := Kind.sl_form h3
  obtain ⟨B, d, rfl, hl2⟩ := Kind.sl_form h4
  have hb := (H.newBlk 48 #[.string x.cls, .string x.name, .slice A x.locals.length c, .slice B x.code.length d]).newBlk 9 #[.string x.cls, .string x.name]
  have hsz : (W.alloc (.cells #[.string x.cls, .string x.name, .slice A x.locals.length c, .slice B x.code.length d] 48)).heap.size = W.heap.size + 1 := by simp
  rw [hsz] at hb
  have HC := Lib.hid (cwords2 _ _ _ _ h1 h2 (hb.turn (a' := sepT (cwT p st) (sepT (blkT (W.heap.size + 1) 9 #[.string x.cls, .string x.name]) (sepT M (sepT (blkT W.heap.size 48 #[.string x.cls, .string x.name, .slice A x.locals.length c, .slice B x.code.length d]) R)))) (by ac_rfl)))
  have HS := Lib.hid h3
  have HS2 := Lib.hid h4
  have hmf : ∀ fn first cap (w : World), (Instr.makeFunc fn first cap).run Tryz.prog w = .ok (.func fn first cap) w := fun _ _ _ _ => rfl
  clear H hb hsz h1 h2 h3 h4
  show Calls Tryz.prog 35 #[.pointer (some ⟨p, 0, none⟩), .agg #[.string x.cls, .string x.name, .slice A x.locals.length c, .slice B x.code.length d]] W _
  go_enter Tryz.func35, Tryz.ntmps35
  go_wp2_with fail
  refine HC.out.mono ?_
  rintro e w1 ⟨rfl, h⟩
  have d2 := (h.turn (a' := sepT (blkT W.heap.size 48 #[.string x.cls, .string x.name, .slice A x.locals.length c, .slice B x.code.length d]) (sepT (cwT p (wordsC st [x.cls, x.name])) (sepT M R))) (by ac_rfl)).blk.1.cell 2
  simp at d2
  have HC2 := Lib.hid (putTx_any 33 wordC (fun _ _ => rfl) x.locals _ HS.out (fun W' st' cs y _ hy h => cword_any y hy.2 h) h)
  clear h HC
  go_wp2_with fail
  refine HC2.out.mono ?_
  rintro e w2 ⟨rfl, h⟩
  have d3 := (h.turn (a' := sepT (blkT W.heap.size 48 #[.string x.cls, .string x.name, .slice A x.locals.length c, .slice B x.code.length d]) (sepT (cwT p (putC wordC (wordsC st [x.cls, x.name]) x.locals)) (sepT M R))) (by ac_rfl)).blk.1.cell 3
  simp at d3
  have HC3 := Lib.hid (putIn_any 92 inC (fun _ _ => rfl) x.code _ HS2.out (fun W' st' cs y _ hy h => cins_any cs y hy h) h)
  clear h HC2 d2
  go_wp2_with fail
  refine HC3.out.mono ?_
  rintro e w3 ⟨rfl, h⟩
  have HF := Lib.hid ((h.turn (a' := sepT (blkT W.heap.size 48 #[.string x.cls, .string x.name, .slice A x.locals.length c, .slice B x.code.length d]) (sepT (cwT p (fuC st x)) (sepT M R))) (by unfold fuC; ac_rfl)).drop)
  clear h HC3 d3
  go_wp2_with fail
  go_end0
  exact ⟨rfl, HF.out⟩
end
end Go.Proofs.YtcapdmicekialaaGreat
/- codec.Encode. -/
namespace Go.Proofs.YtcapdmicekialaaGreat
open Go.RowKit
set_option linter.unusedVariables false
set_option linter.unusedSimpArgs false
attribute [local go_sem] Oper.semAt_some run_store_func run_store_nilFunc
def st0 : CS := (([], 0), false)
def mdC (m : Md) : CS := putC fuC (putC wordC (putC stC (putC clC (numC (numC st0 67) 1) m.table) m.sites) m.pool) m.funcs
/-- What Encode tells. -/
def encM (m : Md) : List UInt8 × Int := if manyM m then ([], 12) else if belowM m then ([], 3) else if (mdC m).2 then ([], 4) else if (mdC m).1.2 ≠ 0 then ([], 4) else ((mdC m).1.1, 0)
section
variable {N : Nat} {w0 W W' : World} {R M : Thing} {p : Nat} {st : CS}
theorem Lies.calm (h : Lies N w0 W R) (hb : Below W.heap.size W W') : Lies N w0 W' R := h.quiet (Only.of_below hb fun b hb hn => by omega)
theorem by_nil (H : Lies N w0 W R) : Lies N w0 W (sepT (byT none 0 []) R) :=
  H.add _ (Only.refl _ _) ⟨_, ⟨World.ownsRow_nil _ _ _ _, rfl⟩, fun b hb => by simp [Value.ownBlock] at hb⟩
theorem Lies.wnew (H : Lies N w0 W R) (n : Int) (h0 : 0 ≤ n) (h1 : n ≤ 1048576) : Calls Tryz.prog 26 #[.int .i64 n] W fun e W' => ∃ o, e = .returned (.tuple #[.pointer (some ⟨o, 0, none⟩), .int .i64 0]) ∧ Lies N w0 W' (sepT (wrT o n ([], 0)) R) :=
  (Hold.wnew H.hold1 n h0 h1).mono fun e W' ⟨o, he, h⟩ => ⟨o, he, (Hold.lies h).turn (by ac_rfl)⟩
theorem cw_bytes (H : Lies N w0 W (sepT (cwT p st) R)) : ∃ o, W.cell? ⟨p, 0, none⟩ = some (.pointer (some ⟨o, 0, none⟩)) ∧ Calls Tryz.prog 36 #[.pointer (some ⟨o, 0, none⟩)] W fun e W' => ∃ A c, e = .returned (.tuple #[.slice A (if st.1.2 = 0 then st.1.1 else []).length c, .int .i64 st.1.2]) ∧ Lies N w0 W' (sepT (byT A c (if st.1.2 = 0 then st.1.1 else [])) (sepT (cwT p st) R)) := by
  obtain ⟨o, h⟩ := cw_out H
  refine ⟨o, h.blk.1.cell 0, (Hold.wbytes (h.turn (a' := sepT (wrT o 1048576 st.1) (sepT (blkT p 60 #[.pointer (some ⟨o, 0, none⟩), .bool st.2]) R)) (by ac_rfl)).hold 0 rfl).mono ?_⟩
  rintro e W' ⟨A, c, he, h', _⟩
  refine ⟨A, c, he, ?_⟩
  have h3 := cw_in (p := p) (st := st) (o := o) (R := sepT (byT A c (if st.1.2 = 0 then st.1.1 else [])) R) ((Hold.lies3 h').turn (by ac_rfl))
  exact h3.turn (by ac_rfl)
theorem cw_long (H : Lies N w0 W (sepT (cwT p st) R)) : W.cell? ⟨p, 1, none⟩ = some (.bool st.2) := by
  obtain ⟨o, h⟩ := cw_out H
  exact h.blk.1.cell 1
set_option maxRecDepth 100000 in
set_option maxHeartbeats 3200000 in
theorem enc_any (cs : List Value) (m : Md) (h : mdK.told (At N w0 M) cs m) (H : Lies N w0 W (sepT M R)) : Calls Tryz.prog 8 #[.agg cs.toArray] W fun e w' => ∃ A c, e = .returned (.tuple #[.slice A (encM m).1.length c, .int .i64 (encM m).2]) ∧ Lies N w0 w' (sepT (byT A c (encM m).1) (sepT M R)) := by
  have HT := Lib.hid h
  obtain ⟨t, s, q, f, rfl, h1, h2, h3, h4⟩ := h
  obtain ⟨At_, ct, ht, hlt⟩ := Kind.sl_form h1
  obtain ⟨As, c2, hs, hls⟩ := Kind.sl_form h2
  obtain ⟨Ap, cp, hp, hlp⟩ := Kind.sl_form h3
  obtain ⟨Af, cf, hf, hlf⟩ := Kind.sl_form h4
  subst ht hs hp hf
  have hb := (H.newBlk 27 #[.slice At_ m.table.length ct, .slice As m.sites.length c2, .slice Ap m.pool.length cp, .slice Af m.funcs.length cf]).turn (a' := sepT M (sepT (blkT W.heap.size 27 #[.slice At_ m.table.length ct, .slice As m.sites.length c2, .slice Ap m.pool.length cp, .slice Af m.funcs.length cf]) R)) (by ac_rfl)
  have HM : Hid (∀ W', Lies N w0 W' (sepT M (sepT (blkT W.heap.size 27 #[.slice At_ m.table.length ct, .slice As m.sites.length c2, .slice Ap m.pool.length cp, .slice Af m.funcs.length cf]) R)) → Calls Tryz.prog 24 #[.agg #[.slice At_ m.table.length ct, .slice As m.sites.length c2, .slice Ap m.pool.length cp, .slice Af m.funcs.length cf]] W' (RetB (manyM m) W')) := Lib.hid fun W' h => many_any W' _ m (Kind.one HT.out ⟨_, h⟩)
  have HB : Hid (∀ W', Lies N w0 W' (sepT M (sepT (blkT W.heap.size 27 #[.slice At_ m.table.length ct, .slice As m.sites.length c2, .slice Ap m.pool.length cp, .slice Af m.funcs.length cf]) R)) → Calls Tryz.prog 25 #[.agg #[.slice At_ m.table.length ct, .slice As m.sites.length c2, .slice Ap m.pool.length cp, .slice Af m.funcs.length cf]] W' (RetB (belowM m) W')) := Lib.hid fun W' h => below_any W' _ m (Kind.one HT.out ⟨_, h⟩)
  have H1 := Lib.hid (And.intro h1 (And.intro h2 (And.intro h3 h4)))
  have HH := Lib.hid hb
  have hmf : ∀ fn first cap (w : World), (Instr.makeFunc fn first cap).run Tryz.prog w = .ok (.func fn first cap) w := fun _ _ _ _ => rfl
  clear H hb h1 h2 h3 h4
  show Calls Tryz.prog 8 #[.agg #[.slice At_ m.table.length ct, .slice As m.sites.length c2, .slice Ap m.pool.length cp, .slice Af m.funcs.length cf]] W _
  by_cases g1 : manyM m = true
  · have HE : Hid (encM m = ([], 12)) := Lib.hid (if_pos g1)
    have HM1 := Lib.hid (HM.out _ HH.out)
    rw [g1] at HM1
    rw [HE.out]
    clear HM HB g1
    go_enter Tryz.func8, Tryz.ntmps8
    go_wp2_with fail
    refine HM1.out.mono ?_
    rintro e w1 ⟨rfl, hb⟩
    have HF := Lib.hid ((HH.out.calm hb).turn (a' := sepT (blkT W.heap.size 27 #[.slice At_ m.table.length ct, .slice As m.sites.length c2, .slice Ap m.pool.length cp, .slice Af m.funcs.length cf]) (sepT M R)) (by ac_rfl)).drop
    clear hb HM1 HH
    go_wp2_with fail
    go_ret2
    exact ⟨none, 0, rfl, by_nil HF.out⟩
  have gf1 : manyM m = false := by simpa using g1
  have HM1 := Lib.hid (HM.out _ HH.out)
  rw [gf1] at HM1
  by_cases g2 : belowM m = true
  · have HE : Hid (encM m = ([], 3)) := Lib.hid (by unfold encM; rw [if_neg g1, if_pos g2])
    rw [HE.out]
    rw [g2] at HB
    clear HM g1 gf1 g2
    go_enter Tryz.func8, Tryz.ntmps8
    go_wp2_with fail
    refine HM1.out.mono ?_
    rintro e w1 ⟨rfl, hb⟩
    have h1 := HH.out.calm hb
    have hbl := (h1.turn (a' := sepT (blkT W.heap.size 27 #[.slice At_ m.table.length ct, .slice As m.sites.length c2, .slice Ap m.pool.length cp, .slice Af m.funcs.length cf]) (sepT M R)) (by ac_rfl)).blk.1
    have d0 := hbl.cell 0
    have d1 := hbl.cell 1
    have d2 := hbl.cell 2
    have d3 := hbl.cell 3
    simp at d0 d1 d2 d3
    have HB1 := Lib.hid (HB.out _ h1)
    have HH1 := Lib.hid h1
    clear hb HM1 HH hbl h1 HB
    go_wp2_with fail
    refine HB1.out.mono ?_
    rintro e w2 ⟨rfl, hb⟩
    have HF := Lib.hid ((HH1.out.calm hb).turn (a' := sepT (blkT W.heap.size 27 #[.slice At_ m.table.length ct, .slice As m.sites.length c2, .slice Ap m.pool.length cp, .slice Af m.funcs.length cf]) (sepT M R)) (by ac_rfl)).drop
    clear hb HB1 HH1 d0 d1 d2 d3
    go_wp2_with fail
    go_ret2
    exact ⟨none, 0, rfl, by_nil HF.out⟩
  have gf2 : belowM m = false := by simpa using g2
  have HE : Hid (encM m = if (mdC m).2 then ([], 4) else if (mdC m).1.2 ≠ 0 then ([], 4) else ((mdC m).1.1, 0)) := Lib.hid (by unfold encM; rw [if_neg g1, if_neg g2])
  obtain ⟨res, hres⟩ : ∃ res, res = encM m := ⟨_, rfl⟩
  rw [← hres]
  have HRes := Lib.hid (hres.trans HE.out)
  rw [gf2] at HB
  clear HM g1 gf1 g2 gf2 HE hres
  go_enter Tryz.func8, Tryz.ntmps8
  go_wp2_with fail
  refine HM1.out.mono ?_
  rintro e w1 ⟨rfl, hb⟩
  have h1 := HH.out.calm hb
  have hbl := (h1.turn (a' := sepT (blkT W.heap.size 27 #[.slice At_ m.table.length ct, .slice As m.sites.length c2, .slice Ap m.pool.length cp, .slice Af m.funcs.length cf]) (sepT M R)) (by ac_rfl)).blk.1
  have d0 := hbl.cell 0
  have d1 := hbl.cell 1
  have d2 := hbl.cell 2
  have d3 := hbl.cell 3
  simp at d0 d1 d2 d3
  have HB1 := Lib.hid (HB.out _ h1)
  have HH1 := Lib.hid h1
  clear hb HM1 HH hbl h1 HB
  go_wp2_with fail
  refine HB1.out.mono ?_
  rintro e w2 ⟨rfl, hb⟩
  have HN := Lib.hid (Lies.wnew (HH1.out.calm hb) 1048576 (by decide) (by decide))
  clear hb HB1 HH1 d0 d1 d2 d3
  go_wp2_with fail
  refine HN.out.mono ?_
  rintro e w3 ⟨o, rfl, h⟩
  have h1 := cw_in (p := w3.heap.size) (st := st0) (o := o) ((h.newBlk 60 #[.pointer (some ⟨o, 0, none⟩), .bool false]).turn (a' := sepT (blkT w3.heap.size 60 #[.pointer (some ⟨o, 0, none⟩), .bool false]) (sepT (wrT o 1048576 ([], 0)) (sepT M (sepT (blkT W.heap.size 27 #[.slice At_ m.table.length ct, .slice As m.sites.length c2, .slice Ap m.pool.length cp, .slice Af m.funcs.length cf]) R)))) (by ac_rfl))
  obtain ⟨o1, c0, hc⟩ := cw_num h1
  have HC := Lib.hid (hc 67 (by unfold iz; omega))
  have ho : o1 = o := by
    have h2 := (Blk.new w3 60 #[.pointer (some ⟨o, 0, none⟩), .bool false]).cell 0
    rw [c0] at h2
    simpa using h2
  subst ho
  clear h h1 hc HN c0
  go_wp2_with fail
  refine HC.out.mono ?_
  rintro e w4 ⟨⟨E4, rfl⟩, h⟩
  obtain ⟨o2, c0, hc⟩ := cw_num h
  have HC2 := Lib.hid (hc 1 (by unfold iz; omega))
  clear h hc HC
  go_wp2_with fail
  refine HC2.out.mono ?_
  rintro e w5 ⟨⟨E5, rfl⟩, h⟩
  have d0 := (h.turn (a' := sepT (blkT W.heap.size 27 #[.slice At_ m.table.length ct, .slice As m.sites.length c2, .slice Ap m.pool.length cp, .slice Af m.funcs.length cf]) (sepT (cwT w3.heap.size (numC (numC st0 67) 1)) (sepT M R))) (by ac_rfl)).blk.1.cell 0
  simp at d0
  have HP0 := Lib.hid (putCl_any 29 clC (fun _ _ => rfl) m.table _ H1.out.1 (fun W' st' cs y _ hy h => ccls_any cs y hy h) h)
  clear h HC2 c0
  go_wp2_with fail
  refine HP0.out.mono ?_
  rintro e w6 ⟨rfl, h⟩
  have d1 := (h.turn (a' := sepT (blkT W.heap.size 27 #[.slice At_ m.table.length ct, .slice As m.sites.length c2, .slice Ap m.pool.length cp, .slice Af m.funcs.length cf]) (sepT (cwT w3.heap.size (putC clC (numC (numC st0 67) 1) m.table)) (sepT M R))) (by ac_rfl)).blk.1.cell 1
  simp at d1
  have HP1 := Lib.hid (putSt_any 31 stC (fun _ _ => rfl) m.sites _ H1.out.2.1 (fun W' st' cs y _ hy h => csite_any cs y hy h) h)
  clear h HP0 d0
  go_wp2_with fail
  refine HP1.out.mono ?_
  rintro e w7 ⟨rfl, h⟩
  have d2 := (h.turn (a' := sepT (blkT W.heap.size 27 #[.slice At_ m.table.length ct, .slice As m.sites.length c2, .slice Ap m.pool.length cp, .slice Af m.funcs.length cf]) (sepT (cwT w3.heap.size (putC stC (putC clC (numC (numC st0 67) 1) m.table) m.sites)) (sepT M R))) (by ac_rfl)).blk.1.cell 2
  simp at d2
  have HP2 := Lib.hid (putTx_any 33 wordC (fun _ _ => rfl) m.pool _ H1.out.2.2.1 (fun W' st' cs y _ hy h => cword_any y hy.2 h) h)
  clear h HP1 d1
  go_wp2_with fail
  refine HP2.out.mono ?_
  rintro e w8 ⟨rfl, h⟩
  have d3 := (h.turn (a' := sepT (blkT W.heap.size 27 #[.slice At_ m.table.length ct, .slice As m.sites.length c2, .slice Ap m.pool.length cp, .slice Af m.funcs.length cf]) (sepT (cwT w3.heap.size (putC wordC (putC stC (putC clC (numC (numC st0 67) 1) m.table) m.sites) m.pool)) (sepT M R))) (by ac_rfl)).blk.1.cell 3
  simp at d3
  have HP3 := Lib.hid (putFu_any 35 fuC (fun _ _ => rfl) m.funcs _ H1.out.2.2.2 (fun W' st' cs y _ hy h => cfun_any cs y hy h) h)
  clear h HP2 d2
  go_wp2_with fail
  refine HP3.out.mono ?_
  rintro e w9 ⟨rfl, h⟩
  obtain ⟨o3, c0, hby⟩ := cw_bytes (st := mdC m) h
  obtain ⟨out, hout⟩ : ∃ out, out = (if (mdC m).1.2 = 0 then (mdC m).1.1 else []) := ⟨_, rfl⟩
  rw [← hout] at hby
  have HY := Lib.hid hby
  have HO := Lib.hid hout
  clear h hby HP3 d3 hout
  generalize mdC m = st at *
  go_wp2_with fail
  refine HY.out.mono ?_
  rintro e w10 ⟨A, c, rfl, h⟩
  have c1 := cw_long (h.turn (a' := sepT (cwT w3.heap.size st) (sepT (byT A c out) (sepT M (sepT (blkT W.heap.size 27 #[.slice At_ m.table.length ct, .slice As m.sites.length c2, .slice Ap m.pool.length cp, .slice Af m.funcs.length cf]) R)))) (by ac_rfl))
  have HF := Lib.hid ((((h.turn (a' := sepT (cwT w3.heap.size st) (sepT (blkT W.heap.size 27 #[.slice At_ m.table.length ct, .slice As m.sites.length c2, .slice Ap m.pool.length cp, .slice Af m.funcs.length cf]) (sepT (byT A c out) (sepT M R)))) (by ac_rfl)).drop).drop))
  clear h HY c0
  obtain ⟨⟨bs, er⟩, lg⟩ := st
  by_cases hlg : lg = true
  · subst hlg
    have HR2 : Hid (res = ([], 4)) := Lib.hid HRes.out
    clear HRes HO
    go_wp2_with fail
    go_ret2
    rw [HR2.out]
    exact ⟨none, 0, rfl, by_nil HF.out.drop⟩
  · have hlf : lg = false := by simpa using hlg
    subst hlf
    by_cases ge : er = 0
    · subst ge
      have HR2 : Hid (res = (out, 0)) := Lib.hid (by rw [HRes.out, HO.out]; rfl)
      clear HRes HO hlg
      go_wp2_with fail
      go_ret2
      rw [HR2.out]
      exact ⟨A, c, rfl, HF.out⟩
    · have HR2 : Hid (res = ([], 4)) := Lib.hid (by rw [HRes.out]; simp [ge])
      clear HRes HO hlg
      go_wp2_with fail
      go_ret2
      rw [HR2.out]
      exact ⟨none, 0, rfl, by_nil HF.out.drop⟩
end
end Go.Proofs.YtcapdmicekialaaGreat
