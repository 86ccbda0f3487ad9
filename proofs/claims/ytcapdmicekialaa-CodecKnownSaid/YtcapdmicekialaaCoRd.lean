/- codec.reader: the thing; fine, must, number, word, just. -/
import Derived.Test.YtcapdmicekialaaCoRdP
import Derived.Test.YtcapdmicekialaaCoWr2
namespace Go.Proofs.Ytcapdmicekialaa
open Go.RowKit
set_option linter.unusedVariables false
set_option linter.unusedSimpArgs false
attribute [local go_sem] Oper.semAt_some run_store_func run_store_nilFunc
def wrongV (f : Int × Int) : Value := .iface 112 (.agg #[.int .i64 f.1, .int .i64 f.2])
def crT (p : Nat) (bs : List UInt8) (s : RS) : Thing := someT fun o => sepT (blkT p 116 #[.pointer (some ⟨o, 0, none⟩), .int .i64 bs.length]) (rdT o bs s)
section
variable {N : Nat} {w0 W : World} {R M : Thing} {p : Nat} {bs : List UInt8} {s : RS}
theorem cr_out (H : Lies N w0 W (sepT (crT p bs s) R)) : ∃ o, Lies N w0 W (sepT (rdT o bs s) (sepT (blkT p 116 #[.pointer (some ⟨o, 0, none⟩), .int .i64 bs.length]) R)) := by
  obtain ⟨o, H⟩ := H.ex
  exact ⟨o, H.turn (by ac_rfl)⟩
theorem cr_in {o : Nat} (H : Lies N w0 W (sepT (rdT o bs s) (sepT (blkT p 116 #[.pointer (some ⟨o, 0, none⟩), .int .i64 bs.length]) R))) : Lies N w0 W (sepT (crT p bs s) R) :=
  Lies.intro o (H.turn (by ac_rfl))
theorem cr_cell (H : Lies N w0 W (sepT (crT p bs s) R)) : ∃ o, W.cell? ⟨p, 0, none⟩ = some (.pointer (some ⟨o, 0, none⟩)) ∧ W.cell? ⟨p, 1, none⟩ = some (.int .i64 bs.length) ∧
    (Calls Try.prog 25 #[.pointer (some ⟨o, 0, none⟩)] W fun e W' => e = .returned (.int .i64 (rNum bs s).1) ∧ Lies N w0 W' (sepT (crT p bs (rNum bs s).2) R)) ∧
    (∀ most : Int, Calls Try.prog 27 #[.pointer (some ⟨o, 0, none⟩), .int .i64 most] W fun e W' => e = .returned (.string (strB (rWord bs s most).1)) ∧ Lies N w0 W' (sepT (crT p bs (rWord bs s most).2) R)) ∧
    (Calls Try.prog 28 #[.pointer (some ⟨o, 0, none⟩)] W fun e W' => e = .returned (.int .i64 (if s.2.1 ≠ 0 then 0 else (bs.length : Int) - s.1)) ∧ Lies N w0 W' (sepT (crT p bs s) R)) ∧
    (Calls Try.prog 29 #[.pointer (some ⟨o, 0, none⟩)] W fun e W' => e = .returned (.agg #[.int .i64 (rEnd bs s).1, .int .i64 (rEnd bs s).2]) ∧ Lies N w0 W' (sepT (crT p bs s) R)) := by
  obtain ⟨o, h⟩ := cr_out H
  have hb := (h.turn (a' := sepT (blkT p 116 #[.pointer (some ⟨o, 0, none⟩), .int .i64 bs.length]) (sepT (rdT o bs s) R)) (by ac_rfl)).blk.1
  refine ⟨o, hb.cell 0, hb.cell 1, ?_, fun most => ?_, ?_, ?_⟩
  · exact (Hold.dnum h.hold 0 rfl).mono fun e W' ⟨he, h'⟩ => ⟨he, cr_in h'.lies⟩
  · exact (Hold.dword h.hold 0 rfl most).mono fun e W' ⟨he, h'⟩ => ⟨he, cr_in h'.lies⟩
  · exact (Hold.drest h.hold 0 rfl).mono fun e W' ⟨he, h'⟩ => ⟨he, cr_in h'.lies⟩
  · exact (Hold.dend h.hold 0 rfl).mono fun e W' ⟨he, h'⟩ => ⟨he, cr_in h'.lies⟩
/-- What fine comes to. -/
def FineE (N : Nat) (w0 : World) (R : Thing) (p : Nat) (bs : List UInt8) (s : RS) (e : Ending) (w' : World) : Prop :=
  (s.2.1 = 0 → e = .returned (.tuple #[]) ∧ Lies N w0 w' (sepT (crT p bs s) R)) ∧ (s.2.1 ≠ 0 → e = .panicked [{ v := wrongV s.2, recovered := false }] ∧ Lies N w0 w' (sepT (crT p bs s) R))
set_option maxRecDepth 100000 in
set_option maxHeartbeats 1600000 in
theorem rfine_any (H : Lies N w0 W (sepT (crT p bs s) R)) : Calls Try.prog 105 #[.pointer (some ⟨p, 0, none⟩)] W (FineE N w0 R p bs s) := by
  obtain ⟨o, c0, _, _, _, _, hE⟩ := cr_cell H
  have HEn := Lib.hid hE
  clear H hE
  by_cases h0 : s.2.1 = 0
  · by_cases h1 : s.1 < bs.length
    · have hR : rEnd bs s = (4, (s.1 : Int)) := by unfold rEnd; rw [if_neg (by simpa using h0), if_pos h1]
      rw [hR] at HEn
      have HN0 : Hid (∀ E w', (E = Ending.returned (.tuple #[]) ∧ Lies N w0 w' (sepT (crT p bs s) R)) → FineE N w0 R p bs s E w') := Lib.hid fun E w' h => ⟨fun _ => h, fun h' => absurd h0 h'⟩
      have HRest : Hid (((if s.2.1 ≠ 0 then 0 else (bs.length : Int) - s.1) : Int) ≠ 0) := Lib.hid (by rw [if_neg (by simpa using h0)]; omega)
      clear h0 h1 hR
      go_enter Try.func105, Try.ntmps105
      go_wp2_with fail
      refine HEn.out.mono ?_
      rintro e w1 ⟨rfl, h⟩
      obtain ⟨o2, c02, _, _, _, hRe, _⟩ := cr_cell (h.alloc (.cells #[.int .i64 4, .int .i64 s.1] 47))
      obtain ⟨rs, hrs⟩ : ∃ rs, rs = ((if s.2.1 ≠ 0 then 0 else (bs.length : Int) - s.1) : Int) := ⟨_, rfl⟩
      have hne : ¬ rs = 0 := by rw [hrs]; exact HRest.out
      rw [← hrs] at hRe
      have HRe := Lib.hid hRe
      clear h hRe HEn c0 hrs
      go_wp2_with fail
      refine HRe.out.mono ?_
      rintro e w2 ⟨rfl, h⟩
      have HF := Lib.hid h
      clear h HRe c02
      go_wp2_with fail
      go_end0
      exact HN0.out _ _ ⟨rfl, HF.out⟩
    · have hR : rEnd bs s = (0, 0) := by unfold rEnd; rw [if_neg (by simpa using h0), if_neg h1]
      rw [hR] at HEn
      have HN0 : Hid (∀ E w', (E = Ending.returned (.tuple #[]) ∧ Lies N w0 w' (sepT (crT p bs s) R)) → FineE N w0 R p bs s E w') := Lib.hid fun E w' h => ⟨fun _ => h, fun h' => absurd h0 h'⟩
      clear h0 h1 hR
      go_enter Try.func105, Try.ntmps105
      go_wp2_with fail
      refine HEn.out.mono ?_
      rintro e w1 ⟨rfl, h⟩
      have HF := Lib.hid (h.alloc (.cells #[.int .i64 0, .int .i64 0] 47))
      clear h HEn c0
      go_wp2_with fail
      go_end0
      exact HN0.out _ _ ⟨rfl, HF.out⟩
  · have hR : rEnd bs s = s.2 := by unfold rEnd; rw [if_pos h0]
    rw [hR] at HEn
    have HN0 : Hid (∀ E w', (E = Ending.panicked [{ v := wrongV s.2, recovered := false }] ∧ Lies N w0 w' (sepT (crT p bs s) R)) → FineE N w0 R p bs s E w') := Lib.hid fun E w' h => ⟨fun h' => absurd h' h0, fun _ => h⟩
    by_cases h4 : s.2.1 = 4
    · obtain ⟨at_, er, ea⟩ := s
      obtain rfl : er = 4 := h4
      simp only at HEn hR
      go_enter Try.func105, Try.ntmps105
      go_wp2_with fail
      refine HEn.out.mono ?_
      rintro e w1 ⟨rfl, h⟩
      obtain ⟨o2, c02, _, _, _, hRe, _⟩ := cr_cell ((h.newBlk 47 #[.int .i64 4, .int .i64 ea]).turn (a' := sepT (crT p bs (at_, 4, ea)) (sepT (blkT w1.heap.size 47 #[.int .i64 4, .int .i64 ea]) R)) (by ac_rfl))
      rw [if_pos h0] at hRe
      have HRe := Lib.hid hRe
      clear h hRe HEn c0 hR
      go_wp2_with fail
      refine HRe.out.mono ?_
      rintro e w2 ⟨rfl, h⟩
      have h3 := h.turn (a' := sepT (blkT w1.heap.size 47 #[.int .i64 4, .int .i64 ea]) (sepT (crT p bs (at_, 4, ea)) R)) (by ac_rfl)
      have d0 := h3.blk.1.cell 0
      have d1 := h3.blk.1.cell 1
      simp at d0 d1
      have HF := Lib.hid h3.drop
      clear h h3 HRe c02
      go_wp2_with fail
      exact ⟨rfl, HN0.out _ _ ⟨rfl, HF.out⟩⟩
    · go_enter Try.func105, Try.ntmps105
      go_wp2_with fail
      refine HEn.out.mono ?_
      rintro e w1 ⟨rfl, h⟩
      have HF := Lib.hid (h.alloc (.cells #[.int .i64 s.2.1, .int .i64 s.2.2] 47))
      clear h HEn c0 hR
      go_wp2_with fail
      exact ⟨rfl, HN0.out _ _ ⟨rfl, HF.out⟩⟩
theorem must_yes (e at_ : Int) (w : World) : Calls Try.prog 100 #[.bool true, .int .i64 e, .int .i64 at_] w fun E w' => E = .returned (.tuple #[]) ∧ w = w' := by
  go_enter Try.func100, Try.ntmps100
  go_wp2
  go_end0
  exact ⟨rfl, rfl⟩
theorem must_no (e at_ : Int) (w : World) : Calls Try.prog 100 #[.bool false, .int .i64 e, .int .i64 at_] w fun E w' => E = .panicked [{ v := wrongV (e, at_), recovered := false }] ∧ w = w' := by
  go_enter Try.func100, Try.ntmps100
  go_wp2
  exact ⟨rfl, rfl, rfl⟩
/-- What a reading method comes to: a value and the reader's next state, or a fault. -/
def RdP {α : Type} (N : Nat) (w0 : World) (R : Thing) (p : Nat) (bs : List UInt8) (tell : α → Value) (r : Except (Int × Int) (α × RS)) (e : Ending) (w' : World) : Prop :=
  match r with
  | .ok (a, s') => e = .returned (tell a) ∧ Lies N w0 w' (sepT (crT p bs s') R)
  | .error f => e = .panicked [{ v := wrongV f, recovered := false }] ∧ ∃ s', Lies N w0 w' (sepT (crT p bs s') R)
set_option maxRecDepth 100000 in
theorem rword_any (H : Lies N w0 W (sepT (crT p bs s) R)) : Calls Try.prog 71 #[.pointer (some ⟨p, 0, none⟩)] W (RdP N w0 R p bs (fun a => .string a) (wordR bs s)) := by
  obtain ⟨o, c0, _, _, hW, _⟩ := cr_cell H
  have HW := Lib.hid (hW 1000)
  clear H hW
  by_cases h0 : (rWord bs s 1000).2.2.1 = 0
  · have HR : Hid (wordR bs s = .ok (strB (rWord bs s 1000).1, (rWord bs s 1000).2)) := Lib.hid (if_pos h0)
    rw [HR.out]
    have H0 := Lib.hid h0
    clear h0
    generalize rWord bs s 1000 = r at *
    go_enter Try.func71, Try.ntmps71
    go_wp2_with fail
    refine HW.out.mono ?_
    rintro e w1 ⟨rfl, h⟩
    have HFn := Lib.hid (rfine_any h)
    clear h HW c0
    go_wp2_with fail
    refine HFn.out.mono ?_
    intro e w2 hr
    obtain ⟨rfl, h⟩ := hr.1 H0.out
    have HF := Lib.hid h
    clear h hr HFn
    go_wp2_with fail
    go_ret
    exact ⟨rfl, HF.out⟩
  · have HR : Hid (wordR bs s = .error (rWord bs s 1000).2.2) := Lib.hid (if_neg h0)
    rw [HR.out]
    have H0 := Lib.hid h0
    clear h0
    generalize rWord bs s 1000 = r at *
    go_enter Try.func71, Try.ntmps71
    go_wp2_with fail
    refine HW.out.mono ?_
    rintro e w1 ⟨rfl, h⟩
    have HFn := Lib.hid (rfine_any h)
    clear h HW c0
    go_wp2_with fail
    refine HFn.out.mono ?_
    intro e w2 hr
    obtain ⟨rfl, h⟩ := hr.2 H0.out
    have HF := Lib.hid h
    clear h hr HFn
    go_wp2_with fail
    exact ⟨rfl, rfl, _, HF.out⟩
theorem cr_le (H : Lies N w0 W (sepT (crT p bs s) R)) : s.1 ≤ bs.length ∧ bs.length ≤ 140737488355328 := by
  obtain ⟨o, h⟩ := cr_out H
  obtain ⟨F, ⟨v, hv, _⟩, _⟩ := h.get
  exact ⟨hv.le, hv.small⟩
def loNu (i : Nat) : Nat := [0, 0, 0, 0, 0, 0, 0, 0, 0, 1, 1].getD i 0
def upNu (i : Nat) : Nat := [1, 1, 1, 1, 0, 0, 0, 0, 1, 1, 1].getD i 0
set_option maxRecDepth 100000 in
set_option maxHeartbeats 1600000 in
theorem rnum_any (hs : s.2.1 = 0) (H : Lies N w0 W (sepT (crT p bs s) R)) : Calls Try.prog 99 #[.pointer (some ⟨p, 0, none⟩)] W (RdP N w0 R p bs (fun a : Nat × Nat => .tuple #[.int .i64 a.1, .int .i64 a.2]) (numR bs s)) := by
  obtain ⟨hle, hsm⟩ := cr_le H
  obtain ⟨o, c0, c1, _, _, hRe, _⟩ := cr_cell H.drew
  rw [if_neg (by simpa using hs)] at hRe
  have HRe := Lib.hid hRe
  have hw : IntKind.i64.wrap ((bs.length : Int) - ((bs.length : Int) - (s.1 : Int))) = (s.1 : Int) := by
    rw [show (bs.length : Int) - ((bs.length : Int) - (s.1 : Int)) = (s.1 : Int) by omega]; exact IntWalk.i64_in _ (by omega)
  clear H hRe hs
  obtain ⟨res, hres⟩ : ∃ res, res = numR bs s := ⟨_, rfl⟩
  rw [← hres]
  have HRes := Lib.hid hres
  clear hres
  go_enter Try.func99, Try.ntmps99
  go_wp2_with fail
  refine wp_region_text [8] loNu upNu (by kernel_rfl) (by kernel_rfl) (by kernel_rfl) (by kernel_rfl) (by kernel_rfl) ?_
  repeat (first | (refine wpTx_now (by rfl) (by rfl) (by rfl) (fun K hK => ?_); go_simp; refine hK _ ?_; clear hK K) | (refine wpTx_late [] (by rfl) (by rfl) (by rfl) (fun K hK => ?_); go_simp; refine hK _ _ ?_; clear hK K))
  refine wpTx_eff (by rfl) (fun K hK => ?_)
  go_simp
  refine HRe.out.mono ?_
  rintro e w1 ⟨rfl, h⟩
  obtain ⟨o2, d0, d1, hN, _⟩ := cr_cell h
  have HN := Lib.hid hN
  refine ⟨_, rfl, hK _ _ (by repeat (first | exact lateOK_nil | refine lateOK_skip (by rfl) ?_ | refine lateOK_cons (by go_simp) ?_)) ?_⟩
  clear hK K h hN HRe c0 c1
  repeat (refine wpTx_now (by rfl) (by rfl) (by rfl) (fun K hK => ?_); go_simp; refine hK _ ?_; clear hK K)
  refine wpTx_nil ?_
  by_cases h0 : (rNum bs s).2.2.1 = 0
  · have HR : Hid (numR bs s = .ok (((rNum bs s).1, s.1), (rNum bs s).2)) := Lib.hid (if_pos h0)
    have H0 := Lib.hid h0
    clear h0
    generalize rNum bs s = r at *
    go_wp2_with fail
    refine HN.out.mono ?_
    rintro e w2 ⟨rfl, h⟩
    have HFn := Lib.hid (rfine_any h)
    clear h HN d0 d1
    go_wp2_with fail
    refine HFn.out.mono ?_
    intro e w3 hr
    obtain ⟨rfl, h⟩ := hr.1 H0.out
    have HF := Lib.hid h
    clear h hr HFn
    go_wp2_with fail
    go_ret2
    rw [HRes.out, HR.out]
    exact ⟨rfl, HF.out⟩
  · have HR : Hid (numR bs s = .error (rNum bs s).2.2) := Lib.hid (if_neg h0)
    have H0 := Lib.hid h0
    clear h0
    generalize rNum bs s = r at *
    go_wp2_with fail
    refine HN.out.mono ?_
    rintro e w2 ⟨rfl, h⟩
    have HFn := Lib.hid (rfine_any h)
    clear h HN d0 d1
    go_wp2_with fail
    refine HFn.out.mono ?_
    intro e w3 hr
    obtain ⟨rfl, h⟩ := hr.2 H0.out
    have HF := Lib.hid h
    clear h hr HFn
    go_wp2_with fail
    refine ⟨rfl, ?_⟩
    rw [HRes.out, HR.out]
    exact ⟨rfl, _, HF.out⟩
set_option maxRecDepth 100000 in
set_option maxHeartbeats 1600000 in
theorem just_any (want : Nat) (hs : s.2.1 = 0) (H : Lies N w0 W (sepT (crT p bs s) R)) : Calls Try.prog 65 #[.pointer (some ⟨p, 0, none⟩), .int .i64 want] W (RdP N w0 R p bs (fun _ : Unit => .tuple #[]) (justR bs want s)) := by
  have HN := Lib.hid (rnum_any hs H)
  obtain ⟨res, hres⟩ : ∃ res, res = justR bs want s := ⟨_, rfl⟩
  rw [← hres]
  unfold justR Rdr.bind at hres
  clear H hs
  generalize numR bs s = r at *
  rcases r with f | ⟨⟨n, at_⟩, s'⟩
  · have HRes := Lib.hid hres
    clear hres
    go_enter Try.func65, Try.ntmps65
    go_wp2_with fail
    refine HN.out.mono ?_
    intro e w1 hr
    obtain ⟨rfl, k, h⟩ := hr
    have HF := Lib.hid h
    clear h HN
    go_wp2_with fail
    refine ⟨rfl, ?_⟩
    rw [HRes.out]
    exact ⟨rfl, _, HF.out⟩
  · by_cases hn : n = want
    · have HRes : Hid (res = .ok ((), s')) := Lib.hid (by rw [hres]; simp [mustR, hn])
      have hn' : ((n : Int) == (want : Int)) = true := by simp [hn]
      have hn2 : (n : Int) = (want : Int) := by omega
      clear hres hn
      go_enter Try.func65, Try.ntmps65
      go_wp2_with fail
      refine HN.out.mono ?_
      intro e w1 hr
      obtain ⟨rfl, h⟩ := hr
      have HF := Lib.hid h
      clear h HN
      go_wp2_with fail
      refine (must_yes _ _ _).mono ?_
      rintro e w2 ⟨rfl, rfl⟩
      go_wp2_with fail
      go_end0
      rw [HRes.out]
      exact ⟨rfl, HF.out⟩
    · have HRes : Hid (res = .error (5, (at_ : Int))) := Lib.hid (by rw [hres]; simp [mustR, hn])
      have hn' : ((n : Int) == (want : Int)) = false := by simp; omega
      have hn2 : ¬ (n : Int) = (want : Int) := by omega
      clear hres hn
      go_enter Try.func65, Try.ntmps65
      go_wp2_with fail
      refine HN.out.mono ?_
      intro e w1 hr
      obtain ⟨rfl, h⟩ := hr
      have HF := Lib.hid h
      clear h HN
      go_wp2_with fail
      refine (must_no _ _ _).mono ?_
      rintro e w2 ⟨rfl, rfl⟩
      go_wp2_with fail
      refine ⟨rfl, ?_⟩
      rw [HRes.out]
      exact ⟨rfl, _, HF.out⟩
theorem numR_ok {n at_ : Nat} {s' : RS} (h : numR bs s = .ok ((n, at_), s')) : Hid (n < 9223372036854775808) ∧ s'.2.1 = 0 := by
  unfold numR at h
  by_cases h0 : (rNum bs s).2.2.1 = 0
  · rw [if_pos h0] at h
    injection h with h
    injection h with h1 h2
    injection h1 with h1 _
    exact ⟨Lib.hid (h1 ▸ rNum_lt bs s), h2 ▸ h0⟩
  · rw [if_neg h0] at h; cases h
end
end Go.Proofs.Ytcapdmicekialaa
