/- Merged by merge.py: CoXRdr, CoXRdr2, CoXRdr3, CoXRdr4, CoXRd, CoXRd2, CoXLst, CoXCls, CoXFun. -/
import Derived.Test.YtcapdmicekialaaGreatCoRdAll
/- chaperonref03.Reader: number. -/
namespace Go.Proofs.YtcapdmicekialaaGreat
open Go.RowKit
set_option linter.unusedVariables false
set_option linter.unusedSimpArgs false
attribute [local go_sem] Oper.semAt_some run_store_func run_store_nilFunc
/-- What number tells. -/
def xnE (at_ : Nat) (r : Int × Nat × Nat) : Value := if r.1 = 0 then .tuple #[.int .i64 r.2.1, .int .i64 ((at_ + r.2.2 : Nat) : Int), .int .i64 0] else .tuple #[.int .i64 0, .int .i64 0, .int .i64 r.1]
theorem shl_step (i acc y : Nat) (hi : i < 9) (ha : acc < 128 ^ i) :
    wrap64 ((acc : Int) + wrap64 ((y : Int) % 128 * 2 ^ (7 * i))) = ((acc + (y % 128) * 128 ^ i : Nat) : Int) ∧ acc + (y % 128) * 128 ^ i < 128 ^ (i + 1) := by
  have hp : (128 : Nat) ^ i = 2 ^ (7 * i) := by rw [Nat.pow_mul]
  have hm : y % 128 < 128 := Nat.mod_lt _ (by decide)
  have hlt : acc + (y % 128) * 128 ^ i < 128 ^ (i + 1) := by
    rw [Nat.pow_succ]
    have : (y % 128) * 128 ^ i ≤ 127 * 128 ^ i := Nat.mul_le_mul_right _ (by omega)
    omega
  have h63 : 128 ^ (i + 1) ≤ (128 : Nat) ^ 9 := Nat.pow_le_pow_right (by decide) (by omega)
  have h9 : (128 : Nat) ^ 9 = 9223372036854775808 := by decide
  have h3 : (y : Int) % 128 * 2 ^ (7 * i) = (((y % 128) * 128 ^ i : Nat) : Int) := by rw [hp, Int.natCast_mul, Int.natCast_pow]; rfl
  refine ⟨?_, hlt⟩
  have h4 : wrap64 (((y % 128) * 128 ^ i : Nat) : Int) = (((y % 128) * 128 ^ i : Nat) : Int) := IntWalk.wrap64_in _ (by omega)
  rw [h3, h4, IntWalk.wrap64_in _ (by omega)]
  omega
theorem reads_byte {w : World} {B : Nat} {A : Option Addr} {bs : List UInt8} (h : Reads w B 1 A bs.length (bytesV bs)) {k : Nat} (hk : k < bs.length) : ∃ b off : Nat, ∃ f, A = some ⟨b, off, f⟩ ∧ w.cell? ((⟨b, off, f⟩ : Addr).add k) = some (.int .u8 bs[k].toNat) := by
  obtain ⟨⟨b, off, f⟩, u, rfl, _, hu, hc⟩ := h.at_ hk
  refine ⟨b, off, f, rfl, ?_⟩
  rw [hc, ← hu]
  unfold bytesV
  rw [List.getElem?_map, List.getElem?_eq_getElem hk]
  rfl
set_option maxRecDepth 100000 in
set_option maxHeartbeats 1600000 in
theorem xnumber_any (A : Option Addr) (c : Nat) (bs : List UInt8) (at_ : Nat) (w : World) (B : Nat) (hr : Reads w B 1 A bs.length (bytesV bs)) (hl : bs.length ≤ 140737488355328) (hat : at_ ≤ bs.length) :
    Calls Tryz.prog 134 #[.slice A bs.length c, .int .i64 at_] w fun e w' => e = .returned (xnE at_ (rdGo 0 0 (bs.drop at_))) ∧ w = w' := by
  have HRd := Lib.hid hr
  obtain ⟨n, hn⟩ : ∃ n, n = bs.length := ⟨_, rfl⟩
  have HN := Lib.hid hn
  rw [← hn] at hl hat ⊢
  clear hr hn
  go_enter Tryz.func134, Tryz.ntmps134
  go_wp2_with fail
  go_loopw [7, 8] (fun y x wr => ∃ (i acc : Nat), x = .int .i64 i ∧ y = .int .i64 acc ∧ i ≤ 9 ∧ acc < 128 ^ i ∧ at_ + i ≤ n ∧ Hid (rdGo 0 0 (bs.drop at_) = rdGo i acc (bs.drop (at_ + i))) ∧ wr = w)
    (fun y x wr => 9 - (intOf x).toNat)
  case atStart => exact ⟨0, 0, rfl, rfl, by decide, by decide, hat, Lib.hid rfl, rfl⟩
  case round =>
    obtain ⟨i, acc, rfl, rfl, hi, hacc, hai, HG, rfl⟩ := hrel
    rcases Nat.lt_or_ge (at_ + i) n with hlt | hge
    · have hlx : at_ + i < bs.length := by have := HN.out; omega
      have hlt' : ¬ (n : Int) ≤ (at_ : Int) + (i : Int) := by omega
      have HC := Lib.hid (rdGo_cons i acc bs (at_ + i) hlx)
      obtain ⟨b, off, f, rfl, hcell⟩ := reads_byte HRd.out hlx
      have hb := bs[at_ + i].toNat_lt
      generalize bs[at_ + i].toNat = y at *
      rcases Nat.lt_or_ge i 9 with hi9 | hi9
      · have h9 : ((i : Int) == 9) = false := by rw [beq_eq_false_iff_ne]; omega
        rw [if_neg (show ¬ i = 9 by omega)] at HC
        obtain ⟨hx, hm⟩ := shl_step i acc y hi9 hacc
        have HM := Lib.hid hm
        clear hacc hm
        generalize hmm : acc + y % 128 * 128 ^ i = m at *
        have HMM := Lib.hid hmm
        clear hmm
        by_cases hy : (y : Int) < 128
        · rw [if_pos (show y < 128 by omega)] at HC
          have hM2 : Hid (m = acc + y * 128 ^ i) := by rw [← HMM.out, Nat.mod_eq_of_lt (show y < 128 by omega)]; exact rfl
          rw [← hM2.out] at HC
          by_cases h0 : y = 0 ∧ 0 < i
          · rw [if_pos h0] at HC
            obtain ⟨rfl, h0i⟩ := h0
            have hi0 : (0 : Int) < (i : Int) := by omega
            rw [show ((0 : Nat) : Int) = 0 from rfl] at hcell hx hy
            clear hx
            go_wp2_with fail
            go_ret3
            refine ⟨?_, rfl⟩
            rw [HG.out, HC.out]
            exact rfl
          · rw [if_neg h0] at HC
            by_cases hy0 : y = 0
            · have hi0 : ¬ (0 : Int) < (i : Int) := by omega
              subst hy0
              rw [show ((0 : Nat) : Int) = 0 from rfl] at hcell hx hy
              have hx' : wrap64 (acc : Int) = (m : Int) := by rw [← hx]; simp [IntWalk.wrap64_in 0 (by omega)]
              clear h0
              go_wp2_with fail
              go_ret3
              refine ⟨?_, rfl⟩
              rw [HG.out, HC.out]
              unfold xnE
              rw [if_pos rfl]
              simp [hx', Int.add_assoc]
            · have hy1 : ((y : Int) == 0) = false := by rw [beq_eq_false_iff_ne]; omega
              clear h0
              go_wp2_with fail
              go_ret3
              refine ⟨?_, rfl⟩
              rw [HG.out, HC.out]
              unfold xnE
              rw [if_pos rfl]
              simp [Int.add_assoc]
        · rw [if_neg (show ¬ y < 128 by omega)] at HC
          have hM2 : Hid (m = acc + (y - 128) * 128 ^ i) := by rw [← HMM.out, show y % 128 = y - 128 by omega]; exact rfl
          rw [← hM2.out] at HC
          have hy1 : ((y : Int) == 0) = false := by rw [beq_eq_false_iff_ne]; omega
          go_wp2_with fail
          exact ⟨⟨i + 1, m, by go_num, by rw [hx], by omega, HM.out, by omega, Lib.hid (HG.out.trans HC.out), trivial⟩, by simp [intOf]; omega⟩
      · have h9 : ((i : Int) == 9) = true := by rw [beq_iff_eq]; omega
        rw [if_pos (show i = 9 by omega)] at HC
        clear hacc hi9 hi
        go_wp2_with fail
        go_ret3
        refine ⟨?_, rfl⟩
        rw [HG.out, HC.out]
        exact rfl
    · have hge' : (n : Int) ≤ (at_ : Int) + (i : Int) := by omega
      have HC : Hid (rdGo i acc (bs.drop (at_ + i)) = (13, 0, 0)) := by rw [List.drop_eq_nil_of_le (by have := HN.out; omega)]; exact rfl
      clear hacc
      go_wp2_with fail
      go_ret3
      refine ⟨?_, rfl⟩
      rw [HG.out, HC.out]
      exact rfl
end Go.Proofs.YtcapdmicekialaaGreat
/- chaperonref03.Reader: the thing; NewReader, fails, Num, Rest, End. -/
namespace Go.Proofs.YtcapdmicekialaaGreat
open Go.RowKit
set_option linter.unusedVariables false
set_option linter.unusedSimpArgs false
attribute [local go_sem] Oper.semAt_some run_store_func run_store_nilFunc
/-- The bytes that are read: a caller's, they lie below N. -/
def Src0 (N : Nat) (w0 : World) (A : Option Addr) (c : Nat) (bs : List UInt8) : Prop := Reads w0 N 1 A bs.length (bytesV bs) ∧ bs.length ≤ 140737488355328 ∧ bs.length ≤ c
def xdT (p : Nat) (A : Option Addr) (c : Nat) (bs : List UInt8) (s : RS) : Thing := sepT (factT (s.1 ≤ bs.length)) (blkT p 162 #[.slice A bs.length c, .int .i64 s.1, .int .i64 s.2.1, .int .i64 s.2.2])
theorem rdGo_le : ∀ (l : List UInt8) (i acc : Nat), (rdGo i acc l).1 = 0 → (rdGo i acc l).2.2 ≤ i + l.length
  | [], i, acc, h => by simp [rdGo]
  | b :: l, i, acc, h => by
    unfold rdGo at h ⊢
    split
    · simp
    · rename_i h9
      rw [if_neg h9] at h
      split
      · split
        · simp
        · simp
      · rename_i hb
        rw [if_neg hb] at h
        have := rdGo_le l _ _ h
        simp only [List.length_cons]
        omega
section
variable {N : Nat} {w0 W : World} {R M : Thing} {p : Nat} {A : Option Addr} {c : Nat} {bs : List UInt8} {s : RS}
theorem xd_out (H : Lies N w0 W (sepT (xdT p A c bs s) R)) : s.1 ≤ bs.length ∧ Lies N w0 W (sepT (blkT p 162 #[.slice A bs.length c, .int .i64 s.1, .int .i64 s.2.1, .int .i64 s.2.2]) R) :=
  (H.turn (a' := sepT (factT (s.1 ≤ bs.length)) (sepT (blkT p 162 #[.slice A bs.length c, .int .i64 s.1, .int .i64 s.2.1, .int .i64 s.2.2]) R)) (by unfold xdT; ac_rfl)).fact
theorem xd_in (h : s.1 ≤ bs.length) (H : Lies N w0 W (sepT (blkT p 162 #[.slice A bs.length c, .int .i64 s.1, .int .i64 s.2.1, .int .i64 s.2.2]) R)) : Lies N w0 W (sepT (xdT p A c bs s) R) :=
  (H.withFact h).turn (by unfold xdT; ac_rfl)
theorem xd_cells (H : Lies N w0 W (sepT (xdT p A c bs s) R)) : W.cell? ⟨p, 0, none⟩ = some (.slice A bs.length c) ∧ W.cell? ⟨p, 1, none⟩ = some (.int .i64 s.1) ∧ W.cell? ⟨p, 2, none⟩ = some (.int .i64 s.2.1) ∧ W.cell? ⟨p, 3, none⟩ = some (.int .i64 s.2.2) ∧ ∀ i, W.frozen? ⟨p, i, none⟩ = false := by
  have h := (xd_out H).2.blk.1
  exact ⟨h.cell 0, h.cell 1, h.cell 2, h.cell 3, fun i => h.frozen i⟩
theorem xnew_rd (H : Lies N w0 W R) : Calls Tryz.prog 58 #[.slice A bs.length c] W fun e w' => ∃ o, e = .returned (.pointer (some ⟨o, 0, none⟩)) ∧ Lies N w0 w' (sepT (xdT o A c bs (0, 0, 0)) R) := by
  have HF := Lib.hid (xd_in (A := A) (c := c) (bs := bs) (s := (0, 0, 0)) (Nat.zero_le _) (H.newBlk 162 #[.slice A bs.length c, .int .i64 0, .int .i64 0, .int .i64 0]))
  clear H
  go_enter Tryz.func58, Tryz.ntmps58
  go_wp2_with fail
  go_ret
  exact ⟨_, rfl, HF.out⟩
theorem xd_fails (er : Int) (H : Lies N w0 W (sepT (xdT p A c bs s) R)) : Calls Tryz.prog 135 #[.pointer (some ⟨p, 0, none⟩), .int .i64 er] W fun e w' => e = .returned (.tuple #[]) ∧ Lies N w0 w' (sepT (xdT p A c bs (s.1, er, (s.1 : Int))) R) := by
  obtain ⟨c0, c1, c2, c3, fz⟩ := xd_cells H
  obtain ⟨hle, h⟩ := xd_out H
  have HF := Lib.hid (xd_in (s := (s.1, er, (s.1 : Int))) hle ((h.setBlk 2 (.int .i64 er)).setBlk 3 (.int .i64 s.1)))
  have f2 := fz 2
  have f3 := fz 3
  clear H h fz
  go_enter Tryz.func135, Tryz.ntmps135
  go_wp2_with fail
  go_end0
  exact ⟨rfl, HF.out⟩
def loXn (i : Nat) : Nat := if 9 ≤ i then 1 else 0
def upXn (i : Nat) : Nat := if 8 ≤ i then 1 else 0
set_option maxRecDepth 100000 in
set_option maxHeartbeats 1600000 in
theorem xd_num (hs : Src0 N w0 A c bs) (H : Lies N w0 W (sepT (xdT p A c bs s) R)) : Calls Tryz.prog 113 #[.pointer (some ⟨p, 0, none⟩)] W fun e w' => e = .returned (.int .i64 (rNum bs s).1) ∧ Lies N w0 w' (sepT (xdT p A c bs (rNum bs s).2) R) := by
  obtain ⟨c0, c1, c2, c3, fz⟩ := xd_cells H
  obtain ⟨hle, _⟩ := xd_out H
  have f1 := fz 1
  have HH := Lib.hid H.drew
  have H0 := Lib.hid H
  have HLe := Lib.hid hle
  have HN := Lib.hid (xnumber_any A c bs s.1 W.drew N (hs.1.below HH.out.below) hs.2.1 hle)
  clear H fz hs
  by_cases he : s.2.1 = 0
  · rw [he] at c2
    by_cases hr : (rdGo 0 0 (bs.drop s.1)).1 = 0
    · have HR : Hid (rNum bs s = ((rdGo 0 0 (bs.drop s.1)).2.1, (s.1 + (rdGo 0 0 (bs.drop s.1)).2.2, s.2))) := by unfold rNum; rw [if_neg (by simpa using he), if_pos hr]; exact rfl
      have HE : Hid (xnE s.1 (rdGo 0 0 (bs.drop s.1)) = .tuple #[.int .i64 (rdGo 0 0 (bs.drop s.1)).2.1, .int .i64 ((s.1 + (rdGo 0 0 (bs.drop s.1)).2.2 : Nat) : Int), .int .i64 0]) := Lib.hid (if_pos hr)
      have HL2 := Lib.hid (rdGo_le _ 0 0 hr)
      rw [HE.out] at HN
      rw [HR.out]
      clear hr HE
      generalize rdGo 0 0 (bs.drop s.1) = r at *
      go_enter Tryz.func113, Tryz.ntmps113
      go_wp2_with fail
      refine wp_region_text [8] loXn upXn (by kernel_rfl) (by kernel_rfl) (by kernel_rfl) (by kernel_rfl) (by kernel_rfl) ?_
      repeat (refine wpTx_now (by rfl) (by rfl) (by rfl) (fun K hK => ?_); go_simp; refine hK _ ?_; clear hK K)
      refine wpTx_eff (by rfl) (fun K hK => ?_)
      go_simp
      refine HN.out.mono ?_
      rintro e w1 ⟨rfl, rfl⟩
      refine ⟨_, rfl, hK _ _ (by simp [lateOK]) ?_⟩
      clear hK K HN
      repeat (refine wpTx_now (by rfl) (by rfl) (by rfl) (fun K hK => ?_); go_simp; refine hK _ ?_; clear hK K)
      refine wpTx_nil ?_
      go_wp2_with fail
      go_ret
      have hx := HL2.out
      rw [List.length_drop] at hx
      have hh := (xd_out HH.out).2.setBlk 1 (.int .i64 ((s.1 + r.2.2 : Nat) : Int))
      exact ⟨rfl, xd_in (s := (s.1 + r.2.2, s.2)) (show s.1 + r.2.2 ≤ bs.length by have := HLe.out; omega) hh⟩
    · have HR : Hid (rNum bs s = (0, (s.1, (rdGo 0 0 (bs.drop s.1)).1, (s.1 : Int)))) := by unfold rNum; rw [if_neg (by simpa using he), if_neg hr]; exact rfl
      have HE : Hid (xnE s.1 (rdGo 0 0 (bs.drop s.1)) = .tuple #[.int .i64 0, .int .i64 0, .int .i64 (rdGo 0 0 (bs.drop s.1)).1]) := Lib.hid (if_neg hr)
      have HF := Lib.hid (xd_fails (rdGo 0 0 (bs.drop s.1)).1 HH.out)
      have hr' : ((rdGo 0 0 (bs.drop s.1)).1 != 0) = true := by simpa using hr
      rw [HE.out] at HN
      rw [HR.out]
      clear hr HE
      generalize rdGo 0 0 (bs.drop s.1) = r at *
      go_enter Tryz.func113, Tryz.ntmps113
      go_wp2_with fail
      refine wp_region_text [8] loXn upXn (by kernel_rfl) (by kernel_rfl) (by kernel_rfl) (by kernel_rfl) (by kernel_rfl) ?_
      repeat (refine wpTx_now (by rfl) (by rfl) (by rfl) (fun K hK => ?_); go_simp; refine hK _ ?_; clear hK K)
      refine wpTx_eff (by rfl) (fun K hK => ?_)
      go_simp
      refine HN.out.mono ?_
      rintro e w1 ⟨rfl, rfl⟩
      refine ⟨_, rfl, hK _ _ (by simp [lateOK]) ?_⟩
      clear hK K HN
      repeat (refine wpTx_now (by rfl) (by rfl) (by rfl) (fun K hK => ?_); go_simp; refine hK _ ?_; clear hK K)
      refine wpTx_nil ?_
      go_wp2_with fail
      refine HF.out.mono ?_
      rintro e w2 ⟨rfl, h⟩
      have HZ := Lib.hid h
      clear h HF
      go_wp2_with fail
      go_ret
      exact ⟨rfl, HZ.out⟩
  · have he' : (s.2.1 != 0) = true := by simpa using he
    have HR : Hid (rNum bs s = (0, s)) := by unfold rNum; rw [if_pos (by simpa using he)]; exact rfl
    rw [HR.out]
    go_enter Tryz.func113, Tryz.ntmps113
    go_wp2_with fail
    go_ret
    exact ⟨rfl, H0.out⟩
end
end Go.Proofs.YtcapdmicekialaaGreat
/- chaperonref03.Reader: Word, Rest, End. -/
namespace Go.Proofs.YtcapdmicekialaaGreat
open Go.RowKit
set_option linter.unusedVariables false
set_option linter.unusedSimpArgs false
attribute [local go_sem] Oper.semAt_some run_store_func run_store_nilFunc
section
variable {N : Nat} {w0 W : World} {R M : Thing} {p : Nat} {A : Option Addr} {c : Nat} {bs : List UInt8} {s : RS}
def restI (bs : List UInt8) (s : RS) : Int := if s.2.1 ≠ 0 then 0 else (bs.length : Int) - s.1
set_option maxRecDepth 100000 in
theorem xd_rest (hs : Src0 N w0 A c bs) (H : Lies N w0 W (sepT (xdT p A c bs s) R)) : Calls Tryz.prog 116 #[.pointer (some ⟨p, 0, none⟩)] W fun e w' => e = .returned (.int .i64 (restI bs s)) ∧ Lies N w0 w' (sepT (xdT p A c bs s) R) := by
  obtain ⟨c0, c1, c2, c3, fz⟩ := xd_cells H
  obtain ⟨hle, _⟩ := xd_out H
  have hl := hs.2.1
  have HH := Lib.hid H
  clear H fz hs
  by_cases he : s.2.1 = 0
  · rw [he] at c2
    have HR : Hid (restI bs s = (bs.length : Int) - s.1) := by unfold restI; rw [if_neg (by simpa using he)]; exact rfl
    rw [HR.out]
    have hw : IntKind.i64.wrap ((bs.length : Int) - (s.1 : Int)) = (bs.length : Int) - (s.1 : Int) := IntWalk.i64_in _ (by omega)
    go_enter Tryz.func116, Tryz.ntmps116
    go_wp2_with fail
    go_quiet (fail)
    go_wp2_with fail
    go_ret
    exact ⟨rfl, HH.out.drewN _⟩
  · have he' : (s.2.1 != 0) = true := by simpa using he
    have HR : Hid (restI bs s = 0) := by unfold restI; rw [if_pos (by simpa using he)]; exact rfl
    rw [HR.out]
    go_enter Tryz.func116, Tryz.ntmps116
    go_wp2_with fail
    go_ret
    exact ⟨rfl, HH.out⟩
/-- What the document's End tells. -/
def xEnd (bs : List UInt8) (s : RS) : Int × Int := if s.2.1 = 0 ∧ s.1 < bs.length then (4, s.1) else s.2
theorem xEnd_eq (bs : List UInt8) (s : RS) (h : s.2.1 = 0 → s.2.2 = 0) : xEnd bs s = rEnd bs s := by
  unfold xEnd rEnd
  obtain ⟨a, e, t⟩ := s
  by_cases h0 : e = 0
  · have := h h0
    subst h0 this
    simp
  · simp [h0]
set_option maxRecDepth 100000 in
set_option maxHeartbeats 1600000 in
theorem xd_end (hs : Src0 N w0 A c bs) (H : Lies N w0 W (sepT (xdT p A c bs s) R)) : Calls Tryz.prog 67 #[.pointer (some ⟨p, 0, none⟩)] W fun e w' => e = .returned (.agg #[.int .i64 (xEnd bs s).1, .int .i64 (xEnd bs s).2]) ∧ Lies N w0 w' (sepT (xdT p A c bs s) R) := by
  have h1 := (H.newBlk 40 #[.int .i64 0, .int .i64 0]).turn (a' := sepT (xdT p A c bs s) (sepT (blkT W.heap.size 40 #[.int .i64 0, .int .i64 0]) R)) (by ac_rfl)
  obtain ⟨c0, c1, c2, c3, fz⟩ := xd_cells h1
  obtain ⟨hle, _⟩ := xd_out H
  have hl := hs.2.1
  have HRe := Lib.hid (xd_rest hs h1)
  have HH := Lib.hid h1
  have HH0 := Lib.hid H
  clear H fz hs h1
  by_cases he : s.2.1 = 0
  · rw [he] at c2
    by_cases hlt : s.1 < bs.length
    · have HR : Hid (xEnd bs s = (4, (s.1 : Int))) := Lib.hid (if_pos ⟨he, hlt⟩)
      have hri : restI bs s = (bs.length : Int) - s.1 := by unfold restI; rw [if_neg (by simpa using he)]
      have hgt : (0 : Int) < (bs.length : Int) - s.1 := by omega
      rw [hri] at HRe
      rw [HR.out]
      clear hri
      go_enter Tryz.func67, Tryz.ntmps67
      go_wp2_with fail
      refine HRe.out.mono ?_
      rintro e w1 ⟨rfl, h⟩
      obtain ⟨d0, d1, d2, d3, _⟩ := xd_cells h
      have hb := (h.turn (a' := sepT (blkT W.heap.size 40 #[.int .i64 0, .int .i64 0]) (sepT (xdT p A c bs s) R)) (by ac_rfl))
      have HZ := Lib.hid hb
      have f0 := hb.blk.1.frozen 0
      have f1 := hb.blk.1.frozen 1
      have e0 := hb.blk.1.cell 0
      have e1 := hb.blk.1.cell 1
      simp at e0 e1
      clear h hb c0 c1 c2 c3 HRe
      go_wp2_with fail
      have hz := (HZ.out.setBlk 0 (.int .i64 4)).setBlk 1 (.int .i64 s.1)
      refine bodyPost_ret (results_cell_row rfl _ _ W.heap.size 40 #[.int .i64 4, .int .i64 s.1] (0, 0) _ rfl hz.blk.1 Tryz.underlying40 rfl (by kernel_rfl)) rfl ?_
      exact ⟨rfl, hz.drop⟩
    · have HR : Hid (xEnd bs s = s.2) := Lib.hid (if_neg (by simp [hlt]))
      have hri : restI bs s = (bs.length : Int) - s.1 := by unfold restI; rw [if_neg (by simpa using he)]
      have hgt : ¬ (0 : Int) < (bs.length : Int) - s.1 := by omega
      rw [hri] at HRe
      rw [HR.out]
      clear hri
      go_enter Tryz.func67, Tryz.ntmps67
      go_wp2_with fail
      refine HRe.out.mono ?_
      rintro e w1 ⟨rfl, h⟩
      obtain ⟨d0, d1, d2, d3, _⟩ := xd_cells h
      have hb := (h.turn (a' := sepT (blkT W.heap.size 40 #[.int .i64 0, .int .i64 0]) (sepT (xdT p A c bs s) R)) (by ac_rfl))
      have HZ := Lib.hid hb
      have f0 := hb.blk.1.frozen 0
      have f1 := hb.blk.1.frozen 1
      have e0 := hb.blk.1.cell 0
      have e1 := hb.blk.1.cell 1
      simp at e0 e1
      clear h hb c0 c1 c2 c3 HRe
      go_wp2_with fail
      have hz := (HZ.out.setBlk 0 (.int .i64 0)).setBlk 1 (.int .i64 s.2.2)
      refine bodyPost_ret (results_cell_row rfl _ _ W.heap.size 40 #[.int .i64 0, .int .i64 s.2.2] (0, 0) _ rfl hz.blk.1 Tryz.underlying40 rfl (by kernel_rfl)) rfl ?_
      exact ⟨by rw [he], hz.drop⟩
  · have HR : Hid (xEnd bs s = s.2) := Lib.hid (if_neg (by simp [he]))
    have he' : (s.2.1 == 0) = false := by simpa using he
    rw [HR.out]
    clear HRe
    go_enter Tryz.func67, Tryz.ntmps67
    go_wp2_with fail
    have hz := HH0.out.newBlk 40 #[.int .i64 s.2.1, .int .i64 s.2.2]
    refine bodyPost_ret (results_cell_row rfl _ _ W.heap.size 40 #[.int .i64 s.2.1, .int .i64 s.2.2] (0, 0) _ rfl hz.blk.1 Tryz.underlying40 rfl (by kernel_rfl)) rfl ?_
    exact ⟨rfl, hz.drop⟩
end
end Go.Proofs.YtcapdmicekialaaGreat
/- chaperonref03.Reader: Word. -/
namespace Go.Proofs.YtcapdmicekialaaGreat
open Go.RowKit
set_option linter.unusedVariables false
set_option linter.unusedSimpArgs false
attribute [local go_sem] Oper.semAt_some run_store_func run_store_nilFunc
section
variable {N : Nat} {w0 W : World} {R M : Thing} {p : Nat} {A : Option Addr} {c : Nat} {bs : List UInt8} {s : RS}
theorem slice_mid (A : Option Addr) (i c j k : Nat) (h1 : (j : Int) ≤ (k : Int)) (h2 : (k : Int) ≤ (c : Int)) (w : World) : (Instr.sliceAt 31 (.slice A i c) (some (.int .i64 (j : Int))) (some (.int .i64 (k : Int))) none).run Tryz.prog w = .ok (.slice (if c = j then A else A.map (·.add (j * 1))) (k - j) (c - j)) w := by
  have h0 : (0 : Int) ≤ (j : Int) := by omega
  have u := Tryz.underlying31
  go_simp
theorem mid_reads {B a n : Nat} {w : World} (h : Reads w B 1 A bs.length (bytesV bs)) (hc : bs.length ≤ c) (hk : a + n ≤ bs.length) :
    Reads w B 1 (if c = a then A else A.map (·.add (a * 1))) ((bs.drop a).take n).length (bytesV ((bs.drop a).take n)) := by
  have h1 := h.cut (k := a) (cap := c) (by omega) hc
  have hlen : ((bs.drop a).take n).length = n := by rw [List.length_take, List.length_drop]; omega
  refine ⟨by rw [bytesV_len, Nat.mul_one], fun hn => ?_⟩
  rw [hlen] at hn
  obtain ⟨ad, e, hb, hcell⟩ := h1.2 (by omega)
  refine ⟨ad, e, hb, fun j u hu => hcell j u ?_⟩
  have hj : j < n := by
    rcases Nat.lt_or_ge j n with x | x
    · exact x
    · rw [List.getElem?_eq_none (by rw [bytesV_len, hlen]; exact x)] at hu; cases hu
  unfold bytesV at hu ⊢
  rw [List.getElem?_map, List.getElem?_take_of_lt hj] at hu
  rw [Nat.mul_one, List.getElem?_drop, List.getElem?_map]
  rw [List.getElem?_drop] at hu
  exact hu
set_option maxRecDepth 100000 in
set_option maxHeartbeats 1600000 in
theorem xd_word (most : Int) (hs : Src0 N w0 A c bs) (H : Lies N w0 W (sepT (xdT p A c bs s) R)) : Calls Tryz.prog 114 #[.pointer (some ⟨p, 0, none⟩), .int .i64 most] W fun e w' => e = .returned (.string (strB (rWord bs s most).1)) ∧ Lies N w0 w' (sepT (xdT p A c bs (rWord bs s most).2) R) := by
  obtain ⟨c0, c1, c2, c3, fz⟩ := xd_cells H
  obtain ⟨hle, _⟩ := xd_out H
  have f1 := fz 1
  have HH := Lib.hid H.drew
  have H0 := Lib.hid H
  have hl := hs.2.1
  have HS := Lib.hid hs
  have HLe := Lib.hid hle
  have HN := Lib.hid (xnumber_any A c bs s.1 W.drew N (hs.1.below HH.out.below) hs.2.1 hle)
  have hb := rdGo_lt (bs.drop s.1) 0 0 (by decide) (by decide)
  clear H fz hs
  by_cases he : s.2.1 = 0
  · have HRW : Hid (rWord bs s most = if (rdGo 0 0 (bs.drop s.1)).1 ≠ 0 then ([], (s.1, (rdGo 0 0 (bs.drop s.1)).1, (s.1 : Int))) else if most < (rdGo 0 0 (bs.drop s.1)).2.1 then ([], (s.1, 4, (s.1 : Int)))
      else if bs.length < s.1 + (rdGo 0 0 (bs.drop s.1)).2.2 + (rdGo 0 0 (bs.drop s.1)).2.1 then ([], (s.1, 13, (s.1 : Int)))
      else ((bs.drop (s.1 + (rdGo 0 0 (bs.drop s.1)).2.2)).take (rdGo 0 0 (bs.drop s.1)).2.1, (s.1 + (rdGo 0 0 (bs.drop s.1)).2.2 + (rdGo 0 0 (bs.drop s.1)).2.1, s.2))) := by
      unfold rWord; rw [if_neg (show ¬ s.2.1 ≠ 0 by simpa using he)]; exact rfl
    rw [he] at c2
    have HL2 : Hid ((rdGo 0 0 (bs.drop s.1)).1 = 0 → (rdGo 0 0 (bs.drop s.1)).2.2 ≤ 0 + (bs.drop s.1).length) := Lib.hid (rdGo_le _ 0 0)
    by_cases hr : (rdGo 0 0 (bs.drop s.1)).1 = 0
    · rw [if_neg (show ¬ (rdGo 0 0 (bs.drop s.1)).1 ≠ 0 by simpa using hr)] at HRW
      have HE : Hid (xnE s.1 (rdGo 0 0 (bs.drop s.1)) = .tuple #[.int .i64 (rdGo 0 0 (bs.drop s.1)).2.1, .int .i64 ((s.1 + (rdGo 0 0 (bs.drop s.1)).2.2 : Nat) : Int), .int .i64 0]) := Lib.hid (if_pos hr)
      have hl2 := HL2.out hr
      rw [List.length_drop] at hl2
      have hak : s.1 + (rdGo 0 0 (bs.drop s.1)).2.2 ≤ bs.length := by omega
      rw [HE.out] at HN
      clear hr HE HL2 hl2
      generalize rdGo 0 0 (bs.drop s.1) = r at *
      obtain ⟨r1, n, k⟩ := r
      simp only at hb HRW HN hak
      obtain ⟨a, ha⟩ : ∃ a, a = s.1 + k := ⟨_, rfl⟩
      rw [← ha] at HRW HN hak
      have HF4 := Lib.hid (xd_fails 4 HH.out)
      have HF13 := Lib.hid (xd_fails 13 HH.out)
      clear ha
      by_cases hm : most < (n : Int)
      · rw [if_pos hm] at HRW
        rw [HRW.out]
        clear hb hak HF13
        go_enter Tryz.func114, Tryz.ntmps114
        go_wp2_with fail
        refine wp_region_text [8] loXn upXn (by kernel_rfl) (by kernel_rfl) (by kernel_rfl) (by kernel_rfl) (by kernel_rfl) ?_
        repeat (refine wpTx_now (by rfl) (by rfl) (by rfl) (fun K hK => ?_); go_simp; refine hK _ ?_; clear hK K)
        refine wpTx_eff (by rfl) (fun K hK => ?_)
        go_simp
        refine HN.out.mono ?_
        rintro e w1 ⟨rfl, rfl⟩
        refine ⟨_, rfl, hK _ _ (by simp [lateOK]) ?_⟩
        clear hK K HN
        repeat (refine wpTx_now (by rfl) (by rfl) (by rfl) (fun K hK => ?_); go_simp; refine hK _ ?_; clear hK K)
        refine wpTx_nil ?_
        go_wp2_with fail
        refine HF4.out.mono ?_
        rintro e w2 ⟨rfl, h⟩
        have HZ := Lib.hid h
        clear h HF4 c0 c1 c2 c3
        go_wp2_with fail
        go_ret
        exact ⟨rfl, HZ.out⟩
      · rw [if_neg hm] at HRW
        have hw : IntKind.i64.wrap ((bs.length : Int) - (a : Int)) = (bs.length : Int) - (a : Int) := IntWalk.i64_in _ (by omega)
        by_cases hq : bs.length < a + n
        · rw [if_pos hq] at HRW
          rw [HRW.out]
          have hgt : (bs.length : Int) - (a : Int) < (n : Int) := by omega
          clear hb hak HF4 hq
          go_enter Tryz.func114, Tryz.ntmps114
          go_wp2_with fail
          refine wp_region_text [8] loXn upXn (by kernel_rfl) (by kernel_rfl) (by kernel_rfl) (by kernel_rfl) (by kernel_rfl) ?_
          repeat (refine wpTx_now (by rfl) (by rfl) (by rfl) (fun K hK => ?_); go_simp; refine hK _ ?_; clear hK K)
          refine wpTx_eff (by rfl) (fun K hK => ?_)
          go_simp
          refine HN.out.mono ?_
          rintro e w1 ⟨rfl, rfl⟩
          refine ⟨_, rfl, hK _ _ (by simp [lateOK]) ?_⟩
          clear hK K HN
          repeat (refine wpTx_now (by rfl) (by rfl) (by rfl) (fun K hK => ?_); go_simp; refine hK _ ?_; clear hK K)
          refine wpTx_nil ?_
          go_wp2_with fail
          refine HF13.out.mono ?_
          rintro e w2 ⟨rfl, h⟩
          have HZ := Lib.hid h
          clear h HF13 c0 c1 c2 c3
          go_wp2_with fail
          go_ret
          exact ⟨rfl, HZ.out⟩
        · rw [if_neg hq] at HRW
          rw [HRW.out]
          have hgt : ¬ (bs.length : Int) - (a : Int) < (n : Int) := by omega
          have hww : IntKind.i64.wrap ((a : Int) + (n : Int)) = (a : Int) + (n : Int) := IntWalk.i64_in _ (by omega)
          have hz := (xd_out HH.out).2.setBlk 1 (.int .i64 ((a + n : Nat) : Int))
          have HZ : Hid (Lies N w0 (W.drew.setCell ⟨p, 1, none⟩ (.int .i64 ((a + n : Nat) : Int))) (sepT (xdT p A c bs (a + n, s.2)) R)) := Lib.hid (xd_in (s := (a + n, s.2)) (show a + n ≤ bs.length by omega) hz)
          have hz0 := (xd_cells HZ.out).1
          have hsl : ∀ w, (Instr.sliceAt 31 (.slice A bs.length c) (some (.int .i64 (a : Int))) (some (.int .i64 ((a : Int) + (n : Int)))) none).run Tryz.prog w = .ok (.slice (if c = a then A else A.map (·.add (a * 1))) n (c - a)) w := fun w => by
            have := slice_mid A bs.length c a (a + n) (by omega) (by have := HS.out.2.2; omega) w
            rw [Nat.add_sub_cancel_left, Int.natCast_add] at this
            exact this
          have hrd := mid_reads (a := a) (n := n) (HS.out.1.below HZ.out.below) HS.out.2.2 (by omega)
          have hlen : ((bs.drop a).take n).length = n := by rw [List.length_take, List.length_drop]; omega
          have hcv := conv_reads (P := Tryz.prog) (W.drew.setCell ⟨p, 1, none⟩ (.int .i64 ((a + n : Nat) : Int))) 31 9 5 Tryz.underlying31 Tryz.underlying5 Tryz.underlying9 (c - a) hrd
          rw [hlen, show W.drew.setCell ⟨p, 1, none⟩ (.int .i64 ((a + n : Nat) : Int)) = (W.setCell ⟨p, 1, none⟩ (.int .i64 ((a + n : Nat) : Int))).drew from rfl] at hcv
          rw [Int.natCast_add] at hcv HZ hz0
          generalize (if c = a then A else A.map (·.add (a * 1))) = AD at *
          clear hb hak HF4 HF13 hq hlen hrd hz
          go_enter Tryz.func114, Tryz.ntmps114
          go_wp2_with fail
          refine wp_region_text [8] loXn upXn (by kernel_rfl) (by kernel_rfl) (by kernel_rfl) (by kernel_rfl) (by kernel_rfl) ?_
          repeat (refine wpTx_now (by rfl) (by rfl) (by rfl) (fun K hK => ?_); go_simp; refine hK _ ?_; clear hK K)
          refine wpTx_eff (by rfl) (fun K hK => ?_)
          go_simp
          refine HN.out.mono ?_
          rintro e w1 ⟨rfl, rfl⟩
          refine ⟨_, rfl, hK _ _ (by simp [lateOK]) ?_⟩
          clear hK K HN
          repeat (refine wpTx_now (by rfl) (by rfl) (by rfl) (fun K hK => ?_); go_simp; refine hK _ ?_; clear hK K)
          refine wpTx_nil ?_
          go_wp2_with fail
          go_ret
          exact ⟨rfl, HZ.out⟩
    · rw [if_pos (show (rdGo 0 0 (bs.drop s.1)).1 ≠ 0 by simpa using hr)] at HRW
      have HE : Hid (xnE s.1 (rdGo 0 0 (bs.drop s.1)) = .tuple #[.int .i64 0, .int .i64 0, .int .i64 (rdGo 0 0 (bs.drop s.1)).1]) := Lib.hid (if_neg hr)
      have HF := Lib.hid (xd_fails (rdGo 0 0 (bs.drop s.1)).1 HH.out)
      have hr' : ((rdGo 0 0 (bs.drop s.1)).1 != 0) = true := by simpa using hr
      rw [HE.out] at HN
      rw [HRW.out]
      clear hr HE HL2 hb
      generalize rdGo 0 0 (bs.drop s.1) = r at *
      go_enter Tryz.func114, Tryz.ntmps114
      go_wp2_with fail
      refine wp_region_text [8] loXn upXn (by kernel_rfl) (by kernel_rfl) (by kernel_rfl) (by kernel_rfl) (by kernel_rfl) ?_
      repeat (refine wpTx_now (by rfl) (by rfl) (by rfl) (fun K hK => ?_); go_simp; refine hK _ ?_; clear hK K)
      refine wpTx_eff (by rfl) (fun K hK => ?_)
      go_simp
      refine HN.out.mono ?_
      rintro e w1 ⟨rfl, rfl⟩
      refine ⟨_, rfl, hK _ _ (by simp [lateOK]) ?_⟩
      clear hK K HN
      repeat (refine wpTx_now (by rfl) (by rfl) (by rfl) (fun K hK => ?_); go_simp; refine hK _ ?_; clear hK K)
      refine wpTx_nil ?_
      go_wp2_with fail
      refine HF.out.mono ?_
      rintro e w2 ⟨rfl, h⟩
      have HZ := Lib.hid h
      clear h HF c0 c1 c2 c3
      go_wp2_with fail
      go_ret
      exact ⟨rfl, HZ.out⟩
  · have he' : (s.2.1 != 0) = true := by simpa using he
    have HR : Hid (rWord bs s most = ([], s)) := by unfold rWord; rw [if_pos (by simpa using he)]; exact rfl
    rw [HR.out]
    clear hb
    go_enter Tryz.func114, Tryz.ntmps114
    go_wp2_with fail
    go_ret
    exact ⟨rfl, H0.out⟩
end
end Go.Proofs.YtcapdmicekialaaGreat
/- chaperonref22.reader: the thing; fine, fails, number, just, count, word, operand. -/
namespace Go.Proofs.YtcapdmicekialaaGreat
open Go.RowKit
set_option linter.unusedVariables false
set_option linter.unusedSimpArgs false
attribute [local go_sem] Oper.semAt_some run_store_func run_store_nilFunc
/-- A reader that stands well, or has met a fault. -/
abbrev XS := Except (Int × Int) RS
def XSt (X : XS) (s : RS) (b : Int × Int) : Prop := match X with
  | .ok s' => s = s' ∧ s.2 = (0, 0) ∧ b = (0, 0)
  | .error f => (b.1 ≠ 0 ∧ b = f ∧ s.2 = (0, 0)) ∨ (b = (0, 0) ∧ s.2.1 ≠ 0 ∧ s.2 = f)
def XS.fine (X : XS) : Bool := match X with | .ok _ => true | .error _ => false
/-- One more act of the reader: what it tells counts only while no fault is met. -/
def stepX {α : Type} (rd : Rdr α) (X : XS) (a : α) (X' : XS) : Prop := match X with
  | .error f => X' = .error f
  | .ok s => match rd s with
    | .ok (a', s') => a' = a ∧ X' = .ok s'
    | .error f => X' = .error f
section
variable {α β γ : Type}
theorem stepX_bind {r : Rdr α} {f : α → Rdr β} {X X1 X2 : XS} {a : α} {b : β} (h1 : stepX r X a X1) (h2 : stepX (f a) X1 b X2) : stepX (r.bind f) X b X2 := by
  cases X with
  | error e =>
    obtain rfl : X1 = .error e := h1
    exact h2
  | ok s =>
    unfold stepX at h1
    unfold stepX Rdr.bind
    simp only at h1 ⊢
    cases hr : r s with
    | error e =>
      rw [hr] at h1
      simp only at h1 ⊢
      subst h1
      exact h2
    | ok q =>
      rw [hr] at h1
      obtain ⟨a', s'⟩ := q
      obtain ⟨rfl, rfl⟩ := h1
      exact h2
theorem stepX_pure (a : α) (X : XS) : stepX (Rdr.pure a) X a X := by
  cases X with
  | error e => rfl
  | ok s => exact ⟨rfl, rfl⟩
theorem stepX_err {r : Rdr α} {f : Int × Int} {a : α} : stepX r (.error f) a (.error f) := rfl
theorem Rdr.bind_assoc (r : Rdr α) (f : α → Rdr β) (g : β → Rdr γ) : (r.bind f).bind g = r.bind fun a => (f a).bind g := by
  funext s
  unfold Rdr.bind
  cases r s <;> rfl
/-- So much of a list is read. -/
def Prog (one : Rdr α) (n : Nat) (X0 : XS) (i : Nat) (l : List α) (X : XS) : Prop := ∀ b X', stepX (timesR one i l) X b X' → stepX (timesR one n []) X0 b X'
theorem Prog.start (one : Rdr α) (n : Nat) (X : XS) : Prog one n X n [] X := fun _ _ h => h
theorem Prog.step {one : Rdr α} {n i : Nat} {X0 X X' : XS} {l : List α} {a : α} (h : Prog one n X0 (i + 1) l X) (ha : stepX one X a X') : Prog one n X0 i (l ++ [a]) X' :=
  fun b X2 hb => h b X2 (stepX_bind ha hb)
theorem Prog.done {one : Rdr α} {n i : Nat} {X0 X : XS} {l : List α} (h : Prog one n X0 i l X) (hi : i = 0 ∨ XS.fine X = false) : stepX (timesR one n []) X0 l X := by
  rcases hi with rfl | hi
  · exact h l X (stepX_pure l X)
  · cases X with
    | ok s => cases hi
    | error f => exact h l _ rfl
end
def countR (bs : List UInt8) (most : Nat) : Rdr Nat := (numR bs).bind fun n => (mustR (decide (n.1 ≤ most)) 12 n.2).bind fun _ => Rdr.pure n.1
theorem listR_eq {α : Type} (bs : List UInt8) (most : Nat) (one : Rdr α) : listR bs most one = (countR bs most).bind fun n => timesR one n [] := by
  unfold listR countR
  rw [Rdr.bind_assoc]
  congr 1
  funext n
  rw [Rdr.bind_assoc]
  rfl
def xrT (p : Nat) (A : Option Addr) (c : Nat) (bs : List UInt8) (X : XS) : Thing := someT fun q : Nat × RS × (Int × Int) => sepT (factT (XSt X q.2.1 q.2.2)) (sepT (blkT p 109 #[.pointer (some ⟨q.1, 0, none⟩), .int .i64 bs.length, .int .i64 q.2.2.1, .int .i64 q.2.2.2]) (xdT q.1 A c bs q.2.1))
section
variable {N : Nat} {w0 W : World} {R M : Thing} {p : Nat} {A : Option Addr} {c : Nat} {bs : List UInt8} {X : XS}
theorem xr_out (H : Lies N w0 W (sepT (xrT p A c bs X) R)) : ∃ o s b, XSt X s b ∧ Lies N w0 W (sepT (xdT o A c bs s) (sepT (blkT p 109 #[.pointer (some ⟨o, 0, none⟩), .int .i64 bs.length, .int .i64 b.1, .int .i64 b.2]) R)) := by
  obtain ⟨q, H⟩ := H.ex
  have h := (H.turn (a' := sepT (factT (XSt X q.2.1 q.2.2)) (sepT (xdT q.1 A c bs q.2.1) (sepT (blkT p 109 #[.pointer (some ⟨q.1, 0, none⟩), .int .i64 bs.length, .int .i64 q.2.2.1, .int .i64 q.2.2.2]) R))) (by ac_rfl)).fact
  exact ⟨q.1, q.2.1, q.2.2, h.1, h.2⟩
theorem xr_in {o : Nat} {s : RS} {b : Int × Int} (hS : XSt X s b) (H : Lies N w0 W (sepT (xdT o A c bs s) (sepT (blkT p 109 #[.pointer (some ⟨o, 0, none⟩), .int .i64 bs.length, .int .i64 b.1, .int .i64 b.2]) R))) : Lies N w0 W (sepT (xrT p A c bs X) R) :=
  Lies.intro (o, s, b) ((H.withFact hS).turn (by ac_rfl))
theorem xr_cells {o : Nat} {s : RS} {b : Int × Int} (H : Lies N w0 W (sepT (xdT o A c bs s) (sepT (blkT p 109 #[.pointer (some ⟨o, 0, none⟩), .int .i64 bs.length, .int .i64 b.1, .int .i64 b.2]) R))) :
    W.cell? ⟨p, 0, none⟩ = some (.pointer (some ⟨o, 0, none⟩)) ∧ W.cell? ⟨p, 2, none⟩ = some (.int .i64 b.1) ∧ W.cell? ⟨p, 3, none⟩ = some (.int .i64 b.2) ∧ W.cell? ⟨o, 1, none⟩ = some (.int .i64 s.1) ∧ W.cell? ⟨o, 2, none⟩ = some (.int .i64 s.2.1) ∧ ∀ i, W.frozen? ⟨p, i, none⟩ = false := by
  have h := (H.turn (a' := sepT (blkT p 109 #[.pointer (some ⟨o, 0, none⟩), .int .i64 bs.length, .int .i64 b.1, .int .i64 b.2]) (sepT (xdT o A c bs s) R)) (by ac_rfl)).blk.1
  obtain ⟨_, c1, c2, _, _⟩ := xd_cells H
  exact ⟨h.cell 0, h.cell 2, h.cell 3, c1, c2, fun i => h.frozen i⟩
theorem XSt.fine {s : RS} {b : Int × Int} (h : XSt X s b) : XS.fine X = (b.1 == 0 && s.2.1 == 0) := by
  cases X with
  | ok s' => obtain ⟨rfl, h1, rfl⟩ := h; rw [h1]; rfl
  | error f =>
    rcases h with ⟨h1, _, _⟩ | ⟨_, h1, _⟩
    · simp [XS.fine, h1]
    · simp [XS.fine, h1]
set_option maxRecDepth 100000 in
theorem xfine_any (H : Lies N w0 W (sepT (xrT p A c bs X) R)) : Calls Tryz.prog 61 #[.pointer (some ⟨p, 0, none⟩)] W fun e w' => e = .returned (.bool (XS.fine X)) ∧ Lies N w0 w' (sepT (xrT p A c bs X) R) := by
  obtain ⟨o, s, b, hS, h⟩ := xr_out H
  obtain ⟨c0, c2, c3, d1, d2, _⟩ := xr_cells h
  rw [hS.fine]
  have HH := Lib.hid H
  clear H h hS
  by_cases g : b.1 = 0
  · rw [g] at c2 ⊢
    go_enter Tryz.func61, Tryz.ntmps61
    go_wp2_with fail
    go_ret
    exact ⟨by simp, HH.out⟩
  · have g' : (b.1 == 0) = false := by simpa using g
    go_enter Tryz.func61, Tryz.ntmps61
    go_wp2_with fail
    go_ret
    exact ⟨by simp [g'], HH.out⟩
/-- A fault is kept if it is the first. -/
def failX (X : XS) (f : Int × Int) : XS := match X with | .ok _ => .error f | .error e => .error e
set_option maxRecDepth 100000 in
theorem xfails_any (er at_ : Int) (hne : er ≠ 0) (H : Lies N w0 W (sepT (xrT p A c bs X) R)) : Calls Tryz.prog 111 #[.pointer (some ⟨p, 0, none⟩), .int .i64 er, .int .i64 at_] W fun e w' => e = .returned (.tuple #[]) ∧ Lies N w0 w' (sepT (xrT p A c bs (failX X (er, at_))) R) := by
  have HF := Lib.hid (xfine_any H)
  cases X with
  | ok s =>
    have HF : Hid (Calls Tryz.prog 61 #[.pointer (some ⟨p, 0, none⟩)] W fun e w' => e = .returned (.bool true) ∧ Lies N w0 w' (sepT (xrT p A c bs (.ok s)) R)) := HF
    have HN := Lib.hid hne
    clear hne H
    go_enter Tryz.func111, Tryz.ntmps111
    go_wp2_with fail
    refine HF.out.mono ?_
    rintro e w1 ⟨rfl, h1⟩
    obtain ⟨o, s', b, hS, h⟩ := xr_out h1
    obtain ⟨c0, c2, c3, d1, d2, fz⟩ := xr_cells h
    have f2 := fz 2
    have f3 := fz 3
    have hz := ((h.turn (a' := sepT (blkT p 109 #[.pointer (some ⟨o, 0, none⟩), .int .i64 bs.length, .int .i64 b.1, .int .i64 b.2]) (sepT (xdT o A c bs s') R)) (by ac_rfl)).setBlk 2 (.int .i64 er)).setBlk 3 (.int .i64 at_)
    have hS' : XSt (failX (.ok s) (er, at_)) s' (er, at_) := .inl ⟨HN.out, rfl, hS.2.1⟩
    have HZ := Lib.hid (xr_in (b := (er, at_)) hS' (hz.turn (a' := sepT (xdT o A c bs s') (sepT (blkT p 109 #[.pointer (some ⟨o, 0, none⟩), .int .i64 bs.length, .int .i64 er, .int .i64 at_]) R)) (by
      show sepT (blkT p 109 #[.pointer (some ⟨o, 0, none⟩), .int .i64 bs.length, .int .i64 er, .int .i64 at_]) _ = _
      ac_rfl)))
    clear hz h h1 hS fz HF hS'
    go_wp2_with fail
    go_end0
    exact ⟨rfl, HZ.out⟩
  | error f =>
    have HF : Hid (Calls Tryz.prog 61 #[.pointer (some ⟨p, 0, none⟩)] W fun e w' => e = .returned (.bool false) ∧ Lies N w0 w' (sepT (xrT p A c bs (.error f)) R)) := HF
    clear H
    go_enter Tryz.func111, Tryz.ntmps111
    go_wp2_with fail
    refine HF.out.mono ?_
    rintro e w1 ⟨rfl, h1⟩
    have HZ := Lib.hid h1
    clear h1 HF
    go_wp2_with fail
    go_end0
    exact ⟨rfl, HZ.out⟩
theorem rNum_good (bs : List UInt8) (s : RS) (h : s.2 = (0, 0)) : ((rNum bs s).2.2.1 = 0 → (rNum bs s).2.2 = (0, 0)) ∧ ((rNum bs s).2.2.1 ≠ 0 → (rNum bs s).1 = 0) := by
  have h0 : s.2.1 = 0 := by rw [h]
  unfold rNum
  rw [if_neg (by simpa using h0)]
  split
  · exact ⟨fun _ => h, fun h2 => absurd h0 h2⟩
  · rename_i h1
    exact ⟨fun h2 => absurd h2 h1, fun _ => rfl⟩
theorem num_stepX (bs : List UInt8) (s : RS) (h : s.2 = (0, 0)) : ∃ X', stepX (numR bs) (.ok s) ((rNum bs s).1, s.1) X' ∧ (XS.fine X' = false → (rNum bs s).1 = 0) ∧ XSt X' (rNum bs s).2 (0, 0) := by
  obtain ⟨g1, g2⟩ := rNum_good bs s h
  by_cases hq : (rNum bs s).2.2.1 = 0
  · have hR : numR bs s = .ok (((rNum bs s).1, s.1), (rNum bs s).2) := if_pos hq
    refine ⟨.ok (rNum bs s).2, ?_, fun h => (by cases h), rfl, g1 hq, rfl⟩
    unfold stepX
    simp only [hR]
    exact ⟨trivial, trivial⟩
  · have hR : numR bs s = .error (rNum bs s).2.2 := if_neg hq
    refine ⟨.error (rNum bs s).2.2, ?_, fun _ => g2 hq, .inr ⟨rfl, hq, rfl⟩⟩
    unfold stepX
    simp only [hR]
set_option maxRecDepth 100000 in
theorem xnumber_ref (hs : Src0 N w0 A c bs) (H : Lies N w0 W (sepT (xrT p A c bs X) R)) : Calls Tryz.prog 63 #[.pointer (some ⟨p, 0, none⟩)] W fun e w' => ∃ (n at_ : Nat) (X' : XS), e = .returned (.tuple #[.int .i64 n, .int .i64 at_]) ∧ stepX (numR bs) X (n, at_) X' ∧ (XS.fine X' = false → n = 0) ∧ n < 9223372036854775808 ∧ Lies N w0 w' (sepT (xrT p A c bs X') R) := by
  obtain ⟨o, s, b, hS, h⟩ := xr_out H
  obtain ⟨c0, c2, c3, d1, d2, _⟩ := xr_cells h
  have HF := Lib.hid (xfine_any H)
  have HSt := Lib.hid hS
  have HS := Lib.hid hs
  clear H h hS hs
  cases X with
  | ok s0 =>
    have HF : Hid (Calls Tryz.prog 61 #[.pointer (some ⟨p, 0, none⟩)] W fun e w' => e = .returned (.bool true) ∧ Lies N w0 w' (sepT (xrT p A c bs (.ok s0)) R)) := HF
    go_enter Tryz.func63, Tryz.ntmps63
    go_wp2_with fail
    refine HF.out.mono ?_
    rintro e w1 ⟨rfl, h1⟩
    obtain ⟨o1, s1, b1, hS1, h⟩ := xr_out h1
    obtain ⟨e0, e2, e3, _, _, _⟩ := xr_cells h
    have HN := Lib.hid (xd_num HS.out h)
    have HS1 := Lib.hid hS1
    clear h h1 hS1 HF c0 c2 c3 d1 d2
    go_wp2_with fail
    refine HN.out.mono ?_
    rintro e w2 ⟨rfl, h⟩
    have HZ := Lib.hid h
    clear h HN e0 e2 e3
    go_wp2_with fail
    go_ret2
    obtain ⟨rfl, hz0, rfl⟩ := HS1.out
    obtain ⟨rfl, _, _⟩ := HSt.out
    obtain ⟨X', h1, h2, h3⟩ := num_stepX bs _ hz0
    exact ⟨_, _, X', rfl, h1, h2, rNum_lt bs _, xr_in h3 HZ.out⟩
  | error f =>
    have HF : Hid (Calls Tryz.prog 61 #[.pointer (some ⟨p, 0, none⟩)] W fun e w' => e = .returned (.bool false) ∧ Lies N w0 w' (sepT (xrT p A c bs (.error f)) R)) := HF
    go_enter Tryz.func63, Tryz.ntmps63
    go_wp2_with fail
    refine HF.out.mono ?_
    rintro e w1 ⟨rfl, h1⟩
    have HZ := Lib.hid h1
    clear h1 HF
    go_wp2_with fail
    go_ret2
    exact ⟨0, s.1, .error f, rfl, rfl, fun _ => rfl, by decide, HZ.out⟩
end
end Go.Proofs.YtcapdmicekialaaGreat
/- chaperonref22.reader: just, count, word, operand. -/
namespace Go.Proofs.YtcapdmicekialaaGreat
open Go.RowKit
set_option linter.unusedVariables false
set_option linter.unusedSimpArgs false
attribute [local go_sem] Oper.semAt_some run_store_func run_store_nilFunc
theorem must_no_stepX (X : XS) (er at_ : Int) : stepX (mustR false er at_) X () (failX X (er, at_)) := by
  cases X with
  | ok s => exact rfl
  | error f => exact rfl
theorem must_yes_stepX (X : XS) (er at_ : Int) : stepX (mustR true er at_) X () X := by
  cases X with
  | ok s => exact ⟨rfl, rfl⟩
  | error f => exact rfl
theorem failX_err {α : Type} (r : Rdr α) (X : XS) (f : Int × Int) (a : α) : stepX r (failX X f) a (failX X f) := by
  cases X <;> exact rfl
theorem rWord_good (bs : List UInt8) (s : RS) (h : s.2 = (0, 0)) (most : Int) : (rWord bs s most).2.2.1 = 0 → (rWord bs s most).2.2 = (0, 0) := by
  have h0 : s.2.1 = 0 := by rw [h]
  unfold rWord
  rw [if_neg (by simpa using h0)]
  split
  · rename_i h1
    exact fun h2 => absurd h2 h1
  · split
    · intro h2; cases h2
    · split
      · intro h2; cases h2
      · exact fun _ => h
theorem word_short (bs : List UInt8) (s : RS) : sz (strB (rWord bs s 1000).1) := by
  have h : ∀ l : List UInt8, l.length ≤ 1000 → sz (strB l) := fun l hl => by
    show (strB l).size ≤ _
    unfold strB
    simp [ByteArray.size]
    omega
  apply h
  unfold rWord
  split
  · simp
  · split
    · simp
    · split
      · simp
      · split
        · simp
        · rename_i h3 _
          simp only [List.length_take]
          omega
theorem word_stepX (bs : List UInt8) (s : RS) (h : s.2 = (0, 0)) : ∃ X', stepX (wordR bs) (.ok s) (strB (rWord bs s 1000).1) X' ∧ XSt X' (rWord bs s 1000).2 (0, 0) := by
  have g1 := rWord_good bs s h 1000
  by_cases hq : (rWord bs s 1000).2.2.1 = 0
  · have hR : wordR bs s = .ok (strB (rWord bs s 1000).1, (rWord bs s 1000).2) := if_pos hq
    refine ⟨.ok (rWord bs s 1000).2, ?_, rfl, g1 hq, rfl⟩
    unfold stepX
    simp only [hR]
    exact ⟨trivial, trivial⟩
  · have hR : wordR bs s = .error (rWord bs s 1000).2.2 := if_neg hq
    refine ⟨.error (rWord bs s 1000).2.2, ?_, .inr ⟨rfl, hq, rfl⟩⟩
    unfold stepX
    simp only [hR]
section
variable {N : Nat} {w0 W : World} {R M : Thing} {p : Nat} {A : Option Addr} {c : Nat} {bs : List UInt8} {X : XS}
set_option maxRecDepth 100000 in
theorem xword_ref (hs : Src0 N w0 A c bs) (H : Lies N w0 W (sepT (xrT p A c bs X) R)) : Calls Tryz.prog 64 #[.pointer (some ⟨p, 0, none⟩)] W fun e w' => ∃ (a : ByteArray) (X' : XS), e = .returned (.string a) ∧ stepX (wordR bs) X a X' ∧ sz a ∧ Lies N w0 w' (sepT (xrT p A c bs X') R) := by
  have HF := Lib.hid (xfine_any H)
  have HS := Lib.hid hs
  clear H hs
  cases X with
  | ok s0 =>
    have HF : Hid (Calls Tryz.prog 61 #[.pointer (some ⟨p, 0, none⟩)] W fun e w' => e = .returned (.bool true) ∧ Lies N w0 w' (sepT (xrT p A c bs (.ok s0)) R)) := HF
    go_enter Tryz.func64, Tryz.ntmps64
    go_wp2_with fail
    refine HF.out.mono ?_
    rintro e w1 ⟨rfl, h1⟩
    obtain ⟨o1, s1, b1, hS1, h⟩ := xr_out h1
    obtain ⟨e0, e2, e3, _, _, _⟩ := xr_cells h
    have HN := Lib.hid (xd_word 1000 HS.out h)
    have HS1 := Lib.hid hS1
    clear h h1 hS1 HF
    go_wp2_with fail
    refine HN.out.mono ?_
    rintro e w2 ⟨rfl, h⟩
    have HZ := Lib.hid h
    clear h HN e0 e2 e3
    go_wp2_with fail
    go_ret
    obtain ⟨rfl, hz0, rfl⟩ := HS1.out
    obtain ⟨X', h1, h3⟩ := word_stepX bs _ hz0
    exact ⟨_, X', rfl, h1, word_short bs _, xr_in h3 HZ.out⟩
  | error f =>
    have HF : Hid (Calls Tryz.prog 61 #[.pointer (some ⟨p, 0, none⟩)] W fun e w' => e = .returned (.bool false) ∧ Lies N w0 w' (sepT (xrT p A c bs (.error f)) R)) := HF
    go_enter Tryz.func64, Tryz.ntmps64
    go_wp2_with fail
    refine HF.out.mono ?_
    rintro e w1 ⟨rfl, h1⟩
    have HZ := Lib.hid h1
    clear h1 HF
    go_wp2_with fail
    go_ret
    exact ⟨_, .error f, rfl, rfl, Nat.zero_le _, HZ.out⟩
set_option maxRecDepth 100000 in
theorem xjust_ref (want : Nat) (hs : Src0 N w0 A c bs) (H : Lies N w0 W (sepT (xrT p A c bs X) R)) : Calls Tryz.prog 59 #[.pointer (some ⟨p, 0, none⟩), .int .i64 want] W fun e w' => ∃ X' : XS, e = .returned (.tuple #[]) ∧ stepX (justR bs want) X () X' ∧ Lies N w0 w' (sepT (xrT p A c bs X') R) := by
  have HN := Lib.hid (xnumber_ref hs H)
  clear H hs
  go_enter Tryz.func59, Tryz.ntmps59
  go_wp2_with fail
  refine HN.out.mono ?_
  rintro e w1 ⟨n, at_, X1, rfl, h1, _, hlt, h⟩
  by_cases hn : n = want
  · subst hn
    have hm : ((n : Int) != (n : Int)) = false := by simp
    have HZ := Lib.hid h
    have H1 := Lib.hid h1
    clear h h1 HN
    go_wp2_with fail
    go_end0
    refine ⟨X1, rfl, stepX_bind H1.out ?_, HZ.out⟩
    show stepX (mustR (n == n) 5 at_) X1 () X1
    rw [beq_self_eq_true]
    exact must_yes_stepX _ _ _
  · have hm : ((n : Int) != (want : Int)) = true := by simp; omega
    have HF := Lib.hid (xfails_any 5 at_ (by decide) h)
    have H1 := Lib.hid h1
    clear h h1 HN
    go_wp2_with fail
    refine HF.out.mono ?_
    rintro e w2 ⟨rfl, h⟩
    have HZ := Lib.hid h
    clear h HF
    go_wp2_with fail
    go_end0
    refine ⟨_, rfl, stepX_bind H1.out ?_, HZ.out⟩
    show stepX (mustR (n == want) 5 at_) X1 () _
    rw [show (n == want) = false by simpa using hn]
    exact must_no_stepX _ _ _
set_option maxRecDepth 100000 in
theorem xcount_ref (most : Nat) (hs : Src0 N w0 A c bs) (H : Lies N w0 W (sepT (xrT p A c bs X) R)) : Calls Tryz.prog 60 #[.pointer (some ⟨p, 0, none⟩), .int .i64 most] W fun e w' => ∃ (n : Nat) (X' : XS), e = .returned (.int .i64 n) ∧ stepX (countR bs most) X n X' ∧ n ≤ most ∧ Lies N w0 w' (sepT (xrT p A c bs X') R) := by
  have HN := Lib.hid (xnumber_ref hs H)
  clear H hs
  go_enter Tryz.func60, Tryz.ntmps60
  go_wp2_with fail
  refine HN.out.mono ?_
  rintro e w1 ⟨n, at_, X1, rfl, h1, _, hlt, h⟩
  by_cases hn : (most : Int) < (n : Int)
  · have HF := Lib.hid (xfails_any 12 at_ (by decide) h)
    have H1 := Lib.hid h1
    clear h h1 HN
    go_wp2_with fail
    refine HF.out.mono ?_
    rintro e w2 ⟨rfl, h⟩
    have HZ := Lib.hid h
    clear h HF
    go_wp2_with fail
    go_ret
    refine ⟨0, _, rfl, stepX_bind H1.out (stepX_bind (a := ()) (X1 := failX X1 (12, (at_ : Int))) ?_ (failX_err _ _ _ _)), Nat.zero_le _, HZ.out⟩
    show stepX (mustR (decide (n ≤ most)) 12 at_) X1 () _
    rw [show decide (n ≤ most) = false by simp; omega]
    exact must_no_stepX _ _ _
  · have HZ := Lib.hid h
    have H1 := Lib.hid h1
    clear h h1 HN
    go_wp2_with fail
    go_ret
    refine ⟨n, X1, rfl, stepX_bind H1.out (stepX_bind (a := ()) (X1 := X1) ?_ (stepX_pure _ _)), by omega, HZ.out⟩
    show stepX (mustR (decide (n ≤ most)) 12 at_) X1 () _
    rw [show decide (n ≤ most) = true by simp; omega]
    exact must_yes_stepX _ _ _
set_option maxRecDepth 100000 in
set_option maxHeartbeats 1600000 in
theorem xoper_ref (hs : Src0 N w0 A c bs) (H : Lies N w0 W (sepT (xrT p A c bs X) R)) : Calls Tryz.prog 115 #[.pointer (some ⟨p, 0, none⟩)] W fun e w' => ∃ (n : Int) (X' : XS), e = .returned (.int .i64 n) ∧ stepX (opR bs) X n X' ∧ iz n ∧ Lies N w0 w' (sepT (xrT p A c bs X') R) := by
  have HN := Lib.hid (xnumber_ref hs H)
  have HS := Lib.hid hs
  clear H hs
  go_enter Tryz.func115, Tryz.ntmps115
  go_wp2_with fail
  refine HN.out.mono ?_
  rintro e w1 ⟨n, at_, X1, rfl, h1, hz, hlt, h⟩
  by_cases hn : (1 : Int) < (n : Int)
  · have HF := Lib.hid (xfails_any 5 at_ (by decide) h)
    have H1 := Lib.hid h1
    clear h h1 HN hz
    go_wp2_with fail
    refine HF.out.mono ?_
    rintro e w2 ⟨rfl, h⟩
    have HN2 := Lib.hid (xnumber_ref HS.out h)
    clear h HF
    go_wp2_with fail
    refine HN2.out.mono ?_
    rintro e w3 ⟨n2, at2, X2, rfl, h2, hz2, hlt2, h⟩
    have HZ := Lib.hid h
    have H2 := Lib.hid h2
    have hne : ((n : Int) == 1) = false := by rw [beq_eq_false_iff_ne]; omega
    clear h h2 HN2 hz2
    go_wp2_with fail
    go_ret
    refine ⟨n2, X2, rfl, stepX_bind H1.out (stepX_bind (a := ()) (X1 := failX X1 (5, (at_ : Int))) ?_ ?_), by unfold iz; omega, HZ.out⟩
    · show stepX (mustR (decide (n ≤ 1)) 5 at_) X1 () _
      rw [show decide (n ≤ 1) = false by simp; omega]
      exact must_no_stepX _ _ _
    · have : X2 = failX X1 (5, (at_ : Int)) := by
        have := H2.out
        cases X1 <;> exact this
      rw [this]
      exact failX_err _ _ _ _
  · have HN2 := Lib.hid (xnumber_ref HS.out h)
    have H1 := Lib.hid h1
    have hm : stepX (mustR (decide (n ≤ 1)) 5 at_) X1 () X1 := by
      rw [show decide (n ≤ 1) = true by simp; omega]
      exact must_yes_stepX _ _ _
    have HM := Lib.hid hm
    clear h h1 HN hz hm
    go_wp2_with fail
    refine HN2.out.mono ?_
    rintro e w3 ⟨n2, at2, X2, rfl, h2, hz2, hlt2, h⟩
    have HZ := Lib.hid h
    have H2 := Lib.hid h2
    clear h h2 HN2 hz2
    by_cases hb : (n : Int) = 1
    · have hw : IntKind.i64.wrap (-1 - (n2 : Int)) = -1 - (n2 : Int) := IntWalk.i64_in _ (by omega)
      have hb1 : ((n : Int) == 1) = true := by rw [beq_iff_eq]; exact hb
      have HB := Lib.hid hb
      clear hb
      go_wp2_with fail
      go_ret
      have hb := HB.out
      refine ⟨-1 - (n2 : Int), X2, rfl, stepX_bind H1.out (stepX_bind HM.out (stepX_bind H2.out ?_)), by unfold iz; omega, HZ.out⟩
      show stepX (Rdr.pure (if n = 1 then -1 - (n2 : Int) else (n2 : Int))) X2 _ X2
      rw [if_pos (by omega)]
      exact stepX_pure _ _
    · have hb1 : ((n : Int) == 1) = false := by rw [beq_eq_false_iff_ne]; exact hb
      go_wp2_with fail
      go_ret
      refine ⟨(n2 : Int), X2, rfl, stepX_bind H1.out (stepX_bind HM.out (stepX_bind H2.out ?_)), by unfold iz; omega, HZ.out⟩
      show stepX (Rdr.pure (if n = 1 then -1 - (n2 : Int) else (n2 : Int))) X2 _ X2
      rw [if_neg (by omega)]
      exact stepX_pure _ _
end
end Go.Proofs.YtcapdmicekialaaGreat
/- chaperonref22.reader: words, vars. Printed by gen_xlst.py. -/
namespace Go.Proofs.YtcapdmicekialaaGreat
open Go.RowKit
set_option linter.unusedVariables false
set_option linter.unusedSimpArgs false
attribute [local go_sem] Oper.semAt_some run_store_func run_store_nilFunc
/-- What a list of the document's reader comes to. -/
def XLst {α : Type} {K : Kind α} (T : TK K) (t : TypeId) (N : Nat) (w0 : World) (R : Thing) (p : Nat) (A0 : Option Addr) (c0 : Nat) (bs : List UInt8) (rd : Rdr (List α)) (X : XS) (e : Ending) (w' : World) : Prop :=
  ∃ (A : Option Addr) (c : Nat) (l : List α) (X' : XS), e = .returned (.slice A l.length c) ∧ stepX rd X l X' ∧ Lies N w0 w' (sepT (xrT p A0 c0 bs X') (sepT (T.slT t (.slice A l.length c) l) R))
section
variable {N : Nat} {w0 W : World} {R M : Thing} {p : Nat} {A0 : Option Addr} {c0 : Nat} {bs : List UInt8} {X : XS}
set_option maxRecDepth 100000 in
set_option maxHeartbeats 1600000 in
theorem xwl_ref (most : Nat) (hm : most ≤ 100000) (hs : Src0 N w0 A0 c0 bs) (H : Lies N w0 W (sepT (xrT p A0 c0 bs X) R)) : Calls Tryz.prog 65 #[.pointer (some ⟨p, 0, none⟩), .int .i64 most] W (XLst txT 9 N w0 R p A0 c0 bs (listR bs most (wordR bs)) X) := by
  have HC := Lib.hid (xcount_ref most hs H)
  have HS := Lib.hid hs
  rw [listR_eq]
  clear H hs
  go_enter Tryz.func65, Tryz.ntmps65
  go_wp2_with fail
  refine HC.out.mono ?_
  rintro e w1 ⟨n, X0, rfl, hst, hnm, h⟩
  have HSt := Lib.hid hst
  have HG := Lib.hid (txT.gro_nil 9 h)
  have hn : n ≤ 100000 := Nat.le_trans hnm hm
  clear h hst HC
  go_wp2_with fail
  go_loopw [5, 6] (fun out ix wr => ∃ (i k : Nat) (A : Option Addr) (c : Nat) (css : List (List Value)) (l : List ByteArray) (X1 : XS), out = .slice A k c ∧ ix = .int .i64 i ∧ Hid (l.length = k) ∧ i + k ≤ n ∧ Hid (Prog (wordR bs) n X0 i l X1) ∧ Lies N w0 wr (sepT (xrT p A0 c0 bs X1) (sepT (txT.gro 9 (.slice A k c) css l) R))) (fun _ ix _ => (intOf ix).toNat)
  case atStart => exact ⟨n, 0, none, 0, [], [], X0, rfl, rfl, Lib.hid rfl, Nat.le_refl _, Lib.hid (Prog.start _ _ _), HG.out.turn (by ac_rfl)⟩
  case round =>
    clear HG
    obtain ⟨i, k, A, c, css, l, X1, rfl, rfl, HL, hik, HP, hh⟩ := hrel
    have HH := Lib.hid hh
    clear hh
    by_cases h0 : (0 : Int) < (i : Int)
    · have HF := Lib.hid (xfine_any HH.out)
      by_cases hf : XS.fine X1 = true
      · rw [hf] at HF
        clear HH hf
        go_wp2_with fail
        refine HF.out.mono ?_
        rintro e w2 ⟨rfl, h⟩
        have HW := Lib.hid (xword_ref HS.out h)
        clear h HF
        go_wp2_with fail
        refine HW.out.mono ?_
        rintro e w3 ⟨x, X2, rfl, h2, hsz, h⟩
        have H2 := Lib.hid h2
        have HZ := Lib.hid hsz
        have HEl : Hid (Lies N w0 w3 (sepT (txT.gro 9 (.slice A k c) css l) (sepT (txT.el [.string x] x) (sepT (xrT p A0 c0 bs X2) R)))) := Lib.hid ((h.withFact (φ := ([.string x] : List Value) = [.string x] ∧ sz x) ⟨rfl, HZ.out⟩).turn (by show sepT (txT.el [.string x] x) _ = _; ac_rfl))
        have HSX := H2
        clear h HW h2 hsz
        have hrow := txT.gro_row HEl.out
        rw [HL.out] at hrow
        have HR := Lib.hid hrow
        obtain ⟨i0, hi0, hz0, hz1, hz2⟩ := info_parts info_lTx
        clear hrow
        go_wp2_with (at_builtin; refine wpList_append_own_at _ rfl (.tmp 18) (.tmp 21) 24 rfl 0 9 i0 (.string ⟨#[]⟩) 1 16 Tryz.underlying24 hi0 hz0 hz1 hz2 rfl (by decide) (.slice A k c) k _ rfl (HR.out.alloc _) ⟨w3.heap.size, 0, none⟩ 1 1 [.string x] rfl rfl (cells_arr _ #[.string x] _) (by simp [Value.oneCell']) (by simp only [maxLen]; omega) (by omega) (Nat.zero_le _) ?_; intro v' w5 hown' hgrow _ hat; obtain ⟨B', d', rfl, _⟩ := gro_form hown')
        have hga := (txT.gro_app (HEl.out.alloc _) (by rw [HL.out]; exact hown') hgrow hat)
        obtain ⟨i', rfl⟩ : ∃ i', i = i' + 1 := ⟨i - 1, by omega⟩
        have hwi : IntKind.i64.wrap (((i' + 1 : Nat) : Int) - 1) = (i' : Int) := by rw [IntWalk.i64_in _ (by omega)]; omega
        exact ⟨⟨i', k + 1, B', d', css ++ [[.string x]], l ++ [x], X2, rfl, by go_num, Lib.hid (by rw [List.length_append, HL.out]; rfl), by omega, Lib.hid (HP.out.step HSX.out), hga.turn (by ac_rfl)⟩, by simp [intOf]⟩
      · have hff : XS.fine X1 = false := by simpa using hf
        rw [hff] at HF
        have HE : Hid (stepX (timesR (wordR bs) n []) X0 l X1) := Lib.hid (HP.out.done (.inr hff))
        have hl : l.length ≤ 140737488351232 := by rw [HL.out]; omega
        have HLE := Lib.hid hl
        clear hf hff HP HH hl
        go_wp2_with fail
        refine HF.out.mono ?_
        rintro e w2 ⟨rfl, h⟩
        have HZ := Lib.hid (txT.gro_sl HLE.out (h.turn (a' := sepT (txT.gro 9 (.slice A k c) css l) (sepT (xrT p A0 c0 bs X1) R)) (by ac_rfl)))
        clear h HF
        go_wp2_with fail
        go_ret
        refine ⟨A, c, l, X1, by rw [HL.out]; rfl, stepX_bind HSt.out HE.out, ?_⟩
        rw [HL.out]
        exact HZ.out.turn (by ac_rfl)
    · have HE : Hid (stepX (timesR (wordR bs) n []) X0 l X1) := Lib.hid (HP.out.done (.inl (by omega)))
      have hl : l.length ≤ 140737488351232 := by rw [HL.out]; omega
      have HZ := Lib.hid (txT.gro_sl hl (HH.out.turn (a' := sepT (txT.gro 9 (.slice A k c) css l) (sepT (xrT p A0 c0 bs X1) R)) (by ac_rfl)))
      clear HP HH hl
      go_wp2_with fail
      go_ret
      refine ⟨A, c, l, X1, by rw [HL.out]; rfl, stepX_bind HSt.out HE.out, ?_⟩
      rw [HL.out]
      exact HZ.out.turn (by ac_rfl)
set_option maxRecDepth 100000 in
set_option maxHeartbeats 1600000 in
theorem xvl_ref (most : Nat) (hm : most ≤ 100000) (hs : Src0 N w0 A0 c0 bs) (H : Lies N w0 W (sepT (xrT p A0 c0 bs X) R)) : Calls Tryz.prog 112 #[.pointer (some ⟨p, 0, none⟩), .int .i64 most] W (XLst vrT 140 N w0 R p A0 c0 bs (listR bs most (vrR bs)) X) := by
  have HC := Lib.hid (xcount_ref most hs H)
  have HS := Lib.hid hs
  rw [listR_eq]
  clear H hs
  go_enter Tryz.func112, Tryz.ntmps112
  go_wp2_with fail
  refine HC.out.mono ?_
  rintro e w1 ⟨n, X0, rfl, hst, hnm, h⟩
  have HSt := Lib.hid hst
  have HG := Lib.hid (vrT.gro_nil 140 h)
  have hn : n ≤ 100000 := Nat.le_trans hnm hm
  clear h hst HC
  go_wp2_with fail
  go_loopw [5, 6] (fun out ix wr => ∃ (i k : Nat) (A : Option Addr) (c : Nat) (css : List (List Value)) (l : List Vr) (X1 : XS), out = .slice A k c ∧ ix = .int .i64 i ∧ Hid (l.length = k) ∧ i + k ≤ n ∧ Hid (Prog (vrR bs) n X0 i l X1) ∧ Lies N w0 wr (sepT (xrT p A0 c0 bs X1) (sepT (vrT.gro 140 (.slice A k c) css l) R))) (fun _ ix _ => (intOf ix).toNat)
  case atStart => exact ⟨n, 0, none, 0, [], [], X0, rfl, rfl, Lib.hid rfl, Nat.le_refl _, Lib.hid (Prog.start _ _ _), HG.out.turn (by ac_rfl)⟩
  case round =>
    clear HG
    obtain ⟨i, k, A, c, css, l, X1, rfl, rfl, HL, hik, HP, hh⟩ := hrel
    have HH := Lib.hid hh
    clear hh
    by_cases h0 : (0 : Int) < (i : Int)
    · have HF := Lib.hid (xfine_any HH.out)
      by_cases hf : XS.fine X1 = true
      · rw [hf] at HF
        clear HH hf
        go_wp2_with fail
        refine HF.out.mono ?_
        rintro e w2 ⟨rfl, h⟩
        have HW := Lib.hid (xword_ref HS.out h)
        clear h HF
        go_wp2_with fail
        refine HW.out.mono ?_
        rintro e w3 ⟨x, X2, rfl, h2, hsz, h⟩
        have H2 := Lib.hid h2
        have HZ := Lib.hid hsz
        have HW2 := Lib.hid (xword_ref HS.out h)
        clear h HW h2 hsz
        go_wp2_with fail
        refine HW2.out.mono ?_
        rintro e w4 ⟨y, X3, rfl, h3, hsz2, h⟩
        have H3 := Lib.hid h3
        have HEl : Hid (Lies N w0 w4 (sepT (vrT.gro 140 (.slice A k c) css l) (sepT (vrT.el [.string x, .string y] (x, y)) (sepT (xrT p A0 c0 bs X3) R)))) := Lib.hid ((h.withFact (φ := ([.string x, .string y] : List Value) = [.string (x, y).1, .string (x, y).2] ∧ sz (x, y).1 ∧ sz (x, y).2) ⟨rfl, HZ.out, hsz2⟩).turn (by show sepT (vrT.el [.string x, .string y] (x, y)) _ = _; ac_rfl))
        have HSX : Hid (stepX (vrR bs) X1 (x, y) X3) := Lib.hid (stepX_bind H2.out (stepX_bind H3.out (stepX_pure _ _)))
        clear h HW2 h3 hsz2
        have hrow := vrT.gro_row HEl.out
        rw [HL.out] at hrow
        have HR := Lib.hid hrow
        obtain ⟨i0, hi0, hz0, hz1, hz2⟩ := info_parts info_lVr
        clear hrow
        go_wp2_with (at_builtin; refine wpList_append_own_at _ rfl (.tmp 21) (.tmp 26) 63 rfl 0 140 i0 (.agg #[.string ⟨#[]⟩, .string ⟨#[]⟩]) 2 32 Tryz.underlying63 hi0 hz0 hz1 hz2 rfl (by decide) (.slice A k c) k _ rfl (HR.out.alloc _) ⟨w4.heap.size, 0, none⟩ 1 1 [.string x, .string y] rfl rfl (cells_arr _ #[.string x, .string y] _) (by simp [Value.oneCell']) (by simp only [maxLen]; omega) (by omega) (Nat.zero_le _) ?_; intro v' w5 hown' hgrow _ hat; obtain ⟨B', d', rfl, _⟩ := gro_form hown')
        have hga := (vrT.gro_app (HEl.out.alloc _) (by rw [HL.out]; exact hown') hgrow hat)
        obtain ⟨i', rfl⟩ : ∃ i', i = i' + 1 := ⟨i - 1, by omega⟩
        have hwi : IntKind.i64.wrap (((i' + 1 : Nat) : Int) - 1) = (i' : Int) := by rw [IntWalk.i64_in _ (by omega)]; omega
        exact ⟨⟨i', k + 1, B', d', css ++ [[.string x, .string y]], l ++ [(x, y)], X3, rfl, by go_num, Lib.hid (by rw [List.length_append, HL.out]; rfl), by omega, Lib.hid (HP.out.step HSX.out), hga.turn (by ac_rfl)⟩, by simp [intOf]⟩
      · have hff : XS.fine X1 = false := by simpa using hf
        rw [hff] at HF
        have HE : Hid (stepX (timesR (vrR bs) n []) X0 l X1) := Lib.hid (HP.out.done (.inr hff))
        have hl : l.length ≤ 140737488351232 := by rw [HL.out]; omega
        have HLE := Lib.hid hl
        clear hf hff HP HH hl
        go_wp2_with fail
        refine HF.out.mono ?_
        rintro e w2 ⟨rfl, h⟩
        have HZ := Lib.hid (vrT.gro_sl HLE.out (h.turn (a' := sepT (vrT.gro 140 (.slice A k c) css l) (sepT (xrT p A0 c0 bs X1) R)) (by ac_rfl)))
        clear h HF
        go_wp2_with fail
        go_ret
        refine ⟨A, c, l, X1, by rw [HL.out]; rfl, stepX_bind HSt.out HE.out, ?_⟩
        rw [HL.out]
        exact HZ.out.turn (by ac_rfl)
    · have HE : Hid (stepX (timesR (vrR bs) n []) X0 l X1) := Lib.hid (HP.out.done (.inl (by omega)))
      have hl : l.length ≤ 140737488351232 := by rw [HL.out]; omega
      have HZ := Lib.hid (vrT.gro_sl hl (HH.out.turn (a' := sepT (vrT.gro 140 (.slice A k c) css l) (sepT (xrT p A0 c0 bs X1) R)) (by ac_rfl)))
      clear HP HH hl
      go_wp2_with fail
      go_ret
      refine ⟨A, c, l, X1, by rw [HL.out]; rfl, stepX_bind HSt.out HE.out, ?_⟩
      rw [HL.out]
      exact HZ.out.turn (by ac_rfl)
end
end Go.Proofs.YtcapdmicekialaaGreat
/- chaperonref22.reader: class. Printed by gen_xcls.py. -/
namespace Go.Proofs.YtcapdmicekialaaGreat
open Go.RowKit
set_option linter.unusedVariables false
set_option linter.unusedSimpArgs false
attribute [local go_sem] Oper.semAt_some run_store_func run_store_nilFunc
/-- What a method of the document's reader that tells a struct comes to. -/
def XEl {α : Type} {K : Kind α} (T : TK K) (N : Nat) (w0 : World) (R : Thing) (p : Nat) (A0 : Option Addr) (c0 : Nat) (bs : List UInt8) (rd : Rdr α) (X : XS) (e : Ending) (w' : World) : Prop :=
  ∃ (cs : List Value) (x : α) (X' : XS), e = .returned (.agg cs.toArray) ∧ stepX rd X x X' ∧ Lies N w0 w' (sepT (xrT p A0 c0 bs X') (sepT (T.el cs x) R))
section
variable {N : Nat} {w0 W : World} {R M : Thing} {p : Nat} {A0 : Option Addr} {c0 : Nat} {bs : List UInt8} {X : XS}
theorem blk4 {b : Nat} {t : TypeId} {u0 u1 u2 u3 : Value} (H : Lies N w0 W (sepT (blkT b t #[u0, u1, u2, u3]) R)) : W.cell? ⟨b, 0, none⟩ = some u0 ∧ W.cell? ⟨b, 1, none⟩ = some u1 ∧ W.cell? ⟨b, 2, none⟩ = some u2 ∧ W.cell? ⟨b, 3, none⟩ = some u3 ∧ (∀ i, W.frozen? ⟨b, i, none⟩ = false) ∧
    (∀ v, Lies N w0 (W.setCell ⟨b, 1, none⟩ v) (sepT (blkT b t #[u0, v, u2, u3]) R)) ∧ (∀ v, Lies N w0 (W.setCell ⟨b, 2, none⟩ v) (sepT (blkT b t #[u0, u1, v, u3]) R)) ∧ (∀ v, Lies N w0 (W.setCell ⟨b, 3, none⟩ v) (sepT (blkT b t #[u0, u1, u2, v]) R)) := by
  have h := H.blk.1
  exact ⟨h.cell 0, h.cell 1, h.cell 2, h.cell 3, fun i => h.frozen i, fun v => H.setBlk 1 v, fun v => H.setBlk 2 v, fun v => H.setBlk 3 v⟩
theorem blk3 {b : Nat} {t : TypeId} {u0 u1 u2 : Value} (H : Lies N w0 W (sepT (blkT b t #[u0, u1, u2]) R)) : W.cell? ⟨b, 0, none⟩ = some u0 ∧ W.cell? ⟨b, 1, none⟩ = some u1 ∧ W.cell? ⟨b, 2, none⟩ = some u2 ∧ (∀ i, W.frozen? ⟨b, i, none⟩ = false) ∧
    (∀ v, Lies N w0 (W.setCell ⟨b, 1, none⟩ v) (sepT (blkT b t #[u0, v, u2]) R)) ∧ (∀ v, Lies N w0 (W.setCell ⟨b, 2, none⟩ v) (sepT (blkT b t #[u0, u1, v]) R)) := by
  have h := H.blk.1
  exact ⟨h.cell 0, h.cell 1, h.cell 2, fun i => h.frozen i, fun v => H.setBlk 1 v, fun v => H.setBlk 2 v⟩
theorem sg_put {A : Option Addr} {c : Nat} (x : Sg) (h1 : sz x.name) (h2 : sz x.result) (H : Lies N w0 W (sepT (vrT.slT 140 (.slice A x.params.length c) x.params) R)) : Lies N w0 W (sepT (sgT.el [.string x.name, .slice A x.params.length c, .string x.result] x) R) :=
  Lies.intro (.slice A x.params.length c) ((H.withFact (φ := ([.string x.name, .slice A x.params.length c, .string x.result] : List Value) = [.string x.name, .slice A x.params.length c, .string x.result] ∧ sz x.name ∧ sz x.result) ⟨rfl, h1, h2⟩).turn (by ac_rfl))
theorem cl_put {A B : Option Addr} {c d : Nat} (x : Cl) (h1 : sz x.name) (h2 : sz x.super) (H : Lies N w0 W (sepT (vrT.slT 140 (.slice A x.fields.length c) x.fields) (sepT (sgT.slT 120 (.slice B x.methods.length d) x.methods) R))) :
    Lies N w0 W (sepT (clT.el [.string x.name, .string x.super, .slice A x.fields.length c, .slice B x.methods.length d] x) R) :=
  Lies.intro (Value.slice A x.fields.length c, Value.slice B x.methods.length d) ((H.withFact (φ := ([.string x.name, .string x.super, .slice A x.fields.length c, .slice B x.methods.length d] : List Value) = [.string x.name, .string x.super, .slice A x.fields.length c, .slice B x.methods.length d] ∧ sz x.name ∧ sz x.super) ⟨rfl, h1, h2⟩).turn (by ac_rfl))
set_option maxRecDepth 100000 in
set_option maxHeartbeats 3200000 in
theorem xcls_ref (hs : Src0 N w0 A0 c0 bs) (H : Lies N w0 W (sepT (xrT p A0 c0 bs X) R)) : Calls Tryz.prog 62 #[.pointer (some ⟨p, 0, none⟩)] W (XEl clT N w0 R p A0 c0 bs (clR bs) X) := by
  have HW := Lib.hid (xword_ref hs ((H.newBlk 66 #[.string ⟨#[]⟩, .string ⟨#[]⟩, .slice none 0 0, .slice none 0 0]).turn (a' := (sepT (xrT p A0 c0 bs X) (sepT (blkT W.heap.size 66 #[.string ⟨#[]⟩, .string ⟨#[]⟩, .slice none 0 0, .slice none 0 0]) R))) (by ac_rfl)))
  have HS := Lib.hid hs
  clear H hs
  go_enter Tryz.func62, Tryz.ntmps62
  go_wp2_with fail
  refine HW.out.mono ?_
  rintro e w1 ⟨a, X1, rfl, h1, hz1, h⟩
  have S1 := Lib.hid h1
  have Z1 := Lib.hid hz1
  have HW2 := Lib.hid (xword_ref HS.out ((h.newBlk 66 #[.string a, .string ⟨#[]⟩, .slice none 0 0, .slice none 0 0]).turn (a' := (sepT (xrT p A0 c0 bs X1) (sepT (blkT w1.heap.size 66 #[.string a, .string ⟨#[]⟩, .slice none 0 0, .slice none 0 0]) (sepT (blkT W.heap.size 66 #[.string ⟨#[]⟩, .string ⟨#[]⟩, .slice none 0 0, .slice none 0 0]) R)))) (by ac_rfl)))
  clear h HW h1 hz1
  go_wp2_with fail
  refine HW2.out.mono ?_
  rintro e w2 ⟨b, X2, rfl, h2, hz2, h⟩
  have S2 := Lib.hid h2
  have Z2 := Lib.hid hz2
  obtain ⟨d0, d1, d2, d3, fz, g1, _, _⟩ := blk4 (h.turn (a' := (sepT (blkT w1.heap.size 66 #[.string a, .string ⟨#[]⟩, .slice none 0 0, .slice none 0 0]) (sepT (xrT p A0 c0 bs X2) (sepT (blkT W.heap.size 66 #[.string ⟨#[]⟩, .string ⟨#[]⟩, .slice none 0 0, .slice none 0 0]) R)))) (by ac_rfl))
  have fz1 := fz 1
  have HV := Lib.hid (xvl_ref 20 (by decide) HS.out ((g1 (.string b)).turn (a' := (sepT (xrT p A0 c0 bs X2) (sepT (blkT w1.heap.size 66 #[.string a, .string b, .slice none 0 0, .slice none 0 0]) (sepT (blkT W.heap.size 66 #[.string ⟨#[]⟩, .string ⟨#[]⟩, .slice none 0 0, .slice none 0 0]) R)))) (by ac_rfl)))
  clear h HW2 h2 hz2 g1 fz
  go_wp2_with fail
  refine HV.out.mono ?_
  rintro e w3 ⟨A1, c1, f, X3, rfl, h3, h⟩
  have S3 := Lib.hid h3
  obtain ⟨d0, d1, d2, d3, fz, _, g2, _⟩ := blk4 (h.turn (a' := (sepT (blkT w1.heap.size 66 #[.string a, .string b, .slice none 0 0, .slice none 0 0]) (sepT (xrT p A0 c0 bs X3) (sepT (vrT.slT 140 (.slice A1 f.length c1) f) (sepT (blkT W.heap.size 66 #[.string ⟨#[]⟩, .string ⟨#[]⟩, .slice none 0 0, .slice none 0 0]) R))))) (by ac_rfl))
  have fz2 := fz 2
  obtain ⟨nf, hnf⟩ : ∃ n, n = f.length := ⟨_, rfl⟩
  have HNf := Lib.hid hnf
  have HC := Lib.hid (xcount_ref 20 HS.out ((g2 (.slice A1 f.length c1)).turn (a' := (sepT (xrT p A0 c0 bs X3) (sepT (blkT w1.heap.size 66 #[.string a, .string b, .slice A1 f.length c1, .slice none 0 0]) (sepT (vrT.slT 140 (.slice A1 f.length c1) f) (sepT (blkT W.heap.size 66 #[.string ⟨#[]⟩, .string ⟨#[]⟩, .slice none 0 0, .slice none 0 0]) R))))) (by ac_rfl)))
  rw [← hnf] at HC
  clear h HV h3 g2 fz
  rw [← hnf]
  clear hnf
  go_wp2_with fail
  refine HC.out.mono ?_
  rintro e w4 ⟨n, X4, rfl, h4, hn, h⟩
  have S4 := Lib.hid h4
  have HG := Lib.hid ((sgT.gro_nil 120 h).turn (a' := (sepT (xrT p A0 c0 bs X4) (sepT (sgT.gro 120 (.slice none 0 0) [] []) (sepT (blkT w1.heap.size 66 #[.string a, .string b, .slice A1 nf c1, .slice none 0 0]) (sepT (vrT.slT 140 (.slice A1 nf c1) f) (sepT (blkT W.heap.size 66 #[.string ⟨#[]⟩, .string ⟨#[]⟩, .slice none 0 0, .slice none 0 0]) R)))))) (by ac_rfl))
  clear h HC h4 d0 d1 d2 d3
  go_wp2_with fail
  go_loopw [4] (fun ix wr => ∃ (i k : Nat) (A : Option Addr) (c : Nat) (css : List (List Value)) (l : List Sg) (X1 : XS), ix = .int .i64 i ∧ Hid (l.length = k) ∧ i + k ≤ n ∧ Hid (Prog (sgR bs) n X4 i l X1) ∧ Lies N w0 wr (sepT (xrT p A0 c0 bs X1) (sepT (sgT.gro 120 (.slice A k c) css l) (sepT (blkT w1.heap.size 66 #[.string a, .string b, .slice A1 nf c1, .slice A k c]) (sepT (vrT.slT 140 (.slice A1 nf c1) f) (sepT (blkT W.heap.size 66 #[.string ⟨#[]⟩, .string ⟨#[]⟩, .slice none 0 0, .slice none 0 0]) R)))))) (fun ix _ => (intOf ix).toNat)
  case atStart => exact ⟨n, 0, none, 0, [], [], X4, rfl, Lib.hid rfl, Nat.le_refl _, Lib.hid (Prog.start _ _ _), HG.out⟩
  case round =>
    clear HG
    obtain ⟨i, k, A, c, css, l, X5, rfl, HL, hik, HP, hh⟩ := hrel
    have HH := Lib.hid hh
    clear hh
    by_cases h0 : (0 : Int) < (i : Int)
    · have HF := Lib.hid (xfine_any HH.out)
      by_cases hf : XS.fine X5 = true
      · rw [hf] at HF
        clear HH hf
        go_wp2_with fail
        refine HF.out.mono ?_
        rintro e w5 ⟨rfl, h⟩
        have HW := Lib.hid (xword_ref HS.out h)
        clear h HF
        go_wp2_with fail
        refine HW.out.mono ?_
        rintro e w6 ⟨x, X6, rfl, h6, hz6, h⟩
        have S6 := Lib.hid h6
        have Z6 := Lib.hid hz6
        have HV := Lib.hid (xvl_ref 8 (by decide) HS.out ((h.newBlk 120 #[.string x, .slice none 0 0, .string ⟨#[]⟩]).turn (a' := (sepT (xrT p A0 c0 bs X6) (sepT (blkT w6.heap.size 120 #[.string x, .slice none 0 0, .string ⟨#[]⟩]) (sepT (sgT.gro 120 (.slice A k c) css l) (sepT (blkT w1.heap.size 66 #[.string a, .string b, .slice A1 nf c1, .slice A k c]) (sepT (vrT.slT 140 (.slice A1 nf c1) f) (sepT (blkT W.heap.size 66 #[.string ⟨#[]⟩, .string ⟨#[]⟩, .slice none 0 0, .slice none 0 0]) R))))))) (by ac_rfl)))
        clear h HW h6 hz6
        go_wp2_with fail
        refine HV.out.mono ?_
        rintro e w7 ⟨A2, c2, ps, X7, rfl, h7, h⟩
        have S7 := Lib.hid h7
        obtain ⟨e0, e1, e2, fz, g1, _⟩ := blk3 (h.turn (a' := (sepT (blkT w6.heap.size 120 #[.string x, .slice none 0 0, .string ⟨#[]⟩]) (sepT (xrT p A0 c0 bs X7) (sepT (vrT.slT 140 (.slice A2 ps.length c2) ps) (sepT (sgT.gro 120 (.slice A k c) css l) (sepT (blkT w1.heap.size 66 #[.string a, .string b, .slice A1 nf c1, .slice A k c]) (sepT (vrT.slT 140 (.slice A1 nf c1) f) (sepT (blkT W.heap.size 66 #[.string ⟨#[]⟩, .string ⟨#[]⟩, .slice none 0 0, .slice none 0 0]) R)))))))) (by ac_rfl))
        have fz1 := fz 1
        have HW := Lib.hid (xword_ref HS.out ((g1 (.slice A2 ps.length c2)).turn (a' := (sepT (xrT p A0 c0 bs X7) (sepT (blkT w6.heap.size 120 #[.string x, .slice A2 ps.length c2, .string ⟨#[]⟩]) (sepT (vrT.slT 140 (.slice A2 ps.length c2) ps) (sepT (sgT.gro 120 (.slice A k c) css l) (sepT (blkT w1.heap.size 66 #[.string a, .string b, .slice A1 nf c1, .slice A k c]) (sepT (vrT.slT 140 (.slice A1 nf c1) f) (sepT (blkT W.heap.size 66 #[.string ⟨#[]⟩, .string ⟨#[]⟩, .slice none 0 0, .slice none 0 0]) R)))))))) (by ac_rfl)))
        obtain ⟨np, hnp⟩ : ∃ n, n = ps.length := ⟨_, rfl⟩
        have HNp := Lib.hid hnp
        rw [← hnp] at HW ⊢
        clear h HV h7 g1 fz hnp
        go_wp2_with fail
        refine HW.out.mono ?_
        rintro e w8 ⟨y, X8, rfl, h8, hz8, h⟩
        have S8 := Lib.hid h8
        have Z8 := Lib.hid hz8
        obtain ⟨e0, e1, e2, fz, _, g2⟩ := blk3 (h.turn (a' := (sepT (blkT w6.heap.size 120 #[.string x, .slice A2 np c2, .string ⟨#[]⟩]) (sepT (xrT p A0 c0 bs X8) (sepT (vrT.slT 140 (.slice A2 np c2) ps) (sepT (sgT.gro 120 (.slice A k c) css l) (sepT (blkT w1.heap.size 66 #[.string a, .string b, .slice A1 nf c1, .slice A k c]) (sepT (vrT.slT 140 (.slice A1 nf c1) f) (sepT (blkT W.heap.size 66 #[.string ⟨#[]⟩, .string ⟨#[]⟩, .slice none 0 0, .slice none 0 0]) R)))))))) (by ac_rfl))
        have fz2 := fz 2
        have hU := (g2 (.string y)).turn (a' := (sepT (blkT w1.heap.size 66 #[.string a, .string b, .slice A1 nf c1, .slice A k c]) (sepT (blkT w6.heap.size 120 #[.string x, .slice A2 np c2, .string y]) (sepT (xrT p A0 c0 bs X8) (sepT (vrT.slT 140 (.slice A2 np c2) ps) (sepT (sgT.gro 120 (.slice A k c) css l) (sepT (vrT.slT 140 (.slice A1 nf c1) f) (sepT (blkT W.heap.size 66 #[.string ⟨#[]⟩, .string ⟨#[]⟩, .slice none 0 0, .slice none 0 0]) R)))))))) (by ac_rfl)
        obtain ⟨_, _, _, u3, _, _, _, _⟩ := blk4 hU
        have hE := sg_put (A := A2) (c := c2) ⟨x, ps, y⟩ Z6.out Z8.out ((hU.turn (a' := (sepT (blkT w6.heap.size 120 #[.string x, .slice A2 np c2, .string y]) (sepT (vrT.slT 140 (.slice A2 np c2) ps) (sepT (sgT.gro 120 (.slice A k c) css l) (sepT (blkT w1.heap.size 66 #[.string a, .string b, .slice A1 nf c1, .slice A k c]) (sepT (xrT p A0 c0 bs X8) (sepT (vrT.slT 140 (.slice A1 nf c1) f) (sepT (blkT W.heap.size 66 #[.string ⟨#[]⟩, .string ⟨#[]⟩, .slice none 0 0, .slice none 0 0]) R)))))))) (by ac_rfl)).drop.turn (a' := (sepT (vrT.slT 140 (.slice A2 ps.length c2) ps) (sepT (sgT.gro 120 (.slice A k c) css l) (sepT (blkT w1.heap.size 66 #[.string a, .string b, .slice A1 nf c1, .slice A k c]) (sepT (xrT p A0 c0 bs X8) (sepT (vrT.slT 140 (.slice A1 nf c1) f) (sepT (blkT W.heap.size 66 #[.string ⟨#[]⟩, .string ⟨#[]⟩, .slice none 0 0, .slice none 0 0]) R))))))) (by rw [HNp.out]))
        have HE := Lib.hid (hE.turn (a' := (sepT (sgT.gro 120 (.slice A k c) css l) (sepT (sgT.el [.string x, .slice A2 ps.length c2, .string y] ⟨x, ps, y⟩) (sepT (blkT w1.heap.size 66 #[.string a, .string b, .slice A1 nf c1, .slice A k c]) (sepT (xrT p A0 c0 bs X8) (sepT (vrT.slT 140 (.slice A1 nf c1) f) (sepT (blkT W.heap.size 66 #[.string ⟨#[]⟩, .string ⟨#[]⟩, .slice none 0 0, .slice none 0 0]) R))))))) (by ac_rfl))
        have hrow := sgT.gro_row (HE.out.alloc (.cells #[.string x, .slice A2 np c2, .string y] 120))
        rw [HL.out] at hrow
        have HRow := Lib.hid hrow
        have hca := cells_arr (w8.setCell ⟨w6.heap.size, 2, none⟩ (.string y)) #[.string x, .slice A2 np c2, .string y] 120
        rw [show (w8.setCell ⟨w6.heap.size, 2, none⟩ (.string y)).heap.size = w8.heap.size by simp] at hca
        have HCA := Lib.hid hca
        obtain ⟨j0, hj0, hw0, hw1, hw2⟩ := info_parts info_lSg
        clear h HW h8 hz8 g2 fz hU hE hrow hca
        go_wp2_with (at_builtin; refine wpList_append_own_at _ rfl (.tmp 35) (.tmp 37) 64 rfl 0 120 j0 (.agg #[.string ⟨#[]⟩, .slice none 0 0, .string ⟨#[]⟩]) 3 56 Tryz.underlying64 hj0 hw0 hw1 hw2 rfl (by decide) (.slice A k c) k _ rfl HRow.out ⟨w8.heap.size, 0, none⟩ 1 1 [.string x, .slice A2 np c2, .string y] rfl rfl HCA.out (by simp [Value.oneCell']) (by simp only [maxLen]; omega) (by omega) (Nat.zero_le _) ?_; go_must (intro v' w9 hown' hgrow' _ hat'; obtain ⟨B', d', rfl, _⟩ := gro_form hown'; have hga := sgT.gro_app (HE.out.alloc (.cells #[.string x, .slice A2 np c2, .string y] 120)) (by rw [HL.out, ← HNp.out]; exact hown') hgrow' hat'; obtain ⟨q0, q1, q2, q3, qz, _, _, qg⟩ := blk4 (hga.turn (a' := (sepT (blkT w1.heap.size 66 #[.string a, .string b, .slice A1 nf c1, .slice A k c]) (sepT (sgT.gro 120 (.slice B' (k + 1) d') (css ++ [[.string x, .slice A2 ps.length c2, .string y]]) (l ++ [⟨x, ps, y⟩])) (sepT (xrT p A0 c0 bs X8) (sepT (vrT.slT 140 (.slice A1 nf c1) f) (sepT (blkT W.heap.size 66 #[.string ⟨#[]⟩, .string ⟨#[]⟩, .slice none 0 0, .slice none 0 0]) R)))))) (by ac_rfl)); have qz3 := qz 3; have HZ := Lib.hid (qg (.slice B' (k + 1) d')); clear qg hga qz))
        obtain ⟨i', rfl⟩ : ∃ i', i = i' + 1 := ⟨i - 1, by omega⟩
        have hSX : stepX (sgR bs) X5 ⟨x, ps, y⟩ X8 := stepX_bind S6.out (stepX_bind S7.out (stepX_bind S8.out (stepX_pure _ _)))
        exact ⟨⟨i', k + 1, B', d', css ++ [[.string x, .slice A2 ps.length c2, .string y]], l ++ [⟨x, ps, y⟩], X8, by go_num, Lib.hid (by rw [List.length_append, HL.out]; rfl), by omega, Lib.hid (HP.out.step hSX), HZ.out.turn (by ac_rfl)⟩, by simp [intOf]⟩
      · have hff : XS.fine X5 = false := by simpa using hf
        rw [hff] at HF
        have HSt : Hid (stepX (timesR (sgR bs) n []) X4 l X5) := Lib.hid (HP.out.done (.inr hff))
        have hl : l.length ≤ 140737488351232 := by rw [HL.out]; omega
        have HLe := Lib.hid hl
        clear hf hff HP HH hl
        go_wp2_with fail
        refine HF.out.mono ?_
        rintro e w5 ⟨rfl, h⟩
        obtain ⟨d0, d1, d2, d3, _, _, _, _⟩ := blk4 (h.turn (a' := (sepT (blkT w1.heap.size 66 #[.string a, .string b, .slice A1 nf c1, .slice A k c]) (sepT (xrT p A0 c0 bs X5) (sepT (sgT.gro 120 (.slice A k c) css l) (sepT (vrT.slT 140 (.slice A1 nf c1) f) (sepT (blkT W.heap.size 66 #[.string ⟨#[]⟩, .string ⟨#[]⟩, .slice none 0 0, .slice none 0 0]) R)))))) (by ac_rfl))
        have hb := h.turn (a' := (sepT (blkT W.heap.size 66 #[.string ⟨#[]⟩, .string ⟨#[]⟩, .slice none 0 0, .slice none 0 0]) (sepT (blkT w1.heap.size 66 #[.string a, .string b, .slice A1 nf c1, .slice A k c]) (sepT (xrT p A0 c0 bs X5) (sepT (sgT.gro 120 (.slice A k c) css l) (sepT (vrT.slT 140 (.slice A1 nf c1) f) R)))))) (by ac_rfl)
        obtain ⟨b0, b1, b2, b3, bz, _, _, _⟩ := blk4 hb
        have bz0 := bz 0
        have bz1 := bz 1
        have bz2 := bz 2
        have bz3 := bz 3
        have hz := (((hb.setBlk 0 (.string a)).setBlk 1 (.string b)).setBlk 2 (.slice A1 nf c1)).setBlk 3 (.slice A k c)
        have HZ := Lib.hid hz
        clear h hb hz bz
        clear HF
        go_wp2_with fail
        have hz := HZ.out
        refine bodyPost_ret (results_cell_row rfl _ _ W.heap.size 66 #[.string a, .string b, .slice A1 nf c1, .slice A k c] (0, 0) _ rfl hz.blk.1 Tryz.underlying66 rfl (by kernel_rfl)) rfl ?_
        have hy := hz.drop.drop.turn (a' := (sepT (sgT.gro 120 (.slice A k c) css l) (sepT (xrT p A0 c0 bs X5) (sepT (vrT.slT 140 (.slice A1 nf c1) f) R)))) (by ac_rfl)
        have hx := (sgT.gro_sl HLe.out hy).turn (a' := (sepT (vrT.slT 140 (.slice A1 f.length c1) f) (sepT (sgT.slT 120 (.slice A l.length c) l) (sepT (xrT p A0 c0 bs X5) R)))) (by rw [HNf.out, HL.out]; ac_rfl)
        have hc := cl_put ⟨a, b, f, l⟩ Z1.out Z2.out hx
        refine ⟨[.string a, .string b, .slice A1 f.length c1, .slice A l.length c], ⟨a, b, f, l⟩, X5, by rw [HL.out, ← HNf.out], stepX_bind S1.out (stepX_bind S2.out (stepX_bind S3.out ?_)), hc.turn (by ac_rfl)⟩
        rw [listR_eq]
        exact stepX_bind (stepX_bind S4.out HSt.out) (stepX_pure _ _)
    · skip
      have HSt : Hid (stepX (timesR (sgR bs) n []) X4 l X5) := Lib.hid (HP.out.done (.inl (by omega)))
      have hl : l.length ≤ 140737488351232 := by rw [HL.out]; omega
      have HLe := Lib.hid hl
      have h := HH.out
      obtain ⟨d0, d1, d2, d3, _, _, _, _⟩ := blk4 (h.turn (a' := (sepT (blkT w1.heap.size 66 #[.string a, .string b, .slice A1 nf c1, .slice A k c]) (sepT (xrT p A0 c0 bs X5) (sepT (sgT.gro 120 (.slice A k c) css l) (sepT (vrT.slT 140 (.slice A1 nf c1) f) (sepT (blkT W.heap.size 66 #[.string ⟨#[]⟩, .string ⟨#[]⟩, .slice none 0 0, .slice none 0 0]) R)))))) (by ac_rfl))
      have hb := h.turn (a' := (sepT (blkT W.heap.size 66 #[.string ⟨#[]⟩, .string ⟨#[]⟩, .slice none 0 0, .slice none 0 0]) (sepT (blkT w1.heap.size 66 #[.string a, .string b, .slice A1 nf c1, .slice A k c]) (sepT (xrT p A0 c0 bs X5) (sepT (sgT.gro 120 (.slice A k c) css l) (sepT (vrT.slT 140 (.slice A1 nf c1) f) R)))))) (by ac_rfl)
      obtain ⟨b0, b1, b2, b3, bz, _, _, _⟩ := blk4 hb
      have bz0 := bz 0
      have bz1 := bz 1
      have bz2 := bz 2
      have bz3 := bz 3
      have hz := (((hb.setBlk 0 (.string a)).setBlk 1 (.string b)).setBlk 2 (.slice A1 nf c1)).setBlk 3 (.slice A k c)
      have HZ := Lib.hid hz
      clear h hb hz bz
      clear HH HP hl
      go_wp2_with fail
      have hz := HZ.out
      refine bodyPost_ret (results_cell_row rfl _ _ W.heap.size 66 #[.string a, .string b, .slice A1 nf c1, .slice A k c] (0, 0) _ rfl hz.blk.1 Tryz.underlying66 rfl (by kernel_rfl)) rfl ?_
      have hy := hz.drop.drop.turn (a' := (sepT (sgT.gro 120 (.slice A k c) css l) (sepT (xrT p A0 c0 bs X5) (sepT (vrT.slT 140 (.slice A1 nf c1) f) R)))) (by ac_rfl)
      have hx := (sgT.gro_sl HLe.out hy).turn (a' := (sepT (vrT.slT 140 (.slice A1 f.length c1) f) (sepT (sgT.slT 120 (.slice A l.length c) l) (sepT (xrT p A0 c0 bs X5) R)))) (by rw [HNf.out, HL.out]; ac_rfl)
      have hc := cl_put ⟨a, b, f, l⟩ Z1.out Z2.out hx
      refine ⟨[.string a, .string b, .slice A1 f.length c1, .slice A l.length c], ⟨a, b, f, l⟩, X5, by rw [HL.out, ← HNf.out], stepX_bind S1.out (stepX_bind S2.out (stepX_bind S3.out ?_)), hc.turn (by ac_rfl)⟩
      rw [listR_eq]
      exact stepX_bind (stepX_bind S4.out HSt.out) (stepX_pure _ _)
end
end Go.Proofs.YtcapdmicekialaaGreat
/- chaperonref22.reader: function. Printed by gen_xfun.py. -/
namespace Go.Proofs.YtcapdmicekialaaGreat
open Go.RowKit
set_option linter.unusedVariables false
set_option linter.unusedSimpArgs false
attribute [local go_sem] Oper.semAt_some run_store_func run_store_nilFunc
section
variable {N : Nat} {w0 W : World} {R M : Thing} {p : Nat} {A0 : Option Addr} {c0 : Nat} {bs : List UInt8} {X : XS}
theorem in_put (x : In) (h0 : iz x.op) (h1 : iz x.a) (h2 : iz x.b) (h3 : iz x.c) (H : Lies N w0 W R) : Lies N w0 W (sepT (inT.el [.int .i64 x.op, .int .i64 x.a, .int .i64 x.b, .int .i64 x.c] x) R) :=
  H.withFact (φ := ([.int .i64 x.op, .int .i64 x.a, .int .i64 x.b, .int .i64 x.c] : List Value) = [.int .i64 x.op, .int .i64 x.a, .int .i64 x.b, .int .i64 x.c] ∧ iz x.op ∧ iz x.a ∧ iz x.b ∧ iz x.c) ⟨rfl, h0, h1, h2, h3⟩
theorem fu_put {A B : Option Addr} {c d : Nat} (x : Fu) (h1 : sz x.cls) (h2 : sz x.name) (H : Lies N w0 W (sepT (txT.slT 9 (.slice A x.locals.length c) x.locals) (sepT (inT.slT 117 (.slice B x.code.length d) x.code) R))) :
    Lies N w0 W (sepT (fuT.el [.string x.cls, .string x.name, .slice A x.locals.length c, .slice B x.code.length d] x) R) :=
  Lies.intro (Value.slice A x.locals.length c, Value.slice B x.code.length d) ((H.withFact (φ := ([.string x.cls, .string x.name, .slice A x.locals.length c, .slice B x.code.length d] : List Value) = [.string x.cls, .string x.name, .slice A x.locals.length c, .slice B x.code.length d] ∧ sz x.cls ∧ sz x.name) ⟨rfl, h1, h2⟩).turn (by ac_rfl))
set_option maxRecDepth 100000 in
set_option maxHeartbeats 3200000 in
theorem xfun_ref (hs : Src0 N w0 A0 c0 bs) (H : Lies N w0 W (sepT (xrT p A0 c0 bs X) R)) : Calls Tryz.prog 66 #[.pointer (some ⟨p, 0, none⟩)] W (XEl fuT N w0 R p A0 c0 bs (fuR bs) X) := by
  have HW := Lib.hid (xword_ref hs ((H.newBlk 48 #[.string ⟨#[]⟩, .string ⟨#[]⟩, .slice none 0 0, .slice none 0 0]).turn (a' := (sepT (xrT p A0 c0 bs X) (sepT (blkT W.heap.size 48 #[.string ⟨#[]⟩, .string ⟨#[]⟩, .slice none 0 0, .slice none 0 0]) R))) (by ac_rfl)))
  have HS := Lib.hid hs
  clear H hs
  go_enter Tryz.func66, Tryz.ntmps66
  go_wp2_with fail
  refine HW.out.mono ?_
  rintro e w1 ⟨a, X1, rfl, h1, hz1, h⟩
  have S1 := Lib.hid h1
  have Z1 := Lib.hid hz1
  have HW2 := Lib.hid (xword_ref HS.out ((h.newBlk 48 #[.string a, .string ⟨#[]⟩, .slice none 0 0, .slice none 0 0]).turn (a' := (sepT (xrT p A0 c0 bs X1) (sepT (blkT w1.heap.size 48 #[.string a, .string ⟨#[]⟩, .slice none 0 0, .slice none 0 0]) (sepT (blkT W.heap.size 48 #[.string ⟨#[]⟩, .string ⟨#[]⟩, .slice none 0 0, .slice none 0 0]) R)))) (by ac_rfl)))
  clear h HW h1 hz1
  go_wp2_with fail
  refine HW2.out.mono ?_
  rintro e w2 ⟨b, X2, rfl, h2, hz2, h⟩
  have S2 := Lib.hid h2
  have Z2 := Lib.hid hz2
  obtain ⟨d0, d1, d2, d3, fz, g1, _, _⟩ := blk4 (h.turn (a' := (sepT (blkT w1.heap.size 48 #[.string a, .string ⟨#[]⟩, .slice none 0 0, .slice none 0 0]) (sepT (xrT p A0 c0 bs X2) (sepT (blkT W.heap.size 48 #[.string ⟨#[]⟩, .string ⟨#[]⟩, .slice none 0 0, .slice none 0 0]) R)))) (by ac_rfl))
  have fz1 := fz 1
  have HV := Lib.hid (xwl_ref 200 (by decide) HS.out ((g1 (.string b)).turn (a' := (sepT (xrT p A0 c0 bs X2) (sepT (blkT w1.heap.size 48 #[.string a, .string b, .slice none 0 0, .slice none 0 0]) (sepT (blkT W.heap.size 48 #[.string ⟨#[]⟩, .string ⟨#[]⟩, .slice none 0 0, .slice none 0 0]) R)))) (by ac_rfl)))
  clear h HW2 h2 hz2 g1 fz
  go_wp2_with fail
  refine HV.out.mono ?_
  rintro e w3 ⟨A1, c1, f, X3, rfl, h3, h⟩
  have S3 := Lib.hid h3
  obtain ⟨d0, d1, d2, d3, fz, _, g2, _⟩ := blk4 (h.turn (a' := (sepT (blkT w1.heap.size 48 #[.string a, .string b, .slice none 0 0, .slice none 0 0]) (sepT (xrT p A0 c0 bs X3) (sepT (txT.slT 9 (.slice A1 f.length c1) f) (sepT (blkT W.heap.size 48 #[.string ⟨#[]⟩, .string ⟨#[]⟩, .slice none 0 0, .slice none 0 0]) R))))) (by ac_rfl))
  have fz2 := fz 2
  obtain ⟨nf, hnf⟩ : ∃ n, n = f.length := ⟨_, rfl⟩
  have HNf := Lib.hid hnf
  have HC := Lib.hid (xcount_ref 20000 HS.out ((g2 (.slice A1 f.length c1)).turn (a' := (sepT (xrT p A0 c0 bs X3) (sepT (blkT w1.heap.size 48 #[.string a, .string b, .slice A1 f.length c1, .slice none 0 0]) (sepT (txT.slT 9 (.slice A1 f.length c1) f) (sepT (blkT W.heap.size 48 #[.string ⟨#[]⟩, .string ⟨#[]⟩, .slice none 0 0, .slice none 0 0]) R))))) (by ac_rfl)))
  rw [← hnf] at HC
  clear h HV h3 g2 fz
  rw [← hnf]
  clear hnf
  go_wp2_with fail
  refine HC.out.mono ?_
  rintro e w4 ⟨n, X4, rfl, h4, hn, h⟩
  have S4 := Lib.hid h4
  have HG := Lib.hid ((inT.gro_nil 117 h).turn (a' := (sepT (xrT p A0 c0 bs X4) (sepT (inT.gro 117 (.slice none 0 0) [] []) (sepT (blkT w1.heap.size 48 #[.string a, .string b, .slice A1 nf c1, .slice none 0 0]) (sepT (txT.slT 9 (.slice A1 nf c1) f) (sepT (blkT W.heap.size 48 #[.string ⟨#[]⟩, .string ⟨#[]⟩, .slice none 0 0, .slice none 0 0]) R)))))) (by ac_rfl))
  clear h HC h4 d0 d1 d2 d3
  go_wp2_with fail
  go_loopw [4] (fun ix wr => ∃ (i k : Nat) (A : Option Addr) (c : Nat) (css : List (List Value)) (l : List In) (X1 : XS), ix = .int .i64 i ∧ Hid (l.length = k) ∧ i + k ≤ n ∧ Hid (Prog (inR bs) n X4 i l X1) ∧ Lies N w0 wr (sepT (xrT p A0 c0 bs X1) (sepT (inT.gro 117 (.slice A k c) css l) (sepT (blkT w1.heap.size 48 #[.string a, .string b, .slice A1 nf c1, .slice A k c]) (sepT (txT.slT 9 (.slice A1 nf c1) f) (sepT (blkT W.heap.size 48 #[.string ⟨#[]⟩, .string ⟨#[]⟩, .slice none 0 0, .slice none 0 0]) R)))))) (fun ix _ => (intOf ix).toNat)
  case atStart => exact ⟨n, 0, none, 0, [], [], X4, rfl, Lib.hid rfl, Nat.le_refl _, Lib.hid (Prog.start _ _ _), HG.out⟩
  case round =>
    clear HG
    obtain ⟨i, k, A, c, css, l, X5, rfl, HL, hik, HP, hh⟩ := hrel
    have HH := Lib.hid hh
    clear hh
    by_cases h0 : (0 : Int) < (i : Int)
    · have HF := Lib.hid (xfine_any HH.out)
      by_cases hf : XS.fine X5 = true
      · rw [hf] at HF
        clear HH hf
        go_wp2_with fail
        refine HF.out.mono ?_
        rintro e w5 ⟨rfl, h⟩
        have HW := Lib.hid (xnumber_ref HS.out h)
        clear h HF
        go_wp2_with fail
        refine HW.out.mono ?_
        rintro e w6 ⟨m, at_, X6, rfl, h6, _, hm6, h⟩
        have S6 := Lib.hid h6
        have HV := Lib.hid (xoper_ref HS.out ((h.newBlk 117 #[.int .i64 m, .int .i64 0, .int .i64 0, .int .i64 0]).turn (a' := (sepT (xrT p A0 c0 bs X6) (sepT (blkT w6.heap.size 117 #[.int .i64 m, .int .i64 0, .int .i64 0, .int .i64 0]) (sepT (inT.gro 117 (.slice A k c) css l) (sepT (blkT w1.heap.size 48 #[.string a, .string b, .slice A1 nf c1, .slice A k c]) (sepT (txT.slT 9 (.slice A1 nf c1) f) (sepT (blkT W.heap.size 48 #[.string ⟨#[]⟩, .string ⟨#[]⟩, .slice none 0 0, .slice none 0 0]) R))))))) (by ac_rfl)))
        clear h HW h6
        go_wp2_with fail
        refine HV.out.mono ?_
        rintro e w7 ⟨oa, X7, rfl, h7, za, h⟩
        have S7 := Lib.hid h7
        have ZA := Lib.hid za
        obtain ⟨e0, e1, e2, e3, fz, g1, _, _⟩ := blk4 (h.turn (a' := (sepT (blkT w6.heap.size 117 #[.int .i64 m, .int .i64 0, .int .i64 0, .int .i64 0]) (sepT (xrT p A0 c0 bs X7) (sepT (inT.gro 117 (.slice A k c) css l) (sepT (blkT w1.heap.size 48 #[.string a, .string b, .slice A1 nf c1, .slice A k c]) (sepT (txT.slT 9 (.slice A1 nf c1) f) (sepT (blkT W.heap.size 48 #[.string ⟨#[]⟩, .string ⟨#[]⟩, .slice none 0 0, .slice none 0 0]) R))))))) (by ac_rfl))
        have fz1 := fz 1
        have HW := Lib.hid (xoper_ref HS.out ((g1 (.int .i64 oa)).turn (a' := (sepT (xrT p A0 c0 bs X7) (sepT (blkT w6.heap.size 117 #[.int .i64 m, .int .i64 oa, .int .i64 0, .int .i64 0]) (sepT (inT.gro 117 (.slice A k c) css l) (sepT (blkT w1.heap.size 48 #[.string a, .string b, .slice A1 nf c1, .slice A k c]) (sepT (txT.slT 9 (.slice A1 nf c1) f) (sepT (blkT W.heap.size 48 #[.string ⟨#[]⟩, .string ⟨#[]⟩, .slice none 0 0, .slice none 0 0]) R))))))) (by ac_rfl)))
        clear h HV h7 g1 fz za
        go_wp2_with fail
        refine HW.out.mono ?_
        rintro e w8 ⟨ob, X8, rfl, h8, zb, h⟩
        have S8 := Lib.hid h8
        have ZB := Lib.hid zb
        obtain ⟨e0, e1, e2, e3, fz, _, g2, _⟩ := blk4 (h.turn (a' := (sepT (blkT w6.heap.size 117 #[.int .i64 m, .int .i64 oa, .int .i64 0, .int .i64 0]) (sepT (xrT p A0 c0 bs X8) (sepT (inT.gro 117 (.slice A k c) css l) (sepT (blkT w1.heap.size 48 #[.string a, .string b, .slice A1 nf c1, .slice A k c]) (sepT (txT.slT 9 (.slice A1 nf c1) f) (sepT (blkT W.heap.size 48 #[.string ⟨#[]⟩, .string ⟨#[]⟩, .slice none 0 0, .slice none 0 0]) R))))))) (by ac_rfl))
        have fz2 := fz 2
        have HV := Lib.hid (xoper_ref HS.out ((g2 (.int .i64 ob)).turn (a' := (sepT (xrT p A0 c0 bs X8) (sepT (blkT w6.heap.size 117 #[.int .i64 m, .int .i64 oa, .int .i64 ob, .int .i64 0]) (sepT (inT.gro 117 (.slice A k c) css l) (sepT (blkT w1.heap.size 48 #[.string a, .string b, .slice A1 nf c1, .slice A k c]) (sepT (txT.slT 9 (.slice A1 nf c1) f) (sepT (blkT W.heap.size 48 #[.string ⟨#[]⟩, .string ⟨#[]⟩, .slice none 0 0, .slice none 0 0]) R))))))) (by ac_rfl)))
        clear h HW h8 g2 fz zb
        go_wp2_with fail
        refine HV.out.mono ?_
        rintro e w10 ⟨oc, X9, rfl, h9, zc, h⟩
        have S9 := Lib.hid h9
        have ZC := Lib.hid zc
        obtain ⟨e0, e1, e2, e3, fz, _, _, g3⟩ := blk4 (h.turn (a' := (sepT (blkT w6.heap.size 117 #[.int .i64 m, .int .i64 oa, .int .i64 ob, .int .i64 0]) (sepT (xrT p A0 c0 bs X9) (sepT (inT.gro 117 (.slice A k c) css l) (sepT (blkT w1.heap.size 48 #[.string a, .string b, .slice A1 nf c1, .slice A k c]) (sepT (txT.slT 9 (.slice A1 nf c1) f) (sepT (blkT W.heap.size 48 #[.string ⟨#[]⟩, .string ⟨#[]⟩, .slice none 0 0, .slice none 0 0]) R))))))) (by ac_rfl))
        have fz3 := fz 3
        have hU := (g3 (.int .i64 oc)).turn (a' := (sepT (blkT w1.heap.size 48 #[.string a, .string b, .slice A1 nf c1, .slice A k c]) (sepT (blkT w6.heap.size 117 #[.int .i64 m, .int .i64 oa, .int .i64 ob, .int .i64 oc]) (sepT (xrT p A0 c0 bs X9) (sepT (inT.gro 117 (.slice A k c) css l) (sepT (txT.slT 9 (.slice A1 nf c1) f) (sepT (blkT W.heap.size 48 #[.string ⟨#[]⟩, .string ⟨#[]⟩, .slice none 0 0, .slice none 0 0]) R))))))) (by ac_rfl)
        obtain ⟨_, _, _, u3, _, _, _, _⟩ := blk4 hU
        have hE := in_put ⟨(m : Int), oa, ob, oc⟩ ⟨by show _ ≤ (m : Int); omega, by show (m : Int) ≤ _; omega⟩ ZA.out ZB.out ZC.out (hU.turn (a' := (sepT (blkT w6.heap.size 117 #[.int .i64 m, .int .i64 oa, .int .i64 ob, .int .i64 oc]) (sepT (inT.gro 117 (.slice A k c) css l) (sepT (blkT w1.heap.size 48 #[.string a, .string b, .slice A1 nf c1, .slice A k c]) (sepT (xrT p A0 c0 bs X9) (sepT (txT.slT 9 (.slice A1 nf c1) f) (sepT (blkT W.heap.size 48 #[.string ⟨#[]⟩, .string ⟨#[]⟩, .slice none 0 0, .slice none 0 0]) R))))))) (by ac_rfl)).drop
        have HE := Lib.hid (hE.turn (a' := (sepT (inT.gro 117 (.slice A k c) css l) (sepT (inT.el [.int .i64 m, .int .i64 oa, .int .i64 ob, .int .i64 oc] ⟨m, oa, ob, oc⟩) (sepT (blkT w1.heap.size 48 #[.string a, .string b, .slice A1 nf c1, .slice A k c]) (sepT (xrT p A0 c0 bs X9) (sepT (txT.slT 9 (.slice A1 nf c1) f) (sepT (blkT W.heap.size 48 #[.string ⟨#[]⟩, .string ⟨#[]⟩, .slice none 0 0, .slice none 0 0]) R))))))) (by ac_rfl))
        have hrow := inT.gro_row (HE.out.alloc (.cells #[.int .i64 m, .int .i64 oa, .int .i64 ob, .int .i64 oc] 117))
        rw [HL.out] at hrow
        have HRow := Lib.hid hrow
        have hca := cells_arr (w10.setCell ⟨w6.heap.size, 3, none⟩ (.int .i64 oc)) #[.int .i64 m, .int .i64 oa, .int .i64 ob, .int .i64 oc] 117
        rw [show (w10.setCell ⟨w6.heap.size, 3, none⟩ (.int .i64 oc)).heap.size = w10.heap.size by simp] at hca
        have HCA := Lib.hid hca
        obtain ⟨j0, hj0, hw0, hw1, hw2⟩ := info_parts info_lIn
        clear h HV h9 zc g3 fz hU hE hrow hca
        go_wp2_with (at_builtin; refine wpList_append_own_at _ rfl (.tmp 44) (.tmp 46) 46 rfl 0 117 j0 (.agg #[.int .i64 0, .int .i64 0, .int .i64 0, .int .i64 0]) 4 32 Tryz.underlying46 hj0 hw0 hw1 hw2 rfl (by decide) (.slice A k c) k _ rfl HRow.out ⟨w10.heap.size, 0, none⟩ 1 1 [.int .i64 m, .int .i64 oa, .int .i64 ob, .int .i64 oc] rfl rfl HCA.out (by simp [Value.oneCell']) (by simp only [maxLen]; omega) (by omega) (Nat.zero_le _) ?_; go_must (intro v' w9 hown' hgrow' _ hat'; obtain ⟨B', d', rfl, _⟩ := gro_form hown'; have hga := inT.gro_app (HE.out.alloc (.cells #[.int .i64 m, .int .i64 oa, .int .i64 ob, .int .i64 oc] 117)) (by rw [HL.out]; exact hown') hgrow' hat'; obtain ⟨q0, q1, q2, q3, qz, _, _, qg⟩ := blk4 (hga.turn (a' := (sepT (blkT w1.heap.size 48 #[.string a, .string b, .slice A1 nf c1, .slice A k c]) (sepT (inT.gro 117 (.slice B' (k + 1) d') (css ++ [[.int .i64 m, .int .i64 oa, .int .i64 ob, .int .i64 oc]]) (l ++ [⟨m, oa, ob, oc⟩])) (sepT (xrT p A0 c0 bs X9) (sepT (txT.slT 9 (.slice A1 nf c1) f) (sepT (blkT W.heap.size 48 #[.string ⟨#[]⟩, .string ⟨#[]⟩, .slice none 0 0, .slice none 0 0]) R)))))) (by ac_rfl)); have qz3 := qz 3; have HZ := Lib.hid (qg (.slice B' (k + 1) d')); clear qg hga qz))
        obtain ⟨i', rfl⟩ : ∃ i', i = i' + 1 := ⟨i - 1, by omega⟩
        have hSX : stepX (inR bs) X5 ⟨m, oa, ob, oc⟩ X9 := stepX_bind S6.out (stepX_bind S7.out (stepX_bind S8.out (stepX_bind S9.out (stepX_pure _ _))))
        exact ⟨⟨i', k + 1, B', d', css ++ [[.int .i64 m, .int .i64 oa, .int .i64 ob, .int .i64 oc]], l ++ [⟨m, oa, ob, oc⟩], X9, by go_num, Lib.hid (by rw [List.length_append, HL.out]; rfl), by omega, Lib.hid (HP.out.step hSX), HZ.out.turn (by ac_rfl)⟩, by simp [intOf]⟩
      · have hff : XS.fine X5 = false := by simpa using hf
        rw [hff] at HF
        have HSt : Hid (stepX (timesR (inR bs) n []) X4 l X5) := Lib.hid (HP.out.done (.inr hff))
        have hl : l.length ≤ 140737488351232 := by rw [HL.out]; omega
        have HLe := Lib.hid hl
        clear hf hff HP HH hl
        go_wp2_with fail
        refine HF.out.mono ?_
        rintro e w5 ⟨rfl, h⟩
        obtain ⟨d0, d1, d2, d3, _, _, _, _⟩ := blk4 (h.turn (a' := (sepT (blkT w1.heap.size 48 #[.string a, .string b, .slice A1 nf c1, .slice A k c]) (sepT (xrT p A0 c0 bs X5) (sepT (inT.gro 117 (.slice A k c) css l) (sepT (txT.slT 9 (.slice A1 nf c1) f) (sepT (blkT W.heap.size 48 #[.string ⟨#[]⟩, .string ⟨#[]⟩, .slice none 0 0, .slice none 0 0]) R)))))) (by ac_rfl))
        have hb := h.turn (a' := (sepT (blkT W.heap.size 48 #[.string ⟨#[]⟩, .string ⟨#[]⟩, .slice none 0 0, .slice none 0 0]) (sepT (blkT w1.heap.size 48 #[.string a, .string b, .slice A1 nf c1, .slice A k c]) (sepT (xrT p A0 c0 bs X5) (sepT (inT.gro 117 (.slice A k c) css l) (sepT (txT.slT 9 (.slice A1 nf c1) f) R)))))) (by ac_rfl)
        obtain ⟨b0, b1, b2, b3, bz, _, _, _⟩ := blk4 hb
        have bz0 := bz 0
        have bz1 := bz 1
        have bz2 := bz 2
        have bz3 := bz 3
        have hz := (((hb.setBlk 0 (.string a)).setBlk 1 (.string b)).setBlk 2 (.slice A1 nf c1)).setBlk 3 (.slice A k c)
        have HZ := Lib.hid hz
        clear h hb hz bz
        clear HF
        go_wp2_with fail
        have hz := HZ.out
        refine bodyPost_ret (results_cell_row rfl _ _ W.heap.size 48 #[.string a, .string b, .slice A1 nf c1, .slice A k c] (0, 0) _ rfl hz.blk.1 Tryz.underlying48 rfl (by kernel_rfl)) rfl ?_
        have hy := hz.drop.drop.turn (a' := (sepT (inT.gro 117 (.slice A k c) css l) (sepT (xrT p A0 c0 bs X5) (sepT (txT.slT 9 (.slice A1 nf c1) f) R)))) (by ac_rfl)
        have hx := (inT.gro_sl HLe.out hy).turn (a' := (sepT (txT.slT 9 (.slice A1 f.length c1) f) (sepT (inT.slT 117 (.slice A l.length c) l) (sepT (xrT p A0 c0 bs X5) R)))) (by rw [HNf.out, HL.out]; ac_rfl)
        have hc := fu_put ⟨a, b, f, l⟩ Z1.out Z2.out hx
        refine ⟨[.string a, .string b, .slice A1 f.length c1, .slice A l.length c], ⟨a, b, f, l⟩, X5, by rw [HL.out, ← HNf.out], stepX_bind S1.out (stepX_bind S2.out (stepX_bind S3.out ?_)), hc.turn (by ac_rfl)⟩
        rw [listR_eq]
        exact stepX_bind (stepX_bind S4.out HSt.out) (stepX_pure _ _)
    · skip
      have HSt : Hid (stepX (timesR (inR bs) n []) X4 l X5) := Lib.hid (HP.out.done (.inl (by omega)))
      have hl : l.length ≤ 140737488351232 := by rw [HL.out]; omega
      have HLe := Lib.hid hl
      have h := HH.out
      obtain ⟨d0, d1, d2, d3, _, _, _, _⟩ := blk4 (h.turn (a' := (sepT (blkT w1.heap.size 48 #[.string a, .string b, .slice A1 nf c1, .slice A k c]) (sepT (xrT p A0 c0 bs X5) (sepT (inT.gro 117 (.slice A k c) css l) (sepT (txT.slT 9 (.slice A1 nf c1) f) (sepT (blkT W.heap.size 48 #[.string ⟨#[]⟩, .string ⟨#[]⟩, .slice none 0 0, .slice none 0 0]) R)))))) (by ac_rfl))
      have hb := h.turn (a' := (sepT (blkT W.heap.size 48 #[.string ⟨#[]⟩, .string ⟨#[]⟩, .slice none 0 0, .slice none 0 0]) (sepT (blkT w1.heap.size 48 #[.string a, .string b, .slice A1 nf c1, .slice A k c]) (sepT (xrT p A0 c0 bs X5) (sepT (inT.gro 117 (.slice A k c) css l) (sepT (txT.slT 9 (.slice A1 nf c1) f) R)))))) (by ac_rfl)
      obtain ⟨b0, b1, b2, b3, bz, _, _, _⟩ := blk4 hb
      have bz0 := bz 0
      have bz1 := bz 1
      have bz2 := bz 2
      have bz3 := bz 3
      have hz := (((hb.setBlk 0 (.string a)).setBlk 1 (.string b)).setBlk 2 (.slice A1 nf c1)).setBlk 3 (.slice A k c)
      have HZ := Lib.hid hz
      clear h hb hz bz
      clear HH HP hl
      go_wp2_with fail
      have hz := HZ.out
      refine bodyPost_ret (results_cell_row rfl _ _ W.heap.size 48 #[.string a, .string b, .slice A1 nf c1, .slice A k c] (0, 0) _ rfl hz.blk.1 Tryz.underlying48 rfl (by kernel_rfl)) rfl ?_
      have hy := hz.drop.drop.turn (a' := (sepT (inT.gro 117 (.slice A k c) css l) (sepT (xrT p A0 c0 bs X5) (sepT (txT.slT 9 (.slice A1 nf c1) f) R)))) (by ac_rfl)
      have hx := (inT.gro_sl HLe.out hy).turn (a' := (sepT (txT.slT 9 (.slice A1 f.length c1) f) (sepT (inT.slT 117 (.slice A l.length c) l) (sepT (xrT p A0 c0 bs X5) R)))) (by rw [HNf.out, HL.out]; ac_rfl)
      have hc := fu_put ⟨a, b, f, l⟩ Z1.out Z2.out hx
      refine ⟨[.string a, .string b, .slice A1 f.length c1, .slice A l.length c], ⟨a, b, f, l⟩, X5, by rw [HL.out, ← HNf.out], stepX_bind S1.out (stepX_bind S2.out (stepX_bind S3.out ?_)), hc.turn (by ac_rfl)⟩
      rw [listR_eq]
      exact stepX_bind (stepX_bind S4.out HSt.out) (stepX_pure _ _)
end
end Go.Proofs.YtcapdmicekialaaGreat
