/- Local. -/
import Derived.Test.YtiaeckljpdhagaaFrElem
namespace Go.Proofs.Ytiaeckljpdhagaa
open Go.RowKit
attribute [local go_sem] Oper.semAt_some run_store_func run_store_nilFunc
def Cal.badAt (k : Cal) (i : Int) : Bool := decide (i < 0 ∨ (k.locals.length : Int) ≤ i)
def Cal.localV (k : Cal) (i : Int) : Val := if k.badAt i then Val.zero else k.locals.getD i.toNat Val.zero
def Cal.localE (k : Cal) (i : Int) : Int := if k.badAt i then 3 else 0
def loL (i : Nat) : Nat := [0, 0, 0, 0, 0, 0, 0, 0, 1, 2].getD i 0
def upL (i : Nat) : Nat := [0, 0, 0, 0, 0, 0, 0, 1, 2, 2].getD i 0
set_option maxRecDepth 100000 in
set_option maxHeartbeats 800000 in
theorem local1_any {N : Nat} {w0 W : World} {R : Thing} {c b : Nat} {k : Cal} (i : Int) (H : Lies N w0 W (sepT (callT c k) R)) (hb : W.cell? ⟨b, 0, none⟩ = some (.int .i64 i)) :
    Calls Try.prog 41 #[ptrV c, .pointer (some ⟨b, 0, none⟩)] W fun e w' => ∃ (tag num bits : Int) (s : ByteArray) (ca : Option Addr) (cl cc : Nat) (z : Value), e = .returned (.tuple #[.agg #[.int .i64 tag, .int .i64 num, .int .u64 bits, .string s, .slice ca cl cc], z]) ∧
      z = .int .i64 (k.localE i) ∧ Lies N w0 w' (sepT (valT (k.localV i) (.agg #[.int .i64 tag, .int .i64 num, .int .u64 bits, .string s, .slice ca cl cc])) (sepT (callT c k) R)) := by
  unfold ptrV
  obtain ⟨ss, ls, la, sa, hk, H1⟩ := call_parts H
  have hll : la.length = k.locals.length := by rw [← hk.2.1, List.length_map]
  have hok : ∀ y ∈ la, y.1.ok := fun y hy => hk.1.2.2.1 _ (by rw [← hk.2.1]; exact List.mem_map.2 ⟨y, hy, rfl⟩)
  have H2 := H1.turn (a' := sepT (rowsT ls la) (sepT (blkT c 82 #[ss, .int .i64 k.number, .int .i64 k.place, ls]) (sepT (rowsT ss sa) R))) (by ac_rfl)
  obtain ⟨A, cp, rfl, hcp, hA⟩ := rows_arg H2 hok
  have c3 := H1.blk.1.cell 3
  simp at c3
  replace hb := cell_alloc hb (.cells #[.int .i64 0, .int .i64 0, .int .u64 0, .string ⟨#[]⟩, .slice none 0 0] 30)
  replace c3 := cell_alloc c3 (.cells #[.int .i64 0, .int .i64 0, .int .u64 0, .string ⟨#[]⟩, .slice none 0 0] 30)
  have HZ := H.newBlk 30 #[.int .i64 0, .int .i64 0, .int .u64 0, .string ⟨#[]⟩, .slice none 0 0]
  by_cases hbad : i < 0 ∨ (k.locals.length : Int) ≤ i
  · have HE : Hid (k.localE i = 3 ∧ k.localV i = Val.zero) := by
      have hb : k.badAt i = true := by simp [Cal.badAt, hbad]
      exact ⟨by simp [Cal.localE, hb], by simp [Cal.localV, hb]⟩
    have HH := Lib.hid HZ
    clear H H1 H2 HZ hk hA hok
    by_cases h0 : i < 0
    · clear hbad hll
      go_enter Try.func41, Try.ntmps41
      go_wp2
      go_quiet (fail)
      go_wp2
      have HF := (((((HH.out.drewN nq).setBlk 0 (.int .i64 0)).setBlk 1 (.int .i64 0)).setBlk 2 (.int .u64 0)).setBlk 3 (.string ⟨#[]⟩)).setBlk 4 (.slice none 0 0)
      refine bodyPost_ret (results_row_tmp rfl _ _ W.heap.size 30 #[.int .i64 0, .int .i64 0, .int .u64 0, .string ⟨#[]⟩, .slice none 0 0] (0, 0) _ rfl HF.blk.1 Try.underlying30 rfl (by kernel_rfl)) rfl ?_
      rw [HE.out.1, HE.out.2]
      exact ⟨_, _, _, _, _, _, _, _, rfl, rfl, zero_in HF.drop⟩
    · have hd : decide (i < 0) = false := by simpa using h0
      have h1 : (la.length : Int) ≤ i := by omega
      clear hbad hll
      go_enter Try.func41, Try.ntmps41
      go_wp2
      go_quiet (fail)
      go_wp2
      have HF := (((((HH.out.drewN nq).setBlk 0 (.int .i64 0)).setBlk 1 (.int .i64 0)).setBlk 2 (.int .u64 0)).setBlk 3 (.string ⟨#[]⟩)).setBlk 4 (.slice none 0 0)
      refine bodyPost_ret (results_row_tmp rfl _ _ W.heap.size 30 #[.int .i64 0, .int .i64 0, .int .u64 0, .string ⟨#[]⟩, .slice none 0 0] (0, 0) _ rfl HF.blk.1 Try.underlying30 rfl (by kernel_rfl)) rfl ?_
      rw [HE.out.1, HE.out.2]
      exact ⟨_, _, _, _, _, _, _, _, rfl, rfl, zero_in HF.drop⟩
  · obtain ⟨j, rfl⟩ : ∃ j : Nat, i = j := ⟨i.toNat, by omega⟩
    have hj : j < la.length := by omega
    have hb2 : k.badAt j = false := by simp [Cal.badAt]; omega
    obtain ⟨b2, off, rfl⟩ := hA.2.1 (by omega)
    obtain ⟨tag, n, bits, s, lay, A3, c4, he, ⟨e0, e1, e2, e3, e4⟩, hv⟩ := rows_at hA j hj
    have HE : Hid (k.localE j = 0 ∧ k.localV j = ⟨tag, n, bits, s, lay⟩) := by
      refine ⟨by simp [Cal.localE, hb2], ?_⟩
      simp [Cal.localV, hb2, ← hk.2.1, hj, he]
    replace e0 := cell_alloc e0 (.cells #[.int .i64 0, .int .i64 0, .int .u64 0, .string ⟨#[]⟩, .slice none 0 0] 30)
    replace e1 := cell_alloc e1 (.cells #[.int .i64 0, .int .i64 0, .int .u64 0, .string ⟨#[]⟩, .slice none 0 0] 30)
    replace e2 := cell_alloc e2 (.cells #[.int .i64 0, .int .i64 0, .int .u64 0, .string ⟨#[]⟩, .slice none 0 0] 30)
    replace e3 := cell_alloc e3 (.cells #[.int .i64 0, .int .i64 0, .int .u64 0, .string ⟨#[]⟩, .slice none 0 0] 30)
    replace e4 := cell_alloc e4 (.cells #[.int .i64 0, .int .i64 0, .int .u64 0, .string ⟨#[]⟩, .slice none 0 0] 30)
    have HV := Lib.hid (VIs.quiet hv (Only.alloc _ W (.cells #[.int .i64 0, .int .i64 0, .int .u64 0, .string ⟨#[]⟩, .slice none 0 0] 30)))
    have HO := Lib.hid (fun m => own_any _ _ _ (VIs.quiet HV.out (Only.drewN _ _ m)))
    have hd : decide ((j : Int) < 0) = false := decide_eq_false (by omega)
    have hd2 : decide ((la.length : Int) ≤ (j : Int)) = false := decide_eq_false (by omega)
    have hlt : (j : Int) < (la.length : Int) := by omega
    have HH := Lib.hid HZ
    clear H H1 H2 HZ hk hA hok hv he hb2 hbad HV hll
    go_enter Try.func41, Try.ntmps41
    go_wp2
    go_quiet (fail)
    go_wp2
    refine wp_region_text [7, 8] loL upL (by kernel_rfl) (by kernel_rfl) (by kernel_rfl) (by kernel_rfl) (by kernel_rfl) ?_
    repeat (refine wpTx_now (by rfl) (by rfl) (by rfl) (fun K hK => ?_); go_simp; refine hK _ ?_; clear hK K)
    refine wpTx_eff (by rfl) (fun K hK => ?_)
    go_simp
    refine (HO.out _).mono ?_
    rintro e w1 ⟨ch, rfl, hown, hbe⟩
    obtain ⟨A5, c5, rfl, _⟩ := own_form hown
    refine ⟨_, rfl, hK _ _ (by simp [lateOK]) ?_⟩
    clear hK K HO
    have h2 := (HH.out.drewN (nq + 1)).newRow hown hbe
    have h3 : Lies N w0 w1 (sepT (blkT W.heap.size 30 #[.int .i64 0, .int .i64 0, .int .u64 0, .string ⟨#[]⟩, .slice none 0 0]) (sepT (chainT ⟨tag, n, bits, s, lay⟩ (.slice A5 lay.length c5)) (sepT (callT c k) R))) := h2.turn (by unfold chainT; ac_rfl)
    have b1 := h3.blk.1
    have f1 := b1.frozen
    have y0 := b1.cell 0
    have y1 := b1.cell 1
    have y2 := b1.cell 2
    have y3 := b1.cell 3
    have y4 := b1.cell 4
    simp at y0 y1 y2 y3 y4
    have HN := Lib.hid h3
    clear h2 h3 b1 hown hbe
    simp only [Val.go]
    refine wpTx_eff (by rfl) (fun K hK => ?_)
    go_simp
    refine hK _ _ (by simp [lateOK]) ?_
    clear hK K
    repeat (refine wpTx_now (by rfl) (by rfl) (by rfl) (fun K hK => ?_); go_simp; refine hK _ ?_; clear hK K)
    refine wpTx_nil ?_
    go_wp2_with fail
    have HF := ((((HN.out.setBlk 0 (.int .i64 tag)).setBlk 1 (.int .i64 n)).setBlk 2 (.int .u64 bits)).setBlk 3 (.string s)).setBlk 4 (.slice A5 lay.length c5)
    refine bodyPost_ret (results_row_tmp rfl _ _ W.heap.size 30 #[.int .i64 tag, .int .i64 n, .int .u64 bits, .string s, .slice A5 lay.length c5] (0, 0) _ rfl HF.blk.1 Try.underlying30 rfl (by kernel_rfl)) rfl ?_
    rw [HE.out.1, HE.out.2]
    exact ⟨_, _, _, _, _, _, _, _, rfl, rfl, val_in (v := ⟨tag, n, bits, s, lay⟩) HF.drop⟩
end Go.Proofs.Ytiaeckljpdhagaa
