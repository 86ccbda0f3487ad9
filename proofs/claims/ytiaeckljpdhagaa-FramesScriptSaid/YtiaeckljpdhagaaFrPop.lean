/- Pop. -/
import Derived.Test.YtiaeckljpdhagaaFrTakeM
namespace Go.Proofs.Ytiaeckljpdhagaa
open Go.RowKit
attribute [local go_sem] Oper.semAt_some run_store_func run_store_nilFunc
def Cal.popV (k : Cal) : Val := (k.taken 1).headD Val.zero
set_option maxRecDepth 100000 in
set_option maxHeartbeats 800000 in
theorem pop_any {N : Nat} {w0 W : World} {R : Thing} {p : Nat} {most : Int} {fr : List Cal} {k : Cal} (hok : ∀ v ∈ k.stack, v.ok) (H : Lies N w0 W (sepT (framesT p most (fr ++ [k])) R)) :
    Calls Try.prog 14 #[.pointer (some ⟨p, 0, none⟩)] W fun e w' => ∃ x, e = .returned (.tuple #[x, .int .i64 (k.takeE 1)]) ∧ Lies N w0 w' (sepT (valT k.popV x) (sepT (framesT p most (fr ++ [k.take 1])) R)) := by
  have HT := Lib.hid (take_any 1 ((H.newBlk 30 #[.int .i64 0, .int .i64 0, .int .u64 0, .string ⟨#[]⟩, .slice none 0 0]).turn (a' := sepT (framesT p most (fr ++ [k])) (sepT (blkT W.heap.size 30 #[.int .i64 0, .int .i64 0, .int .u64 0, .string ⟨#[]⟩, .slice none 0 0]) R)) (by ac_rfl)))
  clear H
  by_cases hs : k.stack.length = 0
  · have hE : k.takeE 1 = 15 := by unfold Cal.takeE; rw [if_neg (by decide), if_pos (by omega)]
    have HE : Hid (k.popV = Val.zero) := by show (k.taken 1).headD Val.zero = _; rw [show k.taken 1 = [] by simp [Cal.taken, hE]]; rfl
    rw [hE] at HT ⊢
    clear hE hs
    go_enter Try.func14, Try.ntmps14
    go_wp2_with fail
    refine HT.out.mono ?_
    rintro e w1 ⟨y, rfl, h⟩
    have h2 := (h.drop).turn (a' := sepT (blkT W.heap.size 30 #[.int .i64 0, .int .i64 0, .int .u64 0, .string ⟨#[]⟩, .slice none 0 0]) (sepT (framesT p most (fr ++ [k.take 1])) R)) (by ac_rfl)
    have b1 := h2.blk.1
    have f1 := b1.frozen
    have y0 := b1.cell 0
    have y1 := b1.cell 1
    have y2 := b1.cell 2
    have y3 := b1.cell 3
    have y4 := b1.cell 4
    simp at y0 y1 y2 y3 y4
    have HN := Lib.hid h2
    clear h h2 b1 HT
    go_wp2_with fail
    have HF := ((((HN.out.setBlk 0 (.int .i64 0)).setBlk 1 (.int .i64 0)).setBlk 2 (.int .u64 0)).setBlk 3 (.string ⟨#[]⟩)).setBlk 4 (.slice none 0 0)
    refine bodyPost_ret (results_row_tmp rfl _ _ W.heap.size 30 #[.int .i64 0, .int .i64 0, .int .u64 0, .string ⟨#[]⟩, .slice none 0 0] (0, 0) _ rfl HF.blk.1 Try.underlying30 rfl (by kernel_rfl)) rfl ?_
    refine ⟨_, rfl, ?_⟩
    rw [HE.out]
    exact zero_in HF.drop
  · have hE : k.takeE 1 = 0 := by unfold Cal.takeE; rw [if_neg (by decide), if_neg (by omega)]
    have ht : k.taken 1 = k.stack.drop (k.stack.length - 1) := by simp [Cal.taken, hE]
    have hlen : (k.taken 1).length = 1 := by rw [ht, List.length_drop]; omega
    obtain ⟨v, hv⟩ := List.length_eq_one_iff.1 hlen
    have hvo : v.ok := hok v (by have h : v ∈ k.stack.drop (k.stack.length - 1) := by rw [← ht, hv]; exact List.mem_singleton.2 rfl
                                 exact List.mem_of_mem_drop h)
    have HE : Hid (k.popV = v) := by show (k.taken 1).headD Val.zero = v; rw [hv]; rfl
    rw [hE] at HT ⊢
    rw [hv] at HT
    have HO := Lib.hid hvo
    clear hE hs ht hlen hv hvo hok
    go_enter Try.func14, Try.ntmps14
    go_wp2_with fail
    refine HT.out.mono ?_
    rintro e w1 ⟨y, rfl, h⟩
    obtain ⟨la, hla, h1⟩ := vals_out h
    have hl1 : la.length = 1 := by have := congrArg List.length hla; simpa using this
    obtain ⟨⟨v', ch⟩, rfl⟩ := List.length_eq_one_iff.1 hl1
    obtain rfl : v' = v := by simpa using hla
    obtain ⟨A, c, rfl, _, hA⟩ := rows_arg h1 (by intro z hz; simp at hz; subst hz; exact HO.out)
    obtain ⟨b, off, rfl⟩ := hA.2.1 (by simp)
    obtain ⟨tag, n, bits, s, lay, A3, c4, he, ⟨e0, e1, e2, e3, e4⟩, _⟩ := rows_at hA 0 (by simp)
    have he' : (v', ch) = ((⟨tag, n, bits, s, lay⟩ : Val), Value.slice A3 lay.length c4) := he
    injection he' with g1 g2
    subst g1 g2
    have h2 := h1.turn (a' := sepT (blkT W.heap.size 30 #[.int .i64 0, .int .i64 0, .int .u64 0, .string ⟨#[]⟩, .slice none 0 0]) (sepT (rowT 30 5 (.slice (some ⟨b, off, none⟩) 1 c) 1 (avV [((⟨tag, n, bits, s, lay⟩ : Val), Value.slice A3 lay.length c4)])) (sepT (chainT ⟨tag, n, bits, s, lay⟩ (.slice A3 lay.length c4)) (sepT (framesT p most (fr ++ [k.take 1])) R)))) (by
      show sepT (sepT (rowT 30 5 (.slice (some ⟨b, off, none⟩) 1 c) 1 (avV [((⟨tag, n, bits, s, lay⟩ : Val), Value.slice A3 lay.length c4)])) (sepT (chainT ⟨tag, n, bits, s, lay⟩ (.slice A3 lay.length c4)) empT)) _ = _
      rw [sep_empT]; ac_rfl)
    have b1 := h2.blk.1
    have f1 := b1.frozen
    have y0 := b1.cell 0
    have y1 := b1.cell 1
    have y2 := b1.cell 2
    have y3 := b1.cell 3
    have y4 := b1.cell 4
    simp at y0 y1 y2 y3 y4
    simp only [Nat.zero_mul, Nat.add_zero, List.length_singleton] at e0 e1 e2 e3 e4 ⊢
    have HN := Lib.hid h2
    clear h h2 b1 HT h1 hA he hla hl1 HO
    go_wp2_with fail
    have HF := ((((HN.out.setBlk 0 (.int .i64 tag)).setBlk 1 (.int .i64 n)).setBlk 2 (.int .u64 bits)).setBlk 3 (.string s)).setBlk 4 (.slice A3 lay.length c4)
    refine bodyPost_ret (results_row_tmp rfl _ _ W.heap.size 30 #[.int .i64 tag, .int .i64 n, .int .u64 bits, .string s, .slice A3 lay.length c4] (0, 0) _ rfl HF.blk.1 Try.underlying30 rfl (by kernel_rfl)) rfl ?_
    refine ⟨_, rfl, ?_⟩
    rw [HE.out]
    exact val_in (v := ⟨tag, n, bits, s, lay⟩) HF.drop.drop
end Go.Proofs.Ytiaeckljpdhagaa
