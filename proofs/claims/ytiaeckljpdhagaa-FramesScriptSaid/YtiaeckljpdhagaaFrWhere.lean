/- Where. -/
import Derived.Test.YtiaeckljpdhagaaFrElem
namespace Go.Proofs.Ytiaeckljpdhagaa
open Go.RowKit
attribute [local go_sem] Oper.semAt_some run_store_func run_store_nilFunc
def loW (i : Nat) : Nat := [0, 0, 0, 0, 0, 0, 0, 0, 0, 0, 1].getD i 0
def upW (i : Nat) : Nat := [0, 0, 0, 0, 0, 0, 0, 0, 0, 1, 1].getD i 0
set_option maxRecDepth 100000 in
theorem where1_any {N : Nat} {w0 W : World} {R : Thing} {c : Nat} {k : Cal} (H : Lies N w0 W (sepT (callT c k) R)) :
    Calls Try.prog 65 #[ptrV c] W fun e w' => ∃ (m n : Int) (z : Value), e = .returned (.tuple #[.agg #[.int .i64 m, .int .i64 n], z]) ∧ m = k.number ∧ n = k.place ∧ Lies N w0 w' (sepT (callT c k) R) := by
  unfold ptrV
  obtain ⟨ss, ls, la, sa, hk, H1⟩ := call_parts H
  have c1 := cell_alloc (show W.cell? ⟨c, 1, none⟩ = some (.int .i64 k.number) from H1.blk.1.cell 1) (.cells #[.int .i64 0, .int .i64 0] 95)
  have c2 := cell_alloc (show W.cell? ⟨c, 2, none⟩ = some (.int .i64 k.place) from H1.blk.1.cell 2) (.cells #[.int .i64 0, .int .i64 0] 95)
  have HH := Lib.hid ((H.newBlk 95 #[.int .i64 0, .int .i64 0]).drew)
  have HG := Lib.hid ((H.newBlk 95 #[.int .i64 k.number, .int .i64 k.place]).drew)
  clear H H1 hk HH
  go_enter Try.func65, Try.ntmps65
  go_wp2_with fail
  refine wp_region_text [9] loW upW (by kernel_rfl) (by kernel_rfl) (by kernel_rfl) (by kernel_rfl) (by kernel_rfl) ?_
  repeat (refine wpTx_now (by rfl) (by rfl) (by rfl) (fun K hK => ?_); go_simp; refine hK _ ?_; clear hK K)
  refine wpTx_eff (by rfl) (fun K hK => ?_)
  go_simp
  refine hK _ _ (by simp [lateOK]) ?_
  clear hK K
  repeat (refine wpTx_now (by rfl) (by rfl) (by rfl) (fun K hK => ?_); go_simp; refine hK _ ?_; clear hK K)
  refine wpTx_nil ?_
  go_wp2_with fail
  have HF := HG.out
  refine bodyPost_ret (results_row_tmp rfl _ _ W.heap.size 95 #[.int .i64 k.number, .int .i64 k.place] (0, 0) _ rfl HF.blk.1 Try.underlying95 rfl (by kernel_rfl)) rfl ?_
  exact ⟨_, _, _, rfl, rfl, rfl, HF.drop⟩
set_option maxRecDepth 100000 in
set_option maxHeartbeats 800000 in
theorem where_any {N : Nat} {w0 W : World} {R : Thing} {p : Nat} {most : Int} {fr : List Cal} {k : Cal} (H : Lies N w0 W (sepT (framesT p most (fr ++ [k])) R)) :
    Calls Try.prog 28 #[.pointer (some ⟨p, 0, none⟩)] W fun e w' => e = .returned (.tuple #[.int .i64 k.number, .int .i64 k.place]) ∧ Lies N w0 w' (sepT (framesT p most (fr ++ [k])) R) := by
  obtain ⟨g, cp, cs, c, hl, hm, H1⟩ := frames_top H
  have hm0 : (most == 0) = false := by simp; omega
  have H2 := H1.turn (a' := sepT (sepT (callT c k) (sepT (blkT p 71 #[.slice (some ⟨g, 0, none⟩) (fr.length + 1) cp, .int .i64 most]) (sepT (rowT 78 1 (.slice (some ⟨g, 0, none⟩) (fr.length + 1) cp) (fr.length + 1) (cs.map ptrV ++ [ptrV c])) (callsT cs fr)))) R) (by ac_rfl)
  have HT := Lib.hid (topA_call (S' := fun m n z => sepT (factT (m = k.number ∧ n = k.place)) (sepT (callT c k) (sepT (blkT p 71 #[.slice (some ⟨g, 0, none⟩) (fr.length + 1) cp, .int .i64 most]) (sepT (rowT 78 1 (.slice (some ⟨g, 0, none⟩) (fr.length + 1) cp) (fr.length + 1) (cs.map ptrV ++ [ptrV c])) (callsT cs fr)))))
    p g fr.length cp c most 65 #[] #[] (fun _ _ => rfl) (by omega) hm0
    (fun R' W' h => frames_cells hl (R := R') (h.turn (by ac_rfl))) H2
    (fun R' W' h => (where1_any (h.turn (a' := sepT (callT c k) (sepT (sepT (blkT p 71 #[.slice (some ⟨g, 0, none⟩) (fr.length + 1) cp, .int .i64 most]) (sepT (rowT 78 1 (.slice (some ⟨g, 0, none⟩) (fr.length + 1) cp) (fr.length + 1) (cs.map ptrV ++ [ptrV c])) (callsT cs fr))) R')) (by ac_rfl))).mono
      (by rintro e w' ⟨m, n, z, rfl, h1, h2, hh⟩; exact ⟨m, n, z, rfl, by rw [sepT_assoc]; exact (hh.turn (by ac_rfl)).withFact ⟨h1, h2⟩⟩)))
  have HM := Lib.hid hm
  clear H H1 H2 hm0 hm
  go_enter Try.func28, Try.ntmps28
  go_wp2_with fail
  refine HT.out.mono ?_
  rintro e w1 ⟨m, n, z, rfl, h⟩
  rw [sepT_assoc] at h
  obtain ⟨⟨hm1, hm2⟩, h'⟩ := h.fact
  clear h
  subst hm1 hm2
  have h2 := frames_untop hl HM.out (R := R) (h'.turn (by ac_rfl))
  have HN := Lib.hid h2
  clear h' h2 HT
  go_wp2_with fail
  go_quiet (fail)
  go_wp2_with fail
  go_ret2
  exact ⟨rfl, ((HN.out.newBlk _ _).drop).drewN _⟩
end Go.Proofs.Ytiaeckljpdhagaa
