/- Local, the method. -/
import Derived.Test.YtiaeckljpdhagaaFrLocal
namespace Go.Proofs.Ytiaeckljpdhagaa
open Go.RowKit
attribute [local go_sem] Oper.semAt_some run_store_func run_store_nilFunc
set_option maxRecDepth 100000 in
set_option maxHeartbeats 800000 in
theorem local_any {N : Nat} {w0 W : World} {R : Thing} {p : Nat} {most : Int} {fr : List Cal} {k : Cal} (i : Int) (H : Lies N w0 W (sepT (framesT p most (fr ++ [k])) R)) :
    Calls Try.prog 12 #[.pointer (some ⟨p, 0, none⟩), .int .i64 i] W fun e w' => ∃ x, e = .returned (.tuple #[x, .int .i64 (k.localE i)]) ∧ Lies N w0 w' (sepT (valT (k.localV i) x) (sepT (framesT p most (fr ++ [k])) R)) := by
  have H0 := (H.newBlk 3 #[.int .i64 i]).newBlk 30 #[.int .i64 0, .int .i64 0, .int .u64 0, .string ⟨#[]⟩, .slice none 0 0]
  have hsz : (W.alloc (.cells #[.int .i64 i] 3)).heap.size = W.heap.size + 1 := by simp
  rw [hsz] at H0
  obtain ⟨g, cp, cs, c, hl, hm, H1⟩ := frames_top (H0.turn (a' := sepT (framesT p most (fr ++ [k])) (sepT (blkT W.heap.size 3 #[.int .i64 i]) (sepT (blkT (W.heap.size + 1) 30 #[.int .i64 0, .int .i64 0, .int .u64 0, .string ⟨#[]⟩, .slice none 0 0]) R))) (by ac_rfl))
  have hm0 : (most == 0) = false := by simp; omega
  have H2 := H1.turn (a' := sepT (sepT (blkT W.heap.size 3 #[.int .i64 i]) (sepT (callT c k) (sepT (blkT p 71 #[.slice (some ⟨g, 0, none⟩) (fr.length + 1) cp, .int .i64 most]) (sepT (rowT 78 1 (.slice (some ⟨g, 0, none⟩) (fr.length + 1) cp) (fr.length + 1) (cs.map ptrV ++ [ptrV c])) (callsT cs fr)))))
    (sepT (blkT (W.heap.size + 1) 30 #[.int .i64 0, .int .i64 0, .int .u64 0, .string ⟨#[]⟩, .slice none 0 0]) R)) (by ac_rfl)
  have HT := Lib.hid (topV_call (S' := fun tag num bits s ca cl cc z => sepT (factT (z = .int .i64 (k.localE i))) (sepT (valT (k.localV i) (.agg #[.int .i64 tag, .int .i64 num, .int .u64 bits, .string s, .slice ca cl cc])) (sepT (blkT W.heap.size 3 #[.int .i64 i]) (sepT (callT c k) (sepT (blkT p 71 #[.slice (some ⟨g, 0, none⟩) (fr.length + 1) cp, .int .i64 most]) (sepT (rowT 78 1 (.slice (some ⟨g, 0, none⟩) (fr.length + 1) cp) (fr.length + 1) (cs.map ptrV ++ [ptrV c])) (callsT cs fr)))))))
    p g fr.length cp c most 41 #[] #[.pointer (some ⟨W.heap.size, 0, none⟩)] (fun _ _ => rfl) (by omega) hm0
    (fun R' W' h => frames_cells hl (R := sepT (blkT W.heap.size 3 #[.int .i64 i]) R') (h.turn (by ac_rfl))) H2
    (fun R' W' h => (local1_any (b := W.heap.size) i (h.turn (a' := sepT (callT c k) (sepT (sepT (blkT W.heap.size 3 #[.int .i64 i]) (sepT (blkT p 71 #[.slice (some ⟨g, 0, none⟩) (fr.length + 1) cp, .int .i64 most]) (sepT (rowT 78 1 (.slice (some ⟨g, 0, none⟩) (fr.length + 1) cp) (fr.length + 1) (cs.map ptrV ++ [ptrV c])) (callsT cs fr)))) R')) (by ac_rfl))
      ((h.turn (a' := sepT (blkT W.heap.size 3 #[.int .i64 i]) (sepT (sepT (callT c k) (sepT (blkT p 71 #[.slice (some ⟨g, 0, none⟩) (fr.length + 1) cp, .int .i64 most]) (sepT (rowT 78 1 (.slice (some ⟨g, 0, none⟩) (fr.length + 1) cp) (fr.length + 1) (cs.map ptrV ++ [ptrV c])) (callsT cs fr)))) R')) (by ac_rfl)).blk.1.cell 0)).mono
      (by rintro e w' ⟨tag, num, bits, s, ca, cl, cc, z, rfl, hz, hh⟩; exact ⟨tag, num, bits, s, ca, cl, cc, z, rfl, by rw [sepT_assoc]; exact (hh.turn (by ac_rfl)).withFact hz⟩)))
  have hmf : ∀ fn first cap (w : World), (Instr.makeFunc fn first cap).run Try.prog w = .ok (.func fn first cap) w := fun _ _ _ _ => rfl
  have HM := Lib.hid hm
  clear H H0 H1 H2 hm0 hm hsz
  go_enter Try.func12, Try.ntmps12
  go_wp2_with fail
  refine HT.out.mono ?_
  rintro e w1 ⟨tag, num, bits, s, ca, cl, cc, z, rfl, h⟩
  rw [sepT_assoc] at h
  obtain ⟨hz, h'⟩ := h.fact
  clear h
  subst hz
  have h2 := h'.turn (a' := sepT (blkT (W.heap.size + 1) 30 #[.int .i64 0, .int .i64 0, .int .u64 0, .string ⟨#[]⟩, .slice none 0 0]) (sepT (callT c k) (sepT (blkT p 71 #[.slice (some ⟨g, 0, none⟩) (fr.length + 1) cp, .int .i64 most]) (sepT (rowT 78 1 (.slice (some ⟨g, 0, none⟩) (fr.length + 1) cp) (fr.length + 1) (cs.map ptrV ++ [ptrV c])) (sepT (callsT cs fr) (sepT (blkT W.heap.size 3 #[.int .i64 i]) (sepT (valT (k.localV i) (.agg #[.int .i64 tag, .int .i64 num, .int .u64 bits, .string s, .slice ca cl cc])) R))))))) (by ac_rfl)
  have b1 := h2.blk.1
  have f1 := b1.frozen
  have y0 := b1.cell 0
  have y1 := b1.cell 1
  have y2 := b1.cell 2
  have y3 := b1.cell 3
  have y4 := b1.cell 4
  simp at y0 y1 y2 y3 y4
  have HN := Lib.hid h2
  clear h' h2 b1 HT
  go_wp2_with fail
  have HF := ((((HN.out.setBlk 0 (.int .i64 tag)).setBlk 1 (.int .i64 num)).setBlk 2 (.int .u64 bits)).setBlk 3 (.string s)).setBlk 4 (.slice ca cl cc)
  refine bodyPost_ret (results_row_tmp rfl _ _ (W.heap.size + 1) 30 #[.int .i64 tag, .int .i64 num, .int .u64 bits, .string s, .slice ca cl cc] (0, 0) _ rfl HF.blk.1 Try.underlying30 rfl (by kernel_rfl)) rfl ?_
  refine ⟨_, rfl, ?_⟩
  have h3 := frames_untop hl HM.out (R := sepT (blkT W.heap.size 3 #[.int .i64 i]) (sepT (valT (k.localV i) (.agg #[.int .i64 tag, .int .i64 num, .int .u64 bits, .string s, .slice ca cl cc])) R)) HF.drop
  exact (h3.turn (a' := sepT (blkT W.heap.size 3 #[.int .i64 i]) (sepT (valT (k.localV i) (.agg #[.int .i64 tag, .int .i64 num, .int .u64 bits, .string s, .slice ca cl cc])) (sepT (framesT p most (fr ++ [k])) R))) (by ac_rfl)).drop
end Go.Proofs.Ytiaeckljpdhagaa
