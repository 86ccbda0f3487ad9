/- Return. -/
import Derived.Test.YtiaeckljpdhagaaFrRet
namespace Go.Proofs.Ytiaeckljpdhagaa
open Go.RowKit
attribute [local go_sem] Oper.semAt_some run_store_func run_store_nilFunc
theorem return1_any {N : Nat} {w0 W : World} {R : Thing} {p b c : Nat} {most : Int} {fr : List Cal} {k : Cal} (H : Lies N w0 W (sepT (framesT p most (fr ++ [k])) R)) (hb : W.cell? ⟨b, 0, none⟩ = some (.pointer (some ⟨p, 0, none⟩))) :
    Calls Try.prog 45 #[ptrV c, .pointer (some ⟨b, 0, none⟩)] W fun e w' => ∃ y z, e = .returned (.tuple #[y, z]) ∧ z = .int .i64 0 ∧ Lies N w0 w' (sepT (framesT p most fr) R) := by
  obtain ⟨g, cp, cs, c', hl, hm, H⟩ := frames_top H
  have HT := Lib.hid (takeC_any p g (fr.length + 1) 1 cp (.int .i64 most) (cs.map ptrV ++ [ptrV c']) (by intro u hu; simp at hu; rcases hu with ⟨a, _, rfl⟩ | rfl <;> rfl) (H.drop.turn (a' := sepT (blkT p 71 #[.slice (some ⟨g, 0, none⟩) (fr.length + 1) cp, .int .i64 most]) (sepT (rowT 78 1 (.slice (some ⟨g, 0, none⟩) (fr.length + 1) cp) (fr.length + 1) (cs.map ptrV ++ [ptrV c'])) (sepT (callsT cs fr) R))) rfl) (by omega) (by omega))
  unfold ptrV
  clear H
  go_enter Try.func45, Try.ntmps45
  go_wp2_with fail
  refine HT.out.mono ?_
  rintro e w' ⟨A, c2, rfl, h⟩
  have h2 : Lies N w0 w' (sepT (framesT p most fr) R) := by
    refine frames_whole (sl := .slice (some ⟨g, 0, none⟩) fr.length cp) (cs := cs) hl ⟨hm.1, hm.2.1, by omega⟩ ?_
    have h3 := h.turn (a' := sepT (rowT 78 1 (.slice A 1 c2) 1 ((cs.map ptrV ++ [ptrV c']).drop ((fr.length + 1 - 1) * 1))) (sepT (blkT p 71 #[.slice (some ⟨g, 0, none⟩) (fr.length + 1 - 1) cp, .int .i64 most]) (sepT (rowT 78 1 (.slice (some ⟨g, 0, none⟩) (fr.length + 1 - 1) cp) (fr.length + 1 - 1) ((cs.map ptrV ++ [ptrV c']).take ((fr.length + 1 - 1) * 1))) (sepT (callsT cs fr) R)))) (by ac_rfl)
    have h4 := h3.drop
    rw [Nat.add_sub_cancel, Nat.mul_one, List.take_left' (by rw [List.length_map, hl])] at h4
    exact h4
  have HH := Lib.hid h2
  clear h h2 HT
  go_wp2
  go_ret2
  exact ⟨_, _, rfl, rfl, HH.out⟩
set_option maxRecDepth 100000 in
theorem return_any {N : Nat} {w0 W : World} {R : Thing} {p : Nat} {most : Int} {fr : List Cal} {k : Cal} (H : Lies N w0 W (sepT (framesT p most (fr ++ [k])) R)) :
    Calls Try.prog 16 #[.pointer (some ⟨p, 0, none⟩)] W fun e w' => e = .returned (.int .i64 0) ∧ Lies N w0 w' (sepT (framesT p most fr) R) := by
  have H0 := H.alloc (.cells #[.pointer (some ⟨p, 0, none⟩)] 22)
  obtain ⟨g, cp, cs, c, hl, hm, H1⟩ := frames_top H0
  obtain ⟨h0, h1, ht⟩ := frames_cells hl H1
  have hm0 : (most == 0) = false := by simp; omega
  have hj := return1_any (b := W.heap.size) (c := c) H0.drew ((Blk.new W 22 #[.pointer (some ⟨p, 0, none⟩)]).cell 0)
  have HT := Lib.hid (topI_call p g fr.length cp c most (.int .i64 0) 45 #[] #[.pointer (some ⟨W.heap.size, 0, none⟩)] _ _ (fun _ _ => rfl) (by omega) hm0 h0 h1 ht hj)
  have hmf : ∀ fn first cap (w : World), (Instr.makeFunc fn first cap).run Try.prog w = .ok (.func fn first cap) w := fun _ _ _ _ => rfl
  clear H H0 H1 h0 h1 ht hm0 hj
  go_enter Try.func16, Try.ntmps16
  go_wp2_with fail
  refine HT.out.mono ?_
  rintro e w' ⟨y, z, rfl, rfl, h⟩
  have HL := Lib.hid h
  clear h HT
  go_wp2_with fail
  go_ret
  exact ⟨rfl, HL.out⟩
end Go.Proofs.Ytiaeckljpdhagaa
