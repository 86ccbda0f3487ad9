/- Frames taken apart and put together; New, Calls, Jump. -/
import Derived.Test.YtiaeckljpdhagaaFrTop
namespace Go.Proofs.Ytiaeckljpdhagaa
open Go.RowKit
attribute [local go_sem] Oper.semAt_some run_store_func run_store_nilFunc
section
variable {N : Nat} {w0 W : World} {R : Thing} {p : Nat} {most : Int}
/-- Frames taken apart. -/
theorem frames_parts {fr : List Cal} (H : Lies N w0 W (sepT (framesT p most fr) R)) : ∃ sl cs, cs.length = fr.length ∧ (1 ≤ most ∧ most ≤ 200 ∧ (fr.length : Int) ≤ most) ∧
    Lies N w0 W (sepT (blkT p 71 #[sl, .int .i64 most]) (sepT (rowT 78 1 sl fr.length (cs.map ptrV)) (sepT (callsT cs fr) R))) := by
  obtain ⟨⟨sl, cs⟩, H⟩ := H.ex
  rw [sepT_assoc] at H
  obtain ⟨⟨h1, h2⟩, H⟩ := H.fact
  exact ⟨sl, cs, h1, h2, H.turn (by ac_rfl)⟩
theorem frames_whole {fr : List Cal} {sl : Value} {cs : List Nat} (hl : cs.length = fr.length) (hm : 1 ≤ most ∧ most ≤ 200 ∧ (fr.length : Int) ≤ most)
    (H : Lies N w0 W (sepT (blkT p 71 #[sl, .int .i64 most]) (sepT (rowT 78 1 sl fr.length (cs.map ptrV)) (sepT (callsT cs fr) R)))) : Lies N w0 W (sepT (framesT p most fr) R) := by
  refine Lies.intro (sl, cs) ?_
  rw [sepT_assoc]
  exact (H.turn (by ac_rfl)).withFact ⟨hl, hm⟩
/-- The call on top apart. -/
theorem frames_top {fr : List Cal} {k : Cal} (H : Lies N w0 W (sepT (framesT p most (fr ++ [k])) R)) : ∃ g cp cs c, cs.length = fr.length ∧ (1 ≤ most ∧ most ≤ 200 ∧ (fr.length : Int) + 1 ≤ most) ∧
    Lies N w0 W (sepT (callT c k) (sepT (blkT p 71 #[.slice (some ⟨g, 0, none⟩) (fr.length + 1) cp, .int .i64 most]) (sepT (rowT 78 1 (.slice (some ⟨g, 0, none⟩) (fr.length + 1) cp) (fr.length + 1) (cs.map ptrV ++ [ptrV c])) (sepT (callsT cs fr) R)))) := by
  obtain ⟨sl, cs, hl, hm, H⟩ := frames_parts H
  rw [List.length_append, List.length_singleton] at hl hm
  obtain ⟨cs', c, rfl⟩ : ∃ cs' c, cs = cs' ++ [c] := by
    rcases List.eq_nil_or_concat cs with h | ⟨a, b, h⟩
    · rw [h] at hl; simp at hl
    · exact ⟨a, b, by rw [h]; simp⟩
  rw [List.length_append, List.length_singleton] at hl
  have hl' : cs'.length = fr.length := by omega
  have H2 : Lies N w0 W (sepT (rowT 78 1 sl (fr ++ [k]).length ((cs' ++ [c]).map ptrV)) (sepT (blkT p 71 #[sl, .int .i64 most]) (sepT (callsT (cs' ++ [c]) (fr ++ [k])) R))) := H.turn (by ac_rfl)
  have hr := H2.row
  rw [List.length_append, List.length_singleton] at hr
  obtain ⟨g, cp, rfl, _⟩ := hr.form (Nat.succ_pos _)
  refine ⟨g, cp, cs', c, hl', ⟨hm.1, hm.2.1, by have := hm.2.2; omega⟩, H2.turn ?_⟩
  rw [callsT_snoc hl', List.map_append, List.length_append, List.length_singleton]
  show sepT (rowT 78 1 (.slice (some ⟨g, 0, none⟩) (fr.length + 1) cp) (fr.length + 1) (cs'.map ptrV ++ [ptrV c])) _ = _
  ac_rfl
theorem frames_untop {fr : List Cal} {k : Cal} {g cp : Nat} {cs : List Nat} {c : Nat} (hl : cs.length = fr.length) (hm : 1 ≤ most ∧ most ≤ 200 ∧ (fr.length : Int) + 1 ≤ most)
    (H : Lies N w0 W (sepT (callT c k) (sepT (blkT p 71 #[.slice (some ⟨g, 0, none⟩) (fr.length + 1) cp, .int .i64 most]) (sepT (rowT 78 1 (.slice (some ⟨g, 0, none⟩) (fr.length + 1) cp) (fr.length + 1) (cs.map ptrV ++ [ptrV c])) (sepT (callsT cs fr) R))))) :
    Lies N w0 W (sepT (framesT p most (fr ++ [k])) R) := by
  refine frames_whole (sl := .slice (some ⟨g, 0, none⟩) (fr.length + 1) cp) (cs := cs ++ [c]) (by simp [hl]) ⟨hm.1, hm.2.1, by rw [List.length_append, List.length_singleton]; have := hm.2.2; omega⟩ (H.turn ?_)
  rw [callsT_snoc hl, List.map_append, List.length_append, List.length_singleton]
  show _ = sepT _ (sepT (rowT 78 1 (.slice (some ⟨g, 0, none⟩) (fr.length + 1) cp) (fr.length + 1) (cs.map ptrV ++ [ptrV c])) _)
  ac_rfl
/-- What top reads. -/
theorem frames_cells {fr : List Cal} {k : Cal} {g cp : Nat} {cs : List Nat} {c : Nat} (hl : cs.length = fr.length)
    (H : Lies N w0 W (sepT (callT c k) (sepT (blkT p 71 #[.slice (some ⟨g, 0, none⟩) (fr.length + 1) cp, .int .i64 most]) (sepT (rowT 78 1 (.slice (some ⟨g, 0, none⟩) (fr.length + 1) cp) (fr.length + 1) (cs.map ptrV ++ [ptrV c])) (sepT (callsT cs fr) R))))) :
    W.cell? ⟨p, 0, none⟩ = some (.slice (some ⟨g, 0, none⟩) (fr.length + 1) cp) ∧ W.cell? ⟨p, 1, none⟩ = some (.int .i64 most) ∧ W.cell? ⟨g, fr.length, none⟩ = some (ptrV c) := by
  have h1 := (H.drop).blk.1
  have h2 := (H.drop.drop).row
  refine ⟨h1.cell 0, h1.cell 1, ?_⟩
  rw [h2.cellAt _ (by omega), ← hl]
  simp
end
end Go.Proofs.Ytiaeckljpdhagaa
