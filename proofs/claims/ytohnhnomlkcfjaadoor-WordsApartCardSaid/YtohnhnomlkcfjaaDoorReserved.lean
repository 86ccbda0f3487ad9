/- words.Reserved, walked. -/
import Derived.Test.YtohnhnomlkcfjaaDoorFields
import Derived.Test.YtohnhnomlkcfjaaDoorRows0
import Derived.Deep.Onto
namespace Go.Proofs.YtohnhnomlkcfjaaDoor
open Go.RowKit
attribute [local irreducible] ByteArray.extract ByteArray.toList
attribute [local go_sem] Oper.semAt_some run_store_func run_store_nilFunc

theorem enters44 : ∀ args w, (callFunc 44 args).run Tryd.prog w = .ok (.enter 44 args) w := enters_fn Tryd.func44 (by kernel_rfl) rfl
theorem info9 : (Tryd.prog.info? 9).map (fun i => (i.zero, i.size, i.bytes)) = some (some (.string ⟨#[]⟩), 1, 16) := by kernel_rfl
def resV : List Value := resW.map .string
theorem res_take (i : Nat) (hi : i < resW.length) : resV.take i ++ [.string resW[i]] = resV.take (i + 1) := by
  unfold resV
  rw [List.take_succ_eq_append_getElem (show i < (resW.map Value.string).length by rw [List.length_map]; exact hi)]
  simp
/-- A slice of the reserved words, new. -/
def RetRes (w : World) (e : Ending) (w' : World) : Prop := ∃ g cap, e = .returned (.slice (some ⟨g, 0, none⟩) 24 cap) ∧ w.heap.size ≤ g ∧ w'.ownsRow w.heap.size 9 1 (.slice (some ⟨g, 0, none⟩) 24 cap) 24 resV ∧ Below w.heap.size w w'

theorem spaces_below {n : Nat} {w w' : World} (h : Spaces w) (hb : Below n w w') (hn : 0 < n) : Spaces w' := fun c hc => (World.cell?_of_block (w := w) (hb.block 0 hn)).trans (h c hc)
theorem spaces_pos {w : World} (h : Spaces w) : 0 < w.heap.size := lt_of_cell (h 0 (by decide))

set_option maxRecDepth 10000 in
set_option maxHeartbeats 1600000 in
theorem reserved_any (w : World) (hsp : Spaces w) : Calls Tryd.prog 13 #[] w (RetRes w) := by
  have h0 := spaces_pos hsp
  refine (callsIn_wide (n := 3)).1 ?_
  refine callsIn_of_wp_marks Tryd.func13 rfl trivial ?_
  simp only [Tryd.ntmps13, List.size_toArray, List.length_nil, Nat.reduceSub, Array.replicate_succ, Array.replicate_zero, List.push_toArray, List.append_toArray, List.nil_append, List.cons_append]
  have hb := cell_new1 (w.alloc (.cells #[.slice none 0 0] 28)) (.string allS) 9
  rw [World.size_alloc] at hb
  have hsp2 : Spaces ((w.alloc (.cells #[.slice none 0 0] 28)).alloc (.cells #[.string allS] 9)) := fun c hc => cell_alloc1 _ (cell_alloc1 _ (hsp c hc))
  have Hd := Lib.hid (fields_iter (w.heap.size + 1) _ hb.1 hsp2)
  clear hb hsp2
  gi_wp2_with ((refine ⟨trivial, ?_⟩; gi_at_call 35); refine (callsIn_wide.2 (fields_any _ _)).mono ?_; rintro e w' ⟨rfl, rfl⟩)
  change Code.wpIn _ _ _ _ _ _ ((w.alloc (Obj.cells #[Value.slice none 0 0] 28)).alloc (Obj.cells #[Value.string allS] 9))
  generalize hw0 : ((w.alloc (Obj.cells #[Value.slice none 0 0] 28)).alloc (Obj.cells #[Value.string allS] 9)) = w0 at Hd ⊢
  have hs0 : w0.heap.size = w.heap.size + 2 := by rw [← hw0]; simp
  have hB0 : Below w.heap.size w w0 := by rw [← hw0]; exact ((Below.refl _ _).alloc (Nat.le_refl _) _).alloc (by simp) _
  have hx0 : Boxed w0 w.heap.size 28 (.slice none 0 0) := by rw [← hw0]; exact (Boxed.new w 28 _).alloc _
  have hlen := resW_len
  refine wp_range (w := w0) (gf := 44) (lb := #[.pointer (some ⟨w.heap.size + 1, 0, none⟩)]) rfl enters44
    Hd.out (by rintro b (h | rfl | rfl); exact h.elim; omega; omega) (fun _ => rfl)
    (fun i W => ∃ v, Boxed W w.heap.size 28 v ∧ W.ownsRow (w.heap.size + 4) 9 1 v i (resV.take i) ∧ Below w.heap.size w W ∧ w.heap.size + 2 ≤ W.heap.size)
    (fun _ _ _ => False) ?hI (fun _ _ _ _ h _ => h) ?h0 ?round ?done (fun _ _ _ _ h => h.elim)
  case hI =>
    rintro i A B ⟨v, hv, hr, hB, hz⟩ ho
    rw [hs0] at ho
    refine ⟨v, box_only ho hv (by rintro (h | h | h); exact h.elim; all_goals omega), own_only ho hr (by rintro g hg _ (h | h | h); exact h.elim; all_goals omega), hB.trans (ho.below hB.size (by rintro b (h | h | h); exact h.elim; all_goals omega)), by have := ho.size; omega⟩
  case h0 => exact ⟨_, hx0, World.ownsRow_nil _ _ _ _, hB0, by omega⟩
  case round =>
    rintro l i hi W rfl hlt ⟨v, hv, hr, hB, hz⟩
    rw [hs0] at hlt
    gi_wp2
    refine ⟨Kept.refl _ _ _ _, ⟨v, hv, hr, hB, hz⟩, ?_⟩
    clear hlt hv hr hB hz
    clear v
    rintro W2 hlt ⟨v, hv, hr, hB, hz⟩
    rw [hs0] at hlt
    have hcell := hv.cell
    have hfr := hv.frozen
    obtain ⟨i0, hi0, hz0, hz1, hz2⟩ := info_parts info9
    gi_wp2_with (gi_at_builtin; refine wpListIn_append_own _ rfl _ _ 28 rfl (w.heap.size + 4) 9 i0 (.string ⟨#[]⟩) 1 16 Tryd.underlying28 hi0 hz0 hz1 hz2 rfl (by decide) _ _ _ rfl (hr.alloc _) ⟨W2.heap.size, 0, none⟩ 1 1 [.string resW[i]] rfl rfl (cell_one_new _ _ _) (by simp [Value.oneCell']) (by simp only [maxLen]; omega) (by omega) (by simp; omega) ?_; clear hcell hfr; intro v' w1 hown' hgrow _; obtain ⟨g', cap', rfl⟩ := ownsRow_succ hown'; obtain ⟨hcell, hfr, hv2, hr2, ho2⟩ := box_append hv hr (by omega) hown' hgrow)
    rw [res_take i hi] at hr2
    have hB2 := hB.trans (ho2.below hB.size (by rintro b (h | ⟨h, _⟩) <;> omega))
    refine ⟨Kept.of_only ho2 ?_, _, hv2, hr2, hB2, by have := ho2.size; omega⟩
    rw [hs0]
    rintro b (h | (h | h) | h | h)
    · exact h.elim
    all_goals refine ⟨by omega, ?_⟩; rintro (k | ⟨k, _⟩) <;> omega
  case done =>
    rintro W ⟨v, hv, hr, hB, hz⟩ hlt hD
    have hcell := hv.cell
    rw [hlen, List.take_of_length_le (show resV.length ≤ 24 from Nat.le_refl _)] at hr
    obtain ⟨g, cap, rfl⟩ := ownsRow_succ hr
    rw [hs0] at hD hlt
    rw [hs0]
    gi_wp2
    refine leaves_mark hD (leaves_nil (results_tmp rfl _ _ _) ⟨g, cap, rfl, ?_, ?_, below_putObj hB (by omega) (by omega) _⟩)
    · have := hr.lt g rfl; omega
    · exact (own_only (Only.putObj (S := (· = w.heap.size + 2)) W _ _ rfl) hr (fun g hg _ h => by omega)).mono (by omega)
end Go.Proofs.YtohnhnomlkcfjaaDoor
