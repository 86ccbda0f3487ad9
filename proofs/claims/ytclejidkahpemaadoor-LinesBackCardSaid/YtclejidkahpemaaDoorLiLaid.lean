/- What the laid variables give a walk. -/
import Derived.Test.YtclejidkahpemaaDoorRows
import Derived.Test.YtclejidkahpemaaDoorLiFields
import Derived.Lib.LaidTab
import Derived.Stop.LaidErr
import Derived.MakeChecks
import Derived.LaidMore
import Derived.ProofKit
import Derived.Lay
namespace Go.Proofs.YtclejidkahpemaaDoor
open Go
theorem laid_own : ownKnob Tryd.prog.godebug = none := by kernel_rfl
def spaceL : List Int := (List.range 256).map spaceV
set_option maxRecDepth 100000 in
theorem laid_tab : (Rows.laid_strings_asciiSpace : DataW Unit) = Lib.tabData .u8 spaceL := by kernel_rfl
theorem spaceL_at (c : Nat) (h : c < 256) : spaceL.getD c 0 = spaceV c := by
  unfold spaceL
  rw [List.getD_eq_getElem?_getD, List.getElem?_map, List.getElem?_range h]; rfl
theorem spaces_of_laid {W : World} (h : laidMetH Tryd.prog Rows.linesWritesRow.laid W) : Spaces W := by
  rw [MakeChecks.laidMetH_plain _ _ _ (by kernel_rfl)] at h
  have h2 : laidMet Tryd.prog (("strings.asciiSpace", Rows.laid_strings_asciiSpace) :: [("unicode/utf8.first", Rows.laid_unicode_utf8_first)]) W := laidMet.tail (laidMet.tail h)
  rw [laid_tab] at h2
  have hT := Lib.tabIs_of_head (g := 0) (t := 73) (e := 5) (n := 256) (by kernel_rfl) (by kernel_rfl) (by kernel_rfl) (by kernel_rfl) (by kernel_rfl) (by kernel_rfl) h2
  intro c hc
  have := hT.cell (g := 0) (by kernel_rfl) c (by unfold spaceL; rw [List.length_map, List.length_range]; exact hc)
  rw [this, spaceL_at c hc]
theorem door_met (os : Os) (args : Array Value) : laidMetH Tryd.prog Rows.linesWritesRow.laid ((World.laidAll Tryd.prog os Rows.linesWritesRow.laid).forCall (fun _ _ => 0) ⟨#[], args, []⟩).memory := by
  rw [MakeChecks.laidMetH_plain _ _ _ (by kernel_rfl)]
  exact laidMet_laidAll _ (by kernel_rfl) (by kernel_rfl)
end Go.Proofs.YtclejidkahpemaaDoor
