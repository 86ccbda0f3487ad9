/- OctetKnown, walked. -/
import Derived.Test.YtcapdmicekialaaGreatOcAwake
namespace Go.Proofs.YtcapdmicekialaaGreat
open Go.RowKit
attribute [local go_sem] Oper.semAt_some run_store_func run_store_nilFunc
theorem wn_neg : wrNum 9 [] 0 (-1) = ([], 3) := by unfold wrNum; decide
theorem wn_bad : wrNum 9 [] 3 1 = ([], 3) := by unfold wrNum wr1; decide
theorem strB_nil : strB [] = ⟨#[]⟩ := rfl
theorem strB_ab : strB [97, 98] = ⟨#[97, 98]⟩ := rfl
end Go.Proofs.YtcapdmicekialaaGreat
