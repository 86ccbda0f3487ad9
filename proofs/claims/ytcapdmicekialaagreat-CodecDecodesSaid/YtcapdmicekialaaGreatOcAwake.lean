/- The law's helpers: ends, has; awake. -/
import Derived.Test.YtcapdmicekialaaGreatOcThings
namespace Go.Proofs.YtcapdmicekialaaGreat
open Go.RowKit
attribute [local go_sem] Oper.semAt_some run_store_func run_store_nilFunc
section
variable {N : Nat} {w0 W : World} {l : List Thing}
end
theorem grp_small (n : Nat) (h : n < 128) : grp n = [UInt8.ofNat n] := grp_lt h
theorem grp_300 : grp 300 = [172, 2] := by rw [grp_ge (by decide), grp_lt (by decide)]; rfl
theorem wn_300 : wrNum 9 [] 0 300 = ([172, 2], 0) := by unfold wrNum; rw [show (300 : Int).toNat = 300 from rfl, grp_300]; decide
theorem ww_m1 : wrWhole 9 [172, 2] 0 (-1) = ([172, 2, 1], 0) := by unfold wrWhole; rw [show zz (-1) = 1 from by decide, grp_small 1 (by decide)]; decide
def abS : ByteArray := ⟨#[97, 98]⟩
theorem ws_ab : wrWord 9 [172, 2, 1] 0 abS = ([172, 2, 1, 2, 97, 98], 0) := by unfold wrWord; rw [show abS.size = 2 from rfl, grp_small 2 (by decide)]; decide
theorem rn_300 : rNum [172, 2, 1, 2, 97, 98] (0, 0, 0) = (300, (2, 0, 0)) := by decide
theorem rw_m1 : rWhole [172, 2, 1, 2, 97, 98] (2, 0, 0) = (-1, (3, 0, 0)) := by decide
theorem rs_ab : rWord [172, 2, 1, 2, 97, 98] (3, 0, 0) 2 = ([97, 98], (6, 0, 0)) := by decide
def RetBw (v : Value) (w : World) (e : Ending) (w' : World) : Prop := e = .returned v ∧ Below w.heap.size w w'
end Go.Proofs.YtcapdmicekialaaGreat
