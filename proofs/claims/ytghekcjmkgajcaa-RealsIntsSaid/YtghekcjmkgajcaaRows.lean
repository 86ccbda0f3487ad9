/-
  No cell of these rows narrows 'for every input' (looked for: loops, veiled, ifaces, maps, wideKeys, modest, calm, conditions, laid).
  DERIVED. THE GIVEN ROWS OF THIS SEAT. 3 by the template 'for every input the law returns true; each argument reads behind the call as it read before'; 0 by the template 'total and deterministic' (their statements: YtghekcjmkgajcaaTotals.lean).
  GIVEN WITH THE SEED: the statements are not yours to turn. If you find one false, say at which input.
  Laid BY PROGRAM, IN A SANDBOX (cutbox-rows.mjs): the forced cells as the released guide's own fill.sh prints them over the translation f5d50fa3efbfcf8b… (all of the seat's roots in one cut). By AI agents, Wed Nov 11 2026. No macro, syntax, notation, axiom, sorry.
-/
import Derived.Test.YtghekcjmkgajcaaChecked
import GoSem.Claim
import GoSem.ClaimJoined
import GoSem.ClaimMapViews
import Derived.JoinedTies
import Derived.KernelRfl
namespace Go.Proofs.Ytghekcjmkgajcaa
/- THE CELL 'sum', in the pinned program and in every row, IS THE sha256 OF THE DUMP (.gsa) THAT YtghekcjmkgajcaaProg.lean LOADS. Nothing in Lean hashes anything: it is a label: what it is worth is what the hold of that sum in a sandbox is worth. -/
noncomputable def Try.pinned : Pinned := { name := "ytghekcjmkgajcaa", sum := "f5d50fa3efbfcf8b2a62b4a7d33a0d5bb88d91b421f02c5fe3055526463039f1", checked := Try.checked }
namespace Rows
def none {H : Type} : Left H := { results := [], args := [] }

/-- 'chaperonlaw01.RealsOrder': WHATEVER THE INPUT: true; the input reads as it did. -/
def realsOrderSpec : ChangeSpec := { name := "realsOrder", fn := fun _ => fun
  | [d1, d2, d3] => { results := [.lit (.bool true)], args := [d1, d2, d3] }
  | _ => none }
def realsOrderRow : OpenClaim := { program := "ytghekcjmkgajcaa", sum := "f5d50fa3efbfcf8b2a62b4a7d33a0d5bb88d91b421f02c5fe3055526463039f1", func := "chaperon/chaperonlaw01.RealsOrder", spec := "realsOrder", inPlace := ["math.Float64frombits", "math.Float64bits"], unfollowed := true, recurses := true, apart := false }
def RealsOrderSaid : Prop := realsOrderRow.holds Try.pinned (OpenSpec.ofChange realsOrderSpec)

/-- ITS FALSE NEIGHBOUR: 'it returns false'. Refute it at one input. -/
def realsOrderWrong : ChangeSpec := { name := "realsOrder", fn := fun _ => fun
  | [d1, d2, d3] => { results := [.lit (.bool false)], args := [d1, d2, d3] }
  | _ => none }
def RealsOrderWrongFalsely : Prop := realsOrderRow.holds Try.pinned (OpenSpec.ofChange realsOrderWrong)

/-- 'chaperonlaw01.RealsDo': WHATEVER THE INPUT: true; the input reads as it did. -/
def realsDoSpec : ChangeSpec := { name := "realsDo", fn := fun _ => fun
  | [d1, d2, d3] => { results := [.lit (.bool true)], args := [d1, d2, d3] }
  | _ => none }
def realsDoRow : OpenClaim := { program := "ytghekcjmkgajcaa", sum := "f5d50fa3efbfcf8b2a62b4a7d33a0d5bb88d91b421f02c5fe3055526463039f1", func := "chaperon/chaperonlaw01.RealsDo", spec := "realsDo", inPlace := ["math.Float64frombits", "math.Float64bits"], unfollowed := true, recurses := true, apart := false }
def RealsDoSaid : Prop := realsDoRow.holds Try.pinned (OpenSpec.ofChange realsDoSpec)

/-- ITS FALSE NEIGHBOUR: 'it returns false'. Refute it at one input. -/
def realsDoWrong : ChangeSpec := { name := "realsDo", fn := fun _ => fun
  | [d1, d2, d3] => { results := [.lit (.bool false)], args := [d1, d2, d3] }
  | _ => none }
def RealsDoWrongFalsely : Prop := realsDoRow.holds Try.pinned (OpenSpec.ofChange realsDoWrong)

/-- 'chaperonlaw01.RealsInts': WHATEVER THE INPUT: true; the input reads as it did. -/
def realsIntsSpec : ChangeSpec := { name := "realsInts", fn := fun _ => fun
  | [d1, d2] => { results := [.lit (.bool true)], args := [d1, d2] }
  | _ => none }
def realsIntsRow : OpenClaim := { program := "ytghekcjmkgajcaa", sum := "f5d50fa3efbfcf8b2a62b4a7d33a0d5bb88d91b421f02c5fe3055526463039f1", func := "chaperon/chaperonlaw01.RealsInts", spec := "realsInts", inPlace := ["math.Float64frombits", "math.Float64bits", "math.archTrunc"], unfollowed := true, recurses := true, apart := false }
def RealsIntsSaid : Prop := realsIntsRow.holds Try.pinned (OpenSpec.ofChange realsIntsSpec)

/-- ITS FALSE NEIGHBOUR: 'it returns false'. Refute it at one input. -/
def realsIntsWrong : ChangeSpec := { name := "realsInts", fn := fun _ => fun
  | [d1, d2] => { results := [.lit (.bool false)], args := [d1, d2] }
  | _ => none }
def RealsIntsWrongFalsely : Prop := realsIntsRow.holds Try.pinned (OpenSpec.ofChange realsIntsWrong)

/- THE SECOND FORM. 'bulk': how many values and letters a reading holds, each counted each time it is reached (what is shared counts as often as it is met; a slice's spare places count too). A statement '..UptoSaid' is the law's where the arguments, and the package variables that the reading takes, are together of bulk at most 1048576: NARROWER than '..Said'. Prove '..Said' where nothing that the law and all that it calls make is longer than what came in: it says more and counts as full. Else prove '..UptoSaid'. A law counts once. -/
mutual
def uptoBulk {H : Type} : DataW H → Nat
  | .lit (.string bytes) => bytes.length + 1
  | .lit _ => 1
  | .nil => 1
  | .ptr d => uptoBulk d + 1
  | .slice elems spare => uptoBulkAll elems + uptoBulkAll spare + 1
  | .agg parts => uptoBulkAll parts + 1
  | .iface _ d => uptoBulk d + 1
  | .map entries => uptoBulkEntries entries + 1
  | .held _ => 1
def uptoBulkAll {H : Type} : List (DataW H) → Nat
  | [] => 0
  | d :: r => uptoBulk d + uptoBulkAll r
def uptoBulkEntries {H : Type} : List (Lit × DataW H) → Nat
  | [] => 0
  | x :: r => uptoBulkEntry x + uptoBulkEntries r
def uptoBulkEntry {H : Type} : Lit × DataW H → Nat
  | (.string bytes, d) => bytes.length + uptoBulk d + 1
  | (_, d) => uptoBulk d + 1
 end
def uptoSmall : (H : Type) → List (DataW H) → Bool := fun _ ds => decide (uptoBulkAll ds ≤ 1048576)
def OpenSpec.upto (s : _root_.Go.ChangeSpec) : _root_.Go.OpenSpec := { _root_.Go.OpenSpec.ofChange s with cond := some uptoSmall }

/-- 'chaperonlaw01.RealsOrder', WHERE WHAT IT READS IS OF BULK AT MOST 1048576: true; the input reads as it did. -/
def realsOrderUptoRow : OpenClaim := { program := "ytghekcjmkgajcaa", sum := "f5d50fa3efbfcf8b2a62b4a7d33a0d5bb88d91b421f02c5fe3055526463039f1", func := "chaperon/chaperonlaw01.RealsOrder", spec := "realsOrder", inPlace := ["math.Float64frombits", "math.Float64bits"], unfollowed := true, recurses := true, apart := false, narrowed := true }
def RealsOrderUptoSaid : Prop := realsOrderUptoRow.holds Try.pinned (OpenSpec.upto realsOrderSpec)

/-- 'chaperonlaw01.RealsDo', WHERE WHAT IT READS IS OF BULK AT MOST 1048576: true; the input reads as it did. -/
def realsDoUptoRow : OpenClaim := { program := "ytghekcjmkgajcaa", sum := "f5d50fa3efbfcf8b2a62b4a7d33a0d5bb88d91b421f02c5fe3055526463039f1", func := "chaperon/chaperonlaw01.RealsDo", spec := "realsDo", inPlace := ["math.Float64frombits", "math.Float64bits"], unfollowed := true, recurses := true, apart := false, narrowed := true }
def RealsDoUptoSaid : Prop := realsDoUptoRow.holds Try.pinned (OpenSpec.upto realsDoSpec)

/-- 'chaperonlaw01.RealsInts', WHERE WHAT IT READS IS OF BULK AT MOST 1048576: true; the input reads as it did. -/
def realsIntsUptoRow : OpenClaim := { program := "ytghekcjmkgajcaa", sum := "f5d50fa3efbfcf8b2a62b4a7d33a0d5bb88d91b421f02c5fe3055526463039f1", func := "chaperon/chaperonlaw01.RealsInts", spec := "realsInts", inPlace := ["math.Float64frombits", "math.Float64bits", "math.archTrunc"], unfollowed := true, recurses := true, apart := false, narrowed := true }
def RealsIntsUptoSaid : Prop := realsIntsUptoRow.holds Try.pinned (OpenSpec.upto realsIntsSpec)

end Rows
end Go.Proofs.Ytghekcjmkgajcaa
