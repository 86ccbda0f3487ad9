/-
  No cell of these rows narrows 'for every input' (looked for: loops, veiled, ifaces, maps, wideKeys, modest, calm, conditions, laid).
  DERIVED. THE GIVEN ROWS OF THIS SEAT. 6 by the template 'for every input the law returns true; each argument reads behind the call as it read before'; 0 by the template 'total and deterministic' (their statements: YtcdnmkcnagkkhaaTotals.lean).
  GIVEN WITH THE SEED: the statements are not yours to turn. If you find one false, say at which input.
  Laid BY PROGRAM, IN A SANDBOX (cutbox-rows.mjs): the forced cells as the released guide's own fill.sh prints them over the translation 53064b88160658d5… (all of the seat's roots in one cut). By AI agents, Wed Nov 11 2026. No macro, syntax, notation, axiom, sorry.
-/
import Derived.Test.YtcdnmkcnagkkhaaChecked
import GoSem.Claim
import GoSem.ClaimJoined
import GoSem.ClaimMapViews
import Derived.JoinedTies
import Derived.KernelRfl
namespace Go.Proofs.Ytcdnmkcnagkkhaa
/- THE CELL 'sum', in the pinned program and in every row, IS THE sha256 OF THE DUMP (.gsa) THAT YtcdnmkcnagkkhaaProg.lean LOADS. Nothing in Lean hashes anything: it is a label: what it is worth is what the hold of that sum in a sandbox is worth. -/
noncomputable def Try.pinned : Pinned := { name := "ytcdnmkcnagkkhaa", sum := "53064b88160658d5eae20cfaf342caf574e7b96c1ac8a5d87f5360367cf398bf", checked := Try.checked }
namespace Rows
def none {H : Type} : Left H := { results := [], args := [] }

/-- 'chaperonlaw02.IntsTexts': WHATEVER THE INPUT: true; the input reads as it did. -/
def intsTextsSpec : ChangeSpec := { name := "intsTexts", fn := fun _ => fun
  | [d1, d2] => { results := [.lit (.bool true)], args := [d1, d2] }
  | _ => none }
def intsTextsRow : OpenClaim := { program := "ytcdnmkcnagkkhaa", sum := "53064b88160658d5eae20cfaf342caf574e7b96c1ac8a5d87f5360367cf398bf", func := "chaperon/chaperonlaw02.IntsTexts", spec := "intsTexts", unfollowed := true, recurses := true, apart := false }
def IntsTextsSaid : Prop := intsTextsRow.holds Try.pinned (OpenSpec.ofChange intsTextsSpec)

/-- ITS FALSE NEIGHBOUR: 'it returns false'. Refute it at one input. -/
def intsTextsWrong : ChangeSpec := { name := "intsTexts", fn := fun _ => fun
  | [d1, d2] => { results := [.lit (.bool false)], args := [d1, d2] }
  | _ => none }
def IntsTextsWrongFalsely : Prop := intsTextsRow.holds Try.pinned (OpenSpec.ofChange intsTextsWrong)

/-- 'chaperonlaw02.IntsDo': WHATEVER THE INPUT: true; the input reads as it did. -/
def intsDoSpec : ChangeSpec := { name := "intsDo", fn := fun _ => fun
  | [d1, d2, d3] => { results := [.lit (.bool true)], args := [d1, d2, d3] }
  | _ => none }
def intsDoRow : OpenClaim := { program := "ytcdnmkcnagkkhaa", sum := "53064b88160658d5eae20cfaf342caf574e7b96c1ac8a5d87f5360367cf398bf", func := "chaperon/chaperonlaw02.IntsDo", spec := "intsDo", unfollowed := true, recurses := true, apart := false }
def IntsDoSaid : Prop := intsDoRow.holds Try.pinned (OpenSpec.ofChange intsDoSpec)

/-- ITS FALSE NEIGHBOUR: 'it returns false'. Refute it at one input. -/
def intsDoWrong : ChangeSpec := { name := "intsDo", fn := fun _ => fun
  | [d1, d2, d3] => { results := [.lit (.bool false)], args := [d1, d2, d3] }
  | _ => none }
def IntsDoWrongFalsely : Prop := intsDoRow.holds Try.pinned (OpenSpec.ofChange intsDoWrong)

/-- 'chaperonlaw02.IntsKnown': WHATEVER THE INPUT: true; the input reads as it did. -/
def intsKnownSpec : ChangeSpec := { name := "intsKnown", fn := fun _ => fun
  | [] => { results := [.lit (.bool true)], args := [] }
  | _ => none }
def intsKnownRow : OpenClaim := { program := "ytcdnmkcnagkkhaa", sum := "53064b88160658d5eae20cfaf342caf574e7b96c1ac8a5d87f5360367cf398bf", func := "chaperon/chaperonlaw02.IntsKnown", spec := "intsKnown", unfollowed := true, recurses := true, apart := false }
def IntsKnownSaid : Prop := intsKnownRow.holds Try.pinned (OpenSpec.ofChange intsKnownSpec)

/-- ITS FALSE NEIGHBOUR: 'it returns false'. Refute it at one input. -/
def intsKnownWrong : ChangeSpec := { name := "intsKnown", fn := fun _ => fun
  | [] => { results := [.lit (.bool false)], args := [] }
  | _ => none }
def IntsKnownWrongFalsely : Prop := intsKnownRow.holds Try.pinned (OpenSpec.ofChange intsKnownWrong)

/-- 'chaperonlaw02.IntsRing': WHATEVER THE INPUT: true; the input reads as it did. -/
def intsRingSpec : ChangeSpec := { name := "intsRing", fn := fun _ => fun
  | [d1, d2, d3] => { results := [.lit (.bool true)], args := [d1, d2, d3] }
  | _ => none }
def intsRingRow : OpenClaim := { program := "ytcdnmkcnagkkhaa", sum := "53064b88160658d5eae20cfaf342caf574e7b96c1ac8a5d87f5360367cf398bf", func := "chaperon/chaperonlaw02.IntsRing", spec := "intsRing", unfollowed := true, recurses := true, apart := false }
def IntsRingSaid : Prop := intsRingRow.holds Try.pinned (OpenSpec.ofChange intsRingSpec)

/-- ITS FALSE NEIGHBOUR: 'it returns false'. Refute it at one input. -/
def intsRingWrong : ChangeSpec := { name := "intsRing", fn := fun _ => fun
  | [d1, d2, d3] => { results := [.lit (.bool false)], args := [d1, d2, d3] }
  | _ => none }
def IntsRingWrongFalsely : Prop := intsRingRow.holds Try.pinned (OpenSpec.ofChange intsRingWrong)

/-- 'chaperonlaw02.IntsDivide': WHATEVER THE INPUT: true; the input reads as it did. -/
def intsDivideSpec : ChangeSpec := { name := "intsDivide", fn := fun _ => fun
  | [d1, d2] => { results := [.lit (.bool true)], args := [d1, d2] }
  | _ => none }
def intsDivideRow : OpenClaim := { program := "ytcdnmkcnagkkhaa", sum := "53064b88160658d5eae20cfaf342caf574e7b96c1ac8a5d87f5360367cf398bf", func := "chaperon/chaperonlaw02.IntsDivide", spec := "intsDivide", unfollowed := true, recurses := true, apart := false }
def IntsDivideSaid : Prop := intsDivideRow.holds Try.pinned (OpenSpec.ofChange intsDivideSpec)

/-- ITS FALSE NEIGHBOUR: 'it returns false'. Refute it at one input. -/
def intsDivideWrong : ChangeSpec := { name := "intsDivide", fn := fun _ => fun
  | [d1, d2] => { results := [.lit (.bool false)], args := [d1, d2] }
  | _ => none }
def IntsDivideWrongFalsely : Prop := intsDivideRow.holds Try.pinned (OpenSpec.ofChange intsDivideWrong)

/-- 'chaperonlaw02.IntsBack': WHATEVER THE INPUT: true; the input reads as it did. -/
def intsBackSpec : ChangeSpec := { name := "intsBack", fn := fun _ => fun
  | [d1, d2] => { results := [.lit (.bool true)], args := [d1, d2] }
  | _ => none }
def intsBackRow : OpenClaim := { program := "ytcdnmkcnagkkhaa", sum := "53064b88160658d5eae20cfaf342caf574e7b96c1ac8a5d87f5360367cf398bf", func := "chaperon/chaperonlaw02.IntsBack", spec := "intsBack", unfollowed := true, recurses := true, apart := false }
def IntsBackSaid : Prop := intsBackRow.holds Try.pinned (OpenSpec.ofChange intsBackSpec)

/-- ITS FALSE NEIGHBOUR: 'it returns false'. Refute it at one input. -/
def intsBackWrong : ChangeSpec := { name := "intsBack", fn := fun _ => fun
  | [d1, d2] => { results := [.lit (.bool false)], args := [d1, d2] }
  | _ => none }
def IntsBackWrongFalsely : Prop := intsBackRow.holds Try.pinned (OpenSpec.ofChange intsBackWrong)

/- THE SECOND FORM. 'bulk': how many values and letters a reading holds, each counted each time it is reached (what is shared counts as often as it is met; a slice's spare places count too). A statement '..UptoSaid' is the law's where the arguments, and the package variables that the reading takes, are together of bulk at most 1048576: NARROWER than '..Said'. Prove '..Said' where nothing that the law and all that it calls make is longer than what came in: it says more and counts as full. Else prove '..UptoSaid'. A law counts once. -/
mutual
def uptoBulk {H : Type} : DataW H → Nat
  | .lit (.string bytes) => bytes.length + 1
  | .lit _ => 1
  | .nil => 1
  | .ptr d => uptoBulk d + 1
  | .slice elems spare => uptoBulkAll elems + uptoBulkAll spare + 1
  | .agg parts => uptoBulkAll parts + 1
  | .iface _ d => uptoBulk d + 1
  | .map entries => uptoBulkEntries entries + 1
  | .held _ => 1
def uptoBulkAll {H : Type} : List (DataW H) → Nat
  | [] => 0
  | d :: r => uptoBulk d + uptoBulkAll r
def uptoBulkEntries {H : Type} : List (Lit × DataW H) → Nat
  | [] => 0
  | x :: r => uptoBulkEntry x + uptoBulkEntries r
def uptoBulkEntry {H : Type} : Lit × DataW H → Nat
  | (.string bytes, d) => bytes.length + uptoBulk d + 1
  | (_, d) => uptoBulk d + 1
 end
def uptoSmall : (H : Type) → List (DataW H) → Bool := fun _ ds => decide (uptoBulkAll ds ≤ 1048576)
def OpenSpec.upto (s : _root_.Go.ChangeSpec) : _root_.Go.OpenSpec := { _root_.Go.OpenSpec.ofChange s with cond := some uptoSmall }

/-- 'chaperonlaw02.IntsTexts', WHERE WHAT IT READS IS OF BULK AT MOST 1048576: true; the input reads as it did. -/
def intsTextsUptoRow : OpenClaim := { program := "ytcdnmkcnagkkhaa", sum := "53064b88160658d5eae20cfaf342caf574e7b96c1ac8a5d87f5360367cf398bf", func := "chaperon/chaperonlaw02.IntsTexts", spec := "intsTexts", unfollowed := true, recurses := true, apart := false, narrowed := true }
def IntsTextsUptoSaid : Prop := intsTextsUptoRow.holds Try.pinned (OpenSpec.upto intsTextsSpec)

/-- 'chaperonlaw02.IntsDo', WHERE WHAT IT READS IS OF BULK AT MOST 1048576: true; the input reads as it did. -/
def intsDoUptoRow : OpenClaim := { program := "ytcdnmkcnagkkhaa", sum := "53064b88160658d5eae20cfaf342caf574e7b96c1ac8a5d87f5360367cf398bf", func := "chaperon/chaperonlaw02.IntsDo", spec := "intsDo", unfollowed := true, recurses := true, apart := false, narrowed := true }
def IntsDoUptoSaid : Prop := intsDoUptoRow.holds Try.pinned (OpenSpec.upto intsDoSpec)

/-- 'chaperonlaw02.IntsKnown', WHERE WHAT IT READS IS OF BULK AT MOST 1048576: true; the input reads as it did. -/
def intsKnownUptoRow : OpenClaim := { program := "ytcdnmkcnagkkhaa", sum := "53064b88160658d5eae20cfaf342caf574e7b96c1ac8a5d87f5360367cf398bf", func := "chaperon/chaperonlaw02.IntsKnown", spec := "intsKnown", unfollowed := true, recurses := true, apart := false, narrowed := true }
def IntsKnownUptoSaid : Prop := intsKnownUptoRow.holds Try.pinned (OpenSpec.upto intsKnownSpec)

/-- 'chaperonlaw02.IntsRing', WHERE WHAT IT READS IS OF BULK AT MOST 1048576: true; the input reads as it did. -/
def intsRingUptoRow : OpenClaim := { program := "ytcdnmkcnagkkhaa", sum := "53064b88160658d5eae20cfaf342caf574e7b96c1ac8a5d87f5360367cf398bf", func := "chaperon/chaperonlaw02.IntsRing", spec := "intsRing", unfollowed := true, recurses := true, apart := false, narrowed := true }
def IntsRingUptoSaid : Prop := intsRingUptoRow.holds Try.pinned (OpenSpec.upto intsRingSpec)

/-- 'chaperonlaw02.IntsDivide', WHERE WHAT IT READS IS OF BULK AT MOST 1048576: true; the input reads as it did. -/
def intsDivideUptoRow : OpenClaim := { program := "ytcdnmkcnagkkhaa", sum := "53064b88160658d5eae20cfaf342caf574e7b96c1ac8a5d87f5360367cf398bf", func := "chaperon/chaperonlaw02.IntsDivide", spec := "intsDivide", unfollowed := true, recurses := true, apart := false, narrowed := true }
def IntsDivideUptoSaid : Prop := intsDivideUptoRow.holds Try.pinned (OpenSpec.upto intsDivideSpec)

/-- 'chaperonlaw02.IntsBack', WHERE WHAT IT READS IS OF BULK AT MOST 1048576: true; the input reads as it did. -/
def intsBackUptoRow : OpenClaim := { program := "ytcdnmkcnagkkhaa", sum := "53064b88160658d5eae20cfaf342caf574e7b96c1ac8a5d87f5360367cf398bf", func := "chaperon/chaperonlaw02.IntsBack", spec := "intsBack", unfollowed := true, recurses := true, apart := false, narrowed := true }
def IntsBackUptoSaid : Prop := intsBackUptoRow.holds Try.pinned (OpenSpec.upto intsBackSpec)

end Rows
end Go.Proofs.Ytcdnmkcnagkkhaa
