/-
  No cell of these rows narrows 'for every input' (looked for: loops, veiled, ifaces, maps, wideKeys, modest, calm, conditions, laid).
  DERIVED. THE GIVEN ROWS OF THIS SEAT. 5 by the template 'for every input the law returns true; each argument reads behind the call as it read before'; 0 by the template 'total and deterministic' (their statements: YtiaeckljpdhagaaTotals.lean).
  GIVEN WITH THE SEED: the statements are not yours to turn. If you find one false, say at which input.
  Laid BY PROGRAM, IN A SANDBOX (cutbox-rows.mjs): the forced cells as the released guide's own fill.sh prints them over the translation 49d483e5e35f4d8e… (all of the seat's roots in one cut). By AI agents, Wed Nov 11 2026. No macro, syntax, notation, axiom, sorry.
-/
import Derived.Test.YtiaeckljpdhagaaChecked
import GoSem.Claim
import GoSem.ClaimJoined
import GoSem.ClaimMapViews
import Derived.JoinedTies
import Derived.KernelRfl
namespace Go.Proofs.Ytiaeckljpdhagaa
/- THE CELL 'sum', in the pinned program and in every row, IS THE sha256 OF THE DUMP (.gsa) THAT YtiaeckljpdhagaaProg.lean LOADS. Nothing in Lean hashes anything: it is a label: what it is worth is what the hold of that sum in a sandbox is worth. -/
noncomputable def Try.pinned : Pinned := { name := "ytiaeckljpdhagaa", sum := "49d483e5e35f4d8e787c1792e19938440c4e6215b6f51095d24b5129da840793", checked := Try.checked }
namespace Rows
def none {H : Type} : Left H := { results := [], args := [] }

/-- 'chaperonlaw26.FramesKnown': WHATEVER THE INPUT: true; the input reads as it did. -/
def framesKnownSpec : ChangeSpec := { name := "framesKnown", fn := fun _ => fun
  | [] => { results := [.lit (.bool true)], args := [] }
  | _ => none }
def framesKnownRow : OpenClaim := { program := "ytiaeckljpdhagaa", sum := "49d483e5e35f4d8e787c1792e19938440c4e6215b6f51095d24b5129da840793", func := "chaperon/chaperonlaw26.FramesKnown", spec := "framesKnown", unfollowed := true, recurses := true, apart := false }
def FramesKnownSaid : Prop := framesKnownRow.holds Try.pinned (OpenSpec.ofChange framesKnownSpec)

/-- ITS FALSE NEIGHBOUR: 'it returns false'. Refute it at one input. -/
def framesKnownWrong : ChangeSpec := { name := "framesKnown", fn := fun _ => fun
  | [] => { results := [.lit (.bool false)], args := [] }
  | _ => none }
def FramesKnownWrongFalsely : Prop := framesKnownRow.holds Try.pinned (OpenSpec.ofChange framesKnownWrong)

/-- 'chaperonlaw26.FramesStack': WHATEVER THE INPUT: true; the input reads as it did. -/
def framesStackSpec : ChangeSpec := { name := "framesStack", fn := fun _ => fun
  | [d1, d2] => { results := [.lit (.bool true)], args := [d1, d2] }
  | _ => none }
def framesStackRow : OpenClaim := { program := "ytiaeckljpdhagaa", sum := "49d483e5e35f4d8e787c1792e19938440c4e6215b6f51095d24b5129da840793", func := "chaperon/chaperonlaw26.FramesStack", spec := "framesStack", unfollowed := true, recurses := true, apart := false }
def FramesStackSaid : Prop := framesStackRow.holds Try.pinned (OpenSpec.ofChange framesStackSpec)

/-- ITS FALSE NEIGHBOUR: 'it returns false'. Refute it at one input. -/
def framesStackWrong : ChangeSpec := { name := "framesStack", fn := fun _ => fun
  | [d1, d2] => { results := [.lit (.bool false)], args := [d1, d2] }
  | _ => none }
def FramesStackWrongFalsely : Prop := framesStackRow.holds Try.pinned (OpenSpec.ofChange framesStackWrong)

/-- 'chaperonlaw26.FramesScript': WHATEVER THE INPUT: true; the input reads as it did. -/
def framesScriptSpec : ChangeSpec := { name := "framesScript", fn := fun _ => fun
  | [d1, d2] => { results := [.lit (.bool true)], args := [d1, d2] }
  | _ => none }
def framesScriptRow : OpenClaim := { program := "ytiaeckljpdhagaa", sum := "49d483e5e35f4d8e787c1792e19938440c4e6215b6f51095d24b5129da840793", func := "chaperon/chaperonlaw26.FramesScript", spec := "framesScript", unfollowed := true, recurses := true, apart := false }
def FramesScriptSaid : Prop := framesScriptRow.holds Try.pinned (OpenSpec.ofChange framesScriptSpec)

/-- ITS FALSE NEIGHBOUR: 'it returns false'. Refute it at one input. -/
def framesScriptWrong : ChangeSpec := { name := "framesScript", fn := fun _ => fun
  | [d1, d2] => { results := [.lit (.bool false)], args := [d1, d2] }
  | _ => none }
def FramesScriptWrongFalsely : Prop := framesScriptRow.holds Try.pinned (OpenSpec.ofChange framesScriptWrong)

/-- 'chaperonlaw26.FramesNone': WHATEVER THE INPUT: true; the input reads as it did. -/
def framesNoneSpec : ChangeSpec := { name := "framesNone", fn := fun _ => fun
  | [d] => { results := [.lit (.bool true)], args := [d] }
  | _ => none }
def framesNoneRow : OpenClaim := { program := "ytiaeckljpdhagaa", sum := "49d483e5e35f4d8e787c1792e19938440c4e6215b6f51095d24b5129da840793", func := "chaperon/chaperonlaw26.FramesNone", spec := "framesNone", unfollowed := true, recurses := true, apart := false }
def FramesNoneSaid : Prop := framesNoneRow.holds Try.pinned (OpenSpec.ofChange framesNoneSpec)

/-- ITS FALSE NEIGHBOUR: 'it returns false'. Refute it at one input. -/
def framesNoneWrong : ChangeSpec := { name := "framesNone", fn := fun _ => fun
  | [d] => { results := [.lit (.bool false)], args := [d] }
  | _ => none }
def FramesNoneWrongFalsely : Prop := framesNoneRow.holds Try.pinned (OpenSpec.ofChange framesNoneWrong)

/-- 'chaperonlaw26.FramesApart': WHATEVER THE INPUT: true; the input reads as it did. -/
def framesApartSpec : ChangeSpec := { name := "framesApart", fn := fun _ => fun
  | [d1, d2, d3, d4] => { results := [.lit (.bool true)], args := [d1, d2, d3, d4] }
  | _ => none }
def framesApartRow : OpenClaim := { program := "ytiaeckljpdhagaa", sum := "49d483e5e35f4d8e787c1792e19938440c4e6215b6f51095d24b5129da840793", func := "chaperon/chaperonlaw26.FramesApart", spec := "framesApart", unfollowed := true, recurses := true, apart := false }
def FramesApartSaid : Prop := framesApartRow.holds Try.pinned (OpenSpec.ofChange framesApartSpec)

/-- ITS FALSE NEIGHBOUR: 'it returns false'. Refute it at one input. -/
def framesApartWrong : ChangeSpec := { name := "framesApart", fn := fun _ => fun
  | [d1, d2, d3, d4] => { results := [.lit (.bool false)], args := [d1, d2, d3, d4] }
  | _ => none }
def FramesApartWrongFalsely : Prop := framesApartRow.holds Try.pinned (OpenSpec.ofChange framesApartWrong)

/- THE SECOND FORM. 'bulk': how many values and letters a reading holds, each counted each time it is reached (what is shared counts as often as it is met; a slice's spare places count too). A statement '..UptoSaid' is the law's where the arguments, and the package variables that the reading takes, are together of bulk at most 1048576: NARROWER than '..Said'. Prove '..Said' where nothing that the law and all that it calls make is longer than what came in: it says more and counts as full. Else prove '..UptoSaid'. A law counts once. -/
mutual
def uptoBulk {H : Type} : DataW H → Nat
  | .lit (.string bytes) => bytes.length + 1
  | .lit _ => 1
  | .nil => 1
  | .ptr d => uptoBulk d + 1
  | .slice elems spare => uptoBulkAll elems + uptoBulkAll spare + 1
  | .agg parts => uptoBulkAll parts + 1
  | .iface _ d => uptoBulk d + 1
  | .map entries => uptoBulkEntries entries + 1
  | .held _ => 1
def uptoBulkAll {H : Type} : List (DataW H) → Nat
  | [] => 0
  | d :: r => uptoBulk d + uptoBulkAll r
def uptoBulkEntries {H : Type} : List (Lit × DataW H) → Nat
  | [] => 0
  | x :: r => uptoBulkEntry x + uptoBulkEntries r
def uptoBulkEntry {H : Type} : Lit × DataW H → Nat
  | (.string bytes, d) => bytes.length + uptoBulk d + 1
  | (_, d) => uptoBulk d + 1
 end
def uptoSmall : (H : Type) → List (DataW H) → Bool := fun _ ds => decide (uptoBulkAll ds ≤ 1048576)
def OpenSpec.upto (s : _root_.Go.ChangeSpec) : _root_.Go.OpenSpec := { _root_.Go.OpenSpec.ofChange s with cond := some uptoSmall }

/-- 'chaperonlaw26.FramesKnown', WHERE WHAT IT READS IS OF BULK AT MOST 1048576: true; the input reads as it did. -/
def framesKnownUptoRow : OpenClaim := { program := "ytiaeckljpdhagaa", sum := "49d483e5e35f4d8e787c1792e19938440c4e6215b6f51095d24b5129da840793", func := "chaperon/chaperonlaw26.FramesKnown", spec := "framesKnown", unfollowed := true, recurses := true, apart := false, narrowed := true }
def FramesKnownUptoSaid : Prop := framesKnownUptoRow.holds Try.pinned (OpenSpec.upto framesKnownSpec)

/-- 'chaperonlaw26.FramesStack', WHERE WHAT IT READS IS OF BULK AT MOST 1048576: true; the input reads as it did. -/
def framesStackUptoRow : OpenClaim := { program := "ytiaeckljpdhagaa", sum := "49d483e5e35f4d8e787c1792e19938440c4e6215b6f51095d24b5129da840793", func := "chaperon/chaperonlaw26.FramesStack", spec := "framesStack", unfollowed := true, recurses := true, apart := false, narrowed := true }
def FramesStackUptoSaid : Prop := framesStackUptoRow.holds Try.pinned (OpenSpec.upto framesStackSpec)

/-- 'chaperonlaw26.FramesScript', WHERE WHAT IT READS IS OF BULK AT MOST 1048576: true; the input reads as it did. -/
def framesScriptUptoRow : OpenClaim := { program := "ytiaeckljpdhagaa", sum := "49d483e5e35f4d8e787c1792e19938440c4e6215b6f51095d24b5129da840793", func := "chaperon/chaperonlaw26.FramesScript", spec := "framesScript", unfollowed := true, recurses := true, apart := false, narrowed := true }
def FramesScriptUptoSaid : Prop := framesScriptUptoRow.holds Try.pinned (OpenSpec.upto framesScriptSpec)

/-- 'chaperonlaw26.FramesNone', WHERE WHAT IT READS IS OF BULK AT MOST 1048576: true; the input reads as it did. -/
def framesNoneUptoRow : OpenClaim := { program := "ytiaeckljpdhagaa", sum := "49d483e5e35f4d8e787c1792e19938440c4e6215b6f51095d24b5129da840793", func := "chaperon/chaperonlaw26.FramesNone", spec := "framesNone", unfollowed := true, recurses := true, apart := false, narrowed := true }
def FramesNoneUptoSaid : Prop := framesNoneUptoRow.holds Try.pinned (OpenSpec.upto framesNoneSpec)

/-- 'chaperonlaw26.FramesApart', WHERE WHAT IT READS IS OF BULK AT MOST 1048576: true; the input reads as it did. -/
def framesApartUptoRow : OpenClaim := { program := "ytiaeckljpdhagaa", sum := "49d483e5e35f4d8e787c1792e19938440c4e6215b6f51095d24b5129da840793", func := "chaperon/chaperonlaw26.FramesApart", spec := "framesApart", unfollowed := true, recurses := true, apart := false, narrowed := true }
def FramesApartUptoSaid : Prop := framesApartUptoRow.holds Try.pinned (OpenSpec.upto framesApartSpec)

end Rows
end Go.Proofs.Ytiaeckljpdhagaa
