/-
  DERIVED. GIVEN WITH THE SEED: THE CARDS: each row of YtclejidkahpemaaDoorRows.lean that lists a variable, with what it lists TIED to the program's text (the seventh form; the later family's looks); each row that meets fmt, with fmt's text TOLD by the authors' own Lean function (tested against real Go, not proved from fmt's source: count such statements apart). THE CARD IS WHAT COUNTS. Prove the row's statement (the work); the ties are given (YtclejidkahpemaaDoorTie.lean); close each card by the builder's one call (the guide's Derived/Test/ToyasCard.lean, 'card_holds'). Laid BY PROGRAM, IN A SANDBOX (cutbox-door.mjs). By AI agents, Wed Nov 11 2026. No macro, syntax, notation, axiom, sorry.
-/
import Derived.Test.YtclejidkahpemaaDoorRows
import GoSem.ClaimSeven
namespace Go.Proofs.YtclejidkahpemaaDoor
namespace Rows

/-- THE TIED CARD OF 'chaperonlaw31.LinesWrites'. -/
def linesWritesCard : Claim7 := { stood := { row := linesWritesRow, standIns := [], harness := (true, "2b33a7efa721047d47b9353d891b328b7f6564aab71dde2060343828b0acadf1"), looks := false }, kinds := [], alts := [], laidByText := true, laidKinds := [.data, .listed, .data, .pinned], laidTests := true, laidLooks := .later }
def LinesWritesCardSaid : Prop := Claim7.holds Tryd.pinned (.plain (OpenSpec.ofChange linesWritesSpec)) linesWritesCard

/-- THE TIED CARD OF 'chaperonlaw31.LinesReads'. -/
def linesReadsCard : Claim7 := { stood := { row := linesReadsRow, standIns := [], harness := (true, "2b33a7efa721047d47b9353d891b328b7f6564aab71dde2060343828b0acadf1"), looks := false }, kinds := [], alts := [], laidByText := true, laidKinds := [.data, .listed, .data, .pinned], laidTests := true, laidLooks := .later }
def LinesReadsCardSaid : Prop := Claim7.holds Tryd.pinned (.plain (OpenSpec.ofChange linesReadsSpec)) linesReadsCard

/-- THE TIED CARD OF 'chaperonlaw31.LinesKnown'. -/
def linesKnownCard : Claim7 := { stood := { row := linesKnownRow, standIns := [], harness := (true, "2b33a7efa721047d47b9353d891b328b7f6564aab71dde2060343828b0acadf1"), looks := false }, kinds := [], alts := [], laidByText := true, laidKinds := [.data, .listed, .data, .pinned], laidTests := true, laidLooks := .later }
def LinesKnownCardSaid : Prop := Claim7.holds Tryd.pinned (.plain (OpenSpec.ofChange linesKnownSpec)) linesKnownCard

/-- THE TIED CARD OF 'chaperonlaw31.LinesBack'. -/
def linesBackCard : Claim7 := { stood := { row := linesBackRow, standIns := [], harness := (true, "2b33a7efa721047d47b9353d891b328b7f6564aab71dde2060343828b0acadf1"), looks := false }, kinds := [], alts := [], laidByText := true, laidKinds := [.data, .listed, .data, .pinned], laidTests := true, laidLooks := .later }
def LinesBackCardSaid : Prop := Claim7.holds Tryd.pinned (.plain (OpenSpec.ofChange linesBackSpec)) linesBackCard

/-- THE TIED CARD OF 'chaperonlaw31.LinesOnly'. -/
def linesOnlyCard : Claim7 := { stood := { row := linesOnlyRow, standIns := [], harness := (true, "2b33a7efa721047d47b9353d891b328b7f6564aab71dde2060343828b0acadf1"), looks := false }, kinds := [], alts := [], laidByText := true, laidKinds := [.data, .listed, .data, .pinned], laidTests := true, laidLooks := .later }
def LinesOnlyCardSaid : Prop := Claim7.holds Tryd.pinned (.plain (OpenSpec.ofChange linesOnlySpec)) linesOnlyCard

/-- THE TIED CARD OF 'chaperonlaw31.LinesTwo'. -/
def linesTwoCard : Claim7 := { stood := { row := linesTwoRow, standIns := [], harness := (true, "2b33a7efa721047d47b9353d891b328b7f6564aab71dde2060343828b0acadf1"), looks := false }, kinds := [], alts := [], laidByText := true, laidKinds := [.data, .listed, .data, .pinned], laidTests := true, laidLooks := .later }
def LinesTwoCardSaid : Prop := Claim7.holds Tryd.pinned (.plain (OpenSpec.ofChange linesTwoSpec)) linesTwoCard

/-- THE SECOND FORM's CARD OF 'chaperonlaw31.LinesWrites'. -/
def linesWritesUptoCard : Claim7 := { stood := { row := linesWritesUptoRow, standIns := [], harness := (true, "2b33a7efa721047d47b9353d891b328b7f6564aab71dde2060343828b0acadf1"), looks := false }, kinds := [], alts := [], laidByText := true, laidKinds := [.data, .listed, .data, .pinned], laidTests := true, laidLooks := .later }
def LinesWritesUptoCardSaid : Prop := Claim7.holds Tryd.pinned (.plain (OpenSpec.upto linesWritesSpec)) linesWritesUptoCard

/-- THE SECOND FORM's CARD OF 'chaperonlaw31.LinesReads'. -/
def linesReadsUptoCard : Claim7 := { stood := { row := linesReadsUptoRow, standIns := [], harness := (true, "2b33a7efa721047d47b9353d891b328b7f6564aab71dde2060343828b0acadf1"), looks := false }, kinds := [], alts := [], laidByText := true, laidKinds := [.data, .listed, .data, .pinned], laidTests := true, laidLooks := .later }
def LinesReadsUptoCardSaid : Prop := Claim7.holds Tryd.pinned (.plain (OpenSpec.upto linesReadsSpec)) linesReadsUptoCard

/-- THE SECOND FORM's CARD OF 'chaperonlaw31.LinesKnown'. -/
def linesKnownUptoCard : Claim7 := { stood := { row := linesKnownUptoRow, standIns := [], harness := (true, "2b33a7efa721047d47b9353d891b328b7f6564aab71dde2060343828b0acadf1"), looks := false }, kinds := [], alts := [], laidByText := true, laidKinds := [.data, .listed, .data, .pinned], laidTests := true, laidLooks := .later }
def LinesKnownUptoCardSaid : Prop := Claim7.holds Tryd.pinned (.plain (OpenSpec.upto linesKnownSpec)) linesKnownUptoCard

/-- THE SECOND FORM's CARD OF 'chaperonlaw31.LinesBack'. -/
def linesBackUptoCard : Claim7 := { stood := { row := linesBackUptoRow, standIns := [], harness := (true, "2b33a7efa721047d47b9353d891b328b7f6564aab71dde2060343828b0acadf1"), looks := false }, kinds := [], alts := [], laidByText := true, laidKinds := [.data, .listed, .data, .pinned], laidTests := true, laidLooks := .later }
def LinesBackUptoCardSaid : Prop := Claim7.holds Tryd.pinned (.plain (OpenSpec.upto linesBackSpec)) linesBackUptoCard

/-- THE SECOND FORM's CARD OF 'chaperonlaw31.LinesOnly'. -/
def linesOnlyUptoCard : Claim7 := { stood := { row := linesOnlyUptoRow, standIns := [], harness := (true, "2b33a7efa721047d47b9353d891b328b7f6564aab71dde2060343828b0acadf1"), looks := false }, kinds := [], alts := [], laidByText := true, laidKinds := [.data, .listed, .data, .pinned], laidTests := true, laidLooks := .later }
def LinesOnlyUptoCardSaid : Prop := Claim7.holds Tryd.pinned (.plain (OpenSpec.upto linesOnlySpec)) linesOnlyUptoCard

/-- THE SECOND FORM's CARD OF 'chaperonlaw31.LinesTwo'. -/
def linesTwoUptoCard : Claim7 := { stood := { row := linesTwoUptoRow, standIns := [], harness := (true, "2b33a7efa721047d47b9353d891b328b7f6564aab71dde2060343828b0acadf1"), looks := false }, kinds := [], alts := [], laidByText := true, laidKinds := [.data, .listed, .data, .pinned], laidTests := true, laidLooks := .later }
def LinesTwoUptoCardSaid : Prop := Claim7.holds Tryd.pinned (.plain (OpenSpec.upto linesTwoSpec)) linesTwoUptoCard
end Rows
end Go.Proofs.YtclejidkahpemaaDoor
