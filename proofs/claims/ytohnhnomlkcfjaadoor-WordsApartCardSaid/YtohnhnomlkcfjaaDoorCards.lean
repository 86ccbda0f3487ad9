/-
  DERIVED. GIVEN WITH THE SEED: THE CARDS: each row of YtohnhnomlkcfjaaDoorRows.lean that lists a variable, with what it lists TIED to the program's text (the seventh form; the later family's looks); each row that meets fmt, with fmt's text TOLD by the authors' own Lean function (tested against real Go, not proved from fmt's source: count such statements apart). THE CARD IS WHAT COUNTS. Prove the row's statement (the work); the ties are given (YtohnhnomlkcfjaaDoorTie.lean); close each card by the builder's one call (the guide's Derived/Test/ToyasCard.lean, 'card_holds'). Laid BY PROGRAM, IN A SANDBOX (cutbox-door.mjs). By AI agents, Wed Nov 11 2026. No macro, syntax, notation, axiom, sorry.
-/
import Derived.Test.YtohnhnomlkcfjaaDoorRows
import GoSem.ClaimSeven
namespace Go.Proofs.YtohnhnomlkcfjaaDoor
namespace Rows

/-- THE TIED CARD OF 'chaperonlaw04.WordsTells'. -/
def wordsTellsCard : Claim7 := { stood := { row := wordsTellsRow, standIns := [], harness := (true, "3f52a0454bbb31fa7a9a202ab234208c7616d99380c30c9a4543a988b0ab82df"), looks := false }, kinds := [], alts := [], laidByText := true, laidKinds := [.data, .listed, .data, .pinned], laidTests := true, laidLooks := .later }
def WordsTellsCardSaid : Prop := Claim7.holds Tryd.pinned (.plain (OpenSpec.ofChange wordsTellsSpec)) wordsTellsCard

/-- THE TIED CARD OF 'chaperonlaw04.WordsKnown'. -/
def wordsKnownCard : Claim7 := { stood := { row := wordsKnownRow, standIns := [], harness := (true, "3f52a0454bbb31fa7a9a202ab234208c7616d99380c30c9a4543a988b0ab82df"), looks := false }, kinds := [], alts := [], laidByText := true, laidKinds := [.data, .listed, .data, .pinned], laidTests := true, laidLooks := .later }
def WordsKnownCardSaid : Prop := Claim7.holds Tryd.pinned (.plain (OpenSpec.ofChange wordsKnownSpec)) wordsKnownCard

/-- THE TIED CARD OF 'chaperonlaw04.WordsApart'. -/
def wordsApartCard : Claim7 := { stood := { row := wordsApartRow, standIns := [], harness := (true, "3f52a0454bbb31fa7a9a202ab234208c7616d99380c30c9a4543a988b0ab82df"), looks := false }, kinds := [], alts := [], laidByText := true, laidKinds := [.data, .listed, .data, .pinned], laidTests := true, laidLooks := .later }
def WordsApartCardSaid : Prop := Claim7.holds Tryd.pinned (.plain (OpenSpec.ofChange wordsApartSpec)) wordsApartCard

/-- THE TIED CARD OF 'chaperonlaw04.WordsTags'. -/
def wordsTagsCard : Claim7 := { stood := { row := wordsTagsRow, standIns := [], harness := (true, "3f52a0454bbb31fa7a9a202ab234208c7616d99380c30c9a4543a988b0ab82df"), looks := false }, kinds := [], alts := [], laidByText := true, laidKinds := [.data, .listed, .data, .pinned], laidTests := true, laidLooks := .later }
def WordsTagsCardSaid : Prop := Claim7.holds Tryd.pinned (.plain (OpenSpec.ofChange wordsTagsSpec)) wordsTagsCard

/-- THE TIED CARD OF 'chaperonlaw04.WordsReserved'. -/
def wordsReservedCard : Claim7 := { stood := { row := wordsReservedRow, standIns := [], harness := (true, "3f52a0454bbb31fa7a9a202ab234208c7616d99380c30c9a4543a988b0ab82df"), looks := false }, kinds := [], alts := [], laidByText := true, laidKinds := [.data, .listed, .data, .pinned], laidTests := true, laidLooks := .later }
def WordsReservedCardSaid : Prop := Claim7.holds Tryd.pinned (.plain (OpenSpec.ofChange wordsReservedSpec)) wordsReservedCard

/-- THE SECOND FORM's CARD OF 'chaperonlaw04.WordsTells'. -/
def wordsTellsUptoCard : Claim7 := { stood := { row := wordsTellsUptoRow, standIns := [], harness := (true, "3f52a0454bbb31fa7a9a202ab234208c7616d99380c30c9a4543a988b0ab82df"), looks := false }, kinds := [], alts := [], laidByText := true, laidKinds := [.data, .listed, .data, .pinned], laidTests := true, laidLooks := .later }
def WordsTellsUptoCardSaid : Prop := Claim7.holds Tryd.pinned (.plain (OpenSpec.upto wordsTellsSpec)) wordsTellsUptoCard

/-- THE SECOND FORM's CARD OF 'chaperonlaw04.WordsKnown'. -/
def wordsKnownUptoCard : Claim7 := { stood := { row := wordsKnownUptoRow, standIns := [], harness := (true, "3f52a0454bbb31fa7a9a202ab234208c7616d99380c30c9a4543a988b0ab82df"), looks := false }, kinds := [], alts := [], laidByText := true, laidKinds := [.data, .listed, .data, .pinned], laidTests := true, laidLooks := .later }
def WordsKnownUptoCardSaid : Prop := Claim7.holds Tryd.pinned (.plain (OpenSpec.upto wordsKnownSpec)) wordsKnownUptoCard

/-- THE SECOND FORM's CARD OF 'chaperonlaw04.WordsApart'. -/
def wordsApartUptoCard : Claim7 := { stood := { row := wordsApartUptoRow, standIns := [], harness := (true, "3f52a0454bbb31fa7a9a202ab234208c7616d99380c30c9a4543a988b0ab82df"), looks := false }, kinds := [], alts := [], laidByText := true, laidKinds := [.data, .listed, .data, .pinned], laidTests := true, laidLooks := .later }
def WordsApartUptoCardSaid : Prop := Claim7.holds Tryd.pinned (.plain (OpenSpec.upto wordsApartSpec)) wordsApartUptoCard

/-- THE SECOND FORM's CARD OF 'chaperonlaw04.WordsTags'. -/
def wordsTagsUptoCard : Claim7 := { stood := { row := wordsTagsUptoRow, standIns := [], harness := (true, "3f52a0454bbb31fa7a9a202ab234208c7616d99380c30c9a4543a988b0ab82df"), looks := false }, kinds := [], alts := [], laidByText := true, laidKinds := [.data, .listed, .data, .pinned], laidTests := true, laidLooks := .later }
def WordsTagsUptoCardSaid : Prop := Claim7.holds Tryd.pinned (.plain (OpenSpec.upto wordsTagsSpec)) wordsTagsUptoCard

/-- THE SECOND FORM's CARD OF 'chaperonlaw04.WordsReserved'. -/
def wordsReservedUptoCard : Claim7 := { stood := { row := wordsReservedUptoRow, standIns := [], harness := (true, "3f52a0454bbb31fa7a9a202ab234208c7616d99380c30c9a4543a988b0ab82df"), looks := false }, kinds := [], alts := [], laidByText := true, laidKinds := [.data, .listed, .data, .pinned], laidTests := true, laidLooks := .later }
def WordsReservedUptoCardSaid : Prop := Claim7.holds Tryd.pinned (.plain (OpenSpec.upto wordsReservedSpec)) wordsReservedUptoCard
end Rows
end Go.Proofs.YtohnhnomlkcfjaaDoor
