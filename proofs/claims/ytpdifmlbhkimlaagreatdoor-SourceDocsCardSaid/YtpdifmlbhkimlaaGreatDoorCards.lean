/-
  DERIVED. GIVEN WITH THE SEED: THE CARDS: each row of YtpdifmlbhkimlaaGreatDoorRows.lean that lists a variable, with what it lists TIED to the program's text (the seventh form; the later family's looks); each row that meets fmt, with fmt's text TOLD by the authors' own Lean function (tested against real Go, not proved from fmt's source: count such statements apart). THE CARD IS WHAT COUNTS. Prove the row's statement (the work); the ties are given (YtpdifmlbhkimlaaGreatDoorTie.lean); close each card by the builder's one call (the guide's Derived/Test/ToyasCard.lean, 'card_holds'). Laid BY PROGRAM, IN A SANDBOX (cutbox-door.mjs). By AI agents, Wed Nov 11 2026. No macro, syntax, notation, axiom, sorry.
-/
import Derived.Test.YtpdifmlbhkimlaaGreatDoorRows
import GoSem.ClaimSeven
namespace Go.Proofs.YtpdifmlbhkimlaaGreatDoor
namespace Rows

/-- THE TIED CARD OF 'glossarylaw23.SourceDocs'. -/
def sourceDocsCard : Claim7 := { stood := { row := sourceDocsRow, standIns := [], harness := (true, "1be83597600165c895a31e5ac51405cd0401afb7eb0e0cdb34364e870eb16467"), looks := false }, kinds := [], alts := [], laidByText := true, laidKinds := [.data, .pinned], laidTests := true, laidLooks := .later }
def SourceDocsCardSaid : Prop := Claim7.holds Tryz.pinned (.plain (OpenSpec.ofChange sourceDocsSpec)) sourceDocsCard

/-- THE SECOND FORM's CARD OF 'glossarylaw23.SourceDocs'. -/
def sourceDocsUptoCard : Claim7 := { stood := { row := sourceDocsUptoRow, standIns := [], harness := (true, "1be83597600165c895a31e5ac51405cd0401afb7eb0e0cdb34364e870eb16467"), looks := false }, kinds := [], alts := [], laidByText := true, laidKinds := [.data, .pinned], laidTests := true, laidLooks := .later }
def SourceDocsUptoCardSaid : Prop := Claim7.holds Tryz.pinned (.plain (OpenSpec.upto sourceDocsSpec)) sourceDocsUptoCard
end Rows
end Go.Proofs.YtpdifmlbhkimlaaGreatDoor
