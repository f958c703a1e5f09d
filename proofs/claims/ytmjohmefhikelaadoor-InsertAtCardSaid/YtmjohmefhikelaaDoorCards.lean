/-
  DERIVED. GIVEN WITH THE SEED: THE CARDS: each row of YtmjohmefhikelaaDoorRows.lean that lists a variable, with what it lists TIED to the program's text (the seventh form; the later family's looks); each row that meets fmt, with fmt's text TOLD by the authors' own Lean function (tested against real Go, not proved from fmt's source: count such statements apart). THE CARD IS WHAT COUNTS. Prove the row's statement (the work); the ties are given (YtmjohmefhikelaaDoorTie.lean); close each card by the builder's one call (the guide's Derived/Test/ToyasCard.lean, 'card_holds'). Laid BY PROGRAM, IN A SANDBOX (cutbox-door.mjs). By AI agents, Wed Nov 11 2026. No macro, syntax, notation, axiom, sorry.
-/
import Derived.Test.YtmjohmefhikelaaDoorRows
import GoSem.ClaimSeven
namespace Go.Proofs.YtmjohmefhikelaaDoor
namespace Rows

/-- THE TIED CARD OF 'glossarylaw27.InsertAt'. -/
def insertAtCard : Claim7 := { stood := { row := insertAtRow, standIns := [], harness := (true, "05550d8df5e1fa50c55c4786aaa08540046aae08e8f3313f1cebf9c924451a9a"), looks := false }, kinds := [], alts := [], laidByText := true, laidKinds := [.data, .pinned], laidTests := true, laidLooks := .later }
def InsertAtCardSaid : Prop := Claim7.holds Tryd.pinned (.plain (OpenSpec.ofChange insertAtSpec)) insertAtCard

/-- THE TIED CARD OF 'glossarylaw27.InsertNew'. -/
def insertNewCard : Claim7 := { stood := { row := insertNewRow, standIns := [], harness := (true, "05550d8df5e1fa50c55c4786aaa08540046aae08e8f3313f1cebf9c924451a9a"), looks := false }, kinds := [], alts := [], laidByText := true, laidKinds := [.data, .pinned], laidTests := true, laidLooks := .later }
def InsertNewCardSaid : Prop := Claim7.holds Tryd.pinned (.plain (OpenSpec.ofChange insertNewSpec)) insertNewCard

/-- THE TIED CARD OF 'glossarylaw27.InsertJoined'. -/
def insertJoinedCard : Claim7 := { stood := { row := insertJoinedRow, standIns := [], harness := (true, "05550d8df5e1fa50c55c4786aaa08540046aae08e8f3313f1cebf9c924451a9a"), looks := false }, kinds := [], alts := [], laidByText := true, laidKinds := [.data, .pinned], laidTests := true, laidLooks := .later }
def InsertJoinedCardSaid : Prop := Claim7.holds Tryd.pinned (.plain (OpenSpec.ofChange insertJoinedSpec)) insertJoinedCard

/-- THE SECOND FORM's CARD OF 'glossarylaw27.InsertAt'. -/
def insertAtUptoCard : Claim7 := { stood := { row := insertAtUptoRow, standIns := [], harness := (true, "05550d8df5e1fa50c55c4786aaa08540046aae08e8f3313f1cebf9c924451a9a"), looks := false }, kinds := [], alts := [], laidByText := true, laidKinds := [.data, .pinned], laidTests := true, laidLooks := .later }
def InsertAtUptoCardSaid : Prop := Claim7.holds Tryd.pinned (.plain (OpenSpec.upto insertAtSpec)) insertAtUptoCard

/-- THE SECOND FORM's CARD OF 'glossarylaw27.InsertNew'. -/
def insertNewUptoCard : Claim7 := { stood := { row := insertNewUptoRow, standIns := [], harness := (true, "05550d8df5e1fa50c55c4786aaa08540046aae08e8f3313f1cebf9c924451a9a"), looks := false }, kinds := [], alts := [], laidByText := true, laidKinds := [.data, .pinned], laidTests := true, laidLooks := .later }
def InsertNewUptoCardSaid : Prop := Claim7.holds Tryd.pinned (.plain (OpenSpec.upto insertNewSpec)) insertNewUptoCard

/-- THE SECOND FORM's CARD OF 'glossarylaw27.InsertJoined'. -/
def insertJoinedUptoCard : Claim7 := { stood := { row := insertJoinedUptoRow, standIns := [], harness := (true, "05550d8df5e1fa50c55c4786aaa08540046aae08e8f3313f1cebf9c924451a9a"), looks := false }, kinds := [], alts := [], laidByText := true, laidKinds := [.data, .pinned], laidTests := true, laidLooks := .later }
def InsertJoinedUptoCardSaid : Prop := Claim7.holds Tryd.pinned (.plain (OpenSpec.upto insertJoinedSpec)) insertJoinedUptoCard
end Rows
end Go.Proofs.YtmjohmefhikelaaDoor
