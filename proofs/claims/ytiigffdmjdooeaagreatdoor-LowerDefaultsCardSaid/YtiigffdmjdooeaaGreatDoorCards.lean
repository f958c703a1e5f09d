/-
  DERIVED. GIVEN WITH THE SEED: THE CARDS: each row of YtiigffdmjdooeaaGreatDoorRows.lean that lists a variable, with what it lists TIED to the program's text (the seventh form; the later family's looks); each row that meets fmt, with fmt's text TOLD by the authors' own Lean function (tested against real Go, not proved from fmt's source: count such statements apart). THE CARD IS WHAT COUNTS. Prove the row's statement (the work); the ties are given (YtiigffdmjdooeaaGreatDoorTie.lean); close each card by the builder's one call (the guide's Derived/Test/ToyasCard.lean, 'card_holds'). Laid BY PROGRAM, IN A SANDBOX (cutbox-door.mjs). By AI agents, Wed Nov 11 2026. No macro, syntax, notation, axiom, sorry.
-/
import Derived.Test.YtiigffdmjdooeaaGreatDoorRows
import GoSem.ClaimSeven
namespace Go.Proofs.YtiigffdmjdooeaaGreatDoor
namespace Rows

/-- THE TIED CARD OF 'glossarylaw13.LowerTypes'. -/
def lowerTypesCard : Claim7 := { stood := { row := lowerTypesRow, standIns := [], harness := (true, "c83977ffbee7992636e33c9a34b257ea5744d6d453a2e15121eb8d48dbb09e80"), looks := true }, kinds := [], alts := [], laidByText := true, laidKinds := [.data, .pinned], laidTests := true, laidLooks := .later }
def LowerTypesCardSaid : Prop := Claim7.holds Tryz.pinned (.plain (OpenSpec.ofChange lowerTypesSpec)) lowerTypesCard

/-- THE TIED CARD OF 'glossarylaw13.LowerDefaults'. -/
def lowerDefaultsCard : Claim7 := { stood := { row := lowerDefaultsRow, standIns := [], harness := (true, "c83977ffbee7992636e33c9a34b257ea5744d6d453a2e15121eb8d48dbb09e80"), looks := true }, kinds := [], alts := [], laidByText := true, laidKinds := [.data, .pinned], laidTests := true, laidLooks := .later }
def LowerDefaultsCardSaid : Prop := Claim7.holds Tryz.pinned (.plain (OpenSpec.ofChange lowerDefaultsSpec)) lowerDefaultsCard

/-- THE SECOND FORM's CARD OF 'glossarylaw13.LowerTypes'. -/
def lowerTypesUptoCard : Claim7 := { stood := { row := lowerTypesUptoRow, standIns := [], harness := (true, "c83977ffbee7992636e33c9a34b257ea5744d6d453a2e15121eb8d48dbb09e80"), looks := true }, kinds := [], alts := [], laidByText := true, laidKinds := [.data, .pinned], laidTests := true, laidLooks := .later }
def LowerTypesUptoCardSaid : Prop := Claim7.holds Tryz.pinned (.plain (OpenSpec.upto lowerTypesSpec)) lowerTypesUptoCard

/-- THE SECOND FORM's CARD OF 'glossarylaw13.LowerDefaults'. -/
def lowerDefaultsUptoCard : Claim7 := { stood := { row := lowerDefaultsUptoRow, standIns := [], harness := (true, "c83977ffbee7992636e33c9a34b257ea5744d6d453a2e15121eb8d48dbb09e80"), looks := true }, kinds := [], alts := [], laidByText := true, laidKinds := [.data, .pinned], laidTests := true, laidLooks := .later }
def LowerDefaultsUptoCardSaid : Prop := Claim7.holds Tryz.pinned (.plain (OpenSpec.upto lowerDefaultsSpec)) lowerDefaultsUptoCard
end Rows
end Go.Proofs.YtiigffdmjdooeaaGreatDoor
