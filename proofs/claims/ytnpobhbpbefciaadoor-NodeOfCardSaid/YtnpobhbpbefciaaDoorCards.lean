/-
  DERIVED. GIVEN WITH THE SEED: THE CARDS: each row of YtnpobhbpbefciaaDoorRows.lean that lists a variable, with what it lists TIED to the program's text (the seventh form; the later family's looks); each row that meets fmt, with fmt's text TOLD by the authors' own Lean function (tested against real Go, not proved from fmt's source: count such statements apart). THE CARD IS WHAT COUNTS. Prove the row's statement (the work); the ties are given (YtnpobhbpbefciaaDoorTie.lean); close each card by the builder's one call (the guide's Derived/Test/ToyasCard.lean, 'card_holds'). Laid BY PROGRAM, IN A SANDBOX (cutbox-door.mjs). By AI agents, Wed Nov 11 2026. No macro, syntax, notation, axiom, sorry.
-/
import Derived.Test.YtnpobhbpbefciaaDoorRows
import GoSem.ClaimSeven
namespace Go.Proofs.YtnpobhbpbefciaaDoor
namespace Rows

/-- THE TIED CARD OF 'glossarylaw07.NodeCounts'. -/
def nodeCountsCard : Claim7 := { stood := { row := nodeCountsRow, standIns := [], harness := (true, "eeb3fb44f59e41ded5a8068cf8adf3b2b10cca9c06f0a0f785fe4dd1346cd100"), looks := false }, kinds := [], alts := [], laidByText := true, laidKinds := [.data, .pinned], laidTests := true, laidLooks := .later }
def NodeCountsCardSaid : Prop := Claim7.holds Tryd.pinned (.plain (OpenSpec.ofChange nodeCountsSpec)) nodeCountsCard

/-- THE TIED CARD OF 'glossarylaw07.NodeOf'. -/
def nodeOfCard : Claim7 := { stood := { row := nodeOfRow, standIns := [], harness := (true, "eeb3fb44f59e41ded5a8068cf8adf3b2b10cca9c06f0a0f785fe4dd1346cd100"), looks := false }, kinds := [], alts := [], laidByText := true, laidKinds := [.data, .pinned], laidTests := true, laidLooks := .later }
def NodeOfCardSaid : Prop := Claim7.holds Tryd.pinned (.plain (OpenSpec.ofChange nodeOfSpec)) nodeOfCard

/-- THE TIED CARD OF 'glossarylaw07.NodeInts'. -/
def nodeIntsCard : Claim7 := { stood := { row := nodeIntsRow, standIns := [], harness := (true, "eeb3fb44f59e41ded5a8068cf8adf3b2b10cca9c06f0a0f785fe4dd1346cd100"), looks := false }, kinds := [], alts := [], laidByText := true, laidKinds := [.data, .pinned], laidTests := true, laidLooks := .later }
def NodeIntsCardSaid : Prop := Claim7.holds Tryd.pinned (.plain (OpenSpec.ofChange nodeIntsSpec)) nodeIntsCard

/-- THE TIED CARD OF 'glossarylaw07.NodeSame'. -/
def nodeSameCard : Claim7 := { stood := { row := nodeSameRow, standIns := [], harness := (true, "eeb3fb44f59e41ded5a8068cf8adf3b2b10cca9c06f0a0f785fe4dd1346cd100"), looks := false }, kinds := [], alts := [], laidByText := true, laidKinds := [.data, .pinned], laidTests := true, laidLooks := .later }
def NodeSameCardSaid : Prop := Claim7.holds Tryd.pinned (.plain (OpenSpec.ofChange nodeSameSpec)) nodeSameCard

/-- THE SECOND FORM's CARD OF 'glossarylaw07.NodeCounts'. -/
def nodeCountsUptoCard : Claim7 := { stood := { row := nodeCountsUptoRow, standIns := [], harness := (true, "eeb3fb44f59e41ded5a8068cf8adf3b2b10cca9c06f0a0f785fe4dd1346cd100"), looks := false }, kinds := [], alts := [], laidByText := true, laidKinds := [.data, .pinned], laidTests := true, laidLooks := .later }
def NodeCountsUptoCardSaid : Prop := Claim7.holds Tryd.pinned (.plain (OpenSpec.upto nodeCountsSpec)) nodeCountsUptoCard

/-- THE SECOND FORM's CARD OF 'glossarylaw07.NodeOf'. -/
def nodeOfUptoCard : Claim7 := { stood := { row := nodeOfUptoRow, standIns := [], harness := (true, "eeb3fb44f59e41ded5a8068cf8adf3b2b10cca9c06f0a0f785fe4dd1346cd100"), looks := false }, kinds := [], alts := [], laidByText := true, laidKinds := [.data, .pinned], laidTests := true, laidLooks := .later }
def NodeOfUptoCardSaid : Prop := Claim7.holds Tryd.pinned (.plain (OpenSpec.upto nodeOfSpec)) nodeOfUptoCard

/-- THE SECOND FORM's CARD OF 'glossarylaw07.NodeInts'. -/
def nodeIntsUptoCard : Claim7 := { stood := { row := nodeIntsUptoRow, standIns := [], harness := (true, "eeb3fb44f59e41ded5a8068cf8adf3b2b10cca9c06f0a0f785fe4dd1346cd100"), looks := false }, kinds := [], alts := [], laidByText := true, laidKinds := [.data, .pinned], laidTests := true, laidLooks := .later }
def NodeIntsUptoCardSaid : Prop := Claim7.holds Tryd.pinned (.plain (OpenSpec.upto nodeIntsSpec)) nodeIntsUptoCard

/-- THE SECOND FORM's CARD OF 'glossarylaw07.NodeSame'. -/
def nodeSameUptoCard : Claim7 := { stood := { row := nodeSameUptoRow, standIns := [], harness := (true, "eeb3fb44f59e41ded5a8068cf8adf3b2b10cca9c06f0a0f785fe4dd1346cd100"), looks := false }, kinds := [], alts := [], laidByText := true, laidKinds := [.data, .pinned], laidTests := true, laidLooks := .later }
def NodeSameUptoCardSaid : Prop := Claim7.holds Tryd.pinned (.plain (OpenSpec.upto nodeSameSpec)) nodeSameUptoCard
end Rows
end Go.Proofs.YtnpobhbpbefciaaDoor
