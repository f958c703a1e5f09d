/-
  DERIVED. GIVEN WITH THE SEED: THE CARDS: each row of YthmmgcjljfndgaaDoorRows.lean that lists a variable, with what it lists TIED to the program's text (the seventh form; the later family's looks); each row that meets fmt, with fmt's text TOLD by the authors' own Lean function (tested against real Go, not proved from fmt's source: count such statements apart). THE CARD IS WHAT COUNTS. Prove the row's statement (the work); the ties are given (YthmmgcjljfndgaaDoorTie.lean); close each card by the builder's one call (the guide's Derived/Test/ToyasCard.lean, 'card_holds'). Laid BY PROGRAM, IN A SANDBOX (cutbox-door.mjs). By AI agents, Wed Nov 11 2026. No macro, syntax, notation, axiom, sorry.
-/
import Derived.Test.YthmmgcjljfndgaaDoorRows
import GoSem.ClaimSeven
namespace Go.Proofs.YthmmgcjljfndgaaDoor
namespace Rows

/-- THE TIED CARD OF 'glossarylaw06.NamesParents'. -/
def namesParentsCard : Claim7 := { stood := { row := namesParentsRow, standIns := [], harness := (true, "437b1babf655edd6f91fc4154940e150c16f7794aca853317b6f40e23dd6aa4c"), looks := false }, kinds := [], alts := [], laidByText := true, laidKinds := [.data, .pinned], laidTests := true, laidLooks := .later }
def NamesParentsCardSaid : Prop := Claim7.holds Tryd.pinned (.plain (OpenSpec.ofChange namesParentsSpec)) namesParentsCard

/-- THE SECOND FORM's CARD OF 'glossarylaw06.NamesParents'. -/
def namesParentsUptoCard : Claim7 := { stood := { row := namesParentsUptoRow, standIns := [], harness := (true, "437b1babf655edd6f91fc4154940e150c16f7794aca853317b6f40e23dd6aa4c"), looks := false }, kinds := [], alts := [], laidByText := true, laidKinds := [.data, .pinned], laidTests := true, laidLooks := .later }
def NamesParentsUptoCardSaid : Prop := Claim7.holds Tryd.pinned (.plain (OpenSpec.upto namesParentsSpec)) namesParentsUptoCard
end Rows
end Go.Proofs.YthmmgcjljfndgaaDoor
