/-
  No cell of these rows narrows 'for every input' (looked for: loops, veiled, ifaces, maps, wideKeys, modest, calm, conditions, laid).
  DERIVED. THE GIVEN ROWS OF THIS SEAT. 4 by the template 'for every input the law returns true; each argument reads behind the call as it read before'; 0 by the template 'total and deterministic' (their statements: YthmmgcjljfndgaaTotals.lean).
  GIVEN WITH THE SEED: the statements are not yours to turn. If you find one false, say at which input.
  Laid BY PROGRAM, IN A SANDBOX (cutbox-rows.mjs): the forced cells as the released guide's own fill.sh prints them over the translation 62404300d23f6278… (all of the seat's roots in one cut). By AI agents, Wed Nov 11 2026. No macro, syntax, notation, axiom, sorry.
-/
import Derived.Test.YthmmgcjljfndgaaChecked
import GoSem.Claim
import GoSem.ClaimJoined
import GoSem.ClaimMapViews
import Derived.JoinedTies
import Derived.KernelRfl
namespace Go.Proofs.Ythmmgcjljfndgaa
/- THE CELL 'sum', in the pinned program and in every row, IS THE sha256 OF THE DUMP (.gsa) THAT YthmmgcjljfndgaaProg.lean LOADS. Nothing in Lean hashes anything: it is a label: what it is worth is what the hold of that sum in a sandbox is worth. -/
noncomputable def Try.pinned : Pinned := { name := "ythmmgcjljfndgaa", sum := "62404300d23f6278d550de4bfb61807275add0b2fe31a7b81ebe79f6da232662", checked := Try.checked }
namespace Rows
def none {H : Type} : Left H := { results := [], args := [] }

/-- 'glossarylaw06.NamesJoin': WHATEVER THE INPUT: true; the input reads as it did. -/
def namesJoinSpec : ChangeSpec := { name := "namesJoin", fn := fun _ => fun
  | [d1, d2] => { results := [.lit (.bool true)], args := [d1, d2] }
  | _ => none }
def namesJoinRow : OpenClaim := { program := "ythmmgcjljfndgaa", sum := "62404300d23f6278d550de4bfb61807275add0b2fe31a7b81ebe79f6da232662", func := "glossary/glossarylaw06.NamesJoin", spec := "namesJoin", inPlace := ["internal/abi.NoEscape"], apart := false }
def NamesJoinSaid : Prop := namesJoinRow.holds Try.pinned (OpenSpec.ofChange namesJoinSpec)

/-- ITS FALSE NEIGHBOUR: 'it returns false'. Refute it at one input. -/
def namesJoinWrong : ChangeSpec := { name := "namesJoin", fn := fun _ => fun
  | [d1, d2] => { results := [.lit (.bool false)], args := [d1, d2] }
  | _ => none }
def NamesJoinWrongFalsely : Prop := namesJoinRow.holds Try.pinned (OpenSpec.ofChange namesJoinWrong)

/-- 'glossarylaw06.NamesPlaces': WHATEVER THE INPUT: true; the input reads as it did. -/
def namesPlacesSpec : ChangeSpec := { name := "namesPlaces", fn := fun _ => fun
  | [d1, d2] => { results := [.lit (.bool true)], args := [d1, d2] }
  | _ => none }
def namesPlacesRow : OpenClaim := { program := "ythmmgcjljfndgaa", sum := "62404300d23f6278d550de4bfb61807275add0b2fe31a7b81ebe79f6da232662", func := "glossary/glossarylaw06.NamesPlaces", spec := "namesPlaces", inPlace := ["internal/abi.NoEscape"], apart := false }
def NamesPlacesSaid : Prop := namesPlacesRow.holds Try.pinned (OpenSpec.ofChange namesPlacesSpec)

/-- ITS FALSE NEIGHBOUR: 'it returns false'. Refute it at one input. -/
def namesPlacesWrong : ChangeSpec := { name := "namesPlaces", fn := fun _ => fun
  | [d1, d2] => { results := [.lit (.bool false)], args := [d1, d2] }
  | _ => none }
def NamesPlacesWrongFalsely : Prop := namesPlacesRow.holds Try.pinned (OpenSpec.ofChange namesPlacesWrong)

/-- 'glossarylaw06.NamesMake': WHATEVER THE INPUT: true; the input reads as it did. -/
def namesMakeSpec : ChangeSpec := { name := "namesMake", fn := fun _ => fun
  | [d] => { results := [.lit (.bool true)], args := [d] }
  | _ => none }
def namesMakeRow : OpenClaim := { program := "ythmmgcjljfndgaa", sum := "62404300d23f6278d550de4bfb61807275add0b2fe31a7b81ebe79f6da232662", func := "glossary/glossarylaw06.NamesMake", spec := "namesMake", inPlace := ["internal/abi.NoEscape"], apart := false }
def NamesMakeSaid : Prop := namesMakeRow.holds Try.pinned (OpenSpec.ofChange namesMakeSpec)

/-- ITS FALSE NEIGHBOUR: 'it returns false'. Refute it at one input. -/
def namesMakeWrong : ChangeSpec := { name := "namesMake", fn := fun _ => fun
  | [d] => { results := [.lit (.bool false)], args := [d] }
  | _ => none }
def NamesMakeWrongFalsely : Prop := namesMakeRow.holds Try.pinned (OpenSpec.ofChange namesMakeWrong)

/-- 'glossarylaw06.NamesFresh': WHATEVER THE INPUT: true; the input reads as it did. -/
def namesFreshSpec : ChangeSpec := { name := "namesFresh", fn := fun _ => fun
  | [d1, d2] => { results := [.lit (.bool true)], args := [d1, d2] }
  | _ => none }
def namesFreshRow : OpenClaim := { program := "ythmmgcjljfndgaa", sum := "62404300d23f6278d550de4bfb61807275add0b2fe31a7b81ebe79f6da232662", func := "glossary/glossarylaw06.NamesFresh", spec := "namesFresh", inPlace := ["internal/abi.NoEscape"], apart := false }
def NamesFreshSaid : Prop := namesFreshRow.holds Try.pinned (OpenSpec.ofChange namesFreshSpec)

/-- ITS FALSE NEIGHBOUR: 'it returns false'. Refute it at one input. -/
def namesFreshWrong : ChangeSpec := { name := "namesFresh", fn := fun _ => fun
  | [d1, d2] => { results := [.lit (.bool false)], args := [d1, d2] }
  | _ => none }
def NamesFreshWrongFalsely : Prop := namesFreshRow.holds Try.pinned (OpenSpec.ofChange namesFreshWrong)

/- THE SECOND FORM. 'bulk': how many values and letters a reading holds, each counted each time it is reached (what is shared counts as often as it is met; a slice's spare places count too). A statement '..UptoSaid' is the law's where the arguments, and the package variables that the reading takes, are together of bulk at most 1048576: NARROWER than '..Said'. Prove '..Said' where nothing that the law and all that it calls make is longer than what came in: it says more and counts as full. Else prove '..UptoSaid'. A law counts once. -/
mutual
def uptoBulk {H : Type} : DataW H → Nat
  | .lit (.string bytes) => bytes.length + 1
  | .lit _ => 1
  | .nil => 1
  | .ptr d => uptoBulk d + 1
  | .slice elems spare => uptoBulkAll elems + uptoBulkAll spare + 1
  | .agg parts => uptoBulkAll parts + 1
  | .iface _ d => uptoBulk d + 1
  | .map entries => uptoBulkEntries entries + 1
  | .held _ => 1
def uptoBulkAll {H : Type} : List (DataW H) → Nat
  | [] => 0
  | d :: r => uptoBulk d + uptoBulkAll r
def uptoBulkEntries {H : Type} : List (Lit × DataW H) → Nat
  | [] => 0
  | x :: r => uptoBulkEntry x + uptoBulkEntries r
def uptoBulkEntry {H : Type} : Lit × DataW H → Nat
  | (.string bytes, d) => bytes.length + uptoBulk d + 1
  | (_, d) => uptoBulk d + 1
 end
def uptoSmall : (H : Type) → List (DataW H) → Bool := fun _ ds => decide (uptoBulkAll ds ≤ 1048576)
def OpenSpec.upto (s : _root_.Go.ChangeSpec) : _root_.Go.OpenSpec := { _root_.Go.OpenSpec.ofChange s with cond := some uptoSmall }

/-- 'glossarylaw06.NamesJoin', WHERE WHAT IT READS IS OF BULK AT MOST 1048576: true; the input reads as it did. -/
def namesJoinUptoRow : OpenClaim := { program := "ythmmgcjljfndgaa", sum := "62404300d23f6278d550de4bfb61807275add0b2fe31a7b81ebe79f6da232662", func := "glossary/glossarylaw06.NamesJoin", spec := "namesJoin", inPlace := ["internal/abi.NoEscape"], apart := false, narrowed := true }
def NamesJoinUptoSaid : Prop := namesJoinUptoRow.holds Try.pinned (OpenSpec.upto namesJoinSpec)

/-- 'glossarylaw06.NamesPlaces', WHERE WHAT IT READS IS OF BULK AT MOST 1048576: true; the input reads as it did. -/
def namesPlacesUptoRow : OpenClaim := { program := "ythmmgcjljfndgaa", sum := "62404300d23f6278d550de4bfb61807275add0b2fe31a7b81ebe79f6da232662", func := "glossary/glossarylaw06.NamesPlaces", spec := "namesPlaces", inPlace := ["internal/abi.NoEscape"], apart := false, narrowed := true }
def NamesPlacesUptoSaid : Prop := namesPlacesUptoRow.holds Try.pinned (OpenSpec.upto namesPlacesSpec)

/-- 'glossarylaw06.NamesMake', WHERE WHAT IT READS IS OF BULK AT MOST 1048576: true; the input reads as it did. -/
def namesMakeUptoRow : OpenClaim := { program := "ythmmgcjljfndgaa", sum := "62404300d23f6278d550de4bfb61807275add0b2fe31a7b81ebe79f6da232662", func := "glossary/glossarylaw06.NamesMake", spec := "namesMake", inPlace := ["internal/abi.NoEscape"], apart := false, narrowed := true }
def NamesMakeUptoSaid : Prop := namesMakeUptoRow.holds Try.pinned (OpenSpec.upto namesMakeSpec)

/-- 'glossarylaw06.NamesFresh', WHERE WHAT IT READS IS OF BULK AT MOST 1048576: true; the input reads as it did. -/
def namesFreshUptoRow : OpenClaim := { program := "ythmmgcjljfndgaa", sum := "62404300d23f6278d550de4bfb61807275add0b2fe31a7b81ebe79f6da232662", func := "glossary/glossarylaw06.NamesFresh", spec := "namesFresh", inPlace := ["internal/abi.NoEscape"], apart := false, narrowed := true }
def NamesFreshUptoSaid : Prop := namesFreshUptoRow.holds Try.pinned (OpenSpec.upto namesFreshSpec)

end Rows
end Go.Proofs.Ythmmgcjljfndgaa
