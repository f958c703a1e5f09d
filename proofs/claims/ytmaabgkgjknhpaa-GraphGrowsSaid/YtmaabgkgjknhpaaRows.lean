/-
  No cell of these rows narrows 'for every input' (looked for: loops, veiled, ifaces, maps, wideKeys, modest, calm, conditions, laid).
  DERIVED. THE GIVEN ROWS OF THIS SEAT. 6 by the template 'for every input the law returns true; each argument reads behind the call as it read before'; 0 by the template 'total and deterministic' (their statements: YtmaabgkgjknhpaaTotals.lean).
  GIVEN WITH THE SEED: the statements are not yours to turn. If you find one false, say at which input.
  Laid BY PROGRAM, IN A SANDBOX (cutbox-rows.mjs): the forced cells as the released guide's own fill.sh prints them over the translation 80fe8735afb7228e… (all of the seat's roots in one cut). By AI agents, Wed Nov 11 2026. No macro, syntax, notation, axiom, sorry.
-/
import Derived.Test.YtmaabgkgjknhpaaChecked
import GoSem.Claim
import GoSem.ClaimJoined
import GoSem.ClaimMapViews
import Derived.JoinedTies
import Derived.KernelRfl
namespace Go.Proofs.Ytmaabgkgjknhpaa
/- THE CELL 'sum', in the pinned program and in every row, IS THE sha256 OF THE DUMP (.gsa) THAT YtmaabgkgjknhpaaProg.lean LOADS. Nothing in Lean hashes anything: it is a label: what it is worth is what the hold of that sum in a sandbox is worth. -/
noncomputable def Try.pinned : Pinned := { name := "ytmaabgkgjknhpaa", sum := "80fe8735afb7228ea61eea988f2f9d674f5244362215902a8fff0017cd6d90d6", checked := Try.checked }
namespace Rows
def none {H : Type} : Left H := { results := [], args := [] }

/-- 'glossarylaw10.GraphOrders': WHATEVER THE INPUT: true; the input reads as it did. -/
def graphOrdersSpec : ChangeSpec := { name := "graphOrders", fn := fun _ => fun
  | [d1, d2] => { results := [.lit (.bool true)], args := [d1, d2] }
  | _ => none }
def graphOrdersRow : OpenClaim := { program := "ytmaabgkgjknhpaa", sum := "80fe8735afb7228ea61eea988f2f9d674f5244362215902a8fff0017cd6d90d6", func := "glossary/glossarylaw10.GraphOrders", spec := "graphOrders", unfollowed := true, recurses := true, apart := false }
def GraphOrdersSaid : Prop := graphOrdersRow.holds Try.pinned (OpenSpec.ofChange graphOrdersSpec)

/-- ITS FALSE NEIGHBOUR: 'it returns false'. Refute it at one input. -/
def graphOrdersWrong : ChangeSpec := { name := "graphOrders", fn := fun _ => fun
  | [d1, d2] => { results := [.lit (.bool false)], args := [d1, d2] }
  | _ => none }
def GraphOrdersWrongFalsely : Prop := graphOrdersRow.holds Try.pinned (OpenSpec.ofChange graphOrdersWrong)

/-- 'glossarylaw10.GraphInOrder': WHATEVER THE INPUT: true; the input reads as it did. -/
def graphInOrderSpec : ChangeSpec := { name := "graphInOrder", fn := fun _ => fun
  | [d1, d2] => { results := [.lit (.bool true)], args := [d1, d2] }
  | _ => none }
def graphInOrderRow : OpenClaim := { program := "ytmaabgkgjknhpaa", sum := "80fe8735afb7228ea61eea988f2f9d674f5244362215902a8fff0017cd6d90d6", func := "glossary/glossarylaw10.GraphInOrder", spec := "graphInOrder", unfollowed := true, recurses := true, apart := false }
def GraphInOrderSaid : Prop := graphInOrderRow.holds Try.pinned (OpenSpec.ofChange graphInOrderSpec)

/-- ITS FALSE NEIGHBOUR: 'it returns false'. Refute it at one input. -/
def graphInOrderWrong : ChangeSpec := { name := "graphInOrder", fn := fun _ => fun
  | [d1, d2] => { results := [.lit (.bool false)], args := [d1, d2] }
  | _ => none }
def GraphInOrderWrongFalsely : Prop := graphInOrderRow.holds Try.pinned (OpenSpec.ofChange graphInOrderWrong)

/-- 'glossarylaw10.GraphAgain': WHATEVER THE INPUT: true; the input reads as it did. -/
def graphAgainSpec : ChangeSpec := { name := "graphAgain", fn := fun _ => fun
  | [d1, d2] => { results := [.lit (.bool true)], args := [d1, d2] }
  | _ => none }
def graphAgainRow : OpenClaim := { program := "ytmaabgkgjknhpaa", sum := "80fe8735afb7228ea61eea988f2f9d674f5244362215902a8fff0017cd6d90d6", func := "glossary/glossarylaw10.GraphAgain", spec := "graphAgain", unfollowed := true, recurses := true, apart := false }
def GraphAgainSaid : Prop := graphAgainRow.holds Try.pinned (OpenSpec.ofChange graphAgainSpec)

/-- ITS FALSE NEIGHBOUR: 'it returns false'. Refute it at one input. -/
def graphAgainWrong : ChangeSpec := { name := "graphAgain", fn := fun _ => fun
  | [d1, d2] => { results := [.lit (.bool false)], args := [d1, d2] }
  | _ => none }
def GraphAgainWrongFalsely : Prop := graphAgainRow.holds Try.pinned (OpenSpec.ofChange graphAgainWrong)

/-- 'glossarylaw10.GraphClosures': WHATEVER THE INPUT: true; the input reads as it did. -/
def graphClosuresSpec : ChangeSpec := { name := "graphClosures", fn := fun _ => fun
  | [d1, d2] => { results := [.lit (.bool true)], args := [d1, d2] }
  | _ => none }
def graphClosuresRow : OpenClaim := { program := "ytmaabgkgjknhpaa", sum := "80fe8735afb7228ea61eea988f2f9d674f5244362215902a8fff0017cd6d90d6", func := "glossary/glossarylaw10.GraphClosures", spec := "graphClosures", unfollowed := true, recurses := true, apart := false }
def GraphClosuresSaid : Prop := graphClosuresRow.holds Try.pinned (OpenSpec.ofChange graphClosuresSpec)

/-- ITS FALSE NEIGHBOUR: 'it returns false'. Refute it at one input. -/
def graphClosuresWrong : ChangeSpec := { name := "graphClosures", fn := fun _ => fun
  | [d1, d2] => { results := [.lit (.bool false)], args := [d1, d2] }
  | _ => none }
def GraphClosuresWrongFalsely : Prop := graphClosuresRow.holds Try.pinned (OpenSpec.ofChange graphClosuresWrong)

/-- 'glossarylaw10.GraphSees': WHATEVER THE INPUT: true; the input reads as it did. -/
def graphSeesSpec : ChangeSpec := { name := "graphSees", fn := fun _ => fun
  | [d1, d2] => { results := [.lit (.bool true)], args := [d1, d2] }
  | _ => none }
def graphSeesRow : OpenClaim := { program := "ytmaabgkgjknhpaa", sum := "80fe8735afb7228ea61eea988f2f9d674f5244362215902a8fff0017cd6d90d6", func := "glossary/glossarylaw10.GraphSees", spec := "graphSees", unfollowed := true, recurses := true, apart := false }
def GraphSeesSaid : Prop := graphSeesRow.holds Try.pinned (OpenSpec.ofChange graphSeesSpec)

/-- ITS FALSE NEIGHBOUR: 'it returns false'. Refute it at one input. -/
def graphSeesWrong : ChangeSpec := { name := "graphSees", fn := fun _ => fun
  | [d1, d2] => { results := [.lit (.bool false)], args := [d1, d2] }
  | _ => none }
def GraphSeesWrongFalsely : Prop := graphSeesRow.holds Try.pinned (OpenSpec.ofChange graphSeesWrong)

/-- 'glossarylaw10.GraphGrows': WHATEVER THE INPUT: true; the input reads as it did. -/
def graphGrowsSpec : ChangeSpec := { name := "graphGrows", fn := fun _ => fun
  | [d1, d2] => { results := [.lit (.bool true)], args := [d1, d2] }
  | _ => none }
def graphGrowsRow : OpenClaim := { program := "ytmaabgkgjknhpaa", sum := "80fe8735afb7228ea61eea988f2f9d674f5244362215902a8fff0017cd6d90d6", func := "glossary/glossarylaw10.GraphGrows", spec := "graphGrows", unfollowed := true, recurses := true, apart := false }
def GraphGrowsSaid : Prop := graphGrowsRow.holds Try.pinned (OpenSpec.ofChange graphGrowsSpec)

/-- ITS FALSE NEIGHBOUR: 'it returns false'. Refute it at one input. -/
def graphGrowsWrong : ChangeSpec := { name := "graphGrows", fn := fun _ => fun
  | [d1, d2] => { results := [.lit (.bool false)], args := [d1, d2] }
  | _ => none }
def GraphGrowsWrongFalsely : Prop := graphGrowsRow.holds Try.pinned (OpenSpec.ofChange graphGrowsWrong)

/- THE SECOND FORM. 'bulk': how many values and letters a reading holds, each counted each time it is reached (what is shared counts as often as it is met; a slice's spare places count too). A statement '..UptoSaid' is the law's where the arguments, and the package variables that the reading takes, are together of bulk at most 1048576: NARROWER than '..Said'. Prove '..Said' where nothing that the law and all that it calls make is longer than what came in: it says more and counts as full. Else prove '..UptoSaid'. A law counts once. -/
mutual
def uptoBulk {H : Type} : DataW H → Nat
  | .lit (.string bytes) => bytes.length + 1
  | .lit _ => 1
  | .nil => 1
  | .ptr d => uptoBulk d + 1
  | .slice elems spare => uptoBulkAll elems + uptoBulkAll spare + 1
  | .agg parts => uptoBulkAll parts + 1
  | .iface _ d => uptoBulk d + 1
  | .map entries => uptoBulkEntries entries + 1
  | .held _ => 1
def uptoBulkAll {H : Type} : List (DataW H) → Nat
  | [] => 0
  | d :: r => uptoBulk d + uptoBulkAll r
def uptoBulkEntries {H : Type} : List (Lit × DataW H) → Nat
  | [] => 0
  | x :: r => uptoBulkEntry x + uptoBulkEntries r
def uptoBulkEntry {H : Type} : Lit × DataW H → Nat
  | (.string bytes, d) => bytes.length + uptoBulk d + 1
  | (_, d) => uptoBulk d + 1
 end
def uptoSmall : (H : Type) → List (DataW H) → Bool := fun _ ds => decide (uptoBulkAll ds ≤ 1048576)
def OpenSpec.upto (s : _root_.Go.ChangeSpec) : _root_.Go.OpenSpec := { _root_.Go.OpenSpec.ofChange s with cond := some uptoSmall }

/-- 'glossarylaw10.GraphOrders', WHERE WHAT IT READS IS OF BULK AT MOST 1048576: true; the input reads as it did. -/
def graphOrdersUptoRow : OpenClaim := { program := "ytmaabgkgjknhpaa", sum := "80fe8735afb7228ea61eea988f2f9d674f5244362215902a8fff0017cd6d90d6", func := "glossary/glossarylaw10.GraphOrders", spec := "graphOrders", unfollowed := true, recurses := true, apart := false, narrowed := true }
def GraphOrdersUptoSaid : Prop := graphOrdersUptoRow.holds Try.pinned (OpenSpec.upto graphOrdersSpec)

/-- 'glossarylaw10.GraphInOrder', WHERE WHAT IT READS IS OF BULK AT MOST 1048576: true; the input reads as it did. -/
def graphInOrderUptoRow : OpenClaim := { program := "ytmaabgkgjknhpaa", sum := "80fe8735afb7228ea61eea988f2f9d674f5244362215902a8fff0017cd6d90d6", func := "glossary/glossarylaw10.GraphInOrder", spec := "graphInOrder", unfollowed := true, recurses := true, apart := false, narrowed := true }
def GraphInOrderUptoSaid : Prop := graphInOrderUptoRow.holds Try.pinned (OpenSpec.upto graphInOrderSpec)

/-- 'glossarylaw10.GraphAgain', WHERE WHAT IT READS IS OF BULK AT MOST 1048576: true; the input reads as it did. -/
def graphAgainUptoRow : OpenClaim := { program := "ytmaabgkgjknhpaa", sum := "80fe8735afb7228ea61eea988f2f9d674f5244362215902a8fff0017cd6d90d6", func := "glossary/glossarylaw10.GraphAgain", spec := "graphAgain", unfollowed := true, recurses := true, apart := false, narrowed := true }
def GraphAgainUptoSaid : Prop := graphAgainUptoRow.holds Try.pinned (OpenSpec.upto graphAgainSpec)

/-- 'glossarylaw10.GraphClosures', WHERE WHAT IT READS IS OF BULK AT MOST 1048576: true; the input reads as it did. -/
def graphClosuresUptoRow : OpenClaim := { program := "ytmaabgkgjknhpaa", sum := "80fe8735afb7228ea61eea988f2f9d674f5244362215902a8fff0017cd6d90d6", func := "glossary/glossarylaw10.GraphClosures", spec := "graphClosures", unfollowed := true, recurses := true, apart := false, narrowed := true }
def GraphClosuresUptoSaid : Prop := graphClosuresUptoRow.holds Try.pinned (OpenSpec.upto graphClosuresSpec)

/-- 'glossarylaw10.GraphSees', WHERE WHAT IT READS IS OF BULK AT MOST 1048576: true; the input reads as it did. -/
def graphSeesUptoRow : OpenClaim := { program := "ytmaabgkgjknhpaa", sum := "80fe8735afb7228ea61eea988f2f9d674f5244362215902a8fff0017cd6d90d6", func := "glossary/glossarylaw10.GraphSees", spec := "graphSees", unfollowed := true, recurses := true, apart := false, narrowed := true }
def GraphSeesUptoSaid : Prop := graphSeesUptoRow.holds Try.pinned (OpenSpec.upto graphSeesSpec)

/-- 'glossarylaw10.GraphGrows', WHERE WHAT IT READS IS OF BULK AT MOST 1048576: true; the input reads as it did. -/
def graphGrowsUptoRow : OpenClaim := { program := "ytmaabgkgjknhpaa", sum := "80fe8735afb7228ea61eea988f2f9d674f5244362215902a8fff0017cd6d90d6", func := "glossary/glossarylaw10.GraphGrows", spec := "graphGrows", unfollowed := true, recurses := true, apart := false, narrowed := true }
def GraphGrowsUptoSaid : Prop := graphGrowsUptoRow.holds Try.pinned (OpenSpec.upto graphGrowsSpec)

end Rows
end Go.Proofs.Ytmaabgkgjknhpaa
