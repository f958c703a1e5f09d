/-
  No cell of these rows narrows 'for every input' (looked for: loops, veiled, ifaces, maps, wideKeys, modest, calm, conditions, laid).
  DERIVED. THE GIVEN ROWS OF THIS SEAT. 7 by the template 'for every input the law returns true; each argument reads behind the call as it read before'; 0 by the template 'total and deterministic' (their statements: YtgbgnglngpbehaaTotals.lean).
  GIVEN WITH THE SEED: the statements are not yours to turn. If you find one false, say at which input.
  Laid BY PROGRAM, IN A SANDBOX (cutbox-rows.mjs): the forced cells as the released guide's own fill.sh prints them over the translation ee96f07208e4fe09… (all of the seat's roots in one cut). By AI agents, Wed Nov 11 2026. No macro, syntax, notation, axiom, sorry.
-/
import Derived.Test.YtgbgnglngpbehaaChecked
import GoSem.Claim
import GoSem.ClaimJoined
import GoSem.ClaimMapViews
import Derived.JoinedTies
import Derived.KernelRfl
namespace Go.Proofs.Ytgbgnglngpbehaa
/- THE CELL 'sum', in the pinned program and in every row, IS THE sha256 OF THE DUMP (.gsa) THAT YtgbgnglngpbehaaProg.lean LOADS. Nothing in Lean hashes anything: it is a label: what it is worth is what the hold of that sum in a sandbox is worth. -/
noncomputable def Try.pinned : Pinned := { name := "ytgbgnglngpbehaa", sum := "ee96f07208e4fe09ac5fb6771eca457a9e9f02515f96a57fea2767343f79b4bc", checked := Try.checked }
namespace Rows
def none {H : Type} : Left H := { results := [], args := [] }

/-- 'glossarylaw04.QuoteTakes': WHATEVER THE INPUT: true; the input reads as it did. -/
def quoteTakesSpec : ChangeSpec := { name := "quoteTakes", fn := fun _ => fun
  | [d] => { results := [.lit (.bool true)], args := [d] }
  | _ => none }
def quoteTakesRow : OpenClaim := { program := "ytgbgnglngpbehaa", sum := "ee96f07208e4fe09ac5fb6771eca457a9e9f02515f96a57fea2767343f79b4bc", func := "glossary/glossarylaw04.QuoteTakes", spec := "quoteTakes", inPlace := ["internal/bytealg.IndexByteString"], unfollowed := true, recurses := true, apart := false }
def QuoteTakesSaid : Prop := quoteTakesRow.holds Try.pinned (OpenSpec.ofChange quoteTakesSpec)

/-- ITS FALSE NEIGHBOUR: 'it returns false'. Refute it at one input. -/
def quoteTakesWrong : ChangeSpec := { name := "quoteTakes", fn := fun _ => fun
  | [d] => { results := [.lit (.bool false)], args := [d] }
  | _ => none }
def QuoteTakesWrongFalsely : Prop := quoteTakesRow.holds Try.pinned (OpenSpec.ofChange quoteTakesWrong)

/-- 'glossarylaw04.QuoteNumbers': WHATEVER THE INPUT: true; the input reads as it did. -/
def quoteNumbersSpec : ChangeSpec := { name := "quoteNumbers", fn := fun _ => fun
  | [d1, d2] => { results := [.lit (.bool true)], args := [d1, d2] }
  | _ => none }
def quoteNumbersRow : OpenClaim := { program := "ytgbgnglngpbehaa", sum := "ee96f07208e4fe09ac5fb6771eca457a9e9f02515f96a57fea2767343f79b4bc", func := "glossary/glossarylaw04.QuoteNumbers", spec := "quoteNumbers", inPlace := ["internal/bytealg.IndexByteString"], unfollowed := true, recurses := true, apart := false }
def QuoteNumbersSaid : Prop := quoteNumbersRow.holds Try.pinned (OpenSpec.ofChange quoteNumbersSpec)

/-- ITS FALSE NEIGHBOUR: 'it returns false'. Refute it at one input. -/
def quoteNumbersWrong : ChangeSpec := { name := "quoteNumbers", fn := fun _ => fun
  | [d1, d2] => { results := [.lit (.bool false)], args := [d1, d2] }
  | _ => none }
def QuoteNumbersWrongFalsely : Prop := quoteNumbersRow.holds Try.pinned (OpenSpec.ofChange quoteNumbersWrong)

/-- 'glossarylaw04.QuoteTexts': WHATEVER THE INPUT: true; the input reads as it did. -/
def quoteTextsSpec : ChangeSpec := { name := "quoteTexts", fn := fun _ => fun
  | [d] => { results := [.lit (.bool true)], args := [d] }
  | _ => none }
def quoteTextsRow : OpenClaim := { program := "ytgbgnglngpbehaa", sum := "ee96f07208e4fe09ac5fb6771eca457a9e9f02515f96a57fea2767343f79b4bc", func := "glossary/glossarylaw04.QuoteTexts", spec := "quoteTexts", inPlace := ["internal/bytealg.IndexByteString", "internal/abi.NoEscape"], unfollowed := true, recurses := true, apart := false }
def QuoteTextsSaid : Prop := quoteTextsRow.holds Try.pinned (OpenSpec.ofChange quoteTextsSpec)

/-- ITS FALSE NEIGHBOUR: 'it returns false'. Refute it at one input. -/
def quoteTextsWrong : ChangeSpec := { name := "quoteTexts", fn := fun _ => fun
  | [d] => { results := [.lit (.bool false)], args := [d] }
  | _ => none }
def QuoteTextsWrongFalsely : Prop := quoteTextsRow.holds Try.pinned (OpenSpec.ofChange quoteTextsWrong)

/-- 'glossarylaw04.QuotePlain': WHATEVER THE INPUT: true; the input reads as it did. -/
def quotePlainSpec : ChangeSpec := { name := "quotePlain", fn := fun _ => fun
  | [d] => { results := [.lit (.bool true)], args := [d] }
  | _ => none }
def quotePlainRow : OpenClaim := { program := "ytgbgnglngpbehaa", sum := "ee96f07208e4fe09ac5fb6771eca457a9e9f02515f96a57fea2767343f79b4bc", func := "glossary/glossarylaw04.QuotePlain", spec := "quotePlain", inPlace := ["internal/bytealg.IndexByteString", "internal/abi.NoEscape"], unfollowed := true, recurses := true, apart := false }
def QuotePlainSaid : Prop := quotePlainRow.holds Try.pinned (OpenSpec.ofChange quotePlainSpec)

/-- ITS FALSE NEIGHBOUR: 'it returns false'. Refute it at one input. -/
def quotePlainWrong : ChangeSpec := { name := "quotePlain", fn := fun _ => fun
  | [d] => { results := [.lit (.bool false)], args := [d] }
  | _ => none }
def QuotePlainWrongFalsely : Prop := quotePlainRow.holds Try.pinned (OpenSpec.ofChange quotePlainWrong)

/-- 'glossarylaw04.QuoteCuts': WHATEVER THE INPUT: true; the input reads as it did. -/
def quoteCutsSpec : ChangeSpec := { name := "quoteCuts", fn := fun _ => fun
  | [d1, d2] => { results := [.lit (.bool true)], args := [d1, d2] }
  | _ => none }
def quoteCutsRow : OpenClaim := { program := "ytgbgnglngpbehaa", sum := "ee96f07208e4fe09ac5fb6771eca457a9e9f02515f96a57fea2767343f79b4bc", func := "glossary/glossarylaw04.QuoteCuts", spec := "quoteCuts", inPlace := ["internal/bytealg.IndexByteString", "internal/abi.NoEscape"], unfollowed := true, recurses := true, apart := false }
def QuoteCutsSaid : Prop := quoteCutsRow.holds Try.pinned (OpenSpec.ofChange quoteCutsSpec)

/-- ITS FALSE NEIGHBOUR: 'it returns false'. Refute it at one input. -/
def quoteCutsWrong : ChangeSpec := { name := "quoteCuts", fn := fun _ => fun
  | [d1, d2] => { results := [.lit (.bool false)], args := [d1, d2] }
  | _ => none }
def QuoteCutsWrongFalsely : Prop := quoteCutsRow.holds Try.pinned (OpenSpec.ofChange quoteCutsWrong)

/-- 'glossarylaw04.QuoteJoined': WHATEVER THE INPUT: true; the input reads as it did. -/
def quoteJoinedSpec : ChangeSpec := { name := "quoteJoined", fn := fun _ => fun
  | [d1, d2] => { results := [.lit (.bool true)], args := [d1, d2] }
  | _ => none }
def quoteJoinedRow : OpenClaim := { program := "ytgbgnglngpbehaa", sum := "ee96f07208e4fe09ac5fb6771eca457a9e9f02515f96a57fea2767343f79b4bc", func := "glossary/glossarylaw04.QuoteJoined", spec := "quoteJoined", inPlace := ["internal/bytealg.IndexByteString", "internal/abi.NoEscape"], unfollowed := true, recurses := true, apart := false }
def QuoteJoinedSaid : Prop := quoteJoinedRow.holds Try.pinned (OpenSpec.ofChange quoteJoinedSpec)

/-- ITS FALSE NEIGHBOUR: 'it returns false'. Refute it at one input. -/
def quoteJoinedWrong : ChangeSpec := { name := "quoteJoined", fn := fun _ => fun
  | [d1, d2] => { results := [.lit (.bool false)], args := [d1, d2] }
  | _ => none }
def QuoteJoinedWrongFalsely : Prop := quoteJoinedRow.holds Try.pinned (OpenSpec.ofChange quoteJoinedWrong)

/-- 'glossarylaw04.QuoteBack': WHATEVER THE INPUT: true; the input reads as it did. -/
def quoteBackSpec : ChangeSpec := { name := "quoteBack", fn := fun _ => fun
  | [d1, d2, d3] => { results := [.lit (.bool true)], args := [d1, d2, d3] }
  | _ => none }
def quoteBackRow : OpenClaim := { program := "ytgbgnglngpbehaa", sum := "ee96f07208e4fe09ac5fb6771eca457a9e9f02515f96a57fea2767343f79b4bc", func := "glossary/glossarylaw04.QuoteBack", spec := "quoteBack", inPlace := ["internal/bytealg.IndexByteString", "internal/abi.NoEscape"], unfollowed := true, recurses := true, apart := false }
def QuoteBackSaid : Prop := quoteBackRow.holds Try.pinned (OpenSpec.ofChange quoteBackSpec)

/-- ITS FALSE NEIGHBOUR: 'it returns false'. Refute it at one input. -/
def quoteBackWrong : ChangeSpec := { name := "quoteBack", fn := fun _ => fun
  | [d1, d2, d3] => { results := [.lit (.bool false)], args := [d1, d2, d3] }
  | _ => none }
def QuoteBackWrongFalsely : Prop := quoteBackRow.holds Try.pinned (OpenSpec.ofChange quoteBackWrong)

/- THE SECOND FORM. 'bulk': how many values and letters a reading holds, each counted each time it is reached (what is shared counts as often as it is met; a slice's spare places count too). A statement '..UptoSaid' is the law's where the arguments, and the package variables that the reading takes, are together of bulk at most 1048576: NARROWER than '..Said'. Prove '..Said' where nothing that the law and all that it calls make is longer than what came in: it says more and counts as full. Else prove '..UptoSaid'. A law counts once. -/
mutual
def uptoBulk {H : Type} : DataW H → Nat
  | .lit (.string bytes) => bytes.length + 1
  | .lit _ => 1
  | .nil => 1
  | .ptr d => uptoBulk d + 1
  | .slice elems spare => uptoBulkAll elems + uptoBulkAll spare + 1
  | .agg parts => uptoBulkAll parts + 1
  | .iface _ d => uptoBulk d + 1
  | .map entries => uptoBulkEntries entries + 1
  | .held _ => 1
def uptoBulkAll {H : Type} : List (DataW H) → Nat
  | [] => 0
  | d :: r => uptoBulk d + uptoBulkAll r
def uptoBulkEntries {H : Type} : List (Lit × DataW H) → Nat
  | [] => 0
  | x :: r => uptoBulkEntry x + uptoBulkEntries r
def uptoBulkEntry {H : Type} : Lit × DataW H → Nat
  | (.string bytes, d) => bytes.length + uptoBulk d + 1
  | (_, d) => uptoBulk d + 1
 end
def uptoSmall : (H : Type) → List (DataW H) → Bool := fun _ ds => decide (uptoBulkAll ds ≤ 1048576)
def OpenSpec.upto (s : _root_.Go.ChangeSpec) : _root_.Go.OpenSpec := { _root_.Go.OpenSpec.ofChange s with cond := some uptoSmall }

/-- 'glossarylaw04.QuoteTakes', WHERE WHAT IT READS IS OF BULK AT MOST 1048576: true; the input reads as it did. -/
def quoteTakesUptoRow : OpenClaim := { program := "ytgbgnglngpbehaa", sum := "ee96f07208e4fe09ac5fb6771eca457a9e9f02515f96a57fea2767343f79b4bc", func := "glossary/glossarylaw04.QuoteTakes", spec := "quoteTakes", inPlace := ["internal/bytealg.IndexByteString"], unfollowed := true, recurses := true, apart := false, narrowed := true }
def QuoteTakesUptoSaid : Prop := quoteTakesUptoRow.holds Try.pinned (OpenSpec.upto quoteTakesSpec)

/-- 'glossarylaw04.QuoteNumbers', WHERE WHAT IT READS IS OF BULK AT MOST 1048576: true; the input reads as it did. -/
def quoteNumbersUptoRow : OpenClaim := { program := "ytgbgnglngpbehaa", sum := "ee96f07208e4fe09ac5fb6771eca457a9e9f02515f96a57fea2767343f79b4bc", func := "glossary/glossarylaw04.QuoteNumbers", spec := "quoteNumbers", inPlace := ["internal/bytealg.IndexByteString"], unfollowed := true, recurses := true, apart := false, narrowed := true }
def QuoteNumbersUptoSaid : Prop := quoteNumbersUptoRow.holds Try.pinned (OpenSpec.upto quoteNumbersSpec)

/-- 'glossarylaw04.QuoteTexts', WHERE WHAT IT READS IS OF BULK AT MOST 1048576: true; the input reads as it did. -/
def quoteTextsUptoRow : OpenClaim := { program := "ytgbgnglngpbehaa", sum := "ee96f07208e4fe09ac5fb6771eca457a9e9f02515f96a57fea2767343f79b4bc", func := "glossary/glossarylaw04.QuoteTexts", spec := "quoteTexts", inPlace := ["internal/bytealg.IndexByteString", "internal/abi.NoEscape"], unfollowed := true, recurses := true, apart := false, narrowed := true }
def QuoteTextsUptoSaid : Prop := quoteTextsUptoRow.holds Try.pinned (OpenSpec.upto quoteTextsSpec)

/-- 'glossarylaw04.QuotePlain', WHERE WHAT IT READS IS OF BULK AT MOST 1048576: true; the input reads as it did. -/
def quotePlainUptoRow : OpenClaim := { program := "ytgbgnglngpbehaa", sum := "ee96f07208e4fe09ac5fb6771eca457a9e9f02515f96a57fea2767343f79b4bc", func := "glossary/glossarylaw04.QuotePlain", spec := "quotePlain", inPlace := ["internal/bytealg.IndexByteString", "internal/abi.NoEscape"], unfollowed := true, recurses := true, apart := false, narrowed := true }
def QuotePlainUptoSaid : Prop := quotePlainUptoRow.holds Try.pinned (OpenSpec.upto quotePlainSpec)

/-- 'glossarylaw04.QuoteCuts', WHERE WHAT IT READS IS OF BULK AT MOST 1048576: true; the input reads as it did. -/
def quoteCutsUptoRow : OpenClaim := { program := "ytgbgnglngpbehaa", sum := "ee96f07208e4fe09ac5fb6771eca457a9e9f02515f96a57fea2767343f79b4bc", func := "glossary/glossarylaw04.QuoteCuts", spec := "quoteCuts", inPlace := ["internal/bytealg.IndexByteString", "internal/abi.NoEscape"], unfollowed := true, recurses := true, apart := false, narrowed := true }
def QuoteCutsUptoSaid : Prop := quoteCutsUptoRow.holds Try.pinned (OpenSpec.upto quoteCutsSpec)

/-- 'glossarylaw04.QuoteJoined', WHERE WHAT IT READS IS OF BULK AT MOST 1048576: true; the input reads as it did. -/
def quoteJoinedUptoRow : OpenClaim := { program := "ytgbgnglngpbehaa", sum := "ee96f07208e4fe09ac5fb6771eca457a9e9f02515f96a57fea2767343f79b4bc", func := "glossary/glossarylaw04.QuoteJoined", spec := "quoteJoined", inPlace := ["internal/bytealg.IndexByteString", "internal/abi.NoEscape"], unfollowed := true, recurses := true, apart := false, narrowed := true }
def QuoteJoinedUptoSaid : Prop := quoteJoinedUptoRow.holds Try.pinned (OpenSpec.upto quoteJoinedSpec)

/-- 'glossarylaw04.QuoteBack', WHERE WHAT IT READS IS OF BULK AT MOST 1048576: true; the input reads as it did. -/
def quoteBackUptoRow : OpenClaim := { program := "ytgbgnglngpbehaa", sum := "ee96f07208e4fe09ac5fb6771eca457a9e9f02515f96a57fea2767343f79b4bc", func := "glossary/glossarylaw04.QuoteBack", spec := "quoteBack", inPlace := ["internal/bytealg.IndexByteString", "internal/abi.NoEscape"], unfollowed := true, recurses := true, apart := false, narrowed := true }
def QuoteBackUptoSaid : Prop := quoteBackUptoRow.holds Try.pinned (OpenSpec.upto quoteBackSpec)

end Rows
end Go.Proofs.Ytgbgnglngpbehaa
