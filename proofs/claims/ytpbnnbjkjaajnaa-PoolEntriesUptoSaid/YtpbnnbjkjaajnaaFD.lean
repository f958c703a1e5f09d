/- What wire's fields yields, as a plain list; what is told of iterators. -/
import Derived.Test.YtpbnnbjkjaajnaaIA
import Derived.Test.YtpbnnbjkjaajnaaT9
set_option linter.unusedVariables false
set_option linter.unusedSimpArgs false
namespace Go.Proofs.Ytpbnnbjkjaajnaa.Pv
open Go Go.Proofs
abbrev FieldT := Int × (Int × Int × Int × List UInt8) × Int
/-- Each field with its place and its problem; up to the first that has one. -/
def fieldsGo (b : List UInt8) : Nat → Int → R (List FieldT)
  | 0, _ => R.stuck
  | k + 1, i => if i < (b.length : Int) then (if 0 ≤ i then (T.wire_Take (b.drop i.toNat)).sure.bind fun r => if r.2.2 = 0 then (fieldsGo b k (IntKind.wrap .i64 (i + r.2.1))).bind fun l => .ok ((i, (r.1.Num, r.1.Kind, r.1.N, r.1.B), r.2.2) :: l) else .ok [(i, (r.1.Num, r.1.Kind, r.1.N, r.1.B), r.2.2)] else .stuck) else .ok []
def fieldsT (b : List UInt8) : R (List FieldT) := fieldsGo b Many 0
def rawV (r : Int × Int × Int × List UInt8) : V := .agg [.int .i64 r.1, .int .i64 r.2.1, .int .u64 r.2.2.1, .sl 1 (List.map byteV r.2.2.2)]
def fieldStep (ce : Nat) (e : FieldT) : Step := ([(ce, .cells 60 [.int .i64 e.2.2])], [.int .i64 e.1, rawV e.2.1])
/-- What is told of iterators: slices.Backward's, wire's fields'. -/
def iterP : CallP := fun f args h Q =>
  (f = 1000000 + 46 ∧ ∃ id xs, args = [.ref id 0] ∧ h[id]? = some (.cells 65 [.sl 4 xs]) ∧ (∀ x ∈ xs, ∃ a b c d, x = .agg [a, b, c, d]) ∧ xs.length ≤ 1000000000 ∧ Q (.steps [id] ((revIdx xs).map backStep)) h) ∨
  (f = 1000000 + 77 ∧ ∃ jb je ce b e0 l, args = [.ref jb 0, .ref je 0] ∧ jb ≠ ce ∧ je ≠ ce ∧ h[jb]? = some (.cells 28 [.sl 1 (List.map byteV b)]) ∧ h[je]? = some (.cells 105 [.ref ce 0]) ∧ h[ce]? = some (.cells 60 [.int .i64 e0]) ∧ fieldsT b = .ok l ∧ Q (.steps [jb, je, ce] (l.map (fieldStep ce))) h)
theorem iterP_mono : PMono iterP := fun f args h Q Q' hQ hf => by
  rcases hf with ⟨rfl, id, xs, h1, h2, h3, h4, hq⟩ | ⟨rfl, jb, je, ce, b, e0, l, h1, h2, h3, h4, h5, h6, h7, hq⟩
  · exact .inl ⟨rfl, id, xs, h1, h2, h3, h4, hQ _ _ hq⟩
  · exact .inr ⟨rfl, jb, je, ce, b, e0, l, h1, h2, h3, h4, h5, h6, h7, hQ _ _ hq⟩
theorem revTo_map {α β : Type} (f : α → β) (l : List α) : ∀ n, revTo (l.map f) n = (revTo l n).map fun e => (e.1, f e.2)
  | 0 => rfl
  | n + 1 => by
    simp only [revTo, List.getElem?_map, revTo_map f l n, List.map_append]
    cases l[n]? <;> rfl
end Go.Proofs.Ytpbnnbjkjaajnaa.Pv
