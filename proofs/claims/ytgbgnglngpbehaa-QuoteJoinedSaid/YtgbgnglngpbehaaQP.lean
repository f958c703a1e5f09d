/- What is known of the library's calls that are not walked: a byte in a text, the builder's pointer, its text. -/
import Derived.Test.YtgbgnglngpbehaaTy
import Derived.Test.YtgbgnglngpbehaaPwW
import Derived.Lib.Bytealg
set_option linter.unusedVariables false
set_option linter.unusedSimpArgs false
namespace Go.Proofs.Ytgbgnglngpbehaa.Pv
open Go Go.Proofs

abbrev CA (prim : CallP) : CallP := ACall Try.prog ty prim
def qprim : CallP := fun f args h Q =>
  (f = 24 ∧ ∃ s c, args = [.str s, .int .u8 c] ∧ Q (.ret (.int .i64 (Lib.indexByte s c.toNat.toUInt8))) h) ∨
  (f = 32 ∧ ∃ id p b, args = [.ref id 0] ∧ h[id]? = some (.cells 46 [p, b]) ∧ (p = .nilp ∨ p = .ref id 0) ∧ Q (.ret (.tup [])) (h.set id (.cells 46 [.ref id 0, b]))) ∨
  (f = 25 ∧ ∃ id p l, args = [.ref id 0] ∧ h[id]? = some (.cells 46 [p, .own 5 1 (l.map byteV)]) ∧ Q (.ret (.str l)) (h.set id (.cells 46 [p, .sl 1 (l.map byteV)])))
theorem qprim_mono : PMono qprim := by
  rintro f args h Q Q' hQ (⟨hf, s, c, h1, h2⟩ | ⟨hf, id, p, b, h1, h2, h3, h4⟩ | ⟨hf, id, p, l, h1, h2, h4⟩)
  · exact .inl ⟨hf, s, c, h1, hQ _ _ h2⟩
  · exact .inr (.inl ⟨hf, id, p, b, h1, h2, h3, hQ _ _ h4⟩)
  · exact .inr (.inr ⟨hf, id, p, l, h1, h2, hQ _ _ h4⟩)
abbrev hp := qprim_mono
theorem row_get {h : H} {id t : Nat} {cs : List V} (h0 : h[id]? = some (.cells t cs)) : h.row id = some cs := by simp only [H.row, h0, Option.bind_some, AObj.row]
theorem ety_get {h : H} {id t : Nat} {cs : List V} (h0 : h[id]? = some (.cells t cs)) : h.ety id = t := by simp only [H.ety, h0]

def strings_IndexByte (s : List UInt8) (c : UInt8) : R Int := R.ok (Lib.indexByte s c)
theorem strings_IndexByte_call {h : H} {x0 : List UInt8} {x1 : UInt8} {Q : Out → H → Prop} {KK : Int → Prop} {X : V → Prop} (hq : (strings_IndexByte x0 x1).post KK X) (hK : ∀ r, KK r → Q (.ret (.int .i64 r)) h) (hX : ∀ v, X v → V.Cl 0 v ∧ Q (.panic v) h) : CA qprim 24 [.str x0, .int .u8 (x1.toNat : Int)] h Q := by
  refine acall_prim (.inl ⟨rfl, x0, (x1.toNat : Int), rfl, ?_⟩)
  have e : (x1.toNat : Int).toNat.toUInt8 = x1 := by simp
  rw [e]
  exact hK _ hq
def strings_Builder_copyCheck (b : Bool) (l : List UInt8) : R (Bool × List UInt8) := R.ok (true, l)
theorem strings_Builder_copyCheck_call {h : H} {o0_0 : Bool} {o0_1 : List UInt8} {id0 : Nat} (h00 : h[id0]? = some (.cells 46 [selfp id0 o0_0, .own 5 1 (List.map byteV o0_1)])) {Q : Out → H → Prop} {KK : Bool × List UInt8 → Prop} {X : V → Prop} (hq : (strings_Builder_copyCheck o0_0 o0_1).post KK X)
    (hK : ∀ r, KK r → Q (.ret (.tup [])) (List.set h id0 (.cells 46 [selfp id0 r.1, .own 5 1 (List.map byteV r.2)]))) (hX : ∀ v, X v → False) : CA qprim 32 [.ref id0 0] h Q := by
  refine acall_prim (.inr (.inl ⟨rfl, id0, _, _, rfl, h00, ?_, hK _ hq⟩))
  cases o0_0
  · exact .inl rfl
  · exact .inr rfl
def strings_Builder_String (b : Bool) (l : List UInt8) : R (List UInt8 × Bool × List UInt8) := R.ok (l, b, l)
theorem strings_Builder_String_call {h : H} {o0_0 : Bool} {o0_1 : List UInt8} {id0 : Nat} (h00 : h[id0]? = some (.cells 46 [selfp id0 o0_0, .own 5 1 (List.map byteV o0_1)])) {Q : Out → H → Prop} {KK : List UInt8 × Bool × List UInt8 → Prop} {X : V → Prop} (hq : (strings_Builder_String o0_0 o0_1).post KK X)
    (hK : ∀ r, KK r → Q (.ret (.str r.1)) (List.set h id0 (.cells 46 [selfp id0 r.2.1, .sl 1 (List.map byteV r.2.2)]))) (hX : ∀ v, X v → False) : CA qprim 25 [.ref id0 0] h Q :=
  acall_prim (.inr (.inr ⟨rfl, id0, _, _, rfl, h00, hK _ hq⟩))
end Go.Proofs.Ytgbgnglngpbehaa.Pv
