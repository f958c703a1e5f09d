/- What is known of the library's calls that are not walked: a byte in a text, a text cut at another, a byte counted, the builder's pointer, its text, its room. -/
import Derived.Test.YthmmgcjljfndgaaDoorTy
import Derived.Test.YthmmgcjljfndgaaDoorPwS
import Derived.Test.YthmmgcjljfndgaaDoorPwY
import Derived.Lib.Bytealg
import Derived.Test.YthmmgcjljfndgaaDoorLI
set_option linter.unusedVariables false
set_option linter.unusedSimpArgs false
namespace Go.Proofs.YthmmgcjljfndgaaDoor.Pv
open Go Go.Proofs

abbrev CA (prim : CallP) : CallP := ACall Tryd.prog ty prim
inductive QPrim (h : H) (Q : Out → H → Prop) : FuncId → List V → Prop
  | ident (s : List UInt8) : Q (.ret (.bool (I.identS s))) h → QPrim h Q 6 [.str s]
  | full (s : List UInt8) : s.length ≤ 900000000 → Q (.ret (.bool (allOk I.identB 46 s && decide (s.length ≤ 1000)))) h → QPrim h Q 5 [.str s]
  | copyCheck (id : Nat) (p b : V) : h[id]? = some (.cells 43 [p, b]) → (p = .nilp ∨ p = .ref id 0) → Q (.ret (.tup [])) (h.set id (.cells 43 [.ref id 0, b])) → QPrim h Q 26 [.ref id 0]
  | string (id : Nat) (p : V) (l : List UInt8) : h[id]? = some (.cells 43 [p, .own 5 1 (l.map byteV)]) → Q (.ret (.str l)) (h.set id (.cells 43 [p, .sl 1 (l.map byteV)])) → QPrim h Q 21 [.ref id 0]
def qprim : CallP := fun f args h Q => QPrim h Q f args
theorem qprim_mono : PMono qprim := by
  intro f args h Q Q' hQ hf
  cases hf with
  | ident s hq => exact .ident s (hQ _ _ hq)
  | full s h1 hq => exact .full s h1 (hQ _ _ hq)
  | copyCheck id p b h1 h2 hq => exact .copyCheck id p b h1 h2 (hQ _ _ hq)
  | string id p l h1 hq => exact .string id p l h1 (hQ _ _ hq)
abbrev hp := qprim_mono
theorem row_get {h : H} {id t : Nat} {cs : List V} (h0 : h[id]? = some (.cells t cs)) : h.row id = some cs := by simp only [H.row, h0, Option.bind_some, AObj.row]
theorem ety_get {h : H} {id t : Nat} {cs : List V} (h0 : h[id]? = some (.cells t cs)) : h.ety id = t := by simp only [H.ety, h0]

def names_Ident (s : List UInt8) : R Bool := R.ok (I.identS s)
theorem names_Ident_call {h : H} {x0 : List UInt8} {Q : Out → H → Prop} {KK : Bool → Prop} {X : V → Prop} (hq : (names_Ident x0).post KK X) (hK : ∀ r, KK r → Q (.ret (.bool r)) h) (hX : ∀ v, X v → V.Cl 0 v ∧ Q (.panic v) h) : CA qprim 6 [.str x0] h Q := by
  exact acall_prim (.ident x0 (hK _ hq))
def names_Full (s : List UInt8) : R Bool := if s.length ≤ 900000000 then R.ok (allOk I.identB 46 s && decide (s.length ≤ 1000)) else .stuck
theorem names_Full_call {h : H} {x0 : List UInt8} {Q : Out → H → Prop} {KK : Bool → Prop} {X : V → Prop} (hq : (names_Full x0).post KK X) (hK : ∀ r, KK r → Q (.ret (.bool r)) h) (hX : ∀ v, X v → V.Cl 0 v ∧ Q (.panic v) h) : CA qprim 5 [.str x0] h Q := by
  unfold names_Full at hq
  obtain ⟨hl, hq⟩ := R.guard hq
  exact acall_prim (.full x0 hl (hK _ hq))
def strings_Builder_copyCheck (b : Bool) (l : List UInt8) : R (Bool × List UInt8) := R.ok (true, l)
theorem strings_Builder_copyCheck_call {h : H} {o0_0 : Bool} {o0_1 : List UInt8} {id0 : Nat} (h00 : h[id0]? = some (.cells 43 [selfp id0 o0_0, .own 5 1 (List.map byteV o0_1)])) {Q : Out → H → Prop} {KK : Bool × List UInt8 → Prop} {X : V → Prop} (hq : (strings_Builder_copyCheck o0_0 o0_1).post KK X)
    (hK : ∀ r, KK r → Q (.ret (.tup [])) (List.set h id0 (.cells 43 [selfp id0 r.1, .own 5 1 (List.map byteV r.2)]))) (hX : ∀ v, X v → False) : CA qprim 26 [.ref id0 0] h Q := by
  refine acall_prim (.copyCheck id0 _ _ h00 ?_ (hK _ hq))
  cases o0_0
  · exact .inl rfl
  · exact .inr rfl
def strings_Builder_String (b : Bool) (l : List UInt8) : R (List UInt8 × Bool × List UInt8) := R.ok (l, b, l)
theorem strings_Builder_String_call {h : H} {o0_0 : Bool} {o0_1 : List UInt8} {id0 : Nat} (h00 : h[id0]? = some (.cells 43 [selfp id0 o0_0, .own 5 1 (List.map byteV o0_1)])) {Q : Out → H → Prop} {KK : List UInt8 × Bool × List UInt8 → Prop} {X : V → Prop} (hq : (strings_Builder_String o0_0 o0_1).post KK X)
    (hK : ∀ r, KK r → Q (.ret (.str r.1)) (List.set h id0 (.cells 43 [selfp id0 r.2.1, .sl 1 (List.map byteV r.2.2)]))) (hX : ∀ v, X v → False) : CA qprim 21 [.ref id0 0] h Q :=
  acall_prim (.string id0 _ _ h00 (hK _ hq))
end Go.Proofs.YthmmgcjljfndgaaDoor.Pv
