/- What is known of the library's calls that are not walked: a byte in a text, a text cut at another, a byte counted, the builder's pointer, its text, its room. -/
import Derived.Test.YtblbbmlppmpmjaaTy
import Derived.Test.YtblbbmlppmpmjaaPwS
import Derived.Test.YtblbbmlppmpmjaaPwY
import Derived.Lib.Bytealg
import Derived.Lib.IndexMore
set_option linter.unusedVariables false
set_option linter.unusedSimpArgs false
namespace Go.Proofs.Ytblbbmlppmpmjaa.Pv
open Go Go.Proofs

abbrev CA (prim : CallP) : CallP := ACall Try.prog ty prim
inductive QPrim (h : H) (Q : Out → H → Prop) : FuncId → List V → Prop
  | indexByte (s : List UInt8) (c : Int) : Q (.ret (.int .i64 (Lib.indexByte s c.toNat.toUInt8))) h → QPrim h Q 34 [.str s, .int .u8 c]
  | cut (s sep : List UInt8) : s.length ≤ 4000000000 → Q (.ret (.tup [.str (Lib.cut s sep).1, .str (Lib.cut s sep).2.1, .bool (Lib.cut s sep).2.2])) h → QPrim h Q 21 [.str s, .str sep]
  | count (s : List UInt8) (c : UInt8) : Q (.ret (.int .i64 (Lib.countByte s c))) h → QPrim h Q 25 [.str s, .str [c]]
  | copyCheck (id : Nat) (p b : V) : h[id]? = some (.cells 49 [p, b]) → (p = .nilp ∨ p = .ref id 0) → Q (.ret (.tup [])) (h.set id (.cells 49 [.ref id 0, b])) → QPrim h Q 36 [.ref id 0]
  | string (id : Nat) (p : V) (l : List UInt8) : h[id]? = some (.cells 49 [p, .own 5 1 (l.map byteV)]) → Q (.ret (.str l)) (h.set id (.cells 49 [p, .sl 1 (l.map byteV)])) → QPrim h Q 23 [.ref id 0]
  | grow (id : Nat) (p : V) (n : Int) : h[id]? = some (.cells 49 [p, .own 5 1 []]) → (p = .nilp ∨ p = .ref id 0) → 0 ≤ n ∧ n ≤ 1000000000000 → Q (.ret (.tup [])) (h.set id (.cells 49 [.ref id 0, .own 5 1 []])) → QPrim h Q 41 [.ref id 0, .int .i64 n]
def qprim : CallP := fun f args h Q => QPrim h Q f args
theorem qprim_mono : PMono qprim := by
  intro f args h Q Q' hQ hf
  cases hf with
  | indexByte s c hq => exact .indexByte s c (hQ _ _ hq)
  | cut s sep h1 hq => exact .cut s sep h1 (hQ _ _ hq)
  | count s c hq => exact .count s c (hQ _ _ hq)
  | copyCheck id p b h1 h2 hq => exact .copyCheck id p b h1 h2 (hQ _ _ hq)
  | string id p l h1 hq => exact .string id p l h1 (hQ _ _ hq)
  | grow id p n h1 h2 h3 hq => exact .grow id p n h1 h2 h3 (hQ _ _ hq)
abbrev hp := qprim_mono
theorem row_get {h : H} {id t : Nat} {cs : List V} (h0 : h[id]? = some (.cells t cs)) : h.row id = some cs := by simp only [H.row, h0, Option.bind_some, AObj.row]
theorem ety_get {h : H} {id t : Nat} {cs : List V} (h0 : h[id]? = some (.cells t cs)) : h.ety id = t := by simp only [H.ety, h0]

def strings_IndexByte (s : List UInt8) (c : UInt8) : R Int := R.ok (Lib.indexByte s c)
theorem strings_IndexByte_call {h : H} {x0 : List UInt8} {x1 : UInt8} {Q : Out → H → Prop} {KK : Int → Prop} {X : V → Prop} (hq : (strings_IndexByte x0 x1).post KK X) (hK : ∀ r, KK r → Q (.ret (.int .i64 r)) h) (hX : ∀ v, X v → V.Cl 0 v ∧ Q (.panic v) h) : CA qprim 34 [.str x0, .int .u8 (x1.toNat : Int)] h Q := by
  refine acall_prim (.indexByte x0 (x1.toNat : Int) ?_)
  have e : (x1.toNat : Int).toNat.toUInt8 = x1 := by simp
  rw [e]
  exact hK _ hq
def strings_Cut (s sep : List UInt8) : R (List UInt8 × List UInt8 × Bool) := if s.length ≤ 4000000000 then R.ok (Lib.cut s sep) else .stuck
theorem strings_Cut_call {h : H} {x0 x1 : List UInt8} {Q : Out → H → Prop} {KK : List UInt8 × List UInt8 × Bool → Prop} {X : V → Prop} (hq : (strings_Cut x0 x1).post KK X) (hK : ∀ r, KK r → Q (.ret (.tup [.str r.1, .str r.2.1, .bool r.2.2])) h) (hX : ∀ v, X v → V.Cl 0 v ∧ Q (.panic v) h) : CA qprim 21 [.str x0, .str x1] h Q := by
  unfold strings_Cut at hq
  obtain ⟨hl, hq⟩ := R.guard hq
  exact acall_prim (.cut x0 x1 hl (hK _ hq))
def strings_Count (s sep : List UInt8) : R Int := if sep.length = 1 then R.ok (Lib.countByte s (sep.headD 0)) else .stuck
theorem strings_Count_call {h : H} {x0 x1 : List UInt8} {Q : Out → H → Prop} {KK : Int → Prop} {X : V → Prop} (hq : (strings_Count x0 x1).post KK X) (hK : ∀ r, KK r → Q (.ret (.int .i64 r)) h) (hX : ∀ v, X v → V.Cl 0 v ∧ Q (.panic v) h) : CA qprim 25 [.str x0, .str x1] h Q := by
  unfold strings_Count at hq
  obtain ⟨hl, hq⟩ := R.guard hq
  match x1, hl with
  | [c], _ => exact acall_prim (.count x0 c (hK _ hq))
def strings_Builder_copyCheck (b : Bool) (l : List UInt8) : R (Bool × List UInt8) := R.ok (true, l)
theorem strings_Builder_copyCheck_call {h : H} {o0_0 : Bool} {o0_1 : List UInt8} {id0 : Nat} (h00 : h[id0]? = some (.cells 49 [selfp id0 o0_0, .own 5 1 (List.map byteV o0_1)])) {Q : Out → H → Prop} {KK : Bool × List UInt8 → Prop} {X : V → Prop} (hq : (strings_Builder_copyCheck o0_0 o0_1).post KK X)
    (hK : ∀ r, KK r → Q (.ret (.tup [])) (List.set h id0 (.cells 49 [selfp id0 r.1, .own 5 1 (List.map byteV r.2)]))) (hX : ∀ v, X v → False) : CA qprim 36 [.ref id0 0] h Q := by
  refine acall_prim (.copyCheck id0 _ _ h00 ?_ (hK _ hq))
  cases o0_0
  · exact .inl rfl
  · exact .inr rfl
def strings_Builder_String (b : Bool) (l : List UInt8) : R (List UInt8 × Bool × List UInt8) := R.ok (l, b, l)
theorem strings_Builder_String_call {h : H} {o0_0 : Bool} {o0_1 : List UInt8} {id0 : Nat} (h00 : h[id0]? = some (.cells 49 [selfp id0 o0_0, .own 5 1 (List.map byteV o0_1)])) {Q : Out → H → Prop} {KK : List UInt8 × Bool × List UInt8 → Prop} {X : V → Prop} (hq : (strings_Builder_String o0_0 o0_1).post KK X)
    (hK : ∀ r, KK r → Q (.ret (.str r.1)) (List.set h id0 (.cells 49 [selfp id0 r.2.1, .sl 1 (List.map byteV r.2.2)]))) (hX : ∀ v, X v → False) : CA qprim 23 [.ref id0 0] h Q :=
  acall_prim (.string id0 _ _ h00 (hK _ hq))
def strings_Builder_Grow (b : Bool) (l : List UInt8) (n : Int) : R (Bool × List UInt8) := if l = [] ∧ 0 ≤ n ∧ n ≤ 1000000000000 then R.ok (true, l) else .stuck
theorem strings_Builder_Grow_call {h : H} {o0_0 : Bool} {o0_1 : List UInt8} {x1 : Int} {id0 : Nat} (h00 : h[id0]? = some (.cells 49 [selfp id0 o0_0, .own 5 1 (List.map byteV o0_1)])) {Q : Out → H → Prop} {KK : Bool × List UInt8 → Prop} {X : V → Prop} (hq : (strings_Builder_Grow o0_0 o0_1 x1).post KK X)
    (hK : ∀ r, KK r → Q (.ret (.tup [])) (List.set h id0 (.cells 49 [selfp id0 r.1, .own 5 1 (List.map byteV r.2)]))) (hX : ∀ v, X v → False) : CA qprim 41 [.ref id0 0, .int .i64 x1] h Q := by
  unfold strings_Builder_Grow at hq
  obtain ⟨⟨hl, h1⟩, hq⟩ := R.guard hq
  subst hl
  refine acall_prim (.grow id0 _ _ h00 ?_ h1 (hK _ hq))
  cases o0_0
  · exact .inl rfl
  · exact .inr rfl
end Go.Proofs.Ytblbbmlppmpmjaa.Pv
