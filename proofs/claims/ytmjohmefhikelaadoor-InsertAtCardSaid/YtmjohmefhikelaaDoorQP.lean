/- What is known of the library's calls that are not walked: a byte in a text, a text in a text, blanks cut off, an ending cut off; the string builder; the iterator over lines. -/
import Derived.Test.YtmjohmefhikelaaDoorTe
import Derived.Test.YtmjohmefhikelaaDoorPwDg
import Derived.Test.YtmjohmefhikelaaDoorPwS
import Derived.Test.YtmjohmefhikelaaDoorPwX
import Derived.Lib.Bytealg
import Derived.Lib.IndexMore
import Derived.Lib.Strings
import Derived.Lib.SlTrimSet
set_option linter.unusedVariables false
set_option linter.unusedSimpArgs false
namespace Go.Proofs.YtmjohmefhikelaaDoor.Pv
open Go Go.Proofs

abbrev CA (prim : CallP) : CallP := ACall Tryd.prog ty prim
/-- The lines of a text, each with what is behind it. -/
def linesGo : Nat → List UInt8 → List (List UInt8 × List UInt8)
  | 0, _ => []
  | k + 1, s => if s = [] then [] else if Lib.indexByte s 10 < 0 then [(s, [])] else (s.take ((Lib.indexByte s 10).toNat + 1), s.drop ((Lib.indexByte s 10).toNat + 1)) :: linesGo k (s.drop ((Lib.indexByte s 10).toNat + 1))
def linesP (s : List UInt8) : List (List UInt8 × List UInt8) := linesGo s.length s
def lineStep (id : Nat) (e : List UInt8 × List UInt8) : Step := ([(id, .cells 9 [.str e.2])], [.str e.1])
def ascii (l : List UInt8) : Bool := l.all fun b => decide (b.toNat < 128)
inductive QPrim (h : H) (Q : Out → H → Prop) : FuncId → List V → Prop
  | indexByte (s : List UInt8) (c : Int) : Q (.ret (.int .i64 (Lib.indexByte s c.toNat.toUInt8))) h → QPrim h Q 29 [.str s, .int .u8 c]
  | contains (s sub : List UInt8) : s.length ≤ 4000000000 → Q (.ret (.bool (Lib.contains s sub))) h → QPrim h Q 16 [.str s, .str sub]
  | trimLeft (s cs : List UInt8) : cs.length ≤ 4000000000 → ascii cs = true → Q (.ret (.str (Lib.trimLeftS s cs))) h → QPrim h Q 32 [.str s, .str cs]
  | trimSuffix (s p : List UInt8) : s.length ≤ 4000000000 → Q (.ret (.str (Lib.trimSuffix s p))) h → QPrim h Q 19 [.str s, .str p]
  | copyCheck (id : Nat) (p b : V) : h[id]? = some (.cells 38 [p, b]) → (p = .nilp ∨ p = .ref id 0) → Q (.ret (.tup [])) (h.set id (.cells 38 [.ref id 0, b])) → QPrim h Q 31 [.ref id 0]
  | string (id : Nat) (p : V) (l : List UInt8) : l ≠ [] → h[id]? = some (.cells 38 [p, .own 5 1 (l.map byteV)]) → Q (.ret (.str l)) (h.set id (.cells 38 [p, .sl 1 (l.map byteV)])) → QPrim h Q 20 [.ref id 0]
  | lines (id : Nat) (s : List UInt8) : h[id]? = some (.cells 9 [.str s]) → s.length ≤ 4000000000 → Q (.steps [id] ((linesP s).map (lineStep id))) h → QPrim h Q (1000000 + 28) [.ref id 0]
def qprim : CallP := fun f args h Q => QPrim h Q f args
theorem qprim_mono : PMono qprim := by
  intro f args h Q Q' hQ hf
  cases hf with
  | indexByte s c hq => exact .indexByte s c (hQ _ _ hq)
  | contains s sub h1 hq => exact .contains s sub h1 (hQ _ _ hq)
  | trimLeft s cs h1 h2 hq => exact .trimLeft s cs h1 h2 (hQ _ _ hq)
  | trimSuffix s p h1 hq => exact .trimSuffix s p h1 (hQ _ _ hq)
  | copyCheck id p b h1 h2 hq => exact .copyCheck id p b h1 h2 (hQ _ _ hq)
  | string id p l h0 h1 hq => exact .string id p l h0 h1 (hQ _ _ hq)
  | lines id s h1 h2 hq => exact .lines id s h1 h2 (hQ _ _ hq)
abbrev hp := qprim_mono
theorem row_get {h : H} {id t : Nat} {cs : List V} (h0 : h[id]? = some (.cells t cs)) : h.row id = some cs := by simp only [H.row, h0, Option.bind_some, AObj.row]
theorem ety_get {h : H} {id t : Nat} {cs : List V} (h0 : h[id]? = some (.cells t cs)) : h.ety id = t := by simp only [H.ety, h0]

def strings_IndexByte (s : List UInt8) (c : UInt8) : R Int := R.ok (Lib.indexByte s c)
theorem strings_IndexByte_call {h : H} {x0 : List UInt8} {x1 : UInt8} {Q : Out → H → Prop} {KK : Int → Prop} {X : V → Prop} (hq : (strings_IndexByte x0 x1).post KK X) (hK : ∀ r, KK r → Q (.ret (.int .i64 r)) h) (hX : ∀ v, X v → V.Cl 0 v ∧ Q (.panic v) h) : CA qprim 29 [.str x0, .int .u8 (x1.toNat : Int)] h Q := by
  refine acall_prim (.indexByte x0 (x1.toNat : Int) ?_)
  have e : (x1.toNat : Int).toNat.toUInt8 = x1 := by simp
  rw [e]
  exact hK _ hq
def strings_Contains (s sub : List UInt8) : R Bool := if s.length ≤ 4000000000 then R.ok (Lib.contains s sub) else .stuck
theorem strings_Contains_call {h : H} {x0 x1 : List UInt8} {Q : Out → H → Prop} {KK : Bool → Prop} {X : V → Prop} (hq : (strings_Contains x0 x1).post KK X) (hK : ∀ r, KK r → Q (.ret (.bool r)) h) (hX : ∀ v, X v → V.Cl 0 v ∧ Q (.panic v) h) : CA qprim 16 [.str x0, .str x1] h Q := by
  unfold strings_Contains at hq
  obtain ⟨hl, hq⟩ := R.guard hq
  exact acall_prim (.contains x0 x1 hl (hK _ hq))
def strings_TrimLeft (s cs : List UInt8) : R (List UInt8) := if cs.length ≤ 4000000000 ∧ ascii cs = true then R.ok (Lib.trimLeftS s cs) else .stuck
theorem strings_TrimLeft_call {h : H} {x0 x1 : List UInt8} {Q : Out → H → Prop} {KK : List UInt8 → Prop} {X : V → Prop} (hq : (strings_TrimLeft x0 x1).post KK X) (hK : ∀ r, KK r → Q (.ret (.str r)) h) (hX : ∀ v, X v → V.Cl 0 v ∧ Q (.panic v) h) : CA qprim 32 [.str x0, .str x1] h Q := by
  unfold strings_TrimLeft at hq
  obtain ⟨⟨hl, ha⟩, hq⟩ := R.guard hq
  exact acall_prim (.trimLeft x0 x1 hl ha (hK _ hq))
def strings_TrimSuffix (s p : List UInt8) : R (List UInt8) := if s.length ≤ 4000000000 then R.ok (Lib.trimSuffix s p) else .stuck
theorem strings_TrimSuffix_call {h : H} {x0 x1 : List UInt8} {Q : Out → H → Prop} {KK : List UInt8 → Prop} {X : V → Prop} (hq : (strings_TrimSuffix x0 x1).post KK X) (hK : ∀ r, KK r → Q (.ret (.str r)) h) (hX : ∀ v, X v → V.Cl 0 v ∧ Q (.panic v) h) : CA qprim 19 [.str x0, .str x1] h Q := by
  unfold strings_TrimSuffix at hq
  obtain ⟨hl, hq⟩ := R.guard hq
  exact acall_prim (.trimSuffix x0 x1 hl (hK _ hq))
def strings_Builder_copyCheck (b : Bool) (l : List UInt8) : R (Bool × List UInt8) := R.ok (true, l)
theorem strings_Builder_copyCheck_call {h : H} {o0_0 : Bool} {o0_1 : List UInt8} {id0 : Nat} (h00 : h[id0]? = some (.cells 38 [selfp id0 o0_0, .own 5 1 (List.map byteV o0_1)])) {Q : Out → H → Prop} {KK : Bool × List UInt8 → Prop} {X : V → Prop} (hq : (strings_Builder_copyCheck o0_0 o0_1).post KK X)
    (hK : ∀ r, KK r → Q (.ret (.tup [])) (List.set h id0 (.cells 38 [selfp id0 r.1, .own 5 1 (List.map byteV r.2)]))) (hX : ∀ v, X v → False) : CA qprim 31 [.ref id0 0] h Q := by
  refine acall_prim (.copyCheck id0 _ _ h00 ?_ (hK _ hq))
  cases o0_0
  · exact .inl rfl
  · exact .inr rfl
def strings_Builder_String (b : Bool) (l : List UInt8) : R (List UInt8 × Bool × List UInt8) := if l ≠ [] then R.ok (l, b, l) else .stuck
theorem strings_Builder_String_call {h : H} {o0_0 : Bool} {o0_1 : List UInt8} {id0 : Nat} (h00 : h[id0]? = some (.cells 38 [selfp id0 o0_0, .own 5 1 (List.map byteV o0_1)])) {Q : Out → H → Prop} {KK : List UInt8 × Bool × List UInt8 → Prop} {X : V → Prop} (hq : (strings_Builder_String o0_0 o0_1).post KK X)
    (hK : ∀ r, KK r → Q (.ret (.str r.1)) (List.set h id0 (.cells 38 [selfp id0 r.2.1, .sl 1 (List.map byteV r.2.2)]))) (hX : ∀ v, X v → False) : CA qprim 20 [.ref id0 0] h Q := by
  unfold strings_Builder_String at hq
  obtain ⟨hl, hq⟩ := R.guard hq
  exact acall_prim (.string id0 _ _ hl h00 (hK _ hq))
/-- The iterator's law, as the printed functions use it. -/
theorem lines_it {s : List UInt8} {h : H} {id : Nat} {Q : Out → H → Prop} (hn : s.length ≤ 4000000000) (h0 : h[id]? = some (.cells 9 [.str s]))
    (hq : Q (.steps [id] ((linesP s).map fun e => ([(id, .cells 9 [.str e.2])], [.str e.1]))) h) : CA qprim (1000000 + 28) [.ref id 0] h Q := acall_prim (.lines id s h0 hn hq)
end Go.Proofs.YtmjohmefhikelaaDoor.Pv
