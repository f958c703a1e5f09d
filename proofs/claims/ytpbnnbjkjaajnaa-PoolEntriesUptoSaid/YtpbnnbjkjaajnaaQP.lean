/- Told by hand: awake, which is reckoned; the iterators. -/
import Derived.Test.YtpbnnbjkjaajnaaXT
import Derived.Test.YtpbnnbjkjaajnaaTe
import Derived.Test.YtpbnnbjkjaajnaaPwDg
import Derived.Test.YtpbnnbjkjaajnaaPwS
import Derived.Test.YtpbnnbjkjaajnaaPwX
import Derived.Test.YtpbnnbjkjaajnaaFD
set_option linter.unusedVariables false
set_option linter.unusedSimpArgs false
set_option maxRecDepth 1000000
namespace Go.Proofs.Ytpbnnbjkjaajnaa.Pv
open Go Go.Proofs

def qprim : CallP := iterP
theorem qprim_mono : PMono qprim := iterP_mono
abbrev hp := qprim_mono
def prX : FuncId → List V → H → Option (Out × H) := fun f args h => none
theorem prX_ok : CallOK (ACall Try.prog ty qprim) prX := fun f args h r h' hs => by cases hs
theorem awake_x : (match callX ty (tabOf Try.prog ktX) prX 100000 5 [] [] with | some (.ret (.bool true), []) => true | _ => false) = true := by kernel_rfl
theorem awake_c : CA qprim 5 [] [] fun r _ => r = .ret (.bool true) := by
  have h := awake_x
  split at h
  · rename_i e
    exact callX_sound hp (tabOf_ok ktX_ok) prX_ok 100000 _ _ _ _ _ e _ rfl
  · cases h
def awakeX : R Bool := .ok true
theorem awakeX_call {h : H} {Q : Out → H → Prop} {KK : Bool → Prop} {X : V → Prop} (hq : (awakeX).post KK X) (hK : ∀ r, KK r → Q (.ret (.bool r)) h) (hX : ∀ v, X v → V.Cl 0 v ∧ Q (.panic v) h) : CA qprim 5 [] h Q :=
  acall_lend rfl (fun i a a' ha _ => by cases ha) (fun a ha => by cases ha) (.bool _) awake_c (hK true hq)
/-- The iterators' laws, as the printed functions use them. -/
theorem backward_it {α : Type} {enc : α → V} {l : List α} {h : H} {id : Nat} {Q : Out → H → Prop} (he : ∀ x, ∃ a b c d, enc x = .agg [a, b, c, d]) (hn : l.length ≤ 1000000000) (h0 : h[id]? = some (.cells 65 [.sl 4 (List.map enc l)]))
    (hq : Q (.steps [id] ((revIdx l).map fun e => ([], [.int .i64 e.1, enc e.2]))) h) : CA qprim (1000000 + 46) [.ref id 0] h Q := by
  refine acall_prim (.inl ⟨rfl, id, List.map enc l, rfl, h0, fun x hx => ?_, by simpa using hn, ?_⟩)
  · obtain ⟨y, _, rfl⟩ := List.mem_map.1 hx; exact he y
  · unfold revIdx at hq ⊢
    rw [List.length_map, revTo_map, List.map_map]
    exact hq
theorem fields_it {b : List UInt8} {l : List FieldT} {h : H} {jb je ce : Nat} {e0 : Int} {Q : Out → H → Prop} (hb : jb ≠ ce) (he : je ≠ ce) (h1 : h[jb]? = some (.cells 28 [.sl 1 (List.map byteV b)])) (h2 : h[je]? = some (.cells 105 [.ref ce 0])) (h3 : h[ce]? = some (.cells 60 [.int .i64 e0])) (hl : fieldsT b = .ok l)
    (hq : Q (.steps [jb, je, ce] (l.map fun e => ([(ce, .cells 60 [.int .i64 e.2.2])], [.int .i64 e.1, .agg [.int .i64 e.2.1.1, .int .i64 e.2.1.2.1, .int .u64 e.2.1.2.2.1, .sl 1 (List.map byteV e.2.1.2.2.2)]]))) h) : CA qprim (1000000 + 77) [.ref jb 0, .ref je 0] h Q :=
  acall_prim (.inr ⟨rfl, jb, je, ce, b, e0, l, rfl, hb, he, h1, h2, h3, hl, hq⟩)
end Go.Proofs.Ytpbnnbjkjaajnaa.Pv
