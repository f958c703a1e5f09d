/- Nothing is told by hand but awake, which is reckoned. -/
import Derived.Test.YtpbnnbjkjaajnaaXT
import Derived.Test.YtpbnnbjkjaajnaaTe
import Derived.Test.YtpbnnbjkjaajnaaPwDg
import Derived.Test.YtpbnnbjkjaajnaaPwS
import Derived.Test.YtpbnnbjkjaajnaaPwX
set_option linter.unusedVariables false
set_option linter.unusedSimpArgs false
set_option maxRecDepth 1000000
namespace Go.Proofs.Ytpbnnbjkjaajnaa.Pv
open Go Go.Proofs

abbrev CA (prim : CallP) : CallP := ACall Try.prog ty prim
def qprim : CallP := fun f args h Q => False
theorem qprim_mono : PMono qprim := fun f args h Q Q' hQ hf => hf.elim
abbrev hp := qprim_mono
theorem row_get {h : H} {id t : Nat} {cs : List V} (h0 : h[id]? = some (.cells t cs)) : h.row id = some cs := by simp only [H.row, h0, Option.bind_some, AObj.row]
theorem ety_get {h : H} {id t : Nat} {cs : List V} (h0 : h[id]? = some (.cells t cs)) : h.ety id = t := by simp only [H.ety, h0]
def prX : FuncId → List V → H → Option (Out × H) := fun f args h => none
theorem prX_ok : CallOK (ACall Try.prog ty qprim) prX := fun f args h r h' hs => by cases hs
theorem awake_x : (match callX ty (tabOf Try.prog ktX) prX 100000 5 [] [] with | some (.ret (.bool true), []) => true | _ => false) = true := by kernel_rfl
theorem awake_c : CA qprim 5 [] [] fun r _ => r = .ret (.bool true) := by
  have h := awake_x
  split at h
  · rename_i e
    exact callX_sound hp (tabOf_ok ktX_ok) prX_ok 100000 _ _ _ _ _ e _ rfl
  · cases h
def awakeX : R Bool := .ok true
theorem awakeX_call {h : H} {Q : Out → H → Prop} {KK : Bool → Prop} {X : V → Prop} (hq : (awakeX).post KK X) (hK : ∀ r, KK r → Q (.ret (.bool r)) h) (hX : ∀ v, X v → V.Cl 0 v ∧ Q (.panic v) h) : CA qprim 5 [] h Q :=
  acall_lend rfl (fun i a a' ha _ => by cases ha) (fun a ha => by cases ha) (.bool _) awake_c (hK true hq)
end Go.Proofs.Ytpbnnbjkjaajnaa.Pv
