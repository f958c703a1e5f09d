/- Nothing is told by hand: for the functions that an iterator calls. -/
import Derived.Test.YtpbnnbjkjaajnaaTe
import Derived.Test.YtpbnnbjkjaajnaaPwDg
import Derived.Test.YtpbnnbjkjaajnaaPwS
import Derived.Test.YtpbnnbjkjaajnaaPwX
set_option linter.unusedVariables false
set_option linter.unusedSimpArgs false
namespace Go.Proofs.Ytpbnnbjkjaajnaa.Pv
open Go Go.Proofs
abbrev CA (prim : CallP) : CallP := ACall Try.prog ty prim
theorem row_get {h : H} {id t : Nat} {cs : List V} (h0 : h[id]? = some (.cells t cs)) : h.row id = some cs := by simp only [H.row, h0, Option.bind_some, AObj.row]
theorem ety_get {h : H} {id t : Nat} {cs : List V} (h0 : h[id]? = some (.cells t cs)) : h.ety id = t := by simp only [H.ety, h0]
namespace T
def tprim : CallP := fun f args h Q => False
theorem tprim_mono : PMono tprim := fun f args h Q Q' hQ hf => hf.elim
abbrev tp := tprim_mono
end T
end Go.Proofs.Ytpbnnbjkjaajnaa.Pv
