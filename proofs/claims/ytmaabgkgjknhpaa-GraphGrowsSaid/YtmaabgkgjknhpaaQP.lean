/- What is known of the library's calls that are not walked: nothing yet. -/
import Derived.Test.YtmaabgkgjknhpaaTy
import Derived.Test.YtmaabgkgjknhpaaPwDg
import Derived.Test.YtmaabgkgjknhpaaPwS
set_option linter.unusedVariables false
set_option linter.unusedSimpArgs false
namespace Go.Proofs.Ytmaabgkgjknhpaa.Pv
open Go Go.Proofs

abbrev CA (prim : CallP) : CallP := ACall Try.prog ty prim
def qprim : CallP := fun f args h Q => False
theorem qprim_mono : PMono qprim := fun f args h Q Q' hQ hf => hf.elim
abbrev hp := qprim_mono
theorem row_get {h : H} {id t : Nat} {cs : List V} (h0 : h[id]? = some (.cells t cs)) : h.row id = some cs := by simp only [H.row, h0, Option.bind_some, AObj.row]
theorem ety_get {h : H} {id t : Nat} {cs : List V} (h0 : h[id]? = some (.cells t cs)) : h.ety id = t := by simp only [H.ety, h0]
end Go.Proofs.Ytmaabgkgjknhpaa.Pv
