/- Chapter 10's example. -/
import Derived.Test.YtmaabgkgjknhpaaG4
import Derived.KernelRfl
set_option linter.unusedVariables false
namespace Go.Proofs.Ytmaabgkgjknhpaa.Pv
open Go Go.Proofs
theorem awake_ok : glossarylaw10_awake = R.ok true := by kernel_rfl
end Go.Proofs.Ytmaabgkgjknhpaa.Pv
