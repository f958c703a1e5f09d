/- Chapter 5's example. -/
import Derived.Test.YtblbbmlppmpmjaaG9
import Derived.KernelRfl
set_option linter.unusedVariables false
namespace Go.Proofs.Ytblbbmlppmpmjaa.Pv
open Go Go.Proofs
theorem awake_ok : glossarylaw05_awake = R.ok true := by kernel_rfl
end Go.Proofs.Ytblbbmlppmpmjaa.Pv
