/- Chapter 4's examples. -/
import Derived.Test.YtgbgnglngpbehaaG7
import Derived.KernelRfl
set_option linter.unusedVariables false
namespace Go.Proofs.Ytgbgnglngpbehaa.Pv
open Go Go.Proofs
theorem awake_ok : glossarylaw04_awake = R.ok true := by kernel_rfl
end Go.Proofs.Ytgbgnglngpbehaa.Pv
