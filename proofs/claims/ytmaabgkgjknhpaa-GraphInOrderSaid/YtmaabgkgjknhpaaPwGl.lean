/- The package-level variables that the walk leans on: their blocks, and of what kind of integer they are. -/
import Derived.Test.YtmaabgkgjknhpaaPwB
namespace Go.Proofs.Ytmaabgkgjknhpaa.Pv
open Go
def globs : List (Nat × IntKind) := []
end Go.Proofs.Ytmaabgkgjknhpaa.Pv
