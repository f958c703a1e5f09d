/- The package-level variables that the walk leans on: their blocks, and of what kind of integer they are. -/
import Derived.Test.YtblbbmlppmpmjaaPwB
namespace Go.Proofs.Ytblbbmlppmpmjaa.Pv
open Go
def globs : List (Nat × IntKind) := [(0, .i64)]
end Go.Proofs.Ytblbbmlppmpmjaa.Pv
