/- The package-level variables that the walk leans on: their blocks, and of what kind of integer they are. -/
import Derived.Test.YthmmgcjljfndgaaDoorPwB
namespace Go.Proofs.YthmmgcjljfndgaaDoor.Pv
open Go
def globs : List (Nat × IntKind) := []
end Go.Proofs.YthmmgcjljfndgaaDoor.Pv
