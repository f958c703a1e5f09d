/- Proved: the law NamesJoin returns true for every two texts, and leaves them as they are. No conditions. -/
import Derived.Test.YthmmgcjljfndgaaE
import Derived.Test.YthmmgcjljfndgaaF
namespace Go.Proofs.Ythmmgcjljfndgaa.Pv
open Go Go.Proofs

theorem join_holds : Rows.NamesJoinSaid := join_row join_law
end Go.Proofs.Ythmmgcjljfndgaa.Pv
