/- Structs opened, each part by its kind: printed by opener.py. -/
import Derived.Test.YtpbnnbjkjaajnaaOP
import Derived.Test.YtpbnnbjkjaajnaaG0
import Derived.Test.YtpbnnbjkjaajnaaProg
set_option linter.unusedVariables false
set_option linter.unusedSimpArgs false
set_option maxRecDepth 100000
namespace Go.Proofs.Ytpbnnbjkjaajnaa.Pv
open Go Go.Proofs


end Go.Proofs.Ytpbnnbjkjaajnaa.Pv
