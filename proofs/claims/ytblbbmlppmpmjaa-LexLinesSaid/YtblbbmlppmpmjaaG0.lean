/- Functions of the program, as plain Lean functions, and that the code comes to them: printed by gen.py. -/
import Derived.Test.YtblbbmlppmpmjaaQP
set_option linter.unusedVariables false
set_option linter.unusedSimpArgs false
set_option maxHeartbeats 4000000
set_option maxRecDepth 10000
namespace Go.Proofs.Ytblbbmlppmpmjaa.Pv
open Go Go.Proofs

structure S_api_Token where
  Kind : Int
  Text : List UInt8
  N : Int
  At : Int
  Doc : List UInt8
  deriving Inhabited, DecidableEq
abbrev S_api_Token.enc (x : S_api_Token) : V := .agg [.int .i64 x.Kind, .str x.Text, .int .u64 x.N, .int .i64 x.At, .str x.Doc]
theorem S_api_Token.cl (m : Nat) (x : S_api_Token) : V.Cl m (S_api_Token.enc x) := .agg _ (cl_cons (.int _ _) (cl_cons (.str _) (cl_cons (.int _ _) (cl_cons (.int _ _) (cl_cons (.str _) cl_nil)))))
end Go.Proofs.Ytblbbmlppmpmjaa.Pv
