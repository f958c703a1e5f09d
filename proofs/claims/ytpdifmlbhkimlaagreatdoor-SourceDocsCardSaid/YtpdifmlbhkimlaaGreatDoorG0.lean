/- Functions of the program, as plain Lean functions, and that the code comes to them: printed by gen.py. -/
import Derived.Test.YtpdifmlbhkimlaaGreatDoorQP
set_option linter.unusedVariables false
set_option linter.unusedSimpArgs false
set_option maxHeartbeats 4000000
set_option maxRecDepth 10000
namespace Go.Proofs.YtpdifmlbhkimlaaGreatDoor.Pv
open Go Go.Proofs

structure S_api_Location where
  Path : List Int
  Line : Int
  Column : Int
  Doc : List UInt8
  deriving Inhabited, DecidableEq
abbrev S_api_Location.enc (x : S_api_Location) : V := .agg [.sl 1 (List.map (V.int .i64) x.Path), .int .i64 x.Line, .int .i64 x.Column, .str x.Doc]
theorem S_api_Location.cl (m : Nat) (x : S_api_Location) : V.Cl m (S_api_Location.enc x) := .agg _ (cl_cons (.sl _ _ (cl_map (fun x => .int _ _))) (cl_cons (.int _ _) (cl_cons (.int _ _) (cl_cons (.str _) cl_nil))))
end Go.Proofs.YtpdifmlbhkimlaaGreatDoor.Pv
