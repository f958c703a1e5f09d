/- Functions of the program, as plain Lean functions, and that the code comes to them: printed by gen.py. -/
import Derived.Test.YtiigffdmjdooeaaGreatDoorQP
set_option linter.unusedVariables false
set_option linter.unusedSimpArgs false
set_option maxHeartbeats 4000000
set_option maxRecDepth 10000
namespace Go.Proofs.YtiigffdmjdooeaaGreatDoor.Pv
open Go Go.Proofs

structure S_api_Node where
  Kind : Int
  Text : List UInt8
  N : Int
  M : Int
  A : Int
  At : Int
  Doc : List UInt8
  Kids : List S_api_Node
  deriving Inhabited
def S_api_Node.enc (x : S_api_Node) : V := .agg [.int .i64 x.Kind, .str x.Text, .int .i64 x.N, .int .i64 x.M, .int .i64 x.A, .int .i64 x.At, .str x.Doc, .sl 8 (List.map S_api_Node.enc x.Kids)]
termination_by SizeOf.sizeOf x
decreasing_by all_goals (cases x; rename_i hm_; simp at hm_ ⊢; have := List.sizeOf_lt_of_mem hm_; omega)
theorem S_api_Node.enc_eq (x : S_api_Node) : S_api_Node.enc x = .agg [.int .i64 x.Kind, .str x.Text, .int .i64 x.N, .int .i64 x.M, .int .i64 x.A, .int .i64 x.At, .str x.Doc, .sl 8 (List.map S_api_Node.enc x.Kids)] := by rw [S_api_Node.enc]
theorem S_api_Node.ind {P : S_api_Node → Prop} (step : ∀ x : S_api_Node, (∀ k ∈ x.Kids, P k) → P x) (x : S_api_Node) : P x := by
  refine step x (fun k hk => S_api_Node.ind step k)
termination_by SizeOf.sizeOf x
decreasing_by all_goals (cases x; simp at hk ⊢; have := List.sizeOf_lt_of_mem hk; omega)
theorem S_api_Node.cl (m : Nat) (x : S_api_Node) : V.Cl m (S_api_Node.enc x) := by
  refine S_api_Node.ind (P := fun x => V.Cl m (S_api_Node.enc x)) (fun x hr => ?_) x
  rw [S_api_Node.enc_eq]
  exact .agg _ (cl_cons (.int _ _) (cl_cons (.str _) (cl_cons (.int _ _) (cl_cons (.int _ _) (cl_cons (.int _ _) (cl_cons (.int _ _) (cl_cons (.str _) (cl_cons (.sl _ _ (cl_map_mem hr)) cl_nil))))))))
end Go.Proofs.YtiigffdmjdooeaaGreatDoor.Pv
