/- Functions of the program, as plain Lean functions, and that the code comes to them: printed by gen.py. -/
import Derived.Test.YtpbnnbjkjaajnaaQP
set_option linter.unusedVariables false
set_option linter.unusedSimpArgs false
set_option maxHeartbeats 4000000
set_option maxRecDepth 10000
namespace Go.Proofs.Ytpbnnbjkjaajnaa.Pv
open Go Go.Proofs

structure S_api_Field where
  Name : List UInt8
  Number : Int
  Label : Int
  Type_ : Int
  TypeName : List UInt8
  Extendee : List UInt8
  Default : List UInt8
  Has : Bool
  Oneof : Int
  Json : List UInt8
  Optional : Bool
  Options : List UInt8
  Unknown : List UInt8
  deriving Inhabited, DecidableEq
abbrev S_api_Field.enc (x : S_api_Field) : V := .agg [.str x.Name, .int .i64 x.Number, .int .i64 x.Label, .int .i64 x.Type_, .str x.TypeName, .str x.Extendee, .str x.Default, .bool x.Has, .int .i64 x.Oneof, .str x.Json, .bool x.Optional, .sl 1 (List.map byteV x.Options), .sl 1 (List.map byteV x.Unknown)]
theorem S_api_Field.cl (m : Nat) (x : S_api_Field) : V.Cl m (S_api_Field.enc x) := .agg _ (cl_cons (.str _) (cl_cons (.int _ _) (cl_cons (.int _ _) (cl_cons (.int _ _) (cl_cons (.str _) (cl_cons (.str _) (cl_cons (.str _) (cl_cons (.bool _) (cl_cons (.int _ _) (cl_cons (.str _) (cl_cons (.bool _) (cl_cons (.sl _ _ (cl_map (fun x => cl_byte x))) (cl_cons (.sl _ _ (cl_map (fun x => cl_byte x))) cl_nil)))))))))))))
structure S_api_Value where
  Name : List UInt8
  Number : Int
  Options : List UInt8
  Unknown : List UInt8
  deriving Inhabited, DecidableEq
abbrev S_api_Value.enc (x : S_api_Value) : V := .agg [.str x.Name, .int .i64 x.Number, .sl 1 (List.map byteV x.Options), .sl 1 (List.map byteV x.Unknown)]
theorem S_api_Value.cl (m : Nat) (x : S_api_Value) : V.Cl m (S_api_Value.enc x) := .agg _ (cl_cons (.str _) (cl_cons (.int _ _) (cl_cons (.sl _ _ (cl_map (fun x => cl_byte x))) (cl_cons (.sl _ _ (cl_map (fun x => cl_byte x))) cl_nil))))
structure S_api_Enum where
  Name : List UInt8
  Values : List S_api_Value
  Options : List UInt8
  Unknown : List UInt8
  deriving Inhabited, DecidableEq
abbrev S_api_Enum.enc (x : S_api_Enum) : V := .agg [.str x.Name, .sl 4 (List.map S_api_Value.enc x.Values), .sl 1 (List.map byteV x.Options), .sl 1 (List.map byteV x.Unknown)]
theorem S_api_Enum.cl (m : Nat) (x : S_api_Enum) : V.Cl m (S_api_Enum.enc x) := .agg _ (cl_cons (.str _) (cl_cons (.sl _ _ (cl_map (S_api_Value.cl _))) (cl_cons (.sl _ _ (cl_map (fun x => cl_byte x))) (cl_cons (.sl _ _ (cl_map (fun x => cl_byte x))) cl_nil))))
structure S_api_Range where
  From : Int
  To : Int
  deriving Inhabited, DecidableEq
abbrev S_api_Range.enc (x : S_api_Range) : V := .agg [.int .i64 x.From, .int .i64 x.To]
theorem S_api_Range.cl (m : Nat) (x : S_api_Range) : V.Cl m (S_api_Range.enc x) := .agg _ (cl_cons (.int _ _) (cl_cons (.int _ _) cl_nil))
structure S_api_Oneof where
  Name : List UInt8
  Options : List UInt8
  Unknown : List UInt8
  deriving Inhabited, DecidableEq
abbrev S_api_Oneof.enc (x : S_api_Oneof) : V := .agg [.str x.Name, .sl 1 (List.map byteV x.Options), .sl 1 (List.map byteV x.Unknown)]
theorem S_api_Oneof.cl (m : Nat) (x : S_api_Oneof) : V.Cl m (S_api_Oneof.enc x) := .agg _ (cl_cons (.str _) (cl_cons (.sl _ _ (cl_map (fun x => cl_byte x))) (cl_cons (.sl _ _ (cl_map (fun x => cl_byte x))) cl_nil)))
structure S_api_Message where
  Name : List UInt8
  Fields : List S_api_Field
  Nested : List S_api_Message
  Enums : List S_api_Enum
  Ranges : List S_api_Range
  Extends : List S_api_Field
  Oneofs : List S_api_Oneof
  Reserved : List S_api_Range
  Words : List (List UInt8)
  Options : List UInt8
  Unknown : List UInt8
  deriving Inhabited
def S_api_Message.enc (x : S_api_Message) : V := .agg [.str x.Name, .sl 13 (List.map S_api_Field.enc x.Fields), .sl 11 (List.map S_api_Message.enc x.Nested), .sl 4 (List.map S_api_Enum.enc x.Enums), .sl 2 (List.map S_api_Range.enc x.Ranges), .sl 13 (List.map S_api_Field.enc x.Extends), .sl 3 (List.map S_api_Oneof.enc x.Oneofs), .sl 2 (List.map S_api_Range.enc x.Reserved), .sl 1 (List.map V.str x.Words), .sl 1 (List.map byteV x.Options), .sl 1 (List.map byteV x.Unknown)]
termination_by SizeOf.sizeOf x
decreasing_by all_goals (cases x; rename_i hm_; simp at hm_ ⊢; have := List.sizeOf_lt_of_mem hm_; omega)
theorem S_api_Message.enc_eq (x : S_api_Message) : S_api_Message.enc x = .agg [.str x.Name, .sl 13 (List.map S_api_Field.enc x.Fields), .sl 11 (List.map S_api_Message.enc x.Nested), .sl 4 (List.map S_api_Enum.enc x.Enums), .sl 2 (List.map S_api_Range.enc x.Ranges), .sl 13 (List.map S_api_Field.enc x.Extends), .sl 3 (List.map S_api_Oneof.enc x.Oneofs), .sl 2 (List.map S_api_Range.enc x.Reserved), .sl 1 (List.map V.str x.Words), .sl 1 (List.map byteV x.Options), .sl 1 (List.map byteV x.Unknown)] := by rw [S_api_Message.enc]
theorem S_api_Message.ind {P : S_api_Message → Prop} (step : ∀ x : S_api_Message, (∀ k ∈ x.Nested, P k) → P x) (x : S_api_Message) : P x := by
  refine step x (fun k hk => S_api_Message.ind step k)
termination_by SizeOf.sizeOf x
decreasing_by all_goals (cases x; simp at hk ⊢; have := List.sizeOf_lt_of_mem hk; omega)
theorem S_api_Message.cl (m : Nat) (x : S_api_Message) : V.Cl m (S_api_Message.enc x) := by
  refine S_api_Message.ind (P := fun x => V.Cl m (S_api_Message.enc x)) (fun x hr => ?_) x
  rw [S_api_Message.enc_eq]
  exact .agg _ (cl_cons (.str _) (cl_cons (.sl _ _ (cl_map (S_api_Field.cl _))) (cl_cons (.sl _ _ (cl_map_mem hr)) (cl_cons (.sl _ _ (cl_map (S_api_Enum.cl _))) (cl_cons (.sl _ _ (cl_map (S_api_Range.cl _))) (cl_cons (.sl _ _ (cl_map (S_api_Field.cl _))) (cl_cons (.sl _ _ (cl_map (S_api_Oneof.cl _))) (cl_cons (.sl _ _ (cl_map (S_api_Range.cl _))) (cl_cons (.sl _ _ (cl_map (fun x => .str _))) (cl_cons (.sl _ _ (cl_map (fun x => cl_byte x))) (cl_cons (.sl _ _ (cl_map (fun x => cl_byte x))) cl_nil)))))))))))
structure S_api_Method where
  Name : List UInt8
  In : List UInt8
  Out : List UInt8
  Client : Bool
  Server : Bool
  Options : List UInt8
  Unknown : List UInt8
  deriving Inhabited, DecidableEq
abbrev S_api_Method.enc (x : S_api_Method) : V := .agg [.str x.Name, .str x.In, .str x.Out, .bool x.Client, .bool x.Server, .sl 1 (List.map byteV x.Options), .sl 1 (List.map byteV x.Unknown)]
theorem S_api_Method.cl (m : Nat) (x : S_api_Method) : V.Cl m (S_api_Method.enc x) := .agg _ (cl_cons (.str _) (cl_cons (.str _) (cl_cons (.str _) (cl_cons (.bool _) (cl_cons (.bool _) (cl_cons (.sl _ _ (cl_map (fun x => cl_byte x))) (cl_cons (.sl _ _ (cl_map (fun x => cl_byte x))) cl_nil)))))))
structure S_api_Service where
  Name : List UInt8
  Methods : List S_api_Method
  Options : List UInt8
  Unknown : List UInt8
  deriving Inhabited, DecidableEq
abbrev S_api_Service.enc (x : S_api_Service) : V := .agg [.str x.Name, .sl 7 (List.map S_api_Method.enc x.Methods), .sl 1 (List.map byteV x.Options), .sl 1 (List.map byteV x.Unknown)]
theorem S_api_Service.cl (m : Nat) (x : S_api_Service) : V.Cl m (S_api_Service.enc x) := .agg _ (cl_cons (.str _) (cl_cons (.sl _ _ (cl_map (S_api_Method.cl _))) (cl_cons (.sl _ _ (cl_map (fun x => cl_byte x))) (cl_cons (.sl _ _ (cl_map (fun x => cl_byte x))) cl_nil))))
structure S_api_File where
  Name : List UInt8
  Package : List UInt8
  Deps : List (List UInt8)
  Public : List Int
  Messages : List S_api_Message
  Enums : List S_api_Enum
  Services : List S_api_Service
  Extends : List S_api_Field
  Syntax : List UInt8
  Options : List UInt8
  Unknown : List UInt8
  deriving Inhabited
abbrev S_api_File.enc (x : S_api_File) : V := .agg [.str x.Name, .str x.Package, .sl 1 (List.map V.str x.Deps), .sl 1 (List.map (V.int .i64) x.Public), .sl 11 (List.map S_api_Message.enc x.Messages), .sl 4 (List.map S_api_Enum.enc x.Enums), .sl 4 (List.map S_api_Service.enc x.Services), .sl 13 (List.map S_api_Field.enc x.Extends), .str x.Syntax, .sl 1 (List.map byteV x.Options), .sl 1 (List.map byteV x.Unknown)]
theorem S_api_File.cl (m : Nat) (x : S_api_File) : V.Cl m (S_api_File.enc x) := .agg _ (cl_cons (.str _) (cl_cons (.str _) (cl_cons (.sl _ _ (cl_map (fun x => .str _))) (cl_cons (.sl _ _ (cl_map (fun x => .int _ _))) (cl_cons (.sl _ _ (cl_map (S_api_Message.cl _))) (cl_cons (.sl _ _ (cl_map (S_api_Enum.cl _))) (cl_cons (.sl _ _ (cl_map (S_api_Service.cl _))) (cl_cons (.sl _ _ (cl_map (S_api_Field.cl _))) (cl_cons (.str _) (cl_cons (.sl _ _ (cl_map (fun x => cl_byte x))) (cl_cons (.sl _ _ (cl_map (fun x => cl_byte x))) cl_nil)))))))))))
structure S_api_Raw where
  Num : Int
  Kind : Int
  N : Int
  B : List UInt8
  deriving Inhabited, DecidableEq
abbrev S_api_Raw.enc (x : S_api_Raw) : V := .agg [.int .i64 x.Num, .int .i64 x.Kind, .int .u64 x.N, .sl 1 (List.map byteV x.B)]
theorem S_api_Raw.cl (m : Nat) (x : S_api_Raw) : V.Cl m (S_api_Raw.enc x) := .agg _ (cl_cons (.int _ _) (cl_cons (.int _ _) (cl_cons (.int _ _) (cl_cons (.sl _ _ (cl_map (fun x => cl_byte x))) cl_nil))))
end Go.Proofs.Ytpbnnbjkjaajnaa.Pv
