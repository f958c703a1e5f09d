/- The functions, as the run that reckons reads them: printed by tab.py. -/
import Derived.Test.YtpbnnbjkjaajnaaPxF
import Derived.Test.YtpbnnbjkjaajnaaTy
set_option linter.unusedVariables false
set_option maxRecDepth 100000
namespace Go.Proofs.Ytpbnnbjkjaajnaa.Pv
open Go Go.Proofs

def ktX : FuncId → Option (List Nat × List Nat)
  | 2 => some ([], [])
  | 3 => some ([0, 1, 2, 4], [])
  | 4 => some ([0, 1, 2, 6, 7, 9, 11, 13, 15, 16, 17, 19, 27], [])
  | 5 => some ([0, 1, 3], [])
  | 6 => some ([0, 1, 2], [])
  | 7 => some ([0, 1, 2], [])
  | 9 => some ([0, 1, 2, 3, 5, 6, 8, 16, 17, 18, 19, 29], [])
  | 10 => some ([0, 1, 4, 5, 6, 11], [])
  | 11 => some ([0, 1, 4, 5, 6, 11], [])
  | 12 => some ([0, 1, 4, 5, 6, 11], [])
  | 13 => some ([0, 1, 4, 5, 7, 9, 14, 15, 16, 17, 23], [])
  | 14 => some ([0, 1, 2, 3, 4, 10, 11, 13, 14, 17, 18, 19, 20, 43], [])
  | 15 => some ([0, 1, 4, 5, 10], [])
  | 16 => some ([0, 1, 4, 5, 10], [])
  | 17 => some ([0, 2, 3, 4, 6, 11, 13], [16])
  | 18 => some ([0, 1, 4, 6], [])
  | 19 => some ([0, 2, 3, 4, 6, 8, 10, 12, 18, 19, 20, 21, 39, 40, 41, 42, 53, 55], [28])
  | 20 => some ([0, 1, 2, 6, 8, 10, 11, 12, 13, 14, 50], [])
  | 22 => some ([0, 1, 2], [])
  | 23 => some ([0, 2, 3, 4, 5, 6, 7, 8, 9, 13, 23], [26])
  | 24 => some ([0, 1, 2, 6, 7, 20], [])
  | 25 => some ([0, 1, 2, 5, 8, 9, 13, 16, 17, 21, 24, 25, 35], [])
  | 26 => some ([0, 1, 2, 5, 8, 9], [])
  | 27 => some ([0, 1, 2, 5, 8, 9], [])
  | 28 => some ([0, 1, 2, 5, 8, 9, 13, 16, 17, 21, 24, 25, 29, 32, 33], [])
  | 29 => some ([0, 1, 4, 5, 6, 7, 13, 23], [16])
  | 30 => some ([0, 1, 4, 6], [])
  | 31 => some ([0, 1, 4], [])
  | 32 => some ([0, 1, 4], [])
  | 33 => some ([0, 2], [])
  | 34 => some ([0, 2, 4], [5])
  | 35 => some ([0, 1, 4], [])
  | 36 => some ([0, 1, 2], [])
  | 37 => some ([0, 1, 2, 3, 4, 11], [])
  | 38 => some ([0, 1, 2, 3, 4, 5, 6, 8, 15], [])
  | 39 => some ([0, 1, 2, 3, 4, 5, 6, 7, 8, 10, 11, 13, 18, 43, 44, 45, 46, 56, 57, 58, 59], [])
  | 40 => some ([0, 1, 4], [])
  | 41 => some ([0, 1, 2, 5], [])
  | 42 => some ([0, 2, 3, 5, 6, 7, 8, 9, 14], [])
  | 43 => some ([0, 1, 4, 5, 6, 11, 12, 13, 16, 19], [])
  | 44 => some ([0, 1, 4, 5, 6, 11, 12, 13, 16, 19], [])
  | 45 => some ([0, 1, 2, 3, 4], [])
  | 46 => some ([0, 1, 3, 8, 18], [])
  | 47 => some ([0, 2, 3, 4, 5, 6, 7, 8, 9, 10, 11, 12, 20, 35, 48, 49, 54, 58, 76, 81, 94], [])
  | 48 => some ([0, 2, 4], [5])
  | 49 => some ([0, 1, 4, 5, 7, 8, 9, 10, 11], [14])
  | 50 => some ([0, 1, 4, 5, 7, 8, 9, 10, 11], [14])
  | 51 => some ([0, 1, 4, 5, 7, 8, 9, 10, 11], [14])
  | 52 => some ([0, 2, 4], [5])
  | 53 => some ([0, 1, 4, 5, 7, 8, 9, 10, 11], [14])
  | 54 => some ([0, 1, 2, 5, 8, 9], [])
  | 55 => some ([0, 1, 4, 5, 7, 8, 9, 10, 11], [14])
  | 56 => some ([0, 1, 2, 5, 8, 9], [])
  | 57 => some ([0, 2, 4], [5])
  | 58 => some ([0, 1, 4, 5, 7, 8, 9, 10, 11], [14])
  | 59 => some ([0, 1, 2, 5, 8, 9], [])
  | 60 => some ([0, 1, 4, 5], [])
  | 61 => some ([0, 1, 4, 6], [])
  | 62 => some ([0, 2, 3, 4], [])
  | 63 => some ([0, 1, 4, 5, 7, 8, 9, 16], [])
  | 64 => some ([0, 1, 4, 5, 7, 8, 9, 16], [])
  | 65 => some ([0, 1, 2, 3, 8, 9, 10, 11, 12, 13, 14, 15, 16, 17, 18, 23, 29, 35, 50, 68, 72, 87, 113], [])
  | 66 => some ([0, 2], [])
  | 67 => some ([0, 1, 4, 5, 7, 8, 9, 16], [])
  | 68 => some ([0, 1, 2, 5, 6, 8, 11, 15, 16, 17, 18, 22], [])
  | 69 => some ([0, 1, 2, 3, 4, 8], [])
  | 70 => some ([0, 1, 2, 3, 7, 8, 9, 10, 20, 28], [])
  | 71 => some ([0, 1, 2, 3, 4, 8, 10, 11, 12, 13, 14, 27, 28, 29, 30], [])
  | 72 => some ([0, 1, 2, 3, 7, 8, 9, 10, 11, 12], [36])
  | 73 => some ([0, 1, 2, 3, 4, 5, 6, 7, 11, 12, 14, 16, 17, 18, 19, 20, 33, 34, 35, 36, 49, 50, 51, 52], [])
  | 74 => some ([0, 1, 2, 3, 4, 10, 11, 12, 13, 14, 15, 16, 17, 18, 19, 20, 25, 32, 39, 56, 75, 80, 97, 125], [])
  | 75 => some ([0, 2], [])
  | 76 => some ([0, 2], [])
  | 77 => some ([0, 1, 2, 4, 5, 6, 7, 11, 31], [])
  | 78 => some ([0, 2, 3, 4, 5, 6, 7, 8, 9, 10, 11, 12, 13, 21, 48, 54, 58, 75, 80, 90], [])
  | 79 => some ([0, 2, 3, 4, 5, 6, 14, 25, 42], [])
  | 80 => some ([0, 2], [])
  | 81 => some ([0, 2, 3, 4, 12], [])
  | 82 => some ([0, 1, 4, 5, 7, 8, 9, 10, 11], [14])
  | 83 => some ([0, 1, 2, 5, 8, 9], [])
  | 84 => some ([0, 1, 4, 5, 9], [])
  | 85 => some ([0, 1, 4], [])
  | 86 => some ([0, 1, 2, 6, 7, 12, 30, 35, 37, 46], [])
  | 87 => some ([0, 1, 2, 6, 7, 8, 9, 10, 19, 30, 35, 38, 48], [])
  | 88 => some ([0, 1, 2, 6, 7, 8, 9, 10, 15, 33, 43, 49, 52, 62], [])
  | 89 => some ([0, 1, 2, 6, 7, 8, 9, 10, 11, 12, 32, 34, 49, 51, 54], [])
  | 90 => some ([0, 1, 2, 6, 7, 13, 16, 17, 25], [])
  | 91 => some ([0, 1, 2, 6, 7, 8, 9, 10, 14, 32, 37, 41, 44, 46, 55, 61, 65, 78, 81, 83, 92, 98, 103, 116, 119, 121, 130], [])
  | 92 => some ([0, 1, 4], [])
  | 93 => some ([0, 1, 2, 3, 8, 9, 10, 13, 14, 22, 43, 59, 64, 67, 68, 76], [])
  | 94 => some ([0, 1, 2, 3, 8, 9, 10, 11, 14, 15, 23, 43, 60, 65, 68, 69, 77, 83, 84, 92, 112, 129, 134, 137, 138, 146, 155, 156, 164], [])
  | 95 => some ([0, 2, 4, 8], [])
  | 96 => some ([0, 2, 4, 8, 14], [])
  | 97 => some ([0, 1, 2, 3, 8, 9, 14, 34, 39, 41, 50], [])
  | 98 => some ([0, 1, 2, 3, 8, 9, 10, 11, 12, 21, 33, 38, 41, 51], [])
  | 99 => some ([0, 1, 2, 8, 9, 10, 11, 12, 17, 35, 45, 51, 54, 64], [])
  | 100 => some ([0, 1, 2, 3, 8, 9, 10, 11, 12, 13, 14, 34, 36, 55, 57, 60], [])
  | 101 => some ([0, 1, 2, 8, 9, 15, 18, 19, 27], [])
  | 102 => some ([0, 1, 2, 3, 8, 9, 10, 11, 12, 16, 36, 41, 45, 48, 50, 59, 65, 69, 84, 87, 89, 98, 104, 109, 124, 127, 129, 138], [])
  | 103 => some ([0, 1, 2, 3, 4, 10, 11, 12, 15, 16, 24, 47, 65, 70, 73, 74, 82], [])
  | 104 => some ([0, 1, 2, 3, 4, 10, 11, 12, 13, 16, 17, 25, 47, 66, 71, 74, 75, 83, 89, 90, 98, 120, 139, 144, 147, 148, 156, 165, 166, 174], [])
  | 105 => some ([0, 2, 3, 4, 5, 6, 7, 15, 25, 38], [])
  | 106 => some ([0, 2, 3, 4, 5, 7, 9, 11], [])
  | 107 => some ([0, 2, 3, 4, 7, 8, 9], [])
  | 108 => some ([0, 2, 4], [5])
  | 109 => some ([0, 1, 4], [])
  | 110 => some ([0, 1, 4, 5, 10, 17], [])
  | 111 => some ([0, 1, 2, 3, 8, 9, 16, 36, 52, 57, 60, 72], [])
  | 112 => some ([0, 2], [])
  | 113 => some ([0, 2], [])
  | 114 => some ([0, 1, 2, 6], [])
  | 115 => some ([0, 1, 2, 3, 4, 10], [])
  | 116 => some ([0, 1, 2, 3, 4, 10, 11, 18, 40, 58, 63, 66, 78], [])
  | 117 => some ([0, 1, 2, 3, 8], [])
  | 118 => some ([0, 1, 2, 3, 4, 5, 12], [])
  | 119 => some ([0, 1, 2, 3, 8, 9, 18], [])
  | 120 => some ([0, 1, 2, 3, 4, 10, 11, 22], [])
  | _ => none
theorem ktX_ok : ∀ f q, ktX f = some q → ∃ fn, Try.prog.funcs[f]? = some fn ∧ (fn.name == "runtime.NumGoroutine") = false ∧ fn.body.isSome = true ∧ noRangeC (fn.body.getD .skip) = true := by
  intro f x hx
  unfold ktX at hx
  split at hx
  · exact ⟨_, Try.func2, by kernel_rfl, rfl, by kernel_rfl⟩
  · exact ⟨_, Try.func3, by kernel_rfl, rfl, by kernel_rfl⟩
  · exact ⟨_, Try.func4, by kernel_rfl, rfl, by kernel_rfl⟩
  · exact ⟨_, Try.func5, by kernel_rfl, rfl, by kernel_rfl⟩
  · exact ⟨_, Try.func6, by kernel_rfl, rfl, by kernel_rfl⟩
  · exact ⟨_, Try.func7, by kernel_rfl, rfl, by kernel_rfl⟩
  · exact ⟨_, Try.func9, by kernel_rfl, rfl, by kernel_rfl⟩
  · exact ⟨_, Try.func10, by kernel_rfl, rfl, by kernel_rfl⟩
  · exact ⟨_, Try.func11, by kernel_rfl, rfl, by kernel_rfl⟩
  · exact ⟨_, Try.func12, by kernel_rfl, rfl, by kernel_rfl⟩
  · exact ⟨_, Try.func13, by kernel_rfl, rfl, by kernel_rfl⟩
  · exact ⟨_, Try.func14, by kernel_rfl, rfl, by kernel_rfl⟩
  · exact ⟨_, Try.func15, by kernel_rfl, rfl, by kernel_rfl⟩
  · exact ⟨_, Try.func16, by kernel_rfl, rfl, by kernel_rfl⟩
  · exact ⟨_, Try.func17, by kernel_rfl, rfl, by kernel_rfl⟩
  · exact ⟨_, Try.func18, by kernel_rfl, rfl, by kernel_rfl⟩
  · exact ⟨_, Try.func19, by kernel_rfl, rfl, by kernel_rfl⟩
  · exact ⟨_, Try.func20, by kernel_rfl, rfl, by kernel_rfl⟩
  · exact ⟨_, Try.func22, by kernel_rfl, rfl, by kernel_rfl⟩
  · exact ⟨_, Try.func23, by kernel_rfl, rfl, by kernel_rfl⟩
  · exact ⟨_, Try.func24, by kernel_rfl, rfl, by kernel_rfl⟩
  · exact ⟨_, Try.func25, by kernel_rfl, rfl, by kernel_rfl⟩
  · exact ⟨_, Try.func26, by kernel_rfl, rfl, by kernel_rfl⟩
  · exact ⟨_, Try.func27, by kernel_rfl, rfl, by kernel_rfl⟩
  · exact ⟨_, Try.func28, by kernel_rfl, rfl, by kernel_rfl⟩
  · exact ⟨_, Try.func29, by kernel_rfl, rfl, by kernel_rfl⟩
  · exact ⟨_, Try.func30, by kernel_rfl, rfl, by kernel_rfl⟩
  · exact ⟨_, Try.func31, by kernel_rfl, rfl, by kernel_rfl⟩
  · exact ⟨_, Try.func32, by kernel_rfl, rfl, by kernel_rfl⟩
  · exact ⟨_, Try.func33, by kernel_rfl, rfl, by kernel_rfl⟩
  · exact ⟨_, Try.func34, by kernel_rfl, rfl, by kernel_rfl⟩
  · exact ⟨_, Try.func35, by kernel_rfl, rfl, by kernel_rfl⟩
  · exact ⟨_, Try.func36, by kernel_rfl, rfl, by kernel_rfl⟩
  · exact ⟨_, Try.func37, by kernel_rfl, rfl, by kernel_rfl⟩
  · exact ⟨_, Try.func38, by kernel_rfl, rfl, by kernel_rfl⟩
  · exact ⟨_, Try.func39, by kernel_rfl, rfl, by kernel_rfl⟩
  · exact ⟨_, Try.func40, by kernel_rfl, rfl, by kernel_rfl⟩
  · exact ⟨_, Try.func41, by kernel_rfl, rfl, by kernel_rfl⟩
  · exact ⟨_, Try.func42, by kernel_rfl, rfl, by kernel_rfl⟩
  · exact ⟨_, Try.func43, by kernel_rfl, rfl, by kernel_rfl⟩
  · exact ⟨_, Try.func44, by kernel_rfl, rfl, by kernel_rfl⟩
  · exact ⟨_, Try.func45, by kernel_rfl, rfl, by kernel_rfl⟩
  · exact ⟨_, Try.func46, by kernel_rfl, rfl, by kernel_rfl⟩
  · exact ⟨_, Try.func47, by kernel_rfl, rfl, by kernel_rfl⟩
  · exact ⟨_, Try.func48, by kernel_rfl, rfl, by kernel_rfl⟩
  · exact ⟨_, Try.func49, by kernel_rfl, rfl, by kernel_rfl⟩
  · exact ⟨_, Try.func50, by kernel_rfl, rfl, by kernel_rfl⟩
  · exact ⟨_, Try.func51, by kernel_rfl, rfl, by kernel_rfl⟩
  · exact ⟨_, Try.func52, by kernel_rfl, rfl, by kernel_rfl⟩
  · exact ⟨_, Try.func53, by kernel_rfl, rfl, by kernel_rfl⟩
  · exact ⟨_, Try.func54, by kernel_rfl, rfl, by kernel_rfl⟩
  · exact ⟨_, Try.func55, by kernel_rfl, rfl, by kernel_rfl⟩
  · exact ⟨_, Try.func56, by kernel_rfl, rfl, by kernel_rfl⟩
  · exact ⟨_, Try.func57, by kernel_rfl, rfl, by kernel_rfl⟩
  · exact ⟨_, Try.func58, by kernel_rfl, rfl, by kernel_rfl⟩
  · exact ⟨_, Try.func59, by kernel_rfl, rfl, by kernel_rfl⟩
  · exact ⟨_, Try.func60, by kernel_rfl, rfl, by kernel_rfl⟩
  · exact ⟨_, Try.func61, by kernel_rfl, rfl, by kernel_rfl⟩
  · exact ⟨_, Try.func62, by kernel_rfl, rfl, by kernel_rfl⟩
  · exact ⟨_, Try.func63, by kernel_rfl, rfl, by kernel_rfl⟩
  · exact ⟨_, Try.func64, by kernel_rfl, rfl, by kernel_rfl⟩
  · exact ⟨_, Try.func65, by kernel_rfl, rfl, by kernel_rfl⟩
  · exact ⟨_, Try.func66, by kernel_rfl, rfl, by kernel_rfl⟩
  · exact ⟨_, Try.func67, by kernel_rfl, rfl, by kernel_rfl⟩
  · exact ⟨_, Try.func68, by kernel_rfl, rfl, by kernel_rfl⟩
  · exact ⟨_, Try.func69, by kernel_rfl, rfl, by kernel_rfl⟩
  · exact ⟨_, Try.func70, by kernel_rfl, rfl, by kernel_rfl⟩
  · exact ⟨_, Try.func71, by kernel_rfl, rfl, by kernel_rfl⟩
  · exact ⟨_, Try.func72, by kernel_rfl, rfl, by kernel_rfl⟩
  · exact ⟨_, Try.func73, by kernel_rfl, rfl, by kernel_rfl⟩
  · exact ⟨_, Try.func74, by kernel_rfl, rfl, by kernel_rfl⟩
  · exact ⟨_, Try.func75, by kernel_rfl, rfl, by kernel_rfl⟩
  · exact ⟨_, Try.func76, by kernel_rfl, rfl, by kernel_rfl⟩
  · exact ⟨_, Try.func77, by kernel_rfl, rfl, by kernel_rfl⟩
  · exact ⟨_, Try.func78, by kernel_rfl, rfl, by kernel_rfl⟩
  · exact ⟨_, Try.func79, by kernel_rfl, rfl, by kernel_rfl⟩
  · exact ⟨_, Try.func80, by kernel_rfl, rfl, by kernel_rfl⟩
  · exact ⟨_, Try.func81, by kernel_rfl, rfl, by kernel_rfl⟩
  · exact ⟨_, Try.func82, by kernel_rfl, rfl, by kernel_rfl⟩
  · exact ⟨_, Try.func83, by kernel_rfl, rfl, by kernel_rfl⟩
  · exact ⟨_, Try.func84, by kernel_rfl, rfl, by kernel_rfl⟩
  · exact ⟨_, Try.func85, by kernel_rfl, rfl, by kernel_rfl⟩
  · exact ⟨_, Try.func86, by kernel_rfl, rfl, by kernel_rfl⟩
  · exact ⟨_, Try.func87, by kernel_rfl, rfl, by kernel_rfl⟩
  · exact ⟨_, Try.func88, by kernel_rfl, rfl, by kernel_rfl⟩
  · exact ⟨_, Try.func89, by kernel_rfl, rfl, by kernel_rfl⟩
  · exact ⟨_, Try.func90, by kernel_rfl, rfl, by kernel_rfl⟩
  · exact ⟨_, Try.func91, by kernel_rfl, rfl, by kernel_rfl⟩
  · exact ⟨_, Try.func92, by kernel_rfl, rfl, by kernel_rfl⟩
  · exact ⟨_, Try.func93, by kernel_rfl, rfl, by kernel_rfl⟩
  · exact ⟨_, Try.func94, by kernel_rfl, rfl, by kernel_rfl⟩
  · exact ⟨_, Try.func95, by kernel_rfl, rfl, by kernel_rfl⟩
  · exact ⟨_, Try.func96, by kernel_rfl, rfl, by kernel_rfl⟩
  · exact ⟨_, Try.func97, by kernel_rfl, rfl, by kernel_rfl⟩
  · exact ⟨_, Try.func98, by kernel_rfl, rfl, by kernel_rfl⟩
  · exact ⟨_, Try.func99, by kernel_rfl, rfl, by kernel_rfl⟩
  · exact ⟨_, Try.func100, by kernel_rfl, rfl, by kernel_rfl⟩
  · exact ⟨_, Try.func101, by kernel_rfl, rfl, by kernel_rfl⟩
  · exact ⟨_, Try.func102, by kernel_rfl, rfl, by kernel_rfl⟩
  · exact ⟨_, Try.func103, by kernel_rfl, rfl, by kernel_rfl⟩
  · exact ⟨_, Try.func104, by kernel_rfl, rfl, by kernel_rfl⟩
  · exact ⟨_, Try.func105, by kernel_rfl, rfl, by kernel_rfl⟩
  · exact ⟨_, Try.func106, by kernel_rfl, rfl, by kernel_rfl⟩
  · exact ⟨_, Try.func107, by kernel_rfl, rfl, by kernel_rfl⟩
  · exact ⟨_, Try.func108, by kernel_rfl, rfl, by kernel_rfl⟩
  · exact ⟨_, Try.func109, by kernel_rfl, rfl, by kernel_rfl⟩
  · exact ⟨_, Try.func110, by kernel_rfl, rfl, by kernel_rfl⟩
  · exact ⟨_, Try.func111, by kernel_rfl, rfl, by kernel_rfl⟩
  · exact ⟨_, Try.func112, by kernel_rfl, rfl, by kernel_rfl⟩
  · exact ⟨_, Try.func113, by kernel_rfl, rfl, by kernel_rfl⟩
  · exact ⟨_, Try.func114, by kernel_rfl, rfl, by kernel_rfl⟩
  · exact ⟨_, Try.func115, by kernel_rfl, rfl, by kernel_rfl⟩
  · exact ⟨_, Try.func116, by kernel_rfl, rfl, by kernel_rfl⟩
  · exact ⟨_, Try.func117, by kernel_rfl, rfl, by kernel_rfl⟩
  · exact ⟨_, Try.func118, by kernel_rfl, rfl, by kernel_rfl⟩
  · exact ⟨_, Try.func119, by kernel_rfl, rfl, by kernel_rfl⟩
  · exact ⟨_, Try.func120, by kernel_rfl, rfl, by kernel_rfl⟩
  · cases hx
end Go.Proofs.Ytpbnnbjkjaajnaa.Pv

