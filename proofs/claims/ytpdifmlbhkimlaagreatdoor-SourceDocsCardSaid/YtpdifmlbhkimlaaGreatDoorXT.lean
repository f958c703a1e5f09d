/- The functions, as the run that reckons reads them: printed by tab.py. -/
import Derived.Test.YtpdifmlbhkimlaaGreatDoorPxF
import Derived.Test.YtpdifmlbhkimlaaGreatDoorTy
set_option linter.unusedVariables false
set_option maxRecDepth 100000
namespace Go.Proofs.YtpdifmlbhkimlaaGreatDoor.Pv
open Go Go.Proofs

def ktX : FuncId → Option (List Nat × List Nat)
  | 2 => some ([], [])
  | 3 => some ([0, 1, 4, 6], [])
  | 4 => some ([0, 1, 4], [])
  | 5 => some ([0, 1, 4, 6, 7, 8, 9, 10, 16], [])
  | 6 => some ([0, 1, 4, 6, 7, 8, 9, 10, 16], [])
  | 7 => some ([0, 2, 3, 4, 5, 6, 7, 15], [])
  | 8 => some ([0, 1, 2, 3, 4, 5, 6, 7, 10], [])
  | 9 => some ([0, 1, 4, 5, 10, 12, 13, 14, 24], [])
  | 10 => some ([0, 1, 4, 5, 10, 12, 13, 14, 24], [])
  | 11 => some ([0, 2, 3, 4, 5, 6, 7, 8, 9, 10, 11, 12, 13, 14, 15, 18, 28, 34, 56, 66, 81, 96, 103, 122, 136, 148, 158, 164, 184, 196], [35, 105, 207])
  | 12 => some ([0, 2, 3, 4, 5, 6, 7, 8, 21, 35, 46, 64, 66, 68, 72, 86, 100], [76])
  | 13 => some ([0, 1, 2], [])
  | 14 => some ([0, 1, 2, 3, 4, 6, 7], [15])
  | 15 => some ([0, 1, 4, 5, 6], [])
  | 16 => some ([0, 2, 4], [5])
  | 17 => some ([0, 1, 2, 3, 4, 5, 6, 7, 8, 9, 10, 12, 13, 14, 16, 18, 22, 24, 25, 26, 27, 31, 32, 38, 39, 42, 55, 67, 73, 81, 82, 83, 84, 93, 96, 97, 98, 99], [])
  | 18 => some ([0, 1, 2, 4], [])
  | 19 => some ([0, 2, 3, 5, 6, 8, 9, 10, 11, 12, 20, 25, 26, 27, 28], [31])
  | 20 => some ([0, 1, 2, 4, 5, 7, 9, 10, 11, 12, 18], [19])
  | 21 => some ([0, 2], [])
  | 22 => some ([0, 1, 2, 6, 7, 8, 9, 10, 11, 12, 19, 26, 28, 53], [])
  | 23 => some ([0, 2], [])
  | 24 => some ([0, 2], [])
  | 25 => some ([0, 2, 3, 4, 5, 6, 7, 8, 10, 31, 45, 63], [])
  | 26 => some ([0, 2, 3, 4, 5, 6, 7, 8, 9, 21, 25, 32, 41, 43, 53], [54, 61])
  | 27 => some ([0, 2, 3, 4], [])
  | 28 => some ([0, 1, 4, 7], [])
  | 29 => some ([0, 1, 7], [])
  | 30 => some ([0, 2, 12], [])
  | 31 => some ([0, 1, 8], [])
  | 32 => some ([0, 1, 4, 5, 17], [])
  | 33 => some ([0, 1, 4, 22], [])
  | 34 => some ([0, 1, 4], [])
  | 35 => some ([0, 2, 3, 4, 5, 6, 7, 8, 16, 18, 30, 51, 56, 64, 72], [])
  | 36 => some ([0, 1, 2, 3, 4, 10], [])
  | 37 => some ([0, 1, 2, 3, 4, 10], [])
  | 38 => some ([0, 1, 2, 3, 4, 5, 6, 8, 33, 57, 79, 99, 101, 102, 103, 104, 109], [])
  | 39 => some ([0, 1, 4, 5, 6], [])
  | 40 => some ([0, 1, 4, 6, 16], [20])
  | 41 => some ([0, 1, 2, 3], [])
  | 42 => some ([0, 1, 4, 13], [])
  | 43 => some ([0, 1, 2, 6, 7, 8, 18, 32], [])
  | 44 => some ([0, 1, 4, 5, 10, 27], [])
  | 45 => some ([0, 2, 3, 13, 24], [])
  | 46 => some ([0, 2, 3, 4, 5, 6, 7, 8, 9, 10, 12, 14, 25, 30, 33, 36, 39, 42, 45, 48, 51, 59, 69, 75, 80, 94], [])
  | 47 => some ([0, 2, 3, 23], [])
  | 48 => some ([0, 1, 4, 5, 19, 27], [])
  | 49 => some ([0, 2, 3, 14], [])
  | 50 => some ([0, 1, 3, 4, 16, 18], [20])
  | 51 => some ([0, 1, 2, 6, 7, 8, 9, 10, 49], [])
  | 52 => some ([0, 2, 3], [])
  | 53 => some ([0, 1, 4, 5, 6, 7, 12, 20, 35], [])
  | 54 => some ([0, 1, 2, 3, 5, 9, 11, 12, 13, 14, 21], [])
  | 55 => some ([0, 1, 2, 3, 5, 6, 8, 11, 12, 13, 14, 18], [])
  | 56 => some ([0, 2, 3, 4, 5, 12, 22, 32], [])
  | 57 => some ([0, 2, 3, 4, 5, 9], [])
  | 58 => some ([0, 1, 4, 5, 6, 9, 15, 24], [])
  | 59 => some ([0, 1, 4], [])
  | 60 => some ([0, 1, 2, 3, 5, 6, 8, 12, 13, 14, 15, 19], [21])
  | 61 => some ([0, 1, 2, 6, 7, 8, 9, 26], [])
  | 62 => some ([0, 2], [])
  | 63 => some ([0, 2, 3, 6, 10, 16, 28], [])
  | 64 => some ([0, 2], [])
  | 65 => some ([0, 2, 3, 7, 14], [])
  | 66 => some ([0, 25], [])
  | 67 => some ([0, 1, 4, 5, 6, 7, 8, 9, 12, 20, 41, 51, 62, 67, 72, 81, 91, 100, 113, 118, 128], [])
  | 68 => some ([0, 2, 3, 10, 15], [])
  | 69 => some ([0, 1, 3, 4, 5, 9, 27], [20, 31])
  | 70 => some ([0, 2, 3, 4, 7, 10], [])
  | 71 => some ([0, 2, 3, 4, 9, 14, 19, 22, 27], [])
  | 72 => some ([0, 2, 3, 4, 7, 10, 13, 18, 22], [])
  | 73 => some ([0, 2, 3, 4, 7, 10, 13, 16], [])
  | 74 => some ([0, 2, 4, 6], [])
  | 76 => some ([0, 1, 4], [])
  | 77 => some ([0, 1, 4, 5, 10, 17], [])
  | 78 => some ([0, 1, 4, 5, 16], [])
  | 79 => some ([0, 1, 3, 4, 6, 18], [8])
  | 80 => some ([0, 1, 4, 5, 8, 9, 13, 17], [])
  | 81 => some ([0, 2, 3, 4, 13, 22, 28, 52], [35])
  | 82 => some ([0, 2], [])
  | 83 => some ([0, 2, 3], [17])
  | 84 => some ([0, 1, 3, 4, 5, 15, 17, 30], [23])
  | 85 => some ([0, 2, 3, 4, 12, 22, 36], [29])
  | 86 => some ([0, 2, 9], [])
  | 87 => some ([0, 2, 3, 4, 5, 6, 7, 8, 18], [])
  | 88 => some ([0, 2, 4, 7, 9, 10, 11, 12, 17], [])
  | 89 => some ([0, 2, 4, 5, 6, 7, 8, 13], [])
  | 90 => some ([0, 2, 3, 4, 5, 9, 21], [22])
  | 91 => some ([0, 2, 3, 4, 5, 6, 7, 10, 13, 24, 34, 47, 53, 69], [])
  | 92 => some ([0, 1, 2], [])
  | 93 => some ([0, 2], [])
  | 94 => some ([0, 2], [])
  | 95 => some ([0, 1, 2], [])
  | 97 => some ([0, 1, 2], [])
  | 98 => some ([0, 2, 3], [])
  | 99 => some ([0, 1, 2], [])
  | 100 => some ([0, 1, 2], [])
  | 101 => some ([0, 1, 2], [])
  | 102 => some ([0, 2], [])
  | 103 => some ([0, 1, 2], [])
  | 104 => some ([0, 1, 2], [])
  | 105 => some ([0, 2, 3, 7], [])
  | 106 => some ([0, 2, 4, 5, 6, 7, 8, 18], [])
  | 107 => some ([0, 1, 2], [])
  | 108 => some ([0, 1, 2], [])
  | 109 => some ([0, 2], [])
  | 110 => some ([0, 1, 2], [])
  | 111 => some ([0, 2, 3, 4], [])
  | 112 => some ([0, 1, 2], [])
  | 113 => some ([0, 1, 2], [])
  | 114 => some ([0, 1, 2], [])
  | 115 => some ([0, 1, 2], [])
  | 116 => some ([0, 1, 2, 5], [])
  | 117 => some ([0, 1, 2, 5], [])
  | 118 => some ([0, 2, 3, 4, 5, 6, 7, 8, 37], [])
  | 119 => some ([0, 1, 2], [])
  | 120 => some ([0, 2], [])
  | 121 => some ([0, 1, 4, 5, 6, 7, 8, 9, 10, 11, 12, 13, 16, 24, 31, 36, 59, 64, 73, 93, 107, 114, 132, 139], [])
  | 122 => some ([0, 1, 3, 4], [])
  | 123 => some ([0, 2, 3, 4, 18, 22, 46, 82, 95], [99])
  | 124 => some ([0, 2, 3, 9], [])
  | 125 => some ([0, 2, 3, 4, 5, 6, 7, 8, 16, 42], [])
  | 126 => some ([0, 1, 4], [])
  | 127 => some ([0, 2, 4, 6, 7, 8, 12], [])
  | 128 => some ([0, 1, 3], [])
  | 129 => some ([0, 1, 4], [])
  | 130 => some ([0, 1, 2, 3], [])
  | 131 => some ([0, 1, 4], [])
  | 132 => some ([0, 1, 4], [])
  | 133 => some ([0, 2], [])
  | 134 => some ([0, 1, 4, 5, 6], [])
  | 135 => some ([0, 2], [])
  | 136 => some ([0, 1, 3], [])
  | 137 => some ([0, 1, 3], [])
  | 138 => some ([0, 1, 4, 5], [])
  | 139 => some ([0, 2, 3, 4, 5, 7, 8, 9, 26, 38, 39, 40, 41, 57], [])
  | 140 => some ([0, 2, 3, 4, 16], [])
  | 141 => some ([0, 1, 4], [])
  | 143 => some ([0, 2], [])
  | 144 => some ([0, 1, 4, 5, 6, 7, 8, 9, 10, 20, 39, 44, 77], [])
  | 145 => some ([0, 1, 2, 3, 4, 5, 6], [])
  | 146 => some ([0, 2], [])
  | 147 => some ([0, 1, 4, 5, 7, 8, 9, 16], [])
  | 148 => some ([0, 1, 4, 5, 7, 8, 9, 16], [])
  | 149 => some ([0, 1, 4], [])
  | 150 => some ([0, 1, 4], [])
  | 151 => some ([0, 1, 4, 5, 6, 7, 12], [])
  | 152 => some ([0, 1, 4], [])
  | 153 => some ([0, 1, 4], [])
  | 154 => some ([0, 1, 4, 5, 9], [])
  | 155 => some ([0, 2, 3, 13, 24], [])
  | 157 => some ([0, 2, 3, 4, 5, 6, 7, 8, 12, 25, 30], [])
  | 158 => some ([0, 1, 2, 3, 6, 7, 8, 11, 14, 25, 33, 42], [])
  | 159 => some ([0, 2, 3, 10], [])
  | 160 => some ([0, 1, 4, 7], [])
  | 161 => some ([0, 2, 3, 4, 5, 6, 7, 8, 9, 10, 11, 12, 16, 23, 45, 57, 59, 75, 77, 98], [])
  | 182 => some ([], [])
  | _ => none
theorem ktX_ok : ∀ f q, ktX f = some q → ∃ fn, Tryz.prog.funcs[f]? = some fn ∧ (fn.name == "runtime.NumGoroutine") = false ∧ fn.body.isSome = true := by
  intro f x hx
  unfold ktX at hx
  split at hx
  · exact ⟨_, Tryz.func2, by kernel_rfl, rfl⟩
  · exact ⟨_, Tryz.func3, by kernel_rfl, rfl⟩
  · exact ⟨_, Tryz.func4, by kernel_rfl, rfl⟩
  · exact ⟨_, Tryz.func5, by kernel_rfl, rfl⟩
  · exact ⟨_, Tryz.func6, by kernel_rfl, rfl⟩
  · exact ⟨_, Tryz.func7, by kernel_rfl, rfl⟩
  · exact ⟨_, Tryz.func8, by kernel_rfl, rfl⟩
  · exact ⟨_, Tryz.func9, by kernel_rfl, rfl⟩
  · exact ⟨_, Tryz.func10, by kernel_rfl, rfl⟩
  · exact ⟨_, Tryz.func11, by kernel_rfl, rfl⟩
  · exact ⟨_, Tryz.func12, by kernel_rfl, rfl⟩
  · exact ⟨_, Tryz.func13, by kernel_rfl, rfl⟩
  · exact ⟨_, Tryz.func14, by kernel_rfl, rfl⟩
  · exact ⟨_, Tryz.func15, by kernel_rfl, rfl⟩
  · exact ⟨_, Tryz.func16, by kernel_rfl, rfl⟩
  · exact ⟨_, Tryz.func17, by kernel_rfl, rfl⟩
  · exact ⟨_, Tryz.func18, by kernel_rfl, rfl⟩
  · exact ⟨_, Tryz.func19, by kernel_rfl, rfl⟩
  · exact ⟨_, Tryz.func20, by kernel_rfl, rfl⟩
  · exact ⟨_, Tryz.func21, by kernel_rfl, rfl⟩
  · exact ⟨_, Tryz.func22, by kernel_rfl, rfl⟩
  · exact ⟨_, Tryz.func23, by kernel_rfl, rfl⟩
  · exact ⟨_, Tryz.func24, by kernel_rfl, rfl⟩
  · exact ⟨_, Tryz.func25, by kernel_rfl, rfl⟩
  · exact ⟨_, Tryz.func26, by kernel_rfl, rfl⟩
  · exact ⟨_, Tryz.func27, by kernel_rfl, rfl⟩
  · exact ⟨_, Tryz.func28, by kernel_rfl, rfl⟩
  · exact ⟨_, Tryz.func29, by kernel_rfl, rfl⟩
  · exact ⟨_, Tryz.func30, by kernel_rfl, rfl⟩
  · exact ⟨_, Tryz.func31, by kernel_rfl, rfl⟩
  · exact ⟨_, Tryz.func32, by kernel_rfl, rfl⟩
  · exact ⟨_, Tryz.func33, by kernel_rfl, rfl⟩
  · exact ⟨_, Tryz.func34, by kernel_rfl, rfl⟩
  · exact ⟨_, Tryz.func35, by kernel_rfl, rfl⟩
  · exact ⟨_, Tryz.func36, by kernel_rfl, rfl⟩
  · exact ⟨_, Tryz.func37, by kernel_rfl, rfl⟩
  · exact ⟨_, Tryz.func38, by kernel_rfl, rfl⟩
  · exact ⟨_, Tryz.func39, by kernel_rfl, rfl⟩
  · exact ⟨_, Tryz.func40, by kernel_rfl, rfl⟩
  · exact ⟨_, Tryz.func41, by kernel_rfl, rfl⟩
  · exact ⟨_, Tryz.func42, by kernel_rfl, rfl⟩
  · exact ⟨_, Tryz.func43, by kernel_rfl, rfl⟩
  · exact ⟨_, Tryz.func44, by kernel_rfl, rfl⟩
  · exact ⟨_, Tryz.func45, by kernel_rfl, rfl⟩
  · exact ⟨_, Tryz.func46, by kernel_rfl, rfl⟩
  · exact ⟨_, Tryz.func47, by kernel_rfl, rfl⟩
  · exact ⟨_, Tryz.func48, by kernel_rfl, rfl⟩
  · exact ⟨_, Tryz.func49, by kernel_rfl, rfl⟩
  · exact ⟨_, Tryz.func50, by kernel_rfl, rfl⟩
  · exact ⟨_, Tryz.func51, by kernel_rfl, rfl⟩
  · exact ⟨_, Tryz.func52, by kernel_rfl, rfl⟩
  · exact ⟨_, Tryz.func53, by kernel_rfl, rfl⟩
  · exact ⟨_, Tryz.func54, by kernel_rfl, rfl⟩
  · exact ⟨_, Tryz.func55, by kernel_rfl, rfl⟩
  · exact ⟨_, Tryz.func56, by kernel_rfl, rfl⟩
  · exact ⟨_, Tryz.func57, by kernel_rfl, rfl⟩
  · exact ⟨_, Tryz.func58, by kernel_rfl, rfl⟩
  · exact ⟨_, Tryz.func59, by kernel_rfl, rfl⟩
  · exact ⟨_, Tryz.func60, by kernel_rfl, rfl⟩
  · exact ⟨_, Tryz.func61, by kernel_rfl, rfl⟩
  · exact ⟨_, Tryz.func62, by kernel_rfl, rfl⟩
  · exact ⟨_, Tryz.func63, by kernel_rfl, rfl⟩
  · exact ⟨_, Tryz.func64, by kernel_rfl, rfl⟩
  · exact ⟨_, Tryz.func65, by kernel_rfl, rfl⟩
  · exact ⟨_, Tryz.func66, by kernel_rfl, rfl⟩
  · exact ⟨_, Tryz.func67, by kernel_rfl, rfl⟩
  · exact ⟨_, Tryz.func68, by kernel_rfl, rfl⟩
  · exact ⟨_, Tryz.func69, by kernel_rfl, rfl⟩
  · exact ⟨_, Tryz.func70, by kernel_rfl, rfl⟩
  · exact ⟨_, Tryz.func71, by kernel_rfl, rfl⟩
  · exact ⟨_, Tryz.func72, by kernel_rfl, rfl⟩
  · exact ⟨_, Tryz.func73, by kernel_rfl, rfl⟩
  · exact ⟨_, Tryz.func74, by kernel_rfl, rfl⟩
  · exact ⟨_, Tryz.func76, by kernel_rfl, rfl⟩
  · exact ⟨_, Tryz.func77, by kernel_rfl, rfl⟩
  · exact ⟨_, Tryz.func78, by kernel_rfl, rfl⟩
  · exact ⟨_, Tryz.func79, by kernel_rfl, rfl⟩
  · exact ⟨_, Tryz.func80, by kernel_rfl, rfl⟩
  · exact ⟨_, Tryz.func81, by kernel_rfl, rfl⟩
  · exact ⟨_, Tryz.func82, by kernel_rfl, rfl⟩
  · exact ⟨_, Tryz.func83, by kernel_rfl, rfl⟩
  · exact ⟨_, Tryz.func84, by kernel_rfl, rfl⟩
  · exact ⟨_, Tryz.func85, by kernel_rfl, rfl⟩
  · exact ⟨_, Tryz.func86, by kernel_rfl, rfl⟩
  · exact ⟨_, Tryz.func87, by kernel_rfl, rfl⟩
  · exact ⟨_, Tryz.func88, by kernel_rfl, rfl⟩
  · exact ⟨_, Tryz.func89, by kernel_rfl, rfl⟩
  · exact ⟨_, Tryz.func90, by kernel_rfl, rfl⟩
  · exact ⟨_, Tryz.func91, by kernel_rfl, rfl⟩
  · exact ⟨_, Tryz.func92, by kernel_rfl, rfl⟩
  · exact ⟨_, Tryz.func93, by kernel_rfl, rfl⟩
  · exact ⟨_, Tryz.func94, by kernel_rfl, rfl⟩
  · exact ⟨_, Tryz.func95, by kernel_rfl, rfl⟩
  · exact ⟨_, Tryz.func97, by kernel_rfl, rfl⟩
  · exact ⟨_, Tryz.func98, by kernel_rfl, rfl⟩
  · exact ⟨_, Tryz.func99, by kernel_rfl, rfl⟩
  · exact ⟨_, Tryz.func100, by kernel_rfl, rfl⟩
  · exact ⟨_, Tryz.func101, by kernel_rfl, rfl⟩
  · exact ⟨_, Tryz.func102, by kernel_rfl, rfl⟩
  · exact ⟨_, Tryz.func103, by kernel_rfl, rfl⟩
  · exact ⟨_, Tryz.func104, by kernel_rfl, rfl⟩
  · exact ⟨_, Tryz.func105, by kernel_rfl, rfl⟩
  · exact ⟨_, Tryz.func106, by kernel_rfl, rfl⟩
  · exact ⟨_, Tryz.func107, by kernel_rfl, rfl⟩
  · exact ⟨_, Tryz.func108, by kernel_rfl, rfl⟩
  · exact ⟨_, Tryz.func109, by kernel_rfl, rfl⟩
  · exact ⟨_, Tryz.func110, by kernel_rfl, rfl⟩
  · exact ⟨_, Tryz.func111, by kernel_rfl, rfl⟩
  · exact ⟨_, Tryz.func112, by kernel_rfl, rfl⟩
  · exact ⟨_, Tryz.func113, by kernel_rfl, rfl⟩
  · exact ⟨_, Tryz.func114, by kernel_rfl, rfl⟩
  · exact ⟨_, Tryz.func115, by kernel_rfl, rfl⟩
  · exact ⟨_, Tryz.func116, by kernel_rfl, rfl⟩
  · exact ⟨_, Tryz.func117, by kernel_rfl, rfl⟩
  · exact ⟨_, Tryz.func118, by kernel_rfl, rfl⟩
  · exact ⟨_, Tryz.func119, by kernel_rfl, rfl⟩
  · exact ⟨_, Tryz.func120, by kernel_rfl, rfl⟩
  · exact ⟨_, Tryz.func121, by kernel_rfl, rfl⟩
  · exact ⟨_, Tryz.func122, by kernel_rfl, rfl⟩
  · exact ⟨_, Tryz.func123, by kernel_rfl, rfl⟩
  · exact ⟨_, Tryz.func124, by kernel_rfl, rfl⟩
  · exact ⟨_, Tryz.func125, by kernel_rfl, rfl⟩
  · exact ⟨_, Tryz.func126, by kernel_rfl, rfl⟩
  · exact ⟨_, Tryz.func127, by kernel_rfl, rfl⟩
  · exact ⟨_, Tryz.func128, by kernel_rfl, rfl⟩
  · exact ⟨_, Tryz.func129, by kernel_rfl, rfl⟩
  · exact ⟨_, Tryz.func130, by kernel_rfl, rfl⟩
  · exact ⟨_, Tryz.func131, by kernel_rfl, rfl⟩
  · exact ⟨_, Tryz.func132, by kernel_rfl, rfl⟩
  · exact ⟨_, Tryz.func133, by kernel_rfl, rfl⟩
  · exact ⟨_, Tryz.func134, by kernel_rfl, rfl⟩
  · exact ⟨_, Tryz.func135, by kernel_rfl, rfl⟩
  · exact ⟨_, Tryz.func136, by kernel_rfl, rfl⟩
  · exact ⟨_, Tryz.func137, by kernel_rfl, rfl⟩
  · exact ⟨_, Tryz.func138, by kernel_rfl, rfl⟩
  · exact ⟨_, Tryz.func139, by kernel_rfl, rfl⟩
  · exact ⟨_, Tryz.func140, by kernel_rfl, rfl⟩
  · exact ⟨_, Tryz.func141, by kernel_rfl, rfl⟩
  · exact ⟨_, Tryz.func143, by kernel_rfl, rfl⟩
  · exact ⟨_, Tryz.func144, by kernel_rfl, rfl⟩
  · exact ⟨_, Tryz.func145, by kernel_rfl, rfl⟩
  · exact ⟨_, Tryz.func146, by kernel_rfl, rfl⟩
  · exact ⟨_, Tryz.func147, by kernel_rfl, rfl⟩
  · exact ⟨_, Tryz.func148, by kernel_rfl, rfl⟩
  · exact ⟨_, Tryz.func149, by kernel_rfl, rfl⟩
  · exact ⟨_, Tryz.func150, by kernel_rfl, rfl⟩
  · exact ⟨_, Tryz.func151, by kernel_rfl, rfl⟩
  · exact ⟨_, Tryz.func152, by kernel_rfl, rfl⟩
  · exact ⟨_, Tryz.func153, by kernel_rfl, rfl⟩
  · exact ⟨_, Tryz.func154, by kernel_rfl, rfl⟩
  · exact ⟨_, Tryz.func155, by kernel_rfl, rfl⟩
  · exact ⟨_, Tryz.func157, by kernel_rfl, rfl⟩
  · exact ⟨_, Tryz.func158, by kernel_rfl, rfl⟩
  · exact ⟨_, Tryz.func159, by kernel_rfl, rfl⟩
  · exact ⟨_, Tryz.func160, by kernel_rfl, rfl⟩
  · exact ⟨_, Tryz.func161, by kernel_rfl, rfl⟩
  · exact ⟨_, Tryz.func182, by kernel_rfl, rfl⟩
  · cases hx
end Go.Proofs.YtpdifmlbhkimlaaGreatDoor.Pv

