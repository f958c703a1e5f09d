/- The functions, as the run that reckons reads them: printed by tab.py. -/
import Derived.Test.YtiigffdmjdooeaaGreatDoorPx
import Derived.Test.YtiigffdmjdooeaaGreatDoorTy
set_option linter.unusedVariables false
set_option maxRecDepth 100000
namespace Go.Proofs.YtiigffdmjdooeaaGreatDoor.Pv
open Go Go.Proofs

def ktX : FuncId → Option (List Nat × List Nat)
  | 2 => some ([], [])
  | 3 => some ([0, 1, 4, 5, 7, 10], [])
  | 4 => some ([0, 1, 3, 4, 5, 6, 7, 8, 10, 13], [])
  | 5 => some ([0, 1, 4, 7], [])
  | 6 => some ([0, 2, 10], [])
  | 7 => some ([0, 2, 3, 4, 5, 6, 7, 16], [])
  | 8 => some ([0, 2, 3, 4, 5, 6, 7, 8, 18], [])
  | 9 => some ([0, 2, 3, 12], [])
  | 10 => some ([0, 1, 2], [])
  | 11 => some ([0, 1, 3, 4, 5, 6, 8, 9, 18, 36, 45], [])
  | 12 => some ([0, 1, 3, 4, 5, 6, 9, 15, 31, 34, 54, 68], [])
  | 13 => some ([0, 2, 3, 4, 5, 6, 7, 15], [])
  | 14 => some ([0, 1, 2, 4, 5, 6, 7, 8, 11, 27], [])
  | 15 => some ([0], [])
  | 16 => some ([0, 1, 2, 3, 6, 8, 24, 26, 27, 28, 29, 33], [])
  | 17 => some ([0, 1, 4, 5, 6, 7, 8, 9, 10, 22, 29], [])
  | 18 => some ([0, 2, 3, 4, 5, 9, 13, 16], [])
  | 19 => some ([0, 1, 4, 5, 6, 7, 8, 9, 10, 11, 35, 42, 46], [])
  | 20 => some ([0, 2, 3, 4, 5, 6, 7, 8, 9, 10, 11, 12, 13, 14, 15, 18, 28, 34, 56, 66, 81, 96, 103, 122, 136, 148, 158, 164, 184, 196], [35, 105, 207])
  | 21 => some ([0, 2, 3, 4, 5, 6, 7, 8, 21, 35, 46, 64, 66, 68, 72, 86, 100], [76])
  | 22 => some ([0, 1, 2], [])
  | 23 => some ([0, 1, 2, 3, 4, 5, 6, 7, 9, 16, 22], [])
  | 24 => some ([0, 1, 2, 4, 6, 7, 9, 11, 17, 20, 21, 22, 23, 31, 32, 33, 34, 38, 39, 43, 59, 65, 68, 77, 78, 79, 83, 97, 111], [45, 53, 68, 86, 100, 3000080])
  | 25 => some ([0, 2, 3, 4, 5, 9, 13, 16], [])
  | 26 => some ([0, 2, 3, 4, 5, 6, 7, 8, 37], [])
  | 27 => some ([0, 2, 3, 4, 5, 6, 7, 8, 16, 42], [])
  | 28 => some ([0, 2], [])
  | 29 => some ([0, 1, 2, 6, 7, 8, 9, 10, 11, 12, 19, 26, 28, 53], [])
  | 30 => some ([0, 2], [])
  | 31 => some ([0, 2], [])
  | 32 => some ([0, 2, 3, 4, 5, 6, 7, 8, 10, 31, 45, 63], [])
  | 33 => some ([0, 2, 3, 4, 5, 6, 7, 8, 9, 21, 25, 32, 41, 43, 53], [54, 61])
  | 34 => some ([0, 2, 3, 4], [])
  | 35 => some ([0, 1, 4, 7], [])
  | 36 => some ([0, 1, 7], [])
  | 37 => some ([0, 2, 12], [])
  | 38 => some ([0, 1, 8], [])
  | 39 => some ([0, 1, 4, 5, 17], [])
  | 40 => some ([0, 1, 4, 22], [])
  | 41 => some ([0, 1, 4], [])
  | 42 => some ([0, 2, 3, 4, 5, 6, 7, 8, 16, 18, 30, 51, 56, 64, 72], [])
  | 43 => some ([0, 1, 2, 3, 4, 10], [])
  | 44 => some ([0, 1, 2, 3, 4, 10], [])
  | 45 => some ([0, 1, 2, 3, 4, 5, 6, 8, 33, 57, 79, 99, 101, 102, 103, 104, 109], [])
  | 46 => some ([0, 1, 2, 4, 5, 7, 9, 10, 11, 12, 18], [19])
  | 47 => some ([0, 1, 2, 3, 9, 10, 11, 12, 13], [20])
  | 48 => some ([0, 1, 2, 3, 5, 8, 9, 10, 12, 21, 22, 23, 24, 28, 29, 36, 52, 59, 62, 72, 73, 74, 78, 94, 101, 107, 113], [39, 62, 81, 3000075])
  | 49 => some ([0, 1, 2, 4, 6, 7, 9, 14, 15, 16, 17, 22], [39])
  | 50 => some ([0, 1, 2, 4, 6, 7, 9, 14, 15, 16, 17, 22], [40])
  | 51 => some ([0, 1, 2, 3, 4, 7, 11, 13, 14, 15, 16], [22])
  | 52 => some ([0, 1, 4, 5], [])
  | 53 => some ([0, 2, 3, 4, 5, 7, 8, 9, 26, 38, 39, 40, 41, 57], [])
  | 54 => some ([0, 2, 3, 4, 16], [])
  | 55 => some ([0, 2, 3, 9], [])
  | 56 => some ([0, 1, 4, 13], [])
  | 57 => some ([0, 1, 2, 6, 7, 8, 18, 32], [])
  | 58 => some ([0, 1, 4, 5, 10, 27], [])
  | 59 => some ([0, 2, 3, 13, 24], [])
  | 60 => some ([0, 2, 3, 4, 5, 6, 7, 8, 9, 10, 12, 14, 25, 30, 33, 36, 39, 42, 45, 48, 51, 59, 69, 75, 80, 94], [])
  | 61 => some ([0, 2, 3, 23], [])
  | 62 => some ([0, 1, 4, 5, 19, 27], [])
  | 63 => some ([0, 2, 3, 14], [])
  | 64 => some ([0, 1, 3, 4, 16, 18], [20])
  | 65 => some ([0, 1, 2, 6, 7, 8, 9, 10, 49], [])
  | 66 => some ([0, 2, 3], [])
  | 67 => some ([0, 1, 4, 5, 6, 7, 12, 20, 35], [])
  | 68 => some ([0, 1, 2, 3, 5, 9, 11, 12, 13, 14, 21], [])
  | 69 => some ([0, 1, 2, 3, 5, 6, 8, 11, 12, 13, 14, 18], [])
  | 70 => some ([0, 2, 3, 4, 5, 12, 22, 32], [])
  | 71 => some ([0, 2, 3, 4, 5, 9], [])
  | 72 => some ([0, 1, 2, 3], [])
  | 73 => some ([0, 1, 4], [])
  | 74 => some ([0, 1, 4, 6], [])
  | 75 => some ([0, 1, 2, 3, 4, 6, 10, 11, 23, 36], [])
  | 76 => some ([0, 1, 2, 3, 4, 7, 10, 11, 12, 13, 14, 20, 21, 22, 70, 84], [37, 74, 81])
  | 77 => some ([0, 1, 2, 3, 6, 8, 10, 29, 30, 31, 32, 37], [20, 50])
  | 78 => some ([0, 1, 2, 5, 7, 9, 10, 11, 12, 17], [21, 30])
  | 79 => some ([0, 2, 4, 6, 7, 8, 12, 13, 14, 15, 27, 28, 29, 30, 42, 43, 44, 45, 50], [18, 33, 51, 62])
  | 80 => some ([0, 1, 4, 5, 9], [])
  | 81 => some ([0, 2, 3, 13, 24], [])
  | 82 => some ([0, 1, 2, 6, 7, 8, 9, 26], [])
  | 83 => some ([0, 2], [])
  | 84 => some ([0, 2, 3, 6, 10, 16, 28], [])
  | 85 => some ([0, 2], [])
  | 86 => some ([0, 2, 3, 7, 14], [])
  | 87 => some ([0, 25], [])
  | 88 => some ([0, 1, 4, 5, 6, 7, 8, 9, 12, 20, 41, 51, 62, 67, 72, 81, 91, 100, 113, 118, 128], [])
  | 89 => some ([0, 2, 3, 10, 15], [])
  | 90 => some ([0, 1, 3, 4, 5, 9, 27], [20, 31])
  | 91 => some ([0, 2, 3, 4, 7, 10], [])
  | 92 => some ([0, 2, 3, 4, 9, 14, 19, 22, 27], [])
  | 93 => some ([0, 2, 3, 4, 7, 10, 13, 18, 22], [])
  | 94 => some ([0, 2, 3, 4, 7, 10, 13, 16], [])
  | 95 => some ([0, 1, 2, 3, 5, 6, 8, 12, 13, 14, 15, 19], [21])
  | 96 => some ([0, 2, 3, 5, 6, 8, 9, 10, 11, 12, 20, 25, 26, 27, 28], [31])
  | 97 => some ([0, 1, 2, 4, 7], [])
  | 98 => some ([0, 2], [])
  | 99 => some ([0, 1, 3, 14], [])
  | 100 => some ([0, 1, 2, 3, 4, 10, 12, 13, 14, 15, 16, 17, 18, 19, 20, 42, 48, 54, 93], [])
  | 101 => some ([0, 2], [])
  | 102 => some ([0, 1, 4, 5, 7, 10, 11, 12, 13, 18], [])
  | 103 => some ([0, 1, 4], [])
  | 104 => some ([0, 1, 4, 5, 16], [])
  | 105 => some ([0, 1, 3, 4, 6, 18], [8])
  | 106 => some ([0, 1, 4, 5, 8, 9, 13, 17], [])
  | 107 => some ([0, 2, 3, 4, 13, 22, 28, 52], [35])
  | 108 => some ([0, 2], [])
  | 109 => some ([0, 2, 3], [17])
  | 110 => some ([0, 1, 3, 4, 5, 15, 17, 30], [23])
  | 111 => some ([0, 2, 3, 4, 12, 22, 36], [29])
  | 112 => some ([0, 2, 9], [])
  | 113 => some ([0, 2, 4, 7, 9, 10, 11, 12, 17], [])
  | 114 => some ([0, 2, 4, 5, 6, 7, 8, 13], [])
  | 115 => some ([0, 2, 3, 4, 5, 9, 21], [22])
  | 116 => some ([0, 2, 3, 4, 5, 6, 7, 10, 13, 24, 34, 47, 53, 69], [])
  | 117 => some ([0, 1, 2], [])
  | 118 => some ([0, 2], [])
  | 119 => some ([0, 2], [])
  | 120 => some ([0, 1, 2], [])
  | 122 => some ([0, 1, 2], [])
  | 123 => some ([0, 2, 3], [])
  | 124 => some ([0, 1, 2], [])
  | 125 => some ([0, 1, 2], [])
  | 126 => some ([0, 1, 2], [])
  | 127 => some ([0, 2], [])
  | 128 => some ([0, 1, 2], [])
  | 129 => some ([0, 1, 2], [])
  | 130 => some ([0, 2, 3, 7], [])
  | 131 => some ([0, 2, 4, 5, 6, 7, 8, 18], [])
  | 132 => some ([0, 1, 2], [])
  | 133 => some ([0, 1, 2], [])
  | 134 => some ([0, 2], [])
  | 135 => some ([0, 1, 2], [])
  | 136 => some ([0, 2, 3, 4], [])
  | 137 => some ([0, 1, 2], [])
  | 138 => some ([0, 1, 2], [])
  | 139 => some ([0, 1, 2], [])
  | 140 => some ([0, 1, 2], [])
  | 141 => some ([0, 1, 2, 5], [])
  | 142 => some ([0, 1, 2, 5], [])
  | 143 => some ([0, 1, 2], [])
  | 144 => some ([0, 2], [])
  | 145 => some ([0, 1, 4, 6, 16], [20])
  | 146 => some ([0, 1, 4, 5, 7, 9, 10, 11, 12, 15, 18], [])
  | 147 => some ([0, 1, 3, 4], [])
  | 148 => some ([0, 2, 3, 4, 18, 22, 46, 82, 95], [99])
  | 149 => some ([0, 1, 4], [])
  | 150 => some ([0, 2, 4, 6, 7, 8, 12], [])
  | 151 => some ([0, 1, 3], [])
  | 152 => some ([0, 1, 4], [])
  | 153 => some ([0, 1, 2, 3], [])
  | 154 => some ([0, 1, 4], [])
  | 155 => some ([0, 1, 4], [])
  | 156 => some ([0, 2], [])
  | 157 => some ([0, 1, 4, 5, 6], [])
  | 158 => some ([0, 2], [])
  | 159 => some ([0, 1, 3], [])
  | 160 => some ([0, 1, 3], [])
  | 161 => some ([0, 1, 4], [11])
  | 162 => some ([0, 2], [])
  | 163 => some ([0, 1, 2, 3, 4, 5, 6], [])
  | 164 => some ([0, 2], [])
  | 165 => some ([0, 1, 4, 5, 7, 8, 9, 16], [])
  | 166 => some ([0, 1, 4, 5, 7, 8, 9, 16], [])
  | 167 => some ([0, 1, 4], [])
  | 168 => some ([0, 1, 4, 5, 6, 7, 12], [])
  | 169 => some ([0, 1, 4], [])
  | 170 => some ([0, 1, 4], [])
  | 172 => some ([0, 1, 2, 3, 6, 7, 8, 11, 14, 25, 33, 42], [])
  | 173 => some ([0, 2, 3, 10], [])
  | 174 => some ([0, 1, 4], [])
  | 175 => some ([0, 1, 4, 7], [])
  | 176 => some ([0, 1, 4, 5, 6, 7, 8, 9, 10, 11, 12, 13, 16, 24, 31, 36, 59, 64, 73, 93, 107, 114, 132, 139], [])
  | 177 => some ([0, 1, 4], [])
  | 179 => some ([0, 2, 3, 4, 5, 6, 7, 8, 9, 10, 11, 12, 16, 23, 45, 57, 59, 75, 77, 98], [])
  | 181 => some ([0, 2], [])
  | 182 => some ([0, 1, 4, 5, 6, 7, 8, 9, 10, 20, 39, 44, 77], [])
  | 184 => some ([0, 2, 3, 4, 5, 6, 7, 8, 12, 25, 30], [])
  | 206 => some ([], [])
  | _ => none
theorem ktX_ok : ∀ f q, ktX f = some q → ∃ fn, Tryz.prog.funcs[f]? = some fn ∧ (fn.name == "runtime.NumGoroutine") = false ∧ fn.body.isSome = true := by
  intro f x hx
  unfold ktX at hx
  split at hx
  · exact ⟨_, Tryz.func2, by kernel_rfl, rfl⟩
  · exact ⟨_, Tryz.func3, by kernel_rfl, rfl⟩
  · exact ⟨_, Tryz.func4, by kernel_rfl, rfl⟩
  · exact ⟨_, Tryz.func5, by kernel_rfl, rfl⟩
  · exact ⟨_, Tryz.func6, by kernel_rfl, rfl⟩
  · exact ⟨_, Tryz.func7, by kernel_rfl, rfl⟩
  · exact ⟨_, Tryz.func8, by kernel_rfl, rfl⟩
  · exact ⟨_, Tryz.func9, by kernel_rfl, rfl⟩
  · exact ⟨_, Tryz.func10, by kernel_rfl, rfl⟩
  · exact ⟨_, Tryz.func11, by kernel_rfl, rfl⟩
  · exact ⟨_, Tryz.func12, by kernel_rfl, rfl⟩
  · exact ⟨_, Tryz.func13, by kernel_rfl, rfl⟩
  · exact ⟨_, Tryz.func14, by kernel_rfl, rfl⟩
  · exact ⟨_, Tryz.func15, by kernel_rfl, rfl⟩
  · exact ⟨_, Tryz.func16, by kernel_rfl, rfl⟩
  · exact ⟨_, Tryz.func17, by kernel_rfl, rfl⟩
  · exact ⟨_, Tryz.func18, by kernel_rfl, rfl⟩
  · exact ⟨_, Tryz.func19, by kernel_rfl, rfl⟩
  · exact ⟨_, Tryz.func20, by kernel_rfl, rfl⟩
  · exact ⟨_, Tryz.func21, by kernel_rfl, rfl⟩
  · exact ⟨_, Tryz.func22, by kernel_rfl, rfl⟩
  · exact ⟨_, Tryz.func23, by kernel_rfl, rfl⟩
  · exact ⟨_, Tryz.func24, by kernel_rfl, rfl⟩
  · exact ⟨_, Tryz.func25, by kernel_rfl, rfl⟩
  · exact ⟨_, Tryz.func26, by kernel_rfl, rfl⟩
  · exact ⟨_, Tryz.func27, by kernel_rfl, rfl⟩
  · exact ⟨_, Tryz.func28, by kernel_rfl, rfl⟩
  · exact ⟨_, Tryz.func29, by kernel_rfl, rfl⟩
  · exact ⟨_, Tryz.func30, by kernel_rfl, rfl⟩
  · exact ⟨_, Tryz.func31, by kernel_rfl, rfl⟩
  · exact ⟨_, Tryz.func32, by kernel_rfl, rfl⟩
  · exact ⟨_, Tryz.func33, by kernel_rfl, rfl⟩
  · exact ⟨_, Tryz.func34, by kernel_rfl, rfl⟩
  · exact ⟨_, Tryz.func35, by kernel_rfl, rfl⟩
  · exact ⟨_, Tryz.func36, by kernel_rfl, rfl⟩
  · exact ⟨_, Tryz.func37, by kernel_rfl, rfl⟩
  · exact ⟨_, Tryz.func38, by kernel_rfl, rfl⟩
  · exact ⟨_, Tryz.func39, by kernel_rfl, rfl⟩
  · exact ⟨_, Tryz.func40, by kernel_rfl, rfl⟩
  · exact ⟨_, Tryz.func41, by kernel_rfl, rfl⟩
  · exact ⟨_, Tryz.func42, by kernel_rfl, rfl⟩
  · exact ⟨_, Tryz.func43, by kernel_rfl, rfl⟩
  · exact ⟨_, Tryz.func44, by kernel_rfl, rfl⟩
  · exact ⟨_, Tryz.func45, by kernel_rfl, rfl⟩
  · exact ⟨_, Tryz.func46, by kernel_rfl, rfl⟩
  · exact ⟨_, Tryz.func47, by kernel_rfl, rfl⟩
  · exact ⟨_, Tryz.func48, by kernel_rfl, rfl⟩
  · exact ⟨_, Tryz.func49, by kernel_rfl, rfl⟩
  · exact ⟨_, Tryz.func50, by kernel_rfl, rfl⟩
  · exact ⟨_, Tryz.func51, by kernel_rfl, rfl⟩
  · exact ⟨_, Tryz.func52, by kernel_rfl, rfl⟩
  · exact ⟨_, Tryz.func53, by kernel_rfl, rfl⟩
  · exact ⟨_, Tryz.func54, by kernel_rfl, rfl⟩
  · exact ⟨_, Tryz.func55, by kernel_rfl, rfl⟩
  · exact ⟨_, Tryz.func56, by kernel_rfl, rfl⟩
  · exact ⟨_, Tryz.func57, by kernel_rfl, rfl⟩
  · exact ⟨_, Tryz.func58, by kernel_rfl, rfl⟩
  · exact ⟨_, Tryz.func59, by kernel_rfl, rfl⟩
  · exact ⟨_, Tryz.func60, by kernel_rfl, rfl⟩
  · exact ⟨_, Tryz.func61, by kernel_rfl, rfl⟩
  · exact ⟨_, Tryz.func62, by kernel_rfl, rfl⟩
  · exact ⟨_, Tryz.func63, by kernel_rfl, rfl⟩
  · exact ⟨_, Tryz.func64, by kernel_rfl, rfl⟩
  · exact ⟨_, Tryz.func65, by kernel_rfl, rfl⟩
  · exact ⟨_, Tryz.func66, by kernel_rfl, rfl⟩
  · exact ⟨_, Tryz.func67, by kernel_rfl, rfl⟩
  · exact ⟨_, Tryz.func68, by kernel_rfl, rfl⟩
  · exact ⟨_, Tryz.func69, by kernel_rfl, rfl⟩
  · exact ⟨_, Tryz.func70, by kernel_rfl, rfl⟩
  · exact ⟨_, Tryz.func71, by kernel_rfl, rfl⟩
  · exact ⟨_, Tryz.func72, by kernel_rfl, rfl⟩
  · exact ⟨_, Tryz.func73, by kernel_rfl, rfl⟩
  · exact ⟨_, Tryz.func74, by kernel_rfl, rfl⟩
  · exact ⟨_, Tryz.func75, by kernel_rfl, rfl⟩
  · exact ⟨_, Tryz.func76, by kernel_rfl, rfl⟩
  · exact ⟨_, Tryz.func77, by kernel_rfl, rfl⟩
  · exact ⟨_, Tryz.func78, by kernel_rfl, rfl⟩
  · exact ⟨_, Tryz.func79, by kernel_rfl, rfl⟩
  · exact ⟨_, Tryz.func80, by kernel_rfl, rfl⟩
  · exact ⟨_, Tryz.func81, by kernel_rfl, rfl⟩
  · exact ⟨_, Tryz.func82, by kernel_rfl, rfl⟩
  · exact ⟨_, Tryz.func83, by kernel_rfl, rfl⟩
  · exact ⟨_, Tryz.func84, by kernel_rfl, rfl⟩
  · exact ⟨_, Tryz.func85, by kernel_rfl, rfl⟩
  · exact ⟨_, Tryz.func86, by kernel_rfl, rfl⟩
  · exact ⟨_, Tryz.func87, by kernel_rfl, rfl⟩
  · exact ⟨_, Tryz.func88, by kernel_rfl, rfl⟩
  · exact ⟨_, Tryz.func89, by kernel_rfl, rfl⟩
  · exact ⟨_, Tryz.func90, by kernel_rfl, rfl⟩
  · exact ⟨_, Tryz.func91, by kernel_rfl, rfl⟩
  · exact ⟨_, Tryz.func92, by kernel_rfl, rfl⟩
  · exact ⟨_, Tryz.func93, by kernel_rfl, rfl⟩
  · exact ⟨_, Tryz.func94, by kernel_rfl, rfl⟩
  · exact ⟨_, Tryz.func95, by kernel_rfl, rfl⟩
  · exact ⟨_, Tryz.func96, by kernel_rfl, rfl⟩
  · exact ⟨_, Tryz.func97, by kernel_rfl, rfl⟩
  · exact ⟨_, Tryz.func98, by kernel_rfl, rfl⟩
  · exact ⟨_, Tryz.func99, by kernel_rfl, rfl⟩
  · exact ⟨_, Tryz.func100, by kernel_rfl, rfl⟩
  · exact ⟨_, Tryz.func101, by kernel_rfl, rfl⟩
  · exact ⟨_, Tryz.func102, by kernel_rfl, rfl⟩
  · exact ⟨_, Tryz.func103, by kernel_rfl, rfl⟩
  · exact ⟨_, Tryz.func104, by kernel_rfl, rfl⟩
  · exact ⟨_, Tryz.func105, by kernel_rfl, rfl⟩
  · exact ⟨_, Tryz.func106, by kernel_rfl, rfl⟩
  · exact ⟨_, Tryz.func107, by kernel_rfl, rfl⟩
  · exact ⟨_, Tryz.func108, by kernel_rfl, rfl⟩
  · exact ⟨_, Tryz.func109, by kernel_rfl, rfl⟩
  · exact ⟨_, Tryz.func110, by kernel_rfl, rfl⟩
  · exact ⟨_, Tryz.func111, by kernel_rfl, rfl⟩
  · exact ⟨_, Tryz.func112, by kernel_rfl, rfl⟩
  · exact ⟨_, Tryz.func113, by kernel_rfl, rfl⟩
  · exact ⟨_, Tryz.func114, by kernel_rfl, rfl⟩
  · exact ⟨_, Tryz.func115, by kernel_rfl, rfl⟩
  · exact ⟨_, Tryz.func116, by kernel_rfl, rfl⟩
  · exact ⟨_, Tryz.func117, by kernel_rfl, rfl⟩
  · exact ⟨_, Tryz.func118, by kernel_rfl, rfl⟩
  · exact ⟨_, Tryz.func119, by kernel_rfl, rfl⟩
  · exact ⟨_, Tryz.func120, by kernel_rfl, rfl⟩
  · exact ⟨_, Tryz.func122, by kernel_rfl, rfl⟩
  · exact ⟨_, Tryz.func123, by kernel_rfl, rfl⟩
  · exact ⟨_, Tryz.func124, by kernel_rfl, rfl⟩
  · exact ⟨_, Tryz.func125, by kernel_rfl, rfl⟩
  · exact ⟨_, Tryz.func126, by kernel_rfl, rfl⟩
  · exact ⟨_, Tryz.func127, by kernel_rfl, rfl⟩
  · exact ⟨_, Tryz.func128, by kernel_rfl, rfl⟩
  · exact ⟨_, Tryz.func129, by kernel_rfl, rfl⟩
  · exact ⟨_, Tryz.func130, by kernel_rfl, rfl⟩
  · exact ⟨_, Tryz.func131, by kernel_rfl, rfl⟩
  · exact ⟨_, Tryz.func132, by kernel_rfl, rfl⟩
  · exact ⟨_, Tryz.func133, by kernel_rfl, rfl⟩
  · exact ⟨_, Tryz.func134, by kernel_rfl, rfl⟩
  · exact ⟨_, Tryz.func135, by kernel_rfl, rfl⟩
  · exact ⟨_, Tryz.func136, by kernel_rfl, rfl⟩
  · exact ⟨_, Tryz.func137, by kernel_rfl, rfl⟩
  · exact ⟨_, Tryz.func138, by kernel_rfl, rfl⟩
  · exact ⟨_, Tryz.func139, by kernel_rfl, rfl⟩
  · exact ⟨_, Tryz.func140, by kernel_rfl, rfl⟩
  · exact ⟨_, Tryz.func141, by kernel_rfl, rfl⟩
  · exact ⟨_, Tryz.func142, by kernel_rfl, rfl⟩
  · exact ⟨_, Tryz.func143, by kernel_rfl, rfl⟩
  · exact ⟨_, Tryz.func144, by kernel_rfl, rfl⟩
  · exact ⟨_, Tryz.func145, by kernel_rfl, rfl⟩
  · exact ⟨_, Tryz.func146, by kernel_rfl, rfl⟩
  · exact ⟨_, Tryz.func147, by kernel_rfl, rfl⟩
  · exact ⟨_, Tryz.func148, by kernel_rfl, rfl⟩
  · exact ⟨_, Tryz.func149, by kernel_rfl, rfl⟩
  · exact ⟨_, Tryz.func150, by kernel_rfl, rfl⟩
  · exact ⟨_, Tryz.func151, by kernel_rfl, rfl⟩
  · exact ⟨_, Tryz.func152, by kernel_rfl, rfl⟩
  · exact ⟨_, Tryz.func153, by kernel_rfl, rfl⟩
  · exact ⟨_, Tryz.func154, by kernel_rfl, rfl⟩
  · exact ⟨_, Tryz.func155, by kernel_rfl, rfl⟩
  · exact ⟨_, Tryz.func156, by kernel_rfl, rfl⟩
  · exact ⟨_, Tryz.func157, by kernel_rfl, rfl⟩
  · exact ⟨_, Tryz.func158, by kernel_rfl, rfl⟩
  · exact ⟨_, Tryz.func159, by kernel_rfl, rfl⟩
  · exact ⟨_, Tryz.func160, by kernel_rfl, rfl⟩
  · exact ⟨_, Tryz.func161, by kernel_rfl, rfl⟩
  · exact ⟨_, Tryz.func162, by kernel_rfl, rfl⟩
  · exact ⟨_, Tryz.func163, by kernel_rfl, rfl⟩
  · exact ⟨_, Tryz.func164, by kernel_rfl, rfl⟩
  · exact ⟨_, Tryz.func165, by kernel_rfl, rfl⟩
  · exact ⟨_, Tryz.func166, by kernel_rfl, rfl⟩
  · exact ⟨_, Tryz.func167, by kernel_rfl, rfl⟩
  · exact ⟨_, Tryz.func168, by kernel_rfl, rfl⟩
  · exact ⟨_, Tryz.func169, by kernel_rfl, rfl⟩
  · exact ⟨_, Tryz.func170, by kernel_rfl, rfl⟩
  · exact ⟨_, Tryz.func172, by kernel_rfl, rfl⟩
  · exact ⟨_, Tryz.func173, by kernel_rfl, rfl⟩
  · exact ⟨_, Tryz.func174, by kernel_rfl, rfl⟩
  · exact ⟨_, Tryz.func175, by kernel_rfl, rfl⟩
  · exact ⟨_, Tryz.func176, by kernel_rfl, rfl⟩
  · exact ⟨_, Tryz.func177, by kernel_rfl, rfl⟩
  · exact ⟨_, Tryz.func179, by kernel_rfl, rfl⟩
  · exact ⟨_, Tryz.func181, by kernel_rfl, rfl⟩
  · exact ⟨_, Tryz.func182, by kernel_rfl, rfl⟩
  · exact ⟨_, Tryz.func184, by kernel_rfl, rfl⟩
  · exact ⟨_, Tryz.func206, by kernel_rfl, rfl⟩
  · cases hx
end Go.Proofs.YtiigffdmjdooeaaGreatDoor.Pv

