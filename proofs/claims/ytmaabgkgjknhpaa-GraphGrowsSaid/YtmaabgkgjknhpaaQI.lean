/- The library's sort of texts, as the evaluator asks for it. -/
import Derived.Test.YtmaabgkgjknhpaaShelf
import Derived.Test.YtmaabgkgjknhpaaPwGl
set_option linter.unusedVariables false
set_option linter.unusedSimpArgs false
namespace Go.Proofs.Ytmaabgkgjknhpaa.Pv
open Go Go.Proofs Go.Sort

theorem holds_row {w : World} {b off : Nat} {e : TypeId} {cur : Array Value} {l : List (List UInt8)} (hb : w.heap[b]? = some (.cells cur e (0, 0))) (hc : (cur.toList.drop off).take l.length = l.map encT) : Holds encStr w b off l.toArray := by
  intro j hj
  have hj' : j < l.length := by simpa using hj
  refine ⟨?_, by simp [World.frozen?, hb]⟩
  have h1 : ((cur.toList.drop off).take l.length)[j]? = (l.map encT)[j]? := by rw [hc]
  rw [List.getElem?_take_of_lt hj', List.getElem?_drop] at h1
  simp only [World.cell?, hb]
  simp only [Option.isSome_none, Bool.false_eq_true, if_false]
  rw [← Array.getElem?_toList, h1]
  simp [hj', encT]

theorem sortC_of {P : Program} {f : FuncId} (hf : ∃ fn, P.funcs[f]? = some fn ∧ fn.body.isSome = true ∧ (fn.name == "runtime.NumGoroutine") = false)
    (hn : ∀ (p : Option Addr) (cap : Nat) (w : World), Calls P f #[.slice p 0 cap] w fun e w' => e = .returned (.tuple #[]) ∧ w' = w)
    (hs : ∀ (blk off cap : Nat) (ss : List (List UInt8)) (w : World), Holds encStr w blk off ss.toArray → blk < w.heap.size → ss.length < 4611686018427387904 →
      Calls P f #[.slice (some ⟨blk, off, none⟩) ss.length cap] w fun e w' => e = .returned (.tuple #[]) ∧ ∃ n os, w' = grow (putRow encStr (Sort.ahead w n) blk off (ss.mergeSort fun x y => decide (x ≤ y)).toArray) os) : SortC P f := by
  refine ⟨hf, fun w p cap => (hn p cap w).mono fun r w' hp => ⟨⟨_, hp.1⟩, hp.2⟩, fun w b off cap e cur l hb hc hle hl => ?_⟩
  have hlt : b < w.heap.size := (Array.getElem?_eq_some_iff.1 hb).1
  refine (hs b off cap l w (holds_row hb hc) hlt hl).mono fun r w' hp => ?_
  obtain ⟨rfl, n, os, rfl⟩ := hp
  have hsl : (sortT l).length = l.length := by simp [sortT]
  have hnew : (grow (putRow encStr (Sort.ahead w n) b off (sortT l).toArray) os).heap[b]? = some (.cells (putCells encStr off (sortT l).toArray cur) e (0, 0)) := by
    rw [heap_grow_old _ _ (by simpa using hlt)]
    simp [putRow, mapBlock, Sort.ahead, Array.getElem?_modify, hb, onCells]
  refine ⟨⟨_, rfl⟩, rfl, rfl, rfl, by simp, fun k hk hne => ?_, _, hnew, by simp [putCells], fun k hk => ?_, ?_⟩
  · rw [heap_grow_old _ _ (by simpa using hk)]
    simp [putRow, mapBlock, Sort.ahead, Array.getElem?_modify, show ¬ b = k from fun e => hne e.symm]
  · simp only [putCells, Array.getElem?_mapIdx]
    cases hq : cur[k]? with
    | none => rfl
    | some x => simp [show ¬ off ≤ k by omega]
  · apply List.ext_getElem?
    intro j
    rcases Nat.lt_or_ge j l.length with hj | hj
    · rw [List.getElem?_take_of_lt hj, List.getElem?_drop, Array.getElem?_toList]
      have hj2 : off + j < cur.size := by omega
      simp only [putCells, Array.getElem?_mapIdx, Array.getElem?_eq_getElem hj2, Option.map_some]
      rw [if_pos ⟨by omega, by simp [hsl]; omega⟩]
      have hj3 : j < (sortT l).length := by omega
      simp [encT, hj3]
    · rw [List.getElem?_take_eq_none (by omega), List.getElem?_eq_none (by simp [hsl]; omega)]
end Go.Proofs.Ytmaabgkgjknhpaa.Pv
