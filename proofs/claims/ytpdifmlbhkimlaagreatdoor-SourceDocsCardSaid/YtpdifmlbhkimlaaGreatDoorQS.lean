/- From pure runs to the machine's calls, and the arguments of this seat. -/
import Derived.Test.YtpdifmlbhkimlaaGreatDoorRows
import Derived.Test.YtpdifmlbhkimlaaGreatDoorQP
import Derived.Test.YtpdifmlbhkimlaaGreatDoorOS
import Derived.Test.YtpdifmlbhkimlaaGreatDoorShelf
import Derived.Test.YtpdifmlbhkimlaaGreatDoorQG
import Derived.ProofKit
import Derived.OpenShut
import Derived.LaidMore
import Derived.Lay
import Derived.Stop.Joined
import Derived.JoinedCond
set_option linter.unusedVariables false
set_option linter.unusedSimpArgs false
namespace Go.Proofs.YtpdifmlbhkimlaaGreatDoor.Pv
open Go Go.Proofs Go.ChangeShapes Go.WideShapes Go.ChangeAt Go.RowKit Go.ChangeMaps

theorem own : ownKnob Tryz.prog.godebug = none := by kernel_rfl
theorem laidOut : laidOutB Tryz.prog = true := by kernel_rfl
instance : SortOK Tryz.prog := ⟨fun f hf => by cases hf⟩
theorem args_two {w : World} {F : Nat → Nat} {ι : List Nat} {x y : V} {cargs : Array Value} (h : LRel w F ι [x, y] cargs.toList) : ∃ u v, cargs = #[u, v] ∧ VRel w F ι x u ∧ VRel w F ι y v := by
  obtain ⟨hl, hr⟩ := h
  match hc : cargs.toList, hl with
  | [u, v], _ =>
    rw [hc] at hr
    exact ⟨u, v, by apply Array.ext'; rw [hc], hr 0 _ u rfl rfl, hr 1 _ v rfl rfl⟩
theorem count_sound {s : List UInt8} {c : UInt8} {h : H} {Q : Out → H → Prop} (hq : Q (.ret (.int .i64 (Lib.countByte s c))) h) : Sound Tryz.prog 58 [.str s, .str [c]] h Q := by
  refine ⟨⟨Tryz.f58, Tryz.func58, by kernel_rfl, by kernel_rfl⟩, fun D w g cargs hh hargs => ?_⟩
  obtain ⟨u, v, rfl, h1, h2⟩ := args_two hargs
  obtain ⟨b, rfl, rfl⟩ := h1.str_inv
  obtain ⟨⟨d⟩, rfl, hd⟩ := h2.str_inv
  have ed : d = #[c] := by apply Array.ext'; simpa using hd
  subst ed
  refine (Tryz.strings_Count_one b c w).mono fun e w' he => ?_
  obtain ⟨rfl, rfl⟩ := he
  exact ⟨g, h, Ext.refl _ _ _, hh, .inl ⟨_, _, 0, rfl, hq, .inl (.int _ _)⟩⟩
theorem info_int : ∃ i, Tryz.prog.info? 3 = some i ∧ i.zero = some (.int .i64 0) ∧ i.size = 1 ∧ i.bytes = 8 := by
  have h : (match Tryz.prog.info? 3 with | some i => (match i.zero with | some (.int .i64 n) => n == 0 | _ => false) && i.size == 1 && i.bytes == 8 | _ => false) = true := by kernel_rfl
  split at h
  · rename_i i e
    simp only [Bool.and_eq_true, beq_iff_eq] at h
    obtain ⟨⟨hz, hs⟩, hb⟩ := h
    refine ⟨i, e, ?_, hs, hb⟩
    split at hz
    · rename_i n ez
      rw [ez]
      simp only [beq_iff_eq] at hz
      rw [hz]
    · cases hz
  · cases h
theorem grow_sound {n : Int} {h : H} {Q : Out → H → Prop} (h0 : 0 < n) (h1 : n ≤ 1048576) (hq : Q (.ret (.own 3 1 [])) h) : Sound Tryz.prog 40 [.nils 3 1, .int .i64 n] h Q := by
  refine ⟨⟨Tryz.f40, Tryz.func40, by kernel_rfl, by kernel_rfl⟩, fun D w g cargs hh hargs => ?_⟩
  obtain ⟨u, v, rfl, k1, k2⟩ := args_two hargs
  cases k1
  cases k2
  obtain ⟨m, rfl⟩ : ∃ m : Nat, n = m := ⟨n.toNat, by omega⟩
  obtain ⟨i0, hi, hz, hs, hb⟩ := info_int
  have hge := grownCap_ge w (0 + m) 0 3
  have hcm : grownCap w (0 + m) 0 3 ≤ maxLen := grownCap_le_maxLen w _ 0 3 (by unfold maxLen; omega)
  refine (Tryz.slices_Grow_grow i0 _ hi hz (by omega) none 0 0 m [] w (Nat.le_refl _) (by omega) (by rw [hb]; omega) (by omega) (by simp) (fun _ => rfl) (fun a ha => by cases ha)).mono fun e w' he => ?_
  obtain ⟨rfl, rfl⟩ := he
  have hG := grown_new (w := w) (g := g) (h := h) (q := .slot D 0) (m := 0) (e := 3) (c := (([] : List Value).toArray ++ Builtin.zeroCells (Value.int .i64 0).cells (0 + m - 0) ++ Builtin.zeroCells (Value.int .i64 0).cells (grownCap w (0 + m) 0 3 - (0 + m)))) hh
  refine ⟨_, h, hG.ext hh, hG.hrel hh, .inl ⟨.own 3 1 [], _, 0, rfl, hq, .inr ⟨none, 3, 1, [], w.heap.size, 0, grownCap w (0 + m) 0 3, _, [], rfl, rfl, heap_alloc_new w.drew _, Nat.zero_le _, hcm, ?_, by simp, rfl, by decide, (fun x hx => by cases hx), (fun x hx => by cases hx), LRel.nil, ?_, ?_, fun o u' ho hu' => by cases ho⟩⟩⟩
  · simp only [Array.size_append, List.size_toArray, size_zeroCells, Value.cells, List.length_nil, List.length_cons]
    omega
  · simp [Gh.grown, rowF]
  · simp [Gh.grown]
theorem qprim_sound : ∀ f args h Q, qprim f args h Q → Sound Tryz.prog f args h Q := fun f args h Q hf => by
  cases hf with
  | count s c hq => exact count_sound hq
  | grow n h0 h1 hq => exact grow_sound h0 h1 hq
theorem top_call {f : FuncId} {args : List V} (hc : CA qprim f args [] fun r _ => r = .ret (.bool true)) {w : World} {cargs : Array Value} (hargs : LRel w (whole w) [] args cargs.toList) :
    Calls Tryz.prog f cargs w fun e w' => e = .returned (.bool true) ∧ Below w.heap.size w w' := acall_top ty_tab mixed qprim_sound hc (fun q hq => by cases hq) hargs
/-- An argument of several cells, of one cell. -/
theorem rel_agg {W : World} {vs : List V} {v : Value} (h : Cells W (V.agg vs).cells v.cells.toList) (hn : vs.length ≠ 1) : VRel W (whole W) [] (.agg vs) v := by
  cases v with
  | agg ca => exact .agg vs ca (by simpa [V.cells, Value.cells] using h.1) fun k c u hc hu => h.2.2 k c u hc (by simpa [Value.cells] using hu)
  | _ => exact absurd (by simpa [V.cells, Value.cells] using h.1) hn
theorem rel_one {W : World} {x : V} {v : Value} (h : Cells W x.cells v.cells.toList) (hx : x.cells = [x]) (hv : v.cells.toList = [v]) : VRel W (whole W) [] x v := by
  rw [hx, hv] at h
  exact h.2.2 0 x v rfl rfl
end Go.Proofs.YtpdifmlbhkimlaaGreatDoor.Pv
