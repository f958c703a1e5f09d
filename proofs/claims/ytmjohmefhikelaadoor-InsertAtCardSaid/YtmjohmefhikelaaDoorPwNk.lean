/- The pure evaluator, part Nk: a frame that leaves shuts its marks. -/
import Derived.Test.YtmjohmefhikelaaDoorPwN
import Derived.RangeFuncLeaves
import Derived.RangeFuncRecord
set_option linter.unusedVariables false
set_option linter.unusedSimpArgs false
namespace Go.Proofs.YtmjohmefhikelaaDoor.Pv
open Go
section
variable {P : Program} {d n : Nat} {a : Act} {w : World} {g : Gh} {env : Env} {h : H}
theorem putObj_withObj (w : World) (b : Nat) (o : Obj) : w.putObj b o = withObj w b o := rfl
/-- A mark's block is shut. -/
theorem shut_hrel {base : Option Nat} {D : Nat} (hm : MarkOK w g base D) (hh : HRel w g h) : HRel (withObj w D (.deferred none)) g h := by
  obtain ⟨_, hb, hι, hO, hF⟩ := hm
  refine ⟨hh.len, hh.nodup, fun id o b ho hb' => ?_, fun b' hb' => ?_, fun b' hb' => hh.fresh b' (by simpa [withObj] using hb'), hh.glob.cov (WriteM.cov hF)⟩
  · have hne : ∀ (m bm : Nat), g.ι[m]? = some bm → bm ≠ D := fun m bm hbm e => hι (e ▸ List.mem_of_getElem? hbm)
    exact (hh.obj id o b ho hb').of_vat (withObj_other (hne _ _ hb')) (fun m bm hbm => ⟨hbm, .of_eq (withObj_other (hne _ _ hbm))⟩) (fun h => h.mono (WriteM.cov hF)) (fun h => WriteM.vat hF hO h)
  · obtain ⟨h1, h2, h3⟩ := hh.apart b' hb'
    exact ⟨h1, h2, by simpa [withObj] using h3⟩
theorem shut_ext {base : Option Nat} {D : Nat} {w0 : World} {g0 : Gh} (hm : MarkOK w g base D) (h0 : ∀ b, base = some b → w0.heap.size ≤ b) (hx : Ext d w0 g0 w g) : Ext d w0 g0 (withObj w D (.deferred none)) g := by
  obtain ⟨⟨b0, hb0, hbd⟩, hb, hι, hO, hF⟩ := hm
  have h0 := h0 b0 hb0
  refine ⟨hx.os, hx.tape, hx.output, by simpa [withObj] using hx.size, hx.cov.trans (WriteM.cov hF), hx.new, fun b hlt h1 h2 h3 => ?_⟩
  obtain ⟨e1, e2, e3⟩ := hx.kept b hlt h1 h2 h3
  exact ⟨(withObj_other (by omega)).trans e1, e2, e3⟩
theorem shut_mark {base : Option Nat} {D D' : Nat} (hm : MarkOK w g base D) (h' : MarkOK w g base D') (hne : D' ≠ D) : MarkOK (withObj w D (.deferred none)) g base D' :=
  ⟨h'.1, (withObj_other hne).trans h'.2.1, h'.2.2⟩

/-- Marks are worked off where a frame leaves; what stands behind them goes on. -/
theorem leaves_marks {F : Fence} {m : Nat} {fn : Func} {tmps : Array Value} {R : Ending → World → Prop} {w0 : World} {g0 : Gh} {base : Option Nat} (h0 : ∀ b, base = some b → w0.heap.size ≤ b) {ds : List Deferred} {u : FrameMode} (hu : u ≠ .run)
    (k : ∀ w', (∀ {p : Place} {v : V} {x : Value}, VAt w g p v x → VAt w' g p v x) → Cov w g.F g.ι w' g.F g.ι → HRel w' g h → Ext d w0 g0 w' g → LeavesInM F m P fn tmps R ds u w') :
    ∀ (Ds : List Nat) (w1 : World), (∀ {p : Place} {v : V} {x : Value}, VAt w g p v x → VAt w1 g p v x) → Cov w g.F g.ι w1 g.F g.ι → HRel w1 g h → Ext d w0 g0 w1 g → Ds.Nodup → (∀ D ∈ Ds, MarkOK w1 g base D) → LeavesInM F m P fn tmps R (Ds.map markOf ++ ds) u w1
  | [], w1, hv, hc, hh, hx, _, _ => k w1 hv hc hh hx
  | D :: Ds, w1, hv, hc, hh, hx, hn, hm => by
    have hD := hm D (by simp)
    rw [List.nodup_cons] at hn
    show LeavesInM F m P fn tmps R (markOf D :: (Ds.map markOf ++ ds)) u w1
    unfold LeavesInM
    refine ⟨hu, .inl ⟨D, _, rfl, run_takeDeferred hD.2.1, ?_⟩⟩
    rw [putObj_withObj]
    exact leaves_marks h0 hu k Ds _ (fun h => WriteM.vat hD.2.2.2.2 hD.2.2.2.1 (hv h)) (hc.trans (WriteM.cov hD.2.2.2.2)) (shut_hrel hD hh) (shut_ext hD h0 hx) hn.2 (fun D' hD' => shut_mark hD (hm D' (List.mem_cons_of_mem _ hD')) (fun e => hn.1 (e ▸ hD')))
end
end Go.Proofs.YtmjohmefhikelaaDoor.Pv
