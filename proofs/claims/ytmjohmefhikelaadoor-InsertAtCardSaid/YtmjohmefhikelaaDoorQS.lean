/- What is told of the library's calls is so; from pure runs to the machine's calls. -/
import Derived.Test.YtmjohmefhikelaaDoorRows
import Derived.Test.YtmjohmefhikelaaDoorQP
import Derived.Test.YtmjohmefhikelaaDoorIL
import Derived.Test.YtmjohmefhikelaaDoorSB
import Derived.Test.YtmjohmefhikelaaDoorShelf
import Derived.Shelf.Strings.SlTrimAscii
import Derived.Test.YtmjohmefhikelaaDoorOP
import Derived.ProofKit
import Derived.OpenShut
import Derived.LaidMore
import Derived.Lay
import Derived.Stop.Joined
import Derived.JoinedCond
import Derived.HandedShaped
set_option linter.unusedVariables false
set_option linter.unusedSimpArgs false
namespace Go.Proofs.YtmjohmefhikelaaDoor.Pv
open Go Go.Proofs Go.ChangeShapes Go.WideShapes Go.ChangeAt Go.RowKit Go.ChangeMaps

theorem own : ownKnob Tryd.prog.godebug = none := by kernel_rfl
theorem laidOut : laidOutB Tryd.prog = true := by kernel_rfl
instance sortOK : SortOK Tryd.prog := ⟨fun f hf => (by cases hf), Nat.le_of_ble_eq_true (by kernel_rfl)⟩
theorem args_two {w : World} {F : Nat → Nat} {ι : List Nat} {x y : V} {cargs : Array Value} (h : LRel w F ι [x, y] cargs.toList) : ∃ u v, cargs = #[u, v] ∧ VRel w F ι x u ∧ VRel w F ι y v := by
  obtain ⟨hl, hr⟩ := h
  match hc : cargs.toList, hl with
  | [u, v], _ =>
    rw [hc] at hr
    exact ⟨u, v, by apply Array.ext'; rw [hc], hr 0 _ u rfl rfl, hr 1 _ v rfl rfl⟩
theorem size_list (b : ByteArray) : b.size = b.data.toList.length := by rw [Array.length_toList]; rfl
theorem contains_sound {s sub : List UInt8} {h : H} {Q : Out → H → Prop} (hs : s.length ≤ 4000000000) (hq : Q (.ret (.bool (Lib.contains s sub))) h) : Sound Tryd.prog 16 [.str s, .str sub] h Q := by
  refine .of (by decide) ⟨⟨Tryd.f16, Tryd.func16, by kernel_rfl, by kernel_rfl⟩, fun D w g cargs hh hargs => ?_⟩
  obtain ⟨u, v, rfl, h1, h2⟩ := args_two hargs
  obtain ⟨b, rfl, rfl⟩ := h1.str_inv
  obtain ⟨c, rfl, rfl⟩ := h2.str_inv
  obtain ⟨_, m, hm⟩ := hh.glob (0, .i64) (by simp [globs])
  refine (Tryd.strings_Contains b c m w (by rw [size_list]; omega) hm).mono fun e w' he => ?_
  obtain ⟨rfl, rfl⟩ := he
  exact ⟨g, h, Ext.refl _ _ _, hh, .inl ⟨_, _, 0, rfl, hq, .inl (.bool _)⟩⟩
theorem trimSuffix_sound {s p : List UInt8} {h : H} {Q : Out → H → Prop} (hs : s.length ≤ 4000000000) (hq : Q (.ret (.str (Lib.trimSuffix s p))) h) : Sound Tryd.prog 19 [.str s, .str p] h Q := by
  refine .of (by decide) ⟨⟨Tryd.f19, Tryd.func19, by kernel_rfl, by kernel_rfl⟩, fun D w g cargs hh hargs => ?_⟩
  obtain ⟨u, v, rfl, h1, h2⟩ := args_two hargs
  obtain ⟨b, rfl, rfl⟩ := h1.str_inv
  obtain ⟨c, rfl, rfl⟩ := h2.str_inv
  refine (Tryd.strings_TrimSuffix b c w (by rw [size_list]; omega)).mono fun e w' he => ?_
  obtain ⟨rfl, rfl⟩ := he
  exact ⟨g, h, Ext.refl _ _ _, hh, .inl ⟨_, _, 0, rfl, hq, .inl (.str _ _ (by simp))⟩⟩
theorem grow_below {w w' : World} {g : Gh} {h : H} (hh : HRel w g h) (hb : Below w.heap.size w w') : Grow w g w' g :=
  ⟨hb.os, hb.tape, hb.output, hb.size, fun b hlt => ⟨hb.block b hlt, rfl, rfl⟩, rfl, fun b hle => hh.fresh b (Nat.le_trans hb.size hle)⟩
theorem trimLeft_sound {s cs : List UInt8} {h : H} {Q : Out → H → Prop} (hs : cs.length ≤ 4000000000) (ha : ascii cs = true) (hq : Q (.ret (.str (Lib.trimLeftS s cs))) h) : Sound Tryd.prog 32 [.str s, .str cs] h Q := by
  refine .of (by decide) ⟨⟨Tryd.f32, Tryd.func32, by kernel_rfl, by kernel_rfl⟩, fun D w g cargs hh hargs => ?_⟩
  obtain ⟨u, v, rfl, h1, h2⟩ := args_two hargs
  obtain ⟨b, rfl, rfl⟩ := h1.str_inv
  obtain ⟨c, rfl, rfl⟩ := h2.str_inv
  refine (Any.strings_TrimLeft_laid Tryd.lays161 (by kernel_rfl) b c w (by rw [size_list]; omega) (ascii_of_all ha)).mono fun e w' he => ?_
  obtain ⟨rfl, hb⟩ := he
  have hg := grow_below hh hb
  exact ⟨g, h, hg.ext hh, hg.hrel hh, .inl ⟨_, _, 0, rfl, hq, .inl (.str _ _ (by simp))⟩⟩
theorem qprim_sound : ∀ f args h Q, qprim f args h Q → Sound Tryd.prog f args h Q := fun f args h Q hf => by
  cases hf with
  | indexByte s c hq => exact index_sound hq
  | contains s sub h1 hq => exact contains_sound h1 hq
  | trimLeft s cs h1 h2 hq => exact trimLeft_sound h1 h2 hq
  | trimSuffix s p h1 hq => exact trimSuffix_sound h1 hq
  | copyCheck id p b h1 h2 hq => exact copyCheck_sound h1 h2 hq
  | string id p l h0 h1 hq => exact string_sound h0 h1 hq
  | lines id s h1 h2 hq => exact Sound.of_iter ⟨_, _, hq, lines_law h1 h2⟩
theorem top_call {f : FuncId} {args : List V} (hc : CA qprim f args [] fun r _ => r = .ret (.bool true)) {w : World} {cargs : Array Value} (hm : ∃ m, w.cell? ⟨0, 0, none⟩ = some (.int .i64 m)) (hargs : LRel w (whole w) [] args cargs.toList) (hlt : f < 1000000 := by decide) :
    Calls Tryd.prog f cargs w fun e w' => e = .returned (.bool true) ∧ Below w.heap.size w w' := acall_top ty_tab mixed qprim_sound hlt hc (fun q hq => by
      have : q = (0, .i64) := by simpa [globs] using hq
      subst this; exact hm) hargs
/-- The wrap that hands the contract the laid variables and the world's shape too. -/
theorem returnsInHanded_of_change_and_shaped {H : Type} {enc : TypeId × Value → H} {a : Assume} {C : Checked} {os : Os} {f : FuncId} {fn : Func} {s : ChangeSpec} {conds : List PathCond} {apart fresh handsOn again : Bool} {X : World → Array Value → Prop}
    (hX : ∀ (w w' : World) (args : Array Value), w.heap = w'.heap → X w args → X w' args)
    (own : ownKnob C.prog.godebug = none) (started : os.Started) (noInit : C.prog.inits.idxOf? f = none) (hfn : C.prog.funcs[f]? = some fn)
    (witness : ∃ (w : World) (tape : Tape) (i : Input), w.os = os ∧ (w.forCall tape i).Shaped C.prog ∧ i.vars = [] ∧ Input.okWide C.prog (w.forCall tape i) .any w.heap.size f i ∧
      ((s.pre enc C.prog fn conds apart (w.forCall tape i).memory i.args ∧ X (w.forCall tape i).memory i.args) ∧ sizedMet enc C.prog fn (OpenSpec.ofChange s) apart (w.forCall tape i).memory i.args) ∧ a.holds C.prog (lone (Frame.enter C.prog f i.args .normal) [] (w.forCall tape i)))
    (contract : ∀ (W : World) (base : Nat) (args : Array Value) (ds gs : List (DataW H)) (before : List MemPlace),
      (∀ (j : Nat) t v, fn.params[j]? = some t → args[j]? = some v → Value.okWide C.prog W .any base t v) →
      DataW.Whole enc C.prog fn.params.toList s.vars apart W args.toList ds gs before → W.ShapedOpen C.prog → X W args →
      Calls C.prog f args W fun e W' => ∃ v, e = .returned v ∧ s.post enc C.prog fn apart fresh handsOn again W args v W') :
    ReturnsInHanded a C os f .any (fun w args => (s.pre enc C.prog fn conds apart w args ∧ X w args) ∧ sizedMet enc C.prog fn (OpenSpec.ofChange s) apart w args) (s.post enc C.prog fn apart fresh handsOn again) := by
  refine returnsInHanded_of_calls own started noInit witness ?_
  intro w tape i _ hsh _ hok hpre _
  obtain ⟨_, _, _, fn', hfn', _, _, _, _, hval⟩ := hok
  have e : fn' = fn := Option.some.inj (hfn'.symm.trans hfn)
  subst e
  obtain ⟨⟨⟨ds, gs, before, hw, _⟩, hx⟩, _⟩ := hpre
  refine (contract (w.forCall tape i) w.heap.size i.args ds gs before hval (DataW.Whole.of_heap (w' := w.forCall tape i) (by rfl) hw) hsh (hX _ _ _ (by rfl) hx)).mono fun e W' ⟨v, he, hp⟩ => ?_
  subst he
  exact ChangeSpec.post_blind hp
theorem max_len {w : World} (h : w.ShapedOpen Tryd.prog) : ∃ m, w.cell? ⟨0, 0, none⟩ = some (.int .i64 m) := Tryd.laysM219.s1_3 w h
end Go.Proofs.YtmjohmefhikelaaDoor.Pv
