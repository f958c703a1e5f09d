/- What is said of the builder's two methods holds of the machine's calls. -/
import Derived.Test.YthmmgcjljfndgaaDoorRows
import Derived.Test.YthmmgcjljfndgaaDoorBld
import Derived.Test.YthmmgcjljfndgaaDoorQP
import Derived.Test.YthmmgcjljfndgaaDoorFD
import Derived.WalkSmall
import Derived.ProofKit
import Derived.OpenShut
import Derived.LaidMore
import Derived.Lay
import Derived.Stop.Joined
import Derived.JoinedCond
set_option linter.unusedVariables false
set_option linter.unusedSimpArgs false
namespace Go.Proofs.YthmmgcjljfndgaaDoor.Pv
open Go Go.Proofs


theorem setCell_row {w : World} {b : Nat} {c : Array Value} {e : TypeId} {fr : Nat × Nat} {v : Value} (hb : w.heap[b]? = some (.cells c e fr)) : w.setCell ⟨b, 0, none⟩ v = w.setRow b (c.setIfInBounds 0 v) := by
  unfold World.setCell World.setRow
  congr 1
  apply Array.ext_getElem?
  intro i
  simp only [Array.getElem?_modify]
  by_cases hi : b = i
  · subst hi
    simp [hb]
  · simp [hi]

theorem args_one {w : World} {F : Nat → Nat} {ι : List Nat} {id : Nat} {cargs : Array Value} (h : LRel w F ι [.ref id 0] cargs.toList) : ∃ b, cargs = #[.pointer (some ⟨b, 0, none⟩)] ∧ ι[id]? = some b := by
  obtain ⟨hl, hr⟩ := h
  match hc : cargs.toList, hl with
  | [u], _ =>
    rw [hc] at hr
    have := hr 0 _ u rfl rfl
    cases this with
    | ref _ _ b hid =>
      refine ⟨b, ?_, hid⟩
      apply Array.ext'
      rw [hc]

theorem two_of {c : Array Value} (h : c.size = 2) : ∃ c0 c1, c = #[c0, c1] := by
  match hc : c.toList, (by simpa using h : c.toList.length = 2) with
  | [a, b], _ => exact ⟨a, b, by apply Array.ext'; rw [hc]⟩

theorem copyCheck_sound {id : Nat} {p b : V} {h : H} {Q : Out → H → Prop} (h0 : h[id]? = some (.cells 43 [p, b])) (hpp : p = .nilp ∨ p = .ref id 0) (hq : Q (.ret (.tup [])) (h.set id (.cells 43 [.ref id 0, b]))) : Sound Tryd.prog 26 [.ref id 0] h Q := by
  refine ⟨⟨Tryd.f26, Tryd.func26, by kernel_rfl, by kernel_rfl⟩, fun D w g cargs hh hargs => ?_⟩
  obtain ⟨bk, rfl, hid⟩ := args_one hargs
  obtain ⟨c, hb, hcs, hcr⟩ := hh.cellsT (row_get h0) hid
  rw [ety_get h0] at hb
  obtain ⟨c0, c1, rfl⟩ := two_of hcs
  obtain ⟨hF, hO, hbl⟩ := hh.apart bk (List.mem_of_getElem? hid)
  have hlt : id < h.length := (List.getElem?_eq_some_iff.1 h0).1
  have hc0 := (hcr 0 p c0 rfl rfl).1
  have hc1 := hcr 1 b c1 rfl rfl
  have ht : VAt w g (.slot D 0) (.tup []) (.tuple #[]) := .inl (.tup [] #[] rfl (by simp))
  rcases hpp with rfl | rfl
  · have e0 : c0 = .pointer none := by
      have := hc0.demote
      cases this; rfl
    subst e0
    refine (cc_fresh bk w (by simp [World.cell?, hb]) (by simp [World.shape?, hb]) (by simp [World.frozen?, hb])).mono fun e w' he => ?_
    obtain ⟨rfl, rfl⟩ := he
    rw [setCell_row hb]
    refine ⟨g, _, Write.ext hF hid, Write.hrel hh hid hb hlt (by simp) (vs := [.ref id 0, b]) (fun j v u hv hu => ?_), .inl ⟨.tup [], .tuple #[], 0, rfl, hq, ?_⟩⟩
    · match j, hv, hu with
      | 0, hv, hu => simp at hv hu; subst hv; subst hu; exact ⟨.inl (.ref _ _ _ hid), rfl⟩
      | 1, hv, hu => simp at hv hu; subst hv; subst hu; exact hc1
    · exact .inl (.tup [] #[] rfl (by simp))
  · have e0 : c0 = .pointer (some ⟨bk, 0, none⟩) := by
      have := hc0.demote
      cases this with
      | ref _ _ b' hid' => rw [hid] at hid'; injection hid' with e; rw [e]
    subst e0
    refine (cc_used bk w (by simp [World.cell?, hb])).mono fun e w' he => ?_
    obtain ⟨rfl, rfl⟩ := he
    rw [set_same h0] at hq
    exact ⟨g, h, Ext.refl _ _ _, hh, .inl ⟨.tup [], .tuple #[], 0, rfl, hq, ht⟩⟩

theorem freeze_other {w : World} {b n i : Nat} (h : i ≠ b) : (w.freeze ⟨b, 0, none⟩ n).heap[i]? = w.heap[i]? := by
  unfold World.freeze
  split
  · rfl
  · simp [Array.getElem?_modify, Ne.symm h]
theorem freeze_at {w : World} {b n : Nat} {c : Array Value} {e : TypeId} {fr : Nat × Nat} (h : w.heap[b]? = some (.cells c e fr)) : ∃ fr', (w.freeze ⟨b, 0, none⟩ n).heap[b]? = some (.cells c e fr') := by
  unfold World.freeze
  split
  · exact ⟨fr, h⟩
  · obtain ⟨lo, hi⟩ := fr
    simp [Array.getElem?_modify, h]
theorem freeze_size {w : World} {b n : Nat} : (w.freeze ⟨b, 0, none⟩ n).heap.size = w.heap.size := by
  unfold World.freeze
  split <;> simp

/-- Where nothing but a row's marks changes, that no object owns. -/
theorem HRel.marks {w w' : World} {g : Gh} {h : H} (hh : HRel w g h) {b : Nat} (hb : b ∉ g.ι) (hO : ∀ id j, g.O b ≠ some (.cell id j)) (hoth : ∀ i, i ≠ b → w'.heap[i]? = w.heap[i]?) (hcov : Cov w g.F g.ι w' g.F g.ι) (hsz : w'.heap.size = w.heap.size) : HRel w' g h := by
  refine ⟨hh.len, hh.nodup, fun id o b' ho hb' => ?_, fun b' hb' => ?_, fun b' hb' => hh.fresh b' (by omega), hh.glob.cov hcov⟩
  · have hne : b' ≠ b := fun e => hb (e ▸ List.mem_of_getElem? hb')
    refine (hh.obj id o b' ho hb').of_vat (hoth b' hne) (fun h => h.mono hcov) (fun hv => ?_)
    rcases hv with hv | ⟨pr, e, sz, xs, b2, cap, cur, vals, rfl, rfl, hb2, hcap, hmx, hcs, htk, hvl, hsz, hw, h1, hr, hF, hO2, htag⟩
    · exact .inl (hv.mono hcov)
    · have hne2 : b2 ≠ b := fun e => by subst e; exact hO _ _ hO2
      exact .inr ⟨pr, e, sz, xs, b2, cap, cur, vals, rfl, rfl, by rw [hoth b2 hne2]; exact hb2, hcap, hmx, hcs, htk, hvl, hsz, hw, h1, hr.mono hcov, hF, hO2, htag⟩
  · obtain ⟨h1, h2, h3⟩ := hh.apart b' hb'
    exact ⟨h1, h2, by omega⟩

theorem grow_below {w w' : World} {g : Gh} {h : H} (hh : HRel w g h) (hb : Go.RowKit.Below w.heap.size w w') : Grow w g w' g :=
  ⟨hb.os, hb.tape, hb.output, hb.size, fun b hlt => ⟨hb.block b hlt, rfl, rfl⟩, rfl, fun b hle => hh.fresh b (Nat.le_trans hb.size hle)⟩

theorem string_sound {id : Nat} {p : V} {l : List UInt8} {h : H} {Q : Out → H → Prop} (h0 : h[id]? = some (.cells 43 [p, .own 5 1 (l.map byteV)])) (hq : Q (.ret (.str l)) (h.set id (.cells 43 [p, .sl 1 (l.map byteV)]))) : Sound Tryd.prog 21 [.ref id 0] h Q := by
  refine ⟨⟨Tryd.f21, Tryd.func21, by kernel_rfl, by kernel_rfl⟩, fun D w g cargs hh hargs => ?_⟩
  obtain ⟨bk, rfl, hid⟩ := args_one hargs
  obtain ⟨c, hb, hcs, hcr⟩ := hh.cellsT (row_get h0) hid
  rw [ety_get h0] at hb
  obtain ⟨c0, c1, rfl⟩ := two_of hcs
  have hc1 := hcr 1 _ c1 rfl rfl
  -- the row is nobody's
  have hm := HRel.movedCell hh (row_get h0) (off := 1) (q := .slot D 0) (u := c1) (by simp) (fun b c e hb' hc hlt => by
    rw [hid] at hb'; injection hb' with hb'; subst hb'
    rw [hb] at hc; injection hc with hc; injection hc with hc; subst hc; rfl) (by simp)
  have hset : h.set id (.cells (h.ety id) ([p, V.own 5 1 (l.map byteV)].set 1 ([p, V.own 5 1 (l.map byteV)].getD 1 .top).demote)) = h.set id (.cells 43 [p, .sl 1 (l.map byteV)]) := by rw [ety_get h0]; rfl
  rw [hset] at hm
  have hx1 : Ext D w g w (g.move (.cell id 1) (.slot D 0) c1) := move_ext (i := 0) g w (.cell id 1) (.inr ⟨id, 1, rfl⟩)
  have hnone : ∀ a cap, c1 = .slice a 0 cap → ((a = none ∧ cap = 0) ∨ ∃ g' cur, a = some ⟨g', 0, none⟩ ∧ w.heap[g']? = some (.cells cur 5 (0, 0))) → l = [] → Calls Tryd.prog 21 #[.pointer (some ⟨bk, 0, none⟩)] w (CallPost D w g Q) := by
    intro a cap hc ha hl
    subst hc; subst hl
    refine (str_none bk c0 a cap w hb ha).mono fun e w' he => ?_
    obtain ⟨rfl, hbel⟩ := he
    have hg := grow_below hm hbel
    exact ⟨_, _, hx1.trans (hg.ext hm), hg.hrel hm, .inl ⟨.str [], _, 0, rfl, hq, .inl (.str _ _ (by simp))⟩⟩
  rcases hc1.1 with hv | ⟨pr, e, sz, xs, b2, cap, cur, vals, he, hu, hb2, hcap, hmx, hcsz, htk, hvl, hsz, hw, h1, hr, hF, hO, htag⟩
  · generalize hxs : l.map byteV = xs at hv
    cases hv with
    | own0 e sz =>
      have : l = [] := by cases l <;> simp at hxs ⊢
      exact hnone none 0 rfl (.inl ⟨rfl, rfl⟩) this
  · cases pr with
    | some o => simp only [rowV] at he; cases he
    | none =>
    simp only [rowV, V.own.injEq] at he
    obtain ⟨rfl, rfl, rfl⟩ := he
    simp only [rowF] at hF
    by_cases hl : l = []
    · subst hl
      exact hnone _ cap hu (.inr ⟨b2, cur, rfl, hb2⟩) rfl
    · subst hu
      simp only [List.length_map] at hb hcap htk hvl hF
      rw [flat_bytes] at hr
      refine (str_some bk b2 cap c0 cur l w hl hb hb2 hcap hmx hcsz (fun j x hj => ?_)).mono fun e w' he => ?_
      · have hjl : j < l.length := (List.getElem?_eq_some_iff.1 hj).1
        have hjv : j < vals.length := by omega
        have hrel := hr.2 j (byteV x) vals[j] (by simp [hj]) (List.getElem?_eq_getElem hjv)
        have hu : vals[j] = .int .u8 (x.toNat : Int) := by
          generalize vals[j] = u at hrel
          simp only [byteV] at hrel
          cases hrel; rfl
        have h2 : vals[j]? = some (Value.int .u8 (x.toNat : Int)) := by rw [List.getElem?_eq_getElem hjv, hu]
        rw [← htk, List.getElem?_take] at h2
        split at h2
        · simpa using h2
        · cases h2
      · obtain ⟨rfl, rfl⟩ := he
        have hO2 : (g.move (.cell id 1) (.slot D 0) (.slice (some ⟨b2, 0, none⟩) (l.map byteV).length cap)).O b2 = some (.slot D 0) := by
          simp [Gh.move, hO, Gh.own]
        have hoth : ∀ i, i ≠ b2 → (w.drew.freeze ⟨b2, 0, none⟩ l.length).heap[i]? = w.heap[i]? := fun i hi => freeze_other hi
        obtain ⟨fr', hfr⟩ := freeze_at (w := w.drew) (n := l.length) (show w.drew.heap[b2]? = _ from hb2)
        have hnb : b2 ∉ (g.move (.cell id 1) (.slot D 0) (.slice (some ⟨b2, 0, none⟩) (l.map byteV).length cap)).ι := by
          rw [Gh.move_ι]; intro hmem
          have := (hh.apart b2 hmem).2.1
          rw [hO] at this; cases this
        have hcell : ∀ (b off : Nat), (w.drew.freeze ⟨b2, 0, none⟩ l.length).cell? ⟨b, off, none⟩ = w.cell? ⟨b, off, none⟩ := by
          intro b off
          by_cases hbb : b = b2
          · subst hbb
            simp [World.cell?, hfr, hb2]
          · simp [World.cell?, hoth b hbb]
        have hcov : ∀ g' : Gh, Cov w g'.F g'.ι (w.drew.freeze ⟨b2, 0, none⟩ l.length) g'.F g'.ι := fun g' => ⟨fun b off _ => hcell b off, fun _ => Nat.le_refl _, fun _ _ h => h⟩
        have hsize : (w.drew.freeze ⟨b2, 0, none⟩ l.length).heap.size = w.heap.size := freeze_size
        have hrest : (w.drew.freeze ⟨b2, 0, none⟩ l.length).os = w.os ∧ (w.drew.freeze ⟨b2, 0, none⟩ l.length).tape = w.tape ∧ (w.drew.freeze ⟨b2, 0, none⟩ l.length).output = w.output := by
          unfold World.freeze
          split <;> exact ⟨rfl, rfl, rfl⟩
        refine ⟨_, _, hx1.trans ⟨hrest.1, hrest.2.1, hrest.2.2, by omega, hcov _, fun _ h => .inl h, fun b hlt hι hc hs => ⟨hoth b (fun e => ?_), rfl, rfl⟩⟩, hm.marks hnb (fun id' j' e => ?_) hoth (hcov _) hsize, .inl ⟨.str l, _, 0, rfl, hq, .inl (.str _ _ (by simp))⟩⟩
        · subst e; exact hs D 0 (Nat.le_refl _) hO2
        · simp only [List.length_map] at hO2 e; rw [hO2] at e; cases e

theorem args_two {w : World} {F : Nat → Nat} {ι : List Nat} {x y : V} {cargs : Array Value} (h : LRel w F ι [x, y] cargs.toList) : ∃ u v, cargs = #[u, v] ∧ VRel w F ι x u ∧ VRel w F ι y v := by
  obtain ⟨hl, hr⟩ := h
  match hc : cargs.toList, hl with
  | [u, v], _ =>
    rw [hc] at hr
    exact ⟨u, v, by apply Array.ext'; rw [hc], hr 0 _ u rfl rfl, hr 1 _ v rfl rfl⟩

theorem one_arg {w : World} {F : Nat → Nat} {ι : List Nat} {x : V} {cargs : Array Value} (h : LRel w F ι [x] cargs.toList) : ∃ u, cargs = #[u] ∧ VRel w F ι x u := by
  obtain ⟨hl, hr⟩ := h
  match hc : cargs.toList, hl with
  | [u], _ =>
    rw [hc] at hr
    exact ⟨u, by apply Array.ext'; rw [hc], hr 0 _ u rfl rfl⟩
theorem ident_run (p : ByteArray) (W : World) : Calls Tryd.prog 6 #[.string p] W fun e W' => e = .returned (.bool (I.identB p)) ∧ Go.RowKit.Below W.heap.size W W' := by
  exact acall_top ty_tab mixed (fun _ _ _ _ h => h.elim) (I.names_Ident_call (x0 := p.data.toList) (KK := fun r => r = I.identB p) (X := fun _ => False) (by rw [I.ident_ok]; exact rfl) (fun r hr => by rw [hr]) (fun v hv => hv.elim)) (fun q hq => by cases hq) (LRel.cons (.str _ _ rfl) LRel.nil)
theorem ident_sound {s : List UInt8} {h : H} {Q : Out → H → Prop} (hq : Q (.ret (.bool (I.identS s))) h) : Sound Tryd.prog 6 [.str s] h Q := by
  refine ⟨⟨Tryd.f6, Tryd.func6, by kernel_rfl, by kernel_rfl⟩, fun D w g cargs hh hargs => ?_⟩
  obtain ⟨u, rfl, h1⟩ := one_arg hargs
  obtain ⟨b, rfl, rfl⟩ := h1.str_inv
  refine (ident_run b w).mono fun e w' he => ?_
  obtain ⟨rfl, hb⟩ := he
  have hg := grow_below hh hb
  exact ⟨g, h, hg.ext hh, hg.hrel hh, .inl ⟨_, _, 0, rfl, hq, .inl (.bool _)⟩⟩
theorem full_sound {s : List UInt8} {h : H} {Q : Out → H → Prop} (hs : s.length ≤ 900000000) (hq : Q (.ret (.bool (allOk I.identB 46 s && decide (s.length ≤ 1000)))) h) : Sound Tryd.prog 5 [.str s] h Q := by
  refine ⟨⟨Tryd.f5, Tryd.func5, by kernel_rfl, by kernel_rfl⟩, fun D w g cargs hh hargs => ?_⟩
  obtain ⟨u, rfl, h1⟩ := one_arg hargs
  obtain ⟨b, rfl, rfl⟩ := h1.str_inv
  have e : b.data.toList.length = b.size := by rw [Array.length_toList]; rfl
  rw [e] at hs hq
  refine (full_ok b hs I.identB (fun p W _ => ident_run p W) w).mono fun e w' he => ?_
  obtain ⟨rfl, hb⟩ := he
  have hg := grow_below hh hb
  exact ⟨g, h, hg.ext hh, hg.hrel hh, .inl ⟨_, _, 0, rfl, hq, .inl (.bool _)⟩⟩
theorem qprim_sound : ∀ f args h Q, qprim f args h Q → Sound Tryd.prog f args h Q := by
  intro f args h Q hf
  cases hf with
  | ident s hq => exact ident_sound hq
  | full s h1 hq => exact full_sound h1 hq
  | copyCheck id p b h1 h2 hq => exact copyCheck_sound h1 h2 hq
  | string id p l h1 hq => exact string_sound h1 hq
theorem own : ownKnob Tryd.prog.godebug = none := by kernel_rfl
theorem laidOut : laidOutB Tryd.prog = true := by kernel_rfl
def whole (w : World) : Nat → Nat := fun x => match w.heap[x]? with | some (.cells c _ _) => c.size | _ => 0
theorem top_call {f : FuncId} {args : List V} (hc : CA qprim f args [] fun r _ => r = .ret (.bool true)) {w : World} {cargs : Array Value} (hargs : LRel w (whole w) [] args cargs.toList) :
    Calls Tryd.prog f cargs w fun e w' => e = .returned (.bool true) ∧ Go.RowKit.Below w.heap.size w w' := acall_top ty_tab mixed qprim_sound hc (fun q hq => by cases hq) hargs
end Go.Proofs.YthmmgcjljfndgaaDoor.Pv
