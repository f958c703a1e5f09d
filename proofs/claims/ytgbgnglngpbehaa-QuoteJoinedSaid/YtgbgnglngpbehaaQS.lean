/- What is said of the builder's two methods holds of the machine's calls. -/
import Derived.Test.YtgbgnglngpbehaaBld
import Derived.Test.YtgbgnglngpbehaaQP
set_option linter.unusedVariables false
set_option linter.unusedSimpArgs false
namespace Go.Proofs.Ytgbgnglngpbehaa.Pv
open Go Go.Proofs


theorem setCell_row {w : World} {b : Nat} {c : Array Value} {e : TypeId} {fr : Nat × Nat} {v : Value} (hb : w.heap[b]? = some (.cells c e fr)) : w.setCell ⟨b, 0, none⟩ v = w.setRow b (c.setIfInBounds 0 v) := by
  unfold World.setCell World.setRow
  congr 1
  apply Array.ext_getElem?
  intro i
  simp only [Array.getElem?_modify]
  by_cases hi : b = i
  · subst hi
    simp [hb]
  · simp [hi]

theorem args_one {w : World} {F : Nat → Nat} {ι : List Nat} {id : Nat} {cargs : Array Value} (h : LRel w F ι [.ref id 0] cargs.toList) : ∃ b, cargs = #[.pointer (some ⟨b, 0, none⟩)] ∧ ι[id]? = some b := by
  obtain ⟨hl, hr⟩ := h
  match hc : cargs.toList, hl with
  | [u], _ =>
    rw [hc] at hr
    have := hr 0 _ u rfl rfl
    cases this with
    | ref _ _ b hid =>
      refine ⟨b, ?_, hid⟩
      apply Array.ext'
      rw [hc]

theorem two_of {c : Array Value} (h : c.size = 2) : ∃ c0 c1, c = #[c0, c1] := by
  match hc : c.toList, (by simpa using h : c.toList.length = 2) with
  | [a, b], _ => exact ⟨a, b, by apply Array.ext'; rw [hc]⟩

theorem copyCheck_sound {id : Nat} {p b : V} {h : H} {Q : Out → H → Prop} (h0 : h[id]? = some (.cells 46 [p, b])) (hpp : p = .nilp ∨ p = .ref id 0) (hq : Q (.ret (.tup [])) (h.set id (.cells 46 [.ref id 0, b]))) : Sound Try.prog 32 [.ref id 0] h Q := by
  refine ⟨⟨Try.f32, Try.func32, by kernel_rfl, by kernel_rfl⟩, fun D w g cargs hh hargs => ?_⟩
  obtain ⟨bk, rfl, hid⟩ := args_one hargs
  obtain ⟨c, hb, hcs, hcr⟩ := hh.cellsT (row_get h0) hid
  rw [ety_get h0] at hb
  obtain ⟨c0, c1, rfl⟩ := two_of hcs
  obtain ⟨hF, hO, hbl⟩ := hh.apart bk (List.mem_of_getElem? hid)
  have hlt : id < h.length := (List.getElem?_eq_some_iff.1 h0).1
  have hc0 := (hcr 0 p c0 rfl rfl).1
  have hc1 := hcr 1 b c1 rfl rfl
  have ht : VAt w g (.slot D 0) (.tup []) (.tuple #[]) := .inl (.tup [] #[] rfl (by simp))
  rcases hpp with rfl | rfl
  · have e0 : c0 = .pointer none := by
      have := hc0.demote
      cases this; rfl
    subst e0
    refine (cc_fresh bk w (by simp [World.cell?, hb]) (by simp [World.shape?, hb]) (by simp [World.frozen?, hb])).mono fun e w' he => ?_
    obtain ⟨rfl, rfl⟩ := he
    rw [setCell_row hb]
    refine ⟨g, _, Write.ext hF hid, Write.hrel hh hid hb hlt (by simp) (vs := [.ref id 0, b]) (fun j v u hv hu => ?_), .inl ⟨.tup [], .tuple #[], 0, rfl, hq, ?_⟩⟩
    · match j, hv, hu with
      | 0, hv, hu => simp at hv hu; subst hv; subst hu; exact ⟨.inl (.ref _ _ _ hid), rfl⟩
      | 1, hv, hu => simp at hv hu; subst hv; subst hu; exact hc1
    · exact .inl (.tup [] #[] rfl (by simp))
  · have e0 : c0 = .pointer (some ⟨bk, 0, none⟩) := by
      have := hc0.demote
      cases this with
      | ref _ _ b' hid' => rw [hid] at hid'; injection hid' with e; rw [e]
    subst e0
    refine (cc_used bk w (by simp [World.cell?, hb])).mono fun e w' he => ?_
    obtain ⟨rfl, rfl⟩ := he
    rw [set_same h0] at hq
    exact ⟨g, h, Ext.refl _ _ _, hh, .inl ⟨.tup [], .tuple #[], 0, rfl, hq, ht⟩⟩

theorem freeze_other {w : World} {b n i : Nat} (h : i ≠ b) : (w.freeze ⟨b, 0, none⟩ n).heap[i]? = w.heap[i]? := by
  unfold World.freeze
  split
  · rfl
  · simp [Array.getElem?_modify, Ne.symm h]
theorem freeze_at {w : World} {b n : Nat} {c : Array Value} {e : TypeId} {fr : Nat × Nat} (h : w.heap[b]? = some (.cells c e fr)) : ∃ fr', (w.freeze ⟨b, 0, none⟩ n).heap[b]? = some (.cells c e fr') := by
  unfold World.freeze
  split
  · exact ⟨fr, h⟩
  · obtain ⟨lo, hi⟩ := fr
    simp [Array.getElem?_modify, h]
theorem freeze_size {w : World} {b n : Nat} : (w.freeze ⟨b, 0, none⟩ n).heap.size = w.heap.size := by
  unfold World.freeze
  split <;> simp

/-- Where nothing but a row's marks changes, that no object owns. -/
theorem HRel.marks {w w' : World} {g : Gh} {h : H} (hh : HRel w g h) {b : Nat} (hb : b ∉ g.ι) (hO : ∀ id j, g.O b ≠ some (.cell id j)) (hoth : ∀ i, i ≠ b → w'.heap[i]? = w.heap[i]?) (hcov : Cov w g.F g.ι w' g.F g.ι) (hsz : w'.heap.size = w.heap.size) : HRel w' g h := by
  refine ⟨hh.len, hh.nodup, fun id o b' ho hb' => ?_, fun b' hb' => ?_, fun b' hb' => hh.fresh b' (by omega)⟩
  · have hne : b' ≠ b := fun e => hb (e ▸ List.mem_of_getElem? hb')
    refine (hh.obj id o b' ho hb').of_vat (hoth b' hne) (fun h => h.mono hcov) (fun hv => ?_)
    rcases hv with hv | ⟨e, sz, xs, b2, cap, cur, vals, rfl, rfl, hb2, hcap, hmx, hcs, htk, hvl, hsz, hw, h1, hr, hF, hO2⟩
    · exact .inl (hv.mono hcov)
    · have hne2 : b2 ≠ b := fun e => by subst e; exact hO _ _ hO2
      exact .inr ⟨e, sz, xs, b2, cap, cur, vals, rfl, rfl, by rw [hoth b2 hne2]; exact hb2, hcap, hmx, hcs, htk, hvl, hsz, hw, h1, hr.mono hcov, hF, hO2⟩
  · obtain ⟨h1, h2, h3⟩ := hh.apart b' hb'
    exact ⟨h1, h2, by omega⟩

theorem grow_below {w w' : World} {g : Gh} {h : H} (hh : HRel w g h) (hb : Go.RowKit.Below w.heap.size w w') : Grow w g w' g :=
  ⟨hb.os, hb.tape, hb.output, hb.size, fun b hlt => ⟨hb.block b hlt, rfl, rfl⟩, rfl, fun b hle => hh.fresh b (Nat.le_trans hb.size hle)⟩

theorem string_sound {id : Nat} {p : V} {l : List UInt8} {h : H} {Q : Out → H → Prop} (h0 : h[id]? = some (.cells 46 [p, .own 5 1 (l.map byteV)])) (hq : Q (.ret (.str l)) (h.set id (.cells 46 [p, .sl 1 (l.map byteV)]))) : Sound Try.prog 25 [.ref id 0] h Q := by
  refine ⟨⟨Try.f25, Try.func25, by kernel_rfl, by kernel_rfl⟩, fun D w g cargs hh hargs => ?_⟩
  obtain ⟨bk, rfl, hid⟩ := args_one hargs
  obtain ⟨c, hb, hcs, hcr⟩ := hh.cellsT (row_get h0) hid
  rw [ety_get h0] at hb
  obtain ⟨c0, c1, rfl⟩ := two_of hcs
  have hc1 := hcr 1 _ c1 rfl rfl
  -- the row is nobody's
  have hm := HRel.movedCell hh (row_get h0) (off := 1) (q := .slot D 0) (u := c1) (by simp) (fun b c e hb' hc hlt => by
    rw [hid] at hb'; injection hb' with hb'; subst hb'
    rw [hb] at hc; injection hc with hc; injection hc with hc; subst hc; rfl) (by simp)
  have hset : h.set id (.cells (h.ety id) ([p, V.own 5 1 (l.map byteV)].set 1 ([p, V.own 5 1 (l.map byteV)].getD 1 .top).demote)) = h.set id (.cells 46 [p, .sl 1 (l.map byteV)]) := by rw [ety_get h0]; rfl
  rw [hset] at hm
  have hx1 : Ext D w g w (g.move (.cell id 1) (.slot D 0) c1) := move_ext (i := 0) g w (.cell id 1) (.inr ⟨id, 1, rfl⟩)
  have hnone : ∀ a cap, c1 = .slice a 0 cap → ((a = none ∧ cap = 0) ∨ ∃ g' cur, a = some ⟨g', 0, none⟩ ∧ w.heap[g']? = some (.cells cur 5 (0, 0))) → l = [] → Calls Try.prog 25 #[.pointer (some ⟨bk, 0, none⟩)] w (CallPost D w g Q) := by
    intro a cap hc ha hl
    subst hc; subst hl
    refine (str_none bk c0 a cap w hb ha).mono fun e w' he => ?_
    obtain ⟨rfl, hbel⟩ := he
    have hg := grow_below hm hbel
    exact ⟨_, _, hx1.trans (hg.ext hm), hg.hrel hm, .inl ⟨.str [], _, 0, rfl, hq, .inl (.str _ _ (by simp))⟩⟩
  rcases hc1.1 with hv | ⟨e, sz, xs, b2, cap, cur, vals, he, hu, hb2, hcap, hmx, hcsz, htk, hvl, hsz, hw, h1, hr, hF, hO⟩
  · generalize hxs : l.map byteV = xs at hv
    cases hv with
    | own0 e sz =>
      have : l = [] := by cases l <;> simp at hxs ⊢
      exact hnone none 0 rfl (.inl ⟨rfl, rfl⟩) this
  · injection he with he1 he2 he3
    subst he1; subst he2; subst he3
    by_cases hl : l = []
    · subst hl
      exact hnone _ cap hu (.inr ⟨b2, cur, rfl, hb2⟩) rfl
    · subst hu
      simp only [List.length_map] at hb hcap htk hvl hF
      rw [flat_bytes] at hr
      refine (str_some bk b2 cap c0 cur l w hl hb hb2 hcap hmx hcsz (fun j x hj => ?_)).mono fun e w' he => ?_
      · have hjl : j < l.length := (List.getElem?_eq_some_iff.1 hj).1
        have hjv : j < vals.length := by omega
        have hrel := hr.2 j (byteV x) vals[j] (by simp [hj]) (List.getElem?_eq_getElem hjv)
        have hu : vals[j] = .int .u8 (x.toNat : Int) := by
          generalize vals[j] = u at hrel
          simp only [byteV] at hrel
          cases hrel; rfl
        have h2 : vals[j]? = some (Value.int .u8 (x.toNat : Int)) := by rw [List.getElem?_eq_getElem hjv, hu]
        rw [← htk, List.getElem?_take] at h2
        split at h2
        · simpa using h2
        · cases h2
      · obtain ⟨rfl, rfl⟩ := he
        have hO2 : (g.move (.cell id 1) (.slot D 0) (.slice (some ⟨b2, 0, none⟩) (l.map byteV).length cap)).O b2 = some (.slot D 0) := by
          simp [Gh.move, hO, Gh.own]
        have hoth : ∀ i, i ≠ b2 → (w.drew.freeze ⟨b2, 0, none⟩ l.length).heap[i]? = w.heap[i]? := fun i hi => freeze_other hi
        obtain ⟨fr', hfr⟩ := freeze_at (w := w.drew) (n := l.length) (show w.drew.heap[b2]? = _ from hb2)
        have hnb : b2 ∉ (g.move (.cell id 1) (.slot D 0) (.slice (some ⟨b2, 0, none⟩) (l.map byteV).length cap)).ι := by
          rw [Gh.move_ι]; intro hmem
          have := (hh.apart b2 hmem).2.1
          rw [hO] at this; cases this
        have hcell : ∀ (b off : Nat), (w.drew.freeze ⟨b2, 0, none⟩ l.length).cell? ⟨b, off, none⟩ = w.cell? ⟨b, off, none⟩ := by
          intro b off
          by_cases hbb : b = b2
          · subst hbb
            simp [World.cell?, hfr, hb2]
          · simp [World.cell?, hoth b hbb]
        have hcov : ∀ g' : Gh, Cov w g'.F g'.ι (w.drew.freeze ⟨b2, 0, none⟩ l.length) g'.F g'.ι := fun g' => ⟨fun b off _ => hcell b off, fun _ => Nat.le_refl _, fun _ _ h => h⟩
        have hsize : (w.drew.freeze ⟨b2, 0, none⟩ l.length).heap.size = w.heap.size := freeze_size
        have hrest : (w.drew.freeze ⟨b2, 0, none⟩ l.length).os = w.os ∧ (w.drew.freeze ⟨b2, 0, none⟩ l.length).tape = w.tape ∧ (w.drew.freeze ⟨b2, 0, none⟩ l.length).output = w.output := by
          unfold World.freeze
          split <;> exact ⟨rfl, rfl, rfl⟩
        refine ⟨_, _, hx1.trans ⟨hrest.1, hrest.2.1, hrest.2.2, by omega, hcov _, fun _ h => .inl h, fun b hlt hι hc hs => ⟨hoth b (fun e => ?_), rfl, rfl⟩⟩, hm.marks hnb (fun id' j' e => ?_) hoth (hcov _) hsize, .inl ⟨.str l, _, 0, rfl, hq, .inl (.str _ _ (by simp))⟩⟩
        · subst e; exact hs D 0 (Nat.le_refl _) hO2
        · simp only [List.length_map] at hO2 e; rw [hO2] at e; cases e

theorem indexByte_sound {s : List UInt8} {c : Int} {h : H} {Q : Out → H → Prop} (hq : Q (.ret (.int .i64 (Lib.indexByte s c.toNat.toUInt8))) h) : Sound Try.prog 24 [.str s, .int .u8 c] h Q := by
  refine ⟨⟨Try.f24, Try.func24, by kernel_rfl, by kernel_rfl⟩, fun D w g cargs hh hargs => ?_⟩
  obtain ⟨hl, hr⟩ := hargs
  match hc : cargs.toList, hl with
  | [u, v], _ =>
    rw [hc] at hr
    have h1 := hr 0 _ u rfl rfl
    have h2 := hr 1 _ v rfl rfl
    cases h1 with
    | str b _ hb =>
      cases h2 with
      | int _ _ =>
        have e : cargs = #[.string b, .int .u8 c] := by apply Array.ext'; rw [hc]
        subst e
        refine (Try.strings_IndexByte b c w).mono fun e w' he => ?_
        obtain ⟨rfl, rfl⟩ := he
        rw [hb]
        exact ⟨g, h, Ext.refl _ _ _, hh, .inl ⟨_, _, 0, rfl, hq, .inl (.int _ _)⟩⟩

theorem qprim_sound : ∀ f args h Q, qprim f args h Q → Sound Try.prog f args h Q := by
  rintro f args h Q (⟨rfl, s, c, rfl, hq⟩ | ⟨rfl, id, p, b, rfl, h0, hpp, hq⟩ | ⟨rfl, id, p, l, rfl, h0, hq⟩)
  · exact indexByte_sound hq
  · exact copyCheck_sound h0 hpp hq
  · exact string_sound h0 hq
end Go.Proofs.Ytgbgnglngpbehaa.Pv
