/- What is said of the builder's two methods holds of the machine's calls. -/
import Derived.Test.YtblbbmlppmpmjaaBld2
import Derived.Test.YtblbbmlppmpmjaaQP
import Derived.WalkSmall
set_option linter.unusedVariables false
set_option linter.unusedSimpArgs false
namespace Go.Proofs.Ytblbbmlppmpmjaa.Pv
open Go Go.Proofs


theorem setCell_row {w : World} {b : Nat} {c : Array Value} {e : TypeId} {fr : Nat × Nat} {v : Value} (hb : w.heap[b]? = some (.cells c e fr)) : w.setCell ⟨b, 0, none⟩ v = w.setRow b (c.setIfInBounds 0 v) := by
  unfold World.setCell World.setRow
  congr 1
  apply Array.ext_getElem?
  intro i
  simp only [Array.getElem?_modify]
  by_cases hi : b = i
  · subst hi
    simp [hb]
  · simp [hi]

theorem args_one {w : World} {F : Nat → Nat} {ι : List Nat} {id : Nat} {cargs : Array Value} (h : LRel w F ι [.ref id 0] cargs.toList) : ∃ b, cargs = #[.pointer (some ⟨b, 0, none⟩)] ∧ ι[id]? = some b := by
  obtain ⟨hl, hr⟩ := h
  match hc : cargs.toList, hl with
  | [u], _ =>
    rw [hc] at hr
    have := hr 0 _ u rfl rfl
    cases this with
    | ref _ _ b hid =>
      refine ⟨b, ?_, hid⟩
      apply Array.ext'
      rw [hc]

theorem two_of {c : Array Value} (h : c.size = 2) : ∃ c0 c1, c = #[c0, c1] := by
  match hc : c.toList, (by simpa using h : c.toList.length = 2) with
  | [a, b], _ => exact ⟨a, b, by apply Array.ext'; rw [hc]⟩

theorem copyCheck_sound {id : Nat} {p b : V} {h : H} {Q : Out → H → Prop} (h0 : h[id]? = some (.cells 49 [p, b])) (hpp : p = .nilp ∨ p = .ref id 0) (hq : Q (.ret (.tup [])) (h.set id (.cells 49 [.ref id 0, b]))) : Sound Try.prog 36 [.ref id 0] h Q := by
  refine ⟨⟨Try.f36, Try.func36, by kernel_rfl, by kernel_rfl⟩, fun D w g cargs hh hargs => ?_⟩
  obtain ⟨bk, rfl, hid⟩ := args_one hargs
  obtain ⟨c, hb, hcs, hcr⟩ := hh.cellsT (row_get h0) hid
  rw [ety_get h0] at hb
  obtain ⟨c0, c1, rfl⟩ := two_of hcs
  obtain ⟨hF, hO, hbl⟩ := hh.apart bk (List.mem_of_getElem? hid)
  have hlt : id < h.length := (List.getElem?_eq_some_iff.1 h0).1
  have hc0 := (hcr 0 p c0 rfl rfl).1
  have hc1 := hcr 1 b c1 rfl rfl
  have ht : VAt w g (.slot D 0) (.tup []) (.tuple #[]) := .inl (.tup [] #[] rfl (by simp))
  rcases hpp with rfl | rfl
  · have e0 : c0 = .pointer none := by
      have := hc0.demote
      cases this; rfl
    subst e0
    refine (cc_fresh bk w (by simp [World.cell?, hb]) (by simp [World.shape?, hb]) (by simp [World.frozen?, hb])).mono fun e w' he => ?_
    obtain ⟨rfl, rfl⟩ := he
    rw [setCell_row hb]
    refine ⟨g, _, Write.ext hF hid, Write.hrel hh hid hb hlt (by simp) (vs := [.ref id 0, b]) (fun j v u hv hu => ?_), .inl ⟨.tup [], .tuple #[], 0, rfl, hq, ?_⟩⟩
    · match j, hv, hu with
      | 0, hv, hu => simp at hv hu; subst hv; subst hu; exact ⟨.inl (.ref _ _ _ hid), rfl⟩
      | 1, hv, hu => simp at hv hu; subst hv; subst hu; exact hc1
    · exact .inl (.tup [] #[] rfl (by simp))
  · have e0 : c0 = .pointer (some ⟨bk, 0, none⟩) := by
      have := hc0.demote
      cases this with
      | ref _ _ b' hid' => rw [hid] at hid'; injection hid' with e; rw [e]
    subst e0
    refine (cc_used bk w (by simp [World.cell?, hb])).mono fun e w' he => ?_
    obtain ⟨rfl, rfl⟩ := he
    rw [set_same h0] at hq
    exact ⟨g, h, Ext.refl _ _ _, hh, .inl ⟨.tup [], .tuple #[], 0, rfl, hq, ht⟩⟩

theorem freeze_other {w : World} {b n i : Nat} (h : i ≠ b) : (w.freeze ⟨b, 0, none⟩ n).heap[i]? = w.heap[i]? := by
  unfold World.freeze
  split
  · rfl
  · simp [Array.getElem?_modify, Ne.symm h]
theorem freeze_at {w : World} {b n : Nat} {c : Array Value} {e : TypeId} {fr : Nat × Nat} (h : w.heap[b]? = some (.cells c e fr)) : ∃ fr', (w.freeze ⟨b, 0, none⟩ n).heap[b]? = some (.cells c e fr') := by
  unfold World.freeze
  split
  · exact ⟨fr, h⟩
  · obtain ⟨lo, hi⟩ := fr
    simp [Array.getElem?_modify, h]
theorem freeze_size {w : World} {b n : Nat} : (w.freeze ⟨b, 0, none⟩ n).heap.size = w.heap.size := by
  unfold World.freeze
  split <;> simp

/-- Where nothing but a row's marks changes, that no object owns. -/
theorem HRel.marks {w w' : World} {g : Gh} {h : H} (hh : HRel w g h) {b : Nat} (hb : b ∉ g.ι) (hO : ∀ id j, g.O b ≠ some (.cell id j)) (hoth : ∀ i, i ≠ b → w'.heap[i]? = w.heap[i]?) (hcov : Cov w g.F g.ι w' g.F g.ι) (hsz : w'.heap.size = w.heap.size) : HRel w' g h := by
  refine ⟨hh.len, hh.nodup, fun id o b' ho hb' => ?_, fun b' hb' => ?_, fun b' hb' => hh.fresh b' (by omega), hh.glob.cov hcov⟩
  · have hne : b' ≠ b := fun e => hb (e ▸ List.mem_of_getElem? hb')
    refine (hh.obj id o b' ho hb').of_vat (hoth b' hne) (fun h => h.mono hcov) (fun hv => ?_)
    rcases hv with hv | ⟨pr, e, sz, xs, b2, cap, cur, vals, rfl, rfl, hb2, hcap, hmx, hcs, htk, hvl, hsz, hw, h1, hr, hF, hO2, htag⟩
    · exact .inl (hv.mono hcov)
    · have hne2 : b2 ≠ b := fun e => by subst e; exact hO _ _ hO2
      exact .inr ⟨pr, e, sz, xs, b2, cap, cur, vals, rfl, rfl, by rw [hoth b2 hne2]; exact hb2, hcap, hmx, hcs, htk, hvl, hsz, hw, h1, hr.mono hcov, hF, hO2, htag⟩
  · obtain ⟨h1, h2, h3⟩ := hh.apart b' hb'
    exact ⟨h1, h2, by omega⟩

theorem grow_below {w w' : World} {g : Gh} {h : H} (hh : HRel w g h) (hb : Go.RowKit.Below w.heap.size w w') : Grow w g w' g :=
  ⟨hb.os, hb.tape, hb.output, hb.size, fun b hlt => ⟨hb.block b hlt, rfl, rfl⟩, rfl, fun b hle => hh.fresh b (Nat.le_trans hb.size hle)⟩

theorem string_sound {id : Nat} {p : V} {l : List UInt8} {h : H} {Q : Out → H → Prop} (h0 : h[id]? = some (.cells 49 [p, .own 5 1 (l.map byteV)])) (hq : Q (.ret (.str l)) (h.set id (.cells 49 [p, .sl 1 (l.map byteV)]))) : Sound Try.prog 23 [.ref id 0] h Q := by
  refine ⟨⟨Try.f23, Try.func23, by kernel_rfl, by kernel_rfl⟩, fun D w g cargs hh hargs => ?_⟩
  obtain ⟨bk, rfl, hid⟩ := args_one hargs
  obtain ⟨c, hb, hcs, hcr⟩ := hh.cellsT (row_get h0) hid
  rw [ety_get h0] at hb
  obtain ⟨c0, c1, rfl⟩ := two_of hcs
  have hc1 := hcr 1 _ c1 rfl rfl
  -- the row is nobody's
  have hm := HRel.movedCell hh (row_get h0) (off := 1) (q := .slot D 0) (u := c1) (by simp) (fun b c e hb' hc hlt => by
    rw [hid] at hb'; injection hb' with hb'; subst hb'
    rw [hb] at hc; injection hc with hc; injection hc with hc; subst hc; rfl) (by simp)
  have hset : h.set id (.cells (h.ety id) ([p, V.own 5 1 (l.map byteV)].set 1 ([p, V.own 5 1 (l.map byteV)].getD 1 .top).demote)) = h.set id (.cells 49 [p, .sl 1 (l.map byteV)]) := by rw [ety_get h0]; rfl
  rw [hset] at hm
  have hx1 : Ext D w g w (g.move (.cell id 1) (.slot D 0) c1) := move_ext (i := 0) g w (.cell id 1) (.inr ⟨id, 1, rfl⟩)
  have hnone : ∀ a cap, c1 = .slice a 0 cap → ((a = none ∧ cap = 0) ∨ ∃ g' cur, a = some ⟨g', 0, none⟩ ∧ w.heap[g']? = some (.cells cur 5 (0, 0))) → l = [] → Calls Try.prog 23 #[.pointer (some ⟨bk, 0, none⟩)] w (CallPost D w g Q) := by
    intro a cap hc ha hl
    subst hc; subst hl
    refine (str_none bk c0 a cap w hb ha).mono fun e w' he => ?_
    obtain ⟨rfl, hbel⟩ := he
    have hg := grow_below hm hbel
    exact ⟨_, _, hx1.trans (hg.ext hm), hg.hrel hm, .inl ⟨.str [], _, 0, rfl, hq, .inl (.str _ _ (by simp))⟩⟩
  rcases hc1.1 with hv | ⟨pr, e, sz, xs, b2, cap, cur, vals, he, hu, hb2, hcap, hmx, hcsz, htk, hvl, hsz, hw, h1, hr, hF, hO, htag⟩
  · generalize hxs : l.map byteV = xs at hv
    cases hv with
    | own0 e sz =>
      have : l = [] := by cases l <;> simp at hxs ⊢
      exact hnone none 0 rfl (.inl ⟨rfl, rfl⟩) this
  · cases pr with
    | some o => simp only [rowV] at he; cases he
    | none =>
    simp only [rowV, V.own.injEq] at he
    obtain ⟨rfl, rfl, rfl⟩ := he
    simp only [rowF] at hF
    by_cases hl : l = []
    · subst hl
      exact hnone _ cap hu (.inr ⟨b2, cur, rfl, hb2⟩) rfl
    · subst hu
      simp only [List.length_map] at hb hcap htk hvl hF
      rw [flat_bytes] at hr
      refine (str_some bk b2 cap c0 cur l w hl hb hb2 hcap hmx hcsz (fun j x hj => ?_)).mono fun e w' he => ?_
      · have hjl : j < l.length := (List.getElem?_eq_some_iff.1 hj).1
        have hjv : j < vals.length := by omega
        have hrel := hr.2 j (byteV x) vals[j] (by simp [hj]) (List.getElem?_eq_getElem hjv)
        have hu : vals[j] = .int .u8 (x.toNat : Int) := by
          generalize vals[j] = u at hrel
          simp only [byteV] at hrel
          cases hrel; rfl
        have h2 : vals[j]? = some (Value.int .u8 (x.toNat : Int)) := by rw [List.getElem?_eq_getElem hjv, hu]
        rw [← htk, List.getElem?_take] at h2
        split at h2
        · simpa using h2
        · cases h2
      · obtain ⟨rfl, rfl⟩ := he
        have hO2 : (g.move (.cell id 1) (.slot D 0) (.slice (some ⟨b2, 0, none⟩) (l.map byteV).length cap)).O b2 = some (.slot D 0) := by
          simp [Gh.move, hO, Gh.own]
        have hoth : ∀ i, i ≠ b2 → (w.drew.freeze ⟨b2, 0, none⟩ l.length).heap[i]? = w.heap[i]? := fun i hi => freeze_other hi
        obtain ⟨fr', hfr⟩ := freeze_at (w := w.drew) (n := l.length) (show w.drew.heap[b2]? = _ from hb2)
        have hnb : b2 ∉ (g.move (.cell id 1) (.slot D 0) (.slice (some ⟨b2, 0, none⟩) (l.map byteV).length cap)).ι := by
          rw [Gh.move_ι]; intro hmem
          have := (hh.apart b2 hmem).2.1
          rw [hO] at this; cases this
        have hcell : ∀ (b off : Nat), (w.drew.freeze ⟨b2, 0, none⟩ l.length).cell? ⟨b, off, none⟩ = w.cell? ⟨b, off, none⟩ := by
          intro b off
          by_cases hbb : b = b2
          · subst hbb
            simp [World.cell?, hfr, hb2]
          · simp [World.cell?, hoth b hbb]
        have hcov : ∀ g' : Gh, Cov w g'.F g'.ι (w.drew.freeze ⟨b2, 0, none⟩ l.length) g'.F g'.ι := fun g' => ⟨fun b off _ => hcell b off, fun _ => Nat.le_refl _, fun _ _ h => h⟩
        have hsize : (w.drew.freeze ⟨b2, 0, none⟩ l.length).heap.size = w.heap.size := freeze_size
        have hrest : (w.drew.freeze ⟨b2, 0, none⟩ l.length).os = w.os ∧ (w.drew.freeze ⟨b2, 0, none⟩ l.length).tape = w.tape ∧ (w.drew.freeze ⟨b2, 0, none⟩ l.length).output = w.output := by
          unfold World.freeze
          split <;> exact ⟨rfl, rfl, rfl⟩
        refine ⟨_, _, hx1.trans ⟨hrest.1, hrest.2.1, hrest.2.2, by omega, hcov _, fun _ h => .inl h, fun b hlt hι hc hs => ⟨hoth b (fun e => ?_), rfl, rfl⟩⟩, hm.marks hnb (fun id' j' e => ?_) hoth (hcov _) hsize, .inl ⟨.str l, _, 0, rfl, hq, .inl (.str _ _ (by simp))⟩⟩
        · subst e; exact hs D 0 (Nat.le_refl _) hO2
        · simp only [List.length_map] at hO2 e; rw [hO2] at e; cases e

theorem indexByte_sound {s : List UInt8} {c : Int} {h : H} {Q : Out → H → Prop} (hq : Q (.ret (.int .i64 (Lib.indexByte s c.toNat.toUInt8))) h) : Sound Try.prog 34 [.str s, .int .u8 c] h Q := by
  refine ⟨⟨Try.f34, Try.func34, by kernel_rfl, by kernel_rfl⟩, fun D w g cargs hh hargs => ?_⟩
  obtain ⟨hl, hr⟩ := hargs
  match hc : cargs.toList, hl with
  | [u, v], _ =>
    rw [hc] at hr
    have h1 := hr 0 _ u rfl rfl
    have h2 := hr 1 _ v rfl rfl
    cases h1 with
    | str b _ hb =>
      cases h2 with
      | int _ _ =>
        have e : cargs = #[.string b, .int .u8 c] := by apply Array.ext'; rw [hc]
        subst e
        refine (Try.strings_IndexByte b c w).mono fun e w' he => ?_
        obtain ⟨rfl, rfl⟩ := he
        rw [hb]
        exact ⟨g, h, Ext.refl _ _ _, hh, .inl ⟨_, _, 0, rfl, hq, .inl (.int _ _)⟩⟩

theorem args_two {w : World} {F : Nat → Nat} {ι : List Nat} {x y : V} {cargs : Array Value} (h : LRel w F ι [x, y] cargs.toList) : ∃ u v, cargs = #[u, v] ∧ VRel w F ι x u ∧ VRel w F ι y v := by
  obtain ⟨hl, hr⟩ := h
  match hc : cargs.toList, hl with
  | [u, v], _ =>
    rw [hc] at hr
    exact ⟨u, v, by apply Array.ext'; rw [hc], hr 0 _ u rfl rfl, hr 1 _ v rfl rfl⟩

theorem cut_sound {s sep : List UInt8} {h : H} {Q : Out → H → Prop} (hs : s.length ≤ 4000000000) (hq : Q (.ret (.tup [.str (Lib.cut s sep).1, .str (Lib.cut s sep).2.1, .bool (Lib.cut s sep).2.2])) h) : Sound Try.prog 21 [.str s, .str sep] h Q := by
  refine ⟨⟨Try.f21, Try.func21, by kernel_rfl, by kernel_rfl⟩, fun D w g cargs hh hargs => ?_⟩
  obtain ⟨u, v, rfl, h1, h2⟩ := args_two hargs
  obtain ⟨b, rfl, rfl⟩ := h1.str_inv
  obtain ⟨c, rfl, rfl⟩ := h2.str_inv
  obtain ⟨_, m, hm⟩ := hh.glob (0, .i64) (by simp [globs])
  refine (Try.strings_Cut b c m w (by have e : b.size = b.data.toList.length := by rw [Array.length_toList]; rfl
                                      rw [e]; omega) hm).mono fun e w' he => ?_
  obtain ⟨rfl, n, rfl⟩ := he
  have hg := grow_below hh (below_drewN (Go.RowKit.Below.refl w.heap.size w) n)
  refine ⟨g, h, hg.ext hh, hg.hrel hh, .inl ⟨_, _, 0, rfl, hq, .inl (.tup _ _ (by simp) fun k x u hx hu => ?_)⟩⟩
  match k, hx, hu with
  | 0, hx, hu => simp at hx hu; subst hx; subst hu; exact .str _ _ (by simp)
  | 1, hx, hu => simp at hx hu; subst hx; subst hu; exact .str _ _ (by simp)
  | 2, hx, hu => simp at hx hu; subst hx; subst hu; exact .bool _

theorem count_sound {s : List UInt8} {c : UInt8} {h : H} {Q : Out → H → Prop} (hq : Q (.ret (.int .i64 (Lib.countByte s c))) h) : Sound Try.prog 25 [.str s, .str [c]] h Q := by
  refine ⟨⟨Try.f25, Try.func25, by kernel_rfl, by kernel_rfl⟩, fun D w g cargs hh hargs => ?_⟩
  obtain ⟨u, v, rfl, h1, h2⟩ := args_two hargs
  obtain ⟨b, rfl, rfl⟩ := h1.str_inv
  obtain ⟨⟨d⟩, rfl, hd⟩ := h2.str_inv
  have ed : d = #[c] := by apply Array.ext'; simpa using hd
  subst ed
  refine (Try.strings_Count_one b c w).mono fun e w' he => ?_
  obtain ⟨rfl, rfl⟩ := he
  exact ⟨g, h, Ext.refl _ _ _, hh, .inl ⟨_, _, 0, rfl, hq, .inl (.int _ _)⟩⟩

theorem setCell_row1 {w : World} {b : Nat} {c : Array Value} {e : TypeId} {fr : Nat × Nat} {v : Value} (hb : w.heap[b]? = some (.cells c e fr)) : w.setCell ⟨b, 1, none⟩ v = w.setRow b (c.setIfInBounds 1 v) := by
  unfold World.setCell World.setRow
  congr 1
  apply Array.ext_getElem?
  intro i
  simp only [Array.getElem?_modify]
  by_cases hi : b = i
  · subst hi
    simp [hb]
  · simp [hi]
theorem alloc_setRow {w : World} {b : Nat} {c : Array Value} {o : Obj} (hb : b < w.heap.size) : (w.setRow b c).alloc o = (w.alloc o).setRow b c := by
  unfold World.alloc World.setRow
  congr 1
  apply Array.ext_getElem?
  intro i
  simp only [Array.getElem?_push, Array.getElem?_modify, Array.size_modify]
  by_cases hi : i = w.heap.size
  · subst hi
    simp [show ¬ b = w.heap.size by omega]
  · by_cases hbi : b = i
    · subst hbi; simp [hi]
    · simp [hi, hbi]

theorem setRow_same {w : World} {b : Nat} {c : Array Value} {e : TypeId} {fr : Nat × Nat} (hb : w.heap[b]? = some (.cells c e fr)) : w.setRow b c = w := by
  have h : (w.setRow b c).heap = w.heap := by
    apply Array.ext_getElem?
    intro i
    simp only [World.setRow, Array.getElem?_modify]
    by_cases hi : b = i
    · subst hi; simp [hb]
    · simp [hi]
  cases w
  simp only [World.setRow] at h ⊢
  rw [h]
theorem drews_below {w : World} : Go.RowKit.Below w.heap.size w w.drew.drew.drew := ⟨rfl, rfl, rfl, Nat.le_refl _, fun _ _ => rfl⟩

theorem grow_sound {id : Nat} {p : V} {n : Int} {h : H} {Q : Out → H → Prop} (h0 : h[id]? = some (.cells 49 [p, .own 5 1 []])) (hpp : p = .nilp ∨ p = .ref id 0) (hn : 0 ≤ n ∧ n ≤ 1000000000000) (hq : Q (.ret (.tup [])) (h.set id (.cells 49 [.ref id 0, .own 5 1 []]))) : Sound Try.prog 41 [.ref id 0, .int .i64 n] h Q := by
  refine ⟨⟨Try.f41, Try.func41, by kernel_rfl, by kernel_rfl⟩, fun D w g cargs hh hargs => ?_⟩
  obtain ⟨u, v, rfl, hu, hv⟩ := args_two hargs
  obtain rfl := hv.int_inv
  obtain ⟨k, rfl⟩ := Int.eq_ofNat_of_zero_le hn.1
  have hkn : k ≤ 1000000000000 := by omega
  cases hu with
  | ref _ _ bk hid =>
  obtain ⟨c, hb, hcs, hcr⟩ := hh.cellsT (row_get h0) hid
  rw [ety_get h0] at hb
  obtain ⟨c0, c1, rfl⟩ := two_of hcs
  obtain ⟨hF, hO, hbl⟩ := hh.apart bk (List.mem_of_getElem? hid)
  have hlt : id < h.length := (List.getElem?_eq_some_iff.1 h0).1
  have hc0 := (hcr 0 p c0 rfl rfl).1
  have hc1 := hcr 1 _ c1 rfl rfl
  -- its row
  obtain ⟨a, cap, hsl, hcm⟩ : ∃ a cap, c1 = .slice a 0 cap ∧ cap ≤ maxLen := by
    rcases own_row (pr := none) hc1.1 with ⟨e, _⟩ | ⟨b, cap, cur, vals, e, _, _, hm, _⟩
    · exact ⟨none, 0, e, Nat.zero_le _⟩
    · exact ⟨_, cap, e, hm⟩
  -- the pointer
  have hcc : ∃ w1, (Calls Try.prog 36 #[.pointer (some ⟨bk, 0, none⟩)] w fun e w' => e = .returned (.tuple #[]) ∧ w' = w1) ∧ w1 = w.setRow bk #[.pointer (some ⟨bk, 0, none⟩), c1] := by
    rcases hpp with rfl | rfl
    · have e0 : c0 = .pointer none := by
        have := hc0.demote
        cases this; rfl
      subst e0
      exact ⟨_, cc_fresh bk w (by simp [World.cell?, hb]) (by simp [World.shape?, hb]) (by simp [World.frozen?, hb]), by rw [setCell_row hb]; rfl⟩
    · have e0 : c0 = .pointer (some ⟨bk, 0, none⟩) := by
        have := hc0.demote
        cases this with
        | ref _ _ b' hid' => rw [hid] at hid'; injection hid' with e; rw [e]
      subst e0
      exact ⟨w, cc_used bk w (by simp [World.cell?, hb]), (setRow_same hb).symm⟩
  obtain ⟨w1, hcc, hw1⟩ := hcc
  have hx1 : Ext D w g w1 g := by rw [hw1]; exact Write.ext hF hid
  have hh1 : HRel w1 g (h.set id (.cells 49 [.ref id 0, .own 5 1 []])) := by
    rw [hw1]
    exact Write.hrel hh hid hb hlt (by simp) (vs := [.ref id 0, .own 5 1 []]) (fun j v u hv hu => by
      match j, hv, hu with
      | 0, hv, hu => simp at hv hu; subst hv; subst hu; exact ⟨.inl (.ref _ _ _ hid), rfl⟩
      | 1, hv, hu => simp at hv hu; subst hv; subst hu; exact hc1)
  have hb1 : w1.heap[bk]? = some (.cells #[.pointer (some ⟨bk, 0, none⟩), c1] 49 (0, 0)) := by rw [hw1]; exact setRow_heap w bk _ _ 49 (0, 0) hb
  have ht : ∀ (w : World) (g : Gh), VAt w g (.slot D 0) (.tup []) (.tuple #[]) := fun w g => .inl (.tup [] #[] rfl (by simp))
  refine (Grow_row bk k cap a w w1 hcc (by rw [hb1, hsl]) hcm hkn).mono fun e w' he => ?_
  obtain ⟨rfl, rfl | ⟨cs, hcs, rfl⟩⟩ := he
  · have hg : Grow w1 g w1.drew g := grow_below hh1 ⟨rfl, rfl, rfl, Nat.le_refl _, fun _ _ => rfl⟩
    exact ⟨_, _, hx1.trans (hg.ext hh1), hg.hrel hh1, .inl ⟨.tup [], .tuple #[], 0, rfl, hq, ht _ _⟩⟩
  · -- the old row goes
    have hlt1 : id < (h.set id (.cells 49 [.ref id 0, .own 5 1 []])).length := by simpa using hlt
    have h01 : (h.set id (.cells 49 [V.ref id 0, .own 5 1 []]))[id]? = some (.cells 49 [.ref id 0, .own 5 1 []]) := by rw [List.getElem?_set_self hlt]
    have hm := HRel.movedCell hh1 (row_get h01) (off := 1) (q := .slot D 0) (u := c1) (by simp) (fun b c e hb' hc hlt => by
      rw [hid] at hb'; injection hb' with hb'; subst hb'
      rw [hb1] at hc; injection hc with hc; injection hc with hc; subst hc; rfl) (by simp)
    have hx2 : Ext D w1 g w1 (g.move (.cell id 1) (.slot D 0) c1) := move_ext (i := 0) g w1 (.cell id 1) (.inr ⟨id, 1, rfl⟩)
    generalize hg1 : g.move (.cell id 1) (.slot D 0) c1 = g1 at hm hx2
    have hι1 : g1.ι = g.ι := by rw [← hg1, Gh.move_ι]
    have hid1 : g1.ι[id]? = some bk := by rw [hι1]; exact hid
    -- a new one
    have hG := grown_new (w := w1) (g := g1) (q := .cell id 1) (m := 0) (c := cs) (e := 5) hm
    have hh2 := hG.hrel hm
    have hx3 := hG.ext (d := D) hm
    have hbl1 : bk < w1.heap.size := (hm.apart bk (List.mem_of_getElem? hid1)).2.2
    have hb2 : (w1.drew.alloc (.cells cs 5)).heap[bk]? = some (.cells #[.pointer (some ⟨bk, 0, none⟩), c1] 49 (0, 0)) := (heap_alloc_old w1.drew _ hbl1).trans hb1
    have hid2 : (g1.grown w1.heap.size 0 (.cell id 1)).ι[id]? = some bk := hid1
    obtain ⟨hF2, hO2, _⟩ := hh2.apart bk (List.mem_of_getElem? hid2)
    have hset2 : ((h.set id (.cells 49 [V.ref id 0, .own 5 1 []])).set id (.cells (H.ety (h.set id (.cells 49 [V.ref id 0, .own 5 1 []])) id) ([V.ref id 0, V.own 5 1 []].set 1 ([V.ref id 0, V.own 5 1 []].getD 1 .top).demote))).set id (.cells 49 [.ref id 0, .own 5 1 []]) = h.set id (.cells 49 [.ref id 0, .own 5 1 []]) := by simp [List.set_set]
    have hh3 := Write.hrel hh2 hid2 hb2 (by simpa using hlt) (c := #[.pointer (some ⟨bk, 0, none⟩), .slice (some ⟨w1.heap.size, 0, none⟩) 0 cs.size]) (by simp) (vs := [.ref id 0, .own 5 1 []]) (fun j v u hv hu => by
      match j, hv, hu with
      | 0, hv, hu => simp at hv hu; subst hv; subst hu; exact ⟨.inl (.ref _ _ _ hid2), rfl⟩
      | 1, hv, hu =>
        simp at hv hu; subst hv; subst hu
        exact ⟨.inr ⟨none, 5, 1, [], w1.heap.size, cs.size, cs, [], rfl, rfl, heap_alloc_new w1.drew _, Nat.zero_le _, hcs, by simp, by simp, rfl, by decide, by simp, by simp, LRel.nil, by simp [Gh.grown, rowF], by simp [Gh.grown], fun o u ho => by cases ho⟩, rfl⟩)
    rw [hset2] at hh3
    have hx4 : Ext D (w1.drew.alloc (.cells cs 5)) (g1.grown w1.heap.size 0 (.cell id 1)) _ _ := Write.ext (c := #[.pointer (some ⟨bk, 0, none⟩), .slice (some ⟨w1.heap.size, 0, none⟩) 0 cs.size]) hF2 hid2
    have hg4 := grow_below hh3 drews_below
    have hw : ((w1.setCell ⟨bk, 1, none⟩ (.slice (some ⟨w1.heap.size, 0, none⟩) 0 cs.size)).alloc (.cells cs 5)).drew.drew.drew.drew = ((w1.drew.alloc (.cells cs 5)).setRow bk #[.pointer (some ⟨bk, 0, none⟩), .slice (some ⟨w1.heap.size, 0, none⟩) 0 cs.size]).drew.drew.drew := by
      rw [setCell_row1 hb1, alloc_setRow hbl1]
      rfl
    rw [hw]
    exact ⟨_, _, hx1.trans (hx2.trans (hx3.trans (hx4.trans (hg4.ext hh3)))), hg4.hrel hh3, .inl ⟨.tup [], .tuple #[], 0, rfl, hq, ht _ _⟩⟩

theorem qprim_sound : ∀ f args h Q, qprim f args h Q → Sound Try.prog f args h Q := by
  intro f args h Q hf
  cases hf with
  | indexByte s c hq => exact indexByte_sound hq
  | cut s sep h1 hq => exact cut_sound h1 hq
  | count s c hq => exact count_sound hq
  | copyCheck id p b h1 h2 hq => exact copyCheck_sound h1 h2 hq
  | string id p l h1 hq => exact string_sound h1 hq
  | grow id p n h1 h2 h3 hq => exact grow_sound h1 h2 h3 hq
end Go.Proofs.Ytblbbmlppmpmjaa.Pv
