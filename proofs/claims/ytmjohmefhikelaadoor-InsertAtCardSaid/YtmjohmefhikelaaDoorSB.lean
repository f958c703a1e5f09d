/- The library's string builder at this program: what copyCheck and String do, exactly; and that it is so for the evaluator's calls. -/
import Derived.Test.YtmjohmefhikelaaDoorTy
import Derived.Test.YtmjohmefhikelaaDoorPwU
import Derived.Shelf.Strings.Builder1
import Derived.Lib.Builder
import Derived.Lib.UnsafeStr
import Derived.WalkSmall
set_option linter.unusedVariables false
set_option linter.unusedSimpArgs false
namespace Go.Proofs.YtmjohmefhikelaaDoor.Pv
open Go Go.Proofs

theorem bSize : (Tryd.prog.info? 38).map (·.size) = some 2 := by kernel_rfl
theorem bLies : liesAt Tryd.prog Tryd.prog.depth 38 (2 / Tryd.prog.cellsOf 38) 0 38 1 = true := by kernel_rfl
theorem cellsByte : Tryd.prog.cellsOf 5 = 1 := by kernel_rfl

set_option maxHeartbeats 1000000 in
set_option maxRecDepth 100000 in
theorem cc_fresh (b : Nat) (w : World) (h0 : w.cell? ⟨b, 0, none⟩ = some (.pointer none)) (hsh : w.shape? b = some (38, 2)) (hfz : w.frozen? ⟨b, 0, none⟩ = false) :
    Calls Tryd.prog 31 #[.pointer (some ⟨b, 0, none⟩)] w fun e w' => e = .returned (.tuple #[]) ∧ w' = w.setCell ⟨b, 0, none⟩ (.pointer (some ⟨b, 0, none⟩)) := by
  obtain ⟨j, hj, hjs⟩ := Option.map_eq_some_iff.1 bSize
  go_enter Tryd.func31, Tryd.ntmps31
  go_wp2
  rw [Lib.run_to_unsafe w ⟨b, 0, none⟩ Tryd.underlying35 Tryd.underlying68 hj (by rw [hjs]; decide) hsh (Nat.zero_lt_succ 1)]
  simp only [Result.andThen]
  rw [Oper.upon_value]
  go_wp2
  rw [run_callFunc_extern Tryd.func37 (by kernel_rfl) (by kernel_rfl) (by kernel_rfl) (e := Extern.AbiNoEscape.same) (by kernel_rfl)]
  rw [Lib.run_noEscape]
  simp only [Result.andThen]
  rw [Oper.upon_value]
  go_wp2
  rw [Lib.run_from_unsafe w ⟨b, 0, none⟩ Tryd.underlying68 Tryd.underlying35 hj hsh bLies]
  simp only [Result.andThen]
  rw [Oper.upon_value]
  go_wp2
  go_end0
  exact ⟨rfl, rfl⟩

set_option maxHeartbeats 1000000 in
set_option maxRecDepth 100000 in
theorem cc_used (b : Nat) (w : World) (h0 : w.cell? ⟨b, 0, none⟩ = some (.pointer (some ⟨b, 0, none⟩))) :
    Calls Tryd.prog 31 #[.pointer (some ⟨b, 0, none⟩)] w fun e w' => e = .returned (.tuple #[]) ∧ w' = w := by
  obtain ⟨j, hj, hjs⟩ := Option.map_eq_some_iff.1 bSize
  go_enter Tryd.func31, Tryd.ntmps31
  go_wp2
  rw [Lib.run_neq_ptr_same w _ Tryd.underlying35 hj]
  go_wp2
  go_end0
  exact ⟨rfl, rfl⟩

/-- In a row of bytes so many lie side by side, from anywhere on. -/
theorem lies_bytes {P : Program} {e : TypeId} (hc : P.cellsOf e = 1) (count off n : Nat) (hn : off + n ≤ count) : liesAt P P.depth e count off e n = true := by
  have hd : P.depth = (2 * (P.types.size + Made.depth) + 1) + 1 := rfl
  rw [hd]
  simp only [liesAt, Bool.or_eq_true]
  left
  rw [hd]
  simp [rowAt, hc, hn, sameLayout]
  omega
/-- unsafe.String over bytes anywhere in a row. -/
theorem run_unsafeString_off {P : Program} (w : World) (pt it ty e : TypeId) (hp : P.underlying pt = some (.pointer e)) (hc : P.cellsOf e = 1) (g off cells : Nat) (hsh : w.shape? g = some (e, cells)) (l : List UInt8) (h0 : l ≠ []) (hn : off + l.length ≤ cells) (h63 : l.length ≤ 9223372036854775807)
    (hcell : ∀ j x, l[j]? = some x → w.cell? ((⟨g, off, none⟩ : Addr).add j) = some (.int .u8 x.toNat)) :
    (Builtin.unsafeString_ #[pt, it] ty #[.pointer (some ⟨g, off, none⟩), .int .i64 l.length]).run P w = .ok (.string ⟨l.toArray⟩) (w.freeze ⟨g, off, none⟩ l.length) := by
  have hl : l.length ≠ 0 := by simpa using h0
  have hlb := Lib.run_loadBytes (P := P) w l ⟨g, off, none⟩ .empty hcell
  have hlies := lies_bytes (P := P) hc (cells / P.cellsOf e) off l.length (by rw [hc]; simpa using hn)
  have h63' : ¬ (9223372036854775807 : Int) < (l.length : Int) := by omega
  have hdef : Builtin.unsafeString_ #[pt, it] ty #[.pointer (some ⟨g, off, none⟩), .int .i64 l.length] =
      (do
        let n ← asInt (.int .i64 l.length)
        if n < 0 then runtimePanic (.error "unsafe.String: len out of range")
        if n > IntKind.i64.max then unsupported (.unsafePointer "String: a length above the largest int")
        if n = 0 then pure (.string .empty)
        else if ← variablesAt ⟨g, off, none⟩ (← Go.elemOf pt) n.toNat then do
          let s ← loadBytes ⟨g, off, none⟩ .empty n.toNat
          Go.freeze ⟨g, off, none⟩ n.toNat
          pure (.string s)
        else unsupported (.unsafePointer "String: not so many bytes at ptr")) := rfl
  rw [hdef]
  have hmax : IntKind.i64.max = 9223372036854775807 := rfl
  have hneg : ¬ (l.length : Int) < 0 := by omega
  simp [asInt, asIntOf, hmax, h63', hneg, hl, variablesAt, hsh, Go.elemOf, run_underlying hp, hlies, hlb]

set_option maxHeartbeats 1000000 in
set_option maxRecDepth 100000 in
/-- String, where there is a byte: the bytes; their row is not written any more. -/
theorem str_some (b g off cap : Nat) (p : Value) (cur : Array Value) (l : List UInt8) (w : World) (h0 : l ≠ []) (hbk : w.heap[b]? = some (.cells #[p, .slice (some ⟨g, off, none⟩) l.length cap] 38 (0, 0)))
    (hg : w.heap[g]? = some (.cells cur 5 (0, 0))) (hlc : l.length ≤ cap) (hcm : cap ≤ maxLen) (hcs : cur.size = off + cap * 1) (hcell : ∀ (j : Nat) (x : UInt8), l[j]? = some x → cur[off + j]? = some (Value.int .u8 x.toNat)) :
    Calls Tryd.prog 20 #[.pointer (some ⟨b, 0, none⟩)] w fun e w' => e = .returned (.string ⟨l.toArray⟩) ∧ w' = w.drew.freeze ⟨g, off, none⟩ l.length := by
  have hl0 : l.length ≠ 0 := by simpa using h0
  have c1 : w.drew.cell? ⟨b, 1, none⟩ = some (.slice (some ⟨g, off, none⟩) l.length cap) := by
    have : w.drew.heap[b]? = some (.cells #[p, .slice (some ⟨g, off, none⟩) l.length cap] 38 (0, 0)) := hbk
    rw [Lib.cell_of_heap this]; rfl
  have hg' : w.drew.heap[g]? = some (.cells cur 5 (0, 0)) := hg
  have hSD : (Builtin.unsafeSliceData_ #[36] 64 #[.slice (some ⟨g, off, none⟩) l.length cap]).run Tryd.prog w.drew = .ok (.pointer (some ⟨g, off, none⟩)) w.drew :=
    Lib.run_unsafeSliceData_row _ _ _ _ _ _ (by omega)
  have hUS : (Builtin.unsafeString_ #[64, 3] 9 #[.pointer (some ⟨g, off, none⟩), .int .i64 l.length]).run Tryd.prog w.drew = .ok (.string ⟨l.toArray⟩) (w.drew.freeze ⟨g, off, none⟩ l.length) := by
    refine run_unsafeString_off w.drew 64 3 9 5 Tryd.underlying64 cellsByte g off cur.size (by simp [World.shape?, hg']) l h0 (by omega) (by unfold maxLen at hcm; omega) ?_
    intro j x hx
    rw [Addr.add_lit, Lib.cell_of_heap hg']
    exact hcell j x hx
  have mx := mixed
  go_enter Tryd.func20, Tryd.ntmps20
  go_wp2
  go_region_o
  all_goals (go_wp2; go_ret; exact ⟨rfl, rfl⟩)

theorem row_getB {h : H} {id t : Nat} {cs : List V} (h0 : h[id]? = some (.cells t cs)) : h.row id = some cs := by simp only [H.row, h0, Option.bind_some, AObj.row]
theorem ety_getB {h : H} {id t : Nat} {cs : List V} (h0 : h[id]? = some (.cells t cs)) : h.ety id = t := by simp only [H.ety, h0]
theorem setCell_row {w : World} {b : Nat} {c : Array Value} {e : TypeId} {fr : Nat × Nat} {v : Value} (hb : w.heap[b]? = some (.cells c e fr)) : w.setCell ⟨b, 0, none⟩ v = w.setRow b (c.setIfInBounds 0 v) := by
  unfold World.setCell World.setRow
  congr 1
  apply Array.ext_getElem?
  intro i
  simp only [Array.getElem?_modify]
  by_cases hi : b = i
  · subst hi
    simp [hb]
  · simp [hi]
theorem args_oneB {w : World} {F : Nat → Nat} {ι : List Nat} {id : Nat} {cargs : Array Value} (h : LRel w F ι [.ref id 0] cargs.toList) : ∃ b, cargs = #[.pointer (some ⟨b, 0, none⟩)] ∧ ι[id]? = some b := by
  obtain ⟨hl, hr⟩ := h
  match hc : cargs.toList, hl with
  | [u], _ =>
    rw [hc] at hr
    have := hr 0 _ u rfl rfl
    cases this with
    | ref _ _ b hid =>
      refine ⟨b, ?_, hid⟩
      apply Array.ext'
      rw [hc]
theorem two_of {c : Array Value} (h : c.size = 2) : ∃ c0 c1, c = #[c0, c1] := by
  match hc : c.toList, (by simpa using h : c.toList.length = 2) with
  | [a, b], _ => exact ⟨a, b, by apply Array.ext'; rw [hc]⟩
theorem notLoose : looseT.contains 38 = false := by decide
theorem set_sameB {h : H} {id : Nat} {o : AObj} (h0 : h[id]? = some o) : h.set id o = h := by
  apply List.ext_getElem?
  intro i
  by_cases hi : i = id
  · subst hi
    rw [List.getElem?_set_self (List.getElem?_eq_some_iff.1 h0).1, h0]
  · rw [List.getElem?_set_ne (fun e => hi e.symm)]

theorem copyCheck_sound {id : Nat} {p b : V} {h : H} {Q : Out → H → Prop} (h0 : h[id]? = some (.cells 38 [p, b])) (hpp : p = .nilp ∨ p = .ref id 0) (hq : Q (.ret (.tup [])) (h.set id (.cells 38 [.ref id 0, b]))) : Sound Tryd.prog 31 [.ref id 0] h Q := by
  refine .of (by decide) ⟨⟨Tryd.f31, Tryd.func31, by kernel_rfl, by kernel_rfl⟩, fun D w g cargs hh hargs => ?_⟩
  obtain ⟨bk, rfl, hid⟩ := args_oneB hargs
  obtain ⟨c, hb, hcs, hcr⟩ := hh.cellsT (row_getB h0) hid
  rw [ety_getB h0] at hb hcs
  obtain ⟨c0, c1, rfl⟩ := two_of (hcs.2 notLoose)
  obtain ⟨hF, hO, hbl⟩ := hh.apart bk (List.mem_of_getElem? hid)
  have hlt : id < h.length := (List.getElem?_eq_some_iff.1 h0).1
  have hc0 := (hcr 0 p c0 rfl rfl).1
  have hc1 := hcr 1 b c1 rfl rfl
  have ht : VAt w g (.slot D 0) (.tup []) (.tuple #[]) := .inl (.tup [] #[] rfl (by simp))
  rcases hpp with rfl | rfl
  · have e0 : c0 = .pointer none := by
      have := hc0.demote
      cases this; rfl
    subst e0
    refine (cc_fresh bk w (by simp [World.cell?, hb]) (by simp [World.shape?, hb]) (by simp [World.frozen?, hb])).mono fun e w' he => ?_
    obtain ⟨rfl, rfl⟩ := he
    rw [setCell_row hb]
    refine ⟨g, _, Write.ext hF hid, Write.hrel hh hid hb hlt (.self (by simp)) (vs := [.ref id 0, b]) (fun j v u hv hu => ?_), .inl ⟨.tup [], .tuple #[], 0, rfl, hq, ?_⟩⟩
    · match j, hv, hu with
      | 0, hv, hu => simp at hv hu; subst hv; subst hu; exact ⟨.inl (.ref _ _ _ hid), rfl⟩
      | 1, hv, hu => simp at hv hu; subst hv; subst hu; exact hc1
    · exact .inl (.tup [] #[] rfl (by simp))
  · have e0 : c0 = .pointer (some ⟨bk, 0, none⟩) := by
      have := hc0.demote
      cases this with
      | ref _ _ b' hid' => rw [hid] at hid'; injection hid' with e; rw [e]
    subst e0
    refine (cc_used bk w (by simp [World.cell?, hb])).mono fun e w' he => ?_
    obtain ⟨rfl, rfl⟩ := he
    rw [set_sameB h0] at hq
    exact ⟨g, h, Ext.refl _ _ _, hh, .inl ⟨.tup [], .tuple #[], 0, rfl, hq, ht⟩⟩

theorem freeze_other {w : World} {b off n i : Nat} (h : i ≠ b) : (w.freeze ⟨b, off, none⟩ n).heap[i]? = w.heap[i]? := by
  unfold World.freeze
  split
  · rfl
  · simp [Array.getElem?_modify, Ne.symm h]
theorem freeze_at {w : World} {b off n : Nat} {c : Array Value} {e : TypeId} {fr : Nat × Nat} (h : w.heap[b]? = some (.cells c e fr)) : ∃ fr', (w.freeze ⟨b, off, none⟩ n).heap[b]? = some (.cells c e fr') := by
  unfold World.freeze
  split
  · exact ⟨fr, h⟩
  · obtain ⟨lo, hi⟩ := fr
    simp [Array.getElem?_modify, h]
theorem freeze_size {w : World} {b off n : Nat} : (w.freeze ⟨b, off, none⟩ n).heap.size = w.heap.size := by
  unfold World.freeze
  split <;> simp

/-- Where nothing but a row's marks changes, that no object owns. -/
theorem HRel.marks {w w' : World} {g : Gh} {h : H} (hh : HRel w g h) {b : Nat} (hb : b ∉ g.ι) (hO : ∀ id j, g.O b ≠ some (.cell id j)) (hoth : ∀ i, i ≠ b → w'.heap[i]? = w.heap[i]?) (hcov : Cov w g.F g.ι w' g.F g.ι) (hsz : w'.heap.size = w.heap.size) : HRel w' g h := by
  refine ⟨hh.len, hh.nodup, fun id o b' ho hb' => ?_, fun b' hb' => ?_, fun b' hb' => hh.fresh b' (by omega), hh.glob.cov hcov⟩
  · have hne : b' ≠ b := fun e => hb (e ▸ List.mem_of_getElem? hb')
    refine (hh.obj id o b' ho hb').of_vat (hoth b' hne) (fun m bm hbm => ⟨hbm, .of_eq (hoth bm fun e => hb (e ▸ List.mem_of_getElem? hbm))⟩) (fun h => h.mono hcov) (fun hv => ?_)
    rcases hv with hv | ⟨pr, e, sz, xs, b2, off, cap, cur, vals, rfl, rfl, hb2, hcap, hmx, hcs, htk, hvl, hsz, hw, h1, hr, hF, hO2, htag⟩
    · exact .inl (hv.mono hcov)
    · have hne2 : b2 ≠ b := fun e => by subst e; exact hO _ _ hO2
      exact .inr ⟨pr, e, sz, xs, b2, off, cap, cur, vals, rfl, rfl, by rw [hoth b2 hne2]; exact hb2, hcap, hmx, hcs, htk, hvl, hsz, hw, h1, hr.mono hcov, hF, hO2, htag⟩
  · obtain ⟨h1, h2, h3⟩ := hh.apart b' hb'
    exact ⟨h1, h2, by omega⟩

theorem string_sound {id : Nat} {p : V} {l : List UInt8} {h : H} {Q : Out → H → Prop} (hl : l ≠ []) (h0 : h[id]? = some (.cells 38 [p, .own 5 1 (l.map byteV)])) (hq : Q (.ret (.str l)) (h.set id (.cells 38 [p, .sl 1 (l.map byteV)]))) : Sound Tryd.prog 20 [.ref id 0] h Q := by
  refine .of (by decide) ⟨⟨Tryd.f20, Tryd.func20, by kernel_rfl, by kernel_rfl⟩, fun D w g cargs hh hargs => ?_⟩
  obtain ⟨bk, rfl, hid⟩ := args_oneB hargs
  obtain ⟨c, hb, hcs, hcr⟩ := hh.cellsT (row_getB h0) hid
  rw [ety_getB h0] at hb hcs
  obtain ⟨c0, c1, rfl⟩ := two_of (hcs.2 notLoose)
  have hc1 := hcr 1 _ c1 rfl rfl
  -- the row is nobody's
  have hm := HRel.movedCell hh (row_getB h0) (off := 1) (q := .slot D 0) (u := c1) (by simp) (fun b c e hb' hc hlt => by
    rw [hid] at hb'; injection hb' with hb'; subst hb'
    rw [hb] at hc; injection hc with hc; injection hc with hc; subst hc; rfl) (by simp)
  have hset : h.set id (.cells (h.ety id) ([p, V.own 5 1 (l.map byteV)].set 1 ([p, V.own 5 1 (l.map byteV)].getD 1 .top).left)) = h.set id (.cells 38 [p, .sl 1 (l.map byteV)]) := by rw [ety_getB h0]; rfl
  rw [hset] at hm
  have hx1 : Ext D w g w (g.move (.cell id 1) (.slot D 0) c1) := move_ext (i := 0) g w (.cell id 1) (.inr ⟨id, 1, rfl⟩)
  rcases hc1.1 with hv | ⟨pr, e, sz, xs, b2, off, cap, cur, vals, he, hu, hb2, hcap, hmx, hcsz, htk, hvl, hsz, hw, h1, hr, hF, hO, htag⟩
  · generalize hxs : l.map byteV = xs at hv
    cases hv with
    | own0 e sz =>
      exact absurd (by cases l <;> simp at hxs ⊢) hl
  · cases pr with
    | some o => simp only [rowV] at he; cases he
    | none =>
    simp only [rowV, V.own.injEq] at he
    obtain ⟨rfl, rfl, rfl⟩ := he
    simp only [rowF] at hF
    subst hu
    simp only [List.length_map] at hb hcap htk hvl hF
    rw [byteV_cells] at hr
    refine (str_some bk b2 off cap c0 cur l w hl hb hb2 hcap hmx hcsz (fun j x hj => ?_)).mono fun e w' he => ?_
    · have hjl : j < l.length := (List.getElem?_eq_some_iff.1 hj).1
      have hjv : j < vals.length := by omega
      have hrel := hr.2 j (byteV x) vals[j] (by simp [hj]) (List.getElem?_eq_getElem hjv)
      have hu : vals[j] = .int .u8 (x.toNat : Int) := by
        generalize vals[j] = u at hrel
        simp only [byteV] at hrel
        cases hrel; rfl
      have h2 : vals[j]? = some (Value.int .u8 (x.toNat : Int)) := by rw [List.getElem?_eq_getElem hjv, hu]
      rw [← htk, List.getElem?_take] at h2
      split at h2
      · rw [List.getElem?_drop] at h2
        simpa using h2
      · cases h2
    · obtain ⟨rfl, rfl⟩ := he
      have hO2 : (g.move (.cell id 1) (.slot D 0) (.slice (some ⟨b2, off, none⟩) (l.map byteV).length cap)).O b2 = some (.slot D 0) := by
        simp [Gh.move, hO, Gh.own]
      have hoth : ∀ i, i ≠ b2 → (w.drew.freeze ⟨b2, off, none⟩ l.length).heap[i]? = w.heap[i]? := fun i hi => freeze_other hi
      obtain ⟨fr', hfr⟩ := freeze_at (w := w.drew) (off := off) (n := l.length) (show w.drew.heap[b2]? = _ from hb2)
      have hnb : b2 ∉ (g.move (.cell id 1) (.slot D 0) (.slice (some ⟨b2, off, none⟩) (l.map byteV).length cap)).ι := by
        rw [Gh.move_ι]; intro hmem
        have := (hh.apart b2 hmem).2.1
        rw [hO] at this; cases this
      have hcell : ∀ (b o : Nat), (w.drew.freeze ⟨b2, off, none⟩ l.length).cell? ⟨b, o, none⟩ = w.cell? ⟨b, o, none⟩ := by
        intro b o
        by_cases hbb : b = b2
        · subst hbb
          simp [World.cell?, hfr, hb2]
        · simp [World.cell?, hoth b hbb]
      have hcov : ∀ g' : Gh, Cov w g'.F g'.ι (w.drew.freeze ⟨b2, off, none⟩ l.length) g'.F g'.ι := fun g' => ⟨fun b off _ => hcell b off, fun _ => Nat.le_refl _, fun _ _ h => h⟩
      have hsize : (w.drew.freeze ⟨b2, off, none⟩ l.length).heap.size = w.heap.size := freeze_size
      have hrest : (w.drew.freeze ⟨b2, off, none⟩ l.length).os = w.os ∧ (w.drew.freeze ⟨b2, off, none⟩ l.length).tape = w.tape ∧ (w.drew.freeze ⟨b2, off, none⟩ l.length).output = w.output := by
        unfold World.freeze
        split <;> exact ⟨rfl, rfl, rfl⟩
      refine ⟨_, _, hx1.trans ⟨hrest.1, hrest.2.1, hrest.2.2, by omega, hcov _, fun _ h => .inl h, fun b hlt hι hc hs => ⟨hoth b (fun e => ?_), rfl, rfl⟩⟩, hm.marks hnb (fun id' j' e => ?_) hoth (hcov _) hsize, .inl ⟨.str l, _, 0, rfl, hq, .inl (.str _ _ (by simp))⟩⟩
      · subst e; exact hs D 0 (Nat.le_refl _) hO2
      · simp only [List.length_map] at hO2 e; rw [hO2] at e; cases e
end Go.Proofs.YtmjohmefhikelaaDoor.Pv
