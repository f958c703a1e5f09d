/- Maps whose keys are texts, at the machine: what is looked up, what is put. (Not yet in 'aop'.) -/
import Derived.Test.YtmjohmefhikelaaDoorPwL
import Derived.Maps.RangeRun
import Derived.MapKept
set_option linter.unusedVariables false
set_option linter.unusedSimpArgs false
namespace Go.Proofs.YtmjohmefhikelaaDoor.Pv
open Go Go.Proofs
variable [DS]

section
variable {P : Program} {w : World} {F : Nat → Nat} {ι : List Nat} {s : List UInt8}

omit [DS] in
theorem mapIx_lt : ∀ {es : List (V × V)} {i : Nat}, mapIx s es = some i → i < es.length
  | (k, v) :: r, i, h => by
    unfold mapIx at h
    split at h
    · injection h with h; subst h; simp
    · obtain ⟨j, hj, rfl⟩ := Option.map_eq_some_iff.1 h
      have := mapIx_lt hj
      simp; omega
omit [DS] in
theorem mapIx_at : ∀ {es : List (V × V)} {i : Nat}, mapIx s es = some i → ∃ v, es[i]? = some (.str s, v)
  | (k, v) :: r, i, h => by
    unfold mapIx at h
    split at h
    · rename_i hk
      injection h with h; subst h
      cases k <;> simp [textKey] at hk
      subst hk
      exact ⟨v, rfl⟩
    · obtain ⟨j, hj, rfl⟩ := Option.map_eq_some_iff.1 h
      obtain ⟨v', h'⟩ := mapIx_at hj
      exact ⟨v', by simpa using h'⟩
omit [DS] in
theorem find_text {key : ByteArray} (hkey : key.data.toList = s) : ∀ (es : List (V × V)) (ces : List MapEntry) (i : Nat), textKeys es = true → ces.length = es.length →
    (∀ (j : Nat) (k v : V) (e : MapEntry), es[j]? = some (k, v) → ces[j]? = some e → VRel w F ι k e.key) →
    Instr.findNow .string (.string key) ces i = some ((mapIx s es).bind fun j => ces[j]?.map fun e => (i + j, e.val))
  | [], [], i, _, _, _ => rfl
  | (k, v) :: es, e :: ces, i, hk, hl, hr => by
    simp only [textKeys, List.all_cons, Bool.and_eq_true] at hk
    obtain ⟨hk1, hk2⟩ := hk
    have h0 := hr 0 k v e rfl rfl
    have ih := find_text hkey es ces (i + 1) hk2 (by simpa using hl) fun j k v e hj he => hr (j + 1) k v e (by simpa using hj) (by simpa using he)
    cases k with
    | str s0 =>
      generalize hu : e.key = u at h0
      cases h0
      rename_i bs hbs
      have hsame : Instr.sameNow .string (.string key) e.key = some (key == bs) := by rw [hu]; simp [Instr.sameNow]
      unfold mapIx
      simp only [textKey, Option.some.injEq]
      by_cases hs : s0 = s
      · have hkb : key = bs := by
          apply ByteArray.ext
          apply Array.toList_inj.1
          rw [hkey, ← hs, ← hbs]
        have : (key == bs) = true := (MapKept.bytes_beq _ _).2 hkb
        rw [if_pos hs]
        simp [Instr.findNow, hsame, this]
      · have : (key == bs) = false := by
          cases hq : (key == bs) with
          | false => rfl
          | true =>
            exfalso; apply hs
            have := (MapKept.bytes_beq _ _).1 hq
            rw [← hkey, this, ← hbs]
        rw [if_neg hs]
        simp only [Instr.findNow, hsame, this, ih]
        cases mapIx s es with
        | none => rfl
        | some j => simp; congr 1; funext x; congr 1; omega
    | _ => simp [textKey] at hk1
  | [], _ :: _, _, _, hl, _ => by simp at hl
  | _ :: _, [], _, _, hl, _ => by simp at hl

variable {g : Gh} {t kt et : TypeId} {id b : Nat} {es : List (V × V)}

omit [DS] in
/-- What is looked up. -/
theorem lookup_run (ht : P.underlying t = some (.map kt et)) (hkt : P.underlying kt = some .string) {z : Value} (hz : (zeroValue et).run P w = .ok z w) (hm : ORel w g id (.map es) b) (htk : textKeys es = true)
    {key : ByteArray} (hkey : key.data.toList = s) (c : Bool) :
    (mapGet s es = none ∧ (Instr.lookup t (.map (some b)) (.string key) c).run P w = .ok (if c then .tuple #[z, .bool false] else z) w) ∨
    ∃ v u, mapGet s es = some v ∧ VRel w g.F g.ι v u ∧ (Instr.lookup t (.map (some b)) (.string key) c).run P w = .ok (if c then .tuple #[u, .bool true] else u) w := by
  obtain ⟨ces, clock, hb, hsz, hrel, -, -⟩ := hm
  have hfind := find_text (w := w) (F := g.F) (ι := g.ι) hkey es ces.toList 0 htk (by simpa using hsz) fun j k v e hj he => (hrel j k v e hj (by simpa using he)).1
  have hck : ∀ q : Bool, (Instr.checkKey q 10000 kt (.string key)).run P w = .ok () w := fun q => MapKept.run_checkKey (k := .string key) hkt (by simp [MapKept.IsKey]) q 9999
  cases hi : mapIx s es with
  | none =>
    rw [hi] at hfind
    left
    refine ⟨by simp [mapGet, hi], ?_⟩
    simp [Instr.lookup, run_underlying ht, MapKept.run_getObj_map hb, hck, MapKept.run_findKey hkt hfind, hz, Result.andThen]
  | some i =>
    have hil := mapIx_lt hi
    have hic : i < ces.size := by omega
    rw [hi] at hfind
    have hci : ces.toList[i]? = some ces[i] := by simp [hic]
    simp only [Option.bind_some, hci, Option.map_some] at hfind
    right
    have hr := hrel i es[i].1 es[i].2 ces[i] (by simp [hil]) (by simp [hic])
    refine ⟨es[i].2, ces[i].val, by simp [mapGet, hi, hil], hr.2, ?_⟩
    simp [Instr.lookup, run_underlying ht, MapKept.run_getObj_map hb, hck, MapKept.run_findKey hkt hfind, Result.andThen]
omit [DS] in
theorem lookup_nil (ht : P.underlying t = some (.map kt et)) (hkt : P.underlying kt = some .string) {z : Value} (hz : (zeroValue et).run P w = .ok z w) {key : ByteArray} (c : Bool) :
    (Instr.lookup t (.map none) (.string key) c).run P w = .ok (if c then .tuple #[z, .bool false] else z) w := by
  have hck : ∀ q : Bool, (Instr.checkKey q 10000 kt (.string key)).run P w = .ok () w := fun q => MapKept.run_checkKey (k := .string key) hkt (by simp [MapKept.IsKey]) q 9999
  have hfind : Instr.findNow .string (.string key) ([] : List MapEntry) 0 = some none := rfl
  simp [Instr.lookup, run_underlying ht, hck, MapKept.run_findKey hkt hfind, hz, Result.andThen]
omit [DS] in
theorem slz1_rel {F : Nat → Nat} {ι : List Nat} {v : V} {u : Value} (h : VRel w F ι v u) : VRel w F ι v.slz1 u := by
  cases v <;> first | exact h | (cases h; exact .sl0 _ _ _)
omit [DS] in
theorem slz_rel {F : Nat → Nat} {ι : List Nat} {v : V} {u : Value} (h : VRel w F ι v u) : VRel w F ι v.slz u := by
  cases v
  case agg cs =>
    cases h with
    | agg _ ca hl hr =>
      refine .agg _ ca (by simpa using hl) fun k c u hc hu => ?_
      rw [List.getElem?_map] at hc
      obtain ⟨x, hx, rfl⟩ := Option.map_eq_some_iff.1 hc
      exact slz1_rel (hr k x u hx hu)
  all_goals exact slz1_rel h
omit [DS] in
theorem lookV_rel {ty : Nat → Ty} {F : Nat → Nat} {ι : List Nat} {et : Nat} {c : Bool} {o : Option V} {u : Value} (hv : VRel w F ι (o.getD ((ty et).val (ty et).zero).slz) u) : VRel w F ι (lookV c (ty et) o) (if c = true then .tuple #[u, .bool o.isSome] else u) := by
  unfold lookV
  cases c with
  | false => exact hv
  | true =>
    refine .tup _ _ (by simp) fun k x y hx hy => ?_
    match k with
    | 0 => simp at hx hy; subst hx; subst hy; exact hv
    | 1 => simp at hx hy; subst hx; subst hy; exact .bool _
    | k + 2 => simp at hx
omit [DS] in
theorem zero_val {ty : Nat → Ty} (hty : ∀ t, TyOK P t (ty t)) {F : Nat → Nat} {ι : List Nat} {et : Nat} (h : 0 < (ty et).size) : ∃ z, (∀ w, (zeroValue et).run P w = .ok z w) ∧ VRel w F ι ((ty et).val (ty et).zero) z := by
  obtain ⟨i, z, hi, _, _, hz, hzm, hlen, hagg⟩ := TyOK.get hty h
  refine ⟨z, fun w => by simp [zeroValue, typeInfo, hi, hz], ?_⟩
  have := val_rel (ty := ty) (w := w) (g := ⟨F, ι, fun _ => none⟩) (zms_rel hzm) hlen h
  cases z with
  | agg us => rw [← hagg] at this; simpa [Value.cells] using this
  | _ => rw [← hagg] at this; simpa [Value.cells] using this
omit [DS] in
theorem lookup_done {ty : Nat → Ty} (hty : ∀ t, TyOK P t (ty t)) {h : H} (hh : HRel w g h) {t : Nat} {c : Bool} {m k : V} {mu ku : Value} {p : Prop} {v : V} (hr : lookup ty t c m k h = .ok p v) (hp : p) (hm : VRel w g.F g.ι m mu) (hk : VRel w g.F g.ι k ku) :
    ∃ u, (Instr.lookup t mu ku c).run P w = .ok u w ∧ VRel w g.F g.ι v u := by
  have hkt := (hty t).k
  unfold lookup at hr
  split at hr
  · rename_i kt et id s hk1
    rw [hk1] at hkt
    split at hr
    · rename_i es hes
      simp only [R1.ok.injEq] at hr
      obtain ⟨rfl, rfl⟩ := hr
      obtain ⟨hks, htk, hpos⟩ := hp
      cases hm with
      | map _ b hid =>
        cases hk with
        | str key _ hkey =>
          have hkk := (hty kt).k
          rw [hks] at hkk
          obtain ⟨z, hz, hzr⟩ := zero_val (w := w) hty (F := g.F) (ι := g.ι) hpos
          rcases lookup_run (g := g) (id := id) hkt hkk (hz w) (hh.obj id _ b hes hid) htk hkey c with ⟨h1, h2⟩ | ⟨v, u, h1, h2, h3⟩
          · exact ⟨_, h2, by rw [h1]; exact lookV_rel (o := none) (slz_rel hzr)⟩
          · exact ⟨_, h3, by rw [h1]; exact lookV_rel (o := some v) h2⟩
    · cases hr
  · rename_i kt et s hk1
    rw [hk1] at hkt
    simp only [R1.ok.injEq] at hr
    obtain ⟨rfl, rfl⟩ := hr
    obtain ⟨hks, hpos⟩ := hp
    cases hm
    cases hk with
    | str key _ hkey =>
      have hkk := (hty kt).k
      rw [hks] at hkk
      obtain ⟨z, hz, hzr⟩ := zero_val (w := w) hty (F := g.F) (ι := g.ι) hpos
      exact ⟨_, lookup_nil hkt hkk (hz w) c, lookV_rel (o := none) (slz_rel hzr)⟩
  · cases hr
omit [DS] in
/-- What is put: the entries, one by one, are as they were, but for the key's. -/
theorem update_run (ht : P.underlying t = some (.map kt et)) (hkt : P.underlying kt = some .string) {ces : Array MapEntry} {clock : Nat} (hb : w.heap[b]? = some (.map ces clock)) (hsz : ces.size = es.length)
    (hrel : ∀ (j : Nat) (k v : V) (e : MapEntry), es[j]? = some (k, v) → ces[j]? = some e → VRel w g.F g.ι k e.key ∧ VRel w g.F g.ι v e.val) (htk : textKeys es = true) {key : ByteArray} (hkey : key.data.toList = s) (u : Value) :
    ∃ (ces' : Array MapEntry) (clock' : Nat), (Instr.mapUpdate t (.map (some b)) (.string key) u).run P w = .ok () { w with heap := w.heap.setIfInBounds b (.map ces' clock') } ∧
      ((∃ i, mapIx s es = some i ∧ clock' = clock ∧ (ces' = ces.modify i fun e => { e with key := .string key, val := u }) ∧ ∀ e, ces[i]? = some e → e.key = .string key) ∨
       (mapIx s es = none ∧ clock' = clock + 1 ∧ ces' = ces.push { key := .string key, val := u, born := clock })) := by
  have hfind := find_text (w := w) (F := g.F) (ι := g.ι) hkey es ces.toList 0 htk (by simpa using hsz) fun j k v e hj he => (hrel j k v e hj (by simpa using he)).1
  have hck : (Instr.checkKey false 10000 kt (.string key)).run P w = .ok () w := MapKept.run_checkKey (k := .string key) hkt (by simp [MapKept.IsKey]) false 9999
  cases hi : mapIx s es with
  | none =>
    rw [hi] at hfind
    refine ⟨_, _, ?_, .inr ⟨rfl, rfl, rfl⟩⟩
    simp [Instr.mapUpdate, run_underlying ht, MapKept.run_getObj_map hb, hck, MapKept.run_findKey hkt hfind, MapKept.run_setObj_map _ hb, Result.andThen]
  | some i =>
    have hil := mapIx_lt hi
    have hic : i < ces.size := by omega
    rw [hi] at hfind
    have hci : ces.toList[i]? = some ces[i] := by simp [hic]
    simp only [Option.bind_some, hci, Option.map_some] at hfind
    have hold : ces[i].key = .string key := by
      obtain ⟨v0, hv0⟩ := mapIx_at hi
      have h0 := (hrel i _ v0 ces[i] hv0 (by simp [hic])).1
      generalize hq : ces[i].key = q at h0
      cases h0
      rename_i bs hbs
      congr 1
      apply ByteArray.ext
      apply Array.toList_inj.1
      rw [hkey, ← hbs]
    refine ⟨_, _, ?_, .inl ⟨i, rfl, rfl, rfl, fun e he => by rw [Array.getElem?_eq_getElem hic] at he; obtain rfl := Option.some.inj he; exact hold⟩⟩
    have hst : (Instr.keyThatStays (.string key) (.string key)).run P w = .ok (.string key) w := MapKept.run_keyThatStays (d := .string) (by simp [MapKept.IsKey])
    simp [Instr.mapUpdate, run_underlying ht, MapKept.run_getObj_map hb, hck, MapKept.run_findKey hkt hfind, MapKept.run_setObj_map _ hb, Result.andThen, hic, hold, hst]
end
/-! ### A map that is put anew -/
def withObj (w : World) (b : Nat) (o : Obj) : World := { w with heap := w.heap.setIfInBounds b o }
section
variable {P : Program} {ty : Nat → Ty} {d n : Nat} {a : Act} {w : World} {g : Gh} {env : Env} {h : H}
omit [DS] in
theorem withObj_other {b b' : Nat} {o : Obj} (hne : b' ≠ b) : (withObj w b o).heap[b']? = w.heap[b']? := by
  simp [withObj, Array.getElem?_setIfInBounds, Ne.symm hne]
omit [DS] in
theorem withObj_self {b : Nat} {o o0 : Obj} (hb : w.heap[b]? = some o0) : (withObj w b o).heap[b]? = some o := by
  have hlt : b < w.heap.size := (Array.getElem?_eq_some_iff.1 hb).1
  simp [withObj, hlt]
omit [DS] in
theorem MapLe.modify {b : Nat} {ces : Array MapEntry} {clock i : Nat} {key : ByteArray} {u : Value} (hb : w.heap[b]? = some (.map ces clock)) (hk : ∀ e, ces[i]? = some e → e.key = .string key) :
    MapLe w (withObj w b (.map (ces.modify i fun e => { e with key := .string key, val := u }) clock)) b := by
  intro c0 k0 h0
  rw [hb] at h0
  simp only [Option.some.injEq, Obj.map.injEq] at h0
  obtain ⟨rfl, rfl⟩ := h0
  refine ⟨_, _, withObj_self hb, by simp, fun _ => rfl, fun j e he => ?_⟩
  by_cases hij : i = j
  · subst hij
    exact ⟨{ e with key := .string key, val := u }, by rw [Array.getElem?_modify, if_pos rfl, he]; rfl, (hk e he).symm, rfl⟩
  · exact ⟨e, by rw [Array.getElem?_modify, if_neg hij]; exact he, rfl, rfl⟩
omit [DS] in
theorem MapLe.push {b : Nat} {ces : Array MapEntry} {clock k : Nat} {e0 : MapEntry} (hb : w.heap[b]? = some (.map ces clock)) : MapLe w (withObj w b (.map (ces.push e0) k)) b := by
  intro c0 k0 h0
  rw [hb] at h0
  simp only [Option.some.injEq, Obj.map.injEq] at h0
  obtain ⟨rfl, rfl⟩ := h0
  refine ⟨_, _, withObj_self hb, by simp, fun hs => by simp at hs, fun j e he => ⟨e, ?_, rfl, rfl⟩⟩
  have := (Array.getElem?_eq_some_iff.1 he).1
  rw [Array.getElem?_push, if_neg (by omega)]
  exact he
omit [DS] in
theorem MapLe.withObj {b bm : Nat} {o o0 : Obj} (hb : w.heap[b]? = some o0) (hno : ∀ ces clock, o0 ≠ .map ces clock) : MapLe w (withObj w b o) bm := by
  by_cases e : bm = b
  · subst e
    intro ces clock hc
    rw [hb] at hc
    exact absurd (Option.some.inj hc) (hno _ _)
  · exact .of_eq (withObj_other e)
omit [DS] in
theorem WriteM.cov {b : Nat} {o : Obj} (hF : g.F b = 0) : Cov w g.F g.ι (withObj w b o) g.F g.ι :=
  ⟨fun b' off hlt => by
    have : b' ≠ b := fun e => by subst e; omega
    exact World.cell?_of_block (withObj_other this), fun _ => Nat.le_refl _, fun _ _ h => h⟩
omit [DS] in
theorem WriteM.vat {b : Nat} {o : Obj} (hF : g.F b = 0) (hO : g.O b = none) {p : Place} {v : V} {u : Value} (hv : VAt w g p v u) : VAt (withObj w b o) g p v u := by
  rcases hv with hv | ⟨pr, e, sz, xs, b', off, cap, cur, vals, rfl, rfl, hb, hcap, hmx, hcs, htk, hvl, hsz, hw, h1, hr, hFb, hOb, htag⟩
  · exact .inl (hv.mono (WriteM.cov hF))
  · have hne : b' ≠ b := fun e => by subst e; rw [hO] at hOb; cases hOb
    exact .inr ⟨pr, e, sz, xs, b', off, cap, cur, vals, rfl, rfl, by rw [withObj_other hne]; exact hb, hcap, hmx, hcs, htk, hvl, hsz, hw, h1, hr.mono (WriteM.cov hF), hFb, hOb, htag⟩
omit [DS] in
theorem WriteM.ext {b id : Nat} {o : Obj} (hF : g.F b = 0) (hid : g.ι[id]? = some b) : Ext d w g (withObj w b o) g :=
  ⟨rfl, rfl, rfl, by simp [withObj], WriteM.cov hF, fun _ h => .inl h, fun b' hlt hι _ _ => ⟨withObj_other (fun e => hι (e ▸ List.mem_of_getElem? hid)), rfl, rfl⟩⟩
theorem WriteM.frel {b id : Nat} {o : Obj} (hF : g.F b = 0) (hO : g.O b = none) (hid : g.ι[id]? = some b) (hf : FRel d n a w g env) : FRel d n a (withObj w b o) g env := ⟨hf.size, fun i => WriteM.vat hF hO (hf.slot i), hf.defers.ext (WriteM.ext (d := d) hF hid)⟩
omit [DS] in
theorem WriteM.hrel {b id : Nat} {ces : Array MapEntry} {clock : Nat} {o0 : Obj} {es : List (V × V)} (hh : HRel w g h) (hid : g.ι[id]? = some b) (hb : w.heap[b]? = some o0) (hlt : id < h.length) (hl : ces.size = es.length)
    (hv : ∀ (j : Nat) (k v : V) (e : MapEntry), es[j]? = some (k, v) → ces[j]? = some e → VRel w g.F g.ι k e.key ∧ VRel w g.F g.ι v e.val)
    (hu : ∀ (i j : Nat) (e e' : MapEntry), ces[i]? = some e → ces[j]? = some e' → e.born = e'.born → i = j) (hc : ∀ (j : Nat) (e : MapEntry), ces[j]? = some e → e.born < clock) (hmm : MapLe w (withObj w b (.map ces clock)) b) :
    HRel (withObj w b (.map ces clock)) g (h.set id (.map es)) := by
  obtain ⟨hF, hO, hbl⟩ := hh.apart b (List.mem_of_getElem? hid)
  refine ⟨by simpa using hh.len, hh.nodup, fun id' o b' ho hb' => ?_, fun b' hb' => ?_, fun b' hb' => hh.fresh b' (by simpa [withObj] using hb'), hh.glob.cov (WriteM.cov hF)⟩
  · by_cases hii : id' = id
    · subst hii
      rw [hid] at hb'; injection hb' with hb'; subst hb'
      rw [List.getElem?_set_self hlt] at ho
      injection ho with ho; subst ho
      exact ⟨ces, clock, withObj_self hb, hl, fun j k v e h1 h2 => ⟨(hv j k v e h1 h2).1.mono (WriteM.cov hF), (hv j k v e h1 h2).2.mono (WriteM.cov hF)⟩, hu, hc⟩
    · rw [List.getElem?_set_ne (fun e => hii e.symm)] at ho
      have hne : b' ≠ b := by
        intro e; subst e
        exact hii ((List.getElem?_inj (List.getElem?_eq_some_iff.1 hb').1 hh.nodup).1 (hb'.trans hid.symm))
      exact (hh.obj id' o b' ho hb').of_vat (withObj_other hne) (fun m bm hbm => ⟨hbm, by
        by_cases e : bm = b
        · subst e; exact hmm
        · exact .of_eq (withObj_other e)⟩) (fun h => h.mono (WriteM.cov hF)) (fun h => WriteM.vat hF hO h)
  · obtain ⟨h1, h2, h3⟩ := hh.apart b' hb'
    exact ⟨h1, h2, by simpa [withObj] using h3⟩

omit [DS] in
/-- A text's iterator is moved on. -/
theorem WriteM.siter {b id : Nat} {o0 : Obj} {bs : ByteArray} {s : List UInt8} {pos : Nat} (hh : HRel w g h) (hid : g.ι[id]? = some b) (hb : w.heap[b]? = some o0) (hlt : id < h.length) (hs : bs.data.toList = s) (hno : ∀ ces clock, o0 ≠ .map ces clock) :
    HRel (withObj w b (.stringIter bs pos)) g (h.set id (.siter s pos)) := by
  obtain ⟨hF, hO, hbl⟩ := hh.apart b (List.mem_of_getElem? hid)
  refine ⟨by simpa using hh.len, hh.nodup, fun id' o b' ho hb' => ?_, fun b' hb' => ?_, fun b' hb' => hh.fresh b' (by simpa [withObj] using hb'), hh.glob.cov (WriteM.cov hF)⟩
  · by_cases hii : id' = id
    · subst hii
      rw [hid] at hb'; injection hb' with hb'; subst hb'
      rw [List.getElem?_set_self hlt] at ho
      injection ho with ho; subst ho
      exact ⟨bs, withObj_self hb, hs⟩
    · rw [List.getElem?_set_ne (fun e => hii e.symm)] at ho
      have hne : b' ≠ b := by
        intro e; subst e
        exact hii ((List.getElem?_inj (List.getElem?_eq_some_iff.1 hb').1 hh.nodup).1 (hb'.trans hid.symm))
      exact (hh.obj id' o b' ho hb').of_vat (withObj_other hne) (fun m bm hbm => ⟨hbm, .withObj hb hno⟩) (fun h => h.mono (WriteM.cov hF)) (fun h => WriteM.vat hF hO h)
  · obtain ⟨h1, h2, h3⟩ := hh.apart b' hb'
    exact ⟨h1, h2, by simpa [withObj] using h3⟩
omit [DS] in
theorem withObj_again {b : Nat} {o : Obj} (hb : w.heap[b]? = some o) : withObj w b o = w := by
  have h : (withObj w b o).heap = w.heap := by
    apply Array.ext_getElem?
    intro i
    by_cases hi : i = b
    · subst hi; rw [withObj_self hb, hb]
    · exact withObj_other hi
  cases w
  simp only [withObj] at h ⊢
  rw [h]
omit [DS] in
theorem keysOf_at : ∀ {es : List (V × V)} {ks : List (List UInt8)}, keysOf es = some ks → ks.length = es.length ∧ ∀ (j : Nat) (k : List UInt8), ks[j]? = some k → ∃ v, es[j]? = some (.str k, v)
  | [], ks, h => by
    simp only [keysOf, Option.some.injEq] at h
    subst h
    exact ⟨rfl, fun j k hk => by simp at hk⟩
  | (x, v) :: r, ks, h => by
    cases x <;> simp only [keysOf, reduceCtorEq] at h
    obtain ⟨ks', h1, rfl⟩ := Option.map_eq_some_iff.1 h
    obtain ⟨h2, h3⟩ := keysOf_at h1
    refine ⟨by simp [h2], fun j k hk => ?_⟩
    cases j with
    | zero => simp at hk; subst hk; exact ⟨v, rfl⟩
    | succ j => simp at hk; obtain ⟨v', h'⟩ := h3 j k hk; exact ⟨v', by simpa using h'⟩
theorem range_done (hty : ∀ t, TyOK P t (ty t)) {o : Oper} {t : Nat} {x : Operand} {xv v : V} {p : Prop} {env' : Env} {h' : H} (ho : o.op = .range t x)
    (hr : rangeOp ty t xv env h = .val p v env' h') (hx : VRel w g.F g.ι xv (a.eval x)) (hf : FRel d n a w g env) (hh : HRel w g h) : OpDone P d n o a w g v env' h' := by
  have hkt := (hty t).k
  unfold rangeOp at hr
  split at hr
  · rename_i s hk
    rw [hk] at hkt
    have hkt : P.underlying t = some .string := hkt
    simp only [Res.val.injEq] at hr
    obtain ⟨rfl, rfl, rfl, rfl⟩ := hr
    obtain ⟨bs, hbs, hsl⟩ := hx.str_inv
    have hg := Grow.alloc hh (.stringIter bs 0) 0
    refine ⟨.pointer (some ⟨w.heap.size, 0, none⟩), w.alloc (.stringIter bs 0), (g.cover w.heap.size 0).push w.heap.size, .inl (by simp [execOp, ho, Instr.range, hbs, underlying, hkt]), (hg.ext hh).push (Nat.le_refl _), (hg.hrel hh).push (by simp) (by simp [Gh.cover]) ?_ ?_ ?_, (hg.frel hh hf).push _ (by unfold Hid; rw [heap_alloc_new]; simp [hidO]), fun _ _ => .inl (.ref _ _ _ ?_)⟩
    · exact (hh.fresh w.heap.size (Nat.le_refl _)).2
    · intro hm
      have := (hh.apart _ hm).2.2
      omega
    · exact ⟨bs, heap_alloc_new w _, hsl⟩
    · show (g.ι ++ [w.heap.size])[h.length]? = some w.heap.size
      rw [← hh.len]; simp
  · rename_i kt et id hk
    rw [hk] at hkt
    have hkt : P.underlying t = some (.map kt et) := hkt
    split at hr
    · rename_i es hes
      split at hr
      · rename_i ks hks
        simp only [Res.val.injEq] at hr
        obtain ⟨rfl, rfl, rfl, rfl⟩ := hr
        obtain ⟨hkl, hka⟩ := keysOf_at hks
        generalize hxu : a.eval x = xu at hx
        cases hx with
        | map _ b hid =>
          obtain ⟨ces, clock, hb, hsz, hrel, huq, hcl⟩ := hh.obj id _ b hes hid
          have hg := Grow.alloc hh (.mapIter (some b) clock #[] clock) 0
          have hbl := (hh.apart b (List.mem_of_getElem? hid)).2.2
          refine ⟨.pointer (some ⟨w.heap.size, 0, none⟩), w.alloc (.mapIter (some b) clock #[] clock), (g.cover w.heap.size 0).push w.heap.size, .inl (by simp [execOp, ho, hxu, run_range_map w t kt et b ces clock hkt hb]), (hg.ext hh).push (Nat.le_refl _), (hg.hrel hh).push (by simp) (by simp [Gh.cover]) ?_ ?_ ?_, (hg.frel hh hf).push _ (by unfold Hid; rw [heap_alloc_new]; simp [hidO]), fun _ _ => .inl (.ref _ _ _ ?_)⟩
          · exact (hh.fresh w.heap.size (Nat.le_refl _)).2
          · intro hm
            have := (hh.apart _ hm).2.2
            omega
          · refine ⟨b, ?_, ces, clock, clock, #[], clock, List.range es.length, (heap_alloc_old w _ hbl).trans hb, heap_alloc_new w _, Nat.le_refl _, by omega, fun _ => rfl, fun i e _ he => hcl i e he, List.nodup_range, by simp [hkl], fun j i k hj hk => ?_, fun i e hi he => by simp [hi], fun k hk => by cases hk⟩
            · show (g.ι ++ [w.heap.size])[id]? = some b
              rw [List.getElem?_append_left (List.getElem?_eq_some_iff.1 hid).1]
              exact hid
            · obtain ⟨hjl, hje⟩ := List.getElem?_eq_some_iff.1 hj
              simp only [List.getElem_range] at hje
              subst hje
              simp only [List.length_range] at hjl
              obtain ⟨v1, hv1⟩ := hka j k hk
              have hlt : j < ces.size := by omega
              have := (hrel j _ v1 ces[j] hv1 (Array.getElem?_eq_getElem hlt)).1
              obtain ⟨bs, h1, h2⟩ := this.str_inv
              exact ⟨hjl, ces[j], Array.getElem?_eq_getElem hlt, bs, h1, h2⟩
          · show (g.ι ++ [w.heap.size])[h.length]? = some w.heap.size
            rw [← hh.len]; simp
      · cases hr
    · cases hr
  · cases hr
/-! ### A map's iterator -/
omit [DS] in
/-- A map's iterator is moved on. -/
theorem WriteM.miter {b id m nn bm : Nat} {o0 o1 : Obj} {left : List (List UInt8)} {last : Option (List UInt8)} (hh : HRel w g h) (hid : g.ι[id]? = some b) (hb : w.heap[b]? = some o0) (hlt : id < h.length) (hno : ∀ ces clock, o0 ≠ .map ces clock)
    (hm : g.ι[m]? = some bm) (hi : IRel (withObj w b o1) bm b nn left last) : HRel (withObj w b o1) g (h.set id (.miter m nn left last)) := by
  obtain ⟨hF, hO, hbl⟩ := hh.apart b (List.mem_of_getElem? hid)
  refine ⟨by simpa using hh.len, hh.nodup, fun id' o b' ho hb' => ?_, fun b' hb' => ?_, fun b' hb' => hh.fresh b' (by simpa [withObj] using hb'), hh.glob.cov (WriteM.cov hF)⟩
  · by_cases hii : id' = id
    · subst hii
      rw [hid] at hb'; injection hb' with hb'; subst hb'
      rw [List.getElem?_set_self hlt] at ho
      injection ho with ho; subst ho
      exact ⟨bm, hm, hi⟩
    · rw [List.getElem?_set_ne (fun e => hii e.symm)] at ho
      have hne : b' ≠ b := by
        intro e; subst e
        exact hii ((List.getElem?_inj (List.getElem?_eq_some_iff.1 hb').1 hh.nodup).1 (hb'.trans hid.symm))
      exact (hh.obj id' o b' ho hb').of_vat (withObj_other hne) (fun m bm hbm => ⟨hbm, .withObj hb hno⟩) (fun h => h.mono (WriteM.cov hF)) (fun h => WriteM.vat hF hO h)
  · obtain ⟨h1, h2, h3⟩ := hh.apart b' hb'
    exact ⟨h1, h2, by simpa [withObj] using h3⟩
omit [DS] in
/-- What is still to come, at the machine. -/
theorem IRel.left_of {bm b nn : Nat} {left : List (List UInt8)} {last : Option (List UInt8)} {ces : Array MapEntry} {clock since c0 : Nat} {seen : Array Nat} {idx : List Nat} (hsz : ces.size = nn)
    (h10 : ∀ (i : Nat) (e : MapEntry), i < nn → ces[i]? = some e → (i ∈ idx ↔ seen.contains e.born = false)) {e : MapEntry} (he : e ∈ (leftOf ces seen).toList) : ∃ i, i ∈ idx ∧ ces[i]? = some e := by
  unfold leftOf at he
  simp only [Array.toList_filter, List.mem_filter, Array.mem_toList_iff, Bool.not_eq_true'] at he
  obtain ⟨h1, h2⟩ := he
  obtain ⟨i, hi, rfl⟩ := Array.mem_iff_getElem.1 h1
  exact ⟨i, (h10 i _ (by omega) (Array.getElem?_eq_getElem hi)).2 h2, Array.getElem?_eq_getElem hi⟩
theorem nextM_val {o : Oper} {x : Operand} {xv v : V} {p : Prop} {env' : Env} {h' : H} (ho : o.op = .next x false)
    (hr : nextM xv env h = .val p v env' h') (hx : VRel w g.F g.ι xv (a.eval x)) (hf : FRel d n a w g env) (hh : HRel w g h) : OpDone P d n o a w g v env' h' := by
  unfold nextM at hr
  split at hr
  · rename_i id
    split at hr
    · rename_i m nn left last hs
      split at hr
      · rename_i es hes
        split at hr
        · rename_i hl
          split at hr
          · rename_i hnil
            subst hnil
            simp only [Res.val.injEq] at hr
            obtain ⟨rfl, rfl, rfl, rfl⟩ := hr
            generalize hxu : a.eval x = xu at hx
            cases hx with
            | ref _ _ b hid =>
              obtain ⟨bm, hm, ces, clock, since, seen, c0, idx, h1, h2, h3, h4, h5, h6, h7, h8, h9, h10, h11⟩ := hh.obj id _ b hs hid
              obtain ⟨ces', clock', hb', hsz, _⟩ := hh.obj m _ bm hes hm
              rw [h1] at hb'
              simp only [Option.some.injEq, Obj.map.injEq] at hb'
              obtain ⟨rfl, rfl⟩ := hb'
              have hsn : ces.size = nn := by omega
              have hidx : idx = [] := List.length_eq_zero_iff.1 (by simpa using h8)
              rcases run_next_at (P := P) w o.type b bm since c0 seen ces clock h2 h1 (fun x hx => by
                obtain ⟨i, hi, rfl⟩ := Array.mem_iff_getElem.1 (Array.mem_toList_iff.1 hx)
                exact h6 i _ (by omega) (Array.getElem?_eq_getElem hi)) h3 with ⟨_, hrun⟩ | ⟨e, he, _⟩
              · refine OpDone.pure hf hh (u := .tuple #[.bool false]) (by simp [execOp, ho, hxu, hrun]) (.tup _ _ (by simp) fun k c u hc hu => ?_)
                match k, hc, hu with
                | 0, hc, hu => simp at hc hu; subst hc; subst hu; exact .bool _
              · obtain ⟨i, hi, _⟩ := IRel.left_of (bm := bm) (b := b) (left := []) (last := last) (clock := clock) (since := since) (c0 := c0) hsn h10 he
                rw [hidx] at hi
                cases hi
          · cases hr
        · cases hr
      · cases hr
    · cases hr
  · cases hr
theorem nextM_each {o : Oper} {x : Operand} {xv : V} {f : Value → Res} (ho : o.op = .next x false)
    (hr : nextM xv env h = .each f) (hx : VRel w g.F g.ι xv (a.eval x)) (hf : FRel d n a w g env) (hh : HRel w g h) : ∃ u p v env' h', f u = .val p v env' h' ∧ (p → OpDone P d n o a w g v env' h') := by
  unfold nextM at hr
  split at hr
  · rename_i id
    split at hr
    · rename_i m nn left last hs
      split at hr
      · rename_i es hes
        split at hr
        · rename_i hl
          split at hr
          · cases hr
          · rename_i hne
            simp only [Res.each.injEq] at hr
            subst hr
            generalize hxu : a.eval x = xu at hx
            cases hx with
            | ref _ _ b hid =>
              obtain ⟨bm, hm, ces, clock, since, seen, c0, idx, h1, h2, h3, h4, h5, h6, h7, h8, h9, h10, h11⟩ := hh.obj id _ b hs hid
              obtain ⟨ces', clock', hb', hsz, _, huq, _⟩ := hh.obj m _ bm hes hm
              rw [h1] at hb'
              simp only [Option.some.injEq, Obj.map.injEq] at hb'
              obtain ⟨rfl, rfl⟩ := hb'
              have hsn : ces.size = nn := by omega
              obtain ⟨hF, hO, hbl⟩ := hh.apart b (List.mem_of_getElem? hid)
              have hlt : id < h.length := (List.getElem?_eq_some_iff.1 hs).1
              rcases run_next_at (P := P) w o.type b bm since c0 seen ces clock h2 h1 (fun x hx => by
                obtain ⟨i, hi, rfl⟩ := Array.mem_iff_getElem.1 (Array.mem_toList_iff.1 hx)
                exact h6 i _ (by omega) (Array.getElem?_eq_getElem hi)) h3 with ⟨h0, _⟩ | ⟨e, he, w1, hal, hrun⟩
              · exfalso
                have hpos : 0 < left.length := List.length_pos_iff.2 hne
                have hi0 : idx[0]? = some (idx[0]'(by omega)) := List.getElem?_eq_getElem _
                obtain ⟨hin, e, hei, _⟩ := h9 0 _ _ hi0 (List.getElem?_eq_getElem hpos)
                have hns := (h10 _ e hin hei).1 (List.getElem_mem _)
                have : e ∈ (leftOf ces seen).toList := by
                  unfold leftOf
                  simp only [Array.toList_filter, List.mem_filter, Array.mem_toList_iff, Bool.not_eq_true']
                  exact ⟨Array.mem_of_getElem? hei, hns⟩
                rw [Array.eq_empty_of_size_eq_zero h0] at this
                simp at this
              · obtain ⟨i, hi, hei⟩ := IRel.left_of (bm := bm) (b := b) (left := left) (last := last) (clock := clock) (since := since) (c0 := c0) hsn h10 he
                obtain ⟨j, hj⟩ := List.getElem?_of_mem hi
                have hjl : j < left.length := by rw [← h8]; exact (List.getElem?_eq_some_iff.1 hj).1
                obtain ⟨hin, e2, he2, s, hkey, hsk⟩ := h9 j i left[j] hj (List.getElem?_eq_getElem hjl)
                rw [hei] at he2
                obtain rfl := Option.some.inj he2
                have hpick : pickN left.length (.int .i64 (j : Int)) = j := by simp [pickN, Nat.mod_eq_of_lt hjl]
                have hgd : left.getD j [] = left[j] := by simp [List.getD, hjl]
                refine ⟨.int .i64 (j : Int), _, _, _, _, rfl, fun _ => ?_⟩
                rw [hpick, hgd]
                have hG : Grow w g w1 g := by
                  rcases hal with rfl | rfl
                  · exact ⟨rfl, rfl, rfl, Nat.le_refl _, fun _ _ => ⟨rfl, rfl, rfl⟩, rfl, hh.fresh⟩
                  · exact Grow.drew w g hh
                have hw : w1.heap = w.heap := by rcases hal with rfl | rfl <;> rfl
                have hb1 : w1.heap[b]? = some (.mapIter (some bm) since seen c0) := by rw [hw]; exact h2
                have hbne : bm ≠ b := by
                  intro q; subst q
                  rw [h1] at h2; cases h2
                refine ⟨.tuple #[.bool true, e.key, e.val], withObj w1 b (.mapIter (some bm) since (seen.push e.born) clock), g, .inl (by simp only [execOp, ho, hxu]; rw [Sem.run_bind, hrun]; rfl), (hG.ext hh).trans (WriteM.ext hF hid), WriteM.miter (hG.hrel hh) hid hb1 hlt (fun _ _ e => by cases e) hm ?_, WriteM.frel hF hO hid (hG.frel hh hf), fun _ _ => .inl (.tup _ _ (by simp) fun k c u hc hu => ?_)⟩
                · refine ⟨ces, clock, since, seen.push e.born, clock, idx.eraseIdx j, by rw [withObj_other hbne, hw]; exact h1, withObj_self hb1, by rw [h5 hsn]; exact h3, h4, fun _ => rfl, h6, h7.sublist (List.eraseIdx_sublist _ _), by rw [List.length_eraseIdx, List.length_eraseIdx, h8], fun j' i' k hj' hk' => ?_, fun i' e' hi' he' => ?_, fun k hk => ?_⟩
                  · rw [List.getElem?_eraseIdx] at hj' hk'
                    split at hj' <;> rename_i hc
                    · rw [if_pos hc] at hk'; exact h9 _ _ _ hj' hk'
                    · rw [if_neg hc] at hk'; exact h9 _ _ _ hj' hk'
                  · have hmem : i' ∈ idx.eraseIdx j ↔ i' ∈ idx ∧ i' ≠ i := by
                      rw [List.mem_eraseIdx_iff_getElem?]
                      constructor
                      · rintro ⟨q, hq, hqi⟩
                        refine ⟨List.mem_of_getElem? hqi, fun e => hq ?_⟩
                        subst e
                        exact (List.getElem?_inj (List.getElem?_eq_some_iff.1 hqi).1 h7).1 (hqi.trans hj.symm)
                      · rintro ⟨hq, hqi⟩
                        obtain ⟨q, hqq⟩ := List.getElem?_of_mem hq
                        refine ⟨q, fun e => hqi ?_, hqq⟩
                        subst e
                        rw [hj] at hqq
                        exact (Option.some.inj hqq).symm
                    have hbn : e'.born = e.born ↔ i' = i := ⟨fun q => huq i' i e' e he' hei q, fun q => by subst q; rw [hei] at he'; rw [Option.some.inj he']⟩
                    rw [hmem, h10 i' e' hi' he', Array.contains_push]
                    simp only [Bool.or_eq_false_iff, beq_eq_false_iff_ne, ne_eq]
                    rw [← hbn]
                  · obtain rfl := Option.some.inj hk
                    exact ⟨i, e, hin, hei, ⟨s, hkey, hsk⟩, seen, rfl⟩
                · match k, hc, hu with
                  | 0, hc, hu => simp at hc hu; subst hc; subst hu; exact .bool _
                  | 1, hc, hu => simp at hc hu; subst hc; subst hu; rw [hkey]; exact .str _ _ hsk
                  | 2, hc, hu => simp at hc hu; subst hc; subst hu; exact .top _
        · cases hr
      · cases hr
    · cases hr
  · cases hr
theorem entry_done {o : Oper} {x : Operand} {xv v : V} {p : Prop} {env' : Env} {h' : H} (ho : o.op = .entry x)
    (hr : entryOp xv env h = .val p v env' h') (hx : VRel w g.F g.ι xv (a.eval x)) (hf : FRel d n a w g env) (hh : HRel w g h) : OpDone P d n o a w g v env' h' := by
  unfold entryOp at hr
  split at hr
  · rename_i id
    split at hr
    · rename_i m nn left k hs
      split at hr
      · rename_i es hes
        split at hr
        · rename_i hl
          simp only [Res.val.injEq] at hr
          obtain ⟨rfl, rfl, rfl, rfl⟩ := hr
          generalize hxu : a.eval x = xu at hx
          cases hx with
          | ref _ _ b hid =>
            obtain ⟨bm, hm, ces, clock, since, seen, c0, idx, h1, h2, h3, h4, h5, h6, h7, h8, h9, h10, h11⟩ := hh.obj id _ b hs hid
            obtain ⟨ces', clock', hb', hsz, _, huq, _⟩ := hh.obj m _ bm hes hm
            rw [h1] at hb'
            simp only [Option.some.injEq, Obj.map.injEq] at hb'
            obtain ⟨rfl, rfl⟩ := hb'
            have hsn : ces.size = nn := by omega
            obtain ⟨i, e, hin, hei, ⟨s, hkey, hsk⟩, s0, rfl⟩ := h11 k rfl
            rw [← h5 hsn] at h2
            have hrun := run_entry_at (P := P) w b bm since s0 ces clock e h2 h1 (Array.mem_toList_iff.2 (Array.mem_of_getElem? hei)) (by
              unfold List.Nodup
              rw [List.pairwise_iff_getElem]
              intro p q hp hq hpq hpe
              simp only [List.length_map, Array.length_toList] at hp hq
              simp only [List.getElem_map, Array.getElem_toList] at hpe
              have := huq p q _ _ (Array.getElem?_eq_getElem hp) (Array.getElem?_eq_getElem hq) hpe
              omega)
            refine OpDone.pure hf hh (u := .tuple #[e.key, e.val]) (by simp only [execOp, ho, hxu]; rw [Sem.run_bind, hrun]; rfl) (.tup _ _ (by simp) fun k c u hc hu => ?_)
            match k, hc, hu with
            | 0, hc, hu => simp at hc hu; subst hc; subst hu; rw [hkey]; exact .str _ _ hsk
            | 1, hc, hu => simp at hc hu; subst hc; subst hu; exact .top _
        · cases hr
      · cases hr
    · cases hr
  · cases hr
theorem next_done {o : Oper} {x : Operand} {xv v : V} {p : Prop} {env' : Env} {h' : H} (ho : o.op = .next x true)
    (hr : nextOp xv env h = .val p v env' h') (hx : VRel w g.F g.ι xv (a.eval x)) (hf : FRel d n a w g env) (hh : HRel w g h) : OpDone P d n o a w g v env' h' := by
  unfold nextOp at hr
  split at hr
  · rename_i id
    split at hr
    · rename_i s pos hs
      simp only [Res.val.injEq] at hr
      obtain ⟨rfl, rfl, rfl, rfl⟩ := hr
      generalize hxu : a.eval x = xu at hx
      cases hx with
      | ref _ _ b hid =>
        obtain ⟨bs, hb, hsl⟩ := hh.obj id _ b hs hid
        obtain ⟨hF, hO, hbl⟩ := hh.apart b (List.mem_of_getElem? hid)
        have hlt : id < h.length := (List.getElem?_eq_some_iff.1 hs).1
        obtain ⟨⟨bl⟩⟩ := bs
        simp only [] at hsl
        subst hsl
        have hsz : (⟨⟨bl⟩⟩ : ByteArray).size = bl.length := by simp [ByteArray.size]
        by_cases hlt2 : pos < bl.length
        · have hT : nextT bl pos = .tup [.bool true, .int .i64 pos, .int .i32 (Utf8.decode ⟨bl.toArray⟩ pos).1] := by unfold nextT; rw [if_pos hlt2]
          have hP : nextP bl pos = pos + (Utf8.decode ⟨bl.toArray⟩ pos).2 := by unfold nextP; rw [if_pos hlt2]
          rw [hT, hP]
          refine ⟨.tuple #[.bool true, goInt pos, .int .i32 (Utf8.decode ⟨bl.toArray⟩ pos).1], withObj w b (.stringIter ⟨⟨bl⟩⟩ (pos + (Utf8.decode ⟨bl.toArray⟩ pos).2)), g, .inl ?_, WriteM.ext hF hid, WriteM.siter hh hid hb hlt rfl (fun _ _ e => by cases e), WriteM.frel hF hO hid hf, fun _ _ => .inl (.tup _ _ (by simp) fun k c u hc hu => ?_)⟩
          · simp [execOp, ho, hxu, Instr.next, getObj, setObj, Sem.run, hb, hsz, hlt2, withObj]
          · match k, hc, hu with
            | 0, hc, hu => simp at hc hu; subst hc; subst hu; exact .bool _
            | 1, hc, hu => simp at hc hu; subst hc; subst hu; exact .int _ _
            | 2, hc, hu => simp at hc hu; subst hc; subst hu; exact .int _ _
        · have hT : nextT bl pos = .tup [.bool false] := by unfold nextT; rw [if_neg hlt2]
          have hP : nextP bl pos = pos := by unfold nextP; rw [if_neg hlt2]
          have hset : h.set id (.siter bl pos) = h := by
            apply List.ext_getElem?
            intro i
            by_cases hi : i = id
            · subst hi; rw [List.getElem?_set_self hlt, hs]
            · rw [List.getElem?_set_ne (fun e => hi e.symm)]
          rw [hT, hP, hset]
          refine OpDone.pure hf hh (u := .tuple #[.bool false]) ?_ (.tup _ _ (by simp) fun k c u hc hu => ?_)
          · simp [execOp, ho, hxu, Instr.next, getObj, setObj, Sem.run, hb, hsz, hlt2, withObj]
          · match k, hc, hu with
            | 0, hc, hu => simp at hc hu; subst hc; subst hu; exact .bool _
    · cases hr
  · cases hr
theorem update_done (hty : ∀ t, TyOK P t (ty t)) {o : Oper} {t : Nat} {xm xk xv : Operand} {m k v0 v : V} {p : Prop} {env' : Env} {h' : H} (ho : o.op = .mapUpdate t xm xk xv ∨ o.op = .insert t xm xk xv)
    (hr : update ty t m k v0 env h = .val p v env' h') (hp : p) (hm : VRel w g.F g.ι m (a.eval xm)) (hk : VRel w g.F g.ι k (a.eval xk)) (hv : VRel w g.F g.ι v0 (a.eval xv)) (hf : FRel d n a w g env) (hh : HRel w g h) : OpDone P d n o a w g v env' h' := by
  have hkt := (hty t).k
  unfold update at hr
  split at hr
  · rename_i kt et id s hk1
    rw [hk1] at hkt
    split at hr
    · rename_i es hes
      simp only [Res.val.injEq] at hr
      obtain ⟨rfl, rfl, rfl, rfl⟩ := hr
      obtain ⟨hks, htk⟩ := hp
      have hkk := (hty kt).k
      rw [hks] at hkk
      generalize hmu : a.eval xm = mu at hm
      generalize hku : a.eval xk = ku at hk
      cases hm with
      | map _ b hid =>
        cases hk with
        | str key _ hkey =>
          obtain ⟨ces, clock, hb, hsz, hrel, huq, hcl⟩ := hh.obj id _ b hes hid
          obtain ⟨hF, hO, hbl⟩ := hh.apart b (List.mem_of_getElem? hid)
          obtain ⟨ces', clock', hrun, hcase⟩ := update_run (g := g) hkt hkk hb hsz hrel htk hkey (a.eval xv)
          have hlt : id < h.length := (List.getElem?_eq_some_iff.1 hes).1
          refine ⟨undef, withObj w b (.map ces' clock'), g, .inr ⟨?_, rfl⟩, WriteM.ext hF hid, ?_, WriteM.frel hF hO hid hf, fun _ _ => .inl (.top _)⟩
          · rcases ho with ho | ho <;> simp [execOp, ho, hmu, hku, hrun, withObj]
          · have hkr : VRel w g.F g.ι (.str s) (.string key) := .str key _ hkey
            rcases hcase with ⟨i, hi, rfl, rfl, hkold⟩ | ⟨hi, rfl, rfl⟩
            · have hil := mapIx_lt hi
              have hms : mapSet s v0 es = es.set i (.str s, v0) := by simp [mapSet, hi]
              have hget : ∀ (j : Nat) (e : MapEntry), (ces.modify i fun e => { e with key := .string key, val := a.eval xv })[j]? = some e → ∃ e0, ces[j]? = some e0 ∧ e.born = e0.born ∧ ((j = i ∧ e.key = .string key ∧ e.val = a.eval xv) ∨ (j ≠ i ∧ e = e0)) := by
                intro j e he
                rw [Array.getElem?_modify] at he
                split at he
                · rename_i hij
                  obtain ⟨e0, h0, rfl⟩ := Option.map_eq_some_iff.1 he
                  exact ⟨e0, h0, rfl, .inl ⟨hij.symm, rfl, rfl⟩⟩
                · rename_i hij
                  exact ⟨e, he, rfl, .inr ⟨fun q => hij q.symm, rfl⟩⟩
              rw [hms]
              refine WriteM.hrel hh hid hb hlt (by simpa using hsz) (fun j k' v' e hj he => ?_) (fun j j' e e' he he' hbn => ?_) (fun j e he => ?_) (.modify hb hkold)
              · obtain ⟨e0, h0, _, ⟨rfl, h2, h3⟩ | ⟨h2, rfl⟩⟩ := hget j e he
                · rw [List.getElem?_set_self hil] at hj
                  simp only [Option.some.injEq, Prod.mk.injEq] at hj
                  obtain ⟨rfl, rfl⟩ := hj
                  rw [h2, h3]
                  exact ⟨hkr, hv⟩
                · rw [List.getElem?_set_ne (fun q => h2 q.symm)] at hj
                  exact hrel j k' v' e hj h0
              · obtain ⟨e0, h0, hb0, _⟩ := hget j e he
                obtain ⟨e1, h1, hb1, _⟩ := hget j' e' he'
                exact huq j j' e0 e1 h0 h1 (by rw [← hb0, ← hb1, hbn])
              · obtain ⟨e0, h0, hb0, _⟩ := hget j e he
                rw [hb0]; exact hcl j e0 h0
            · have hms : mapSet s v0 es = es ++ [(.str s, v0)] := by simp [mapSet, hi]
              have hget : ∀ (j : Nat) (e : MapEntry), (ces.push { key := .string key, val := a.eval xv, born := clock })[j]? = some e → (j = ces.size ∧ e = { key := .string key, val := a.eval xv, born := clock }) ∨ (j < ces.size ∧ ces[j]? = some e) := by
                intro j e he
                rw [Array.getElem?_push] at he
                split at he
                · rename_i hj
                  injection he with he
                  exact .inl ⟨hj, he.symm⟩
                · exact .inr ⟨(Array.getElem?_eq_some_iff.1 he).1, he⟩
              rw [hms]
              refine WriteM.hrel hh hid hb hlt (by simp [hsz]) (fun j k' v' e hj he => ?_) (fun j j' e e' he he' hbn => ?_) (fun j e he => ?_) (.push hb)
              · rcases hget j e he with ⟨h1, rfl⟩ | ⟨h1, h2⟩
                · rw [h1, hsz, List.getElem?_append_right (by omega)] at hj
                  simp at hj
                  obtain ⟨rfl, rfl⟩ := hj
                  exact ⟨hkr, hv⟩
                · rw [List.getElem?_append_left (by omega)] at hj
                  exact hrel j k' v' e hj h2
              · rcases hget j e he with ⟨h1, rfl⟩ | ⟨h1, h2⟩ <;> rcases hget j' e' he' with ⟨h3, rfl⟩ | ⟨h3, h4⟩
                · omega
                · have := hcl j' e' h4; simp at hbn; omega
                · have := hcl j e h2; simp at hbn; omega
                · exact huq j j' e e' h2 h4 hbn
              · rcases hget j e he with ⟨h1, rfl⟩ | ⟨h1, h2⟩
                · simp
                · have := hcl j e h2; omega
    · cases hr
  · cases hr
end
end Go.Proofs.YtmjohmefhikelaaDoor.Pv
