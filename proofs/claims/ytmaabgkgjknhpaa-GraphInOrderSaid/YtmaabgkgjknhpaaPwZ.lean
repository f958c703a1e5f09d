/- Maps whose keys are texts, at the machine: what is looked up, what is put. (Not yet in 'aop'.) -/
import Derived.Test.YtmaabgkgjknhpaaPwL
import Derived.MapKept
set_option linter.unusedVariables false
set_option linter.unusedSimpArgs false
namespace Go.Proofs.Ytmaabgkgjknhpaa.Pv
open Go Go.Proofs
variable [DS]

section
variable {P : Program} {w : World} {F : Nat → Nat} {ι : List Nat} {s : List UInt8}

omit [DS] in
theorem mapIx_lt : ∀ {es : List (V × V)} {i : Nat}, mapIx s es = some i → i < es.length
  | (k, v) :: r, i, h => by
    unfold mapIx at h
    split at h
    · injection h with h; subst h; simp
    · obtain ⟨j, hj, rfl⟩ := Option.map_eq_some_iff.1 h
      have := mapIx_lt hj
      simp; omega
omit [DS] in
theorem mapIx_at : ∀ {es : List (V × V)} {i : Nat}, mapIx s es = some i → ∃ v, es[i]? = some (.str s, v)
  | (k, v) :: r, i, h => by
    unfold mapIx at h
    split at h
    · rename_i hk
      injection h with h; subst h
      cases k <;> simp [textKey] at hk
      subst hk
      exact ⟨v, rfl⟩
    · obtain ⟨j, hj, rfl⟩ := Option.map_eq_some_iff.1 h
      obtain ⟨v', h'⟩ := mapIx_at hj
      exact ⟨v', by simpa using h'⟩
omit [DS] in
theorem find_text {key : ByteArray} (hkey : key.data.toList = s) : ∀ (es : List (V × V)) (ces : List MapEntry) (i : Nat), textKeys es = true → ces.length = es.length →
    (∀ (j : Nat) (k v : V) (e : MapEntry), es[j]? = some (k, v) → ces[j]? = some e → VRel w F ι k e.key) →
    Instr.findNow .string (.string key) ces i = some ((mapIx s es).bind fun j => ces[j]?.map fun e => (i + j, e.val))
  | [], [], i, _, _, _ => rfl
  | (k, v) :: es, e :: ces, i, hk, hl, hr => by
    simp only [textKeys, List.all_cons, Bool.and_eq_true] at hk
    obtain ⟨hk1, hk2⟩ := hk
    have h0 := hr 0 k v e rfl rfl
    have ih := find_text hkey es ces (i + 1) hk2 (by simpa using hl) fun j k v e hj he => hr (j + 1) k v e (by simpa using hj) (by simpa using he)
    cases k with
    | str s0 =>
      generalize hu : e.key = u at h0
      cases h0
      rename_i bs hbs
      have hsame : Instr.sameNow .string (.string key) e.key = some (key == bs) := by rw [hu]; simp [Instr.sameNow]
      unfold mapIx
      simp only [textKey, Option.some.injEq]
      by_cases hs : s0 = s
      · have hkb : key = bs := by
          apply ByteArray.ext
          apply Array.toList_inj.1
          rw [hkey, ← hs, ← hbs]
        have : (key == bs) = true := (MapKept.bytes_beq _ _).2 hkb
        rw [if_pos hs]
        simp [Instr.findNow, hsame, this]
      · have : (key == bs) = false := by
          cases hq : (key == bs) with
          | false => rfl
          | true =>
            exfalso; apply hs
            have := (MapKept.bytes_beq _ _).1 hq
            rw [← hkey, this, ← hbs]
        rw [if_neg hs]
        simp only [Instr.findNow, hsame, this, ih]
        cases mapIx s es with
        | none => rfl
        | some j => simp; congr 1; funext x; congr 1; omega
    | _ => simp [textKey] at hk1
  | [], _ :: _, _, _, hl, _ => by simp at hl
  | _ :: _, [], _, _, hl, _ => by simp at hl

variable {g : Gh} {t kt et : TypeId} {id b : Nat} {es : List (V × V)}

omit [DS] in
/-- What is looked up. -/
theorem lookup_run (ht : P.underlying t = some (.map kt et)) (hkt : P.underlying kt = some .string) {z : Value} (hz : (zeroValue et).run P w = .ok z w) (hm : ORel w g id (.map es) b) (htk : textKeys es = true)
    {key : ByteArray} (hkey : key.data.toList = s) (c : Bool) :
    (mapGet s es = none ∧ (Instr.lookup t (.map (some b)) (.string key) c).run P w = .ok (if c then .tuple #[z, .bool false] else z) w) ∨
    ∃ v u, mapGet s es = some v ∧ VRel w g.F g.ι v u ∧ (Instr.lookup t (.map (some b)) (.string key) c).run P w = .ok (if c then .tuple #[u, .bool true] else u) w := by
  obtain ⟨ces, clock, hb, hsz, hrel, -, -⟩ := hm
  have hfind := find_text (w := w) (F := g.F) (ι := g.ι) hkey es ces.toList 0 htk (by simpa using hsz) fun j k v e hj he => (hrel j k v e hj (by simpa using he)).1
  have hck : ∀ q : Bool, (Instr.checkKey q 10000 kt (.string key)).run P w = .ok () w := fun q => MapKept.run_checkKey (k := .string key) hkt (by simp [MapKept.IsKey]) q 9999
  cases hi : mapIx s es with
  | none =>
    rw [hi] at hfind
    left
    refine ⟨by simp [mapGet, hi], ?_⟩
    simp [Instr.lookup, run_underlying ht, MapKept.run_getObj_map hb, hck, MapKept.run_findKey hkt hfind, hz, Result.andThen]
  | some i =>
    have hil := mapIx_lt hi
    have hic : i < ces.size := by omega
    rw [hi] at hfind
    have hci : ces.toList[i]? = some ces[i] := by simp [hic]
    simp only [Option.bind_some, hci, Option.map_some] at hfind
    right
    have hr := hrel i es[i].1 es[i].2 ces[i] (by simp [hil]) (by simp [hic])
    refine ⟨es[i].2, ces[i].val, by simp [mapGet, hi, hil], hr.2, ?_⟩
    simp [Instr.lookup, run_underlying ht, MapKept.run_getObj_map hb, hck, MapKept.run_findKey hkt hfind, Result.andThen]
omit [DS] in
theorem lookup_nil (ht : P.underlying t = some (.map kt et)) (hkt : P.underlying kt = some .string) {z : Value} (hz : (zeroValue et).run P w = .ok z w) {key : ByteArray} (c : Bool) :
    (Instr.lookup t (.map none) (.string key) c).run P w = .ok (if c then .tuple #[z, .bool false] else z) w := by
  have hck : ∀ q : Bool, (Instr.checkKey q 10000 kt (.string key)).run P w = .ok () w := fun q => MapKept.run_checkKey (k := .string key) hkt (by simp [MapKept.IsKey]) q 9999
  have hfind : Instr.findNow .string (.string key) ([] : List MapEntry) 0 = some none := rfl
  simp [Instr.lookup, run_underlying ht, hck, MapKept.run_findKey hkt hfind, hz, Result.andThen]
omit [DS] in
theorem slz1_rel {F : Nat → Nat} {ι : List Nat} {v : V} {u : Value} (h : VRel w F ι v u) : VRel w F ι v.slz1 u := by
  cases v <;> first | exact h | (cases h; exact .sl0 _ _ _)
omit [DS] in
theorem slz_rel {F : Nat → Nat} {ι : List Nat} {v : V} {u : Value} (h : VRel w F ι v u) : VRel w F ι v.slz u := by
  cases v
  case agg cs =>
    cases h with
    | agg _ ca hl hr =>
      refine .agg _ ca (by simpa using hl) fun k c u hc hu => ?_
      rw [List.getElem?_map] at hc
      obtain ⟨x, hx, rfl⟩ := Option.map_eq_some_iff.1 hc
      exact slz1_rel (hr k x u hx hu)
  all_goals exact slz1_rel h
omit [DS] in
theorem lookV_rel {ty : Nat → Ty} {F : Nat → Nat} {ι : List Nat} {et : Nat} {c : Bool} {o : Option V} {u : Value} (hv : VRel w F ι (o.getD ((ty et).val (ty et).zero).slz) u) : VRel w F ι (lookV c (ty et) o) (if c = true then .tuple #[u, .bool o.isSome] else u) := by
  unfold lookV
  cases c with
  | false => exact hv
  | true =>
    refine .tup _ _ (by simp) fun k x y hx hy => ?_
    match k with
    | 0 => simp at hx hy; subst hx; subst hy; exact hv
    | 1 => simp at hx hy; subst hx; subst hy; exact .bool _
    | k + 2 => simp at hx
omit [DS] in
theorem zero_val {ty : Nat → Ty} (hty : ∀ t, TyOK P t (ty t)) {F : Nat → Nat} {ι : List Nat} {et : Nat} (h : 0 < (ty et).size) : ∃ z, (∀ w, (zeroValue et).run P w = .ok z w) ∧ VRel w F ι ((ty et).val (ty et).zero) z := by
  obtain ⟨i, z, hi, _, _, hz, hzm, hlen, hagg⟩ := TyOK.get hty h
  refine ⟨z, fun w => by simp [zeroValue, typeInfo, hi, hz], ?_⟩
  have := val_rel (ty := ty) (w := w) (g := ⟨F, ι, fun _ => none⟩) (zms_rel hzm) hlen h
  cases z with
  | agg us => rw [← hagg] at this; simpa [Value.cells] using this
  | _ => rw [← hagg] at this; simpa [Value.cells] using this
omit [DS] in
theorem lookup_done {ty : Nat → Ty} (hty : ∀ t, TyOK P t (ty t)) {h : H} (hh : HRel w g h) {t : Nat} {c : Bool} {m k : V} {mu ku : Value} {p : Prop} {v : V} (hr : lookup ty t c m k h = .ok p v) (hp : p) (hm : VRel w g.F g.ι m mu) (hk : VRel w g.F g.ι k ku) :
    ∃ u, (Instr.lookup t mu ku c).run P w = .ok u w ∧ VRel w g.F g.ι v u := by
  have hkt := (hty t).k
  unfold lookup at hr
  split at hr
  · rename_i kt et id s hk1
    rw [hk1] at hkt
    split at hr
    · rename_i es hes
      simp only [R1.ok.injEq] at hr
      obtain ⟨rfl, rfl⟩ := hr
      obtain ⟨hks, htk, hpos⟩ := hp
      cases hm with
      | map _ b hid =>
        cases hk with
        | str key _ hkey =>
          have hkk := (hty kt).k
          rw [hks] at hkk
          obtain ⟨z, hz, hzr⟩ := zero_val (w := w) hty (F := g.F) (ι := g.ι) hpos
          rcases lookup_run (g := g) (id := id) hkt hkk (hz w) (hh.obj id _ b hes hid) htk hkey c with ⟨h1, h2⟩ | ⟨v, u, h1, h2, h3⟩
          · exact ⟨_, h2, by rw [h1]; exact lookV_rel (o := none) (slz_rel hzr)⟩
          · exact ⟨_, h3, by rw [h1]; exact lookV_rel (o := some v) h2⟩
    · cases hr
  · rename_i kt et s hk1
    rw [hk1] at hkt
    simp only [R1.ok.injEq] at hr
    obtain ⟨rfl, rfl⟩ := hr
    obtain ⟨hks, hpos⟩ := hp
    cases hm
    cases hk with
    | str key _ hkey =>
      have hkk := (hty kt).k
      rw [hks] at hkk
      obtain ⟨z, hz, hzr⟩ := zero_val (w := w) hty (F := g.F) (ι := g.ι) hpos
      exact ⟨_, lookup_nil hkt hkk (hz w) c, lookV_rel (o := none) (slz_rel hzr)⟩
  · cases hr
omit [DS] in
/-- What is put: the entries, one by one, are as they were, but for the key's. -/
theorem update_run (ht : P.underlying t = some (.map kt et)) (hkt : P.underlying kt = some .string) {ces : Array MapEntry} {clock : Nat} (hb : w.heap[b]? = some (.map ces clock)) (hsz : ces.size = es.length)
    (hrel : ∀ (j : Nat) (k v : V) (e : MapEntry), es[j]? = some (k, v) → ces[j]? = some e → VRel w g.F g.ι k e.key ∧ VRel w g.F g.ι v e.val) (htk : textKeys es = true) {key : ByteArray} (hkey : key.data.toList = s) (u : Value) :
    ∃ (ces' : Array MapEntry) (clock' : Nat), (Instr.mapUpdate t (.map (some b)) (.string key) u).run P w = .ok () { w with heap := w.heap.setIfInBounds b (.map ces' clock') } ∧
      ((∃ i, mapIx s es = some i ∧ clock' = clock ∧ ces' = ces.modify i fun e => { e with key := .string key, val := u }) ∨
       (mapIx s es = none ∧ clock' = clock + 1 ∧ ces' = ces.push { key := .string key, val := u, born := clock })) := by
  have hfind := find_text (w := w) (F := g.F) (ι := g.ι) hkey es ces.toList 0 htk (by simpa using hsz) fun j k v e hj he => (hrel j k v e hj (by simpa using he)).1
  have hck : (Instr.checkKey false 10000 kt (.string key)).run P w = .ok () w := MapKept.run_checkKey (k := .string key) hkt (by simp [MapKept.IsKey]) false 9999
  cases hi : mapIx s es with
  | none =>
    rw [hi] at hfind
    refine ⟨_, _, ?_, .inr ⟨rfl, rfl, rfl⟩⟩
    simp [Instr.mapUpdate, run_underlying ht, MapKept.run_getObj_map hb, hck, MapKept.run_findKey hkt hfind, MapKept.run_setObj_map _ hb, Result.andThen]
  | some i =>
    have hil := mapIx_lt hi
    have hic : i < ces.size := by omega
    rw [hi] at hfind
    have hci : ces.toList[i]? = some ces[i] := by simp [hic]
    simp only [Option.bind_some, hci, Option.map_some] at hfind
    have hold : ces[i].key = .string key := by
      obtain ⟨v0, hv0⟩ := mapIx_at hi
      have h0 := (hrel i _ v0 ces[i] hv0 (by simp [hic])).1
      generalize hq : ces[i].key = q at h0
      cases h0
      rename_i bs hbs
      congr 1
      apply ByteArray.ext
      apply Array.toList_inj.1
      rw [hkey, ← hbs]
    refine ⟨_, _, ?_, .inl ⟨i, rfl, rfl, rfl⟩⟩
    have hst : (Instr.keyThatStays (.string key) (.string key)).run P w = .ok (.string key) w := MapKept.run_keyThatStays (d := .string) (by simp [MapKept.IsKey])
    simp [Instr.mapUpdate, run_underlying ht, MapKept.run_getObj_map hb, hck, MapKept.run_findKey hkt hfind, MapKept.run_setObj_map _ hb, Result.andThen, hic, hold, hst]
end
/-! ### A map that is put anew -/
def withObj (w : World) (b : Nat) (o : Obj) : World := { w with heap := w.heap.setIfInBounds b o }
section
variable {P : Program} {ty : Nat → Ty} {d n : Nat} {a : Act} {w : World} {g : Gh} {env : Env} {h : H}
omit [DS] in
theorem withObj_other {b b' : Nat} {o : Obj} (hne : b' ≠ b) : (withObj w b o).heap[b']? = w.heap[b']? := by
  simp [withObj, Array.getElem?_setIfInBounds, Ne.symm hne]
omit [DS] in
theorem withObj_self {b : Nat} {o o0 : Obj} (hb : w.heap[b]? = some o0) : (withObj w b o).heap[b]? = some o := by
  have hlt : b < w.heap.size := (Array.getElem?_eq_some_iff.1 hb).1
  simp [withObj, hlt]
omit [DS] in
theorem WriteM.cov {b : Nat} {o : Obj} (hF : g.F b = 0) : Cov w g.F g.ι (withObj w b o) g.F g.ι :=
  ⟨fun b' off hlt => by
    have : b' ≠ b := fun e => by subst e; omega
    exact World.cell?_of_block (withObj_other this), fun _ => Nat.le_refl _, fun _ _ h => h⟩
omit [DS] in
theorem WriteM.vat {b : Nat} {o : Obj} (hF : g.F b = 0) (hO : g.O b = none) {p : Place} {v : V} {u : Value} (hv : VAt w g p v u) : VAt (withObj w b o) g p v u := by
  rcases hv with hv | ⟨pr, e, sz, xs, b', off, cap, cur, vals, rfl, rfl, hb, hcap, hmx, hcs, htk, hvl, hsz, hw, h1, hr, hFb, hOb, htag⟩
  · exact .inl (hv.mono (WriteM.cov hF))
  · have hne : b' ≠ b := fun e => by subst e; rw [hO] at hOb; cases hOb
    exact .inr ⟨pr, e, sz, xs, b', off, cap, cur, vals, rfl, rfl, by rw [withObj_other hne]; exact hb, hcap, hmx, hcs, htk, hvl, hsz, hw, h1, hr.mono (WriteM.cov hF), hFb, hOb, htag⟩
omit [DS] in
theorem WriteM.ext {b id : Nat} {o : Obj} (hF : g.F b = 0) (hid : g.ι[id]? = some b) : Ext d w g (withObj w b o) g :=
  ⟨rfl, rfl, rfl, by simp [withObj], WriteM.cov hF, fun _ h => .inl h, fun b' hlt hι _ _ => ⟨withObj_other (fun e => hι (e ▸ List.mem_of_getElem? hid)), rfl, rfl⟩⟩
theorem WriteM.frel {b : Nat} {o : Obj} (hF : g.F b = 0) (hO : g.O b = none) (hf : FRel d n a w g env) : FRel d n a (withObj w b o) g env := ⟨hf.size, fun i => WriteM.vat hF hO (hf.slot i), hf.defers⟩
omit [DS] in
theorem WriteM.hrel {b id : Nat} {ces : Array MapEntry} {clock : Nat} {o0 : Obj} {es : List (V × V)} (hh : HRel w g h) (hid : g.ι[id]? = some b) (hb : w.heap[b]? = some o0) (hlt : id < h.length) (hl : ces.size = es.length)
    (hv : ∀ (j : Nat) (k v : V) (e : MapEntry), es[j]? = some (k, v) → ces[j]? = some e → VRel w g.F g.ι k e.key ∧ VRel w g.F g.ι v e.val)
    (hu : ∀ (i j : Nat) (e e' : MapEntry), ces[i]? = some e → ces[j]? = some e' → e.born = e'.born → i = j) (hc : ∀ (j : Nat) (e : MapEntry), ces[j]? = some e → e.born < clock) :
    HRel (withObj w b (.map ces clock)) g (h.set id (.map es)) := by
  obtain ⟨hF, hO, hbl⟩ := hh.apart b (List.mem_of_getElem? hid)
  refine ⟨by simpa using hh.len, hh.nodup, fun id' o b' ho hb' => ?_, fun b' hb' => ?_, fun b' hb' => hh.fresh b' (by simpa [withObj] using hb'), hh.glob.cov (WriteM.cov hF)⟩
  · by_cases hii : id' = id
    · subst hii
      rw [hid] at hb'; injection hb' with hb'; subst hb'
      rw [List.getElem?_set_self hlt] at ho
      injection ho with ho; subst ho
      exact ⟨ces, clock, withObj_self hb, hl, fun j k v e h1 h2 => ⟨(hv j k v e h1 h2).1.mono (WriteM.cov hF), (hv j k v e h1 h2).2.mono (WriteM.cov hF)⟩, hu, hc⟩
    · rw [List.getElem?_set_ne (fun e => hii e.symm)] at ho
      have hne : b' ≠ b := by
        intro e; subst e
        exact hii ((List.getElem?_inj (List.getElem?_eq_some_iff.1 hb').1 hh.nodup).1 (hb'.trans hid.symm))
      exact (hh.obj id' o b' ho hb').of_vat (withObj_other hne) (fun h => h.mono (WriteM.cov hF)) (fun h => WriteM.vat hF hO h)
  · obtain ⟨h1, h2, h3⟩ := hh.apart b' hb'
    exact ⟨h1, h2, by simpa [withObj] using h3⟩

omit [DS] in
/-- A text's iterator is moved on. -/
theorem WriteM.siter {b id : Nat} {o0 : Obj} {bs : ByteArray} {s : List UInt8} {pos : Nat} (hh : HRel w g h) (hid : g.ι[id]? = some b) (hb : w.heap[b]? = some o0) (hlt : id < h.length) (hs : bs.data.toList = s) :
    HRel (withObj w b (.stringIter bs pos)) g (h.set id (.siter s pos)) := by
  obtain ⟨hF, hO, hbl⟩ := hh.apart b (List.mem_of_getElem? hid)
  refine ⟨by simpa using hh.len, hh.nodup, fun id' o b' ho hb' => ?_, fun b' hb' => ?_, fun b' hb' => hh.fresh b' (by simpa [withObj] using hb'), hh.glob.cov (WriteM.cov hF)⟩
  · by_cases hii : id' = id
    · subst hii
      rw [hid] at hb'; injection hb' with hb'; subst hb'
      rw [List.getElem?_set_self hlt] at ho
      injection ho with ho; subst ho
      exact ⟨bs, withObj_self hb, hs⟩
    · rw [List.getElem?_set_ne (fun e => hii e.symm)] at ho
      have hne : b' ≠ b := by
        intro e; subst e
        exact hii ((List.getElem?_inj (List.getElem?_eq_some_iff.1 hb').1 hh.nodup).1 (hb'.trans hid.symm))
      exact (hh.obj id' o b' ho hb').of_vat (withObj_other hne) (fun h => h.mono (WriteM.cov hF)) (fun h => WriteM.vat hF hO h)
  · obtain ⟨h1, h2, h3⟩ := hh.apart b' hb'
    exact ⟨h1, h2, by simpa [withObj] using h3⟩
omit [DS] in
theorem withObj_again {b : Nat} {o : Obj} (hb : w.heap[b]? = some o) : withObj w b o = w := by
  have h : (withObj w b o).heap = w.heap := by
    apply Array.ext_getElem?
    intro i
    by_cases hi : i = b
    · subst hi; rw [withObj_self hb, hb]
    · exact withObj_other hi
  cases w
  simp only [withObj] at h ⊢
  rw [h]
theorem range_done (hty : ∀ t, TyOK P t (ty t)) {o : Oper} {t : Nat} {x : Operand} {xv v : V} {p : Prop} {env' : Env} {h' : H} (ho : o.op = .range t x)
    (hr : rangeOp ty t xv env h = .val p v env' h') (hx : VRel w g.F g.ι xv (a.eval x)) (hf : FRel d n a w g env) (hh : HRel w g h) : OpDone P d n o a w g v env' h' := by
  have hkt := (hty t).k
  unfold rangeOp at hr
  split at hr
  · rename_i s hk
    rw [hk] at hkt
    have hkt : P.underlying t = some .string := hkt
    simp only [Res.val.injEq] at hr
    obtain ⟨rfl, rfl, rfl, rfl⟩ := hr
    obtain ⟨bs, hbs, hsl⟩ := hx.str_inv
    have hg := Grow.alloc hh (.stringIter bs 0) 0
    refine ⟨.pointer (some ⟨w.heap.size, 0, none⟩), w.alloc (.stringIter bs 0), (g.cover w.heap.size 0).push w.heap.size, .inl (by simp [execOp, ho, Instr.range, hbs, underlying, hkt]), (hg.ext hh).push (Nat.le_refl _), (hg.hrel hh).push (by simp) (by simp [Gh.cover]) ?_ ?_ ?_, (hg.frel hh hf).push _, fun _ _ => .inl (.ref _ _ _ ?_)⟩
    · exact (hh.fresh w.heap.size (Nat.le_refl _)).2
    · intro hm
      have := (hh.apart _ hm).2.2
      omega
    · exact ⟨bs, heap_alloc_new w _, hsl⟩
    · show (g.ι ++ [w.heap.size])[h.length]? = some w.heap.size
      rw [← hh.len]; simp
  · cases hr
theorem next_done {o : Oper} {x : Operand} {xv v : V} {p : Prop} {env' : Env} {h' : H} (ho : o.op = .next x true)
    (hr : nextOp xv env h = .val p v env' h') (hx : VRel w g.F g.ι xv (a.eval x)) (hf : FRel d n a w g env) (hh : HRel w g h) : OpDone P d n o a w g v env' h' := by
  unfold nextOp at hr
  split at hr
  · rename_i id
    split at hr
    · rename_i s pos hs
      simp only [Res.val.injEq] at hr
      obtain ⟨rfl, rfl, rfl, rfl⟩ := hr
      generalize hxu : a.eval x = xu at hx
      cases hx with
      | ref _ _ b hid =>
        obtain ⟨bs, hb, hsl⟩ := hh.obj id _ b hs hid
        obtain ⟨hF, hO, hbl⟩ := hh.apart b (List.mem_of_getElem? hid)
        have hlt : id < h.length := (List.getElem?_eq_some_iff.1 hs).1
        obtain ⟨⟨bl⟩⟩ := bs
        simp only [] at hsl
        subst hsl
        have hsz : (⟨⟨bl⟩⟩ : ByteArray).size = bl.length := by simp [ByteArray.size]
        by_cases hlt2 : pos < bl.length
        · have hT : nextT bl pos = .tup [.bool true, .int .i64 pos, .int .i32 (Utf8.decode ⟨bl.toArray⟩ pos).1] := by unfold nextT; rw [if_pos hlt2]
          have hP : nextP bl pos = pos + (Utf8.decode ⟨bl.toArray⟩ pos).2 := by unfold nextP; rw [if_pos hlt2]
          rw [hT, hP]
          refine ⟨.tuple #[.bool true, goInt pos, .int .i32 (Utf8.decode ⟨bl.toArray⟩ pos).1], withObj w b (.stringIter ⟨⟨bl⟩⟩ (pos + (Utf8.decode ⟨bl.toArray⟩ pos).2)), g, .inl ?_, WriteM.ext hF hid, WriteM.siter hh hid hb hlt rfl, WriteM.frel hF hO hf, fun _ _ => .inl (.tup _ _ (by simp) fun k c u hc hu => ?_)⟩
          · simp [execOp, ho, hxu, Instr.next, getObj, setObj, Sem.run, hb, hsz, hlt2, withObj]
          · match k, hc, hu with
            | 0, hc, hu => simp at hc hu; subst hc; subst hu; exact .bool _
            | 1, hc, hu => simp at hc hu; subst hc; subst hu; exact .int _ _
            | 2, hc, hu => simp at hc hu; subst hc; subst hu; exact .int _ _
        · have hT : nextT bl pos = .tup [.bool false] := by unfold nextT; rw [if_neg hlt2]
          have hP : nextP bl pos = pos := by unfold nextP; rw [if_neg hlt2]
          have hset : h.set id (.siter bl pos) = h := by
            apply List.ext_getElem?
            intro i
            by_cases hi : i = id
            · subst hi; rw [List.getElem?_set_self hlt, hs]
            · rw [List.getElem?_set_ne (fun e => hi e.symm)]
          rw [hT, hP, hset]
          refine OpDone.pure hf hh (u := .tuple #[.bool false]) ?_ (.tup _ _ (by simp) fun k c u hc hu => ?_)
          · simp [execOp, ho, hxu, Instr.next, getObj, setObj, Sem.run, hb, hsz, hlt2, withObj]
          · match k, hc, hu with
            | 0, hc, hu => simp at hc hu; subst hc; subst hu; exact .bool _
    · cases hr
  · cases hr
theorem update_done (hty : ∀ t, TyOK P t (ty t)) {o : Oper} {t : Nat} {xm xk xv : Operand} {m k v0 v : V} {p : Prop} {env' : Env} {h' : H} (ho : o.op = .mapUpdate t xm xk xv ∨ o.op = .insert t xm xk xv)
    (hr : update ty t m k v0 env h = .val p v env' h') (hp : p) (hm : VRel w g.F g.ι m (a.eval xm)) (hk : VRel w g.F g.ι k (a.eval xk)) (hv : VRel w g.F g.ι v0 (a.eval xv)) (hf : FRel d n a w g env) (hh : HRel w g h) : OpDone P d n o a w g v env' h' := by
  have hkt := (hty t).k
  unfold update at hr
  split at hr
  · rename_i kt et id s hk1
    rw [hk1] at hkt
    split at hr
    · rename_i es hes
      simp only [Res.val.injEq] at hr
      obtain ⟨rfl, rfl, rfl, rfl⟩ := hr
      obtain ⟨hks, htk⟩ := hp
      have hkk := (hty kt).k
      rw [hks] at hkk
      generalize hmu : a.eval xm = mu at hm
      generalize hku : a.eval xk = ku at hk
      cases hm with
      | map _ b hid =>
        cases hk with
        | str key _ hkey =>
          obtain ⟨ces, clock, hb, hsz, hrel, huq, hcl⟩ := hh.obj id _ b hes hid
          obtain ⟨hF, hO, hbl⟩ := hh.apart b (List.mem_of_getElem? hid)
          obtain ⟨ces', clock', hrun, hcase⟩ := update_run (g := g) hkt hkk hb hsz hrel htk hkey (a.eval xv)
          have hlt : id < h.length := (List.getElem?_eq_some_iff.1 hes).1
          refine ⟨undef, withObj w b (.map ces' clock'), g, .inr ⟨?_, rfl⟩, WriteM.ext hF hid, ?_, WriteM.frel hF hO hf, fun _ _ => .inl (.top _)⟩
          · rcases ho with ho | ho <;> simp [execOp, ho, hmu, hku, hrun, withObj]
          · have hkr : VRel w g.F g.ι (.str s) (.string key) := .str key _ hkey
            rcases hcase with ⟨i, hi, rfl, rfl⟩ | ⟨hi, rfl, rfl⟩
            · have hil := mapIx_lt hi
              have hms : mapSet s v0 es = es.set i (.str s, v0) := by simp [mapSet, hi]
              have hget : ∀ (j : Nat) (e : MapEntry), (ces.modify i fun e => { e with key := .string key, val := a.eval xv })[j]? = some e → ∃ e0, ces[j]? = some e0 ∧ e.born = e0.born ∧ ((j = i ∧ e.key = .string key ∧ e.val = a.eval xv) ∨ (j ≠ i ∧ e = e0)) := by
                intro j e he
                rw [Array.getElem?_modify] at he
                split at he
                · rename_i hij
                  obtain ⟨e0, h0, rfl⟩ := Option.map_eq_some_iff.1 he
                  exact ⟨e0, h0, rfl, .inl ⟨hij.symm, rfl, rfl⟩⟩
                · rename_i hij
                  exact ⟨e, he, rfl, .inr ⟨fun q => hij q.symm, rfl⟩⟩
              rw [hms]
              refine WriteM.hrel hh hid hb hlt (by simpa using hsz) (fun j k' v' e hj he => ?_) (fun j j' e e' he he' hbn => ?_) (fun j e he => ?_)
              · obtain ⟨e0, h0, _, ⟨rfl, h2, h3⟩ | ⟨h2, rfl⟩⟩ := hget j e he
                · rw [List.getElem?_set_self hil] at hj
                  simp only [Option.some.injEq, Prod.mk.injEq] at hj
                  obtain ⟨rfl, rfl⟩ := hj
                  rw [h2, h3]
                  exact ⟨hkr, hv⟩
                · rw [List.getElem?_set_ne (fun q => h2 q.symm)] at hj
                  exact hrel j k' v' e hj h0
              · obtain ⟨e0, h0, hb0, _⟩ := hget j e he
                obtain ⟨e1, h1, hb1, _⟩ := hget j' e' he'
                exact huq j j' e0 e1 h0 h1 (by rw [← hb0, ← hb1, hbn])
              · obtain ⟨e0, h0, hb0, _⟩ := hget j e he
                rw [hb0]; exact hcl j e0 h0
            · have hms : mapSet s v0 es = es ++ [(.str s, v0)] := by simp [mapSet, hi]
              have hget : ∀ (j : Nat) (e : MapEntry), (ces.push { key := .string key, val := a.eval xv, born := clock })[j]? = some e → (j = ces.size ∧ e = { key := .string key, val := a.eval xv, born := clock }) ∨ (j < ces.size ∧ ces[j]? = some e) := by
                intro j e he
                rw [Array.getElem?_push] at he
                split at he
                · rename_i hj
                  injection he with he
                  exact .inl ⟨hj, he.symm⟩
                · exact .inr ⟨(Array.getElem?_eq_some_iff.1 he).1, he⟩
              rw [hms]
              refine WriteM.hrel hh hid hb hlt (by simp [hsz]) (fun j k' v' e hj he => ?_) (fun j j' e e' he he' hbn => ?_) (fun j e he => ?_)
              · rcases hget j e he with ⟨h1, rfl⟩ | ⟨h1, h2⟩
                · rw [h1, hsz, List.getElem?_append_right (by omega)] at hj
                  simp at hj
                  obtain ⟨rfl, rfl⟩ := hj
                  exact ⟨hkr, hv⟩
                · rw [List.getElem?_append_left (by omega)] at hj
                  exact hrel j k' v' e hj h2
              · rcases hget j e he with ⟨h1, rfl⟩ | ⟨h1, h2⟩ <;> rcases hget j' e' he' with ⟨h3, rfl⟩ | ⟨h3, h4⟩
                · omega
                · have := hcl j' e' h4; simp at hbn; omega
                · have := hcl j e h2; simp at hbn; omega
                · exact huq j j' e e' h2 h4 hbn
              · rcases hget j e he with ⟨h1, rfl⟩ | ⟨h1, h2⟩
                · simp
                · have := hcl j e h2; omega
    · cases hr
  · cases hr
end
end Go.Proofs.Ytmaabgkgjknhpaa.Pv
