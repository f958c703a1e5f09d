/- The pure evaluator, part I: conversions, lengths, parts put together, new memory. -/
import Derived.Test.YtmjohmefhikelaaDoorPwH
set_option linter.unusedVariables false
set_option linter.unusedSimpArgs false
namespace Go.Proofs.YtmjohmefhikelaaDoor.Pv
open Go
variable [DS]

section
variable {P : Program} {ty : Nat → Ty} {tk : List Nat} {d n : Nat} {a : Act} {w : World} {g : Gh} {env : Env} {h : H}

omit [DS] in
theorem isU8_eq {k : K} (h : k.isU8 = true) : k = .int .u8 := by
  unfold K.isU8 at h
  split at h
  · rfl
  · cases h

omit [DS] in
theorem strOf_ok {p q : Prop} {o : Option (List UInt8)} {v : V} (h : strOf p o = .ok q v) : ∃ l, o = some l ∧ v = .str l ∧ p = q := by
  unfold strOf at h
  split at h
  · simp only [R1.ok.injEq] at h; exact ⟨_, rfl, h.2.symm, h.1⟩
  · cases h

/-- A value and what lies behind it: new blocks alone. -/
def NewDone (P : Program) (d n : Nat) (s : Sem Value) (w : World) (g : Gh) (h : H) (v : V) : Prop :=
  ∃ u w' g', s.run P w = .ok u w' ∧ Grow w g w' g' ∧ VRel w' g'.F g'.ι v u
omit [DS] in
theorem NewDone.same {s : Sem Value} {v : V} {u : Value} (hh : HRel w g h) (hr : s.run P w = .ok u w) (hv : VRel w g.F g.ι v u) : NewDone P d n s w g h v :=
  ⟨u, w, g, hr, ⟨rfl, rfl, rfl, Nat.le_refl _, fun _ _ => ⟨rfl, rfl, rfl⟩, rfl, hh.fresh⟩, hv⟩

omit [DS] in
theorem flat_bytes (l : List UInt8) : (l.map byteV).flatMap V.cells = l.map byteV := by
  induction l with
  | nil => rfl
  | cons x l ih => simp only [List.map_cons, List.flatMap_cons, ih]; rfl

omit [DS] in
theorem strBytes_new (hh : HRel w g h) {src dst e : TypeId} (hs : P.underlying src = some .string) (hd : P.underlying dst = some (.slice e)) (he : P.underlying e = some (.int .u8)) (s : ByteArray) :
    NewDone P d n (Go.convert src dst (.string s)) w g h (.sl 1 (s.data.toList.map byteV)) := by
  have hr := Lib.run_convert_string_bytes (P := P) w src dst e s hs hd he
  by_cases h0 : s.size = 0
  · have hl : s.data.toList = [] := by
      have : s.data.toList.length = 0 := by simpa using h0
      exact List.eq_nil_of_length_eq_zero this
    refine ⟨_, _, g.cover w.heap.size 0, hr, ⟨rfl, rfl, rfl, by rw [Lib.bytesWorld_size]; omega, fun b hb => ⟨Lib.bytesWorld_at_old w e s b hb, by simp [Gh.cover, show ¬ b = w.heap.size by omega], rfl⟩, rfl, fun b hb => ?_⟩, ?_⟩
    · rw [Lib.bytesWorld_size] at hb
      obtain ⟨h1, h2⟩ := hh.fresh b (by omega)
      exact ⟨by simp [Gh.cover, show ¬ b = w.heap.size by omega, h1], h2⟩
    · rw [hl, h0]; exact .sl0 _ _ _
  · refine ⟨_, _, g.cover w.heap.size s.size, hr, ⟨rfl, rfl, rfl, by rw [Lib.bytesWorld_size]; omega, fun b hb => ⟨Lib.bytesWorld_at_old w e s b hb, by simp [Gh.cover, show ¬ b = w.heap.size by omega], rfl⟩, rfl, fun b hb => ?_⟩, ?_⟩
    · rw [Lib.bytesWorld_size] at hb
      obtain ⟨h1, h2⟩ := hh.fresh b (by omega)
      exact ⟨by simp [Gh.cover, show ¬ b = w.heap.size by omega, h1], h2⟩
    · have hsl : s.size = s.data.toList.length := by simp
      refine .sl 1 _ _ _ _ _ (s.data.toList.map fun b => .int .u8 (b.toNat : Int)) (by simp) (grownCap_ge w s.size 0 e) (by omega) ?_ (by simp) (by simp [Gh.cover]) (fun k u hu => ?_) ?_ ?_
      · intro x hx
        obtain ⟨y, _, rfl⟩ := List.mem_map.1 hx
        rfl
      · rw [List.getElem?_map] at hu
        obtain ⟨b, hb, rfl⟩ := Option.map_eq_some_iff.1 hu
        have hk : k < s.size := by have := (List.getElem?_eq_some_iff.1 hb).1; omega
        rw [Nat.zero_add, Lib.bytesWorld_cell w e s k hk]
        simp [List.getD, hb]
      · intro u hu
        obtain ⟨y, _, rfl⟩ := List.mem_map.1 hu
        rfl
      · intro k c u hc hu
        rw [flat_bytes] at hc
        rw [List.getElem?_map] at hc hu
        obtain ⟨b, hb, rfl⟩ := Option.map_eq_some_iff.1 hc
        obtain ⟨b', hb', rfl⟩ := Option.map_eq_some_iff.1 hu
        rw [hb] at hb'
        injection hb' with hb'
        subst hb'
        exact .int _ _

include P in
omit [DS] in
theorem convert_new (hty : ∀ t, TyOK P t (ty t)) (hh : HRel w g h) {src dst : Nat} {x : V} {xu : Value} {p : Prop} {v : V} (hv : convert ty src dst x h = .ok p v) (hp : p) (hx : VRel w g.F g.ι x xu) :
    NewDone P d n (Go.convert src dst xu) w g h v := by
  have hs := (hty src).k
  have hd := (hty dst).k
  unfold convert at hv
  split at hv
  · rename_i k1 k2 k3 m h1 h2
    rw [h1] at hs; rw [h2] at hd
    have hs : P.underlying src = some (.int k1) := hs
    have hd : P.underlying dst = some (.int k2) := hd
    simp only [R1.ok.injEq] at hv
    obtain ⟨rfl, rfl⟩ := hv
    obtain rfl := hx.int_inv
    exact NewDone.same hh (by simp [Go.convert, underlying, hs, hd, Conv.intToInt]) (.int _ _)
  · rename_i s h1 h2
    rw [h1] at hs; rw [h2] at hd
    have hs : P.underlying src = some .string := hs
    have hd : P.underlying dst = some .string := hd
    simp only [R1.ok.injEq] at hv
    obtain ⟨rfl, rfl⟩ := hv
    obtain ⟨bs, rfl, hbs⟩ := hx.str_inv
    exact NewDone.same hh (by simp [Go.convert, underlying, hs, hd]) (.str _ _ hbs)
  · rename_i k1 k2 m h1 h2
    rw [h1] at hs; rw [h2] at hd
    have hs : P.underlying src = some (.int k1) := hs
    have hd : P.underlying dst = some .string := hd
    simp only [R1.ok.injEq] at hv
    obtain ⟨rfl, rfl⟩ := hv
    obtain rfl := hx.int_inv
    exact NewDone.same hh (by simp [Go.convert, underlying, hs, hd, Conv.intToString]) (.str _ _ rfl)
  · rename_i e xs h1 h2
    rw [h1] at hs; rw [h2] at hd
    have hs : P.underlying src = some (.slice e) := hs
    have hd : P.underlying dst = some .string := hd
    split at hv
    · rename_i hu8
      have he := (hty e).k
      rw [isU8_eq hu8] at he
      have he : P.underlying e = some (.int .u8) := he
      obtain ⟨l, hl, rfl, rfl⟩ := strOf_ok hv
      have hxs := toBytes_spec hl
      subst hxs
      obtain ⟨a0, cap, rfl, hcase⟩ := hx.flat
      rcases hcase with hnil | ⟨_, b, off, vals, rfl, hsz, hw, hvl, hcov, hc, ho, hr⟩
      · have : l = [] := by simpa using hnil
        subst this
        cases a0 with
        | none =>
          refine NewDone.same hh (u := .string .empty) ?_ (.str _ _ rfl)
          rw [run_convert_bytes_string w src dst e none _ _ hs he hd]
          simp [Conv.bytesToString]
        | some a1 =>
          refine NewDone.same hh (u := .string .empty) ?_ (.str _ _ rfl)
          rw [run_convert_bytes_string w src dst e _ _ _ hs he hd]
          simp [Conv.bytesToString, loadCells, loadCellsFrom]
      · obtain ⟨s, hrun, hsd⟩ := convBytes_run (P := P) (w := w) hs he hd (b := b) (off := off) (cap := cap) (l := l) (fun k hk => by
          rw [flat_bytes] at hr
          have hk2 : k < vals.length := by rw [← hr.1]; simpa using hk
          have hb := hr.2 k (byteV l[k]) vals[k] (by simp [hk]) (List.getElem?_eq_getElem hk2)
          rw [hc k vals[k] (List.getElem?_eq_getElem hk2)]
          rw [hb.int_inv])
        have e1 : (l.map byteV).length = l.length := by simp
        rw [e1]
        exact NewDone.same hh hrun (.str _ _ hsd)
    · cases hv
  · rename_i e e' sz h1 h2
    rw [h1] at hs; rw [h2] at hd
    have hs : P.underlying src = some (.slice e) := hs
    have hd : P.underlying dst = some .string := hd
    split at hv
    · rename_i hu8
      have he := (hty e).k
      rw [isU8_eq hu8] at he
      have he : P.underlying e = some (.int .u8) := he
      simp only [R1.ok.injEq] at hv
      obtain ⟨rfl, rfl⟩ := hv
      cases hx
      refine NewDone.same hh (u := .string .empty) ?_ (.str _ _ rfl)
      rw [run_convert_bytes_string w src dst e none _ _ hs he hd]
      simp [Conv.bytesToString]
    · cases hv
  · rename_i e id off len h1 h2
    rw [h1] at hs; rw [h2] at hd
    have hs : P.underlying src = some (.slice e) := hs
    have hd : P.underlying dst = some .string := hd
    split at hv
    · rename_i hu8
      have he := (hty e).k
      rw [isU8_eq hu8] at he
      have he : P.underlying e = some (.int .u8) := he
      split at hv
      · rename_i cs hrow
        obtain ⟨l, hl, rfl, rfl⟩ := strOf_ok hv
        have hxs := toBytes_spec hl
        cases hx with
        | msl _ _ _ _ cap b a0 hcap hid ha =>
          have hll : l.length = len := by
            have := congrArg List.length hxs
            simp at this; omega
          by_cases h0 : len = 0
          · subst h0
            have : l = [] := List.eq_nil_of_length_eq_zero hll
            subst this
            refine NewDone.same hh (u := .string .empty) ?_ (.str _ _ rfl)
            rw [run_convert_bytes_string w src dst e a0 _ _ hs he hd]
            cases a0 <;> simp [Conv.bytesToString, loadCells, loadCellsFrom]
          · obtain rfl := ha (by omega)
            obtain ⟨c, e2, hb, hcs, hcr⟩ := hh.cells hrow hid
            obtain ⟨s, hrun, hsd⟩ := convBytes_run (P := P) (w := w) hs he hd (b := b) (off := off) (cap := cap) (l := l) (fun k hk => by
              have hk2 : off + k < c.size := by omega
              have hk3 : off + k < cs.length := by omega
              have hcell : cs[off + k]? = some (byteV l[k]) := by
                have := congrArg (fun z => z[k]?) hxs
                simp only [List.getElem?_take, List.getElem?_drop, List.getElem?_map, show k < len by omega, if_true] at this
                rw [this]
                simp [hk]
              have hv := (hcr (off + k) _ (c[off + k]) hcell (Array.getElem?_eq_getElem hk2)).1.demote
              have hv2 : c[off + k] = .int .u8 (l[k].toNat : Int) := VRel.int_inv (by simpa [V.demote, byteV] using hv)
              simp [World.cell?, hb, hk2, hv2])
            rw [← hll]
            exact NewDone.same hh hrun (.str _ _ hsd)
      · cases hv
    · cases hv
  · rename_i e s h1 h2
    rw [h1] at hs; rw [h2] at hd
    have hs : P.underlying src = some .string := hs
    have hd : P.underlying dst = some (.slice e) := hd
    split at hv
    · rename_i hu8
      have he := (hty e).k
      rw [isU8_eq hu8] at he
      have he : P.underlying e = some (.int .u8) := he
      simp only [R1.ok.injEq] at hv
      obtain ⟨rfl, rfl⟩ := hv
      obtain ⟨bs, rfl, hbs⟩ := hx.str_inv
      subst hbs
      exact strBytes_new hh hs hd he bs
    · cases hv
  · rename_i k1 k k2 m h1 h2
    rw [h1] at hs; rw [h2] at hd
    have hs : P.underlying src = some (.int k1) := hs
    have hd : P.underlying dst = some (.float k) := hd
    simp only [R1.ok.injEq] at hv
    obtain ⟨rfl, rfl⟩ := hv
    obtain rfl := hx.int_inv
    exact NewDone.same hh (by simp [Go.convert, underlying, hs, hd, Conv.intToFloat]) (.flt _ _)
  · rename_i k1 k k2 b h1 h2
    rw [h1] at hs; rw [h2] at hd
    have hs : P.underlying src = some (.float k1) := hs
    have hd : P.underlying dst = some (.int k) := hd
    cases hx
    unfold toInt at hv
    simp only [R1.ok.injEq] at hv
    obtain ⟨rfl, rfl⟩ := hv
    obtain ⟨h3, h4⟩ := hp
    obtain ⟨m, hm⟩ := Option.isSome_iff_exists.1 h3
    rw [hm] at h4 ⊢
    simp only [Option.getD_some] at h4 ⊢
    exact NewDone.same hh (by simp [Go.convert, underlying, hs, hd, Conv.floatToInt, hm, h4]) (.int _ _)
  · cases hv

theorem OpDone.new {o : Oper} {s : Sem Value} {v : V} (hf : FRel d n a w g env) (hh : HRel w g h) (hr : execOp a.eval o = (do Pure.pure (Next.value (← s)) : Sem Next)) (hd : NewDone P d n s w g h v) : OpDone P d n o a w g v env h := by
  obtain ⟨u, w', g', hrun, hgr, hv⟩ := hd
  exact ⟨u, w', g', .inl (by rw [hr]; simp [hrun]), hgr.ext hh, hgr.hrel hh, hgr.frel hh hf, fun _ _ => .inl hv⟩

include P in
omit [DS] in
theorem lenV_run (hty : ∀ t, TyOK P t (ty t)) (hh : HRel w g h) {t : Nat} {x : V} {xu : Value} {p : Prop} {v : V} {ts : Array TypeId} {us : Array Value} {r : TypeId} (hv : lenV ty t x h = .ok p v) (hp : p) (hx : VRel w g.F g.ι x xu)
    (ht : ts[0]? = some t) (hu : us[0]? = some xu) :
    ∃ u, (Builtin.len_ ts r us).run P w = .ok u w ∧ VRel w g.F g.ι v u := by
  have hk := (hty t).k
  unfold lenV at hv
  split at hv
  · rename_i s h1
    rw [h1] at hk
    have hk : P.underlying t = some .string := hk
    simp only [R1.ok.injEq] at hv; obtain ⟨rfl, rfl⟩ := hv
    obtain ⟨bs, rfl, hbs⟩ := hx.str_inv
    refine ⟨goInt bs.size, by simp [Builtin.len_, ht, hu, underlying, hk], ?_⟩
    have : s.length = bs.size := by rw [← hbs]; simp
    rw [this]; exact .int _ _
  · rename_i e sz xs h1
    rw [h1] at hk
    have hk : P.underlying t = some (.slice e) := hk
    simp only [R1.ok.injEq] at hv; obtain ⟨rfl, rfl⟩ := hv
    obtain ⟨a0, cap, rfl, _⟩ := hx.flat
    exact ⟨goInt xs.length, by simp [Builtin.len_, ht, hu, underlying, hk], .int _ _⟩
  · rename_i e e' sz h1
    rw [h1] at hk
    have hk : P.underlying t = some (.slice e) := hk
    simp only [R1.ok.injEq] at hv; obtain ⟨rfl, rfl⟩ := hv
    cases hx
    exact ⟨goInt 0, by simp [Builtin.len_, ht, hu, underlying, hk], .int _ _⟩
  · rename_i e n h1
    rw [h1] at hk
    have hk : P.underlying t = some (.slice e) := hk
    simp only [R1.ok.injEq] at hv; obtain ⟨rfl, rfl⟩ := hv
    cases hx
    exact ⟨goInt n, by simp [Builtin.len_, ht, hu, underlying, hk], .int _ _⟩
  · rename_i e id off len sz h1
    rw [h1] at hk
    have hk : P.underlying t = some (.slice e) := hk
    simp only [R1.ok.injEq] at hv; obtain ⟨rfl, rfl⟩ := hv
    cases hx
    exact ⟨goInt len, by simp [Builtin.len_, ht, hu, underlying, hk], .int _ _⟩
  · rename_i m e h1
    rw [h1] at hk
    have hk : P.underlying t = some (.array m e) := hk
    simp only [R1.ok.injEq] at hv; obtain ⟨rfl, rfl⟩ := hv
    exact ⟨goInt m, by simp [Builtin.len_, ht, hu, underlying, hk], .int _ _⟩
  · rename_i k e h1
    rw [h1] at hk
    have hk : P.underlying t = some (.map k e) := hk
    simp only [R1.ok.injEq] at hv; obtain ⟨rfl, rfl⟩ := hv
    cases hx
    exact ⟨goInt 0, by simp [Builtin.len_, ht, hu, underlying, hk], .int _ _⟩
  · rename_i k e id h1
    rw [h1] at hk
    have hk : P.underlying t = some (.map k e) := hk
    cases hx with
    | map _ b hid =>
      split at hv
      · rename_i es hes
        simp only [R1.ok.injEq] at hv; obtain ⟨rfl, rfl⟩ := hv
        obtain ⟨ces, clock, hb, hsz, _⟩ := hh.obj id _ b hes hid
        refine ⟨goInt ces.size, by simp [Builtin.len_, ht, hu, underlying, hk, getObj, Sem.run, hb], ?_⟩
        rw [hsz]; exact .int _ _
      · cases hv
  · cases hv

end
end Go.Proofs.YtmjohmefhikelaaDoor.Pv
