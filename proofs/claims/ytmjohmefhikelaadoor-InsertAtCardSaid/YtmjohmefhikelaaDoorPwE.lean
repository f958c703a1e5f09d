/- The pure evaluator, part E: how worlds grow, and how what is owned moves. -/
import Derived.Test.YtmjohmefhikelaaDoorPwD
set_option linter.unusedVariables false
set_option linter.unusedSimpArgs false
namespace Go.Proofs.YtmjohmefhikelaaDoor.Pv
open Go
variable [DS]

/-- New blocks alone. -/
structure Grow (w : World) (g : Gh) (w' : World) (g' : Gh) : Prop where
  os : w'.os = w.os
  tape : w'.tape = w.tape
  output : w'.output = w.output
  size : w.heap.size ≤ w'.heap.size
  old : ∀ b, b < w.heap.size → w'.heap[b]? = w.heap[b]? ∧ g'.F b = g.F b ∧ g'.O b = g.O b
  ι : g'.ι = g.ι
  fresh : ∀ b, w'.heap.size ≤ b → g'.F b = 0 ∧ g'.O b = none

section
variable {d n : Nat} {a : Act} {w w' : World} {g g' : Gh} {h : H} {env : Env}

omit [DS] in
theorem Grow.cov (k : Grow w g w' g') (hh : HRel w g h) : Cov w g.F g.ι w' g'.F g'.ι := by
  refine ⟨fun b off hlt => ?_, fun b => ?_, fun id b hb => by rw [k.ι]; exact hb⟩
  · have hb : b < w.heap.size := by
      rcases Nat.lt_or_ge b w.heap.size with hb | hb
      · exact hb
      · have := (hh.fresh b hb).1; omega
    exact World.cell?_of_block (k.old b hb).1
  · rcases Nat.lt_or_ge b w.heap.size with hb | hb
    · rw [(k.old b hb).2.1]; exact Nat.le_refl _
    · rw [(hh.fresh b hb).1]; exact Nat.zero_le _
omit [DS] in
theorem Grow.ext (k : Grow w g w' g') (hh : HRel w g h) : Ext d w g w' g' :=
  ⟨k.os, k.tape, k.output, k.size, k.cov hh, fun b hb => .inl (by rw [← k.ι]; exact hb), fun b hlt _ _ _ => k.old b hlt⟩
omit [DS] in
theorem Grow.vat (k : Grow w g w' g') (hh : HRel w g h) {p : Place} {v : V} {u : Value} (hv : VAt w g p v u) : VAt w' g' p v u := by
  rcases hv with hv | ⟨pr, e, sz, xs, b, off, cap, cur, vals, rfl, rfl, hb, hcap, hmx, hcs, htk, hvl, hsz, hw, h1, hr, hF, hO, htag⟩
  · exact .inl (hv.mono (k.cov hh))
  · have hlt : b < w.heap.size := (Array.getElem?_eq_some_iff.1 hb).1
    obtain ⟨e1, e2, e3⟩ := k.old b hlt
    exact .inr ⟨pr, e, sz, xs, b, off, cap, cur, vals, rfl, rfl, by rw [e1]; exact hb, hcap, hmx, hcs, htk, hvl, hsz, hw, h1, hr.mono (k.cov hh), by rw [e2]; exact hF, by rw [e3]; exact hO, htag⟩
theorem Grow.frel (k : Grow w g w' g') (hh : HRel w g h) (hf : FRel d n a w g env) : FRel d n a w' g' env := ⟨hf.size, fun i => k.vat hh (hf.slot i), hf.defers.ext (k.ext (d := d) hh)⟩

omit [DS] in
theorem ORel.of_vat {id : Nat} {o : AObj} {b : Nat} (hb : w'.heap[b]? = w.heap[b]?) (hm : ∀ (m bm : Nat), g.ι[m]? = some bm → g'.ι[m]? = some bm ∧ MapLe w w' bm) (hc : ∀ {v : V} {u : Value}, VRel w g.F g.ι v u → VRel w' g'.F g'.ι v u)
    (hv : ∀ {j : Nat} {v : V} {u : Value}, VAt w g (.cell id j) v u → VAt w' g' (.cell id j) v u) (ho : ORel w g id o b) : ORel w' g' id o b := by
  cases o with
  | cells t vs =>
    obtain ⟨c, e, h1, h2, h3, h4⟩ := ho
    exact ⟨c, e, by rw [hb]; exact h1, h2, fun j v u hj hu => ⟨hv (h3 j v u hj hu).1, (h3 j v u hj hu).2⟩, h4⟩
  | map es =>
    obtain ⟨ces, clock, h1, h2, h3, h4, h5⟩ := ho
    exact ⟨ces, clock, by rw [hb]; exact h1, h2, fun j k v e hj he => ⟨hc (h3 j k v e hj he).1, hc (h3 j k v e hj he).2⟩, h4, h5⟩
  | siter s pos =>
    obtain ⟨bs, h1, h2⟩ := ho
    exact ⟨bs, by rw [hb]; exact h1, h2⟩
  | miter m n left last =>
    obtain ⟨bm, h1, h2⟩ := ho
    exact ⟨bm, (hm m bm h1).1, h2.mono hb (hm m bm h1).2⟩

omit [DS] in
theorem Grow.hrel (k : Grow w g w' g') (hh : HRel w g h) : HRel w' g' h := by
  refine ⟨by rw [k.ι]; exact hh.len, by rw [k.ι]; exact hh.nodup, fun id o b ho hb => ?_, fun b hb => ?_, k.fresh, hh.glob.cov (k.cov hh)⟩
  · rw [k.ι] at hb
    exact (hh.obj id o b ho hb).of_vat (k.old b (hh.apart b (List.mem_of_getElem? hb)).2.2).1 (fun m bm hbm => ⟨by rw [k.ι]; exact hbm, .of_eq (k.old bm (hh.apart bm (List.mem_of_getElem? hbm)).2.2).1⟩) (fun h => h.mono (k.cov hh)) (fun h => k.vat hh h)
  · rw [k.ι] at hb
    obtain ⟨h1, h2, h3⟩ := hh.apart b hb
    obtain ⟨e1, e2, e3⟩ := k.old b h3
    exact ⟨by rw [e2]; exact h1, by rw [e3]; exact h2, Nat.lt_of_lt_of_le h3 k.size⟩

/-- A new block of which nothing is said, or how far it is covered. -/
def Gh.cover (g : Gh) (b m : Nat) : Gh := { g with F := fun x => if x = b then m else g.F x }
omit [DS] in
theorem Grow.alloc (hh : HRel w g h) (o : Obj) (m : Nat) : Grow w g (w.alloc o) (g.cover w.heap.size m) := by
  refine ⟨rfl, rfl, rfl, by simp, fun b hb => ⟨heap_alloc_old w o b hb, ?_, rfl⟩, rfl, fun b hb => ?_⟩
  · simp [Gh.cover, show ¬ b = w.heap.size by omega]
  · have : w.heap.size + 1 ≤ b := by simpa using hb
    obtain ⟨h1, h2⟩ := hh.fresh b (by omega)
    exact ⟨by simp [Gh.cover, show ¬ b = w.heap.size by omega, h1], h2⟩
omit [DS] in
theorem Grow.drew (w : World) (g : Gh) (hh : HRel w g h) : Grow w g w.drew g := ⟨rfl, rfl, rfl, Nat.le_refl _, fun _ _ => ⟨rfl, rfl, rfl⟩, rfl, hh.fresh⟩
omit [DS] in
theorem Grow.trans {w2 : World} {g2 : Gh} (k : Grow w g w' g') (l : Grow w' g' w2 g2) : Grow w g w2 g2 :=
  ⟨l.os.trans k.os, l.tape.trans k.tape, l.output.trans k.output, Nat.le_trans k.size l.size, fun b hb => by
    obtain ⟨a1, a2, a3⟩ := k.old b hb
    obtain ⟨b1, b2, b3⟩ := l.old b (Nat.lt_of_lt_of_le hb k.size)
    exact ⟨b1.trans a1, b2.trans a2, b3.trans a3⟩, l.ι.trans k.ι, l.fresh⟩

/-- A new object. -/
def Gh.push (g : Gh) (b : Nat) : Gh := { g with ι := g.ι ++ [b] }
omit [DS] in
theorem Gh.push_cov (w : World) (g : Gh) (b : Nat) : Cov w g.F g.ι w (g.push b).F (g.push b).ι :=
  ⟨fun _ _ _ => rfl, fun _ => Nat.le_refl _, fun id b' hb => by
    show (g.ι ++ [b])[id]? = some b'
    rw [List.getElem?_append_left (List.getElem?_eq_some_iff.1 hb).1]; exact hb⟩
omit [DS] in
theorem VAt.cov {p : Place} {v : V} {u : Value} (h : VAt w g p v u) (b : Nat) : VAt w (g.push b) p v u := by
  rcases h with h | ⟨pr, e, sz, xs, b', off, cap, cur, vals, rfl, rfl, hb, hcap, hmx, hcs, htk, hvl, hsz, hw, h1, hr, hF, hO, htag⟩
  · exact .inl (h.mono (Gh.push_cov w g b))
  · exact .inr ⟨pr, e, sz, xs, b', off, cap, cur, vals, rfl, rfl, hb, hcap, hmx, hcs, htk, hvl, hsz, hw, h1, hr.mono (Gh.push_cov w g b), hF, hO, htag⟩
omit [DS] in
theorem HRel.push (hh : HRel w g h) {b : Nat} {o : AObj} (hb : b < w.heap.size) (hF : g.F b = 0) (hO : g.O b = none) (hn : b ∉ g.ι) (ho : ORel w (g.push b) h.length o b) : HRel w (g.push b) (h ++ [o]) := by
  refine ⟨by simp [Gh.push, hh.len], ?_, fun id o' b' ho' hb' => ?_, fun b' hb' => ?_, hh.fresh, hh.glob⟩
  · show (g.ι ++ [b]).Nodup
    rw [List.nodup_append]
    exact ⟨hh.nodup, by simp, fun x hx y hy => by simp at hy; subst hy; exact fun e => hn (e ▸ hx)⟩
  · rw [List.getElem?_append] at ho'
    have hb2 : (g.ι ++ [b])[id]? = some b' := hb'
    rw [List.getElem?_append, hh.len] at hb2
    split at ho'
    · rename_i hlt
      rw [if_pos hlt] at hb2
      exact (hh.obj id o' b' ho' hb2).of_vat rfl (fun m bm hbm => ⟨by show (g.ι ++ [b])[m]? = some bm; rw [List.getElem?_append_left (List.getElem?_eq_some_iff.1 hbm).1]; exact hbm, .of_eq rfl⟩) (fun h => h.mono (Gh.push_cov w g b)) (fun h => h.cov b)
    · rename_i hlt
      rw [if_neg hlt] at hb2
      have e : id = h.length := by
        have := (List.getElem?_eq_some_iff.1 ho').1
        simp at this; omega
      subst e
      simp at ho' hb2
      subst ho'; subst hb2
      exact ho
  · have : b' ∈ g.ι ++ [b] := hb'
    rcases List.mem_append.1 this with hm | hm
    · exact hh.apart b' hm
    · simp at hm; subst hm; exact ⟨hF, hO, hb⟩
omit [DS] in
theorem Ext.push (hx : Ext d w g w' g') {b : Nat} (hb : w.heap.size ≤ b) : Ext d w g w' (g'.push b) :=
  ⟨hx.os, hx.tape, hx.output, hx.size, hx.cov.trans (Gh.push_cov w' g' b), fun b' hb' => by
    have : b' ∈ g'.ι ++ [b] := hb'
    rcases List.mem_append.1 this with hm | hm
    · exact hx.new b' hm
    · simp at hm; subst hm; exact .inr hb, hx.kept⟩
theorem FRel.push (hf : FRel d n a w g env) (b : Nat) (hb : ¬ Hid w b) : FRel d n a w (g.push b) env := ⟨hf.size, fun i => (hf.slot i).cov b, hf.defers.to fun D h1 h2 h3 h5 h4 => ⟨rfl, fun hm => by
    rcases List.mem_append.1 (show D ∈ g.ι ++ [b] from hm) with hm | hm
    · exact h2 hm
    · simp at hm; subst hm; exact hb h4, h3, h5⟩⟩

/-! ### What is owned moves -/
def Gh.own (g : Gh) (b : Nat) (q : Place) : Gh := { g with O := fun x => if x = b then some q else g.O x }

/-- The ghost under which what the place p has is at q. -/
def Gh.move (g : Gh) (p q : Place) (u : Value) : Gh :=
  match u with
  | .slice (some a) _ _ => if g.O a.block = some p then g.own a.block q else g
  | _ => g
omit [DS] in
theorem Gh.move_F (g : Gh) (p q : Place) (u : Value) : (g.move p q u).F = g.F := by
  unfold Gh.move; split <;> first | rfl | (split <;> rfl)
omit [DS] in
theorem Gh.move_ι (g : Gh) (p q : Place) (u : Value) : (g.move p q u).ι = g.ι := by
  unfold Gh.move; split <;> first | rfl | (split <;> rfl)
omit [DS] in
theorem Gh.move_O (g : Gh) (p q : Place) (u : Value) (b : Nat) : (g.move p q u).O b = g.O b ∨ (g.O b = some p ∧ (g.move p q u).O b = some q) := by
  unfold Gh.move
  split
  · split
    · rename_i ho
      simp only [Gh.own]
      split
      · rename_i e; subst e; exact .inr ⟨ho, rfl⟩
      · exact .inl rfl
    · exact .inl rfl
  · exact .inl rfl
omit [DS] in
theorem VAt.moved {p q : Place} {v : V} {u : Value} (h : VAt w g p v u) : VAt w (g.move p q u) q v u := by
  rcases h with h | ⟨pr, e, sz, xs, b, off, cap, cur, vals, rfl, rfl, hb, hcap, hmx, hcs, htk, hvl, hsz, hw, h1, hr, hF, hO, htag⟩
  · exact .inl (by rw [Gh.move_F, Gh.move_ι]; exact h)
  · refine .inr ⟨pr, e, sz, xs, b, off, cap, cur, vals, rfl, rfl, hb, hcap, hmx, hcs, htk, hvl, hsz, hw, h1, by rw [Gh.move_F, Gh.move_ι]; exact hr, by rw [Gh.move_F]; exact hF, ?_, htag⟩
    simp [Gh.move, hO, Gh.own]
omit [DS] in
theorem VAt.stays {p q r : Place} {v : V} {u u' : Value} (h : VAt w g r v u) (hne : r ≠ p) : VAt w (g.move p q u') r v u := by
  rcases h with h | ⟨pr, e, sz, xs, b, off, cap, cur, vals, rfl, rfl, hb, hcap, hmx, hcs, htk, hvl, hsz, hw, h1, hr, hF, hO, htag⟩
  · exact .inl (by rw [Gh.move_F, Gh.move_ι]; exact h)
  · refine .inr ⟨pr, e, sz, xs, b, off, cap, cur, vals, rfl, rfl, hb, hcap, hmx, hcs, htk, hvl, hsz, hw, h1, by rw [Gh.move_F, Gh.move_ι]; exact hr, by rw [Gh.move_F]; exact hF, ?_, htag⟩
    rcases Gh.move_O g p q u' b with e | ⟨e, _⟩
    · rw [e]; exact hO
    · rw [hO] at e; injection e with e; exact absurd e hne
omit [DS] in
theorem VAt.left {p : Place} {v : V} {u : Value} {q r : Place} {u' : Value} (h : VAt w g p v u) : VAt w (g.move q r u') p v.demote u := .inl (by rw [Gh.move_F, Gh.move_ι]; exact h.demote)

omit [DS] in
theorem VAt.left' {p : Place} {v : V} {u : Value} {q r : Place} {u' : Value} (h : VAt w g p v u) : VAt w (g.move q r u') p v.left u := .inl (by rw [Gh.move_F, Gh.move_ι]; exact h.leftover)
omit [DS] in
theorem move_ext {d i : Nat} {q : Place} {u : Value} (g : Gh) (w : World) (p : Place) (hp : p = .slot d i ∨ ∃ id j, p = .cell id j) : Ext d w g w (g.move p q u) := by
  refine ⟨rfl, rfl, rfl, Nat.le_refl _, ⟨fun _ _ _ => rfl, fun b => by rw [Gh.move_F]; exact Nat.le_refl _, fun _ _ hb => by rw [Gh.move_ι]; exact hb⟩, fun b hb => .inl (by rw [Gh.move_ι] at hb; exact hb), fun b hlt hι hc hs => ⟨rfl, by rw [Gh.move_F], ?_⟩⟩
  rcases Gh.move_O g p q u b with e | ⟨e, _⟩
  · exact e
  · rcases hp with rfl | ⟨id, j, rfl⟩
    · exact absurd e (hs d i (Nat.le_refl _))
    · exact absurd e (hc id j)

omit [DS] in
theorem HRel.moved {p q : Place} {u : Value} (hh : HRel w g h) (hp : ∀ id j, p ≠ .cell id j) : HRel w (g.move p q u) h := by
  refine ⟨by rw [Gh.move_ι]; exact hh.len, by rw [Gh.move_ι]; exact hh.nodup, fun id o b ho hb => ?_, fun b hb => ?_, fun b hb => ?_, by rw [Gh.move_F]; exact hh.glob⟩
  · rw [Gh.move_ι] at hb
    exact (hh.obj id o b ho hb).of_vat rfl (fun m bm hbm => ⟨by rw [Gh.move_ι]; exact hbm, .of_eq rfl⟩) (fun h => by rw [Gh.move_F, Gh.move_ι]; exact h) (fun h => h.stays (fun e => hp _ _ e.symm))
  · rw [Gh.move_ι] at hb
    obtain ⟨h1, h2, h3⟩ := hh.apart b hb
    refine ⟨by rw [Gh.move_F]; exact h1, ?_, h3⟩
    rcases Gh.move_O g p q u b with e | ⟨e, _⟩
    · rw [e]; exact h2
    · rw [h2] at e; cases e
  · obtain ⟨h1, h2⟩ := hh.fresh b hb
    refine ⟨by rw [Gh.move_F]; exact h1, ?_⟩
    rcases Gh.move_O g p q u b with e | ⟨e, _⟩
    · rw [e]; exact h2
    · rw [h2] at e; cases e

omit [DS] in
theorem DfOK.move {p q : Place} {u : Value} {base : Base} {ds l : List Deferred} (h : DfOK w g base ds l) : DfOK w (g.move p q u) base ds l :=
  h.to fun D h1 h2 h3 h4 _ => by
    refine ⟨rfl, by rw [Gh.move_ι]; exact h2, ?_, by rw [Gh.move_F]; exact h4⟩
    rcases Gh.move_O g p q u D with e | ⟨e, _⟩
    · rw [e]; exact h3
    · rw [h3] at e; cases e
theorem FRel.moved {i : Nat} {q : Place} (hf : FRel d n a w g env) : FRel d n a w (g.move (.slot d i) q (a.tmps.getD i undef)) (env.put i (env.get i).demote) := by
  refine ⟨hf.size, fun j => ?_, hf.defers.move⟩
  rw [Env.get_put]
  by_cases hji : j = i
  · subst hji; rw [if_pos rfl]; exact (hf.slot j).left
  · rw [if_neg hji]; exact (hf.slot j).stays (fun e => hji (by injection e))

omit [DS] in
theorem VAt.toOwn {p : Place} {v : V} {u : Value} (h : VAt w g p v u) : VAt w g p v.toOwn u := by
  rcases h with h | h
  · refine .inl ?_
    cases h <;> simp only [V.toOwn] <;> constructor <;> assumption
  · obtain ⟨pr, e, sz, xs, b, off, cap, cur, vals, rfl, rest⟩ := h
    exact .inr ⟨pr, e, sz, xs, b, off, cap, cur, vals, by cases pr <;> rfl, rest⟩
omit [DS] in
theorem VRel.toOwn {w : World} {F : Nat → Nat} {ι : List Nat} {v : V} {u : Value} (h : VRel w F ι v u) : VRel w F ι v.toOwn u := by
  cases h <;> simp only [V.toOwn] <;> constructor <;> assumption
omit [DS] in
theorem VAt.asOwn {p : Place} {v : V} {u : Value} (h : VAt w g p v u) : VAt w g p v.asOwn u := by
  rcases h with h | h
  · refine .inl ?_
    cases h <;> simp only [V.asOwn] <;> constructor <;> assumption
  · obtain ⟨pr, e, sz, xs, b, off, cap, cur, vals, rfl, rest⟩ := h
    exact .inr ⟨pr, e, sz, xs, b, off, cap, cur, vals, by cases pr <;> rfl, rest⟩
omit [DS] in
theorem VRel.asOwn {w : World} {F : Nat → Nat} {ι : List Nat} {v : V} {u : Value} (h : VRel w F ι v u) : VRel w F ι v.asOwn u := by
  cases h <;> simp only [V.asOwn] <;> constructor <;> assumption
end

end Go.Proofs.YtmjohmefhikelaaDoor.Pv
