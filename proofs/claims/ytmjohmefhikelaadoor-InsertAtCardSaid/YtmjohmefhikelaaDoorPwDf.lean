/- What is thrown and caught: panics over objects that have turned; functions that defer a closure which recovers. -/
import Derived.Test.YtmjohmefhikelaaDoorPwY
import Derived.Test.YtmjohmefhikelaaDoorPwV
set_option linter.unusedVariables false
set_option linter.unusedSimpArgs false
namespace Go.Proofs.YtmjohmefhikelaaDoor.Pv
open Go

/-- What is panicked goes on by the second. -/
def R.catch {α : Type} (r : R α) (f : V → R α) : R α :=
  match r with
  | .ok a => .ok a
  | .pan v => f v
  | .stuck => .stuck
theorem R.post_catch {α : Type} {r : R α} {f : V → R α} {K : α → Prop} {X : V → Prop} (h : (r.catch f).post K X) : r.post K fun v => (f v).post K X := by
  cases r <;> exact h
@[simp] theorem R.catch_ok {α : Type} (a : α) (f : V → R α) : (R.ok a).catch f = .ok a := rfl
@[simp] theorem R.catch_pan {α : Type} (v : V) (f : V → R α) : (R.pan v : R α).catch f = f v := rfl
/-- It is this answer. -/
def R.isOk {α : Type} [DecidableEq α] (a : α) : R α → Bool
  | .ok b => decide (b = a)
  | _ => false
theorem R.isOk_eq {α : Type} [DecidableEq α] {a : α} {r : R α} (h : R.isOk a r = true) : r = .ok a := by
  cases r with
  | ok b => rw [show b = a from of_decide_eq_true h]
  | _ => cases h
/-- Whichever of n ways is gone: all of them come to the same. -/
def R.all {α : Type} [DecidableEq α] (n : Nat) (f : Nat → R α) : R α :=
  match f 0 with
  | .ok a => if (List.range n).all (fun i => R.isOk a (f i)) = true then .ok a else .stuck
  | _ => .stuck
theorem R.post_all {α : Type} [DecidableEq α] {n : Nat} {f : Nat → R α} {K : α → Prop} {X : V → Prop} (h : (R.all n f).post K X) : ∀ i, i < n → (f i).post K X := by
  unfold R.all at h
  split at h
  · split at h
    · rename_i a _ hc
      intro i hi
      rw [R.isOk_eq ((List.all_eq_true.1 hc) i (List.mem_range.2 hi))]
      exact h
    · exact h.elim
  · exact h.elim
theorem R.all_eq {α : Type} [DecidableEq α] {n : Nat} {f : Nat → R α} {a : α} (hn : 0 < n) (h : ∀ i, i < n → f i = .ok a) : R.all n f = .ok a := by
  unfold R.all
  rw [h 0 hn]
  simp only []
  rw [if_pos]
  refine List.all_eq_true.2 fun i hi => ?_
  rw [h i (List.mem_range.1 hi)]
  simp [R.isOk]
/-- Either way: both come to the same. -/
def R.both {α : Type} [DecidableEq α] (f : Bool → R α) : R α := R.all 2 fun i => f (i == 0)
theorem R.post_both {α : Type} [DecidableEq α] {f : Bool → R α} {K : α → Prop} {X : V → Prop} (h : (R.both f).post K X) : ∀ c, (f c).post K X := by
  intro c
  cases c
  · exact R.post_all h 1 (by decide)
  · exact R.post_all h 0 (by decide)
theorem R.both_eq {α : Type} [DecidableEq α] {f : Bool → R α} {a : α} (h : ∀ c, f c = .ok a) : R.both f = .ok a := R.all_eq (by decide) fun i _ => h _
theorem nilB_ne {α : Type} {b : Bool} {f : α → V} {l : List α} {u : Value} (h : ¬ l = []) : nilB b (List.map f l) u = b := by
  cases l with
  | nil => exact absurd rfl h
  | cons x xs => rfl
theorem pickN_lt {u : Value} {l : List (List UInt8)} (h : ¬ l = []) : pickN (List.length l) u < List.length l := by
  cases l with
  | nil => exact absurd rfl h
  | cons x xs => exact Nat.mod_lt _ (by simp)
/-- A panic of a kind that is caught. -/
def R.ofO {α S : Type} (o : Option S) (f : S → R α) : R α := match o with | some s => f s | none => .stuck

theorem R.post_ofO {α S : Type} {o : Option S} {f : S → R α} {K : α → Prop} {X : V → Prop} (h : (R.ofO o f).post K X) : ∃ s, o = some s ∧ (f s).post K X := by
  cases o with
  | none => exact h.elim
  | some s => exact ⟨s, rfl, h⟩
@[simp] theorem R.ofO_some {α S : Type} (s : S) (f : S → R α) : R.ofO (some s) f = f s := rfl

theorem getD_isS {α : Type} [Inhabited α] {f : α → V} {o : Option α} {z : V} (h : o.isSome = true) : Option.getD (Option.map f o) z = f (Option.getD o default) := by
  cases o with
  | none => cases h
  | some x => rfl
theorem getD_noS {α : Type} {f : α → V} {o : Option α} {z : V} (h : o.isSome = false) : Option.getD (Option.map f o) z = z := by
  cases o with
  | none => rfl
  | some x => cases h
theorem len_1 {cs : List V} (h : cs.length = 1) : ∃ a, cs = [a] := List.length_eq_one_iff.1 h
theorem len_2 {cs : List V} (h : cs.length = 2) : ∃ a b, cs = [a, b] := by
  match cs, h with
  | [a, b], _ => exact ⟨a, b, rfl⟩
theorem len_3 {cs : List V} (h : cs.length = 3) : ∃ a b c, cs = [a, b, c] := by
  match cs, h with
  | [a, b, c], _ => exact ⟨a, b, c, rfl⟩
theorem like_refl : ∀ o : AObj, AObj.Like o o
  | .cells t cs => ⟨rfl, rfl, fun x hx => .inr hx⟩
  | .map es => fun k v h => .inr h
  | .siter s pos => rfl
  | .miter m l k q => rfl
theorem like_trans {a b c : AObj} (h : AObj.Like a b) (k : AObj.Like b c) : AObj.Like a c := by
  cases a <;> cases b <;> simp only [AObj.Like, reduceCtorEq] at h <;> cases c <;> simp only [AObj.Like, reduceCtorEq] at k ⊢
  · exact ⟨k.1.trans h.1, k.2.1.trans h.2.1, fun x hx => (k.2.2 x hx).elim .inl (h.2.2 x)⟩
  · exact fun x v hx => (k x v hx).elim .inl (h x v)
  · exact k.trans h
  · exact k.trans h
theorem lk_nil {cs : List V} : ∀ x ∈ ([] : List V), V.Cl 0 x ∨ x ∈ cs := by simp
theorem lk_cons {cs : List V} {v : V} {l : List V} (h : V.Cl 0 v ∨ v ∈ cs) (t : ∀ x ∈ l, V.Cl 0 x ∨ x ∈ cs) : ∀ x ∈ v :: l, V.Cl 0 x ∨ x ∈ cs := by
  intro x hx
  rcases List.mem_cons.1 hx with rfl | hx
  · exact h
  · exact t x hx
theorem like_cells {t : Nat} {cs cs' : List V} (hl : cs'.length = cs.length) (h : ∀ x ∈ cs', V.Cl 0 x ∨ x ∈ cs) : AObj.Like (.cells t cs) (.cells t cs') := ⟨rfl, hl, h⟩
theorem cl_mapl {α : Type} {m : Nat} {f : α → V} {l : List (List UInt8 × α)} (h : ∀ x, V.Cl m (f x)) : AObj.Cl m (.map (List.map (ent f) l)) := by
  intro k v hkv
  obtain ⟨⟨s, x⟩, _, he⟩ := List.mem_map.1 hkv
  simp only [ent, Prod.mk.injEq] at he
  obtain ⟨rfl, rfl⟩ := he
  exact ⟨.str _, h x⟩
theorem like_map {α : Type} {f : α → V} {es : List (V × V)} {l : List (List UInt8 × α)} (h : ∀ x, V.Cl 0 (f x)) : AObj.Like (.map es) (.map (List.map (ent f) l)) := fun k v hkv => .inl (cl_mapl h k v hkv)
theorem thrown_base (ids : List Nat) (h : H) : Thrown ids h h := ⟨rfl, fun i o ho => ⟨o, ho, .inl rfl⟩⟩
theorem thrown_set {ids : List Nat} {h A : H} (k : Thrown ids h A) {id : Nat} {o o' : AObj} (h0 : h[id]? = some o) (hi : id ∈ ids) (hl : AObj.Like o o') : Thrown ids h (List.set A id o') := by
  refine ⟨by rw [List.length_set]; exact k.1, fun i q hq => ?_⟩
  by_cases he : id = i
  · subst he
    rw [h0] at hq
    injection hq with hq
    subst hq
    have hlt : id < A.length := by rw [k.1]; exact (List.getElem?_eq_some_iff.1 h0).1
    exact ⟨o', by rw [List.getElem?_set_self hlt], .inr ⟨hi, hl⟩⟩
  · rw [List.getElem?_set_ne he]
    exact k.2 i q hq
theorem thrown_thrown {ids ids' : List Nat} {h A h' : H} (k : Thrown ids h A) (k' : Thrown ids' A h') (hi : ∀ i ∈ ids', i ∈ ids) : Thrown ids h h' := by
  refine ⟨k'.1.trans k.1, fun i o ho => ?_⟩
  obtain ⟨o1, h1, c1⟩ := k.2 i o ho
  obtain ⟨o2, h2, c2⟩ := k'.2 i o1 h1
  refine ⟨o2, h2, ?_⟩
  rcases c2 with rfl | ⟨m2, l2⟩
  · exact c1
  · rcases c1 with rfl | ⟨m1, l1⟩
    · exact .inr ⟨hi i m2, l2⟩
    · exact .inr ⟨m1, like_trans l1 l2⟩
theorem leaveP_thrown {ids : List Nat} {h A L : H} {v : V} {Q : Out → H → Prop} (k : Thrown ids h A) (hc : V.Cl 0 v) (hq : ∀ h2, Thrown ids h h2 → Q (.panic v) h2) : leaveP h (A ++ L) v Q := by
  have ht : (A ++ L).take h.length = A := by rw [← k.1]; exact List.take_left
  refine ⟨by rw [List.length_append, k.1]; omega, hc.mono (Nat.zero_le _), .inr (.inr ⟨ids, by rw [ht]; exact k⟩), by rw [ht]; exact hq _ k⟩
theorem leaveP_thrown0 {ids : List Nat} {h A : H} {v : V} {Q : Out → H → Prop} (k : Thrown ids h A) (hc : V.Cl 0 v) (hq : ∀ h2, Thrown ids h h2 → Q (.panic v) h2) : leaveP h A v Q := by
  have := leaveP_thrown (L := []) k hc hq
  rwa [List.append_nil] at this
theorem leaveP_thrown2 {ids ids' : List Nat} {h A L h' : H} {v : V} {Q : Out → H → Prop} (k : Thrown ids h A) (k' : Thrown ids' (A ++ L) h') (hi : ∀ i ∈ ids', i ∈ ids ∨ h.length ≤ i) (hc : V.Cl 0 v) (hq : ∀ h2, Thrown ids h h2 → Q (.panic v) h2) : leaveP h h' v Q := by
  have hl : h'.length = h.length + L.length := by rw [k'.1, List.length_append, k.1]
  have ht : Thrown ids h (h'.take h.length) := by
    refine ⟨by rw [List.length_take]; omega, fun i o ho => ?_⟩
    have hlt : i < h.length := (List.getElem?_eq_some_iff.1 ho).1
    obtain ⟨o1, h1, c1⟩ := k.2 i o ho
    obtain ⟨o2, h2, c2⟩ := k'.2 i o1 (by rw [List.getElem?_append_left (by rw [k.1]; exact hlt)]; exact h1)
    refine ⟨o2, by rw [List.getElem?_take, if_pos hlt]; exact h2, ?_⟩
    rcases c2 with rfl | ⟨m2, l2⟩
    · exact c1
    · rcases hi i m2 with m | m
      · rcases c1 with rfl | ⟨m1, l1⟩
        · exact .inr ⟨m, l2⟩
        · exact .inr ⟨m1, like_trans l1 l2⟩
      · omega
  exact ⟨by omega, hc.mono (Nat.zero_le _), .inr (.inr ⟨ids, ht⟩), hq _ ht⟩
theorem thrown_take {ids' : List Nat} {h L h' : H} (k' : Thrown ids' (h ++ L) h') (hi : ∀ i ∈ ids', h.length ≤ i) : h'.take h.length = h ∧ h.length ≤ h'.length := by
  have hl : h'.length = h.length + L.length := by rw [k'.1, List.length_append]
  refine ⟨?_, by omega⟩
  apply List.ext_getElem?
  intro i
  rw [List.getElem?_take]
  split
  · rename_i hlt
    obtain ⟨o2, h2, c2⟩ := k'.2 i h[i] (by rw [List.getElem?_append_left hlt]; exact List.getElem?_eq_getElem hlt)
    rw [h2]
    rcases c2 with rfl | ⟨m2, _⟩
    · exact (List.getElem?_eq_getElem hlt).symm
    · have := hi i m2; omega
  · rename_i hlt
    rw [List.getElem?_eq_none (by omega)]
theorem leaveP_local {ids' : List Nat} {h L h' : H} {v : V} {Q : Out → H → Prop} (k' : Thrown ids' (h ++ L) h') (hi : ∀ i ∈ ids', h.length ≤ i) (hc : V.Cl 0 v) (hq : Q (.panic v) h) : leaveP h h' v Q := by
  obtain ⟨h1, h2⟩ := thrown_take k' hi
  exact ⟨h2, hc.mono (Nat.zero_le _), .inl h1, by rw [h1]; exact hq⟩
/-- What has stayed of an object. -/
theorem thrown_cells {ids' : List Nat} {A h' : H} (k' : Thrown ids' A h') {i t : Nat} {cs : List V} (h0 : A[i]? = some (.cells t cs)) : ∃ cs', h'[i]? = some (.cells t cs') ∧ cs'.length = cs.length := by
  obtain ⟨o2, h2, c2⟩ := k'.2 i _ h0
  rcases c2 with rfl | ⟨_, l2⟩
  · exact ⟨cs, h2, rfl⟩
  · cases o2 <;> simp only [AObj.Like, reduceCtorEq] at l2
    obtain ⟨rfl, hl, _⟩ := l2
    exact ⟨_, h2, hl⟩
theorem leave_take {h h2 : H} {v : V} {Q : Out → H → Prop} (h1 : h2.take h.length = h) (hl : h.length ≤ h2.length) (hv : handed h2 h.length v = v) (hc : V.Cl h.length v) (hq : Q (.ret v) h) : leaveQ h h2 v Q :=
  ⟨hl, by rw [hv]; exact hc, .inl h1, by rw [hv, h1]; exact hq⟩
theorem take_set {h A : H} (h1 : A.take h.length = h) {id : Nat} {o : AObj} (hi : h.length ≤ id) : (List.set A id o).take h.length = h := by
  rw [List.take_set, List.set_eq_of_length_le (by rw [List.length_take]; omega)]
  exact h1
theorem take_app {h A L : H} (h1 : A.take h.length = h) (hl : h.length ≤ A.length) : (A ++ L).take h.length = h := by
  rw [List.take_append_of_le_length hl]; exact h1

/-! ### Deferred closures -/
section
variable {P : Program} {ty : Nat → Ty} {prim : CallP} {C : CallP} {n : Nat} {keep tk : List Nat}
/-- Where the code behind a deferred closure ends. -/
def defQ (P : Program) (ty : Nat → Ty) (C : CallP) (rs : List ResultVar) (trunc : Bool) (h : H) (Q : Out → H → Prop) (k : FuncId) (cap : List V) (e : Ex) (env : Env) (h' : H) : Prop :=
  match e with
  | .normal | .ret => closeC P ty C k cap .nili h' (retQ ty rs trunc h Q .ret env)
  | .panic v => closeC P ty C k cap v h' (retQ ty rs trunc h Q .ret env)
  | _ => False
theorem defQ_n {rs : List ResultVar} {trunc : Bool} {h h' : H} {Q : Out → H → Prop} {k : FuncId} {cap : List V} {env : Env} : defQ P ty C rs trunc h Q k cap .normal env h' = closeC P ty C k cap .nili h' (retQ ty rs trunc h Q .ret env) := rfl
theorem defQ_r {rs : List ResultVar} {trunc : Bool} {h h' : H} {Q : Out → H → Prop} {k : FuncId} {cap : List V} {env : Env} : defQ P ty C rs trunc h Q k cap .ret env h' = closeC P ty C k cap .nili h' (retQ ty rs trunc h Q .ret env) := rfl
theorem defQ_p {rs : List ResultVar} {trunc : Bool} {h h' : H} {Q : Out → H → Prop} {k : FuncId} {cap : List V} {env : Env} {v : V} : defQ P ty C rs trunc h Q k cap (.panic v) env h' = closeC P ty C k cap v h' (retQ ty rs trunc h Q .ret env) := rfl
theorem acallD (hp : PMono prim) {f : FuncId} {fn : Func} {c : Code} (hf : P.funcs[f]? = some fn) (hb : fn.body = some c) (hn : (fn.name == "runtime.NumGoroutine") = false) (hn' : fn.ntmps = n) {rs : List ResultVar} (hrs : fn.results.toList = rs) (keep tk : List Nat) (trunc : Bool) {args : List V} {h : H} {Q : Out → H → Prop}
    (hl : args.length ≤ n) (hw : wpD ty (ACall P ty prim) n keep tk c (retQ ty rs trunc h Q) (defQ P ty (ACall P ty prim) rs trunc h Q) (initEnv keep (args.map V.demote)) h) (hnr : noRangeC c = true := by rfl) : ACall P ty prim f args h Q := by
  subst hn'; subst hrs
  refine acall_bodyD hp ⟨fn, c, keep, tk, trunc, hf, hn, hb, ⟨hl, hnr⟩, wpD_mono (acall_mono hp) c _ _ _ _ _ _ (fun _ _ _ h => h) (fun k cap e env h' hq => ?_) hw⟩
  cases e <;> exact hq
/-- Is no call deferred here? -/
def noDefR : Code → Bool
  | .region _ ops false => (lastDefer ops.toList).isNone
  | _ => true
theorem wpD_seq {x y : Code} {Q : PostX} {QD : FuncId → List V → PostX} {env : Env} {h : H} (hx : noDefR x = true) : wpD ty C n keep tk (.seq x y) Q QD env h = wp ty C n keep tk x (thenQ (wpD ty C n keep tk y Q QD) Q) env h := by
  cases x with
  | region id ops draw =>
    cases draw with
    | true => simp only [wpD]
    | false =>
      simp only [noDefR, Option.isNone_iff_eq_none] at hx
      simp only [wpD, hx]
  | _ => simp only [wpD]
theorem wpD_defer {id : Nat} {l : List Oper} {y : Code} {Q : PostX} {QD : FuncId → List V → PostX} {env : Env} {h : H} {os : List Oper} {f : Operand} (hl : lastDefer l = some (os, f))
    (hw : evalOps ty C n tk l os (fun env h => ∃ k cap, ev ty env 0 f = .func (.func k) [] cap ∧ wp ty C n keep tk y (QD k cap) (env.keep keep) h) (panQ Q) env h) : wpD ty C n keep tk (.seq (.region id ⟨l⟩ false) y) Q QD env h := by
  simp only [wpD, hl]
  exact hw
theorem closeC_n {k : FuncId} {fn : Func} {id : Nat} {o1 o2 : Oper} {rest : Code} {r x : Nat} {caps : List V} {pv : V} {h : H} {K : H → Prop} (hf : P.funcs[k]? = some fn) (hb : fn.body = some (.seq (.region id #[o1, o2] false) rest)) (hn : (fn.name == "runtime.NumGoroutine") = false) (hn' : fn.ntmps = n)
    (hres : fn.results = #[]) (h1 : o1.dst = some r ∧ o1.op = .call { callee := .builtin .recover, args := #[], argTypes := #[] } ∧ o1.guard = none) (h2 : o2.dst = some x ∧ o2.op = .assign (.tmp r) ∧ o2.guard = none) (keep tk : List Nat) (hl : caps.length ≤ n) (hr : r < n) (hx : x < n)
    (hw : wp ty C n keep tk rest (closeQ K) (((initEnv keep (caps.map V.demote)).put r .top).put x pv) h) (hnr : noRangeC rest = true := by rfl) : closeC P ty C k caps pv h K := by
  subst hn'
  exact ⟨fn, id, o1, o2, rest, keep, tk, r, x, hf, hn, hb, h1, h2, hres, hl, hr, ⟨hx, hnr⟩, hw⟩
theorem closeQ_n {K : H → Prop} {env : Env} {h : H} : closeQ K .normal env h = K h := rfl
theorem closeQ_r {K : H → Prop} {env : Env} {h : H} : closeQ K .ret env h = K h := rfl

/-! ### Regions in any order, order by order -/
/-- All orders from a state on. -/
def exts (ops : Array Oper) : Nat → Array Bool → List (List Nat)
  | 0, _ => [[]]
  | f + 1, listed => match Region.ready .any ops listed with
    | [] => [[]]
    | r => r.flatMap fun i => (exts ops f (listed.setIfInBounds i true)).map (i :: ·)
/-- .. whether all is listed at the end, nothing is named that is not there, and none is a call. -/
def extsOk (ops : Array Oper) : Nat → Array Bool → Bool
  | 0, listed => (Region.ready .any ops listed).isEmpty
  | f + 1, listed => (Region.ready .any ops listed).all fun i => i < ops.size && extsOk ops f (listed.setIfInBounds i true)
def plainOp (o : Oper) : Bool := match o.op with | .call { callee := .value _, .. } => false | _ => true
theorem exts_ne (ops : Array Oper) : ∀ (f : Nat) (listed : Array Bool), exts ops f listed ≠ []
  | 0, _ => by simp [exts]
  | f + 1, listed => by
    unfold exts
    split
    · simp
    · rename_i hr
      cases hq : Region.ready .any ops listed with
      | nil => exact absurd hq hr
      | cons i r =>
        have := exts_ne ops f (listed.setIfInBounds i true)
        simp only [List.flatMap_cons, ne_eq, List.append_eq_nil_iff, List.map_eq_nil_iff, not_and]
        exact fun h => absurd h this
theorem upon_all {o : Oper} {env : Env} {h : H} {X : V → Env → H → Prop} {ι : Type} {L : List ι} {K : ι → Env → H → Prop} (hne : L ≠ []) : ∀ (r : Res), (∀ f args, r ≠ .call f args) → (∀ g, r = .each g → ∀ u f args, g u ≠ .call f args ∧ ∀ g', g u ≠ .each g') → (∀ l ∈ L, r.upon C n o env h (K l) X) → r.upon C n o env h (fun e h => ∀ l ∈ L, K l e h) X := by
  obtain ⟨l0, r0, rfl⟩ := List.exists_cons_of_ne_nil hne
  intro r hc he hall
  have h0 := hall l0 List.mem_cons_self
  cases r with
  | val p v env' h' => exact ⟨h0.1, h0.2.1, fun l hl => (hall l hl).2.2⟩
  | call f args => exact absurd rfl (hc f args)
  | pan v => exact h0
  | each g =>
    intro u
    have h1 := fun l hl => hall l hl u
    have h2 := he g rfl u
    cases hg : g u with
    | val p v env' h' =>
      simp only [hg] at h1 ⊢
      exact ⟨(h1 l0 List.mem_cons_self).1, (h1 l0 List.mem_cons_self).2.1, fun l hl => (h1 l hl).2.2⟩
    | call f args => exact absurd hg (h2 f args).1
    | pan v => simp only [hg] at h1 ⊢; exact h1 l0 List.mem_cons_self
    | each g' => exact absurd hg ((h2 0 []).2 g')
    | bad => simp only [hg] at h1 ⊢; exact h1 l0 List.mem_cons_self
  | bad => exact h0
end
end Go.Proofs.YtmjohmefhikelaaDoor.Pv
