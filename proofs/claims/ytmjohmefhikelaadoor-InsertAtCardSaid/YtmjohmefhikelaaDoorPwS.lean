/- A region that draws its order, in which one load moves a row out of an object's cell, and whose last operation may be a store. -/
import Derived.Test.YtmjohmefhikelaaDoorPwV
set_option linter.unusedVariables false
set_option linter.unusedSimpArgs false
namespace Go.Proofs.YtmjohmefhikelaaDoor.Pv
open Go Go.Proofs

/-- A load that moves, a store. -/
def isM (tk : List Nat) (o : Oper) : Bool :=
  match o.op with
  | .load _ _ => tkB tk o.dst
  | .store _ _ _ => true
  | _ => false
/-- One load moves, and nothing else goes into such a slot. -/
def oneM (tk T : List Nat) (ops : List Oper) : Bool :=
  (List.range ops.length).all fun i => match ops[i]? with
    | some o => (isM tk o || !tkB tk o.dst || (takeT tk T o).isSome) && (!isM tk o || (o.guard.isNone && (List.range ops.length).all fun j => (j == i) || match ops[j]? with | some oj => !isM tk oj | none => true))
    | none => true
section
variable (ty : Nat → Ty) (C : CallP) (n : Nat) (tk : List Nat) (T : List Nat) (ops : List Oper) (h h1 : H)
def pureRM (m : Bool) (r r1 : Res) (o : Oper) (e : Env) (K : Env → Prop) : Prop :=
  match m, r, r1 with
  | true, .val p v e' h', _ => p ∧ e' = e ∧ h' = h1 ∧ dstOk n o.dst ∧ K (putD o.dst e v)
  | false, .val p v e' h', .val p2 v2 e2 h2 => p ∧ (takeT tk T o = none → e' = e) ∧ h' = h ∧ p2 ∧ v2 = v ∧ (takeT tk T o = none → e2 = e) ∧ h2 = h1 ∧ dstOk n o.dst ∧ K (putD o.dst e v)
  | false, .call f args, .call f2 args2 => f2 = f ∧ args2 = args ∧ ∃ v, (∀ Q : Out → H → Prop, Q (.ret v) h → C f args h Q) ∧ (∀ Q : Out → H → Prop, Q (.ret v) h1 → C f args h1 Q) ∧ dstOk n o.dst ∧ K (putD o.dst e v)
  | _, _, _ => False
def pureKM (want : Option Bool) (o : Oper) (e : Env) (K : Env → Prop) : Prop :=
  match want with
  | some true => pureRM C n tk T h h1 (isM tk o) (aop ty tk o e h) (aop ty tk o e h1) o e K
  | some false => dstOk n o.dst ∧ K (putD o.dst e (.tup []))
  | none => False
def evalPureM : List Oper → (Env → Prop) → Env → Prop
  | [], K => K
  | o :: os, K => fun e => pureKM ty C n tk T h h1 (wanted ops o e) o e (evalPureM os K)
def StepAtM (o : Oper) (e : Env) (v : V) : Prop := dstOk n o.dst ∧ ((wanted ops o e = some false ∧ v = .tup []) ∨ (wanted ops o e = some true ∧ isM tk o = true ∧ ∃ p, aop ty tk o e h = .val p v e h1 ∧ p) ∨
  (wanted ops o e = some true ∧ isM tk o = false ∧ ((takeT tk T o = none ∧ ∃ p p2, aop ty tk o e h = .val p v e h ∧ p ∧ aop ty tk o e h1 = .val p2 v e h1 ∧ p2) ∨
    (∃ s p e1 p2 e2, takeT tk T o = some s ∧ aop ty tk o e h = .val p v e1 h ∧ p ∧ aop ty tk o e h1 = .val p2 v e2 h1 ∧ p2) ∨
    (∃ f args, aop ty tk o e h = .call f args ∧ aop ty tk o e h1 = .call f args ∧ (∀ Q : Out → H → Prop, Q (.ret v) h → C f args h Q) ∧ ∀ Q : Out → H → Prop, Q (.ret v) h1 → C f args h1 Q))))
end
section
variable {ty : Nat → Ty} {C : CallP} {n : Nat} {tk : List Nat} {T : List Nat} {ops : List Oper} {h h1 : H} {o : Oper} {e e' : Env}

theorem pureKM_step {K : Env → Prop} (hp : pureKM ty C n tk T h h1 (wanted ops o e) o e K) : ∃ v, StepAtM ty C n tk T ops h h1 o e v ∧ K (putD o.dst e v) := by
  unfold pureKM at hp
  cases hw : wanted ops o e with
  | none => rw [hw] at hp; exact hp.elim
  | some b =>
    rw [hw] at hp
    cases b with
    | false => exact ⟨.tup [], ⟨hp.1, .inl ⟨hw, rfl⟩⟩, hp.2⟩
    | true =>
      simp only [] at hp
      unfold pureRM at hp
      split at hp
      · rename_i p v e1 hx hm ha
        obtain ⟨k1, rfl, rfl, k4, k5⟩ := hp
        exact ⟨v, ⟨k4, .inr (.inl ⟨hw, hm, p, ha, k1⟩)⟩, k5⟩
      · rename_i p v e1 hx p2 v2 e2 hx2 hm ha hb
        obtain ⟨k1, k2, rfl, k4, rfl, k6, rfl, k8, k9⟩ := hp
        cases ht : takeT tk T o with
        | none =>
          obtain rfl := k2 ht
          obtain rfl := k6 ht
          exact ⟨v2, ⟨k8, .inr (.inr ⟨hw, hm, .inl ⟨ht, p, p2, ha, k1, hb, k4⟩⟩)⟩, k9⟩
        | some s => exact ⟨v2, ⟨k8, .inr (.inr ⟨hw, hm, .inr (.inl ⟨s, p, e1, p2, e2, ht, ha, k1, hb, k4⟩)⟩)⟩, k9⟩
      · rename_i f args f2 args2 hm ha hb
        obtain ⟨rfl, rfl, v, k1, k2, k3, k4⟩ := hp
        exact ⟨v, ⟨k3, .inr (.inr ⟨hw, hm, .inr (.inr ⟨_, _, ha, hb, k1, k2⟩)⟩)⟩, k4⟩
      · exact hp.elim
theorem evalPureM_trace {K : Env → Prop} : ∀ (l : List Oper) (e : Env), evalPureM ty C n tk T ops h h1 l K e →
    ∃ vals : List V, vals.length = l.length ∧ (∀ i o v, l[i]? = some o → vals[i]? = some v → StepAtM ty C n tk T ops h h1 o (putsL e (l.take i) (vals.take i)) v) ∧ K (putsL e l vals)
  | [], e, hp => ⟨[], rfl, fun i o v ho => by simp at ho, hp⟩
  | o :: os, e, hp => by
    obtain ⟨v, hs, hk⟩ := pureKM_step hp
    obtain ⟨vals, hl, hst, hK⟩ := evalPureM_trace os _ hk
    refine ⟨v :: vals, by simp [hl], fun i o' v' ho hv => ?_, hK⟩
    cases i with
    | zero => simp at ho hv; subst ho; subst hv; exact hs
    | succ i => simp at ho hv; exact hst i o' v' ho hv
theorem loadM_congr {l : List Nat} (hr : reads o = some l) (hm : isM tk o = true) (hl : ∀ i ∈ l, e.get i = e'.get i) {p : Prop} {v : V} (ha : aop ty tk o e h = .val p v e h1) : ∃ e2, aop ty tk o e' h = .val p v e2 h1 ∧ Same e2 e' ∧ (e2 = e' ∨ ∃ i u, i ∈ l ∧ e2 = e'.put i u) := by
  obtain ⟨dst, op, type, pos, after, guard⟩ := o
  unfold isM at hm
  simp only [] at hm
  split at hm
  · rename_i t a
    refine ⟨e', ?_, fun _ => rfl, .inl rfl⟩
    simp only [reads, Option.some.injEq] at hr
    subst hr
    simp only [aop] at ha ⊢
    rw [hm] at ha ⊢
    rw [ev_congr (x := a) (e' := e') hl] at ha
    generalize ev ty e' 0 a = q at ha ⊢
    unfold load at ha ⊢
    cases q <;> simp only [reduceCtorEq] at ha ⊢
    case imm cs => simp only [Res.val.injEq] at ha ⊢; first | exact ⟨ha.1, ha.2.1, rfl, ha.2.2.2⟩ | exact ⟨ha.1, ha.2.1, trivial, ha.2.2.2⟩
    case ref id off =>
      cases hrw : h.row id with
      | none => rw [hrw] at ha; simp at ha
      | some cs =>
        rw [hrw] at ha
        simp only [if_true] at ha ⊢
        split at ha <;> rename_i hagg <;> simp only [hagg, if_true, if_false, Bool.false_eq_true, Res.val.injEq] at ha ⊢ <;> first | exact ⟨ha.1, ha.2.1, rfl, ha.2.2.2⟩ | exact ⟨ha.1, ha.2.1, trivial, ha.2.2.2⟩
  · rename_i t a x
    simp only [reads, Option.some.injEq] at hr
    subst hr
    have h0 : ev ty e 0 a = ev ty e' 0 a := ev_congr fun j hj => hl j (List.mem_append_left _ hj)
    cases x with
    | tmp i =>
      simp only [aop] at ha ⊢
      have hi := hl i (List.mem_append_right _ (by simp [rd]))
      rw [h0, hi] at ha
      unfold store at ha ⊢
      split at ha
      · split at ha
        · simp only [Res.val.injEq] at ha
          obtain ⟨h1, h2, h3, h4⟩ := ha
          have hd := put_fix h3.symm
          refine ⟨e'.put i (e'.get i).demote, ?_, fun y => ?_, .inr ⟨i, _, List.mem_append_right _ (by simp [rd]), rfl⟩⟩
          · simp only [Res.val.injEq]; exact ⟨h1, h2, trivial, h4⟩
          · by_cases hy : y = i
            · subst hy; rw [get_put_self]; exact hd.symm.trans hi
            · rw [get_put_ne hy]
        · cases ha
      · cases ha
    | _ =>
      simp only [aop] at ha ⊢
      rw [h0] at ha
      simp only [ev] at ha ⊢
      unfold store at ha ⊢
      split at ha
      · split at ha
        · simp only [Res.val.injEq] at ha
          obtain ⟨h1, h2, h3, h4⟩ := ha
          exact ⟨e', by simp only [Res.val.injEq]; exact ⟨h1, h2, trivial, h4⟩, fun _ => rfl, .inl rfl⟩
        · cases ha
      · cases ha
  · cases hm
theorem oneM_at (ho : oneM tk T ops = true) {i : Nat} (hi : ops[i]? = some o) : (isM tk o = false → takeT tk T o = none → tkB tk o.dst = false) ∧ (isM tk o = true → o.guard = none ∧ ∀ (j : Nat) (oj : Oper), ops[j]? = some oj → j ≠ i → isM tk oj = false) := by
  unfold oneM at ho
  have h1 := List.all_eq_true.1 ho i (List.mem_range.2 (List.getElem?_eq_some_iff.1 hi).1)
  rw [hi] at h1
  simp only [Bool.and_eq_true, Bool.or_eq_true, Bool.not_eq_true'] at h1
  refine ⟨fun hm hn => ?_, fun hm => ?_⟩
  · rcases h1.1 with (h | h) | h
    · rw [hm] at h; cases h
    · exact h
    · rw [hn] at h; cases h
  · rcases h1.2 with h | ⟨h, k⟩
    · rw [hm] at h; cases h
    · refine ⟨by simpa using h, fun j oj hj hne => ?_⟩
      have := List.all_eq_true.1 k j (List.mem_range.2 (List.getElem?_eq_some_iff.1 hj).1)
      rw [hj] at this
      simpa [hne] using this

theorem any_of_pureM (ho : ordB [] ops = true) (hom : oneM tk T ops = true) (hnone : (∀ (i : Nat) (o : Oper), ops[i]? = some o → isM tk o = false) → h = h1) {ks : List Nat} {e0 : Env} (hkb : keptB ops ks e0.keys = true) (htb : takeB tk T ops ks = true) {P : Env → Prop} {X : V → Env → H → Prop} (hp : evalPureM ty C n tk T ops h h1 ops P e0) :
    evalAny ty C n tk ops (fun e h' => h' = h1 ∧ Beside (tk := tk) T ops ks e0 P e) X ops.length (Array.replicate ops.length false) e0 h := by
  obtain ⟨vals, hvl, hst, hK⟩ := evalPureM_trace ops e0 hp
  have hnd : (e0.kept ks).Nodup := by
    unfold keptB at hkb
    simp only [Bool.and_eq_true, decide_eq_true_eq] at hkb
    exact hkb.1
  have hkf : (putsL e0 ops vals).kept ks = e0.kept ks := by
    have : ∀ (l : List Oper) (us : List V) (e : Env), (∀ o ∈ l, o ∈ ops) → e.kept ks = e0.kept ks → (putsL e l us).kept ks = e0.kept ks := by
      intro l
      induction l with
      | nil => intro us e _ he; exact he
      | cons o os ih =>
        intro us e hm he
        cases us with
        | nil => exact he
        | cons u us =>
          simp only [putsL]
          refine ih us _ (fun o' ho' => hm o' (List.mem_cons_of_mem _ ho')) ?_
          obtain ⟨i, hi⟩ := List.getElem?_of_mem (hm o List.mem_cons_self)
          obtain ⟨d, l', hO⟩ := ord_one ho hi
          exact kept_step hkb hi hO he (.inl rfl)
    exact this ops vals e0 (fun o ho => ho) rfl
  unfold takeB at htb
  simp only [Bool.and_eq_true] at htb
  have htk : ∀ (i : Nat) (o : Oper) (s : Nat), ops[i]? = some o → takeT tk T o = some s → ¬ ks.contains s = true ∧ ∀ (j : Nat) (oj : Oper) (l : List Nat), ops[j]? = some oj → reads oj = some l → j ≠ i → s ∉ l ++ gslots ops oj := by
    intro i o s hi ht
    obtain ⟨_, hc⟩ := takeT_of ht
    refine ⟨fun hk => ?_, fun j oj l hj hr hne hm => ?_⟩
    · have := List.all_eq_true.1 htb.1 s (List.contains_iff_mem.1 hc)
      rw [hk] at this; cases this
    · have h1 := List.all_eq_true.1 htb.2 i (List.mem_range.2 (List.getElem?_eq_some_iff.1 hi).1)
      rw [hi] at h1
      simp only [Option.bind_some, ht] at h1
      have h2 := List.all_eq_true.1 h1 j (List.mem_range.2 (List.getElem?_eq_some_iff.1 hj).1)
      rw [hj] at h2
      simp only [hr, Option.getD_some, Bool.or_eq_true, beq_iff_eq, hne, false_or, Bool.not_eq_true'] at h2
      rw [List.contains_iff_mem.2 hm] at h2
      cases h2
  have hend : ∀ (listed : Array Bool) (e g : Env), AnyInv ops vals ks e0 listed g → Shade (tk := tk) T ops ks e0 listed e g → (∀ j, j < ops.length → listed.getD j false = true) → Beside (tk := tk) T ops ks e0 P e := by
    intro listed e g inv sh hall
    have hsame : ∀ x, g.get x = (putsL e0 ops vals).get x := by
      intro x
      by_cases hw : ∃ (j : Nat) (oj : Oper), ops[j]? = some oj ∧ oj.dst = some x
      · obtain ⟨j, oj, hj, hdj⟩ := hw
        have hjl := (List.getElem?_eq_some_iff.1 hj).1
        have hjv : j < vals.length := by omega
        obtain ⟨dj, lj, hOj⟩ := ord_one ho hj
        rw [inv.done j oj x vals[j] hj hdj (hall j hjl) (List.getElem?_eq_getElem hjv)]
        refine (putsL_some ops vals e0 j oj _ hj hdj (List.getElem?_eq_getElem hjv) fun k o' hk hdk => ?_).symm
        apply Classical.byContradiction
        intro hkj
        have := (hOj.other k o' x hk hdk hkj).1
        have hd2 := hOj.dst; rw [hdj] at hd2
        exact this hd2
      · have hno : ∀ (k : Nat) (o' : Oper), ops[k]? = some o' → o'.dst ≠ some x := fun k o' hk hdk => hw ⟨k, o', hk, hdk⟩
        rw [inv.rest x fun k ok hk hdk => absurd hdk (hno k ok hk)]
        exact (putsL_none _ _ _ hno).symm
    exact ⟨_, hK, hkf, sh.kept, fun x hx => by rw [sh.same x (fun i o hi _ => hx i o hi), hsame x]⟩
  let HP : Array Bool → H → Prop := fun listed hp => (hp = h ∧ ∀ (i : Nat) (o : Oper), ops[i]? = some o → isM tk o = true → listed.getD i false = false) ∨ (hp = h1 ∧ ∃ (i : Nat) (o : Oper), ops[i]? = some o ∧ isM tk o = true ∧ listed.getD i false = true)
  have hpend : ∀ (listed : Array Bool) (hp : H), HP listed hp → (∀ j, j < ops.length → listed.getD j false = true) → hp = h1 := by
    rintro listed hp (⟨rfl, hx⟩ | ⟨rfl, _⟩) hall
    · refine hnone fun i o hi => ?_
      cases hm : isM tk o with
      | false => rfl
      | true =>
        have h2 := hx i o hi hm
        have h3 := hall i (List.getElem?_eq_some_iff.1 hi).1
        rw [h2] at h3; cases h3
    · rfl
  have main : ∀ (k : Nat) (listed : Array Bool) (e g : Env) (hp : H), HP listed hp → AnyInv ops vals ks e0 listed g → Shade (tk := tk) T ops ks e0 listed e g → listed.toList.count false = k → evalAny ty C n tk ops (fun e h' => h' = h1 ∧ Beside (tk := tk) T ops ks e0 P e) X k listed e hp := by
    intro k
    induction k with
    | zero =>
      intro listed e g hp hhp inv sh hc
      have hall : ∀ j, j < ops.length → listed.getD j false = true := by
        intro j hj
        have hjl : j < listed.size := by rw [inv.size]; exact hj
        have hne := List.count_eq_zero.1 hc
        simp only [Array.getD_eq_getD_getElem?, Array.getElem?_eq_getElem hjl, Option.getD_some]
        cases hb : listed[j] with
        | true => rfl
        | false => exact absurd (by rw [← hb]; exact Array.getElem_mem_toList hjl) hne
      refine ⟨?_, hpend listed hp hhp hall, hend listed e g inv sh hall⟩
      rw [List.eq_nil_iff_forall_not_mem]
      intro j hj
      rw [mem_ready] at hj
      obtain ⟨h0, o, hoj, _⟩ := hj
      have hjl : j < ops.length := by have := (Array.getElem?_eq_some_iff.1 hoj).1; simpa using this
      have h9 := hall j hjl
      have hjl' : j < listed.size := by rw [inv.size]; exact hjl
      simp only [Array.getD_eq_getD_getElem?, Array.getElem?_eq_getElem hjl', Option.getD_some] at h0 h9
      rw [h0] at h9; cases h9
    | succ k ih =>
      intro listed e g hp hhp inv sh hc
      refine ⟨fun hr => ⟨hpend listed hp hhp (all_listed ho inv.size hr), hend listed e g inv sh (all_listed ho inv.size hr)⟩, fun i hi => ?_⟩
      rw [mem_ready] at hi
      obtain ⟨hun, o, hoi, hrd⟩ := hi
      have hoi' : ops[i]? = some o := by simpa using hoi
      have hil := (List.getElem?_eq_some_iff.1 hoi').1
      obtain ⟨d, l, hO⟩ := ord_one ho hoi'
      have hiv : i < vals.length := by omega
      have hv := List.getElem?_eq_getElem hiv
      have hli : i < listed.size := by rw [inv.size]; exact hil
      have hrdG := inv_reads ho hvl inv hoi' hO hun hrd
      have hrdS : ∀ x ∈ l ++ gslots ops o, (putsL e0 (ops.take i) (vals.take i)).get x = e.get x := by
        intro x hx
        rw [hrdG x hx]
        refine (sh.same x fun j oj hj hlj ht => ?_).symm
        have hji : i ≠ j := by
          rintro rfl
          have hun' : listed.getD i false = false := by
            simp only [Array.getD_eq_getD_getElem?, Array.getElem?_eq_getElem hli, Option.getD_some] at hun ⊢; exact hun
          rw [hun'] at hlj; cases hlj
        exact (htk j oj x hj ht).2 i o l hoi' hO.reads hji hx
      obtain ⟨hdst, hcase⟩ := hst i o vals[i] hoi' hv
      have hcnt : (listed.setIfInBounds i true).toList.count false = k := by
        have hun' : listed.toList[i]? = some false := by
          simp only [Array.getD_eq_getD_getElem?, Array.getElem?_eq_getElem hli, Option.getD_some] at hun
          simp [hli, hun]
        have := count_set hun'
        rw [Array.toList_setIfInBounds]
        omega
      have hwc : wanted ops o (putsL e0 (ops.take i) (vals.take i)) = wanted ops o e := wanted_congr fun x hx => hrdS x (List.mem_append_right _ hx)
      have hinv := inv_step ho hvl hkb inv hoi' hO hun hrd hv (fun _ => rfl) (.inl rfl)
      -- the shade goes on
      have hsh : ∀ e2 : Env, (e2 = e ∨ ∃ k u, k ∈ l ∧ e2 = e.put k u) → (∀ x, takeT tk T o ≠ some x → e2.get x = e.get x) → Shade (tk := tk) T ops ks e0 (listed.setIfInBounds i true) (putD o.dst e2 vals[i]) (putD o.dst g vals[i]) := by
        intro e2 he2 hs2
        refine ⟨fun x hx => ?_, kept_step hkb hoi' hO sh.kept he2⟩
        by_cases hxd : o.dst = some x
        · rw [putD_self hxd, putD_self hxd]
        · rw [putD_ne hxd, putD_ne hxd, hs2 x (hx i o hoi' (by simp [hli]))]
          refine sh.same x fun j oj hj hlj => ?_
          by_cases hji : j = i
          · subst hji
            rw [hoi'] at hj; injection hj with hj; subst hj
            exact hx j o hoi' (by simp [hli])
          · exact hx j oj hj (getD_set_true hlj)
      have hun' : listed.getD i false = false := by
        simp only [Array.getD_eq_getD_getElem?, Array.getElem?_eq_getElem hli, Option.getD_some] at hun ⊢; exact hun
      have hhp0 : isM tk o = false → HP (listed.setIfInBounds i true) hp := by
        intro hm
        rcases hhp with ⟨rfl, hx⟩ | ⟨rfl, j, oj, hj, hmj, hlj⟩
        · refine .inl ⟨rfl, fun j oj hj hmj => ?_⟩
          have hne : j ≠ i := fun e => by subst e; rw [hoi'] at hj; injection hj with hj; subst hj; rw [hm] at hmj; cases hmj
          have := hx j oj hj hmj
          simp only [Array.getD_eq_getD_getElem?] at this ⊢
          rwa [Array.getElem?_setIfInBounds_ne (fun h => hne h.symm)]
        · have hne : j ≠ i := fun e => by subst e; rw [hun'] at hlj; cases hlj
          refine .inr ⟨rfl, j, oj, hj, hmj, ?_⟩
          simp only [Array.getD_eq_getD_getElem?] at hlj ⊢
          rwa [Array.getElem?_setIfInBounds_ne (fun h => hne h.symm)]
      have hheap : hp = h ∨ hp = h1 := by
        rcases hhp with ⟨h, _⟩ | ⟨h, _⟩
        · exact .inl h
        · exact .inr h
      refine ⟨o, hoi', ?_⟩
      rcases hcase with ⟨hw, hvt⟩ | ⟨hw, hm, p, ha, hpp⟩ | ⟨hw, hm, hcase⟩
      · have hm : isM tk o = false := by
          cases hm : isM tk o with
          | false => rfl
          | true =>
            have := ((oneM_at hom hoi').2 hm).1
            simp [wanted, this] at hw
        rw [← hwc, hw, runOp_ff, ← hvt]
        exact ⟨hdst, ih _ _ _ hp (hhp0 hm) hinv (hsh e (.inl rfl) fun _ _ => rfl) hcnt⟩
      · -- the load that moves
        have hph : hp = h := by
          rcases hhp with ⟨h, _⟩ | ⟨_, j, oj, hj, hmj, hlj⟩
          · exact h
          · exfalso
            have hne : j ≠ i := fun e => by subst e; rw [hun'] at hlj; cases hlj
            have := ((oneM_at hom hoi').2 hm).2 j oj hj hne
            rw [this] at hmj; cases hmj
        subst hph
        obtain ⟨e2, ha2, hsame, hex⟩ := loadM_congr hO.reads hm (fun x hx => hrdS x (List.mem_append_left _ hx)) ha
        rw [← hwc, hw, runOp_tt, ha2, upon_val]
        refine ⟨hpp, hdst, ih _ _ _ h1 (.inr ⟨rfl, i, o, hoi', hm, ?_⟩) hinv (hsh e2 hex fun x _ => hsame x) hcnt⟩
        simp only [Array.getD_eq_getD_getElem?]
        rw [Array.getElem?_setIfInBounds_self_of_lt hli]; rfl
      · have htk0 := (oneM_at hom hoi').1 hm
        rcases hcase with ⟨htn, p, p2, ha, hpp, hb, hpp2⟩ | ⟨s, p, e1, p2, e2, ht, ha, hpp, hb, hpp2⟩ | ⟨f, args, ha, hb, hc1, hc2⟩
        · rcases hheap with rfl | rfl
          · obtain ⟨e2, ha2, hsame, hex⟩ := aop_congr hO.reads (.inl (htk0 htn)) (fun x hx => hrdS x (List.mem_append_left _ hx)) ha
            rw [← hwc, hw, runOp_tt, ha2, upon_val]
            exact ⟨hpp, hdst, ih _ _ _ _ (hhp0 hm) hinv (hsh e2 hex fun x _ => hsame x) hcnt⟩
          · obtain ⟨e2, ha2, hsame, hex⟩ := aop_congr hO.reads (.inl (htk0 htn)) (fun x hx => hrdS x (List.mem_append_left _ hx)) hb
            rw [← hwc, hw, runOp_tt, ha2, upon_val]
            exact ⟨hpp2, hdst, ih _ _ _ _ (hhp0 hm) hinv (hsh e2 hex fun x _ => hsame x) hcnt⟩
        · rcases hheap with rfl | rfl
          · obtain ⟨hsl, u, ha2⟩ := take_congr hO.reads (takeT_of ht).1 (fun x hx => hrdS x (List.mem_append_left _ hx)) ha
            rw [← hwc, hw, runOp_tt, ha2, upon_val]
            refine ⟨hpp, hdst, ih _ _ _ _ (hhp0 hm) hinv (hsh _ (.inr ⟨s, u, hsl, rfl⟩) fun x hx => ?_) hcnt⟩
            have hxs : x ≠ s := fun hxs => hx (by rw [ht, hxs])
            exact get_put_ne hxs _ _
          · obtain ⟨hsl, u, ha2⟩ := take_congr hO.reads (takeT_of ht).1 (fun x hx => hrdS x (List.mem_append_left _ hx)) hb
            rw [← hwc, hw, runOp_tt, ha2, upon_val]
            refine ⟨hpp2, hdst, ih _ _ _ _ (hhp0 hm) hinv (hsh _ (.inr ⟨s, u, hsl, rfl⟩) fun x hx => ?_) hcnt⟩
            have hxs : x ≠ s := fun hxs => hx (by rw [ht, hxs])
            exact get_put_ne hxs _ _
        · rcases hheap with rfl | rfl
          · have ha2 := aop_congr_call hO.reads (fun x hx => hrdS x (List.mem_append_left _ hx)) ha
            rw [← hwc, hw, runOp_tt, ha2, upon_call]
            exact ⟨hdst, hc1 _ (ih _ _ _ _ (hhp0 hm) hinv (hsh e (.inl rfl) fun _ _ => rfl) hcnt)⟩
          · have ha2 := aop_congr_call hO.reads (fun x hx => hrdS x (List.mem_append_left _ hx)) hb
            rw [← hwc, hw, runOp_tt, ha2, upon_call]
            exact ⟨hdst, hc2 _ (ih _ _ _ _ (hhp0 hm) hinv (hsh e (.inl rfl) fun _ _ => rfl) hcnt)⟩
  refine main ops.length _ e0 e0 h (.inl ⟨rfl, fun i o _ _ => by simp only [Array.getD_eq_getD_getElem?, Array.getElem?_replicate]; split <;> rfl⟩) ⟨by simp, fun j o d v _ _ hs => ?_, fun x _ => rfl, fun j o _ hs => ?_, rfl⟩ ⟨fun _ _ => rfl, rfl⟩ (by simp)
  · simp only [Array.getD_eq_getD_getElem?, Array.getElem?_replicate] at hs; split at hs <;> simp at hs
  · simp only [Array.getD_eq_getD_getElem?, Array.getElem?_replicate] at hs; split at hs <;> simp at hs

/-- The last operation: a store of one slot behind another. -/
theorem wp_drawMS (h1 : H) (T : List Nat) (hC : CMono C C) (k : Nat) {last : Oper} {t a x : Nat} {ks : List Nat} {id : Nat} {ops : List Oper} {Q : PostX} {e0 : Env} (hk : ops[k]? = some last) (hlen : ops.length = k + 1)
    (hop : last.op = .store t (.tmp a) (.tmp x)) (hg : last.guard = none) (hd : last.dst = none) (hax : (T.contains a || T.contains x || ks.contains x || a == x) = false)
    (ho : ordB [] (ops.take k) = true) (hom : oneM tk T (ops.take k) = true) (hnone : (∀ (i : Nat) (o : Oper), (ops.take k)[i]? = some o → isM tk o = false) → h = h1) (hkb : keptB (ops.take k) ks e0.keys = true) (htb : takeB tk T (ops.take k) ks = true) (hcov : coverB ops k = true) (hback : backB ops = true)
    (hp : evalPureM ty C n tk T (ops.take k) h h1 (ops.take k) (fun g => stK ty t (g.get a).demote (g.get x) h1 fun h' => Q .normal (g.keep ks) h') e0) : wp ty C n ks tk (.region id ⟨ops⟩ true) Q e0 h := by
  simp only [wp, if_true]
  refine .inl ?_
  have hl : (ops.take k).length = k := by rw [List.length_take]; omega
  have hsplit : ops = ops.take k ++ [last] := by
    apply List.ext_getElem?
    intro i
    by_cases hi : i < k
    · rw [List.getElem?_append_left (by omega), List.getElem?_take, if_pos hi]
    · by_cases hi2 : i = k
      · subst hi2
        rw [List.getElem?_append_right (by omega), hk, hl]; simp
      · rw [List.getElem?_eq_none (by omega), List.getElem?_eq_none (by simp; omega)]
  simp only [Bool.or_eq_false_iff, beq_eq_false_iff_ne, ne_eq] at hax
  obtain ⟨⟨⟨hTa, hTx⟩, hkx⟩, hne⟩ := hax
  have hG := any_of_pureM (C := C) (X := panQ Q) ho hom hnone hkb htb hp
  have hnd : (e0.kept ks).Nodup := by
    unfold keptB at hkb
    simp only [Bool.and_eq_true, decide_eq_true_eq] at hkb
    exact hkb.1
  have hlast : ∀ (e : Env) (h2 : H), (h2 = h1 ∧ Beside (tk := tk) T (ops.take k) ks e0 (fun g => stK ty t (g.get a).demote (g.get x) h1 fun h' => Q .normal (g.keep ks) h') e) →
      runOp ty C n tk (wanted (ops.take k ++ [last]) last e) last e h2 (fun env h => Q .normal (env.keep ks) h) (panQ Q) := by
    rintro e h0 ⟨rfl, g, hP, k1, k2, k3⟩
    have hw : wanted (ops.take k ++ [last]) last e = some true := by simp only [wanted, hg]
    have hnt : ∀ y, T.contains y = false → ∀ (i : Nat) (o : Oper), (ops.take k)[i]? = some o → takeT tk T o ≠ some y := by
      intro y hy i o hi ht
      have := (takeT_of ht).2
      rw [hy] at this; cases this
    have ha : e.get a = g.get a := k3 a (hnt a hTa)
    have hx : e.get x = g.get x := k3 x (hnt x hTx)
    have hkeep : ∀ v, (e.put x v).keep ks = g.keep ks := by
      intro v
      have hkp : (e.put x v).kept ks = e0.kept ks := by
        rw [kept_put v fun hc => by rw [hkx] at hc; cases hc]; exact k2
      rw [keep_eq ks _ (by rw [hkp]; exact hnd), hkp, keep_eq ks g (by rw [k1]; exact hnd), k1]
      refine List.map_congr_left fun y hy => ?_
      have hyk := (List.mem_filter.1 hy).2
      rw [get_put_ne (fun hyx => by subst hyx; rw [hkx] at hyk; cases hyk), k3 y fun i o hi ht => takeB_kept htb hi ht hyk]
    rw [hw, runOp_tt]
    have hao : aop ty tk last e h0 = store ty t (e.get a).demote (e.get x) (e.put x (e.get x).demote) h0 := by
      unfold aop
      rw [hop]
      rfl
    rw [hao, ha, hx]
    exact store_upon hd hP fun h' hq => by rw [hkeep]; exact hq
  have := any_app hC ho (last := last) (by rw [hl, ← hsplit]; exact hcov) (by rw [← hsplit]; exact hback) hlast (ops.take k).length (Array.replicate (ops.take k).length false) e0 h (by simp) (fun i o hi hl _ _ _ => by simp [Array.getD_eq_getD_getElem?, Array.getElem?_replicate] at hl; split at hl <;> simp at hl) hG
  rw [← hsplit, hl] at this
  have e2 : (Array.replicate k false).push false = Array.replicate ops.length false := by
    rw [hlen]; apply Array.toList_inj.1; simp [List.replicate_succ']
  rw [e2, ← hlen] at this
  exact this

theorem wp_drawM (h1 : H) (T : List Nat) (hC : CMono C C) {ks : List Nat} {id : Nat} {l : List Oper} {Q : PostX} {e0 : Env} (ho : ordB [] l = true) (hom : oneM tk T l = true) (hnone : (∀ (i : Nat) (o : Oper), l[i]? = some o → isM tk o = false) → h = h1) (hkb : keptB l ks e0.keys = true) (htb : takeB tk T l ks = true)
    (hp : evalPureM ty C n tk T l h h1 l (fun e => Q .normal (e.keep ks) h1) e0) : wp ty C n ks tk (.region id ⟨l⟩ true) Q e0 h := by
  simp only [wp, if_true]
  refine .inl ?_
  have := any_of_pureM (C := C) (X := panQ Q) ho hom hnone hkb htb hp
  have hnd : (e0.kept ks).Nodup := by
    unfold keptB at hkb
    simp only [Bool.and_eq_true, decide_eq_true_eq] at hkb
    exact hkb.1
  refine evalAny_mono hC (fun e h' hk => ?_) (fun v env h hx => hx) _ _ _ _ this
  obtain ⟨rfl, g, hP, k1, k2, k3⟩ := hk
  show Q .normal (e.keep ks) h'
  rw [keep_eq ks e (by rw [k2]; exact hnd), k2]
  rw [keep_eq ks g (by rw [k1]; exact hnd), k1] at hP
  rw [List.map_congr_left (g := fun k => (k, g.get k)) fun k hk => by rw [k3 k fun i o hi ht => takeB_kept htb hi ht (List.mem_filter.1 hk).2]]
  exact hP
theorem evalPureM_nil {K : Env → Prop} {e : Env} : evalPureM ty C n tk T ops h h1 [] K e = K e := rfl
theorem evalPureM_cons {o : Oper} {os : List Oper} {K : Env → Prop} {e : Env} : evalPureM ty C n tk T ops h h1 (o :: os) K e = pureKM ty C n tk T h h1 (wanted ops o e) o e (evalPureM ty C n tk T ops h h1 os K) := rfl
theorem pureKM_tt {o : Oper} {K : Env → Prop} {e : Env} : pureKM ty C n tk T h h1 (some true) o e K = pureRM C n tk T h h1 (isM tk o) (aop ty tk o e h) (aop ty tk o e h1) o e K := rfl
theorem pureKM_ff {o : Oper} {K : Env → Prop} {e : Env} : pureKM ty C n tk T h h1 (some false) o e K = (dstOk n o.dst ∧ K (putD o.dst e (.tup []))) := rfl
theorem pureRM_m {o : Oper} {K : Env → Prop} {e e' : Env} {h' : H} {p : Prop} {v : V} {r1 : Res} : pureRM C n tk T h h1 true (.val p v e' h') r1 o e K = (p ∧ e' = e ∧ h' = h1 ∧ dstOk n o.dst ∧ K (putD o.dst e v)) := rfl
theorem pureRM_v {o : Oper} {K : Env → Prop} {e e' e2 : Env} {h' h2 : H} {p p2 : Prop} {v v2 : V} : pureRM C n tk T h h1 false (.val p v e' h') (.val p2 v2 e2 h2) o e K = (p ∧ (takeT tk T o = none → e' = e) ∧ h' = h ∧ p2 ∧ v2 = v ∧ (takeT tk T o = none → e2 = e) ∧ h2 = h1 ∧ dstOk n o.dst ∧ K (putD o.dst e v)) := rfl
theorem pureRM_c {o : Oper} {K : Env → Prop} {e : Env} {f f2 : FuncId} {args args2 : List V} : pureRM C n tk T h h1 false (.call f args) (.call f2 args2) o e K = (f2 = f ∧ args2 = args ∧ ∃ v, (∀ Q : Out → H → Prop, Q (.ret v) h → C f args h Q) ∧ (∀ Q : Out → H → Prop, Q (.ret v) h1 → C f args h1 Q) ∧ dstOk n o.dst ∧ K (putD o.dst e v)) := rfl
/-- An object told less exactly. -/
theorem Wk.leo {he : H} {K : Env → H → Prop} {env env' : Env} {h : H} {id : Nat} {o o' : AObj} (h0 : h[id]? = some o) (hle : AObj.Le o o') (hE : EnvLe env env') (hK : K env' (h.set id o')) : Wk he K env h := by
  refine ⟨env', h.set id o', ⟨hE, fun i x hx => ?_, .inl (by simp)⟩, hK⟩
  rw [List.getElem?_set] at hx
  split at hx
  · rename_i he
    subst he
    split at hx
    · injection hx with hx; subst hx; exact ⟨o, h0, hle⟩
    · cases hx
  · exact ⟨x, hx, .refl _⟩
theorem lents_nil {h : H} : ∀ (i : Nat) (a a' : V), ([] : List V)[i]? = some a → ([] : List V)[i]? = some a' → Lent h a a' := by simp
theorem lents_cons {h : H} {a a' : V} {as as' : List V} (h0 : Lent h a a') (hr : ∀ (i : Nat) (x x' : V), as[i]? = some x → as'[i]? = some x' → Lent h x x') : ∀ (i : Nat) (x x' : V), (a :: as)[i]? = some x → (a' :: as')[i]? = some x' → Lent h x x' := by
  intro i x x' hx hx'
  cases i with
  | zero => simp at hx hx'; subst hx; subst hx'; exact h0
  | succ i => simp at hx hx'; exact hr i x x' hx hx'
theorem lents_same {h : H} {a : V} {as as' : List V} (hr : ∀ (i : Nat) (x x' : V), as[i]? = some x → as'[i]? = some x' → Lent h x x') : ∀ (i : Nat) (x x' : V), (a :: as)[i]? = some x → (a :: as')[i]? = some x' → Lent h x x' := lents_cons (.inl rfl) hr
theorem lents_row {h : H} {id t j e sz : Nat} {u : Value} {xs : List V} {cs : List V} {as as' : List V} (h0 : h[id]? = some (.cells t cs)) (hj : cs[j]? = some (.pri (some u) e sz xs)) (hr : ∀ (i : Nat) (x x' : V), as[i]? = some x → as'[i]? = some x' → Lent h x x') :
    ∀ (i : Nat) (x x' : V), (V.raw u :: as)[i]? = some x → (V.sl sz xs :: as')[i]? = some x' → Lent h x x' := lents_cons (.inr ⟨u, e, sz, xs, id, t, cs, j, rfl, rfl, h0, hj⟩) hr
theorem upon_each {f : Value → Res} {o : Oper} {env : Env} {h : H} {Kc : Env → H → Prop} {X : V → Env → H → Prop} : (Res.each f).upon C n o env h Kc X = ∀ u, (f u).upon C n o env h Kc X := by simp only [Res.upon]
end
end Go.Proofs.YtmjohmefhikelaaDoor.Pv
