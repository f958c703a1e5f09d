/- A region that draws its order, where rows that nothing else reads are moved on by an append. -/
import Derived.Test.YtmjohmefhikelaaDoorPwU
set_option linter.unusedVariables false
set_option linter.unusedSimpArgs false
namespace Go.Proofs.YtmjohmefhikelaaDoor.Pv
open Go Go.Proofs

def takeOf (tk : List Nat) (o : Oper) : Option Nat :=
  match o.op with
  | .slice _ (.tmp s) none (some _) none => if tkB tk o.dst = true then some s else none
  | .call c => (match c.callee, c.args.toList with
    | .builtin .append, [.tmp s, _] => if rwB tk o.dst = true then none else some s
    | _, _ => none)
  | .assign (.tmp s) => if neD s o.dst = true then some s else none
  | _ => none
/-- What of T an operation takes. -/
def takeT (tk T : List Nat) (o : Oper) : Option Nat :=
  match takeOf tk o with
  | some s => if T.contains s then some s else none
  | none => none
/-- What is taken is read by no other operation, and is not kept. -/
def takeB (tk T : List Nat) (ops : List Oper) (ks : List Nat) : Bool :=
  T.all (fun t => !ks.contains t) && (List.range ops.length).all fun i => match (ops[i]?).bind (takeT tk T) with
    | some s => (List.range ops.length).all fun j => (j == i) || match ops[j]? with
      | some oj => !(((reads oj).getD [] ++ gslots ops oj).contains s)
      | none => true
    | none => true

section
variable (ty : Nat → Ty) (C : CallP) (n : Nat) (tk : List Nat) (T : List Nat) (ops : List Oper) (h : H)
def pureKT (want : Option Bool) (o : Oper) (e : Env) (K : Env → Prop) : Prop :=
  match want with
  | some true => (match aop ty tk o e h with | .val p v e' h' => p ∧ (takeT tk T o = none → e' = e) ∧ h' = h ∧ dstOk n o.dst ∧ K (putD o.dst e v) | .call f args => ∃ v, (∀ Q : Out → H → Prop, Q (.ret v) h → C f args h Q) ∧ dstOk n o.dst ∧ K (putD o.dst e v) | _ => False)
  | some false => dstOk n o.dst ∧ K (putD o.dst e (.tup []))
  | none => False
def evalPureT : List Oper → (Env → Prop) → Env → Prop
  | [], K => K
  | o :: os, K => fun e => pureKT ty C n tk T h (wanted ops o e) o e (evalPureT os K)
def StepAtT (o : Oper) (e : Env) (v : V) : Prop := dstOk n o.dst ∧ ((wanted ops o e = some true ∧ ∃ p, aop ty tk o e h = .val p v e h ∧ p) ∨ (wanted ops o e = some false ∧ v = .tup []) ∨ (wanted ops o e = some true ∧ ∃ f args, aop ty tk o e h = .call f args ∧ ∀ Q : Out → H → Prop, Q (.ret v) h → C f args h Q)
  ∨ (wanted ops o e = some true ∧ ∃ s p e1, takeT tk T o = some s ∧ aop ty tk o e h = .val p v e1 h ∧ p))
end
section
variable {ty : Nat → Ty} {C : CallP} {n : Nat} {tk : List Nat} {T : List Nat} {ops : List Oper} {h : H} {o : Oper} {e e' : Env}

theorem takeT_of {s : Nat} (ht : takeT tk T o = some s) : takeOf tk o = some s ∧ T.contains s = true := by
  unfold takeT at ht
  split at ht
  · rename_i s' hs
    split at ht
    · rename_i hc
      injection ht with ht; subst ht
      exact ⟨hs, hc⟩
    · cases ht
  · cases ht
theorem take_congr {l : List Nat} (hr : reads o = some l) {s : Nat} (ht : takeOf tk o = some s) (hl : ∀ i ∈ l, e.get i = e'.get i) {p : Prop} {v : V} {e1 : Env} (ha : aop ty tk o e h = .val p v e1 h) :
    s ∈ l ∧ ∃ u, aop ty tk o e' h = .val p v (e'.put s u) h := by
  obtain ⟨dst, op, type, pos, after, guard⟩ := o
  unfold takeOf at ht
  split at ht
  · rename_i t s' hi hop
    simp only [] at hop
    subst hop
    simp only [] at ht
    split at ht
    case isFalse => cases ht
    rename_i htk
    injection ht with ht; subst ht
    simp only [reads, Option.some.injEq] at hr
    subst hr
    refine ⟨by simp [rd], ?_⟩
    simp only [aop] at ha ⊢
    have e1 : e.get s' = e'.get s' := hl s' (by simp [rd])
    have e2 : ev ty e 0 hi = ev ty e' 0 hi := ev_congr fun i hi' => hl i (by simp only [rdo, List.mem_append]; exact .inr (.inr hi'))
    rw [htk] at ha ⊢
    simp only [sliceOp, Option.map_none, Option.map_some, e1, e2] at ha ⊢
    unfold cut at ha ⊢
    split at ha
    · split at ha
      · simp only [Res.val.injEq, and_true] at ha ⊢
        exact ⟨_, ha.1, ha.2.1, rfl⟩
      · cases ha
    · split at ha
      · simp only [Res.val.injEq, and_true] at ha ⊢
        exact ⟨_, ha.1, ha.2.1, rfl⟩
      · cases ha
    · rename_i hlo
      cases hlo
    · cases ha
  · rename_i c hop
    simp only [] at hop
    subst hop
    obtain ⟨callee, ⟨args⟩, ts⟩ := c
    simp only [] at ht
    split at ht
    case h_2 => cases ht
    rename_i s' x
    split at ht
    · cases ht
    injection ht with ht; subst ht
    simp only [reads, Option.some.injEq] at hr
    subst hr
    refine ⟨by simp, ?_⟩
    simp only [aop] at ha ⊢
    split at ha
    · exact (rowApp_heap _ ha).elim
    rename_i hrw
    rw [if_neg hrw]
    match ts, ha with
    | ⟨[t, t']⟩, ha =>
      simp only [builtin] at ha ⊢
      rw [ev_congr (x := x) (e' := e') fun i hi => hl i (by simp [hi])] at ha
      split at ha
      · rename_i htt
        rw [if_pos htt]
        have hs := hl s' (by simp)
        rw [hs] at ha
        cases hr : append ty t (e'.get s').asOwn (ev ty e' t x) with
        | ok q u =>
          rw [hr] at ha
          simp only [R1.res, Res.val.injEq, and_true] at ha ⊢
          exact ⟨_, ha.1, ha.2.1, rfl⟩
        | bad => rw [hr] at ha; simp [R1.res] at ha
      · cases ha
    | ⟨[]⟩, ha => simp [builtin] at ha
    | ⟨[_]⟩, ha => simp [builtin] at ha
    | ⟨_ :: _ :: _ :: _⟩, ha => simp [builtin] at ha
  · rename_i s' hop
    simp only [] at hop
    subst hop
    simp only [] at ht
    split at ht
    case isFalse => cases ht
    rename_i hne
    injection ht with ht; subst ht
    simp only [reads, Option.some.injEq] at hr
    subst hr
    refine ⟨by simp [rd], ?_⟩
    have e1 : e.get s' = e'.get s' := hl s' (by simp [rd])
    simp only [aop] at ha ⊢
    rw [if_pos hne] at ha ⊢
    simp only [Res.val.injEq, and_true] at ha ⊢
    exact ⟨_, ha.1, by rw [← e1]; exact ha.2.1, rfl⟩
  · cases ht

theorem pureKT_step {K : Env → Prop} (hp : pureKT ty C n tk T h (wanted ops o e) o e K) : ∃ v, StepAtT ty C n tk T ops h o e v ∧ K (putD o.dst e v) := by
  unfold pureKT at hp
  cases hw : wanted ops o e with
  | none => rw [hw] at hp; exact hp.elim
  | some b =>
    rw [hw] at hp
    cases b with
    | false => exact ⟨.tup [], ⟨hp.1, .inr (.inl ⟨hw, rfl⟩)⟩, hp.2⟩
    | true =>
      simp only [] at hp
      cases ha : aop ty tk o e h with
      | val p v e1 h1 =>
        rw [ha] at hp
        obtain ⟨h1, h2, rfl, h4, h5⟩ := hp
        cases ht : takeT tk T o with
        | none =>
          obtain rfl := h2 ht
          exact ⟨v, ⟨h4, .inl ⟨hw, p, ha, h1⟩⟩, h5⟩
        | some s => exact ⟨v, ⟨h4, .inr (.inr (.inr ⟨hw, s, p, e1, ht, ha, h1⟩))⟩, h5⟩
      | call f args =>
        rw [ha] at hp
        obtain ⟨v, h1, h2, h3⟩ := hp
        exact ⟨v, ⟨h2, .inr (.inr (.inl ⟨hw, f, args, ha, h1⟩))⟩, h3⟩
      | _ => rw [ha] at hp; exact hp.elim
theorem evalPureT_trace {K : Env → Prop} : ∀ (l : List Oper) (e : Env), evalPureT ty C n tk T ops h l K e →
    ∃ vals : List V, vals.length = l.length ∧ (∀ i o v, l[i]? = some o → vals[i]? = some v → StepAtT ty C n tk T ops h o (putsL e (l.take i) (vals.take i)) v) ∧ K (putsL e l vals)
  | [], e, hp => ⟨[], rfl, fun i o v ho => by simp at ho, hp⟩
  | o :: os, e, hp => by
    obtain ⟨v, hs, hk⟩ := pureKT_step hp
    obtain ⟨vals, hl, hst, hK⟩ := evalPureT_trace os _ hk
    refine ⟨v :: vals, by simp [hl], fun i o' v' ho hv => ?_, hK⟩
    cases i with
    | zero => simp at ho hv; subst ho; subst hv; exact hs
    | succ i => simp at ho hv; exact hst i o' v' ho hv

/-- What is kept stays in its place. -/
theorem kept_step {ks : List Nat} {e0 e2 : Env} (hkb : keptB ops ks e0.keys = true) {i : Nat} {d : Option Nat} {l : List Nat} (hi : ops[i]? = some o) (hO : Ord1 tk ops i o d l) (hk : e.kept ks = e0.kept ks) {v : V} (he2 : e2 = e ∨ ∃ k u, k ∈ l ∧ e2 = e.put k u) : (putD o.dst e2 v).kept ks = e0.kept ks := by
  have hkin : ∀ k, (o.dst = some k ∨ k ∈ l) → ks.contains k = true → k ∈ e0.kept ks := by
    intro k hk hc
    unfold keptB at hkb
    simp only [Bool.and_eq_true] at hkb
    have h1 := List.all_eq_true.1 hkb.2 o (List.mem_of_getElem? hi)
    rw [hO.reads] at h1
    have h2 := List.all_eq_true.1 h1 k (by rcases hk with hk | hk <;> simp [hk])
    rw [hc] at h2
    simp only [Bool.not_true, Bool.false_or] at h2
    exact List.mem_filter.2 ⟨List.contains_iff_mem.1 h2, hc⟩
  have hk2 : e2.kept ks = e0.kept ks := by
    rcases he2 with rfl | ⟨k, u, hk', rfl⟩
    · exact hk
    · rw [kept_put u fun hc => by rw [hk]; exact hkin k (.inr hk') hc]
      exact hk
  rw [kept_putD v fun x hd hc => by rw [hk2]; exact hkin x (.inl hd) hc]
  exact hk2

/-- The run beside its shade, from which nothing is taken. -/
structure Shade (T : List Nat) (ops : List Oper) (ks : List Nat) (e0 : Env) (listed : Array Bool) (e g : Env) : Prop where
  same : ∀ x, (∀ i o, ops[i]? = some o → listed.getD i false = true → takeT tk T o ≠ some x) → e.get x = g.get x
  kept : e.kept ks = e0.kept ks

theorem takeB_kept {ks : List Nat} (htb : takeB tk T ops ks = true) {i : Nat} {o : Oper} {s : Nat} (hi : ops[i]? = some o) (ht : takeT tk T o = some s) : ¬ ks.contains s = true := by
  unfold takeB at htb
  simp only [Bool.and_eq_true] at htb
  obtain ⟨_, hc⟩ := takeT_of ht
  intro hk
  have := List.all_eq_true.1 htb.1 s (List.contains_iff_mem.1 hc)
  rw [hk] at this; cases this
/-- What an order comes to, beside the text's order: the same but for what was taken. -/
def Beside (T : List Nat) (ops : List Oper) (ks : List Nat) (e0 : Env) (P : Env → Prop) (e : Env) : Prop :=
  ∃ g, P g ∧ g.kept ks = e0.kept ks ∧ e.kept ks = e0.kept ks ∧ ∀ x, (∀ (i : Nat) (o : Oper), ops[i]? = some o → takeT tk T o ≠ some x) → e.get x = g.get x
theorem any_of_pureG (ho : ordB tk ops = true) {ks : List Nat} {e0 : Env} (hkb : keptB ops ks e0.keys = true) (htb : takeB tk T ops ks = true) {P : Env → Prop} {X : V → Env → H → Prop} (hp : evalPureT ty C n tk T ops h ops P e0) :
    evalAny ty C n tk ops (fun e h' => h' = h ∧ Beside (tk := tk) T ops ks e0 P e) X ops.length (Array.replicate ops.length false) e0 h := by
  obtain ⟨vals, hvl, hst, hK⟩ := evalPureT_trace ops e0 hp
  have hnd : (e0.kept ks).Nodup := by
    unfold keptB at hkb
    simp only [Bool.and_eq_true, decide_eq_true_eq] at hkb
    exact hkb.1
  have hkf : (putsL e0 ops vals).kept ks = e0.kept ks := by
    have : ∀ (l : List Oper) (us : List V) (e : Env), (∀ o ∈ l, o ∈ ops) → e.kept ks = e0.kept ks → (putsL e l us).kept ks = e0.kept ks := by
      intro l
      induction l with
      | nil => intro us e _ he; exact he
      | cons o os ih =>
        intro us e hm he
        cases us with
        | nil => exact he
        | cons u us =>
          simp only [putsL]
          refine ih us _ (fun o' ho' => hm o' (List.mem_cons_of_mem _ ho')) ?_
          obtain ⟨i, hi⟩ := List.getElem?_of_mem (hm o List.mem_cons_self)
          obtain ⟨d, l', hO⟩ := ord_one ho hi
          exact kept_step hkb hi hO he (.inl rfl)
    exact this ops vals e0 (fun o ho => ho) rfl
  unfold takeB at htb
  simp only [Bool.and_eq_true] at htb
  have htk : ∀ (i : Nat) (o : Oper) (s : Nat), ops[i]? = some o → takeT tk T o = some s → ¬ ks.contains s = true ∧ ∀ (j : Nat) (oj : Oper) (l : List Nat), ops[j]? = some oj → reads oj = some l → j ≠ i → s ∉ l ++ gslots ops oj := by
    intro i o s hi ht
    obtain ⟨_, hc⟩ := takeT_of ht
    refine ⟨fun hk => ?_, fun j oj l hj hr hne hm => ?_⟩
    · have := List.all_eq_true.1 htb.1 s (List.contains_iff_mem.1 hc)
      rw [hk] at this; cases this
    · have h1 := List.all_eq_true.1 htb.2 i (List.mem_range.2 (List.getElem?_eq_some_iff.1 hi).1)
      rw [hi] at h1
      simp only [Option.bind_some, ht] at h1
      have h2 := List.all_eq_true.1 h1 j (List.mem_range.2 (List.getElem?_eq_some_iff.1 hj).1)
      rw [hj] at h2
      simp only [hr, Option.getD_some, Bool.or_eq_true, beq_iff_eq, hne, false_or, Bool.not_eq_true'] at h2
      rw [List.contains_iff_mem.2 hm] at h2
      cases h2
  have hend : ∀ (listed : Array Bool) (e g : Env), AnyInv ops vals ks e0 listed g → Shade (tk := tk) T ops ks e0 listed e g → (∀ j, j < ops.length → listed.getD j false = true) → Beside (tk := tk) T ops ks e0 P e := by
    intro listed e g inv sh hall
    have hsame : ∀ x, g.get x = (putsL e0 ops vals).get x := by
      intro x
      by_cases hw : ∃ (j : Nat) (oj : Oper), ops[j]? = some oj ∧ oj.dst = some x
      · obtain ⟨j, oj, hj, hdj⟩ := hw
        have hjl := (List.getElem?_eq_some_iff.1 hj).1
        have hjv : j < vals.length := by omega
        obtain ⟨dj, lj, hOj⟩ := ord_one ho hj
        rw [inv.done j oj x vals[j] hj hdj (hall j hjl) (List.getElem?_eq_getElem hjv)]
        refine (putsL_some ops vals e0 j oj _ hj hdj (List.getElem?_eq_getElem hjv) fun k o' hk hdk => ?_).symm
        apply Classical.byContradiction
        intro hkj
        have := (hOj.other k o' x hk hdk hkj).1
        have hd2 := hOj.dst; rw [hdj] at hd2
        exact this hd2
      · have hno : ∀ (k : Nat) (o' : Oper), ops[k]? = some o' → o'.dst ≠ some x := fun k o' hk hdk => hw ⟨k, o', hk, hdk⟩
        rw [inv.rest x fun k ok hk hdk => absurd hdk (hno k ok hk)]
        exact (putsL_none _ _ _ hno).symm
    exact ⟨_, hK, hkf, sh.kept, fun x hx => by rw [sh.same x (fun i o hi _ => hx i o hi), hsame x]⟩
  have main : ∀ (k : Nat) (listed : Array Bool) (e g : Env), AnyInv ops vals ks e0 listed g → Shade (tk := tk) T ops ks e0 listed e g → listed.toList.count false = k → evalAny ty C n tk ops (fun e h' => h' = h ∧ Beside (tk := tk) T ops ks e0 P e) X k listed e h := by
    intro k
    induction k with
    | zero =>
      intro listed e g inv sh hc
      have hall : ∀ j, j < ops.length → listed.getD j false = true := by
        intro j hj
        have hjl : j < listed.size := by rw [inv.size]; exact hj
        have hne := List.count_eq_zero.1 hc
        simp only [Array.getD_eq_getD_getElem?, Array.getElem?_eq_getElem hjl, Option.getD_some]
        cases hb : listed[j] with
        | true => rfl
        | false => exact absurd (by rw [← hb]; exact Array.getElem_mem_toList hjl) hne
      refine ⟨?_, rfl, hend listed e g inv sh hall⟩
      rw [List.eq_nil_iff_forall_not_mem]
      intro j hj
      rw [mem_ready] at hj
      obtain ⟨h0, o, hoj, _⟩ := hj
      have hjl : j < ops.length := by have := (Array.getElem?_eq_some_iff.1 hoj).1; simpa using this
      have h1 := hall j hjl
      have hjl' : j < listed.size := by rw [inv.size]; exact hjl
      simp only [Array.getD_eq_getD_getElem?, Array.getElem?_eq_getElem hjl', Option.getD_some] at h0 h1
      rw [h0] at h1; cases h1
    | succ k ih =>
      intro listed e g inv sh hc
      refine ⟨fun hr => ⟨rfl, hend listed e g inv sh (all_listed ho inv.size hr)⟩, fun i hi => ?_⟩
      rw [mem_ready] at hi
      obtain ⟨hun, o, hoi, hrd⟩ := hi
      have hoi' : ops[i]? = some o := by simpa using hoi
      have hil := (List.getElem?_eq_some_iff.1 hoi').1
      obtain ⟨d, l, hO⟩ := ord_one ho hoi'
      have hiv : i < vals.length := by omega
      have hv := List.getElem?_eq_getElem hiv
      have hli : i < listed.size := by rw [inv.size]; exact hil
      have hrdG := inv_reads ho hvl inv hoi' hO hun hrd
      have hrdS : ∀ x ∈ l ++ gslots ops o, (putsL e0 (ops.take i) (vals.take i)).get x = e.get x := by
        intro x hx
        rw [hrdG x hx]
        refine (sh.same x fun j oj hj hlj ht => ?_).symm
        have hji : i ≠ j := by
          rintro rfl
          have hun' : listed.getD i false = false := by
            simp only [Array.getD_eq_getD_getElem?, Array.getElem?_eq_getElem hli, Option.getD_some] at hun ⊢; exact hun
          rw [hun'] at hlj; cases hlj
        exact (htk j oj x hj ht).2 i o l hoi' hO.reads hji hx
      obtain ⟨hdst, hcase⟩ := hst i o vals[i] hoi' hv
      have hcnt : (listed.setIfInBounds i true).toList.count false = k := by
        have hun' : listed.toList[i]? = some false := by
          simp only [Array.getD_eq_getD_getElem?, Array.getElem?_eq_getElem hli, Option.getD_some] at hun
          simp [hli, hun]
        have := count_set hun'
        rw [Array.toList_setIfInBounds]
        omega
      have hwc : wanted ops o (putsL e0 (ops.take i) (vals.take i)) = wanted ops o e := wanted_congr fun x hx => hrdS x (List.mem_append_right _ hx)
      have hinv := inv_step ho hvl hkb inv hoi' hO hun hrd hv (fun _ => rfl) (.inl rfl)
      -- the shade goes on
      have hsh : ∀ e2 : Env, (e2 = e ∨ ∃ k u, k ∈ l ∧ e2 = e.put k u) → (∀ x, takeT tk T o ≠ some x → e2.get x = e.get x) → Shade (tk := tk) T ops ks e0 (listed.setIfInBounds i true) (putD o.dst e2 vals[i]) (putD o.dst g vals[i]) := by
        intro e2 he2 hs2
        refine ⟨fun x hx => ?_, kept_step hkb hoi' hO sh.kept he2⟩
        by_cases hxd : o.dst = some x
        · rw [putD_self hxd, putD_self hxd]
        · rw [putD_ne hxd, putD_ne hxd, hs2 x (hx i o hoi' (by simp [hli]))]
          refine sh.same x fun j oj hj hlj => ?_
          by_cases hji : j = i
          · subst hji
            rw [hoi'] at hj; injection hj with hj; subst hj
            exact hx j o hoi' (by simp [hli])
          · exact hx j oj hj (getD_set_true hlj)
      refine ⟨o, hoi', ?_⟩
      rcases hcase with ⟨hw, p, ha, hpp⟩ | ⟨hw, hvt⟩ | ⟨hw, f, args, ha, hcl⟩ | ⟨hw, s, p, e1, ht, ha, hpp⟩
      · obtain ⟨e2, ha2, hsame, hex⟩ := aop_congr hO.reads hO.tk (fun x hx => hrdS x (List.mem_append_left _ hx)) ha
        rw [← hwc, hw, runOp_tt, ha2, upon_val]
        exact ⟨hpp, hdst, ih _ _ _ hinv (hsh e2 hex fun x _ => hsame x) hcnt⟩
      · rw [← hwc, hw, runOp_ff, ← hvt]
        exact ⟨hdst, ih _ _ _ hinv (hsh e (.inl rfl) fun _ _ => rfl) hcnt⟩
      · have ha2 := aop_congr_call hO.reads (fun x hx => hrdS x (List.mem_append_left _ hx)) ha
        rw [← hwc, hw, runOp_tt, ha2, upon_call]
        exact ⟨hdst, hcl _ (ih _ _ _ hinv (hsh e (.inl rfl) fun _ _ => rfl) hcnt)⟩
      · obtain ⟨hsl, u, ha2⟩ := take_congr hO.reads (takeT_of ht).1 (fun x hx => hrdS x (List.mem_append_left _ hx)) ha
        rw [← hwc, hw, runOp_tt, ha2, upon_val]
        refine ⟨hpp, hdst, ih _ _ _ hinv (hsh _ (.inr ⟨s, u, hsl, rfl⟩) fun x hx => ?_) hcnt⟩
        have hxs : x ≠ s := fun hxs => hx (by rw [ht, hxs])
        exact get_put_ne hxs _ _
  refine main ops.length _ e0 e0 ⟨by simp, fun j o d v _ _ hs => ?_, fun x _ => rfl, fun j o _ hs => ?_, rfl⟩ ⟨fun _ _ => rfl, rfl⟩ (by simp)
  · simp only [Array.getD_eq_getD_getElem?, Array.getElem?_replicate] at hs; split at hs <;> simp at hs
  · simp only [Array.getD_eq_getD_getElem?, Array.getElem?_replicate] at hs; split at hs <;> simp at hs

theorem any_of_pureT (ho : ordB tk ops = true) {ks : List Nat} {e0 : Env} (hkb : keptB ops ks e0.keys = true) (htb : takeB tk T ops ks = true) {Q : Env → Prop} {X : V → Env → H → Prop} (hp : evalPureT ty C n tk T ops h ops (fun e => Q (e.keep ks)) e0) (hC : CMono C C) :
    evalAny ty C n tk ops (fun e h' => h' = h ∧ Q (e.keep ks)) X ops.length (Array.replicate ops.length false) e0 h := by
  refine evalAny_mono hC (fun e h' hk => ⟨hk.1, ?_⟩) (fun v env h hx => hx) _ _ _ _ (any_of_pureG ho hkb htb hp)
  obtain ⟨_, g, hP, h1, h2, h3⟩ := hk
  have hnd : (e0.kept ks).Nodup := by
    unfold keptB at hkb
    simp only [Bool.and_eq_true, decide_eq_true_eq] at hkb
    exact hkb.1
  rw [keep_eq ks e (by rw [h2]; exact hnd), h2]
  rw [keep_eq ks g (by rw [h1]; exact hnd), h1] at hP
  rw [List.map_congr_left (g := fun k => (k, g.get k)) fun k hk => by rw [h3 k fun i o hi ht => takeB_kept htb hi ht (List.mem_filter.1 hk).2]]
  exact hP

theorem wp_drawT (T : List Nat) (hC : CMono C C) {ks : List Nat} {id : Nat} {l : List Oper} {Q : PostX} {e0 : Env} {h : H} (ho : ordB tk l = true) (hkb : keptB l ks e0.keys = true) (htb : takeB tk T l ks = true)
    (hp : evalPureT ty C n tk T l h l (fun e => Q .normal (e.keep ks) h) e0) : wp ty C n ks tk (.region id ⟨l⟩ true) Q e0 h := by
  simp only [wp, if_true]
  refine .inl ?_
  have := any_of_pureT (C := C) (X := panQ Q) ho hkb htb (Q := fun e => Q .normal e h) hp hC
  refine evalAny_mono hC (fun env h' hk => ?_) (fun v env h hx => hx) _ _ _ _ this
  obtain ⟨rfl, hq⟩ := hk; exact hq
def pureRT (C : CallP) (n : Nat) (tk T : List Nat) (h : H) (r : Res) (o : Oper) (e : Env) (K : Env → Prop) : Prop :=
  match r with
  | .val p v e' h' => p ∧ (takeT tk T o = none → e' = e) ∧ h' = h ∧ dstOk n o.dst ∧ K (putD o.dst e v)
  | .call f args => ∃ v, (∀ Q : Out → H → Prop, Q (.ret v) h → C f args h Q) ∧ dstOk n o.dst ∧ K (putD o.dst e v)
  | _ => False
theorem evalPureT_nil {K : Env → Prop} {e : Env} : evalPureT ty C n tk T ops h [] K e = K e := rfl
theorem evalPureT_cons {o : Oper} {os : List Oper} {K : Env → Prop} {e : Env} : evalPureT ty C n tk T ops h (o :: os) K e = pureKT ty C n tk T h (wanted ops o e) o e (evalPureT ty C n tk T ops h os K) := rfl
theorem pureKT_tt {o : Oper} {K : Env → Prop} {e : Env} : pureKT ty C n tk T h (some true) o e K = pureRT C n tk T h (aop ty tk o e h) o e K := rfl
theorem pureKT_ff {o : Oper} {K : Env → Prop} {e : Env} : pureKT ty C n tk T h (some false) o e K = (dstOk n o.dst ∧ K (putD o.dst e (.tup []))) := rfl
theorem pureRT_val {o : Oper} {K : Env → Prop} {e e' : Env} {h' : H} {p : Prop} {v : V} : pureRT C n tk T h (.val p v e' h') o e K = (p ∧ (takeT tk T o = none → e' = e) ∧ h' = h ∧ dstOk n o.dst ∧ K (putD o.dst e v)) := rfl
theorem pureRT_call {o : Oper} {K : Env → Prop} {e : Env} {f : FuncId} {args : List V} : pureRT C n tk T h (.call f args) o e K = ∃ v, (∀ Q : Out → H → Prop, Q (.ret v) h → C f args h Q) ∧ dstOk n o.dst ∧ K (putD o.dst e v) := rfl
end
end Go.Proofs.YtmjohmefhikelaaDoor.Pv
