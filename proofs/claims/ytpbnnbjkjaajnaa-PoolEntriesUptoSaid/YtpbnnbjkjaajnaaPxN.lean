/- A region that draws its order, in which several operations, each behind the last, change the heap: printed by mkn.py. -/
import Derived.Test.YtpbnnbjkjaajnaaPxM
set_option linter.unusedVariables false
set_option linter.unusedSimpArgs false
namespace Go.Proofs.Ytpbnnbjkjaajnaa.Pv
open Go Go.Proofs

/-- Whether operation i may meet the heap behind the first k changes. -/
def allow (ms : List Nat) (need : List (List Nat)) (i k : Nat) : Bool :=
  (List.range ms.length).all fun j => match ms[j]? with
    | some m => (!((need[i]?).getD []).contains m || decide (j < k)) && (!((need[m]?).getD []).contains i || decide (k ≤ j))
    | none => true
/-- What is said to come ahead of an operation does so. -/
def needOK (ops : List Oper) (need : List (List Nat)) : Bool :=
  (List.range ops.length).all fun i => match ops[i]? with
    | some o => ((need[i]?).getD []).all fun j => o.after.toList.any fun a => Region.binds .any a && (a.on == j || ((need[a.on]?).getD []).contains j)
    | none => true
def chainOK (ms : List Nat) (need : List (List Nat)) : Bool :=
  (List.range ms.length).all fun k => (List.range k).all fun j => match ms[j]?, ms[k]? with
    | some a, some b => !(a == b) && ((need[b]?).getD []).contains a
    | _, _ => false
section
variable (ty : Nat → Ty) (C : CallP) (n : Nat) (tk : List Nat) (T : List Nat) (ops : List Oper) (ms : List Nat) (need : List (List Nat)) (hs : Nat → H)
def QuietAt (o : Oper) (e : Env) (v : V) (hp : H) : Prop :=
  (takeT tk T o = none ∧ tkB tk o.dst = false ∧ ∃ p, aop ty tk o e hp = .val p v e hp ∧ p) ∨ (∃ s p e1, takeT tk T o = some s ∧ aop ty tk o e hp = .val p v e1 hp ∧ p) ∨
    (∃ f args, aop ty tk o e hp = .call f args ∧ ∀ Q : Out → H → Prop, Q (.ret v) hp → C f args hp Q) ∨ isM tk o = true ∧ ∃ p, aop ty tk o e hp = .val p v e hp ∧ p
def MStep (o : Oper) (e : Env) (v : V) (ha hb : H) : Prop :=
  (isM tk o = true ∧ ∃ p, aop ty tk o e ha = .val p v e hb ∧ p) ∨ ∃ f args, aop ty tk o e ha = .call f args ∧ ∀ Q : Out → H → Prop, Q (.ret v) hb → C f args ha Q
def StepAtN (i : Nat) (o : Oper) (e : Env) (v : V) : Prop := dstOk n o.dst ∧ ((wanted ops o e = some false ∧ v = .tup [] ∧ ∀ k, ms[k]? = some i → hs (k + 1) = hs k) ∨
  (wanted ops o e = some true ∧ ∃ k, ms[k]? = some i ∧ MStep ty C tk o e v (hs k) (hs (k + 1))) ∨
  (wanted ops o e = some true ∧ i ∉ ms ∧ ∀ k, k ≤ ms.length → allow ms need i k = true → QuietAt ty C tk T o e v (hs k)))
end
section
variable {ty : Nat → Ty} {C : CallP} {n : Nat} {tk : List Nat} {T : List Nat} {ops : List Oper} {ms : List Nat} {need : List (List Nat)} {hs : Nat → H} {o : Oper} {e e' : Env}
theorem chain_need (hch : chainOK ms need = true) {j k a b : Nat} (hjk : j < k) (hj : ms[j]? = some a) (hk : ms[k]? = some b) : a ≠ b ∧ a ∈ (need[b]?).getD [] := by
  unfold chainOK at hch
  have h1 := List.all_eq_true.1 hch k (List.mem_range.2 (List.getElem?_eq_some_iff.1 hk).1)
  have h2 := List.all_eq_true.1 h1 j (List.mem_range.2 hjk)
  rw [hj, hk] at h2
  simp only [Bool.and_eq_true, Bool.not_eq_true', beq_eq_false_iff_ne] at h2
  exact ⟨h2.1, List.contains_iff_mem.1 h2.2⟩
theorem need_listed (ho : ordB [] ops = true) (hn : needOK ops need = true) {listed : Array Bool} (hsz : listed.size = ops.length)
    (hcl : ∀ (j : Nat) (o : Oper), ops[j]? = some o → listed.getD j false = true → ∀ a ∈ o.after, Region.binds .any a = true → listed.getD a.on false = true) :
    ∀ (i : Nat) (o : Oper), ops[i]? = some o → (∀ a ∈ o.after, Region.binds .any a = true → listed.getD a.on false = true) → ∀ j ∈ (need[i]?).getD [], listed.getD j false = true := by
  intro i
  induction i using Nat.strongRecOn with
  | ind i ih =>
    intro o hi hrd j hj
    unfold needOK at hn
    have h1 := List.all_eq_true.1 hn i (List.mem_range.2 (List.getElem?_eq_some_iff.1 hi).1)
    rw [hi] at h1
    have h2 := List.all_eq_true.1 h1 j hj
    obtain ⟨a, ha, hb⟩ := List.any_eq_true.1 h2
    simp only [Bool.and_eq_true, Bool.or_eq_true, beq_iff_eq] at hb
    have ha' : a ∈ o.after := by simpa using ha
    have hl := hrd a ha' hb.1
    rcases hb.2 with rfl | hm
    · exact hl
    · obtain ⟨d, l, hO⟩ := ord_one ho hi
      have hlt := hO.back a ha' hb.1
      have hal : a.on < ops.length := by have := (List.getElem?_eq_some_iff.1 hi).1; omega
      have hoa := List.getElem?_eq_getElem hal
      exact ih a.on hlt _ hoa (hcl _ _ hoa hl) j (List.contains_iff_mem.1 hm)

theorem any_of_N (ho : ordB [] ops = true) (hnk : needOK ops need = true) (hch : chainOK ms need = true) (hmr : ms.all (fun m => decide (m < ops.length)) = true) {ks : List Nat} {e0 : Env} (hkb : keptB ops ks e0.keys = true) (htb : takeB tk T ops ks = true) {P : Env → Prop} {X : V → Env → H → Prop}
    {vals : List V} (hvl : vals.length = ops.length) (hst : ∀ (i : Nat) (o : Oper) (v : V), ops[i]? = some o → vals[i]? = some v → StepAtN ty C n tk T ops ms need hs i o (putsL e0 (ops.take i) (vals.take i)) v) (hK : P (putsL e0 ops vals)) :
    evalAny ty C n tk ops (fun e h' => h' = hs ms.length ∧ Beside (tk := tk) T ops ks e0 P e) X ops.length (Array.replicate ops.length false) e0 (hs 0) := by
  have hnd : (e0.kept ks).Nodup := by
    unfold keptB at hkb
    simp only [Bool.and_eq_true, decide_eq_true_eq] at hkb
    exact hkb.1
  have hkf : (putsL e0 ops vals).kept ks = e0.kept ks := by
    have : ∀ (l : List Oper) (us : List V) (e : Env), (∀ o ∈ l, o ∈ ops) → e.kept ks = e0.kept ks → (putsL e l us).kept ks = e0.kept ks := by
      intro l
      induction l with
      | nil => intro us e _ he; exact he
      | cons o os ih =>
        intro us e hm he
        cases us with
        | nil => exact he
        | cons u us =>
          simp only [putsL]
          refine ih us _ (fun o' ho' => hm o' (List.mem_cons_of_mem _ ho')) ?_
          obtain ⟨i, hi⟩ := List.getElem?_of_mem (hm o List.mem_cons_self)
          obtain ⟨d, l', hO⟩ := ord_one ho hi
          exact kept_step hkb hi hO he (.inl rfl)
    exact this ops vals e0 (fun o ho => ho) rfl
  unfold takeB at htb
  simp only [Bool.and_eq_true] at htb
  have htk : ∀ (i : Nat) (o : Oper) (s : Nat), ops[i]? = some o → takeT tk T o = some s → ¬ ks.contains s = true ∧ ∀ (j : Nat) (oj : Oper) (l : List Nat), ops[j]? = some oj → reads oj = some l → j ≠ i → s ∉ l ++ gslots ops oj := by
    intro i o s hi ht
    obtain ⟨_, hc⟩ := takeT_of ht
    refine ⟨fun hk => ?_, fun j oj l hj hr hne hm => ?_⟩
    · have := List.all_eq_true.1 htb.1 s (List.contains_iff_mem.1 hc)
      rw [hk] at this; cases this
    · have h1 := List.all_eq_true.1 htb.2 i (List.mem_range.2 (List.getElem?_eq_some_iff.1 hi).1)
      rw [hi] at h1
      simp only [Option.bind_some, ht] at h1
      have h2 := List.all_eq_true.1 h1 j (List.mem_range.2 (List.getElem?_eq_some_iff.1 hj).1)
      rw [hj] at h2
      simp only [hr, Option.getD_some, Bool.or_eq_true, beq_iff_eq, hne, false_or, Bool.not_eq_true'] at h2
      rw [List.contains_iff_mem.2 hm] at h2
      cases h2
  have hend : ∀ (listed : Array Bool) (e g : Env), AnyInv ops vals ks e0 listed g → Shade (tk := tk) T ops ks e0 listed e g → (∀ j, j < ops.length → listed.getD j false = true) → Beside (tk := tk) T ops ks e0 P e := by
    intro listed e g inv sh hall
    have hsame : ∀ x, g.get x = (putsL e0 ops vals).get x := by
      intro x
      by_cases hw : ∃ (j : Nat) (oj : Oper), ops[j]? = some oj ∧ oj.dst = some x
      · obtain ⟨j, oj, hj, hdj⟩ := hw
        have hjl := (List.getElem?_eq_some_iff.1 hj).1
        have hjv : j < vals.length := by omega
        obtain ⟨dj, lj, hOj⟩ := ord_one ho hj
        rw [inv.done j oj x vals[j] hj hdj (hall j hjl) (List.getElem?_eq_getElem hjv)]
        refine (putsL_some ops vals e0 j oj _ hj hdj (List.getElem?_eq_getElem hjv) fun k o' hk hdk => ?_).symm
        apply Classical.byContradiction
        intro hkj
        have := (hOj.other k o' x hk hdk hkj).1
        have hd2 := hOj.dst; rw [hdj] at hd2
        exact this hd2
      · have hno : ∀ (k : Nat) (o' : Oper), ops[k]? = some o' → o'.dst ≠ some x := fun k o' hk hdk => hw ⟨k, o', hk, hdk⟩
        rw [inv.rest x fun k ok hk hdk => absurd hdk (hno k ok hk)]
        exact (putsL_none _ _ _ hno).symm
    exact ⟨_, hK, hkf, sh.kept, fun x hx => by rw [sh.same x (fun i o hi _ => hx i o hi), hsame x]⟩
  let HP : Array Bool → H → Prop := fun listed hp => ∃ c, c ≤ ms.length ∧ (∀ (j m : Nat), ms[j]? = some m → (listed.getD m false = true ↔ j < c)) ∧ hp = hs c
  have hpend : ∀ (listed : Array Bool) (hp : H), HP listed hp → (∀ j, j < ops.length → listed.getD j false = true) → hp = hs ms.length := by
    rintro listed hp ⟨c, hc, hx, rfl⟩ hall
    congr 1
    by_cases hlt : c < ms.length
    · have hm := List.getElem?_eq_getElem hlt
      have hmo : ms[c] < ops.length := of_decide_eq_true (List.all_eq_true.1 hmr _ (List.getElem_mem hlt))
      exact absurd ((hx c _ hm).1 (hall _ hmo)) (Nat.lt_irrefl c)
    · omega
  have main : ∀ (k : Nat) (listed : Array Bool) (e g : Env) (hp : H), HP listed hp → AnyInv ops vals ks e0 listed g → Shade (tk := tk) T ops ks e0 listed e g → listed.toList.count false = k → evalAny ty C n tk ops (fun e h' => h' = hs ms.length ∧ Beside (tk := tk) T ops ks e0 P e) X k listed e hp := by
    intro k
    induction k with
    | zero =>
      intro listed e g hp hhp inv sh hc
      have hall : ∀ j, j < ops.length → listed.getD j false = true := by
        intro j hj
        have hjl : j < listed.size := by rw [inv.size]; exact hj
        have hne := List.count_eq_zero.1 hc
        simp only [Array.getD_eq_getD_getElem?, Array.getElem?_eq_getElem hjl, Option.getD_some]
        cases hb : listed[j] with
        | true => rfl
        | false => exact absurd (by rw [← hb]; exact Array.getElem_mem_toList hjl) hne
      refine ⟨?_, hpend listed hp hhp hall, hend listed e g inv sh hall⟩
      rw [List.eq_nil_iff_forall_not_mem]
      intro j hj
      rw [mem_ready] at hj
      obtain ⟨h0, o, hoj, _⟩ := hj
      have hjl : j < ops.length := by have := (Array.getElem?_eq_some_iff.1 hoj).1; simpa using this
      have h9 := hall j hjl
      have hjl' : j < listed.size := by rw [inv.size]; exact hjl
      simp only [Array.getD_eq_getD_getElem?, Array.getElem?_eq_getElem hjl', Option.getD_some] at h0 h9
      rw [h0] at h9; cases h9
    | succ k ih =>
      intro listed e g hp hhp inv sh hc
      refine ⟨fun hr => ⟨hpend listed hp hhp (all_listed ho inv.size hr), hend listed e g inv sh (all_listed ho inv.size hr)⟩, fun i hi => ?_⟩
      rw [mem_ready] at hi
      obtain ⟨hun, o, hoi, hrd⟩ := hi
      have hoi' : ops[i]? = some o := by simpa using hoi
      have hil := (List.getElem?_eq_some_iff.1 hoi').1
      obtain ⟨d, l, hO⟩ := ord_one ho hoi'
      have hiv : i < vals.length := by omega
      have hv := List.getElem?_eq_getElem hiv
      have hli : i < listed.size := by rw [inv.size]; exact hil
      have hrdG := inv_reads ho hvl inv hoi' hO hun hrd
      have hrdS : ∀ x ∈ l ++ gslots ops o, (putsL e0 (ops.take i) (vals.take i)).get x = e.get x := by
        intro x hx
        rw [hrdG x hx]
        refine (sh.same x fun j oj hj hlj ht => ?_).symm
        have hji : i ≠ j := by
          rintro rfl
          have hun' : listed.getD i false = false := by
            simp only [Array.getD_eq_getD_getElem?, Array.getElem?_eq_getElem hli, Option.getD_some] at hun ⊢; exact hun
          rw [hun'] at hlj; cases hlj
        exact (htk j oj x hj ht).2 i o l hoi' hO.reads hji hx
      obtain ⟨hdst, hcase⟩ := hst i o vals[i] hoi' hv
      have hcnt : (listed.setIfInBounds i true).toList.count false = k := by
        have hun' : listed.toList[i]? = some false := by
          simp only [Array.getD_eq_getD_getElem?, Array.getElem?_eq_getElem hli, Option.getD_some] at hun
          simp [hli, hun]
        have := count_set hun'
        rw [Array.toList_setIfInBounds]
        omega
      have hwc : wanted ops o (putsL e0 (ops.take i) (vals.take i)) = wanted ops o e := wanted_congr fun x hx => hrdS x (List.mem_append_right _ hx)
      have hinv := inv_step ho hvl hkb inv hoi' hO hun hrd hv (fun _ => rfl) (.inl rfl)
      -- the shade goes on
      have hsh : ∀ e2 : Env, (e2 = e ∨ ∃ k u, k ∈ l ∧ e2 = e.put k u) → (∀ x, takeT tk T o ≠ some x → e2.get x = e.get x) → Shade (tk := tk) T ops ks e0 (listed.setIfInBounds i true) (putD o.dst e2 vals[i]) (putD o.dst g vals[i]) := by
        intro e2 he2 hs2
        refine ⟨fun x hx => ?_, kept_step hkb hoi' hO sh.kept he2⟩
        by_cases hxd : o.dst = some x
        · rw [putD_self hxd, putD_self hxd]
        · rw [putD_ne hxd, putD_ne hxd, hs2 x (hx i o hoi' (by simp [hli]))]
          refine sh.same x fun j oj hj hlj => ?_
          by_cases hji : j = i
          · subst hji
            rw [hoi'] at hj; injection hj with hj; subst hj
            exact hx j o hoi' (by simp [hli])
          · exact hx j oj hj (getD_set_true hlj)
      have hun' : listed.getD i false = false := by
        simp only [Array.getD_eq_getD_getElem?, Array.getElem?_eq_getElem hli, Option.getD_some] at hun ⊢; exact hun
      have hneed : ∀ m, m ∈ (need[i]?).getD [] → listed.getD m false = true := need_listed ho hnk inv.size inv.closed i o hoi' hrd
      have hback : ∀ (m : Nat) (om : Oper), ops[m]? = some om → listed.getD m false = true → i ∉ (need[m]?).getD [] := fun m om hm hl hmem => by
        have := need_listed ho hnk inv.size inv.closed m om hm (inv.closed m om hm hl) i hmem
        rw [hun'] at this; cases this
      obtain ⟨c, hcl, hcx, rfl⟩ := hhp
      have hmo : ∀ (j m : Nat), ms[j]? = some m → ∃ om, ops[m]? = some om := fun j m hj => by
        have : m < ops.length := of_decide_eq_true (List.all_eq_true.1 hmr _ (List.mem_of_getElem? hj))
        exact ⟨_, List.getElem?_eq_getElem this⟩
      have hset : (listed.setIfInBounds i true).getD i false = true := by
        simp only [Array.getD_eq_getD_getElem?]
        rw [Array.getElem?_setIfInBounds_self_of_lt hli]; rfl
      have hoth : ∀ m, m ≠ i → (listed.setIfInBounds i true).getD m false = listed.getD m false := fun m hm => by
        simp only [Array.getD_eq_getD_getElem?]
        rw [Array.getElem?_setIfInBounds_ne (fun h => hm h.symm)]
      -- what changes nothing
      have hq0 : i ∉ ms → HP (listed.setIfInBounds i true) (hs c) := fun hni => by
        refine ⟨c, hcl, fun j m hj => ?_, rfl⟩
        rw [hoth m (fun e => hni (e ▸ List.mem_of_getElem? hj))]
        exact hcx j m hj
      -- what changes the heap has just this one ahead of it
      have hmc : ∀ k, ms[k]? = some i → c = k ∧ HP (listed.setIfInBounds i true) (hs (k + 1)) := by
        intro k hk
        have hkl := (List.getElem?_eq_some_iff.1 hk).1
        have h1 : ¬ k < c := fun h => by rw [(hcx k i hk).2 h] at hun'; cases hun'
        have h2 : ¬ c < k := fun h => by
          have hcm := List.getElem?_eq_getElem (Nat.lt_trans h hkl)
          have := hneed _ (chain_need hch h hcm hk).2
          exact absurd ((hcx c _ hcm).1 this) (Nat.lt_irrefl c)
        have e : c = k := by omega
        subst e
        refine ⟨rfl, c + 1, by omega, fun j m hj => ?_, rfl⟩
        by_cases hjc : j = c
        · subst hjc
          rw [hk] at hj; injection hj with hj; subst hj
          exact ⟨fun _ => by omega, fun _ => hset⟩
        · have hne : m ≠ i := fun e => by
            subst e
            rcases Nat.lt_or_gt_of_ne hjc with h | h
            · exact (chain_need hch h hj hk).1 rfl
            · exact (chain_need hch h hk hj).1 rfl
          rw [hoth m hne, hcx j m hj]
          omega
      have hal : allow ms need i c = true := by
        unfold allow
        refine List.all_eq_true.2 fun j hj => ?_
        have hjl := List.mem_range.1 hj
        rw [List.getElem?_eq_getElem hjl]
        simp only [Bool.and_eq_true, Bool.or_eq_true, Bool.not_eq_true', decide_eq_true_eq]
        have hjm := List.getElem?_eq_getElem hjl
        constructor
        · by_cases hm : ((need[i]?).getD []).contains ms[j] = true
          · exact .inr ((hcx j _ hjm).1 (hneed _ (List.contains_iff_mem.1 hm)))
          · exact .inl (by simpa using hm)
        · by_cases hm : ((need[ms[j]]?).getD []).contains i = true
          · refine .inr ?_
            apply Classical.byContradiction
            intro hcj
            obtain ⟨om, hom⟩ := hmo j _ hjm
            exact hback _ om hom ((hcx j _ hjm).2 (by omega)) (List.contains_iff_mem.1 hm)
          · exact .inl (by simpa using hm)
      refine ⟨o, hoi', ?_⟩
      rcases hcase with ⟨hw, hvt, hsame⟩ | ⟨hw, k, hk, hcase⟩ | ⟨hw, hni, hcase⟩
      · rw [← hwc, hw, runOp_ff, ← hvt]
        by_cases hmi : i ∈ ms
        · obtain ⟨k, hk⟩ := List.getElem?_of_mem hmi
          obtain ⟨rfl, hH⟩ := hmc k hk
          rw [← hsame _ hk]
          exact ⟨hdst, ih _ _ _ _ hH hinv (hsh e (.inl rfl) fun _ _ => rfl) hcnt⟩
        · exact ⟨hdst, ih _ _ _ _ (hq0 hmi) hinv (hsh e (.inl rfl) fun _ _ => rfl) hcnt⟩
      · obtain ⟨rfl, hH⟩ := hmc k hk
        rcases hcase with ⟨hml, p, ha, hpp⟩ | ⟨f, args, ha, hc1⟩
        · obtain ⟨e2, ha2, hsame, hex⟩ := loadM_congr hO.reads hml (fun x hx => hrdS x (List.mem_append_left _ hx)) ha
          rw [← hwc, hw, runOp_tt, ha2, upon_val]
          exact ⟨hpp, hdst, ih _ _ _ _ hH hinv (hsh e2 hex fun x _ => hsame x) hcnt⟩
        · have ha2 := aop_congr_call hO.reads (fun x hx => hrdS x (List.mem_append_left _ hx)) ha
          rw [← hwc, hw, runOp_tt, ha2, upon_call]
          exact ⟨hdst, hc1 _ (ih _ _ _ _ hH hinv (hsh e (.inl rfl) fun _ _ => rfl) hcnt)⟩
      · rcases hcase c hcl hal with ⟨htn, htk0, p, ha, hpp⟩ | ⟨s, p, e1, ht, ha, hpp⟩ | ⟨f, args, ha, hc1⟩ | ⟨hml, p, ha, hpp⟩
        · obtain ⟨e2, ha2, hsame, hex⟩ := aop_congr hO.reads (.inl htk0) (fun x hx => hrdS x (List.mem_append_left _ hx)) ha
          rw [← hwc, hw, runOp_tt, ha2, upon_val]
          exact ⟨hpp, hdst, ih _ _ _ _ (hq0 hni) hinv (hsh e2 hex fun x _ => hsame x) hcnt⟩
        · obtain ⟨hsl, u, ha2⟩ := take_congr hO.reads (takeT_of ht).1 (fun x hx => hrdS x (List.mem_append_left _ hx)) ha
          rw [← hwc, hw, runOp_tt, ha2, upon_val]
          refine ⟨hpp, hdst, ih _ _ _ _ (hq0 hni) hinv (hsh _ (.inr ⟨s, u, hsl, rfl⟩) fun x hx => ?_) hcnt⟩
          have hxs : x ≠ s := fun hxs => hx (by rw [ht, hxs])
          exact get_put_ne hxs _ _
        · have ha2 := aop_congr_call hO.reads (fun x hx => hrdS x (List.mem_append_left _ hx)) ha
          rw [← hwc, hw, runOp_tt, ha2, upon_call]
          exact ⟨hdst, hc1 _ (ih _ _ _ _ (hq0 hni) hinv (hsh e (.inl rfl) fun _ _ => rfl) hcnt)⟩
        · obtain ⟨e2, ha2, hsame, hex⟩ := loadM_congr hO.reads hml (fun x hx => hrdS x (List.mem_append_left _ hx)) ha
          rw [← hwc, hw, runOp_tt, ha2, upon_val]
          exact ⟨hpp, hdst, ih _ _ _ _ (hq0 hni) hinv (hsh e2 hex fun x _ => hsame x) hcnt⟩
  refine main ops.length _ e0 e0 (hs 0) ⟨0, Nat.zero_le _, fun j m hm => ?_, rfl⟩ ⟨by simp, fun j o d v _ _ hsx => ?_, fun x _ => rfl, fun j o _ hsx => ?_, rfl⟩ ⟨fun _ _ => rfl, rfl⟩ (by simp)
  · simp only [Array.getD_eq_getD_getElem?, Array.getElem?_replicate]; split <;> simp
  · simp only [Array.getD_eq_getD_getElem?, Array.getElem?_replicate] at hsx; split at hsx <;> simp at hsx
  · simp only [Array.getD_eq_getD_getElem?, Array.getElem?_replicate] at hsx; split at hsx <;> simp at hsx

/-- The last operation: a store of one slot behind another. -/
theorem any_drawNS (T : List Nat) (hC : CMono C C) (k : Nat) {last : Oper} {t a x : Nat} {ks : List Nat} {ops : List Oper} {Q : PostX} {e0 : Env} (hk : ops[k]? = some last) (hlen : ops.length = k + 1)
    (hop : last.op = .store t (.tmp a) (.tmp x)) (hg : last.guard = none) (hd : last.dst = none) (hax : (T.contains a || T.contains x || ks.contains x || a == x) = false)
    (ho : ordB [] (ops.take k) = true) (hnk : needOK (ops.take k) need = true) (hch : chainOK ms need = true) (hmr : ms.all (fun m => decide (m < ((ops.take k)).length)) = true) (hkb : keptB (ops.take k) ks e0.keys = true) (htb : takeB tk T (ops.take k) ks = true) (hcov : coverB ops k = true) (hback : backB ops = true)
    {vals : List V} (hvl : vals.length = ((ops.take k)).length) (hst : ∀ (i : Nat) (o : Oper) (v : V), ((ops.take k))[i]? = some o → vals[i]? = some v → StepAtN ty C n tk T ((ops.take k)) ms need hs i o (putsL e0 (((ops.take k)).take i) (vals.take i)) v) (hp : (fun g => stK ty t (g.get a).demote (g.get x) (hs ms.length) fun h' => Q .normal (g.keep ks) h') (putsL e0 ((ops.take k)) vals)) : evalAny ty C n tk ops (regQ ks Q) (panQ Q) ops.length (Array.replicate ops.length false) e0 (hs 0) := by
  have hl : (ops.take k).length = k := by rw [List.length_take]; omega
  have hsplit : ops = ops.take k ++ [last] := by
    apply List.ext_getElem?
    intro i
    by_cases hi : i < k
    · rw [List.getElem?_append_left (by omega), List.getElem?_take, if_pos hi]
    · by_cases hi2 : i = k
      · subst hi2
        rw [List.getElem?_append_right (by omega), hk, hl]; simp
      · rw [List.getElem?_eq_none (by omega), List.getElem?_eq_none (by simp; omega)]
  simp only [Bool.or_eq_false_iff, beq_eq_false_iff_ne, ne_eq] at hax
  obtain ⟨⟨⟨hTa, hTx⟩, hkx⟩, hne⟩ := hax
  have hG := any_of_N (C := C) (X := panQ Q) (P := fun g => stK ty t (g.get a).demote (g.get x) (hs ms.length) fun h' => Q .normal (g.keep ks) h') ho hnk hch hmr hkb htb hvl hst hp
  have hnd : (e0.kept ks).Nodup := by
    unfold keptB at hkb
    simp only [Bool.and_eq_true, decide_eq_true_eq] at hkb
    exact hkb.1
  have hlast : ∀ (e : Env) (h2 : H), (h2 = hs ms.length ∧ Beside (tk := tk) T (ops.take k) ks e0 (fun g => stK ty t (g.get a).demote (g.get x) (hs ms.length) fun h' => Q .normal (g.keep ks) h') e) →
      runOp ty C n tk (wanted (ops.take k ++ [last]) last e) last e h2 (fun env h => Q .normal (env.keep ks) h) (panQ Q) := by
    rintro e h0 ⟨rfl, g, hP, k1, k2, k3⟩
    have hw : wanted (ops.take k ++ [last]) last e = some true := by simp only [wanted, hg]
    have hnt : ∀ y, T.contains y = false → ∀ (i : Nat) (o : Oper), (ops.take k)[i]? = some o → takeT tk T o ≠ some y := by
      intro y hy i o hi ht
      have := (takeT_of ht).2
      rw [hy] at this; cases this
    have ha : e.get a = g.get a := k3 a (hnt a hTa)
    have hx : e.get x = g.get x := k3 x (hnt x hTx)
    have hkeep : ∀ v, (e.put x v).keep ks = g.keep ks := by
      intro v
      have hkp : (e.put x v).kept ks = e0.kept ks := by
        rw [kept_put v fun hc => by rw [hkx] at hc; cases hc]; exact k2
      rw [keep_eq ks _ (by rw [hkp]; exact hnd), hkp, keep_eq ks g (by rw [k1]; exact hnd), k1]
      refine List.map_congr_left fun y hy => ?_
      have hyk := (List.mem_filter.1 hy).2
      rw [get_put_ne (fun hyx => by subst hyx; rw [hkx] at hyk; cases hyk), k3 y fun i o hi ht => takeB_kept htb hi ht hyk]
    rw [hw, runOp_tt]
    have hao : aop ty tk last e (hs ms.length) = store ty t (e.get a).demote (e.get x) (e.put x (e.get x).demote) (hs ms.length) := by
      unfold aop
      rw [hop]
      rfl
    rw [hao, ha, hx]
    exact store_upon hd hP fun h' hq => by rw [hkeep]; exact hq
  have := any_app hC ho (last := last) (by rw [hl, ← hsplit]; exact hcov) (by rw [← hsplit]; exact hback) hlast (ops.take k).length (Array.replicate (ops.take k).length false) e0 (hs 0) (by simp) (fun i o hi hl _ _ _ => by simp [Array.getD_eq_getD_getElem?, Array.getElem?_replicate] at hl; split at hl <;> simp at hl) hG
  rw [← hsplit, hl] at this
  have e2 : (Array.replicate k false).push false = Array.replicate ops.length false := by
    rw [hlen]; apply Array.toList_inj.1; simp [List.replicate_succ']
  rw [e2, ← hlen] at this
  exact this

theorem any_drawN (T : List Nat) (hC : CMono C C) {ks : List Nat} {l : List Oper} {Q : PostX} {e0 : Env} (ho : ordB [] l = true) (hnk : needOK l need = true) (hch : chainOK ms need = true) (hmr : ms.all (fun m => decide (m < (l).length)) = true) (hkb : keptB l ks e0.keys = true) (htb : takeB tk T l ks = true)
    {vals : List V} (hvl : vals.length = (l).length) (hst : ∀ (i : Nat) (o : Oper) (v : V), (l)[i]? = some o → vals[i]? = some v → StepAtN ty C n tk T (l) ms need hs i o (putsL e0 ((l).take i) (vals.take i)) v) (hp : (fun e => Q .normal (e.keep ks) (hs ms.length)) (putsL e0 (l) vals)) : evalAny ty C n tk l (regQ ks Q) (panQ Q) l.length (Array.replicate l.length false) e0 (hs 0) := by
  have := any_of_N (C := C) (X := panQ Q) (P := fun e => Q .normal (e.keep ks) (hs ms.length)) ho hnk hch hmr hkb htb hvl hst hp
  have hnd : (e0.kept ks).Nodup := by
    unfold keptB at hkb
    simp only [Bool.and_eq_true, decide_eq_true_eq] at hkb
    exact hkb.1
  refine evalAny_mono hC (fun e h' hk => ?_) (fun v env h hx => hx) _ _ _ _ this
  obtain ⟨rfl, g, hP, k1, k2, k3⟩ := hk
  show Q .normal (e.keep ks) (hs ms.length)
  rw [keep_eq ks e (by rw [k2]; exact hnd), k2]
  rw [keep_eq ks g (by rw [k1]; exact hnd), k1] at hP
  rw [List.map_congr_left (g := fun k => (k, g.get k)) fun k hk => by rw [k3 k fun i o hi ht => takeB_kept htb hi ht (List.mem_filter.1 hk).2]]
  exact hP
end
end Go.Proofs.Ytpbnnbjkjaajnaa.Pv
