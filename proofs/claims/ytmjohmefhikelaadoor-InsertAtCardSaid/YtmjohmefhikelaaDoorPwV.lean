/- A region that draws its order, whose last operation waits for all others. -/
import Derived.Test.YtmjohmefhikelaaDoorPwW
import Derived.Orders
set_option linter.unusedVariables false
set_option linter.unusedSimpArgs false
namespace Go.Proofs.YtmjohmefhikelaaDoor.Pv
open Go Go.Proofs

/-- Each operation ahead of the last is waited for by a later one; none waits for the last. -/
def coverB (ops : List Oper) (k : Nat) : Bool :=
  (List.range k).all fun j => (List.range (k + 1)).any fun i => decide (j < i) && (match ops[i]? with | some o => o.after.toList.any (fun a => a.on == j && Region.binds .any a) | none => false)
def backB (ops : List Oper) : Bool :=
  (List.range ops.length).all fun j => match ops[j]? with | some o => o.after.toList.all fun a => decide (a.on < j) | none => false
section
variable {ty : Nat → Ty} {C : CallP} {n : Nat} {tk : List Nat} {T : List Nat} {h : H} {o : Oper} {e e' : Env}

/-- What is done is done behind what it waits for. -/
def Shut (ops : List Oper) (listed : Array Bool) : Prop := ∀ (i : Nat) (o : Oper), ops[i]? = some o → listed.getD i false = true → ∀ a ∈ o.after, Region.binds .any a = true → listed.getD a.on false = true

theorem wanted_app {l : List Oper} {last : Oper} {w : Bool} (hw : wanted l o e = some w) : wanted (l ++ [last]) o e = some w := by
  unfold wanted at hw ⊢
  cases hg : o.guard with
  | none => rw [hg] at hw; simpa using hw
  | some gb =>
    obtain ⟨g, b⟩ := gb
    rw [hg] at hw
    simp only [] at hw ⊢
    cases hlg : l[g]? with
    | none => rw [hlg] at hw; simp at hw
    | some og =>
      rw [hlg] at hw
      have : (l ++ [last])[g]? = some og := by
        rw [List.getElem?_append_left (List.getElem?_eq_some_iff.1 hlg).1, hlg]
      rw [this]
      exact hw
theorem runOp_app {l : List Oper} {last : Oper} {Kc Kc' : Env → H → Prop} {X : V → Env → H → Prop} (hC : CMono C C) (hK : ∀ e h, Kc e h → Kc' e h) (hr : runOp ty C n tk (wanted l o e) o e h Kc X) : runOp ty C n tk (wanted (l ++ [last]) o e) o e h Kc' X := by
  cases hw : wanted l o e with
  | none => rw [hw] at hr; exact hr.elim
  | some w =>
    rw [wanted_app hw]
    rw [hw] at hr
    exact runOp_mono hC hK (fun _ _ _ hx => hx) hr
theorem getD_push {listed : Array Bool} {j : Nat} {b : Bool} (hj : j < listed.size) : (listed.push false).getD j b = listed.getD j b := by
  simp [Array.getD_eq_getD_getElem?, Array.getElem?_push, Nat.ne_of_lt hj]
theorem any_app {tk' : List Nat} (hC : CMono C C) {l : List Oper} {last : Oper} (ho : ordB tk' l = true) (hcov : coverB (l ++ [last]) l.length = true) (hback : backB (l ++ [last]) = true) {K Kc : Env → H → Prop} {X : V → Env → H → Prop}
    (hlast : ∀ e h, K e h → runOp ty C n tk (wanted (l ++ [last]) last e) last e h Kc X) :
    ∀ (k : Nat) (listed : Array Bool) (e : Env) (h : H), listed.size = l.length → Shut l listed → evalAny ty C n tk l K X k listed e h → evalAny ty C n tk (l ++ [last]) Kc X (k + 1) (listed.push false) e h := by
  have hafter1 : ∀ (j : Nat) (o : Oper), (l ++ [last])[j]? = some o → ∀ a ∈ o.after, a.on < l.length := by
    intro j o hj a ha
    have hjl := (List.getElem?_eq_some_iff.1 hj).1
    unfold backB at hback
    have h2 := List.all_eq_true.1 hback j (List.mem_range.2 hjl)
    rw [hj] at h2
    have := List.all_eq_true.1 h2 a (by simpa using ha)
    have := of_decide_eq_true this
    simp only [List.length_append, List.length_cons, List.length_nil] at hjl
    omega
  have hafter : ∀ (j : Nat) (o : Oper), l[j]? = some o → ∀ a ∈ o.after, a.on < l.length := fun j o hj =>
    hafter1 j o (by rw [List.getElem?_append_left (List.getElem?_eq_some_iff.1 hj).1]; exact hj)
  have hrdy : ∀ (listed : Array Bool), listed.size = l.length → ∀ i, i < l.length → (i ∈ Region.ready .any (l ++ [last]).toArray (listed.push false) ↔ i ∈ Region.ready .any l.toArray listed) := by
    intro listed hsz i hi
    rw [mem_ready, mem_ready]
    rw [getD_push (by omega)]
    have : (l ++ [last]).toArray[i]? = l.toArray[i]? := by
      simp only [List.getElem?_toArray]
      rw [List.getElem?_append_left hi]
    rw [this]
    refine and_congr_right fun _ => exists_congr fun o => and_congr_right fun hoi => forall_congr' fun a => forall_congr' fun ha => forall_congr' fun hb => ?_
    rw [getD_push (by have := hafter i o (by simpa using hoi) a (by simpa using ha); omega)]
  -- the last one is at hand when all others are done
  have hall : ∀ (listed : Array Bool), listed.size = l.length → Shut l listed → l.length ∈ Region.ready .any (l ++ [last]).toArray (listed.push false) → ∀ d j, j + d = l.length → 0 < d → listed.getD j false = true := by
    intro listed hsz hsh hr d
    induction d using Nat.strongRecOn with
    | ind d ih =>
      intro j hj hd
      unfold coverB at hcov
      have := List.all_eq_true.1 hcov j (List.mem_range.2 (by omega))
      obtain ⟨i, hi, h1⟩ := List.any_eq_true.1 this
      simp only [Bool.and_eq_true, decide_eq_true_eq, List.mem_range] at hi h1
      obtain ⟨hji, h1⟩ := h1
      by_cases hil : i < l.length
      · rw [List.getElem?_append_left hil, List.getElem?_eq_getElem hil] at h1
        obtain ⟨a, ha, h2⟩ := List.any_eq_true.1 h1
        replace ha : a ∈ _ := Array.mem_toList_iff.1 ha
        simp only [Bool.and_eq_true, beq_iff_eq] at h2
        obtain ⟨rfl, hb⟩ := h2
        exact hsh i _ (List.getElem?_eq_getElem hil) (ih (l.length - i) (by omega) i (by omega) (by omega)) a ha hb
      · obtain rfl : i = l.length := by omega
        rw [mem_ready] at hr
        obtain ⟨_, o, ho1, hb⟩ := hr
        simp only [List.getElem?_append_right (Nat.le_refl _), Nat.sub_self, List.getElem?_cons_zero] at h1
        have ho2 : last = o := by simpa using ho1
        subst ho2
        obtain ⟨a, ha, h2⟩ := List.any_eq_true.1 h1
        replace ha : a ∈ _ := Array.mem_toList_iff.1 ha
        simp only [Bool.and_eq_true, beq_iff_eq] at h2
        obtain ⟨rfl, hb'⟩ := h2
        have := hb a ha hb'
        rwa [getD_push (by omega)] at this
  have hlastat : (l ++ [last])[l.length]? = some last := by simp
  have hrl : ∀ (listed : Array Bool), listed.size = l.length → Region.ready .any l.toArray listed = [] → ∀ i, i ∈ Region.ready .any (l ++ [last]).toArray (listed.push false) → i = l.length := by
    intro listed hsz hr i hi
    have hlt : i < l.length + 1 := by
      rw [mem_ready] at hi
      obtain ⟨_, o, hoi, _⟩ := hi
      have := (Array.getElem?_eq_some_iff.1 hoi).1
      simpa using this
    by_cases hil : i < l.length
    · have := (hrdy listed hsz i hil).1 hi
      rw [hr] at this; cases this
    · omega
  -- behind the last one nothing is left
  have hend : ∀ (listed : Array Bool), listed.size = l.length → Shut l listed → l.length ∈ Region.ready .any (l ++ [last]).toArray (listed.push false) → Region.ready .any (l ++ [last]).toArray ((listed.push false).setIfInBounds l.length true) = [] := by
    intro listed hsz hsh hr
    rw [List.eq_nil_iff_forall_not_mem]
    intro j hj
    rw [mem_ready] at hj
    obtain ⟨h0, o, hoj, _⟩ := hj
    have hjl : j < l.length + 1 := by have := (Array.getElem?_eq_some_iff.1 hoj).1; simpa using this
    by_cases hj2 : j < l.length
    · have := hall listed hsz hsh hr (l.length - j) j (by omega) (by omega)
      simp only [Array.getD_eq_getD_getElem?] at h0 this
      rw [Array.getElem?_setIfInBounds_ne (by omega), Array.getElem?_push] at h0
      rw [if_neg (by omega)] at h0
      rw [Array.getElem?_eq_getElem (by omega)] at h0 this
      simp at h0 this
      rw [h0] at this; cases this
    · obtain rfl : j = l.length := by omega
      simp [Array.getD_eq_getD_getElem?, Array.getElem?_setIfInBounds, hsz] at h0
  have hrun : ∀ (listed : Array Bool) (e : Env) (h : H) (m : Nat), listed.size = l.length → Shut l listed → Region.ready .any l.toArray listed = [] → K e h → evalAny ty C n tk (l ++ [last]) Kc X (m + 1) (listed.push false) e h := by
    intro listed e h m hsz hsh hr hk
    have hallj := all_listed ho hsz hr
    have hmem : l.length ∈ Region.ready .any (l ++ [last]).toArray (listed.push false) := by
      rw [mem_ready]
      refine ⟨?_, last, by simp, fun a ha hb => ?_⟩
      · rw [← hsz]; simp [Array.getD_eq_getD_getElem?]
      · have hal := hafter1 l.length last (by simp) a ha
        rw [getD_push (by omega)]; exact hallj a.on hal
    refine ⟨fun hne => absurd (hne ▸ hmem) (by simp), fun i hi => ?_⟩
    obtain rfl := hrl listed hsz hr i hi
    refine ⟨last, hlastat, runOp_mono hC (fun e h hk => ?_) (fun _ _ _ hx => hx) (hlast e h hk)⟩
    have he := hend listed hsz hsh hmem
    cases m with
    | zero => exact ⟨he, hk⟩
    | succ m => exact ⟨fun _ => hk, fun i hi => by rw [he] at hi; cases hi⟩
  intro k
  induction k with
  | zero =>
    intro listed e h hsz hsh hr
    exact hrun listed e h 0 hsz hsh hr.1 hr.2
  | succ k ih =>
    intro listed e h hsz hsh hr
    by_cases hnil : Region.ready .any l.toArray listed = []
    · exact hrun listed e h (k + 1) hsz hsh hnil (hr.1 hnil)
    · refine ⟨fun hne => ?_, fun i hi => ?_⟩
      · exfalso
        apply hnil
        rw [List.eq_nil_iff_forall_not_mem]
        intro i hi
        have hil : i < l.length := by
          rw [mem_ready] at hi
          obtain ⟨_, o, hoi, _⟩ := hi
          have := (Array.getElem?_eq_some_iff.1 hoi).1
          simpa using this
        have := (hrdy listed hsz i hil).2 hi
        rw [hne] at this; cases this
      · have hlt : i < l.length + 1 := by
          have hi' := hi
          rw [mem_ready] at hi'
          obtain ⟨_, o, hoi, _⟩ := hi'
          have := (Array.getElem?_eq_some_iff.1 hoi).1
          simpa using this
        by_cases hil : i < l.length
        · have hi2 := (hrdy listed hsz i hil).1 hi
          obtain ⟨o, hoi, hrun'⟩ := hr.2 i hi2
          refine ⟨o, by rw [List.getElem?_append_left hil]; exact hoi, runOp_app hC (fun e h hk => ?_) hrun'⟩
          have e1 : (listed.push false).setIfInBounds i true = (listed.setIfInBounds i true).push false := by
            apply Array.toList_inj.1
            simp only [Array.toList_setIfInBounds, Array.toList_push]
            rw [List.set_append_left _ _ (by simpa [hsz] using hil)]
          rw [e1]
          refine ih _ e h (by simpa using hsz) (fun j oj hj hlj a ha hb => ?_) hk
          have hset : ∀ x, listed.getD x false = true → (listed.setIfInBounds i true).getD x false = true := by
            intro x hx
            simp only [Array.getD_eq_getD_getElem?, Array.getElem?_setIfInBounds] at hx ⊢
            split
            · split <;> simp_all
            · exact hx
          by_cases hij : j = i
          · subst hij
            rw [mem_ready] at hi2
            obtain ⟨_, o2, ho2, hb2⟩ := hi2
            have : oj = o2 := by simp at ho2; rw [hj] at ho2; exact Option.some.inj ho2
            subst this
            exact hset _ (hb2 a ha hb)
          · refine hset _ (hsh j oj hj ?_ a ha hb)
            simp only [Array.getD_eq_getD_getElem?] at hlj ⊢
            rwa [Array.getElem?_setIfInBounds_ne (fun h => hij h.symm)] at hlj
        · obtain rfl : i = l.length := by omega
          exfalso
          apply hnil
          rw [List.eq_nil_iff_forall_not_mem]
          intro j hj
          rw [mem_ready] at hj
          obtain ⟨h0, o, hoj, _⟩ := hj
          have hjl : j < l.length := by have := (Array.getElem?_eq_some_iff.1 hoj).1; simpa using this
          have := hall listed hsz hsh hi (l.length - j) j (by omega) (by omega)
          simp only [Array.getD_eq_getD_getElem?] at h0 this
          rw [Array.getElem?_eq_getElem (by omega)] at h0 this
          simp at h0 this
          rw [h0] at this; cases this
/-- What follows a store. -/
def stK (ty : Nat → Ty) (t : Nat) (p x : V) (h : H) (K : H → Prop) : Prop :=
  match store ty t p x [] h with
  | .val q _ _ h' => q ∧ K h'
  | _ => False
theorem store_upon {t : Nat} {p x : V} {K : H → Prop} {e : Env} {Kc : Env → H → Prop} {X : V → Env → H → Prop} (hd : o.dst = none) (hs : stK ty t p x h K) (hK : ∀ h', K h' → Kc e h') : (store ty t p x e h).upon C n o e' h Kc X := by
  unfold stK at hs
  unfold store at hs ⊢
  cases p with
  | ref id off =>
    simp only [] at hs ⊢
    cases hr : h.row id with
    | none => rw [hr] at hs; exact hs.elim
    | some cs =>
      rw [hr] at hs
      simp only [Res.upon, hd, putD, dstOk] at hs ⊢
      exact ⟨hs.1, trivial, hK _ hs.2⟩
  | _ => exact hs.elim
/-- The last operation: a store of one slot behind another. -/
theorem wp_drawS (T : List Nat) (hC : CMono C C) (k : Nat) {last : Oper} {t a x : Nat} {ks : List Nat} {id : Nat} {ops : List Oper} {Q : PostX} {e0 : Env} (hk : ops[k]? = some last) (hlen : ops.length = k + 1)
    (hop : last.op = .store t (.tmp a) (.tmp x)) (hg : last.guard = none) (hd : last.dst = none) (hax : (T.contains a || T.contains x || ks.contains x || a == x) = false)
    (ho : ordB tk (ops.take k) = true) (hkb : keptB (ops.take k) ks e0.keys = true) (htb : takeB tk T (ops.take k) ks = true) (hcov : coverB ops k = true) (hback : backB ops = true)
    (hp : evalPureT ty C n tk T (ops.take k) h (ops.take k) (fun g => stK ty t (g.get a).demote (g.get x) h fun h' => Q .normal (g.keep ks) h') e0) : wp ty C n ks tk (.region id ⟨ops⟩ true) Q e0 h := by
  simp only [wp, if_true]
  refine .inl ?_
  have hl : (ops.take k).length = k := by rw [List.length_take]; omega
  have hsplit : ops = ops.take k ++ [last] := by
    apply List.ext_getElem?
    intro i
    by_cases hi : i < k
    · rw [List.getElem?_append_left (by omega), List.getElem?_take, if_pos hi]
    · by_cases hi2 : i = k
      · subst hi2
        rw [List.getElem?_append_right (by omega), hk, hl]; simp
      · rw [List.getElem?_eq_none (by omega), List.getElem?_eq_none (by simp; omega)]
  simp only [Bool.or_eq_false_iff, beq_eq_false_iff_ne, ne_eq] at hax
  obtain ⟨⟨⟨hTa, hTx⟩, hkx⟩, hne⟩ := hax
  have hG := any_of_pureG (C := C) (X := panQ Q) ho hkb htb hp
  have hnd : (e0.kept ks).Nodup := by
    unfold keptB at hkb
    simp only [Bool.and_eq_true, decide_eq_true_eq] at hkb
    exact hkb.1
  have hlast : ∀ (e : Env) (h1 : H), (h1 = h ∧ Beside (tk := tk) T (ops.take k) ks e0 (fun g => stK ty t (g.get a).demote (g.get x) h fun h' => Q .normal (g.keep ks) h') e) →
      runOp ty C n tk (wanted (ops.take k ++ [last]) last e) last e h1 (fun env h => Q .normal (env.keep ks) h) (panQ Q) := by
    rintro e h0 ⟨rfl, g, hP, h1, h2, h3⟩
    have hw : wanted (ops.take k ++ [last]) last e = some true := by simp only [wanted, hg]
    have hnt : ∀ y, T.contains y = false → ∀ (i : Nat) (o : Oper), (ops.take k)[i]? = some o → takeT tk T o ≠ some y := by
      intro y hy i o hi ht
      have := (takeT_of ht).2
      rw [hy] at this; cases this
    have ha : e.get a = g.get a := h3 a (hnt a hTa)
    have hx : e.get x = g.get x := h3 x (hnt x hTx)
    have hkeep : ∀ v, (e.put x v).keep ks = g.keep ks := by
      intro v
      have hkp : (e.put x v).kept ks = e0.kept ks := by
        rw [kept_put v fun hc => by rw [hkx] at hc; cases hc]; exact h2
      rw [keep_eq ks _ (by rw [hkp]; exact hnd), hkp, keep_eq ks g (by rw [h1]; exact hnd), h1]
      refine List.map_congr_left fun y hy => ?_
      have hyk := (List.mem_filter.1 hy).2
      rw [get_put_ne (fun hyx => by subst hyx; rw [hkx] at hyk; cases hyk), h3 y fun i o hi ht => takeB_kept htb hi ht hyk]
    rw [hw, runOp_tt]
    have hao : aop ty tk last e h0 = store ty t (e.get a).demote (e.get x) (e.put x (e.get x).demote) h0 := by
      unfold aop
      rw [hop]
      rfl
    rw [hao, ha, hx]
    exact store_upon hd hP fun h' hq => by rw [hkeep]; exact hq
  have := any_app hC ho (last := last) (by rw [hl, ← hsplit]; exact hcov) (by rw [← hsplit]; exact hback) hlast (ops.take k).length (Array.replicate (ops.take k).length false) e0 h (by simp) (fun i o hi hl _ _ _ => by simp [Array.getD_eq_getD_getElem?, Array.getElem?_replicate] at hl; split at hl <;> simp at hl) hG
  rw [← hsplit, hl] at this
  have e2 : (Array.replicate k false).push false = Array.replicate ops.length false := by
    rw [hlen]; apply Array.toList_inj.1; simp [List.replicate_succ']
  rw [e2, ← hlen] at this
  exact this
end
end Go.Proofs.YtmjohmefhikelaaDoor.Pv
