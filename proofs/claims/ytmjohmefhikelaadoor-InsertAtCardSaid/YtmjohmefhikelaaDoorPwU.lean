/- What functions come to, in plain Lean: a value, a panic, or nothing that is told. -/
import Derived.Test.YtmjohmefhikelaaDoorPwR
set_option linter.unusedVariables false
set_option linter.unusedSimpArgs false
namespace Go.Proofs.YtmjohmefhikelaaDoor.Pv
open Go

inductive R (α : Type) where
  | ok (a : α)
  | pan (v : V)
  | stuck
def R.bind {α β : Type} (r : R α) (f : α → R β) : R β :=
  match r with
  | .ok a => f a
  | .pan v => .pan v
  | .stuck => .stuck
def R.post {α : Type} (r : R α) (K : α → Prop) (X : V → Prop) : Prop :=
  match r with
  | .ok a => K a
  | .pan v => X v
  | .stuck => False
/-- A call that is not to panic. -/
def R.sure {α : Type} (r : R α) : R α :=
  match r with
  | .ok a => .ok a
  | _ => .stuck
section
variable {α β : Type}
@[simp] theorem R.bind_ok (a : α) (f : α → R β) : (R.ok a).bind f = f a := rfl
@[simp] theorem R.bind_pan (v : V) (f : α → R β) : (R.pan v).bind f = .pan v := rfl
@[simp] theorem R.bind_stuck (f : α → R β) : (R.stuck : R α).bind f = .stuck := rfl
@[simp] theorem R.sure_ok (a : α) : (R.ok a).sure = .ok a := rfl
theorem R.post_ok {a : α} {K : α → Prop} {X : V → Prop} : (R.ok a).post K X = K a := rfl
theorem R.post_pan {v : V} {K : α → Prop} {X : V → Prop} : (R.pan v : R α).post K X = X v := rfl
theorem R.post_stuck {K : α → Prop} {X : V → Prop} : (R.stuck : R α).post K X = False := rfl
theorem R.post_mono {r : R α} {K K' : α → Prop} {X X' : V → Prop} (h : r.post K X) (h1 : ∀ a, K a → K' a) (h2 : ∀ v, X v → X' v) : r.post K' X' := by
  cases r with
  | ok a => exact h1 a h
  | pan v => exact h2 v h
  | stuck => exact h
theorem R.post_bind {r : R α} {f : α → R β} {K : β → Prop} {X : V → Prop} : (r.bind f).post K X = r.post (fun a => (f a).post K X) X := by cases r <;> rfl
/-- A call, and what follows. -/
theorem R.post_then {r : R α} {f : α → R β} {K : β → Prop} {X : V → Prop} {K' : α → Prop} {X' : V → Prop} (h : (r.bind f).post K X) (h1 : ∀ a, (f a).post K X → K' a) (h2 : ∀ v, X v → X' v) : r.post K' X' := by
  rw [R.post_bind] at h
  exact R.post_mono h h1 h2
theorem R.post_sure {r : R α} {f : α → R β} {K : β → Prop} {X : V → Prop} (h : (r.sure.bind f).post K X) : ∃ a, r = .ok a ∧ (f a).post K X := by
  cases r with
  | ok a => exact ⟨a, rfl, h⟩
  | pan v => exact h.elim
  | stuck => exact h.elim
theorem R.post_cut_sure {α β : Type} {r : R α} {f : α → R β} {K : β → Prop} {X : V → Prop} (h : (r.sure.bind f).post K X) : ∃ K' : α → Prop, (∀ a, K' a → (f a).post K X) ∧ r.post K' (fun _ => False) :=
  ⟨fun a => (f a).post K X, fun _ h => h, by cases r <;> exact h⟩
theorem R.post_okf {α : Type} {r : R α} {K : α → Prop} (h : r.post K (fun _ => False)) : ∃ a, r = .ok a ∧ K a := by
  cases r with
  | ok a => exact ⟨a, rfl, h⟩
  | pan v => exact h.elim
  | stuck => exact h.elim
theorem R.post_if {c : Prop} [Decidable c] {a b : R α} {K : α → Prop} {X : V → Prop} (h : (if c then a else b).post K X) : (c → a.post K X) ∧ (¬ c → b.post K X) := by
  by_cases hc : c
  · rw [if_pos hc] at h; exact ⟨fun _ => h, fun hn => absurd hc hn⟩
  · rw [if_neg hc] at h; exact ⟨fun hp => absurd hp hc, fun _ => h⟩
theorem R.guard {c : Prop} [Decidable c] {a : R α} {K : α → Prop} {X : V → Prop} (h : (if c then a else .stuck).post K X) : c ∧ a.post K X := by
  by_cases hc : c
  · rw [if_pos hc] at h; exact ⟨hc, h⟩
  · rw [if_neg hc] at h; exact h.elim
end

/-- .. with the rest's word kept apart. -/
theorem R.post_cut {α β : Type} {r : R α} {f : α → R β} {K : β → Prop} {X : V → Prop} (h : (r.bind f).post K X) : ∃ K' : α → Prop, (∀ a, K' a → (f a).post K X) ∧ r.post K' X := ⟨fun a => (f a).post K X, fun _ h => h, by rw [R.post_bind] at h; exact h⟩

section
variable {ty : Nat → Ty} {C : CallP} {n : Nat} {ks tk : List Nat}
/-- What stands between two pieces of code: the states that the first leads to. -/
theorem seq_gen (hC : CMono C C) {a b : Code} {Q : PostX} {env : Env} {h : H} {σ : Type} (E : σ → Env) (G : σ → H) (P : σ → Prop)
    (hb : ∀ s, P s → wp ty C n ks tk b Q (E s) (G s)) (ha : ∀ N : Env → H → Prop, (∀ s, P s → N (E s) (G s)) → wp ty C n ks tk a (thenQ N Q) env h) : wp ty C n ks tk (.seq a b) Q env h := by
  rw [wp_seq]
  refine wp_monoC hC a _ _ env h (thenQ_mono (fun env h hk => ?_) (fun _ _ _ hq => hq)) (ha (fun env h => ∃ s, P s ∧ env = E s ∧ h = G s) fun s hs => ⟨s, hs, rfl, rfl⟩)
  obtain ⟨s, hs, rfl, rfl⟩ := hk
  exact hb s hs
/-- A loop whose rounds are counted down. -/
theorem loop_gen (hC : CMono C C) {he : H} {b : Code} {Q : PostX} {σ : Type} (E : σ → Env) (G : σ → H) (P : Nat → σ → Prop) (h0 : ∀ s, ¬ P 0 s)
    (step : ∀ k s, P (k + 1) s → ∀ N : Env → H → Prop, (∀ s', P k s' → N (E s') (G s')) → wp ty C n ks tk b (thenQ (Wk he N) Q) (E s) (G s)) : ∀ k s, P k s → Loop ty C n ks tk he b Q (E s) (G s) := by
  intro k
  induction k with
  | zero => exact fun s hs => absurd hs (h0 s)
  | succ k ih => exact fun s hs => loop_step hC (step k s hs _ fun s' hs' => ih s' hs')
/-- Jumps back to one label, counted down. -/
theorem jump_gen (hC : CMono C C) {he : H} {b : Code} {Q : PostX} {σ : Type} (l : Nat) (E : σ → Env) (G : σ → H) (P : Nat → σ → Prop) (h0 : ∀ s, ¬ P 0 s)
    (step : ∀ k s, P (k + 1) s → ∀ N : Env → H → Prop, (∀ s', P k s' → N (E s') (G s')) → wpAt ty C n ks tk b l (scopeQ he b (fun l' e h => l' = l ∧ N e h) Q) (E s) (G s)) : ∀ k s, P k s → Jump ty C n ks tk he b Q l (E s) (G s) := by
  intro k
  induction k with
  | zero => exact fun s hs => absurd hs (h0 s)
  | succ k ih =>
    exact fun s hs => jump hC (wpAt_monoC hC b l _ _ _ _ (scopeQ_mono (fun l' e h hj => by obtain ⟨rfl, hj⟩ := hj; exact hj) (fun _ _ _ hq => hq)) (step k s hs (Jump ty C n ks tk he b Q l) fun s' hs' => ih s' hs'))
theorem scope_gen (hC : CMono C C) {b : Code} {Q : PostX} {e0 : Env} {h0 : H} {σ : Type} (l : Nat) (E : σ → Env) (G : σ → H) (P : Nat → σ → Prop) (hz : ∀ s, ¬ P 0 s)
    (step : ∀ k s, P (k + 1) s → ∀ N : Env → H → Prop, (∀ s', P k s' → N (E s') (G s')) → wpAt ty C n ks tk b l (scopeQ h0 b (fun l' e h => l' = l ∧ N e h) Q) (E s) (G s))
    (start : (∀ k s, P (k + 1) s → ∀ N : Env → H → Prop, (∀ s', P k s' → N (E s') (G s')) → wpAt ty C n ks tk b l (scopeQ h0 b (fun l' e h => l' = l ∧ N e h) Q) (E s) (G s)) → ∀ N : Env → H → Prop, (∀ k s, P k s → N (E s) (G s)) → wp ty C n ks tk b (scopeQ h0 b (fun l' e h => l' = l ∧ N e h) Q) e0 h0) : wp ty C n ks tk (.scope b) Q e0 h0 := by
  refine wp_scope hC (wp_monoC hC b _ _ _ _ (scopeQ_mono (fun l' e h hj => ?_) (fun _ _ _ hq => hq)) (start step (Jump ty C n ks tk h0 b Q l) fun k s hs => jump_gen hC l E G P hz step k s hs))
  obtain ⟨rfl, hj⟩ := hj
  exact hj
theorem condK_t {v : V} {a b : Code} {Q : PostX} {env : Env} {h : H} (hv : v = .bool true) (hw : wp ty C n ks tk a (wkQ h Q) env h) : condK ty C n ks tk v a b Q env h := by subst hv; exact hw
theorem condK_f {v : V} {a b : Code} {Q : PostX} {env : Env} {h : H} (hv : v = .bool false) (hw : wp ty C n ks tk b (wkQ h Q) env h) : condK ty C n ks tk v a b Q env h := by subst hv; exact hw
end

/-! ### Leaving objects behind -/
theorem EnvLe.nil (i : Nat) : V.Le (Env.get [] i) (Env.get [] i) := .refl _
abbrev EnvLe (e e' : Env) : Prop := ∀ i, V.Le (e.get i) (e'.get i)
theorem EnvLe.cons {k : Nat} {v v' : V} {e e' : Env} (h : V.Le v v') (t : EnvLe e e') : EnvLe ((k, v) :: e) ((k, v') :: e') := by
  intro i
  simp only [Env.get]
  split
  · exact h
  · exact t i
abbrev EnvCl (m : Nat) (e : Env) : Prop := ∀ i, V.Cl m (e.get i)
theorem EnvCl.nil (m : Nat) : EnvCl m [] := fun _ => .top
theorem EnvCl.cons {m k : Nat} {v : V} {e : Env} (h : V.Cl m v) (t : EnvCl m e) : EnvCl m ((k, v) :: e) := by
  intro i
  simp only [Env.get]
  split
  · exact h
  · exact t i
theorem cl_map {α : Type} {m : Nat} {f : α → V} {l : List α} (h : ∀ x, V.Cl m (f x)) : ∀ v ∈ l.map f, V.Cl m v := by
  intro v hv
  obtain ⟨x, _, rfl⟩ := List.mem_map.1 hv
  exact h x
theorem cl_map_mem {α : Type} {m : Nat} {f : α → V} {l : List α} (h : ∀ x ∈ l, V.Cl m (f x)) : ∀ v ∈ l.map f, V.Cl m v := by
  intro v hv
  obtain ⟨x, hx, rfl⟩ := List.mem_map.1 hv
  exact h x hx
theorem cl_nil {m : Nat} : ∀ v ∈ ([] : List V), V.Cl m v := by simp
theorem cl_cons {m : Nat} {v : V} {l : List V} (h : V.Cl m v) (t : ∀ v ∈ l, V.Cl m v) : ∀ u ∈ v :: l, V.Cl m u := by
  intro u hu
  rcases List.mem_cons.1 hu with rfl | hu
  · exact h
  · exact t u hu
theorem cl_byte {m : Nat} (c : UInt8) : V.Cl m (byteV c) := .int _ _
/-- Told less exactly, nothing left behind. -/
theorem Wk.le {he : H} {K : Env → H → Prop} {env env' : Env} {h : H} (hE : EnvLe env env') (hk : K env' h) : Wk he K env h := ⟨env', h, ⟨hE, fun i o ho => ⟨o, ho, .refl _⟩, .inl rfl⟩, hk⟩
/-- What was made behind the heap he is left behind; he's own objects may have changed. -/
theorem Wk.drop {hb he : H} {K : Env → H → Prop} {env env' : Env} (L Le New : H) (hhe : he = hb ++ Le) (hl : L.length = Le.length) (hE : EnvLe env env') (hC : EnvCl (hb.length + Le.length) env') (hO : ∀ o ∈ L, AObj.Cl (hb.length + Le.length) o) (hk : K env' (hb ++ L)) : Wk he K env (hb ++ (L ++ New)) := by
  subst hhe
  refine ⟨env', hb ++ L, ⟨hE, fun i o ho => ⟨o, ?_, .refl _⟩, .inr ⟨by simp [hl], by simp [hl], fun i => by simpa using hC i, fun i o ho => ?_⟩⟩, hk⟩
  · have hi := (List.getElem?_eq_some_iff.1 ho).1
    rw [← List.append_assoc, List.getElem?_append_left hi]; exact ho
  · rw [List.getElem?_append] at ho
    split at ho
    · rename_i hlt
      exact .inr (by rw [List.getElem?_append_left hlt]; exact ho)
    · exact .inl (by simpa using hO o (List.mem_of_getElem? ho))
theorem Wk.drop0 {hb New hn : H} {K : Env → H → Prop} {env env' : Env} (hh : hn = hb ++ New) (hE : EnvLe env env') (hC : EnvCl hb.length env') (hk : K env' hb) : Wk hb K env hn := by
  subst hh
  refine ⟨env', hb, ⟨hE, fun i o ho => ⟨o, ?_, .refl _⟩, .inr ⟨rfl, by simp, hC, fun i o ho => .inr ho⟩⟩, hk⟩
  rw [List.getElem?_append_left (List.getElem?_eq_some_iff.1 ho).1]; exact ho
theorem objcl_nil {m : Nat} : ∀ o ∈ ([] : H), AObj.Cl m o := by simp
theorem objcl_cons {m : Nat} {o' : AObj} {l : H} (h : AObj.Cl m o') (k : ∀ o ∈ l, AObj.Cl m o) : ∀ o ∈ (o' :: l), AObj.Cl m o := by
  intro o ho
  rcases List.mem_cons.1 ho with rfl | ho
  · exact h
  · exact k o ho
theorem V.Cl.mono {m n : Nat} (hmn : m ≤ n) {v : V} (h : V.Cl m v) : V.Cl n v := by
  induction h with
  | ref id off hlt => exact .ref _ _ (Nat.lt_of_lt_of_le hlt hmn)
  | msl id off len sz hlt => exact .msl _ _ _ _ (Nat.lt_of_lt_of_le hlt hmn)
  | map id hlt => exact .map _ (Nat.lt_of_lt_of_le hlt hmn)
  | sl _ _ _ ih => exact .sl _ _ ih
  | cap _ _ _ ih => exact .cap _ _ ih
  | own _ _ _ _ ih => exact .own _ _ _ ih
  | pri _ _ _ _ _ ih => exact .pri _ _ _ _ ih
  | imm _ _ ih => exact .imm _ ih
  | agg _ _ ih => exact .agg _ ih
  | tup _ _ ih => exact .tup _ ih
  | iface _ _ _ ih => exact .iface _ _ ih
  | func _ _ _ _ _ ih1 ih2 => exact .func _ _ _ ih1 ih2
  | _ => constructor
theorem cl_map0 {m : Nat} : AObj.Cl m (.map []) := fun k v h => by cases h
/-- A builder's pointer to itself, if it is set. -/
abbrev selfp (id : Nat) (b : Bool) : V := if b then .ref id 0 else .nilp
theorem selfp_cl {m id : Nat} {b : Bool} (h : id < m) : V.Cl m (selfp id b) := by
  unfold selfp
  split
  · exact .ref _ _ h
  · exact .nilp
/-- Objects that callers have: what is there, and what was. -/
abbrev OkA (m : Nat) (A Ae : H) : Prop := ∀ (i : Nat) (o : AObj), A[i]? = some o → AObj.Cl m o ∨ Ae[i]? = some o
theorem okA_base (m : Nat) (h : H) : OkA m h h := fun _ _ ho => .inr ho
theorem okA_set {m : Nat} {A Ae : List AObj} (k : OkA m A Ae) {id : Nat} {o' c : AObj} (h : AObj.Cl m o') : OkA m (List.set A id o') (List.set Ae id c) := by
  intro i o ho
  by_cases hi : id = i
  · subst hi
    rw [List.getElem?_set_self'] at ho
    cases ha : A[id]? with
    | none => rw [ha] at ho; simp at ho
    | some a => rw [ha] at ho; simp at ho; subst ho; exact .inl h
  · rw [List.getElem?_set_ne hi] at ho ⊢; exact k i o ho
theorem okA_set1 {m : Nat} {A Ae : List AObj} (k : OkA m A Ae) {id : Nat} {o' : AObj} (h : AObj.Cl m o') : OkA m (List.set A id o') Ae := by
  intro i o ho
  by_cases hi : id = i
  · subst hi
    rw [List.getElem?_set_self'] at ho
    cases ha : A[id]? with
    | none => rw [ha] at ho; simp at ho
    | some a => rw [ha] at ho; simp at ho; subst ho; exact .inl h
  · rw [List.getElem?_set_ne hi] at ho; exact k i o ho
theorem okA_setC {m : Nat} {A Ae : List AObj} (k : OkA m A Ae) {id t : Nat} {cs : List V} {c : AObj} (h : ∀ v ∈ cs, V.Cl m v) : OkA m (List.set A id (.cells t cs)) (List.set Ae id c) := okA_set (o' := .cells t cs) k h
theorem okA_set1C {m : Nat} {A Ae : List AObj} (k : OkA m A Ae) {id t : Nat} {cs : List V} (h : ∀ v ∈ cs, V.Cl m v) : OkA m (List.set A id (.cells t cs)) Ae := okA_set1 (o' := .cells t cs) k h
theorem Wk.dropA {A Ae : H} {K : Env → H → Prop} {env env' : Env} {L Le New : H} (hA : A.length = Ae.length) (hl : L.length = Le.length) (hk : OkA (Ae.length + Le.length) A Ae) (hE : EnvLe env env') (hC : EnvCl (Ae.length + Le.length) env') (hO : ∀ o ∈ L, AObj.Cl (Ae.length + Le.length) o) (hK : K env' (A ++ L)) : Wk (Ae ++ Le) K env (A ++ (L ++ New)) := by
  refine ⟨env', A ++ L, ⟨hE, fun i o ho => ⟨o, ?_, .refl _⟩, .inr ⟨by simp [hl, hA], by simp [hl, hA], fun i => by simpa using hC i, fun i o ho => ?_⟩⟩, hK⟩
  · have hi := (List.getElem?_eq_some_iff.1 ho).1
    rw [← List.append_assoc, List.getElem?_append_left hi]; exact ho
  · rw [List.getElem?_append] at ho
    split at ho
    · rename_i hlt
      rcases hk i o ho with h1 | h1
      · exact .inl (by simpa using h1)
      · exact .inr (by rw [List.getElem?_append_left (by omega)]; exact h1)
    · exact .inl (by simpa using hO o (List.mem_of_getElem? ho))
theorem Wk.dropA0 {A Ae : H} {K : Env → H → Prop} {env env' : Env} {New : H} (hA : A.length = Ae.length) (hk : OkA Ae.length A Ae) (hE : EnvLe env env') (hC : EnvCl Ae.length env') (hK : K env' A) : Wk Ae K env (A ++ New) := by
  refine ⟨env', A, ⟨hE, fun i o ho => ⟨o, ?_, .refl _⟩, .inr ⟨hA, by simp [hA], hC, hk⟩⟩, hK⟩
  rw [List.getElem?_append_left (List.getElem?_eq_some_iff.1 ho).1]; exact ho
theorem leave_okA {h A L : H} {v : V} {Q : Out → H → Prop} (hA : A.length = h.length) (hk : OkA h.length A h) (hv : handed (A ++ L) h.length v = v) (hc : V.Cl h.length v) (hq : Q (.ret v) A) : leaveQ h (A ++ L) v Q := by
  have ht : (A ++ L).take h.length = A := by rw [← hA, List.take_left]
  exact ⟨by simp [hA], by rw [hv]; exact hc, .inr (by rw [ht]; exact hk), by rw [hv, ht]; exact hq⟩
theorem leave_okA0 {h A : H} {v : V} {Q : Out → H → Prop} (hA : A.length = h.length) (hk : OkA h.length A h) (hv : handed A h.length v = v) (hc : V.Cl h.length v) (hq : Q (.ret v) A) : leaveQ h A v Q := by
  have ht : A.take h.length = A := by rw [← hA, List.take_length]
  exact ⟨by simp [hA], by rw [hv]; exact hc, .inr (by rw [ht]; exact hk), by rw [hv, ht]; exact hq⟩
theorem set_same {h : List AObj} {id : Nat} {o : AObj} (h0 : h[id]? = some o) : List.set h id o = h := by
  apply List.ext_getElem?
  intro i
  by_cases hi : id = i
  · subst hi
    have := (List.getElem?_eq_some_iff.1 h0).1
    rw [List.getElem?_set_self this, h0]
  · rw [List.getElem?_set_ne hi]
theorem wp_heap {ty : Nat → Ty} {C : CallP} {n : Nat} {ks tk : List Nat} {c : Code} {Q : PostX} {env : Env} {h h' : H} (e : h' = h) (hw : wp ty C n ks tk c Q env h') : wp ty C n ks tk c Q env h := by subst e; exact hw
theorem leave_ok {h L : H} {v : V} {Q : Out → H → Prop} (hv : handed (h ++ L) h.length v = v) (hc : V.Cl h.length v) (hq : Q (.ret v) h) : leaveQ h (h ++ L) v Q :=
  ⟨by simp, by rw [hv]; exact hc, .inl (by simp), by rw [hv, List.take_left]; exact hq⟩
theorem leave_ok0 {h : H} {v : V} {Q : Out → H → Prop} (hv : handed h h.length v = v) (hc : V.Cl h.length v) (hq : Q (.ret v) h) : leaveQ h h v Q :=
  ⟨Nat.le_refl _, by rw [hv]; exact hc, .inl (by simp), by rw [hv, List.take_length]; exact hq⟩
theorem leaveP_ok {h L : H} {v : V} {Q : Out → H → Prop} (hc : V.Cl h.length v) (hq : Q (.panic v) h) : leaveP h (h ++ L) v Q :=
  ⟨by simp, hc, .inl (by simp), by rw [List.take_left]; exact hq⟩
theorem leaveP_ok0 {h : H} {v : V} {Q : Out → H → Prop} (hc : V.Cl h.length v) (hq : Q (.panic v) h) : leaveP h h v Q :=
  ⟨Nat.le_refl _, hc, .inl (by simp), by rw [List.take_length]; exact hq⟩
/-! ### Local objects -/
theorem app_o {a b c : List AObj} : (a ++ b) ++ c = a ++ (b ++ c) := List.append_assoc _ _ _
theorem cons_o {x : AObj} {a b : List AObj} : (x :: a) ++ b = x :: (a ++ b) := rfl
theorem nil_o {a : List AObj} : [] ++ a = a := rfl
theorem app_nil_o {a : List AObj} : a ++ [] = a := List.append_nil a
theorem cons_v {x : V} {a b : List V} : (x :: a) ++ b = x :: (a ++ b) := rfl
theorem nil_v {a : List V} : [] ++ a = a := rfl
theorem app_nil_v {a : List V} : a ++ [] = a := List.append_nil a
theorem map_app_v {α : Type} {f : α → V} {a b : List α} : List.map f a ++ List.map f b = List.map f (a ++ b) := (List.map_append).symm
theorem get_loc {h L : List AObj} {j : Nat} : (h ++ L)[h.length + j]? = L[j]? := by
  rw [List.getElem?_append_right (by omega)]
  congr 1; omega
theorem row_loc {h L : List AObj} {j : Nat} : H.row (h ++ L) (h.length + j) = (L[j]?).bind AObj.row := by rw [H.row, get_loc]
theorem row_loc0 {h L : List AObj} : H.row (h ++ L) h.length = (L[0]?).bind AObj.row := row_loc (j := 0)
theorem get_loc0 {h L : List AObj} : (h ++ L)[h.length]? = L[0]? := get_loc (j := 0)
theorem ety_loc {h L : List AObj} {j : Nat} : H.ety (h ++ L) (h.length + j) = H.ety L j := by rw [H.ety, get_loc]; rfl
theorem ety_loc0 {h L : List AObj} : H.ety (h ++ L) h.length = H.ety L 0 := ety_loc (j := 0)
theorem set_loc {h L : List AObj} {j : Nat} {o : AObj} : List.set (h ++ L) (h.length + j) o = h ++ L.set j o := by
  rw [List.set_append, if_neg (by omega)]
  congr 2; omega
theorem set_loc0 {h L : List AObj} {o : AObj} : List.set (h ++ L) h.length o = h ++ L.set 0 o := set_loc (j := 0)

/-- Elements: of texts, of lists. -/
abbrev bt (s : List UInt8) (i : Int) : Int := ((s.getD i.toNat 0).toNat : Int)
abbrev gt {α : Type} [Inhabited α] (l : List α) (i : Int) : α := l.getD i.toNat default
abbrev u8 (n : Int) : UInt8 := UInt8.ofNat n.toNat
/-- As many rounds as anything here may need. -/
def Many : Nat := 1000000000
theorem many_eq : Many = 1000000000 := rfl
theorem many_succ : ∃ k, Many = k + 1 := ⟨999999999, rfl⟩

theorem map_gt {α : Type} [Inhabited α] {f : α → V} {l : List α} {i : Int} (h : 0 ≤ i ∧ i < (l.length : Int)) : (l.map f).getD i.toNat .top = f (gt l i) := by
  have hi : i.toNat < l.length := by omega
  simp [List.getD, hi]
theorem map_gtn {α : Type} [Inhabited α] {f : α → V} {l : List α} {n : Nat} (h : n < l.length) : (l.map f).getD n .top = f (l.getD n default) := by
  simp [List.getD, h]
theorem toBytes_map : ∀ l : List UInt8, toBytes (l.map byteV) = some l
  | [] => rfl
  | c :: r => by
    have h1 : V.toByte (byteV c) = some c := by
      have := c.toNat_lt
      simp only [byteV, V.toByte]
      rw [if_pos (by omega)]
      simp
    simp only [List.map_cons, toBytes, h1, toBytes_map r]
theorem byteV_u8 {n : Int} (h : 0 ≤ n ∧ n ≤ 255) : byteV (u8 n) = .int .u8 n := by
  unfold byteV u8
  congr 1
  have : n.toNat < 256 := by omega
  simp [Nat.mod_eq_of_lt this]
  omega
theorem wrap_u8 (n : Int) : 0 ≤ IntKind.u8.wrap n ∧ IntKind.u8.wrap n ≤ 255 := by
  unfold IntKind.wrap
  simp [IntKind.bits, IntKind.signed]
  omega
theorem bits_u8 (o : BinOp) (a b : Int) : 0 ≤ bitsV o .u8 a b ∧ bitsV o .u8 a b ≤ 255 := by
  unfold bitsV
  split <;> exact wrap_u8 _
theorem tmod_u8 (c : UInt8) (b : Int) : 0 ≤ Int.tmod (c.toNat : Int) b ∧ Int.tmod (c.toNat : Int) b ≤ 255 := by
  have := c.toNat_lt
  refine ⟨Int.tmod_nonneg _ (by omega), ?_⟩
  cases b with
  | ofNat n =>
    show ((c.toNat % n : Nat) : Int) ≤ 255
    have := Nat.mod_le c.toNat n
    omega
  | negSucc n =>
    show ((c.toNat % (n + 1) : Nat) : Int) ≤ 255
    have := Nat.mod_le c.toNat (n + 1)
    omega
theorem fdiv_u8 (c : UInt8) (n : Nat) : 0 ≤ Int.fdiv (c.toNat : Int) (2 ^ n) ∧ Int.fdiv (c.toNat : Int) (2 ^ n) ≤ 255 := by
  have := c.toNat_lt
  have hp : (0 : Int) < 2 ^ n := Int.pow_pos (by decide)
  rw [Int.fdiv_eq_ediv_of_nonneg _ (by omega)]
  refine ⟨Int.ediv_nonneg (by omega) (by omega), ?_⟩
  have := Int.ediv_le_self (a := (c.toNat : Int)) (2 ^ n) (by omega)
  omega
theorem repl_map {α : Type} {f : α → V} {x : α} : ∀ {n : Nat}, repl [f x] n = List.map f (List.replicate n x)
  | 0 => rfl
  | n + 1 => by simp only [repl, List.replicate_succ, List.map_cons, repl_map (n := n)]; rfl
theorem set_map {α : Type} {f : α → V} {l : List α} {x : α} {n : Nat} (h : n < l.length) : List.map f (List.take n l) ++ f x :: List.map f (List.drop (n + 1) l) = List.map f (List.set l n x) := by
  rw [List.set_eq_take_append_cons_drop, if_pos h]; simp
theorem set_map0 {α : Type} {f : α → V} {l : List α} {x : α} (h : 0 < l.length) : f x :: List.map f (List.drop 1 l) = List.map f (List.set l 0 x) := by
  have := set_map (f := f) (x := x) h; simpa using this
theorem leave_row {α : Type} {f : α → V} {l : List α} {n id : Nat} {h L : H} {Q : Out → H → Prop} (hr : H.row (h ++ L) id = some (List.map f l)) (hn : n ≤ l.length) (hid : h.length ≤ id) (hcl : ∀ x, V.Cl h.length (f x)) (hd : ∀ x, (f x).demote = f x) (hq : Q (.ret (.sl 1 (List.map f (List.take n l)))) h) : leaveQ h (h ++ L) (.msl id 0 n 1) Q := by
  have hh : handed (h ++ L) h.length (.msl id 0 n 1) = .sl 1 (List.map f (List.take n l)) := by
    simp only [handed, hr, List.length_map, Nat.zero_add, List.drop_zero]
    rw [if_pos ⟨hn, hid⟩]
    congr 1
    rw [← List.map_take, List.map_map]
    apply List.map_congr_left
    intro x _
    exact hd x
  exact ⟨by simp, by rw [hh]; exact .sl _ _ (cl_map hcl), .inl (by simp), by rw [hh, List.take_left]; exact hq⟩
theorem bits_i8 : IntKind.bits .i8 = 8 := rfl
theorem bits_i16 : IntKind.bits .i16 = 16 := rfl
theorem bits_i32 : IntKind.bits .i32 = 32 := rfl
theorem bits_i64 : IntKind.bits .i64 = 64 := rfl
theorem bits_u8_ : IntKind.bits .u8 = 8 := rfl
theorem bits_u16 : IntKind.bits .u16 = 16 := rfl
theorem bits_u32 : IntKind.bits .u32 = 32 := rfl
theorem bits_u64 : IntKind.bits .u64 = 64 := rfl
theorem u8_fix {n : Int} (h : 0 ≤ n ∧ n ≤ 255) : V.int .u8 n = V.int .u8 ((u8 n).toNat : Int) := by
  have := byteV_u8 h
  unfold byteV at this
  exact this.symm
theorem u8_toNat (c : UInt8) : u8 (c.toNat : Int) = c := by simp [u8]
theorem take_map_v {α : Type} {f : α → V} {l : List α} {n : Nat} : List.take n (List.map f l) = List.map f (List.take n l) := List.map_take.symm
theorem drop_map_v {α : Type} {f : α → V} {l : List α} {n : Nat} : List.drop n (List.map f l) = List.map f (List.drop n l) := List.map_drop.symm
/-! ### The rules, put together -/
theorem RC : type_of% (And.intro @evalOps_nil (And.intro @evalOps_cons (And.intro @runOp_tt (And.intro @runOp_ff (And.intro @upon_val (And.intro @upon_call (And.intro @upon_pan (And.intro @retK_ret (And.intro @retK_pan (And.intro @thenQ_n (And.intro @thenQ_x (And.intro @thenQ_g (And.intro @thenQ_r (And.intro @thenQ_p (And.intro @blockQ_n (And.intro @blockQ_x (And.intro @blockQ_g (And.intro @blockQ_r (And.intro @blockQ_p (And.intro @wkQ_n (And.intro @wkQ_x (And.intro @wkQ_g (And.intro @wkQ_r (And.intro @wkQ_p (And.intro @regQ_ap (And.intro @panQ_ap (And.intro @evalPure_nil (And.intro @evalPure_cons (And.intro @pureK_tt (And.intro @pureK_ff (And.intro @pureR_val (@pureR_call)))))))))))))))))))))))))))))))) := And.intro @evalOps_nil (And.intro @evalOps_cons (And.intro @runOp_tt (And.intro @runOp_ff (And.intro @upon_val (And.intro @upon_call (And.intro @upon_pan (And.intro @retK_ret (And.intro @retK_pan (And.intro @thenQ_n (And.intro @thenQ_x (And.intro @thenQ_g (And.intro @thenQ_r (And.intro @thenQ_p (And.intro @blockQ_n (And.intro @blockQ_x (And.intro @blockQ_g (And.intro @blockQ_r (And.intro @blockQ_p (And.intro @wkQ_n (And.intro @wkQ_x (And.intro @wkQ_g (And.intro @wkQ_r (And.intro @wkQ_p (And.intro @regQ_ap (And.intro @panQ_ap (And.intro @evalPure_nil (And.intro @evalPure_cons (And.intro @pureK_tt (And.intro @pureK_ff (And.intro @pureR_val (@pureR_call)))))))))))))))))))))))))))))))
theorem RL : type_of% (And.intro @nil_o (And.intro @app_nil_o (And.intro @nil_v (And.intro @app_nil_v (And.intro @map_app_v (And.intro @cons_o (And.intro @cons_v (And.intro @app_o (And.intro @bb_tt (And.intro @bb_ff (And.intro @bb_tf (And.intro @bb_ft (And.intro @toBytes_map (And.intro @bits_i8 (And.intro @bits_i16 (And.intro @bits_i32 (And.intro @bits_i64 (And.intro @bits_u8_ (And.intro @bits_u16 (And.intro @bits_u32 (And.intro @bits_u64 (And.intro @get_loc (And.intro @get_loc0 (And.intro @set_loc (And.intro @set_loc0 (And.intro @take_map_v (@drop_map_v))))))))))))))))))))))))))) := And.intro @nil_o (And.intro @app_nil_o (And.intro @nil_v (And.intro @app_nil_v (And.intro @map_app_v (And.intro @cons_o (And.intro @cons_v (And.intro @app_o (And.intro @bb_tt (And.intro @bb_ff (And.intro @bb_tf (And.intro @bb_ft (And.intro @toBytes_map (And.intro @bits_i8 (And.intro @bits_i16 (And.intro @bits_i32 (And.intro @bits_i64 (And.intro @bits_u8_ (And.intro @bits_u16 (And.intro @bits_u32 (And.intro @bits_u64 (And.intro @get_loc (And.intro @get_loc0 (And.intro @set_loc (And.intro @set_loc0 (And.intro @take_map_v (@drop_map_v))))))))))))))))))))))))))
theorem RM : type_of% (And.intro @ne_eq.{1} (And.intro @not_false_eq_true (And.intro @Option.map_some.{0, 0} (And.intro @Option.map_none.{0, 0} (And.intro @List.getElem?_cons_zero.{0} (And.intro @List.getElem?_cons_succ.{0} (And.intro @List.length_cons.{0} (And.intro @List.length_nil.{0} (And.intro @Nat.zero_add (And.intro @List.contains_cons.{0} (And.intro @List.contains_nil.{0} (And.intro @List.elem_eq_contains.{0} (And.intro @List.map_cons.{0, 0} (And.intro @List.map_nil.{0, 0} (And.intro @List.getD_cons_zero.{0} (And.intro @List.getD_cons_succ.{0} (And.intro @List.getD_nil.{0} (And.intro @bne_self_eq_false.{0} (And.intro @beq_self_eq_true.{0} (And.intro @Bool.false_and (And.intro @Bool.true_and (And.intro @Bool.and_true (And.intro @Bool.and_false (And.intro @Bool.true_or (And.intro @Bool.false_or (And.intro @Bool.or_true (And.intro @Bool.or_false (And.intro @Int.cast_ofNat_Int (And.intro @Int.toNat_zero (And.intro @Int.toNat_one (And.intro @Int.toNat_natCast (And.intro @true_and (And.intro @and_true (And.intro @eq_self.{1} (And.intro @Bool.false_eq_true (And.intro @Nat.succ_ne_self (And.intro @Nat.zero_lt_succ (And.intro @Option.bind_some.{0, 0} (And.intro @List.size_toArray.{0} (And.intro @decide_true (And.intro @decide_false (And.intro @Bool.not_true (And.intro @Bool.not_false (And.intro @if_true.{1} (And.intro @if_false.{1} (And.intro @List.length_map.{0, 0} (And.intro @List.take_length.{0} (And.intro @List.all_cons.{0} (And.intro @List.all_nil.{0} (And.intro @List.set_cons_zero.{0} (And.intro @List.set_cons_succ.{0} (And.intro @List.take_succ_cons.{0} (And.intro @List.take_zero.{0} (And.intro @List.drop_succ_cons.{0} (And.intro @List.drop_zero.{0} (And.intro @List.take_nil.{0} (And.intro @List.drop_nil.{0} (And.intro @Nat.mul_one (And.intro @Nat.zero_mul (And.intro @Nat.one_mul (And.intro @Nat.le_refl (And.intro @List.headD_cons.{0} (And.intro @List.length_append.{0} (@Nat.add_zero)))))))))))))))))))))))))))))))))))))))))))))))))))))))))))))))) := And.intro @ne_eq.{1} (And.intro @not_false_eq_true (And.intro @Option.map_some.{0, 0} (And.intro @Option.map_none.{0, 0} (And.intro @List.getElem?_cons_zero.{0} (And.intro @List.getElem?_cons_succ.{0} (And.intro @List.length_cons.{0} (And.intro @List.length_nil.{0} (And.intro @Nat.zero_add (And.intro @List.contains_cons.{0} (And.intro @List.contains_nil.{0} (And.intro @List.elem_eq_contains.{0} (And.intro @List.map_cons.{0, 0} (And.intro @List.map_nil.{0, 0} (And.intro @List.getD_cons_zero.{0} (And.intro @List.getD_cons_succ.{0} (And.intro @List.getD_nil.{0} (And.intro @bne_self_eq_false.{0} (And.intro @beq_self_eq_true.{0} (And.intro @Bool.false_and (And.intro @Bool.true_and (And.intro @Bool.and_true (And.intro @Bool.and_false (And.intro @Bool.true_or (And.intro @Bool.false_or (And.intro @Bool.or_true (And.intro @Bool.or_false (And.intro @Int.cast_ofNat_Int (And.intro @Int.toNat_zero (And.intro @Int.toNat_one (And.intro @Int.toNat_natCast (And.intro @true_and (And.intro @and_true (And.intro @eq_self.{1} (And.intro @Bool.false_eq_true (And.intro @Nat.succ_ne_self (And.intro @Nat.zero_lt_succ (And.intro @Option.bind_some.{0, 0} (And.intro @List.size_toArray.{0} (And.intro @decide_true (And.intro @decide_false (And.intro @Bool.not_true (And.intro @Bool.not_false (And.intro @if_true.{1} (And.intro @if_false.{1} (And.intro @List.length_map.{0, 0} (And.intro @List.take_length.{0} (And.intro @List.all_cons.{0} (And.intro @List.all_nil.{0} (And.intro @List.set_cons_zero.{0} (And.intro @List.set_cons_succ.{0} (And.intro @List.take_succ_cons.{0} (And.intro @List.take_zero.{0} (And.intro @List.drop_succ_cons.{0} (And.intro @List.drop_zero.{0} (And.intro @List.take_nil.{0} (And.intro @List.drop_nil.{0} (And.intro @Nat.mul_one (And.intro @Nat.zero_mul (And.intro @Nat.one_mul (And.intro @Nat.le_refl (And.intro @List.headD_cons.{0} (And.intro @List.length_append.{0} (@Nat.add_zero)))))))))))))))))))))))))))))))))))))))))))))))))))))))))))))))
end Go.Proofs.YtmjohmefhikelaaDoor.Pv
