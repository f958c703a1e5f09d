/- A run that reckons: values compared, values that name no object. -/
import Derived.Test.YtpbnnbjkjaajnaaPxZ
set_option linter.unusedVariables false
set_option linter.unusedSimpArgs false
namespace Go.Proofs.Ytpbnnbjkjaajnaa.Pv
open Go
noncomputable section
mutual
def V.beq : V → V → Bool
  | .bool a, .bool b => a == b
  | .int k a, .int l b => decide (k = l) && decide (a = b)
  | .flt k a, .flt l b => decide (k = l) && a == b
  | .cpx k a c, .cpx l b d => decide (k = l) && (a == b && c == d)
  | .str a, .str b => decide (a = b)
  | .sl s x, .sl t y => s == t && V.beqL x y
  | .cap s x, .cap t y => s == t && V.beqL x y
  | .slen a, .slen b => a == b
  | .own e s x, .own f t y => e == f && (s == t && V.beqL x y)
  | .nils a b, .nils c d => a == c && b == d
  | .msl a b c d, .msl e f g h => a == e && (b == f && (c == g && d == h))
  | .ref a b, .ref c d => a == c && b == d
  | .imm x, .imm y => V.beqL x y
  | .nilp, .nilp => true
  | .map a, .map b => a == b
  | .nilm, .nilm => true
  | .func (.func a) x y, .func (.func b) z w => a == b && (V.beqL x z && V.beqL y w)
  | .nilf, .nilf => true
  | .iface a x, .iface b y => a == b && V.beq x y
  | .nili, .nili => true
  | .agg x, .agg y => V.beqL x y
  | .tup x, .tup y => V.beqL x y
  | .top, .top => true
  | _, _ => false
def V.beqL : List V → List V → Bool
  | [], [] => true
  | x :: xs, y :: ys => V.beq x y && V.beqL xs ys
  | _, _ => false
end
mutual
theorem V.beq_eq : ∀ (x y : V), V.beq x y = true → x = y
  | .bool a, y, h => by cases y <;> simp_all [V.beq]
  | .int k a, y, h => by cases y <;> simp_all [V.beq]
  | .flt k a, y, h => by cases y <;> simp_all [V.beq]
  | .cpx k a b, y, h => by cases y <;> simp_all [V.beq]
  | .str a, y, h => by cases y <;> simp_all [V.beq]
  | .sl s x, y, h => by
    cases y <;> simp [V.beq] at h
    obtain ⟨rfl, h⟩ := h; rw [V.beqL_eq _ _ h]
  | .cap s x, y, h => by
    cases y <;> simp [V.beq] at h
    obtain ⟨rfl, h⟩ := h; rw [V.beqL_eq _ _ h]
  | .slen a, y, h => by cases y <;> simp_all [V.beq]
  | .own e s x, y, h => by
    cases y <;> simp [V.beq] at h
    obtain ⟨rfl, rfl, h⟩ := h; rw [V.beqL_eq _ _ h]
  | .pri _ _ _ _, y, h => by cases y <;> simp [V.beq] at h
  | .raw _, y, h => by cases y <;> simp [V.beq] at h
  | .nils a b, y, h => by cases y <;> simp_all [V.beq]
  | .msl a b c d, y, h => by cases y <;> simp_all [V.beq]
  | .ref a b, y, h => by cases y <;> simp_all [V.beq]
  | .imm x, y, h => by
    cases y <;> simp [V.beq] at h
    rw [V.beqL_eq _ _ h]
  | .nilp, y, h => by cases y <;> simp_all [V.beq]
  | .map a, y, h => by cases y <;> simp_all [V.beq]
  | .nilm, y, h => by cases y <;> simp_all [V.beq]
  | .func f x z, y, h => by
    cases y with
    | func g x' z' =>
      cases f <;> cases g <;> simp [V.beq] at h
      obtain ⟨rfl, h1, h2⟩ := h; rw [V.beqL_eq _ _ h1, V.beqL_eq _ _ h2]
    | _ => cases f <;> simp [V.beq] at h
  | .nilf, y, h => by cases y <;> simp_all [V.beq]
  | .iface a x, y, h => by
    cases y <;> simp [V.beq] at h
    obtain ⟨rfl, h⟩ := h; rw [V.beq_eq _ _ h]
  | .nili, y, h => by cases y <;> simp_all [V.beq]
  | .agg x, y, h => by
    cases y <;> simp [V.beq] at h
    rw [V.beqL_eq _ _ h]
  | .tup x, y, h => by
    cases y <;> simp [V.beq] at h
    rw [V.beqL_eq _ _ h]
  | .top, y, h => by cases y <;> simp_all [V.beq]
theorem V.beqL_eq : ∀ (x y : List V), V.beqL x y = true → x = y
  | [], [], _ => rfl
  | [], _ :: _, h => by simp [V.beqL] at h
  | _ :: _, [], h => by simp [V.beqL] at h
  | x :: xs, y :: ys, h => by
    simp only [V.beqL, Bool.and_eq_true] at h
    rw [V.beq_eq x y h.1, V.beqL_eq xs ys h.2]
end
def mapB : List (V × V) → List (V × V) → Bool
  | [], [] => true
  | (a, b) :: r, (c, d) :: s => V.beq a c && (V.beq b d && mapB r s)
  | _, _ => false
theorem mapB_eq : ∀ (x y : List (V × V)), mapB x y = true → x = y
  | [], [], _ => rfl
  | [], _ :: _, h => by simp [mapB] at h
  | _ :: _, [], h => by simp [mapB] at h
  | (a, b) :: r, (c, d) :: s, h => by
    simp only [mapB, Bool.and_eq_true] at h
    rw [V.beq_eq a c h.1, V.beq_eq b d h.2.1, mapB_eq r s h.2.2]
def AObj.beq : AObj → AObj → Bool
  | .cells t x, .cells u y => t == u && V.beqL x y
  | .map x, .map y => mapB x y
  | .siter s p, .siter t q => decide (s = t) && p == q
  | .miter m n l k, .miter m' n' l' k' => m == m' && (n == n' && (decide (l = l') && decide (k = k')))
  | _, _ => false
theorem AObj.beq_eq (x y : AObj) (h : AObj.beq x y = true) : x = y := by
  cases x <;> cases y <;> simp [AObj.beq] at h
  · obtain ⟨rfl, h⟩ := h; rw [V.beqL_eq _ _ h]
  · rw [mapB_eq _ _ h]
  · obtain ⟨rfl, rfl⟩ := h; rfl
  · obtain ⟨rfl, rfl, rfl, rfl⟩ := h; rfl
def heapB : H → H → Bool
  | [], [] => true
  | x :: r, y :: s => AObj.beq x y && heapB r s
  | _, _ => false
theorem heapB_eq : ∀ (x y : H), heapB x y = true → x = y
  | [], [], _ => rfl
  | [], _ :: _, h => by simp [heapB] at h
  | _ :: _, [], h => by simp [heapB] at h
  | x :: r, y :: s, h => by
    simp only [heapB, Bool.and_eq_true] at h
    rw [AObj.beq_eq x y h.1, heapB_eq r s h.2]
def envB : Env → Env → Bool
  | [], [] => true
  | (i, x) :: r, (j, y) :: s => i == j && (V.beq x y && envB r s)
  | _, _ => false
theorem envB_eq : ∀ (x y : Env), envB x y = true → x = y
  | [], [], _ => rfl
  | [], _ :: _, h => by simp [envB] at h
  | _ :: _, [], h => by simp [envB] at h
  | (i, x) :: r, (j, y) :: s, h => by
    simp only [envB, Bool.and_eq_true, beq_iff_eq] at h
    rw [h.1, V.beq_eq x y h.2.1, envB_eq r s h.2.2]
mutual
def V.clB (m : Nat) : V → Bool
  | .sl _ x => V.clL m x
  | .cap _ x => V.clL m x
  | .own _ _ x => V.clL m x
  | .pri _ _ _ x => V.clL m x
  | .imm x => V.clL m x
  | .agg x => V.clL m x
  | .tup x => V.clL m x
  | .iface _ v => V.clB m v
  | .func _ x y => V.clL m x && V.clL m y
  | .ref i _ => decide (i < m)
  | .msl i _ _ _ => decide (i < m)
  | .map i => decide (i < m)
  | _ => true
def V.clL (m : Nat) : List V → Bool
  | [] => true
  | x :: xs => V.clB m x && V.clL m xs
end
mutual
theorem V.clB_cl (m : Nat) : ∀ x : V, V.clB m x = true → V.Cl m x
  | .bool _, _ => .bool _
  | .int _ _, _ => .int _ _
  | .flt _ _, _ => .flt _ _
  | .cpx _ _ _, _ => .cpx _ _ _
  | .str _, _ => .str _
  | .sl _ x, h => .sl _ _ (V.clL_cl m x h)
  | .cap _ x, h => .cap _ _ (V.clL_cl m x h)
  | .slen _, _ => .slen _
  | .own _ _ x, h => .own _ _ _ (V.clL_cl m x h)
  | .pri _ _ _ x, h => .pri _ _ _ _ (V.clL_cl m x h)
  | .raw _, _ => .raw _
  | .nils _ _, _ => .nils _ _
  | .msl _ _ _ _, h => .msl _ _ _ _ (of_decide_eq_true h)
  | .ref _ _, h => .ref _ _ (of_decide_eq_true h)
  | .imm x, h => .imm _ (V.clL_cl m x h)
  | .nilp, _ => .nilp
  | .map _, h => .map _ (of_decide_eq_true h)
  | .nilm, _ => .nilm
  | .func _ x y, h => by
    simp only [V.clB, Bool.and_eq_true] at h
    exact .func _ _ _ (V.clL_cl m x h.1) (V.clL_cl m y h.2)
  | .nilf, _ => .nilf
  | .iface _ v, h => .iface _ _ (V.clB_cl m v h)
  | .nili, _ => .nili
  | .agg x, h => .agg _ (V.clL_cl m x h)
  | .tup x, h => .tup _ (V.clL_cl m x h)
  | .top, _ => .top
theorem V.clL_cl (m : Nat) : ∀ x : List V, V.clL m x = true → ∀ v ∈ x, V.Cl m v
  | [], _, v, hv => by cases hv
  | x :: xs, h, v, hv => by
    simp only [V.clL, Bool.and_eq_true] at h
    cases hv with
    | head => exact V.clB_cl m x h.1
    | tail _ hv => exact V.clL_cl m xs h.2 v hv
end
def AObj.clB (m : Nat) : AObj → Bool
  | .cells _ x => V.clL m x
  | .map es => es.all fun e => V.clB m e.1 && V.clB m e.2
  | .siter _ _ => true
  | .miter i _ _ _ => decide (i < m)
theorem AObj.clB_cl (m : Nat) (o : AObj) (h : AObj.clB m o = true) : AObj.Cl m o := by
  cases o with
  | cells t x => exact V.clL_cl m x h
  | map es =>
    intro k v hkv
    have := List.all_eq_true.1 h _ hkv
    simp only [Bool.and_eq_true] at this
    exact ⟨V.clB_cl m k this.1, V.clB_cl m v this.2⟩
  | siter s p => trivial
  | miter i n l k =>
    have : i < m := of_decide_eq_true h
    exact this
/-! ### The same, by fewer steps -/
/-- Put, and the slots laid out. -/
def putF {α : Type} (i : Nat) (v : V) (env : Env) (k : Env → α) : α :=
  List.rec (motive := fun _ => (Env → α) → α) (fun k => k [(i, v)]) (fun p r ih k => Bool.rec (motive := fun _ => α) (ih fun r' => k (p :: r')) (k ((p.1, v) :: r)) (Nat.beq i p.1)) env k
theorem putF_nil {α : Type} (i : Nat) (v : V) (k : Env → α) : putF i v [] k = k [(i, v)] := rfl
theorem putF_cons {α : Type} (i : Nat) (v : V) (j : Nat) (u : V) (r : Env) (k : Env → α) : putF i v ((j, u) :: r) k = match Nat.beq i j with | true => k ((j, v) :: r) | false => putF i v r fun r => k ((j, u) :: r) := by
  show _ = _
  cases h : Nat.beq i j <;> simp [putF, h]
theorem beq_no {i j : Nat} (e : ¬ i = j) : Nat.beq i j = false := by
  cases hb : Nat.beq i j with
  | false => rfl
  | true => exact absurd (Nat.eq_of_beq_eq_true hb) e
theorem putF_eq {α : Type} (i : Nat) (v : V) : ∀ (env : Env) (k : Env → α), putF i v env k = k (env.put i v)
  | [], k => rfl
  | (j, u) :: r, k => by
    rw [putF_cons]
    by_cases e : i = j
    · subst e; rw [Nat.beq_refl]; simp [Env.put]
    · rw [beq_no e]; simp only [putF_eq i v r, Env.put, if_neg e]
def memF (j : Nat) : List Nat → Bool
  | [] => false
  | k :: r => match Nat.beq j k with | true => true | false => memF j r
theorem memF_eq (j : Nat) : ∀ l : List Nat, memF j l = l.contains j
  | [] => rfl
  | k :: r => by
    unfold memF
    rw [List.contains_cons]
    by_cases e : j = k
    · subst e; rw [Nat.beq_refl]; simp
    · rw [beq_no e, show (j == k) = false from by simpa using e]; simp [memF_eq j r]
/-- Slots as the bits of a number. -/
def maskOf : List Nat → Nat
  | [] => 0
  | k :: r => Nat.lor (Nat.shiftLeft 1 k) (maskOf r)
def bitB (m i : Nat) : Bool := Nat.beq (Nat.land (Nat.shiftRight m i) 1) 1
theorem bitB_test (m i : Nat) : bitB m i = Nat.testBit m i := by
  rw [Nat.testBit_eq_decide_div_mod_eq]
  show Nat.beq ((m >>> i) &&& 1) 1 = _
  rw [Nat.shiftRight_eq_div_pow, Nat.and_one_is_mod]
  by_cases h : m / 2 ^ i % 2 = 1
  · rw [h]; rfl
  · rw [beq_no h]; simp [h]
theorem bitB_mask : ∀ (ks : List Nat) (i : Nat), bitB (maskOf ks) i = ks.contains i
  | [], i => by rw [bitB_test]; simp [maskOf]
  | k :: r, i => by
    have ih := bitB_mask r i
    rw [bitB_test] at ih ⊢
    show ((1 <<< k) ||| maskOf r).testBit i = _
    rw [Nat.testBit_or, ih, Nat.testBit_shiftLeft, List.contains_cons]
    congr 1
    by_cases e : i = k
    · subst e; simp
    · rw [show (i == k) = false from by simpa using e]
      by_cases h : k ≤ i
      · have h0 : i - k ≠ 0 := by omega
        have h1 : Nat.testBit 1 (i - k) = false := by
          cases hb : Nat.testBit 1 (i - k) with
          | false => rfl
          | true => exact absurd (Nat.testBit_one_eq_true_iff_self_eq_zero.1 hb) h0
        simp [h, h1]
      · simp [h]
def keepF {α : Type} (m : Nat) (env : Env) (k : Env → α) : α :=
  List.rec (motive := fun _ => (Env → α) → α) (fun k => k []) (fun p r ih k => Bool.rec (motive := fun _ => α) (ih k) (ih fun r' => k (p :: r')) (bitB m p.1)) env k
theorem keepF_cons {α : Type} (m : Nat) (p : Nat × V) (r : Env) (k : Env → α) : keepF m (p :: r) k = match bitB m p.1 with | true => keepF m r fun r => k (p :: r) | false => keepF m r k := by
  show _ = _
  cases h : bitB m p.1 <;> simp [keepF, h]
theorem keepF_eq {α : Type} (ks : List Nat) : ∀ (env : Env) (k : Env → α), keepF (maskOf ks) env k = k (env.keep ks)
  | [], k => rfl
  | (j, u) :: r, k => by
    rw [keepF_cons]
    simp only [bitB_mask]
    cases hc : ks.contains j <;> simp only [Env.keep, hc, if_true, Bool.false_eq_true, if_false, keepF_eq ks r]
/-- At a region's end: what it has written and is kept. -/
def finF {α : Type} (m : Nat) (t b : Env) (k : Env → α) : α :=
  List.rec (motive := fun _ => (Env → α) → α) (fun k => k b) (fun p _ ih k => Bool.rec (motive := fun _ => α) (ih k) (ih fun b => putF p.1 p.2 b k) (bitB m p.1)) t k
theorem finF_cons {α : Type} (m : Nat) (p : Nat × V) (r b : Env) (k : Env → α) : finF m (p :: r) b k = match bitB m p.1 with | true => finF m r b fun b => putF p.1 p.2 b k | false => finF m r b k := by
  show _ = _
  cases h : bitB m p.1 <;> simp [finF, h]
theorem keep_put (ks : List Nat) (i : Nat) (v : V) : ∀ e : Env, (e.put i v).keep ks = if ks.contains i = true then (e.keep ks).put i v else e.keep ks
  | [] => by
    by_cases h : ks.contains i = true
    · simp only [Env.put, Env.keep, if_pos h]
    · simp only [Env.put, Env.keep, if_neg h]
  | (j, u) :: r => by
    simp only [Env.put]
    by_cases e : i = j
    · subst e
      rw [if_pos rfl]
      by_cases h : ks.contains i = true
      · simp only [Env.keep, if_pos h, Env.put]; simp
      · simp only [Env.keep, if_neg h]
    · rw [if_neg e]
      by_cases hj : ks.contains j = true
      · simp only [Env.keep, if_pos hj, keep_put ks i v r]
        by_cases h : ks.contains i = true
        · rw [if_pos h, if_pos h]; simp only [Env.put, if_neg e]
        · rw [if_neg h, if_neg h]
      · simp only [Env.keep, if_neg hj]
        exact keep_put ks i v r
theorem keep_keep (ks : List Nat) : ∀ e : Env, (e.keep ks).keep ks = e.keep ks
  | [] => rfl
  | (j, u) :: r => by
    simp only [Env.keep]
    by_cases hk : ks.contains j = true
    · rw [if_pos hk]; simp only [Env.keep]; rw [if_pos hk, keep_keep ks r]
    · rw [if_neg hk]; exact keep_keep ks r
theorem finF_eq {α : Type} (ks : List Nat) {b : Env} (hb : b.keep ks = b) : ∀ (t : Env) (k : Env → α), finF (maskOf ks) t b k = k ((EnvX.toE (.mk t b)).keep ks)
  | [], k => by
    show k b = k (b.keep ks)
    rw [hb]
  | (i, v) :: r, k => by
    rw [finF_cons]
    show _ = k ((Env.put (EnvX.toE (.mk r b)) i v).keep ks)
    simp only [bitB_mask, keep_put]
    cases hc : ks.contains i
    · simp only [Bool.false_eq_true, if_false]; exact finF_eq ks hb r k
    · simp only [if_true, finF_eq ks hb r, putF_eq]
/-- A value's head. -/
def V.whnf {α : Type} (v : V) (k : V → α) : α :=
  match v with
  | .bool b => k (.bool b)
  | .int d n => k (.int d n)
  | .str s => k (.str s)
  | .sl s x => k (.sl s x)
  | .own e s x => k (.own e s x)
  | .ref a b => k (.ref a b)
  | .imm x => k (.imm x)
  | .map a => k (.map a)
  | .func f x y => k (.func f x y)
  | .agg x => k (.agg x)
  | .tup x => k (.tup x)
  | .nils a b => k (.nils a b)
  | v => k v
theorem V.whnf_eq {α : Type} (v : V) (k : V → α) : V.whnf v k = k v := by cases v <;> rfl
def V.whnfL {α : Type} : List V → (List V → α) → α
  | [], k => k []
  | x :: xs, k => V.whnf x fun x => V.whnfL xs fun xs => k (x :: xs)
theorem V.whnfL_eq {α : Type} : ∀ (l : List V) (k : List V → α), V.whnfL l k = k l
  | [], k => rfl
  | x :: xs, k => by simp only [V.whnfL, V.whnf_eq, V.whnfL_eq xs]
/-! ### Values reckoned out ahead of their use -/
def forceN {α : Type} (n : Nat) (k : Nat → α) : α :=
  match n with
  | 0 => k 0
  | m + 1 => k (Nat.succ m)
theorem forceN_eq {α : Type} (n : Nat) (k : Nat → α) : forceN n k = k n := by cases n <;> rfl
def forceI {α : Type} (n : Int) (k : Int → α) : α :=
  match n with
  | .ofNat m => forceN m fun m => k (.ofNat m)
  | .negSucc m => forceN m fun m => k (.negSucc m)
theorem forceI_eq {α : Type} (n : Int) (k : Int → α) : forceI n k = k n := by cases n <;> simp [forceI, forceN_eq]
def forceBs {α : Type} : List UInt8 → (List UInt8 → α) → α
  | [], k => k []
  | x :: xs, k => forceBs xs fun xs => k (x :: xs)
theorem forceBs_eq {α : Type} : ∀ (l : List UInt8) (k : List UInt8 → α), forceBs l k = k l
  | [], k => rfl
  | x :: xs, k => by simp only [forceBs, forceBs_eq xs]
def forceB {α : Type} (b : Bool) (k : Bool → α) : α := match b with | true => k true | false => k false
theorem forceB_eq {α : Type} (b : Bool) (k : Bool → α) : forceB b k = k b := by cases b <;> rfl
mutual
def V.force {α : Type} : V → (V → α) → α
  | .bool b, k => forceB b fun b => k (.bool b)
  | .int d n, k => forceI n fun n => k (.int d n)
  | .flt d n, k => forceN n fun n => k (.flt d n)
  | .str s, k => forceBs s fun s => k (.str s)
  | .sl s x, k => V.forceL x fun x => k (.sl s x)
  | .cap s x, k => V.forceL x fun x => k (.cap s x)
  | .slen n, k => forceN n fun n => k (.slen n)
  | .own e s x, k => V.forceL x fun x => k (.own e s x)
  | .msl a b c d, k => forceN a fun a => forceN b fun b => forceN c fun c => k (.msl a b c d)
  | .ref a b, k => forceN a fun a => forceN b fun b => k (.ref a b)
  | .imm x, k => V.forceL x fun x => k (.imm x)
  | .map a, k => forceN a fun a => k (.map a)
  | .iface t v, k => V.force v fun v => k (.iface t v)
  | .agg x, k => V.forceL x fun x => k (.agg x)
  | .tup x, k => V.forceL x fun x => k (.tup x)
  | .func f x y, k => V.forceL x fun x => V.forceL y fun y => k (.func f x y)
  | v, k => k v
def V.forceL {α : Type} : List V → (List V → α) → α
  | [], k => k []
  | x :: xs, k => V.force x fun x => V.forceL xs fun xs => k (x :: xs)
end
mutual
theorem V.force_eq {α : Type} : ∀ (v : V) (k : V → α), V.force v k = k v
  | .bool b, k => by simp [V.force, forceB_eq]
  | .int d n, k => by simp [V.force, forceI_eq]
  | .flt d n, k => by simp [V.force, forceN_eq]
  | .cpx _ _ _, k => by simp [V.force]
  | .str s, k => by simp [V.force, forceBs_eq]
  | .sl s x, k => by simp [V.force, V.forceL_eq x]
  | .cap s x, k => by simp [V.force, V.forceL_eq x]
  | .slen n, k => by simp [V.force, forceN_eq]
  | .own e s x, k => by simp [V.force, V.forceL_eq x]
  | .pri _ _ _ _, k => by simp [V.force]
  | .raw _, k => by simp [V.force]
  | .nils _ _, k => by simp [V.force]
  | .msl a b c d, k => by simp [V.force, forceN_eq]
  | .ref a b, k => by simp [V.force, forceN_eq]
  | .imm x, k => by simp [V.force, V.forceL_eq x]
  | .nilp, k => by simp [V.force]
  | .map a, k => by simp [V.force, forceN_eq]
  | .nilm, k => by simp [V.force]
  | .func f x y, k => by simp [V.force, V.forceL_eq x, V.forceL_eq y]
  | .nilf, k => by simp [V.force]
  | .iface t v, k => by simp [V.force, V.force_eq v]
  | .nili, k => by simp [V.force]
  | .agg x, k => by simp [V.force, V.forceL_eq x]
  | .tup x, k => by simp [V.force, V.forceL_eq x]
  | .top, k => by simp [V.force]
theorem V.forceL_eq {α : Type} : ∀ (x : List V) (k : List V → α), V.forceL x k = k x
  | [], k => by simp [V.forceL]
  | x :: xs, k => by simp [V.forceL, V.force_eq x, V.forceL_eq xs]
end
/-- The slots, not what they hold. -/
def forceE {α : Type} : Env → (Env → α) → α
  | [], k => k []
  | (i, v) :: r, k => forceE r fun r => k ((i, v) :: r)
theorem forceE_eq {α : Type} : ∀ (e : Env) (k : Env → α), forceE e k = k e
  | [], k => rfl
  | (i, v) :: r, k => by simp only [forceE, forceE_eq r]
def forceEV {α : Type} : Env → (Env → α) → α
  | [], k => k []
  | (i, v) :: r, k => V.whnf v fun v => forceEV r fun r => k ((i, v) :: r)
theorem forceEV_eq {α : Type} : ∀ (e : Env) (k : Env → α), forceEV e k = k e
  | [], k => rfl
  | (i, v) :: r, k => by simp only [forceEV, V.whnf_eq, forceEV_eq r]
def forceMap {α : Type} : List (V × V) → (List (V × V) → α) → α
  | [], k => k []
  | (a, b) :: r, k => V.force a fun a => V.force b fun b => forceMap r fun r => k ((a, b) :: r)
theorem forceMap_eq {α : Type} : ∀ (e : List (V × V)) (k : List (V × V) → α), forceMap e k = k e
  | [], k => rfl
  | (a, b) :: r, k => by simp only [forceMap, V.force_eq, forceMap_eq r]
def AObj.force {α : Type} (o : AObj) (k : AObj → α) : α :=
  match o with
  | .cells t x => forceN t fun t => V.forceL x fun x => k (.cells t x)
  | .map es => forceMap es fun es => k (.map es)
  | .siter s p => forceBs s fun s => forceN p fun p => k (.siter s p)
  | o => k o
theorem AObj.force_eq {α : Type} (o : AObj) (k : AObj → α) : AObj.force o k = k o := by cases o <;> simp [AObj.force, forceN_eq, V.forceL_eq, forceMap_eq, forceBs_eq]
/-- One object; the list up to it. -/
def forceAt {α : Type} : Nat → H → (H → α) → α
  | _, [], k => k []
  | 0, o :: r, k => AObj.force o fun o => k (o :: r)
  | n + 1, o :: r, k => forceAt n r fun r => k (o :: r)
theorem forceAt_eq {α : Type} : ∀ (n : Nat) (h : H) (k : H → α), forceAt n h k = k h
  | 0, [], k => rfl
  | _ + 1, [], k => rfl
  | 0, o :: r, k => by simp only [forceAt, AObj.force_eq]
  | n + 1, o :: r, k => by simp only [forceAt, forceAt_eq n r]
def forceH {α : Type} : H → (H → α) → α
  | [], k => k []
  | o :: r, k => forceH r fun r => k (o :: r)
theorem forceH_eq {α : Type} : ∀ (h : H) (k : H → α), forceH h k = k h
  | [], k => rfl
  | o :: r, k => by simp only [forceH, forceH_eq r]
/-- The last slot's value, known. -/
def EnvX.headF {α : Type} (x : EnvX) (k : Env → Env → α) : α :=
  match x with
  | .mk t b => (match t with
    | [] => k [] b
    | p :: t => V.whnf p.2 fun u => k ((p.1, u) :: t) b)
theorem EnvX.headF_eq {α : Type} (t b : Env) (k : Env → Env → α) : EnvX.headF (.mk t b) k = k t b := by
  cases t with
  | nil => rfl
  | cons p t => simp only [EnvX.headF, V.whnf_eq]
end
end Go.Proofs.Ytpbnnbjkjaajnaa.Pv
