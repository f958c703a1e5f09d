/- The pure evaluator, part M: an operation's value, whichever it is. -/
import Derived.Test.YtmjohmefhikelaaDoorPwL
import Derived.Test.YtmjohmefhikelaaDoorPwZ
set_option linter.unusedVariables false
set_option linter.unusedSimpArgs false
namespace Go.Proofs.YtmjohmefhikelaaDoor.Pv
open Go
variable [DS]

omit [DS] in
theorem VRel.upto {w : World} {F : Nat → Nat} {ι : List Nat} {sz : Nat} {xs : List V} {a0 : Option Addr} {len cap k : Nat} (hv : VRel w F ι (.sl sz xs) (.slice a0 len cap)) (hk : k ≤ xs.length) : VRel w F ι (.sl sz (xs.take k)) (.slice a0 k k) := by
  cases hv with
  | sl0 => obtain rfl : k = 0 := by simpa using hk
           exact .sl0 _ _ _
  | sl _ _ b off len cap vals hlen hcap hsz hw hvl hcov hc h1 hr =>
    have hks : k * sz ≤ vals.length := by rw [hvl]; exact Nat.mul_le_mul_right _ hk
    have hl : (xs.take k).length = k := by simp; omega
    refine .sl sz _ b off k k (vals.take (k * sz)) hl.symm (Nat.le_refl _) hsz (fun x hx => hw x (List.mem_of_mem_take hx)) (by rw [hl, List.length_take]; omega) (by rw [List.length_take]; omega) (fun i u hu => ?_) (fun u hu => h1 u (List.mem_of_mem_take hu)) (fun i c u hc' hu => ?_)
    · rw [List.getElem?_take] at hu
      split at hu
      · exact hc i u hu
      · cases hu
    · rw [flatMap_take hw] at hc'
      rw [List.getElem?_take] at hc' hu
      split at hc'
      · rename_i hlt
        rw [if_pos hlt] at hu
        exact hr i c u hc' hu
      · cases hc'
omit [DS] in
theorem VRel.toCap {w : World} {F : Nat → Nat} {ι : List Nat} {sz : Nat} {xs : List V} {a0 : Option Addr} {n : Nat} (hv : VRel w F ι (.sl sz xs) (.slice a0 n n)) : VRel w F ι (.cap sz xs) (.slice a0 n n) := by
  cases hv with
  | sl0 => exact .cap0 _ _
  | sl _ _ b off len cap vals hlen hcap hsz hw hvl hcov hc h1 hr => exact .cap sz xs b off _ vals hlen hsz hw hvl hcov hc h1 hr
omit [DS] in
theorem slice3_run {P : Program} {ty : Nat → Ty} {w : World} {g : Gh} (hty : ∀ t, TyOK P t (ty t)) {t : Nat} {x m : V} {xu mu : Value} {lo hi : Option V} {lu hu : Option Value} {p : Prop} {v : V} (h : slice3 ty t x lo hi m = .ok p v) (hp : p)
    (hx : VRel w g.F g.ι x xu) (hl : ORelO w g lo lu) (hh : ORelO w g hi hu) (hm : VRel w g.F g.ι m mu) :
    ∃ u, (Instr.sliceAt t xu lu hu (some mu)).run P w = .ok u w ∧ VRel w g.F g.ι v u := by
  have hk := (hty t).k
  unfold slice3 at h
  split at h
  · rename_i e sz xs k1 a k2 b hkt
    rw [hkt] at hk
    have hk : P.underlying t = some (.slice e) := hk
    split at h
    · rename_i hab
      subst hab
      obtain ⟨r, l, k, hb, hr, ⟨hsz, hz⟩, rfl⟩ := withB_ok h hp
      obtain rfl := VRel.int_inv hm
      cases hu with
      | none => exact hh.elim
      | some hu =>
      have hh' : VRel w g.F g.ι (.int k1 a) hu := hh
      obtain rfl := VRel.int_inv hh'
      have hb2 := hb
      unfold bounds at hb
      simp only [hiB] at hb
      cases h2 : loB lo a.toNat with
      | none => simp [h2] at hb
      | some y =>
        obtain ⟨rr, l'⟩ := y
        simp only [h2, Option.some.injEq, Prod.mk.injEq] at hb
        obtain ⟨rfl, rfl, rfl⟩ := hb
        obtain ⟨hq, hrr⟩ := hr
        obtain ⟨a0, cap, rfl, hcase⟩ := hx.flat
        have hlc : xs.length ≤ cap := by
          rcases hcase with rfl | ⟨hc, _⟩
          · exact Nat.zero_le _
          · exact hc
        have hak : a.toNat ≤ xs.length := by omega
        have B : (match lu with | some v => Instr.sliceBound v a.toNat (if (some (Value.int k2 a)).isSome then .slice3C else .sliceB) | none => (Pure.pure 0 : Sem Nat)).run P w = .ok l' w ∧ l' ≤ a.toNat := by
          cases lo with
          | none =>
            cases lu with
            | some u => exact hl.elim
            | none => simp only [loB, Option.some.injEq, Prod.mk.injEq] at h2; obtain ⟨_, rfl⟩ := h2; exact ⟨by simp, Nat.zero_le _⟩
          | some v =>
            cases lu with
            | none => exact hl.elim
            | some u =>
              cases v <;> simp only [loB, Option.some.injEq, Prod.mk.injEq, reduceCtorEq] at h2
              obtain ⟨rfl, rfl⟩ := h2
              obtain rfl := VRel.int_inv hl
              exact ⟨sliceBound_run hrr, by omega⟩
        have hso := run_sizeOf' hty (t := e) (by omega) w
        have h1 : (Instr.sliceBounds true xs.length cap lu (some (.int k1 a)) (some (.int k2 a))).run P w = .ok (l', a.toNat, a.toNat) w := by
          have e1 : (Instr.sliceBound (.int k2 a) cap .slice3Acap).run P w = .ok a.toNat w := sliceBound_run ⟨hq.1, by omega⟩
          have e2 : (Instr.sliceBound (.int k1 a) a.toNat .slice3B).run P w = .ok a.toNat w := sliceBound_run ⟨hq.1, by omega⟩
          have e3 := B.1
          unfold Instr.sliceBounds
          cases lu <;> simp only [Option.isSome_some, if_true] at e3 <;> (try simp at e3) <;> simp [e1, e2, e3]
        refine ⟨.slice (if a.toNat = l' then a0 else a0.map (·.add (l' * sz))) (a.toNat - l') (a.toNat - l'), ?_, ?_⟩
        · rw [hsz]
          simp [Instr.sliceAt, Instr.slice, underlying, hk, h1, hso]
        · have hp1 := (hx.upto hak).piece (l := l') (k := a.toNat) B.2 (by rw [List.length_take]; omega)
          rw [List.take_take, Nat.min_self] at hp1
          exact hp1.toCap
    · cases h
  · cases h

section
variable {P : Program} {ty : Nat → Ty} {tk : List Nat} {d n : Nat} {a : Act} {w : World} {g : Gh} {env : Env} {h : H}

theorem aop_done (ht : TyTab P ty) (hf : FRel d n a w g env) (hh : HRel w g h) {o : Oper} {p : Prop} {v : V} {env' : Env} {h' : H} (hr : aop ty tk o env h = .val p v env' h') (hp : p) : OpDone P d n o a w g v env' h' := by
  unfold aop at hr
  split at hr
  case h_1 i ho =>
    split at hr <;> simp only [Res.val.injEq] at hr <;> obtain ⟨rfl, rfl, rfl, rfl⟩ := hr
    · exact take_done i o hf hh (by simp [execOp, ho])
    · exact OpDone.pure (u := a.eval (.tmp i)) hf hh (by simp [execOp, ho]) (hf.slot i).demote
  case h_2 x hx ho =>
    simp only [Res.val.injEq] at hr; obtain ⟨rfl, rfl, rfl, rfl⟩ := hr
    exact OpDone.pure hf hh (by simp [execOp, ho]) (ev_rel hf _ x)
  case h_3 i ho =>
    split at hr <;> simp only [Res.val.injEq] at hr <;> obtain ⟨rfl, rfl, rfl, rfl⟩ := hr
    · exact (take_done i o hf hh (by simp [execOp, ho])).toOwn
    · exact OpDone.pure (u := a.eval (.tmp i)) hf hh (by simp [execOp, ho]) (hf.slot i).demote
  case h_4 x hx ho =>
    simp only [Res.val.injEq] at hr; obtain ⟨rfl, rfl, rfl, rfl⟩ := hr
    exact (OpDone.pure hf hh (by simp [execOp, ho]) (ev_rel hf _ x)).toOwn
  case h_5 c x y ho =>
    obtain ⟨h1, rfl, rfl⟩ := R1.res_val hr
    obtain ⟨b, hb, hv⟩ := pick_run h1 (ev_rel hf 0 c) (ev_rel hf _ x) (ev_rel hf _ y)
    refine OpDone.pure hf hh ?_ hv
    simp [execOp, ho, hb, asBool]
  case h_6 t ho =>
    simp only [Res.val.injEq] at hr; obtain ⟨rfl, rfl, rfl, rfl⟩ := hr
    exact alloc_done ht.ok hf hh ho hp.1 hp.2
  case h_7 t x ho =>
    simp only [Res.val.injEq] at hr; obtain ⟨rfl, rfl, rfl, rfl⟩ := hr
    exact box_done hf hh ho hp
  case h_8 t parts ho =>
    split at hr
    · rename_i q cs hfl
      simp only [Res.val.injEq] at hr; obtain ⟨rfl, rfl, rfl, rfl⟩ := hr
      obtain ⟨u, hu, hv⟩ := build_run ht.ok ht.fields hf hfl hp
      refine OpDone.pure hf hh (exec_v ?_ hu) hv
      unfold execOp; rw [ho]
    · cases hr
  case h_9 t m parts ho =>
    split at hr
    · rename_i e hk
      split at hr
      · rename_i q cs hfl
        simp only [Res.val.injEq] at hr; obtain ⟨rfl, rfl, rfl, rfl⟩ := hr
        split
        · exact (buildSlice_done ht.ok hf hh ho hk hfl hp).2
        · exact (buildSlice_done ht.ok hf hh ho hk hfl hp).1
      · cases hr
    · cases hr
  case h_10 t x ho => exact load_done ht.ok ho hr hp (ev_rel hf 0 x) hf hh
  case h_11 t x i ho => exact storeTmp_done ht.ok ho hr hp (ev_rel hf 0 x) hf hh
  case h_12 t x y hy ho => exact store_done ht.ok ho hr hp (ev_rel hf 0 x) hf hh
  case h_13 x ho =>
    have hx := ev_rel (ty := ty) hf 0 x
    split at hr
    · rename_i id off hx'
      simp only [Res.val.injEq] at hr; obtain ⟨rfl, rfl, rfl, rfl⟩ := hr
      rw [hx'] at hx
      generalize hu : a.eval x = u at hx
      refine OpDone.pure hf hh (u := u) ?_ hx
      cases hx
      simp [execOp, ho, hu]
    · rename_i cs hx'
      simp only [Res.val.injEq] at hr; obtain ⟨rfl, rfl, rfl, rfl⟩ := hr
      rw [hx'] at hx
      generalize hu : a.eval x = u at hx
      refine OpDone.pure hf hh (u := u) ?_ hx
      cases hx
      simp [execOp, ho, hu]
    · cases hr
  case h_14 op t x y t' ho =>
    cases hsn : sliceNil ty op t (isC x || isC y) (ev ty env t x) (ev ty env t' y) env h with
    | some r =>
      obtain ⟨_, _, _, _, _, _, _, rfl⟩ := sliceNil_each ty hsn
      rw [hsn] at hr
      cases hr
    | none =>
    rw [hsn] at hr
    obtain ⟨h1, rfl, rfl⟩ := R1.res_val hr
    have hx := ev_rel (ty := ty) hf t x
    have hy := ev_rel (ty := ty) hf t' y
    obtain ⟨u, hu, hv⟩ := binOpT_run (P := P) (t := t) ht.ok h1 hp hx hy
    refine OpDone.pure hf hh ?_ hv
    have hg := binOpT_guard (P := P) (t := t) (ox := x) (oy := y) ht.ok rfl h1 hx hy
    simp [execOp, ho, hg, hu]
  case h_15 op t x ho =>
    obtain ⟨h1, rfl, rfl⟩ := R1.res_val hr
    obtain ⟨u, hu, hv⟩ := unOp_run (P := P) h1 (ev_rel (ty := ty) hf t x)
    exact OpDone.pure hf hh (by simp [execOp, ho, hu]) hv
  case h_16 s t x ho =>
    obtain ⟨h1, rfl, rfl⟩ := R1.res_val hr
    exact OpDone.new hf hh (by unfold execOp; rw [ho]) (convert_new (n := n) (d := d) ht.ok hh h1 hp (ev_rel (ty := ty) hf s x))
  case h_17 t x ho =>
    split at hr
    · cases hr
    · cases hr
    · rename_i hk hk2
      simp only [Res.val.injEq] at hr; obtain ⟨rfl, rfl, rfl, rfl⟩ := hr
      refine OpDone.pure hf hh (exec_v (s := Instr.makeInterface t (a.eval x)) (by unfold execOp; rw [ho]) ?_) (.iface _ _ _ (ev_rel hf t x))
      have hkt := (ht.ok t).k
      cases hc : (ty t).k <;> rw [hc] at hkt <;> simp only [KOK] at hkt
      case iface => exact absurd hc hk
      case other => exact absurd hc hk2
      case struct fs => obtain ⟨F, hF, _⟩ := hkt; simp [Instr.makeInterface, underlying, hF]
      case func => obtain ⟨x, y, z, hF⟩ := hkt; simp [Instr.makeInterface, underlying, hF]
      all_goals simp [Instr.makeInterface, underlying, hkt]
  case h_18 f first cap ho =>
    simp only [Res.val.injEq] at hr; obtain ⟨rfl, rfl, rfl, rfl⟩ := hr
    refine OpDone.pure hf hh (u := .func (.func f) #[] (cap.map a.eval)) (by simp [execOp, ho, Instr.makeFunc, (Array.eq_empty_of_size_eq_zero hp : first = #[])]) (.func _ _ _ _ _ rfl (by simp) (by simp) (fun k c u hc hu => ?_))
    rw [List.getElem?_map] at hc
    obtain ⟨x, hx, rfl⟩ := Option.map_eq_some_iff.1 hc
    rw [Array.getElem?_map] at hu
    obtain ⟨y, hy, rfl⟩ := Option.map_eq_some_iff.1 hu
    have : x = y := by
      have : cap[k]? = some x := by simpa using hx
      rw [hy] at this; exact (Option.some.inj this).symm
    subst this
    exact ev_rel hf 0 x
  case h_19 t ho =>
    simp only [Res.val.injEq] at hr; obtain ⟨rfl, rfl, rfl, rfl⟩ := hr
    have hg := Grow.alloc hh (.map #[] 0) 0
    refine ⟨.map (some w.heap.size), w.alloc (.map #[] 0), (g.cover w.heap.size 0).push w.heap.size, .inl (by simp [execOp, ho, Instr.makeMap]), (hg.ext hh).push (Nat.le_refl _), (hg.hrel hh).push (by simp) (by simp [Gh.cover]) ?_ ?_ ?_, (hg.frel hh hf).push _ (by unfold Hid; rw [heap_alloc_new]; simp [hidO]), fun _ _ => .inl (.map _ _ ?_)⟩
    · exact (hh.fresh w.heap.size (Nat.le_refl _)).2
    · intro hm
      have := (hh.apart _ hm).2.2
      omega
    · exact ⟨#[], 0, heap_alloc_new w _, rfl, by simp, by simp, by simp⟩
    · show (g.ι ++ [w.heap.size])[h.length]? = some w.heap.size
      rw [← hh.len]; simp
  case h_20 t l c ho =>
    have hl := ev_rel (ty := ty) hf 0 l
    have hc := ev_rel (ty := ty) hf 0 c
    split at hr
    · rename_i e k m k' m' hk e1 e2
      simp only [Res.val.injEq] at hr; obtain ⟨rfl, rfl, rfl, rfl⟩ := hr
      rw [e1] at hl; rw [e2] at hc
      obtain ⟨h1, h2, h3, h4, h5⟩ := hp
      exact makeSlice_done ht.ok hf hh ho hk hl.int_inv hc.int_inv h1 h2 h3 h4 h5
    · cases hr
  case h_21 t x lo hi ho =>
    unfold sliceOp at hr
    split at hr
    · rename_i htk
      exact cut_done ht hf hh ho hr hp
    · obtain ⟨h1, rfl, rfl⟩ := R1.res_val hr
      obtain ⟨u, hu, hv⟩ := slice_run ht.ok h1 hp (ev_rel (ty := ty) hf t _) (ORelO_map hf lo) (ORelO_map hf hi)
      exact OpDone.pure hf hh (by simp [execOp, ho, hu]) hv
  case h_22 t x lo hi m ho =>
    obtain ⟨h1, rfl, rfl⟩ := R1.res_val hr
    obtain ⟨u, hu, hv⟩ := slice3_run ht.ok h1 hp (ev_rel (ty := ty) hf t _) (ORelO_map hf lo) (ORelO_map hf hi) (ev_rel (ty := ty) hf 0 m)
    exact OpDone.pure hf hh (by simp [execOp, ho, hu]) hv
  case h_23 s x f ho =>
    have hx := ev_rel (ty := ty) hf 0 x
    split at hr
    · rename_i off t id o' hfo hx'
      simp only [Res.val.injEq] at hr; obtain ⟨rfl, rfl, rfl, rfl⟩ := hr
      rw [hx'] at hx
      generalize hu : a.eval x = u at hx
      cases hx with
      | ref _ _ b hid =>
        have := fieldAt_run (w := w) (b := b) (o := o') ht.ok hfo hp
        exact OpDone.pure hf hh (by simp [execOp, ho, hu, this]) (.ref _ _ _ hid)
    · rename_i off t cs hfo hx'
      simp only [Res.val.injEq] at hr; obtain ⟨rfl, rfl, rfl, rfl⟩ := hr
      rw [hx'] at hx
      generalize hu : a.eval x = u at hx
      have hx2 := hx
      cases hx with
      | imm _ b o' vals hv hcov hc h1 hrr =>
        have := fieldAt_run (w := w) (b := b) (o := o') ht.ok hfo hp.1
        exact OpDone.pure hf hh (by simp [execOp, ho, hu, this]) (hx2.imm_drop (by omega))
    · cases hr
  case h_24 s x f ho =>
    have hx := ev_rel (ty := ty) hf s x
    split at hr
    · rename_i off t cs hfo hx'
      simp only [Res.val.injEq] at hr; obtain ⟨rfl, rfl, rfl, rfl⟩ := hr
      rw [hx'] at hx
      obtain ⟨u, hu, hv⟩ := field_run ht.ok hfo hp.1 hp.2 hx
      exact OpDone.pure hf hh (by simp [execOp, ho, hu]) hv
    · cases hr
  case h_25 t x i ho =>
    obtain ⟨h1, rfl, rfl⟩ := R1.res_val hr
    obtain ⟨u, hu, hv⟩ := indexAddr_run ht.ok h1 hp (ev_rel (ty := ty) hf t x) (ev_rel (ty := ty) hf 0 i)
    exact OpDone.pure hf hh (by simp [execOp, ho, hu]) hv
  case h_26 t x i ho =>
    obtain ⟨h1, rfl, rfl⟩ := R1.res_val hr
    obtain ⟨u, hu, hv⟩ := index_run ht.ok h1 hp (ev_rel (ty := ty) hf t x) (ev_rel (ty := ty) hf 0 i)
    exact OpDone.pure hf hh (by simp [execOp, ho, hu]) hv
  case h_27 x i ho =>
    have hx := ev_rel (ty := ty) hf 0 x
    split at hr
    · rename_i vs hx'
      rw [hx'] at hx
      split at hr
      · rename_i v' hv'
        simp only [Res.val.injEq] at hr; obtain ⟨rfl, rfl, rfl, rfl⟩ := hr
        generalize hu : a.eval x = u at hx
        cases hx with
        | tup _ ca hl hrr =>
          have hlt : i < ca.size := by rw [← hl]; exact (List.getElem?_eq_some_iff.1 hv').1
          refine OpDone.pure hf hh (u := ca[i]) ?_ (hrr i _ _ hv' (Array.getElem?_eq_getElem hlt))
          simp [execOp, ho, hu, Instr.extract, hlt]
      · cases hr
    · cases hr
  case h_28 b args ts ho =>
    split at hr
    · exact rowApp_done ht hf hh ho hr hp
    · exact builtin_done ht hf hh ho hr hp
  case h_29 f args ts ho =>
    split at hr
    · split at hr <;> cases hr
    · cases hr
  case h_30 x ho => split at hr <;> cases hr
  case h_31 x xt t ok ho =>
    have hx := ev_rel (ty := ty) hf 0 x
    split at hr
    · rename_i t' v' hxv
      rw [hxv] at hx
      have hkt := (ht.ok t).k
      split at hr
      · cases hr
      · cases hr
      · rename_i hk1 hk2
        split at hr
        · rename_i htt
          subst htt
          simp only [Res.val.injEq] at hr
          obtain ⟨rfl, rfl, rfl, rfl⟩ := hr
          generalize hu : a.eval x = u at hx
          cases hx with
          | iface _ _ u' hr' =>
            have hrun : (Instr.typeAssert (.iface t' u') xt t' ok).run P w = .ok (if ok = true then .tuple #[u', .bool true] else u') w := by
              cases hc : (ty t').k <;> rw [hc] at hkt <;> simp only [KOK] at hkt
              case iface => exact absurd hc hk1
              case other => exact absurd hc hk2
              case struct fs => obtain ⟨F, hF, _⟩ := hkt; cases ok <;> simp [Instr.typeAssert, underlying, hF]
              case func => obtain ⟨x, y, z, hF⟩ := hkt; cases ok <;> simp [Instr.typeAssert, underlying, hF]
              all_goals (cases ok <;> simp [Instr.typeAssert, underlying, hkt])
            refine OpDone.pure hf hh (exec_v (s := Instr.typeAssert (.iface t' u') xt t' ok) (by unfold execOp; rw [ho]; simp only [hu]) hrun) ?_
            cases ok with
            | false => exact hr'
            | true => exact .tup _ _ rfl fun k c u hc hu => (LRel.cons hr' (LRel.cons (.bool true) LRel.nil)).2 k c u hc (by simpa using hu)
        · cases hr
    · cases hr
  case h_32 t m k x ho => exact update_done ht.ok (.inr ho) hr hp (ev_rel (ty := ty) hf t m) (ev_rel (ty := ty) hf 0 k) (ev_rel (ty := ty) hf _ x) hf hh
  case h_33 t m k x ho => exact update_done ht.ok (.inl ho) hr hp (ev_rel (ty := ty) hf t m) (ev_rel (ty := ty) hf 0 k) (ev_rel (ty := ty) hf _ x) hf hh
  case h_34 t m k c ho =>
    obtain ⟨h1, rfl, rfl⟩ := R1.res_val hr
    obtain ⟨u, hu, hv⟩ := lookup_done ht.ok hh h1 hp (ev_rel (ty := ty) hf t m) (ev_rel (ty := ty) hf 0 k)
    exact OpDone.pure hf hh (by simp [execOp, ho, hu]) hv
  case h_35 t x ho => exact range_done ht.ok ho hr (ev_rel (ty := ty) hf t x) hf hh
  case h_36 x ho => exact next_done ho hr (ev_rel (ty := ty) hf 0 x) hf hh
  case h_37 x ho => exact nextM_val ho hr (ev_rel (ty := ty) hf 0 x) hf hh
  case h_38 x ho => exact entry_done ho hr (ev_rel (ty := ty) hf 0 x) hf hh
  case h_39 => cases hr

/-- Is a list nil? Where it is empty, either. -/
theorem nil_each (hty : ∀ t, TyOK P t (ty t)) (hf : FRel d n a w g env) (hh : HRel w g h) {o : Oper} {op : BinOp} {t : Nat} {x y : Operand} {t' : Nat} {f : Value → Res} (ho : o.op = .binOp op t x y t')
    (hs : sliceNil ty op t (isC x || isC y) (ev ty env t x) (ev ty env t' y) env h = some (.each f)) : ∃ u p v env' h', f u = .val p v env' h' ∧ (p → OpDone P d n o a w g v env' h') := by
  obtain ⟨xs, b, hx, ⟨e1, s1, hy⟩, hc, ⟨e, hk⟩, hop, hr⟩ := sliceNil_each ty hs
  injection hr with hr
  subst hr
  have hkt := (hty t).k
  rw [hk] at hkt
  have hkt : P.underlying t = some (.slice e) := hkt
  have hxr := ev_rel (ty := ty) hf t x
  have hyr := ev_rel (ty := ty) hf t' y
  generalize hxu : a.eval x = xu at hxr
  generalize hyu : a.eval y = yu at hyr
  generalize hxv : ev ty env t x = xv at hxr hx
  rw [hx] at hxr
  rw [hy] at hyr
  obtain ⟨a0, cap, rfl, hcase⟩ := hxr.flat
  cases hyr
  have heq : (Op.equal t (.slice a0 xs.length cap) (.slice none 0 0)).run P w = .ok a0.isNone w := by
    refine eq_at ?_
    rw [Op.equalIn]
    cases a0 <;> simp [underlying, hkt]
  have hne : xs ≠ [] → a0.isNone = false := fun hne => by
    rcases hcase with h | ⟨_, _, _, _, rfl, _⟩
    · exact absurd h hne
    · rfl
  rcases hop with ⟨rfl, rfl⟩ | ⟨rfl, rfl⟩
  · refine ⟨.bool a0.isNone, _, _, _, _, rfl, fun _ => ?_⟩
    have hb : nilB false xs (.bool a0.isNone) = a0.isNone := by
      cases xs with
      | nil => rfl
      | cons x r => rw [hne (by simp)]; rfl
    rw [hb]
    refine OpDone.pure hf hh (u := .bool a0.isNone) ?_ (.bool _)
    have := eql_run heq
    simp [execOp, ho, hxu, hyu, eqGuard, Go.binOp, heq]
  · refine ⟨.bool (!a0.isNone), _, _, _, _, rfl, fun _ => ?_⟩
    have hb : nilB true xs (.bool (!a0.isNone)) = !a0.isNone := by
      cases xs with
      | nil => rfl
      | cons x r => rw [hne (by simp)]; rfl
    rw [hb]
    refine OpDone.pure hf hh (u := .bool (!a0.isNone)) ?_ (.bool _)
    simp [execOp, ho, hxu, hyu, eqGuard, Go.binOp, heq]

end
end Go.Proofs.YtmjohmefhikelaaDoor.Pv
