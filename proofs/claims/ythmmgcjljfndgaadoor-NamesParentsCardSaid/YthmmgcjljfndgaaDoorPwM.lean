/- The pure evaluator, part M: an operation's value, whichever it is. -/
import Derived.Test.YthmmgcjljfndgaaDoorPwL
import Derived.Test.YthmmgcjljfndgaaDoorPwZ
set_option linter.unusedVariables false
set_option linter.unusedSimpArgs false
namespace Go.Proofs.YthmmgcjljfndgaaDoor.Pv
open Go
variable [DS]

section
variable {P : Program} {ty : Nat → Ty} {tk : List Nat} {d n : Nat} {a : Act} {w : World} {g : Gh} {env : Env} {h : H}

theorem aop_done (ht : TyTab P ty) (hf : FRel d n a w g env) (hh : HRel w g h) {o : Oper} {p : Prop} {v : V} {env' : Env} {h' : H} (hr : aop ty tk o env h = .val p v env' h') (hp : p) : OpDone P d n o a w g v env' h' := by
  unfold aop at hr
  split at hr
  case h_1 i ho =>
    split at hr <;> simp only [Res.val.injEq] at hr <;> obtain ⟨rfl, rfl, rfl, rfl⟩ := hr
    · exact take_done i o hf hh (by simp [execOp, ho])
    · exact OpDone.pure (u := a.eval (.tmp i)) hf hh (by simp [execOp, ho]) (hf.slot i).demote
  case h_2 x hx ho =>
    simp only [Res.val.injEq] at hr; obtain ⟨rfl, rfl, rfl, rfl⟩ := hr
    exact OpDone.pure hf hh (by simp [execOp, ho]) (ev_rel hf _ x)
  case h_3 i ho =>
    split at hr <;> simp only [Res.val.injEq] at hr <;> obtain ⟨rfl, rfl, rfl, rfl⟩ := hr
    · exact (take_done i o hf hh (by simp [execOp, ho])).toOwn
    · exact OpDone.pure (u := a.eval (.tmp i)) hf hh (by simp [execOp, ho]) (hf.slot i).demote
  case h_4 x hx ho =>
    simp only [Res.val.injEq] at hr; obtain ⟨rfl, rfl, rfl, rfl⟩ := hr
    exact (OpDone.pure hf hh (by simp [execOp, ho]) (ev_rel hf _ x)).toOwn
  case h_5 c x y ho =>
    obtain ⟨h1, rfl, rfl⟩ := R1.res_val hr
    obtain ⟨b, hb, hv⟩ := pick_run h1 (ev_rel hf 0 c) (ev_rel hf _ x) (ev_rel hf _ y)
    refine OpDone.pure hf hh ?_ hv
    simp [execOp, ho, hb, asBool]
  case h_6 t ho =>
    simp only [Res.val.injEq] at hr; obtain ⟨rfl, rfl, rfl, rfl⟩ := hr
    exact alloc_done ht.ok hf hh ho hp.1 hp.2
  case h_7 t x ho =>
    simp only [Res.val.injEq] at hr; obtain ⟨rfl, rfl, rfl, rfl⟩ := hr
    exact box_done hf hh ho hp
  case h_8 t parts ho =>
    split at hr
    · rename_i q cs hfl
      simp only [Res.val.injEq] at hr; obtain ⟨rfl, rfl, rfl, rfl⟩ := hr
      obtain ⟨u, hu, hv⟩ := build_run ht.ok ht.fields hf hfl hp
      refine OpDone.pure hf hh (exec_v ?_ hu) hv
      unfold execOp; rw [ho]
    · cases hr
  case h_9 t m parts ho =>
    split at hr
    · rename_i e hk
      split at hr
      · rename_i q cs hfl
        simp only [Res.val.injEq] at hr; obtain ⟨rfl, rfl, rfl, rfl⟩ := hr
        exact buildSlice_done ht.ok hf hh ho hk hfl hp
      · cases hr
    · cases hr
  case h_10 t x ho => exact load_done ht.ok ho hr hp (ev_rel hf 0 x) hf hh
  case h_11 t x i ho => exact storeTmp_done ht.ok ho hr hp (ev_rel hf 0 x) hf hh
  case h_12 t x y hy ho => exact store_done ht.ok ho hr hp (ev_rel hf 0 x) hf hh
  case h_13 x ho =>
    have hx := ev_rel (ty := ty) hf 0 x
    split at hr
    · rename_i id off hx'
      simp only [Res.val.injEq] at hr; obtain ⟨rfl, rfl, rfl, rfl⟩ := hr
      rw [hx'] at hx
      generalize hu : a.eval x = u at hx
      refine OpDone.pure hf hh (u := u) ?_ hx
      cases hx
      simp [execOp, ho, hu]
    · rename_i cs hx'
      simp only [Res.val.injEq] at hr; obtain ⟨rfl, rfl, rfl, rfl⟩ := hr
      rw [hx'] at hx
      generalize hu : a.eval x = u at hx
      refine OpDone.pure hf hh (u := u) ?_ hx
      cases hx
      simp [execOp, ho, hu]
    · cases hr
  case h_14 op t x y t' ho =>
    obtain ⟨h1, rfl, rfl⟩ := R1.res_val hr
    have hx := ev_rel (ty := ty) hf t x
    have hy := ev_rel (ty := ty) hf t' y
    obtain ⟨u, hu, hv⟩ := binOpT_run (P := P) (t := t) ht.ok h1 hp hx hy
    refine OpDone.pure hf hh ?_ hv
    have hg := binOpT_guard (P := P) (t := t) (ox := x) (oy := y) ht.ok rfl h1 hx hy
    simp [execOp, ho, hg, hu]
  case h_15 op t x ho =>
    obtain ⟨h1, rfl, rfl⟩ := R1.res_val hr
    obtain ⟨u, hu, hv⟩ := unOp_run (P := P) h1 (ev_rel (ty := ty) hf t x)
    exact OpDone.pure hf hh (by simp [execOp, ho, hu]) hv
  case h_16 s t x ho =>
    obtain ⟨h1, rfl, rfl⟩ := R1.res_val hr
    exact OpDone.new hf hh (by unfold execOp; rw [ho]) (convert_new (n := n) (d := d) ht.ok hh h1 hp (ev_rel (ty := ty) hf s x))
  case h_17 t x ho =>
    split at hr
    · cases hr
    · cases hr
    · rename_i hk hk2
      simp only [Res.val.injEq] at hr; obtain ⟨rfl, rfl, rfl, rfl⟩ := hr
      refine OpDone.pure hf hh (exec_v (s := Instr.makeInterface t (a.eval x)) (by unfold execOp; rw [ho]) ?_) (.iface _ _ _ (ev_rel hf t x))
      have hkt := (ht.ok t).k
      cases hc : (ty t).k <;> rw [hc] at hkt <;> simp only [KOK] at hkt
      case iface => exact absurd hc hk
      case other => exact absurd hc hk2
      case struct fs => obtain ⟨F, hF, _⟩ := hkt; simp [Instr.makeInterface, underlying, hF]
      case func => obtain ⟨x, y, z, hF⟩ := hkt; simp [Instr.makeInterface, underlying, hF]
      all_goals simp [Instr.makeInterface, underlying, hkt]
  case h_18 f first cap ho =>
    simp only [Res.val.injEq] at hr; obtain ⟨rfl, rfl, rfl, rfl⟩ := hr
    refine OpDone.pure hf hh (u := .func (.func f) #[] (cap.map a.eval)) (by simp [execOp, ho, Instr.makeFunc, (Array.eq_empty_of_size_eq_zero hp : first = #[])]) (.func _ _ _ _ _ rfl (by simp) (by simp) (fun k c u hc hu => ?_))
    rw [List.getElem?_map] at hc
    obtain ⟨x, hx, rfl⟩ := Option.map_eq_some_iff.1 hc
    rw [Array.getElem?_map] at hu
    obtain ⟨y, hy, rfl⟩ := Option.map_eq_some_iff.1 hu
    have : x = y := by
      have : cap[k]? = some x := by simpa using hx
      rw [hy] at this; exact (Option.some.inj this).symm
    subst this
    exact ev_rel hf 0 x
  case h_19 t ho =>
    simp only [Res.val.injEq] at hr; obtain ⟨rfl, rfl, rfl, rfl⟩ := hr
    have hg := Grow.alloc hh (.map #[] 0) 0
    refine ⟨.map (some w.heap.size), w.alloc (.map #[] 0), (g.cover w.heap.size 0).push w.heap.size, .inl (by simp [execOp, ho, Instr.makeMap]), (hg.ext hh).push (Nat.le_refl _), (hg.hrel hh).push (by simp) (by simp [Gh.cover]) ?_ ?_ ?_, (hg.frel hh hf).push _, fun _ _ => .inl (.map _ _ ?_)⟩
    · exact (hh.fresh w.heap.size (Nat.le_refl _)).2
    · intro hm
      have := (hh.apart _ hm).2.2
      omega
    · exact ⟨#[], 0, heap_alloc_new w _, rfl, by simp, by simp, by simp⟩
    · show (g.ι ++ [w.heap.size])[h.length]? = some w.heap.size
      rw [← hh.len]; simp
  case h_20 t l c ho =>
    have hl := ev_rel (ty := ty) hf 0 l
    have hc := ev_rel (ty := ty) hf 0 c
    split at hr
    · rename_i e k m k' m' hk e1 e2
      simp only [Res.val.injEq] at hr; obtain ⟨rfl, rfl, rfl, rfl⟩ := hr
      rw [e1] at hl; rw [e2] at hc
      obtain ⟨h1, h2, h3, h4, h5⟩ := hp
      exact makeSlice_done ht.ok hf hh ho hk hl.int_inv hc.int_inv h1 h2 h3 h4 h5
    · cases hr
  case h_21 t x lo hi ho =>
    unfold sliceOp at hr
    split at hr
    · rename_i htk
      exact cut_done ht hf hh ho hr hp
    · obtain ⟨h1, rfl, rfl⟩ := R1.res_val hr
      obtain ⟨u, hu, hv⟩ := slice_run ht.ok h1 hp (ev_rel (ty := ty) hf t _) (ORelO_map hf lo) (ORelO_map hf hi)
      exact OpDone.pure hf hh (by simp [execOp, ho, hu]) hv
  case h_22 s x f ho =>
    have hx := ev_rel (ty := ty) hf 0 x
    split at hr
    · rename_i off t id o' hfo hx'
      simp only [Res.val.injEq] at hr; obtain ⟨rfl, rfl, rfl, rfl⟩ := hr
      rw [hx'] at hx
      generalize hu : a.eval x = u at hx
      cases hx with
      | ref _ _ b hid =>
        have := fieldAt_run (w := w) (b := b) (o := o') ht.ok hfo hp
        exact OpDone.pure hf hh (by simp [execOp, ho, hu, this]) (.ref _ _ _ hid)
    · rename_i off t cs hfo hx'
      simp only [Res.val.injEq] at hr; obtain ⟨rfl, rfl, rfl, rfl⟩ := hr
      rw [hx'] at hx
      generalize hu : a.eval x = u at hx
      have hx2 := hx
      cases hx with
      | imm _ b o' vals hv hcov hc h1 hrr =>
        have := fieldAt_run (w := w) (b := b) (o := o') ht.ok hfo hp.1
        exact OpDone.pure hf hh (by simp [execOp, ho, hu, this]) (hx2.imm_drop (by omega))
    · cases hr
  case h_23 s x f ho =>
    have hx := ev_rel (ty := ty) hf s x
    split at hr
    · rename_i off t cs hfo hx'
      simp only [Res.val.injEq] at hr; obtain ⟨rfl, rfl, rfl, rfl⟩ := hr
      rw [hx'] at hx
      obtain ⟨u, hu, hv⟩ := field_run ht.ok hfo hp.1 hp.2 hx
      exact OpDone.pure hf hh (by simp [execOp, ho, hu]) hv
    · cases hr
  case h_24 t x i ho =>
    obtain ⟨h1, rfl, rfl⟩ := R1.res_val hr
    obtain ⟨u, hu, hv⟩ := indexAddr_run ht.ok h1 hp (ev_rel (ty := ty) hf t x) (ev_rel (ty := ty) hf 0 i)
    exact OpDone.pure hf hh (by simp [execOp, ho, hu]) hv
  case h_25 t x i ho =>
    obtain ⟨h1, rfl, rfl⟩ := R1.res_val hr
    obtain ⟨u, hu, hv⟩ := index_run ht.ok h1 hp (ev_rel (ty := ty) hf t x) (ev_rel (ty := ty) hf 0 i)
    exact OpDone.pure hf hh (by simp [execOp, ho, hu]) hv
  case h_26 x i ho =>
    have hx := ev_rel (ty := ty) hf 0 x
    split at hr
    · rename_i vs hx'
      rw [hx'] at hx
      split at hr
      · rename_i v' hv'
        simp only [Res.val.injEq] at hr; obtain ⟨rfl, rfl, rfl, rfl⟩ := hr
        generalize hu : a.eval x = u at hx
        cases hx with
        | tup _ ca hl hrr =>
          have hlt : i < ca.size := by rw [← hl]; exact (List.getElem?_eq_some_iff.1 hv').1
          refine OpDone.pure hf hh (u := ca[i]) ?_ (hrr i _ _ hv' (Array.getElem?_eq_getElem hlt))
          simp [execOp, ho, hu, Instr.extract, hlt]
      · cases hr
    · cases hr
  case h_27 b args ts ho => exact builtin_done ht hf hh ho hr hp
  case h_28 f args ts ho =>
    split at hr
    · split at hr <;> cases hr
    · cases hr
  case h_29 x ho => split at hr <;> cases hr
  case h_30 t m k x ho => exact update_done ht.ok ho hr hp (ev_rel (ty := ty) hf t m) (ev_rel (ty := ty) hf 0 k) (ev_rel (ty := ty) hf _ x) hf hh
  case h_31 t m k c ho =>
    obtain ⟨h1, rfl, rfl⟩ := R1.res_val hr
    obtain ⟨u, hu, hv⟩ := lookup_done ht.ok hh h1 hp (ev_rel (ty := ty) hf t m) (ev_rel (ty := ty) hf 0 k)
    exact OpDone.pure hf hh (by simp [execOp, ho, hu]) hv
  case h_32 t x ho => exact range_done ht.ok ho hr (ev_rel (ty := ty) hf t x) hf hh
  case h_33 x ho => exact next_done ho hr (ev_rel (ty := ty) hf 0 x) hf hh
  case h_34 => cases hr

end
end Go.Proofs.YthmmgcjljfndgaaDoor.Pv
