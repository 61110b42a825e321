/- Texts of the proof, one behind another. -/
import Derived.Test.YtjmicohbnpbemaaGreatKF13
import Derived.Test.YtjmicohbnpbemaaGreatKF21
set_option linter.unusedSimpArgs false
set_option linter.unusedVariables false
/- Steps of terms with casts: substitution, in the reference. On shadows. -/
namespace Go.Proofs.YtjmicohbnpbemaaGreat
open Go.RowKit Go.Proofs.Sh Go.Proofs.Grad
set_option maxRecDepth 100000
set_option maxHeartbeats 8000000
theorem sSubst (x : UInt8) (v : E) (hv : v.tm.size < 100000000) (e : E) : e.wf = true → e.tm.size < 100000000 → AFn Tryz.prog 178 [.agg (teC e.tm), .one (.sc (.string (nm x))), .agg (teC v.tm)] (.agg (teC (e.subst x v).tm)) := by
  have hvc := l2Copy 274877906944 (by omega) v.tm (by omega)
  have hno : AFn Tryz.prog 104 [.agg (tyC noTy)] (.agg (tyC noTy)) := l1Copy 1000 (by omega) noTy (by simp [noTy, Ty.size, Ty.sizes])
  induction e with
  | var y =>
    intro hw hz
    have hn := nm_beq y x
    simp only [E.subst]
    cases e1 : (y == x)
    all_goals
      rw [e1] at hn
      simp only [E.tm]
      refine fn_in ?_; refine acl_in Tryz.func178 rfl isfn_178 (Nat.le_of_ble_eq_true rfl) (fun R hR => ?_); rw [Tryz.results178] at hR; refine wg_run ?_; (simp only [Tryz.f178, go_sem, hn])
      repeat' (first | (first | (simp only [go_sem, hn]) | (((first | apply sp1 | apply sp2 | apply sp3 | apply sp4 | apply sp5 | apply sp6 | apply sp7) <;> intro hb) <;> (simp only [go_sem, hb, hn])) | ((first | apply wm_done | apply wt_done | apply wg_run | refine fk ?_ ?_) <;> (simp only [go_sem, hn]))) | (first | (refine wl_next (wg_run ?_); (simp only [go_sem])) | refine wd_rounds 6 ?_) | (first | refine cdq ?_ (hc := hvc) | refine cmq ?_ (hc := hvc) | refine ctq ?_ (hc := hvc)); (simp only [go_sem]) | (first | refine cdq ?_ (hc := hno) | refine cmq ?_ (hc := hno) | refine ctq ?_ (hc := hno)); (simp only [go_sem]) | ((first | refine mxq6 [] ?_ | refine mxq5 [] ?_ | refine mxq4 [] ?_ | refine mxq3 [] ?_ | refine mxq2 [] ?_ | refine mxq1 [] ?_ | refine mxq0 [] ?_ | fail); (simp only [go_sem, hn])) | fail)
      (refine hR _ ?_; refine rat [] (hK := ⟨rfl, rfl⟩))
  | lam y t a ih =>
    intro hw hz
    have hn := nm_beq y x
    have hec := l2Copy 274877906944 (by omega) (E.lam y t a).tm (by omega)
    simp only [E.wf, Bool.and_eq_true, decide_eq_true_eq] at hw
    simp only [E.tm, nd, Tm.size, Tm.sizes] at hz
    have ih := ih hw.2.2 (by omega)
    have ht := l1Copy 1000 (by omega) t.ty (T.ty_small hw.2.1)
    simp only [E.subst]
    cases e1 : (y == x)
    all_goals
      rw [e1] at hn
      simp only [E.tm] at hec ⊢
      refine fn_in ?_; refine acl_in Tryz.func178 rfl isfn_178 (Nat.le_of_ble_eq_true rfl) (fun R hR => ?_); rw [Tryz.results178] at hR; refine wg_run ?_; (simp only [Tryz.f178, go_sem, hn])
      repeat' (first | (first | (simp only [go_sem, hn]) | (((first | apply sp1 | apply sp2 | apply sp3 | apply sp4 | apply sp5 | apply sp6 | apply sp7) <;> intro hb) <;> (simp only [go_sem, hb, hn])) | ((first | apply wm_done | apply wt_done | apply wg_run | refine fk ?_ ?_) <;> (simp only [go_sem, hn]))) | (first | (refine wl_next (wg_run ?_); (simp only [go_sem])) | refine wd_rounds 6 ?_) | (first | refine cdq ?_ (hc := hec) | refine cmq ?_ (hc := hec) | refine ctq ?_ (hc := hec)); (simp only [go_sem]) | (first | refine cdq ?_ (hc := ht) | refine cmq ?_ (hc := ht) | refine ctq ?_ (hc := ht)); (simp only [go_sem]) | (first | refine cdq ?_ (hc := hno) | refine cmq ?_ (hc := hno) | refine ctq ?_ (hc := hno)); (simp only [go_sem]) | (first | refine cdq ?_ (hc := ih) | refine cmq ?_ (hc := ih) | refine ctq ?_ (hc := ih)); (simp only [go_sem]) | ((first | refine mxq6 [] ?_ | refine mxq5 [] ?_ | refine mxq4 [] ?_ | refine mxq3 [] ?_ | refine mxq2 [] ?_ | refine mxq1 [] ?_ | refine mxq0 [] ?_ | fail); (simp only [go_sem, hn])) | fail)
      (refine hR _ ?_; refine rat [] (hK := ⟨rfl, rfl⟩))
  | num _ | tru | fls =>
    intro hw hz
    simp only [E.subst, E.tm, nd]
    refine fn_in ?_; refine acl_in Tryz.func178 rfl isfn_178 (Nat.le_of_ble_eq_true rfl) (fun R hR => ?_); rw [Tryz.results178] at hR; refine wg_run ?_; (simp only [Tryz.f178, go_sem])
    repeat' (first | (first | (((first | apply sp1 | apply sp2 | apply sp3 | apply sp4 | apply sp5 | apply sp6 | apply sp7) <;> intro hb) <;> (simp only [go_sem, hb])) | ((first | apply wm_done | apply wt_done | apply wg_run | refine fk ?_ ?_) <;> (simp only [go_sem]))) | (first | (refine wl_next (wg_run ?_); (simp only [go_sem])) | refine wd_rounds 6 ?_) | (first | refine cdq ?_ (hc := hno) | refine cmq ?_ (hc := hno) | refine ctq ?_ (hc := hno)); (simp only [go_sem]) | fail)
    (refine hR _ ?_; refine rat [] (hK := ⟨rfl, rfl⟩))
  | app a b iha ihb | add a b iha ihb | less a b iha ihb | pair a b iha ihb =>
    intro hw hz
    simp only [E.wf, Bool.and_eq_true] at hw
    simp only [E.tm, nd, Tm.size, Tm.sizes] at hz
    have iha := iha hw.1 (by omega)
    have ihb := ihb hw.2 (by omega)
    simp only [E.subst, E.tm, nd]
    refine fn_in ?_; refine acl_in Tryz.func178 rfl isfn_178 (Nat.le_of_ble_eq_true rfl) (fun R hR => ?_); rw [Tryz.results178] at hR; refine wg_run ?_; (simp only [Tryz.f178, go_sem])
    repeat' (first | (first | (((first | apply sp1 | apply sp2 | apply sp3 | apply sp4 | apply sp5 | apply sp6 | apply sp7) <;> intro hb) <;> (simp only [go_sem, hb])) | ((first | apply wm_done | apply wt_done | apply wg_run | refine fk ?_ ?_) <;> (simp only [go_sem]))) | (first | (refine wl_next (wg_run ?_); (simp only [go_sem])) | refine wd_rounds 6 ?_) | (first | refine cdq ?_ (hc := hno) | refine cmq ?_ (hc := hno) | refine ctq ?_ (hc := hno)); (simp only [go_sem]) | (first | refine cdq ?_ (hc := iha) | refine cmq ?_ (hc := iha) | refine ctq ?_ (hc := iha)); (simp only [go_sem]) | (first | refine cdq ?_ (hc := ihb) | refine cmq ?_ (hc := ihb) | refine ctq ?_ (hc := ihb)); (simp only [go_sem]) | ((first | refine mxq6 [] ?_ | refine mxq5 [] ?_ | refine mxq4 [] ?_ | refine mxq3 [] ?_ | refine mxq2 [] ?_ | refine mxq1 [] ?_ | refine mxq0 [] ?_ | fail); (simp only [go_sem])) | fail)
    (refine hR _ ?_; refine rat [] (hK := ⟨rfl, rfl⟩))
  | ite a b c iha ihb ihc =>
    intro hw hz
    simp only [E.wf, Bool.and_eq_true] at hw
    simp only [E.tm, nd, Tm.size, Tm.sizes] at hz
    have iha := iha hw.1 (by omega)
    have ihb := ihb hw.2.1 (by omega)
    have ihc := ihc hw.2.2 (by omega)
    simp only [E.subst, E.tm, nd]
    refine fn_in ?_; refine acl_in Tryz.func178 rfl isfn_178 (Nat.le_of_ble_eq_true rfl) (fun R hR => ?_); rw [Tryz.results178] at hR; refine wg_run ?_; (simp only [Tryz.f178, go_sem])
    repeat' (first | (first | (((first | apply sp1 | apply sp2 | apply sp3 | apply sp4 | apply sp5 | apply sp6 | apply sp7) <;> intro hb) <;> (simp only [go_sem, hb])) | ((first | apply wm_done | apply wt_done | apply wg_run | refine fk ?_ ?_) <;> (simp only [go_sem]))) | (first | (refine wl_next (wg_run ?_); (simp only [go_sem])) | refine wd_rounds 6 ?_) | (first | refine cdq ?_ (hc := hno) | refine cmq ?_ (hc := hno) | refine ctq ?_ (hc := hno)); (simp only [go_sem]) | (first | refine cdq ?_ (hc := iha) | refine cmq ?_ (hc := iha) | refine ctq ?_ (hc := iha)); (simp only [go_sem]) | (first | refine cdq ?_ (hc := ihb) | refine cmq ?_ (hc := ihb) | refine ctq ?_ (hc := ihb)); (simp only [go_sem]) | (first | refine cdq ?_ (hc := ihc) | refine cmq ?_ (hc := ihc) | refine ctq ?_ (hc := ihc)); (simp only [go_sem]) | ((first | refine mxq6 [] ?_ | refine mxq5 [] ?_ | refine mxq4 [] ?_ | refine mxq3 [] ?_ | refine mxq2 [] ?_ | refine mxq1 [] ?_ | refine mxq0 [] ?_ | fail); (simp only [go_sem])) | fail)
    (refine hR _ ?_; refine rat [] (hK := ⟨rfl, rfl⟩))
  | fst a ih | snd a ih =>
    intro hw hz
    simp only [E.wf] at hw
    simp only [E.tm, nd, Tm.size, Tm.sizes] at hz
    have ih := ih hw (by omega)
    simp only [E.subst, E.tm, nd]
    refine fn_in ?_; refine acl_in Tryz.func178 rfl isfn_178 (Nat.le_of_ble_eq_true rfl) (fun R hR => ?_); rw [Tryz.results178] at hR; refine wg_run ?_; (simp only [Tryz.f178, go_sem])
    repeat' (first | (first | (((first | apply sp1 | apply sp2 | apply sp3 | apply sp4 | apply sp5 | apply sp6 | apply sp7) <;> intro hb) <;> (simp only [go_sem, hb])) | ((first | apply wm_done | apply wt_done | apply wg_run | refine fk ?_ ?_) <;> (simp only [go_sem]))) | (first | (refine wl_next (wg_run ?_); (simp only [go_sem])) | refine wd_rounds 6 ?_) | (first | refine cdq ?_ (hc := hno) | refine cmq ?_ (hc := hno) | refine ctq ?_ (hc := hno)); (simp only [go_sem]) | (first | refine cdq ?_ (hc := ih) | refine cmq ?_ (hc := ih) | refine ctq ?_ (hc := ih)); (simp only [go_sem]) | ((first | refine mxq6 [] ?_ | refine mxq5 [] ?_ | refine mxq4 [] ?_ | refine mxq3 [] ?_ | refine mxq2 [] ?_ | refine mxq1 [] ?_ | refine mxq0 [] ?_ | fail); (simp only [go_sem])) | fail)
    (refine hR _ ?_; refine rat [] (hK := ⟨rfl, rfl⟩))
  | cast s t l a ih =>
    intro hw hz
    simp only [E.wf, Bool.and_eq_true, decide_eq_true_eq] at hw
    simp only [E.tm, nd, Tm.size, Tm.sizes] at hz
    have ih := ih hw.2.2.2 (by omega)
    have ht := l1Copy 1000 (by omega) t.ty (T.ty_small hw.1.2)
    have hs := l1Copy 1000 (by omega) s.ty (T.ty_small hw.1.1)
    simp only [E.subst, E.tm, nd]
    refine fn_in ?_; refine acl_in Tryz.func178 rfl isfn_178 (Nat.le_of_ble_eq_true rfl) (fun R hR => ?_); rw [Tryz.results178] at hR; refine wg_run ?_; (simp only [Tryz.f178, go_sem])
    repeat' (first | (first | (((first | apply sp1 | apply sp2 | apply sp3 | apply sp4 | apply sp5 | apply sp6 | apply sp7) <;> intro hb) <;> (simp only [go_sem, hb])) | ((first | apply wm_done | apply wt_done | apply wg_run | refine fk ?_ ?_) <;> (simp only [go_sem]))) | (first | (refine wl_next (wg_run ?_); (simp only [go_sem])) | refine wd_rounds 6 ?_) | (first | refine cdq ?_ (hc := ht) | refine cmq ?_ (hc := ht) | refine ctq ?_ (hc := ht)); (simp only [go_sem]) | (first | refine cdq ?_ (hc := hs) | refine cmq ?_ (hc := hs) | refine ctq ?_ (hc := hs)); (simp only [go_sem]) | (first | refine cdq ?_ (hc := ih) | refine cmq ?_ (hc := ih) | refine ctq ?_ (hc := ih)); (simp only [go_sem]) | ((first | refine mxq6 [] ?_ | refine mxq5 [] ?_ | refine mxq4 [] ?_ | refine mxq3 [] ?_ | refine mxq2 [] ?_ | refine mxq1 [] ?_ | refine mxq0 [] ?_ | fail); (simp only [go_sem])) | fail)
    (refine hR _ ?_; refine rat [] (hK := ⟨rfl, rfl⟩))
  | _ =>
    rename_i t a ih
    intro hw hz
    simp only [E.wf, Bool.and_eq_true, decide_eq_true_eq] at hw
    simp only [E.tm, nd, Tm.size, Tm.sizes] at hz
    have ih := ih hw.2 (by omega)
    have ht := l1Copy 1000 (by omega) t.ty (T.ty_small hw.1)
    simp only [E.subst, E.tm, nd]
    refine fn_in ?_; refine acl_in Tryz.func178 rfl isfn_178 (Nat.le_of_ble_eq_true rfl) (fun R hR => ?_); rw [Tryz.results178] at hR; refine wg_run ?_; (simp only [Tryz.f178, go_sem])
    repeat' (first | (first | (((first | apply sp1 | apply sp2 | apply sp3 | apply sp4 | apply sp5 | apply sp6 | apply sp7) <;> intro hb) <;> (simp only [go_sem, hb])) | ((first | apply wm_done | apply wt_done | apply wg_run | refine fk ?_ ?_) <;> (simp only [go_sem]))) | (first | (refine wl_next (wg_run ?_); (simp only [go_sem])) | refine wd_rounds 6 ?_) | (first | refine cdq ?_ (hc := ht) | refine cmq ?_ (hc := ht) | refine ctq ?_ (hc := ht)); (simp only [go_sem]) | (first | refine cdq ?_ (hc := hno) | refine cmq ?_ (hc := hno) | refine ctq ?_ (hc := hno)); (simp only [go_sem]) | (first | refine cdq ?_ (hc := ih) | refine cmq ?_ (hc := ih) | refine ctq ?_ (hc := ih)); (simp only [go_sem]) | ((first | refine mxq6 [] ?_ | refine mxq5 [] ?_ | refine mxq4 [] ?_ | refine mxq3 [] ?_ | refine mxq2 [] ?_ | refine mxq1 [] ?_ | refine mxq0 [] ?_ | fail); (simp only [go_sem])) | fail)
    (refine hR _ ?_; refine rat [] (hK := ⟨rfl, rfl⟩))
end Go.Proofs.YtjmicohbnpbemaaGreat
/- Steps of terms with casts: the rules, in the reference. On shadows. -/
namespace Go.Proofs.YtjmicohbnpbemaaGreat
open Go.RowKit Go.Proofs.Sh Go.Proofs.Grad
set_option maxRecDepth 100000
set_option maxHeartbeats 8000000
theorem sCast5 (t : Tm) (f y : Ty) (l : Int) (hf : f.size < 1000) (hy : y.size < 1000) : AFn Tryz.prog 179 [.agg (teC t), .agg (tyC f), .agg (tyC y), .one (.sc (.int .i64 l))] (.agg (teC (.mk 14 ByteArray.empty 0 y f l [t]))) := by
  have h1 := l1Copy 1000 (by omega) f hf
  have h2 := l1Copy 1000 (by omega) y hy
  refine fn_in ?_; refine acl_in Tryz.func179 rfl isfn_179 (Nat.le_of_ble_eq_true rfl) (fun R hR => ?_); rw [Tryz.results179] at hR; refine wg_run ?_; (simp only [Tryz.f179, go_sem])
  repeat' (first | (first | (((first | apply sp1 | apply sp2 | apply sp3 | apply sp4 | apply sp5 | apply sp6 | apply sp7) <;> intro hb) <;> (simp only [go_sem, hb])) | ((first | apply wm_done | apply wt_done | apply wg_run | refine fk ?_ ?_) <;> (simp only [go_sem]))) | (first | (refine tr (.op 0 false (.op 2 false (.op 4 false (.op 5 false (.fork 1 false (.fork 3 false (.op 6 false (.op 7 false (.op 8 true .nil))) (.op 6 false (.op 3 false (.op 7 false (.op 8 true .nil))))) (.op 6 false (.op 1 false (.op 3 false (.op 7 false (.op 8 true .nil)))))))))) [] follows ?_; (simp only [go_sem])) | fail) | ((first | refine mxq6 [] ?_ | refine mxq5 [] ?_ | refine mxq4 [] ?_ | refine mxq3 [] ?_ | refine mxq2 [] ?_ | refine mxq1 [] ?_ | refine mxq0 [] ?_ | fail); (simp only [go_sem])) | (first | refine cdq ?_ (hc := h1) | refine cmq ?_ (hc := h1) | refine ctq ?_ (hc := h1)); (simp only [go_sem]) | (first | refine cdq ?_ (hc := h2) | refine cmq ?_ (hc := h2) | refine ctq ?_ (hc := h2)); (simp only [go_sem]) | fail)
  all_goals (refine hR _ ?_; refine rat [] (hK := ⟨rfl, rfl⟩))
def srS (r : SR) : AV := .tup [.agg (teC r.tm), .one (.sc (.int .i64 r.code)), .one (.sc (.int .i64 r.lab))]
theorem T.ground_small {t : T} (h : t.depth ≤ 4) : t.ground.ty.size < 1000 := T.ty_small (Nat.le_trans (T.ground_depth t) h)
theorem sConvert (s t : T) (l : Int) (v : E) (h : (E.cast s t l v).wf = true) : AFn Tryz.prog 150 [.agg (teC (E.cast s t l v).tm)] (srS (ruleCast s t l v)) := by
  simp only [E.wf, Bool.and_eq_true, decide_eq_true_eq] at h
  have gs := l1Ground s
  have gt := l1Ground t
  have hig := sGround t (by have := T.ty_small h.1.2; rw [T.ty_size] at this; omega)
  rw [T.isG_ty] at hig
  have c1 := sCast5 v.tm s.ty s.ground.ty l (T.ty_small h.1.1) (T.ground_small h.1.1)
  have c2 := sCast5 (.mk 14 ByteArray.empty 0 s.ground.ty s.ty l [v.tm]) s.ground.ty t.ty l (T.ground_small h.1.1) (T.ty_small h.1.2)
  have d1 := sCast5 v.tm s.ty t.ground.ty l (T.ty_small h.1.1) (T.ground_small h.1.2)
  have d2 := sCast5 (.mk 14 ByteArray.empty 0 t.ground.ty s.ty l [v.tm]) t.ground.ty t.ty l (T.ground_small h.1.2) (T.ty_small h.1.2)
  unfold ruleCast
  cases e1 : (s.ty.kind == t.ty.kind)
  · cases e2 : (t.ty.kind == 1)
    · have hs : s = .any := by
        have hc := h.2.1
        revert e1 e2 hc
        cases s <;> cases t <;> simp [T.ty, Ty.kind, T.cons]
      subst hs
      have e1' : ((1 : Int) == t.ty.kind) = false := e1
      cases e3 : t.isG
      · rw [e3] at hig
        simp only [srS, SR.tm, SR.code, SR.lab]
        simp only [E.tm, T.ty] at e1 d1 d2 ⊢
        refine fn_in ?_; refine acl_in Tryz.func150 rfl isfn_150 (Nat.le_of_ble_eq_true rfl) (fun R hR => ?_); rw [Tryz.results150] at hR; refine wg_run ?_; (simp only [Tryz.f150, go_sem, e1, e1', e2])
        repeat' (first | (first | (simp only [go_sem, e1, e1', e2, int_bne]) | (((first | apply sp1 | apply sp2 | apply sp3 | apply sp4 | apply sp5 | apply sp6 | apply sp7) <;> intro hb) <;> (simp only [go_sem, hb, e1, e1', e2, int_bne])) | ((first | apply wm_done | apply wt_done | apply wg_run | refine fk ?_ ?_) <;> (simp only [go_sem, e1, e1', e2, int_bne]))) | (first | (refine tr (.op 0 false (.op 1 false (.op 2 false (.op 3 false (.op 4 false (.op 5 false .nil)))))) [1] follows ?_; (simp only [go_sem, e1, e1', e2, int_bne])) | fail) | ((first | refine mxq6 [] ?_ | refine mxq5 [] ?_ | refine mxq4 [] ?_ | refine mxq3 [] ?_ | refine mxq2 [] ?_ | refine mxq1 [] ?_ | refine mxq0 [] ?_ | fail); (simp only [go_sem, e1, e1', e2, int_bne])) | (first | refine cdq ?_ (hc := gt) | refine cmq ?_ (hc := gt) | refine ctq ?_ (hc := gt)); (simp only [go_sem]) | (first | refine cdq ?_ (hc := hig) | refine cmq ?_ (hc := hig) | refine ctq ?_ (hc := hig)); (simp only [go_sem]) | (first | refine cdq ?_ (hc := d1) | refine cmq ?_ (hc := d1) | refine ctq ?_ (hc := d1)); (simp only [go_sem]) | (first | refine cdq ?_ (hc := d2) | refine cmq ?_ (hc := d2) | refine ctq ?_ (hc := d2)); (simp only [go_sem]) | fail)
        all_goals (refine hR _ ?_; refine rat [] (hK := ⟨rfl, rfl⟩))
      · rw [e3] at hig
        cases v with
        | cast s' t' l' w =>
          have h' := h.2.2.2
          simp only [E.wf, Bool.and_eq_true, decide_eq_true_eq] at h'
          have hi := sInj (E.cast s' t' l' w).tm s' rfl (by have := T.ty_small h'.1.1; rw [T.ty_size] at this; omega)
          simp only [E.tm, Tm.kind, Tm.type, Tm.frm] at hi
          rw [injB_T] at hi
          simp only [ruleOut]
          cases e4 : injT s' t'
          · rw [e4] at hi
            simp only [srS, SR.tm, SR.code, SR.lab]
            simp only [E.tm, T.ty] at e1 ⊢
            refine fn_in ?_; refine acl_in Tryz.func150 rfl isfn_150 (Nat.le_of_ble_eq_true rfl) (fun R hR => ?_); rw [Tryz.results150] at hR; refine wg_run ?_; (simp only [Tryz.f150, go_sem, e1, e1', e2])
            repeat' (first | (first | (simp only [go_sem, e1, e1', e2, int_bne]) | (((first | apply sp1 | apply sp2 | apply sp3 | apply sp4 | apply sp5 | apply sp6 | apply sp7) <;> intro hb) <;> (simp only [go_sem, hb, e1, e1', e2, int_bne])) | ((first | apply wm_done | apply wt_done | apply wg_run | refine fk ?_ ?_) <;> (simp only [go_sem, e1, e1', e2, int_bne]))) | (first | (refine tr (.op 0 false (.op 1 false (.op 2 false (.op 3 false (.op 4 false (.op 5 false .nil)))))) [1] follows ?_; (simp only [go_sem, e1, e1', e2, int_bne])) | fail) | ((first | refine mxq6 [] ?_ | refine mxq5 [] ?_ | refine mxq4 [] ?_ | refine mxq3 [] ?_ | refine mxq2 [] ?_ | refine mxq1 [] ?_ | refine mxq0 [] ?_ | fail); (simp only [go_sem, e1, e1', e2, int_bne])) | (first | refine cdq ?_ (hc := hig) | refine cmq ?_ (hc := hig) | refine ctq ?_ (hc := hig)); (simp only [go_sem]) | (first | refine cdq ?_ (hc := hi) | refine cmq ?_ (hc := hi) | refine ctq ?_ (hc := hi)); (simp only [go_sem]) | fail)
            all_goals (refine hR _ ?_; refine rat [] (hK := ⟨rfl, rfl⟩))
          · rw [e4] at hi
            cases e6 : (s'.ty.kind == t.ty.kind)
            all_goals
              simp only [srS, SR.tm, SR.code, SR.lab]
              simp only [E.tm, T.ty] at e1 ⊢
              refine fn_in ?_; refine acl_in Tryz.func150 rfl isfn_150 (Nat.le_of_ble_eq_true rfl) (fun R hR => ?_); rw [Tryz.results150] at hR; refine wg_run ?_; (simp only [Tryz.f150, go_sem, e1, e1', e2, e6])
              repeat' (first | (first | (simp only [go_sem, e1, e1', e2, e6, int_bne]) | (((first | apply sp1 | apply sp2 | apply sp3 | apply sp4 | apply sp5 | apply sp6 | apply sp7) <;> intro hb) <;> (simp only [go_sem, hb, e1, e1', e2, e6, int_bne])) | ((first | apply wm_done | apply wt_done | apply wg_run | refine fk ?_ ?_) <;> (simp only [go_sem, e1, e1', e2, e6, int_bne]))) | (first | (refine tr (.op 0 false (.op 1 false (.op 2 false (.op 3 false (.op 4 false (.op 5 false .nil)))))) [1] follows ?_; (simp only [go_sem, e1, e1', e2, e6, int_bne])) | fail) | ((first | refine mxq6 [] ?_ | refine mxq5 [] ?_ | refine mxq4 [] ?_ | refine mxq3 [] ?_ | refine mxq2 [] ?_ | refine mxq1 [] ?_ | refine mxq0 [] ?_ | fail); (simp only [go_sem, e1, e1', e2, e6, int_bne])) | (first | refine cdq ?_ (hc := hig) | refine cmq ?_ (hc := hig) | refine ctq ?_ (hc := hig)); (simp only [go_sem]) | (first | refine cdq ?_ (hc := hi) | refine cmq ?_ (hc := hi) | refine ctq ?_ (hc := hi)); (simp only [go_sem]) | fail)
              all_goals (refine hR _ ?_; refine rat [] (hK := ⟨rfl, rfl⟩))
        | _ =>
          simp only [ruleOut]
          simp only [srS, SR.tm, SR.code, SR.lab]
          simp only [E.tm, nd, T.ty] at e1 ⊢
          refine fn_in ?_; refine acl_in Tryz.func150 rfl isfn_150 (Nat.le_of_ble_eq_true rfl) (fun R hR => ?_); rw [Tryz.results150] at hR; refine wg_run ?_; (simp only [Tryz.f150, go_sem, e1, e1', e2])
          repeat' (first | (first | (simp only [go_sem, e1, e1', e2, int_bne]) | (((first | apply sp1 | apply sp2 | apply sp3 | apply sp4 | apply sp5 | apply sp6 | apply sp7) <;> intro hb) <;> (simp only [go_sem, hb, e1, e1', e2, int_bne])) | ((first | apply wm_done | apply wt_done | apply wg_run | refine fk ?_ ?_) <;> (simp only [go_sem, e1, e1', e2, int_bne]))) | (first | (refine tr (.op 0 false (.op 1 false (.op 2 false (.op 3 false (.op 4 false (.op 5 false .nil)))))) [1] follows ?_; (simp only [go_sem, e1, e1', e2, int_bne])) | fail) | ((first | refine mxq6 [] ?_ | refine mxq5 [] ?_ | refine mxq4 [] ?_ | refine mxq3 [] ?_ | refine mxq2 [] ?_ | refine mxq1 [] ?_ | refine mxq0 [] ?_ | fail); (simp only [go_sem, e1, e1', e2, int_bne])) | (first | refine cdq ?_ (hc := hig) | refine cmq ?_ (hc := hig) | refine ctq ?_ (hc := hig)); (simp only [go_sem]) | (first | refine cdq ?_ (hc := sInj0 _ rfl) | refine cmq ?_ (hc := sInj0 _ rfl) | refine ctq ?_ (hc := sInj0 _ rfl)); (simp only [go_sem]) | fail)
          all_goals (refine hR _ ?_; refine rat [] (hK := ⟨rfl, rfl⟩))
    · simp only [srS, SR.tm, SR.code, SR.lab]
      have ht : t = .any := by
        revert e2; cases t <;> simp [T.ty, Ty.kind]
      subst ht
      have e1' : (s.ty.kind == (1 : Int)) = false := e1
      simp only [E.tm, T.ty] at e1 c1 c2 ⊢
      refine fn_in ?_; refine acl_in Tryz.func150 rfl isfn_150 (Nat.le_of_ble_eq_true rfl) (fun R hR => ?_); rw [Tryz.results150] at hR; refine wg_run ?_; (simp only [Tryz.f150, go_sem, e1, e1', e2])
      repeat' (first | (first | (simp only [go_sem, e1, e1', e2, int_bne]) | (((first | apply sp1 | apply sp2 | apply sp3 | apply sp4 | apply sp5 | apply sp6 | apply sp7) <;> intro hb) <;> (simp only [go_sem, hb, e1, e1', e2, int_bne])) | ((first | apply wm_done | apply wt_done | apply wg_run | refine fk ?_ ?_) <;> (simp only [go_sem, e1, e1', e2, int_bne]))) | (first | (refine tr (.op 0 false (.op 1 false (.op 2 false (.op 3 false (.op 4 false (.op 5 false .nil)))))) [1] follows ?_; (simp only [go_sem, e1, e1', e2, int_bne])) | fail) | ((first | refine mxq6 [] ?_ | refine mxq5 [] ?_ | refine mxq4 [] ?_ | refine mxq3 [] ?_ | refine mxq2 [] ?_ | refine mxq1 [] ?_ | refine mxq0 [] ?_ | fail); (simp only [go_sem, e1, e1', e2, int_bne])) | (first | refine cdq ?_ (hc := gs) | refine cmq ?_ (hc := gs) | refine ctq ?_ (hc := gs)); (simp only [go_sem]) | (first | refine cdq ?_ (hc := c1) | refine cmq ?_ (hc := c1) | refine ctq ?_ (hc := c1)); (simp only [go_sem]) | (first | refine cdq ?_ (hc := c2) | refine cmq ?_ (hc := c2) | refine ctq ?_ (hc := c2)); (simp only [go_sem]) | fail)
      all_goals (refine hR _ ?_; refine rat [] (hK := ⟨rfl, rfl⟩))
  · simp only [srS, SR.tm, SR.code, SR.lab]
    simp only [E.tm]
    refine fn_in ?_; refine acl_in Tryz.func150 rfl isfn_150 (Nat.le_of_ble_eq_true rfl) (fun R hR => ?_); rw [Tryz.results150] at hR; refine wg_run ?_; (simp only [Tryz.f150, go_sem, e1])
    repeat' (first | (first | (simp only [go_sem, e1, int_bne]) | (((first | apply sp1 | apply sp2 | apply sp3 | apply sp4 | apply sp5 | apply sp6 | apply sp7) <;> intro hb) <;> (simp only [go_sem, hb, e1, int_bne])) | ((first | apply wm_done | apply wt_done | apply wg_run | refine fk ?_ ?_) <;> (simp only [go_sem, e1, int_bne]))) | (first | (refine tr (.op 0 false (.op 1 false (.op 2 false (.op 3 false (.op 4 false (.op 5 false .nil)))))) [1] follows ?_; (simp only [go_sem, e1, int_bne])) | fail) | ((first | refine mxq6 [] ?_ | refine mxq5 [] ?_ | refine mxq4 [] ?_ | refine mxq3 [] ?_ | refine mxq2 [] ?_ | refine mxq1 [] ?_ | refine mxq0 [] ?_ | fail); (simp only [go_sem, e1, int_bne])) | fail)
    all_goals (refine hR _ ?_; refine rat [] (hK := ⟨rfl, rfl⟩))
theorem sNode (k : Int) (ks : List Tm) : AFn Tryz.prog 169 [.one (.sc (.int .i64 k)), .one (.sl (teR ks))] (.agg (teC (nd k ks))) := by
  refine fn_in ?_; refine acl_in Tryz.func169 rfl isfn_169 (Nat.le_of_ble_eq_true rfl) (fun R hR => ?_); rw [Tryz.results169] at hR; refine wg_run ?_; (simp only [Tryz.f169, go_sem])
  repeat' (first | (first | (((first | apply sp1 | apply sp2 | apply sp3 | apply sp4 | apply sp5 | apply sp6 | apply sp7) <;> intro hb) <;> (simp only [go_sem, hb])) | ((first | apply wm_done | apply wt_done | apply wg_run | refine fk ?_ ?_) <;> (simp only [go_sem]))) | ((first | refine mxq6 [] ?_ | refine mxq5 [] ?_ | refine mxq4 [] ?_ | refine mxq3 [] ?_ | refine mxq2 [] ?_ | refine mxq1 [] ?_ | refine mxq0 [] ?_ | fail); (simp only [go_sem])) | fail)
  all_goals (refine hR _ ?_; refine rat [] (hK := ⟨rfl, rfl⟩))
theorem sApply (a b : E) (ha : a.wf = true) (hb : b.wf = true) (hz : a.tm.size < 100000000) (hz2 : b.tm.size < 100000000) : AFn Tryz.prog 147 [.agg (teC a.tm), .agg (teC b.tm)] (srS (ruleApp a b)) := by
  cases a with
  | lam x t c =>
    simp only [E.wf, Bool.and_eq_true, decide_eq_true_eq] at ha
    simp only [E.tm, Tm.size, Tm.sizes] at hz
    have hs := sSubst x b hz2 c ha.2.2 (by omega)
    simp only [ruleApp, srS, SR.tm, SR.code, SR.lab]
    simp only [E.tm]
    refine fn_in ?_; refine acl_in Tryz.func147 rfl isfn_147 (Nat.le_of_ble_eq_true rfl) (fun R hR => ?_); rw [Tryz.results147] at hR; refine wg_run ?_; (simp only [Tryz.f147, go_sem])
    repeat' (first | (first | (((first | apply sp1 | apply sp2 | apply sp3 | apply sp4 | apply sp5 | apply sp6 | apply sp7) <;> intro hb) <;> (simp only [go_sem, hb])) | ((first | apply wm_done | apply wt_done | apply wg_run | refine fk ?_ ?_) <;> (simp only [go_sem]))) | (first | refine cdq ?_ (hc := hs) | refine cmq ?_ (hc := hs) | refine ctq ?_ (hc := hs)); (simp only [go_sem]) | (first | (refine tr (.op 0 false (.op 1 false (.op 2 false (.op 3 false (.op 4 false (.op 5 false (.op 6 false (.op 7 false (.op 8 false (.op 9 false (.op 10 false (.op 11 false (.op 12 false (.op 13 false (.fork 14 true (.op 15 false (.op 16 true .nil)) (.op 15 false (.op 14 true (.op 16 true .nil)))))))))))))))))) [] follows ?_; (simp only [go_sem])) | (refine tr (.op 0 false (.op 1 false (.op 2 false (.op 3 false (.op 4 false (.fork 5 true (.fork 6 true (.op 7 false (.op 8 true .nil)) (.op 7 false (.op 6 true (.op 8 true .nil)))) (.op 7 false (.op 5 true (.op 6 true (.op 8 true .nil)))))))))) [] follows ?_; (simp only [go_sem])) | fail) | ((first | refine mxq6 [] ?_ | refine mxq5 [] ?_ | refine mxq4 [] ?_ | refine mxq3 [] ?_ | refine mxq2 [] ?_ | refine mxq1 [] ?_ | refine mxq0 [] ?_ | fail); (simp only [go_sem])) | fail)
    all_goals (refine hR _ ?_; refine rat [] (hK := ⟨rfl, rfl⟩))
  | cast s t l f =>
    simp only [E.wf, Bool.and_eq_true, decide_eq_true_eq] at ha
    have hp := sProxy (E.cast s t l f).tm
    simp only [E.tm, Tm.kind, Tm.type, Tm.frm] at hp
    rw [proxyB_T] at hp
    have hn := fun ks => sNode 6 ks
    have hw : IntKind.i64.wrap (0 - l) = -l := by have := lab_bd2 ha.2.2.1; rw [IntWalk.i64_in _ (by omega)]; omega
    have hd1 := ha.1.1
    have hd2 := ha.1.2
    cases s <;> cases t <;> simp only [proxyT, T.isFn, T.isPr, Bool.false_and, Bool.and_false, Bool.and_true, Bool.true_and, Bool.or_false, Bool.or_true, Bool.or_self] at hp
    case fn.fn s1 s2 t1 t2 =>
      simp only [T.depth] at hd1 hd2
      have c1 := sCast5 b.tm t1.ty s1.ty (-l) (T.ty_small (by omega)) (T.ty_small (by omega))
      have c2 := sCast5 (nd 6 [f.tm, .mk 14 ByteArray.empty 0 s1.ty t1.ty (-l) [b.tm]]) s2.ty t2.ty l (T.ty_small (by omega)) (T.ty_small (by omega))
      simp only [ruleApp, srS, SR.tm, SR.code, SR.lab]
      simp only [E.tm, nd, T.ty] at hp c2 ⊢
      refine fn_in ?_; refine acl_in Tryz.func147 rfl isfn_147 (Nat.le_of_ble_eq_true rfl) (fun R hR => ?_); rw [Tryz.results147] at hR; refine wg_run ?_; (simp only [Tryz.f147, go_sem, hw])
      repeat' (first | (first | (simp only [go_sem, hw, int_bne]) | (((first | apply sp1 | apply sp2 | apply sp3 | apply sp4 | apply sp5 | apply sp6 | apply sp7) <;> intro hb) <;> (simp only [go_sem, hb, hw, int_bne])) | ((first | apply wm_done | apply wt_done | apply wg_run | refine fk ?_ ?_) <;> (simp only [go_sem, hw, int_bne]))) | (first | (refine tr (.op 0 false (.op 1 false (.op 2 false (.op 3 false (.op 4 false (.op 5 false (.op 6 false (.op 7 false (.op 8 false (.op 9 false (.op 10 false (.op 11 false (.op 12 false (.op 13 false (.fork 14 true (.op 15 false (.op 16 true .nil)) (.op 15 false (.op 14 true (.op 16 true .nil)))))))))))))))))) [] follows ?_; (simp only [go_sem, hw, int_bne])) | (refine tr (.op 0 false (.op 1 false (.op 2 false (.op 3 false (.op 4 false (.fork 5 true (.fork 6 true (.op 7 false (.op 8 true .nil)) (.op 7 false (.op 6 true (.op 8 true .nil)))) (.op 7 false (.op 5 true (.op 6 true (.op 8 true .nil)))))))))) [] follows ?_; (simp only [go_sem, hw, int_bne])) | fail) | ((first | refine mxq6 [] ?_ | refine mxq5 [] ?_ | refine mxq4 [] ?_ | refine mxq3 [] ?_ | refine mxq2 [] ?_ | refine mxq1 [] ?_ | refine mxq0 [] ?_ | fail); (simp only [go_sem, hw, int_bne])) | (first | refine cdq ?_ (hc := hp) | refine cmq ?_ (hc := hp) | refine ctq ?_ (hc := hp)); (simp only [go_sem]) | (first | refine cdq ?_ (hc := c1) | refine cmq ?_ (hc := c1) | refine ctq ?_ (hc := c1)); (simp only [go_sem]) | (first | refine cdq ?_ (hc := c2) | refine cmq ?_ (hc := c2) | refine ctq ?_ (hc := c2)); (simp only [go_sem]) | (first | refine cdq ?_ (hc := hn [_, _]) | refine cmq ?_ (hc := hn [_, _]) | refine ctq ?_ (hc := hn [_, _])); (simp only [go_sem]) | fail)
      all_goals (refine hR _ ?_; refine rat [] (hK := ⟨rfl, rfl⟩))
    all_goals
      simp only [ruleApp, srS, SR.tm, SR.code, SR.lab]
      simp only [E.tm, nd, T.ty] at hp ⊢
      refine fn_in ?_; refine acl_in Tryz.func147 rfl isfn_147 (Nat.le_of_ble_eq_true rfl) (fun R hR => ?_); rw [Tryz.results147] at hR; refine wg_run ?_; (simp only [Tryz.f147, go_sem, hw])
      repeat' (first | (first | (simp only [go_sem, hw, int_bne]) | (((first | apply sp1 | apply sp2 | apply sp3 | apply sp4 | apply sp5 | apply sp6 | apply sp7) <;> intro hb) <;> (simp only [go_sem, hb, hw, int_bne])) | ((first | apply wm_done | apply wt_done | apply wg_run | refine fk ?_ ?_) <;> (simp only [go_sem, hw, int_bne]))) | (first | (refine tr (.op 0 false (.op 1 false (.op 2 false (.op 3 false (.op 4 false (.op 5 false (.op 6 false (.op 7 false (.op 8 false (.op 9 false (.op 10 false (.op 11 false (.op 12 false (.op 13 false (.fork 14 true (.op 15 false (.op 16 true .nil)) (.op 15 false (.op 14 true (.op 16 true .nil)))))))))))))))))) [] follows ?_; (simp only [go_sem, hw, int_bne])) | (refine tr (.op 0 false (.op 1 false (.op 2 false (.op 3 false (.op 4 false (.fork 5 true (.fork 6 true (.op 7 false (.op 8 true .nil)) (.op 7 false (.op 6 true (.op 8 true .nil)))) (.op 7 false (.op 5 true (.op 6 true (.op 8 true .nil)))))))))) [] follows ?_; (simp only [go_sem, hw, int_bne])) | fail) | ((first | refine mxq6 [] ?_ | refine mxq5 [] ?_ | refine mxq4 [] ?_ | refine mxq3 [] ?_ | refine mxq2 [] ?_ | refine mxq1 [] ?_ | refine mxq0 [] ?_ | fail); (simp only [go_sem, hw, int_bne])) | (first | refine cdq ?_ (hc := hp) | refine cmq ?_ (hc := hp) | refine ctq ?_ (hc := hp)); (simp only [go_sem]) | fail)
      all_goals (refine hR _ ?_; refine rat [] (hK := ⟨rfl, rfl⟩))
  | _ =>
    simp only [ruleApp, srS, SR.tm, SR.code, SR.lab]
    simp only [E.tm, nd]
    refine fn_in ?_; refine acl_in Tryz.func147 rfl isfn_147 (Nat.le_of_ble_eq_true rfl) (fun R hR => ?_); rw [Tryz.results147] at hR; refine wg_run ?_; (simp only [Tryz.f147, go_sem])
    repeat' (first | (first | (simp only [go_sem, int_bne]) | (((first | apply sp1 | apply sp2 | apply sp3 | apply sp4 | apply sp5 | apply sp6 | apply sp7) <;> intro hb) <;> (simp only [go_sem, hb, int_bne])) | ((first | apply wm_done | apply wt_done | apply wg_run | refine fk ?_ ?_) <;> (simp only [go_sem, int_bne]))) | (first | (refine tr (.op 0 false (.op 1 false (.op 2 false (.op 3 false (.op 4 false (.op 5 false (.op 6 false (.op 7 false (.op 8 false (.op 9 false (.op 10 false (.op 11 false (.op 12 false (.op 13 false (.fork 14 true (.op 15 false (.op 16 true .nil)) (.op 15 false (.op 14 true (.op 16 true .nil)))))))))))))))))) [] follows ?_; (simp only [go_sem, int_bne])) | (refine tr (.op 0 false (.op 1 false (.op 2 false (.op 3 false (.op 4 false (.fork 5 true (.fork 6 true (.op 7 false (.op 8 true .nil)) (.op 7 false (.op 6 true (.op 8 true .nil)))) (.op 7 false (.op 5 true (.op 6 true (.op 8 true .nil)))))))))) [] follows ?_; (simp only [go_sem, int_bne])) | fail) | ((first | refine mxq6 [] ?_ | refine mxq5 [] ?_ | refine mxq4 [] ?_ | refine mxq3 [] ?_ | refine mxq2 [] ?_ | refine mxq1 [] ?_ | refine mxq0 [] ?_ | fail); (simp only [go_sem, int_bne])) | (first | refine cdq ?_ (hc := sProxy0 _ rfl) | refine cmq ?_ (hc := sProxy0 _ rfl) | refine ctq ?_ (hc := sProxy0 _ rfl)); (simp only [go_sem]) | fail)
    all_goals (refine hR _ ?_; refine rat [] (hK := ⟨rfl, rfl⟩))
theorem sPart (a : E) (ha : a.wf = true) (fs : Bool) : AFn Tryz.prog 149 [.one (.sc (.int .i64 (match fs with | true => 11 | false => 12))), .agg (teC a.tm)] (srS (match fs with | true => ruleFst a | false => ruleSnd a)) := by
  cases a with
  | cast s t l f =>
    simp only [E.wf, Bool.and_eq_true, decide_eq_true_eq] at ha
    have hp := sProxy (E.cast s t l f).tm
    simp only [E.tm, Tm.kind, Tm.type, Tm.frm] at hp
    rw [proxyB_T] at hp
    have hn := fun k ks => sNode k ks
    have hd1 := ha.1.1
    have hd2 := ha.1.2
    cases s <;> cases t <;> simp only [proxyT, T.isFn, T.isPr, Bool.false_and, Bool.and_false, Bool.and_true, Bool.true_and, Bool.or_false, Bool.or_true, Bool.or_self] at hp
    case pr.pr s1 s2 t1 t2 =>
      simp only [T.depth] at hd1 hd2
      have c1 := fun k => sCast5 (nd k [f.tm]) s1.ty t1.ty l (T.ty_small (by omega)) (T.ty_small (by omega))
      have c2 := fun k => sCast5 (nd k [f.tm]) s2.ty t2.ty l (T.ty_small (by omega)) (T.ty_small (by omega))
      cases fs
      all_goals
        simp only [ruleFst, ruleSnd, srS, SR.tm, SR.code, SR.lab]
        simp only [E.tm, nd, T.ty] at hp c1 c2 ⊢
        refine fn_in ?_; refine acl_in Tryz.func149 rfl isfn_149 (Nat.le_of_ble_eq_true rfl) (fun R hR => ?_); rw [Tryz.results149] at hR; refine wg_run ?_; (simp only [Tryz.f149, go_sem])
        repeat' (first | (first | (simp only [go_sem, int_bne]) | (((first | apply sp1 | apply sp2 | apply sp3 | apply sp4 | apply sp5 | apply sp6 | apply sp7) <;> intro hb) <;> (simp only [go_sem, hb, int_bne])) | ((first | apply wm_done | apply wt_done | apply wg_run | refine fk ?_ ?_) <;> (simp only [go_sem, int_bne]))) | ((first | refine mxq6 [] ?_ | refine mxq5 [] ?_ | refine mxq4 [] ?_ | refine mxq3 [] ?_ | refine mxq2 [] ?_ | refine mxq1 [] ?_ | refine mxq0 [] ?_ | fail); (simp only [go_sem, int_bne])) | (first | refine cdq ?_ (hc := hp) | refine cmq ?_ (hc := hp) | refine ctq ?_ (hc := hp)); (simp only [go_sem]) | (first | refine cdq ?_ (hc := c1 _) | refine cmq ?_ (hc := c1 _) | refine ctq ?_ (hc := c1 _)); (simp only [go_sem]) | (first | refine cdq ?_ (hc := c2 _) | refine cmq ?_ (hc := c2 _) | refine ctq ?_ (hc := c2 _)); (simp only [go_sem]) | (first | refine cdq ?_ (hc := hn _ [_]) | refine cmq ?_ (hc := hn _ [_]) | refine ctq ?_ (hc := hn _ [_])); (simp only [go_sem]) | fail)
        all_goals (refine hR _ ?_; refine rat [] (hK := ⟨rfl, rfl⟩))
    all_goals
      cases fs
      all_goals
        simp only [ruleFst, ruleSnd, srS, SR.tm, SR.code, SR.lab]
        simp only [E.tm, nd, T.ty] at hp ⊢
        refine fn_in ?_; refine acl_in Tryz.func149 rfl isfn_149 (Nat.le_of_ble_eq_true rfl) (fun R hR => ?_); rw [Tryz.results149] at hR; refine wg_run ?_; (simp only [Tryz.f149, go_sem])
        repeat' (first | (first | (simp only [go_sem, int_bne]) | (((first | apply sp1 | apply sp2 | apply sp3 | apply sp4 | apply sp5 | apply sp6 | apply sp7) <;> intro hb) <;> (simp only [go_sem, hb, int_bne])) | ((first | apply wm_done | apply wt_done | apply wg_run | refine fk ?_ ?_) <;> (simp only [go_sem, int_bne]))) | ((first | refine mxq6 [] ?_ | refine mxq5 [] ?_ | refine mxq4 [] ?_ | refine mxq3 [] ?_ | refine mxq2 [] ?_ | refine mxq1 [] ?_ | refine mxq0 [] ?_ | fail); (simp only [go_sem, int_bne])) | (first | refine cdq ?_ (hc := hp) | refine cmq ?_ (hc := hp) | refine ctq ?_ (hc := hp)); (simp only [go_sem]) | fail)
        all_goals (refine hR _ ?_; refine rat [] (hK := ⟨rfl, rfl⟩))
  | _ =>
    cases fs
    all_goals
      simp only [ruleFst, ruleSnd, srS, SR.tm, SR.code, SR.lab]
      simp only [E.tm, nd]
      refine fn_in ?_; refine acl_in Tryz.func149 rfl isfn_149 (Nat.le_of_ble_eq_true rfl) (fun R hR => ?_); rw [Tryz.results149] at hR; refine wg_run ?_; (simp only [Tryz.f149, go_sem])
      repeat' (first | (first | (simp only [go_sem, int_bne]) | (((first | apply sp1 | apply sp2 | apply sp3 | apply sp4 | apply sp5 | apply sp6 | apply sp7) <;> intro hb) <;> (simp only [go_sem, hb, int_bne])) | ((first | apply wm_done | apply wt_done | apply wg_run | refine fk ?_ ?_) <;> (simp only [go_sem, int_bne]))) | ((first | refine mxq6 [] ?_ | refine mxq5 [] ?_ | refine mxq4 [] ?_ | refine mxq3 [] ?_ | refine mxq2 [] ?_ | refine mxq1 [] ?_ | refine mxq0 [] ?_ | fail); (simp only [go_sem, int_bne])) | (first | refine cdq ?_ (hc := sProxy0 _ rfl) | refine cmq ?_ (hc := sProxy0 _ rfl) | refine ctq ?_ (hc := sProxy0 _ rfl)); (simp only [go_sem]) | fail)
      all_goals (refine hR _ ?_; refine rat [] (hK := ⟨rfl, rfl⟩))
theorem sBool5 (b : Bool) : AFn Tryz.prog 180 [.one (.sc (.bool b))] (.agg (teC (match b with | true => E.tru | false => E.fls).tm)) := by
  cases b
  all_goals
    simp only [E.tm, nd]
    refine fn_in ?_; refine acl_in Tryz.func180 rfl isfn_180 (Nat.le_of_ble_eq_true rfl) (fun R hR => ?_); rw [Tryz.results180] at hR; refine wg_run ?_; (simp only [Tryz.f180, go_sem])
    repeat' (first | (first | (((first | apply sp1 | apply sp2 | apply sp3 | apply sp4 | apply sp5 | apply sp6 | apply sp7) <;> intro hb) <;> (simp only [go_sem, hb])) | ((first | apply wm_done | apply wt_done | apply wg_run | refine fk ?_ ?_) <;> (simp only [go_sem]))) | fail)
    all_goals (refine hR _ ?_; refine rat [] (hK := ⟨rfl, rfl⟩))
theorem sNum2 (n : Int) : AFn Tryz.prog 83 [.one (.sc (.int .i64 n))] (.agg (teC (E.num n).tm)) := by
  simp only [E.tm]
  refine fn_in ?_; refine acl_in Tryz.func83 rfl isfn_83 (Nat.le_of_ble_eq_true rfl) (fun R hR => ?_); rw [Tryz.results83] at hR; refine wg_run ?_; (simp only [Tryz.f83, go_sem])
  repeat' (first | (first | (((first | apply sp1 | apply sp2 | apply sp3 | apply sp4 | apply sp5 | apply sp6 | apply sp7) <;> intro hb) <;> (simp only [go_sem, hb])) | ((first | apply wm_done | apply wt_done | apply wg_run | refine fk ?_ ?_) <;> (simp only [go_sem]))) | fail)
  all_goals (refine hR _ ?_; refine rat [] (hK := ⟨rfl, rfl⟩))
theorem sNumber (a b : E) (ha : a.wf = true) (hb : b.wf = true) (ad : Bool) : AFn Tryz.prog 148 [.one (.sc (.int .i64 (match ad with | true => 7 | false => 8))), .agg (teC a.tm), .agg (teC b.tm)] (srS (match ad with | true => ruleAdd a b | false => ruleLess a b)) := by
  cases a with
  | num n =>
    cases b with
    | num m =>
      simp only [E.wf, Bool.and_eq_true, decide_eq_true_eq] at ha hb
      have hw : IntKind.i64.wrap (n + m) = n + m := IntWalk.i64_in _ (by omega)
      have hn := sNum2 ((n + m).tmod 1000)
      have ht := sBool5 (decide (n < m))
      cases ad
      · simp only [ruleLess]
        cases hd : decide (n < m)
        all_goals
          rw [hd] at ht
          simp only [srS, SR.tm, SR.code, SR.lab]
          simp only [E.tm, nd] at ht ⊢
          refine fn_in ?_; refine acl_in Tryz.func148 rfl isfn_148 (Nat.le_of_ble_eq_true rfl) (fun R hR => ?_); rw [Tryz.results148] at hR; refine wg_run ?_; (simp only [Tryz.f148, go_sem, hd])
          repeat' (first | (first | (simp only [go_sem, hd, int_bne]) | (((first | apply sp1 | apply sp2 | apply sp3 | apply sp4 | apply sp5 | apply sp6 | apply sp7) <;> intro hb) <;> (simp only [go_sem, hb, hd, int_bne])) | ((first | apply wm_done | apply wt_done | apply wg_run | refine fk ?_ ?_) <;> (simp only [go_sem, hd, int_bne]))) | ((first | refine mxq6 [] ?_ | refine mxq5 [] ?_ | refine mxq4 [] ?_ | refine mxq3 [] ?_ | refine mxq2 [] ?_ | refine mxq1 [] ?_ | refine mxq0 [] ?_ | fail); (simp only [go_sem, hd, int_bne])) | (first | refine cdq ?_ (hc := ht) | refine cmq ?_ (hc := ht) | refine ctq ?_ (hc := ht)); (simp only [go_sem]) | fail)
          all_goals (refine hR _ ?_; refine rat [] (hK := ⟨rfl, rfl⟩))
      · simp only [ruleAdd, srS, SR.tm, SR.code, SR.lab]
        simp only [E.tm, nd] at hn ⊢
        refine fn_in ?_; refine acl_in Tryz.func148 rfl isfn_148 (Nat.le_of_ble_eq_true rfl) (fun R hR => ?_); rw [Tryz.results148] at hR; refine wg_run ?_; (simp only [Tryz.f148, go_sem, hw])
        repeat' (first | (first | (simp only [go_sem, hw, int_bne]) | (((first | apply sp1 | apply sp2 | apply sp3 | apply sp4 | apply sp5 | apply sp6 | apply sp7) <;> intro hb) <;> (simp only [go_sem, hb, hw, int_bne])) | ((first | apply wm_done | apply wt_done | apply wg_run | refine fk ?_ ?_) <;> (simp only [go_sem, hw, int_bne]))) | ((first | refine mxq6 [] ?_ | refine mxq5 [] ?_ | refine mxq4 [] ?_ | refine mxq3 [] ?_ | refine mxq2 [] ?_ | refine mxq1 [] ?_ | refine mxq0 [] ?_ | fail); (simp only [go_sem, hw, int_bne])) | (first | refine cdq ?_ (hc := hn) | refine cmq ?_ (hc := hn) | refine ctq ?_ (hc := hn)); (simp only [go_sem]) | fail)
        all_goals (refine hR _ ?_; refine rat [] (hK := ⟨rfl, rfl⟩))
    | _ =>
      cases ad
      all_goals
        simp only [ruleAdd, ruleLess, srS, SR.tm, SR.code, SR.lab]
        simp only [E.tm, nd]
        refine fn_in ?_; refine acl_in Tryz.func148 rfl isfn_148 (Nat.le_of_ble_eq_true rfl) (fun R hR => ?_); rw [Tryz.results148] at hR; refine wg_run ?_; (simp only [Tryz.f148, go_sem])
        repeat' (first | (first | (simp only [go_sem, int_bne]) | (((first | apply sp1 | apply sp2 | apply sp3 | apply sp4 | apply sp5 | apply sp6 | apply sp7) <;> intro hb) <;> (simp only [go_sem, hb, int_bne])) | ((first | apply wm_done | apply wt_done | apply wg_run | refine fk ?_ ?_) <;> (simp only [go_sem, int_bne]))) | ((first | refine mxq6 [] ?_ | refine mxq5 [] ?_ | refine mxq4 [] ?_ | refine mxq3 [] ?_ | refine mxq2 [] ?_ | refine mxq1 [] ?_ | refine mxq0 [] ?_ | fail); (simp only [go_sem, int_bne])) | fail)
        all_goals (refine hR _ ?_; refine rat [] (hK := ⟨rfl, rfl⟩))
  | _ =>
    cases ad
    all_goals
      simp only [ruleAdd, ruleLess, srS, SR.tm, SR.code, SR.lab]
      simp only [E.tm, nd]
      refine fn_in ?_; refine acl_in Tryz.func148 rfl isfn_148 (Nat.le_of_ble_eq_true rfl) (fun R hR => ?_); rw [Tryz.results148] at hR; refine wg_run ?_; (simp only [Tryz.f148, go_sem])
      repeat' (first | (first | (simp only [go_sem, int_bne]) | (((first | apply sp1 | apply sp2 | apply sp3 | apply sp4 | apply sp5 | apply sp6 | apply sp7) <;> intro hb) <;> (simp only [go_sem, hb, int_bne])) | ((first | apply wm_done | apply wt_done | apply wg_run | refine fk ?_ ?_) <;> (simp only [go_sem, int_bne]))) | ((first | refine mxq6 [] ?_ | refine mxq5 [] ?_ | refine mxq4 [] ?_ | refine mxq3 [] ?_ | refine mxq2 [] ?_ | refine mxq1 [] ?_ | refine mxq0 [] ?_ | fail); (simp only [go_sem, int_bne])) | fail)
      all_goals (refine hR _ ?_; refine rat [] (hK := ⟨rfl, rfl⟩))
theorem sReduce (e : E) (h : e.wf = true) (hz : e.tm.size < 100000000) (hi : (e.tm.kind == 9) = false) : AFn Tryz.prog 105 [.agg (teC e.tm)] (srS e.red) := by
  cases e with
  | app a b =>
    rw [red_app]
    simp only [E.wf, Bool.and_eq_true] at h
    simp only [E.tm, nd, Tm.size, Tm.sizes] at hz
    have h1 := sApply a b h.1 h.2 (by omega) (by omega)
    simp only [E.tm, nd]
    unfold srS at h1 ⊢
    refine fn_in ?_; refine acl_in Tryz.func105 rfl isfn_105 (Nat.le_of_ble_eq_true rfl) (fun R hR => ?_); rw [Tryz.results105] at hR; refine wg_run ?_; (simp only [Tryz.f105, go_sem])
    repeat' (first | (first | (simp only [go_sem, int_bne]) | (((first | apply sp1 | apply sp2 | apply sp3 | apply sp4 | apply sp5 | apply sp6 | apply sp7) <;> intro hb) <;> (simp only [go_sem, hb, int_bne])) | ((first | apply wm_done | apply wt_done | apply wg_run | refine fk ?_ ?_) <;> (simp only [go_sem, int_bne]))) | ((first | refine mxq6 [] ?_ | refine mxq5 [] ?_ | refine mxq4 [] ?_ | refine mxq3 [] ?_ | refine mxq2 [] ?_ | refine mxq1 [] ?_ | refine mxq0 [] ?_ | fail); (simp only [go_sem, int_bne])) | (first | refine cdq ?_ (hc := h1) | refine cmq ?_ (hc := h1) | refine ctq ?_ (hc := h1)); (simp only [go_sem]) | fail)
    all_goals (refine hR _ ?_; refine rat [] (hK := ⟨rfl, rfl⟩))
  | add a b =>
    rw [red_add]
    simp only [E.wf, Bool.and_eq_true] at h
    have h1 := sNumber a b h.1 h.2 true
    simp only [E.tm, nd]
    unfold srS at h1 ⊢
    refine fn_in ?_; refine acl_in Tryz.func105 rfl isfn_105 (Nat.le_of_ble_eq_true rfl) (fun R hR => ?_); rw [Tryz.results105] at hR; refine wg_run ?_; (simp only [Tryz.f105, go_sem])
    repeat' (first | (first | (simp only [go_sem, int_bne]) | (((first | apply sp1 | apply sp2 | apply sp3 | apply sp4 | apply sp5 | apply sp6 | apply sp7) <;> intro hb) <;> (simp only [go_sem, hb, int_bne])) | ((first | apply wm_done | apply wt_done | apply wg_run | refine fk ?_ ?_) <;> (simp only [go_sem, int_bne]))) | ((first | refine mxq6 [] ?_ | refine mxq5 [] ?_ | refine mxq4 [] ?_ | refine mxq3 [] ?_ | refine mxq2 [] ?_ | refine mxq1 [] ?_ | refine mxq0 [] ?_ | fail); (simp only [go_sem, int_bne])) | (first | refine cdq ?_ (hc := h1) | refine cmq ?_ (hc := h1) | refine ctq ?_ (hc := h1)); (simp only [go_sem]) | fail)
    all_goals (refine hR _ ?_; refine rat [] (hK := ⟨rfl, rfl⟩))
  | less a b =>
    rw [red_less]
    simp only [E.wf, Bool.and_eq_true] at h
    have h1 := sNumber a b h.1 h.2 false
    simp only [E.tm, nd]
    unfold srS at h1 ⊢
    refine fn_in ?_; refine acl_in Tryz.func105 rfl isfn_105 (Nat.le_of_ble_eq_true rfl) (fun R hR => ?_); rw [Tryz.results105] at hR; refine wg_run ?_; (simp only [Tryz.f105, go_sem])
    repeat' (first | (first | (simp only [go_sem, int_bne]) | (((first | apply sp1 | apply sp2 | apply sp3 | apply sp4 | apply sp5 | apply sp6 | apply sp7) <;> intro hb) <;> (simp only [go_sem, hb, int_bne])) | ((first | apply wm_done | apply wt_done | apply wg_run | refine fk ?_ ?_) <;> (simp only [go_sem, int_bne]))) | ((first | refine mxq6 [] ?_ | refine mxq5 [] ?_ | refine mxq4 [] ?_ | refine mxq3 [] ?_ | refine mxq2 [] ?_ | refine mxq1 [] ?_ | refine mxq0 [] ?_ | fail); (simp only [go_sem, int_bne])) | (first | refine cdq ?_ (hc := h1) | refine cmq ?_ (hc := h1) | refine ctq ?_ (hc := h1)); (simp only [go_sem]) | fail)
    all_goals (refine hR _ ?_; refine rat [] (hK := ⟨rfl, rfl⟩))
  | fst a =>
    rw [red_fst]
    simp only [E.wf] at h
    have h1 := sPart a h true
    simp only [E.tm, nd]
    unfold srS at h1 ⊢
    refine fn_in ?_; refine acl_in Tryz.func105 rfl isfn_105 (Nat.le_of_ble_eq_true rfl) (fun R hR => ?_); rw [Tryz.results105] at hR; refine wg_run ?_; (simp only [Tryz.f105, go_sem])
    repeat' (first | (first | (simp only [go_sem, int_bne]) | (((first | apply sp1 | apply sp2 | apply sp3 | apply sp4 | apply sp5 | apply sp6 | apply sp7) <;> intro hb) <;> (simp only [go_sem, hb, int_bne])) | ((first | apply wm_done | apply wt_done | apply wg_run | refine fk ?_ ?_) <;> (simp only [go_sem, int_bne]))) | ((first | refine mxq6 [] ?_ | refine mxq5 [] ?_ | refine mxq4 [] ?_ | refine mxq3 [] ?_ | refine mxq2 [] ?_ | refine mxq1 [] ?_ | refine mxq0 [] ?_ | fail); (simp only [go_sem, int_bne])) | (first | refine cdq ?_ (hc := h1) | refine cmq ?_ (hc := h1) | refine ctq ?_ (hc := h1)); (simp only [go_sem]) | fail)
    all_goals (refine hR _ ?_; refine rat [] (hK := ⟨rfl, rfl⟩))
  | snd a =>
    rw [red_snd]
    simp only [E.wf] at h
    have h1 := sPart a h false
    simp only [E.tm, nd]
    unfold srS at h1 ⊢
    refine fn_in ?_; refine acl_in Tryz.func105 rfl isfn_105 (Nat.le_of_ble_eq_true rfl) (fun R hR => ?_); rw [Tryz.results105] at hR; refine wg_run ?_; (simp only [Tryz.f105, go_sem])
    repeat' (first | (first | (simp only [go_sem, int_bne]) | (((first | apply sp1 | apply sp2 | apply sp3 | apply sp4 | apply sp5 | apply sp6 | apply sp7) <;> intro hb) <;> (simp only [go_sem, hb, int_bne])) | ((first | apply wm_done | apply wt_done | apply wg_run | refine fk ?_ ?_) <;> (simp only [go_sem, int_bne]))) | ((first | refine mxq6 [] ?_ | refine mxq5 [] ?_ | refine mxq4 [] ?_ | refine mxq3 [] ?_ | refine mxq2 [] ?_ | refine mxq1 [] ?_ | refine mxq0 [] ?_ | fail); (simp only [go_sem, int_bne])) | (first | refine cdq ?_ (hc := h1) | refine cmq ?_ (hc := h1) | refine ctq ?_ (hc := h1)); (simp only [go_sem]) | fail)
    all_goals (refine hR _ ?_; refine rat [] (hK := ⟨rfl, rfl⟩))
  | cast s t l a =>
    rw [red_cast]
    have h1 := sConvert s t l a h
    simp only [E.tm] at h1 ⊢
    unfold srS at h1 ⊢
    refine fn_in ?_; refine acl_in Tryz.func105 rfl isfn_105 (Nat.le_of_ble_eq_true rfl) (fun R hR => ?_); rw [Tryz.results105] at hR; refine wg_run ?_; (simp only [Tryz.f105, go_sem])
    repeat' (first | (first | (simp only [go_sem, int_bne]) | (((first | apply sp1 | apply sp2 | apply sp3 | apply sp4 | apply sp5 | apply sp6 | apply sp7) <;> intro hb) <;> (simp only [go_sem, hb, int_bne])) | ((first | apply wm_done | apply wt_done | apply wg_run | refine fk ?_ ?_) <;> (simp only [go_sem, int_bne]))) | ((first | refine mxq6 [] ?_ | refine mxq5 [] ?_ | refine mxq4 [] ?_ | refine mxq3 [] ?_ | refine mxq2 [] ?_ | refine mxq1 [] ?_ | refine mxq0 [] ?_ | fail); (simp only [go_sem, int_bne])) | (first | refine cdq ?_ (hc := h1) | refine cmq ?_ (hc := h1) | refine ctq ?_ (hc := h1)); (simp only [go_sem]) | fail)
    all_goals (refine hR _ ?_; refine rat [] (hK := ⟨rfl, rfl⟩))
  | ite a b c => simp [E.tm, nd, Tm.kind] at hi
  | _ =>
    simp only [E.red, E.ruleI, E.castR, srS, SR.tm, SR.code, SR.lab]
    simp only [E.tm, nd]
    refine fn_in ?_; refine acl_in Tryz.func105 rfl isfn_105 (Nat.le_of_ble_eq_true rfl) (fun R hR => ?_); rw [Tryz.results105] at hR; refine wg_run ?_; (simp only [Tryz.f105, go_sem])
    repeat' (first | (first | (simp only [go_sem, int_bne]) | (((first | apply sp1 | apply sp2 | apply sp3 | apply sp4 | apply sp5 | apply sp6 | apply sp7) <;> intro hb) <;> (simp only [go_sem, hb, int_bne])) | ((first | apply wm_done | apply wt_done | apply wg_run | refine fk ?_ ?_) <;> (simp only [go_sem, int_bne]))) | ((first | refine mxq6 [] ?_ | refine mxq5 [] ?_ | refine mxq4 [] ?_ | refine mxq3 [] ?_ | refine mxq2 [] ?_ | refine mxq1 [] ?_ | refine mxq0 [] ?_ | fail); (simp only [go_sem, int_bne])) | fail)
    all_goals (refine hR _ ?_; refine rat [] (hK := ⟨rfl, rfl⟩))
end Go.Proofs.YtjmicohbnpbemaaGreat
